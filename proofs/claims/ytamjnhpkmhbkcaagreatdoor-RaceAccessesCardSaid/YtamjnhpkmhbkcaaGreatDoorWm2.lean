/-
  PARTS, one behind the other: NFC NFD NG NH NI NJ NK NL NM.
-/
import Derived.Test.YtamjnhpkmhbkcaaGreatDoorWm1
import Derived.Lib.UnsafeStr
import Derived.Lib.Builder
import Derived.MapKept
import Derived.RangeFuncCalls
import Derived.Orders
/-
  PART: pointers seen as unsafe.Pointer; strings that share a row; maps.
-/
namespace Go.Proofs.YtamjnhpkmhbkcaaGreatDoor
open Go.RowKit

section
variable {P : Program} {o : Oper} {st st' : St} {a : AV}
theorem shape_blk {w : World} {b : Nat} {c : Array Value} {ty : TypeId} {fr : Nat × Nat} (h : blkW w b = some (.cells c ty fr)) : w.shape? b = some (ty, c.size) := by
  have h' : w.heap[b]? = some (.cells c ty fr) := h
  simp [World.shape?, h']
theorem ptrConv_ok {src dst : TypeId} {x : Operand} (ho : o.op = .convert src dst x) (hd : NoDefer o) (h : ptrConvA P src dst (st.val x) st = some (a, st')) : OpOk P o st a st' := by
  have hm : x ∈ o.op.operands := by rw [ho]; exact mem1
  have he : ∀ ρ : Operand → Value, execOp ρ o = (do pure (.value (← convert src dst (ρ x)))) := fun ρ => by unfold execOp; rw [ho]
  unfold ptrConvA at h
  split at h
  · rename_i y off hv
    split at h
    · rename_i ty cs hb
      split at h
      · rename_i t hsrc hdst
        split at h
        · rename_i j hj
          split at h
          · rename_i hz hlt
            cases h
            refine .quiet hd (.read st y) rfl rfl rfl fun FP E act w hcov hS hx => ?_
            obtain ⟨hd', hp⟩ := rep_ptr (hv ▸ hx x hm)
            obtain ⟨_, c, hc1, hc2, hc3⟩ := blk_fix hS (hcov y (.inl (mem_ins.2 (.inl rfl)))) hb
            have hlen : cs.length = c.size := by have := hc2.len; simpa using this
            have hj0 : j.size ≠ 0 := fun e => by rw [e] at hz; cases hz
            have hlt' : off < c.size := by rw [Nat.blt_eq] at hlt; omega
            refine ⟨_, ?_, .ptr hd'⟩
            rw [he, hp]
            simp [Lib.run_to_unsafe (P := P) w (⟨E.ρ y, off, none⟩ : Addr) hsrc hdst hj hj0 (shape_blk hc1) hlt']
          · cases h
        · cases h
      · rename_i u hsrc hdst
        split at h
        · rename_i j hj hl
          cases h
          refine .quiet hd (.read st y) rfl rfl rfl fun FP E act w hcov hS hx => ?_
          obtain ⟨hd', hp⟩ := rep_ptr (hv ▸ hx x hm)
          obtain ⟨_, c, hc1, hc2, hc3⟩ := blk_fix hS (hcov y (.inl (mem_ins.2 (.inl rfl)))) hb
          have hlen : cs.length = c.size := by have := hc2.len; simpa using this
          rw [hlen] at hl
          refine ⟨_, ?_, .ptr hd'⟩
          rw [he, hp]
          simp [Lib.run_from_unsafe (P := P) w (⟨E.ρ y, off, none⟩ : Addr) hsrc hdst hj (shape_blk hc1) hl]
        · cases h
      · cases h
    · cases h
  · cases h
/-! Strings that share a row. -/
theorem sliceData_ok {c : Call} (ho : o.op = .call c) (hc : c.callee = .builtin .unsafeSliceData) {x : AV} (hargs : c.args.toList.map st.val = [x]) (h : (sliceDataA x st).hit (a, st')) : OpOk P o st a st' := by
  have arg : ∀ {E : Env} {act : Act}, (∀ x, x ∈ o.op.operands → Rep E (st.val x) (act.eval x)) → ∃ v, c.args.map act.eval = #[v] ∧ Rep E x v := fun {E act} hx => by
    have hr := args_rep ho hx
    rw [hargs] at hr
    generalize hq : c.args.map act.eval = q at hr
    obtain ⟨l⟩ := q
    cases hr with | cons h t => cases t; exact ⟨_, rfl, h⟩
  have ex : ∀ (ρ : Operand → Value), execOp ρ o = (do pure (.value (← Builtin.unsafeSliceData_ c.argTypes o.type (c.args.map ρ)))) := fun ρ => by rw [exec_builtin ho hc]; rfl
  unfold sliceDataA at h
  split at h
  · rename_i v
    split at h
    · rename_i hn
      cases h
      refine quiet_of (nd_call ho) fun E act hx => ?_
      obtain ⟨u, hu, hr⟩ := arg hx
      have : u = .slice none 0 0 := by cases hr; exact isNilSl_eq hn
      refine ⟨.pointer none, fun w => ?_, .lit _ rfl⟩
      rw [ex, hu, this]
      simp [Lib.run_unsafeSliceData_nil]
    · cases h
  · rename_i y n k nl
    split at h
    · rename_i ty m k' get hb
      split at h
      · rename_i hk
        obtain ⟨h1, h2⟩ := closed_hit h
        cases h2
        simp only [Bool.and_eq_true] at hk
        obtain rfl := Nat.eq_of_beq_eq_true hk.1
        have hk0 : 0 < k := by have := hk.2; rwa [Nat.blt_eq] at this
        refine .quiet (nd_call ho) (.read st y) rfl rfl rfl fun FP E act w hcov hS hx => ?_
        obtain ⟨u, hu, hr⟩ := arg hx
        have hF := hcov y (.inl (mem_ins.2 (.inl rfl)))
        obtain ⟨hq, hbl⟩ := hS.blk y _ hF hb
        cases hr with
        | ownNil hd hv hn hl => omega
        | own hd hv hn =>
          rcases hbl with ⟨hv', _⟩ | ⟨_, cc, fr, hcc, hun, hsz, hle, _⟩
          · rw [hv] at hv'; cases hv'
          · have hcp : E.cp y ≠ 0 := by omega
            refine ⟨.pointer (some ⟨E.ρ y, 0, none⟩), ?_, ?_⟩
            · rw [ex, hu]
              simp [Lib.run_unsafeSliceData_row (P := P) w c.argTypes o.type (⟨E.ρ y, 0, none⟩ : Addr) n (E.cp y) hcp]
            · have := Rep.pe (E := E) (x := y) (i := 0) (k := k) (off := 0) (il := nl) hd
              simpa using this
      · exact h.elim
    · exact h.elim
  · exact h.elim
/-- A block that turned and is let go. -/
theorem Pst.drop {FP : Nat → Prop} {E : Env} {H H' : Nat → Option Blk} {w w' : World} {nx : Nat} {wr : List Nat} (h : Sim FP E H w) {y : Nat} (hF : FP y) (hy : H y ≠ none) (hv : E.vir y = false) (hyn : y < nx) (hwr : y ∈ wr)
    (hH : ∀ z, H' z = if y = z then none else H z) (ho : ∀ b, b ≠ E.ρ y → blkW w' b = blkW w b) (hs : w'.heap.size = w.heap.size) (h1 : w'.os = w.os) (h2 : w'.tape = w.tape) (h3 : w'.output = w.output) : Pst FP E E H H' nx nx wr w w' := by
  have hfz := (h.low y hF hy hv).2
  have al : ∀ z, H' z ≠ none → H z ≠ none ∧ H' z = H z ∧ y ≠ z := fun z hz => by
    rw [hH] at hz ⊢
    by_cases e : y = z
    · rw [if_pos e] at hz; exact absurd rfl hz
    · rw [if_neg e] at hz ⊢; exact ⟨hz, rfl, e⟩
  refine ⟨⟨.refl E, fun _ hx => .inl hx, ⟨fun b c hb => ?_, fun x hF' hn => h.dom x hF' (al x hn).1, fun x hF' hn hv' => by rw [hs]; exact h.low x hF' (al x hn).1 hv', fun x B hF' hB => ?_, fun a b ha hb hna hnb => h.inj a b ha hb (al a hna).1 (al b hnb).1⟩,
    fun b _ hb => ⟨ho b (hb y hwr hyn hy hv), rfl⟩, fun _ h1 h2 => absurd h1 (by omega), by rw [hs]; exact Nat.le_refl _, h1, h2, h3⟩, fun x _ _ hn => (al x hn).1⟩
  · rw [ho b (fun e => by rw [e, hfz] at hb; cases hb)]
    exact h.fz b c hb
  · obtain ⟨hn', he, hne⟩ := al x (by rw [hB]; simp)
    rw [he] at hB
    have hb := h.blk x B hF' hB
    by_cases hvx : E.vir x = true
    · cases B with
      | fix ty cs => exact absurd hb.1 (by rw [hvx]; simp)
      | map sh zv get has nl => exact absurd hb.1 (by rw [hvx]; simp)
      | arr ty n k get =>
        obtain ⟨hq, hb⟩ := hb
        rcases hb with hb | hb
        · exact ⟨hq, .inl hb⟩
        · exact absurd hb.1 (by rw [hvx]; simp)
    · rw [ho _ (fun e' => hne (h.inj y x hF hF' hy hn' hv (by simpa using hvx) e'.symm))]
      exact hb
theorem run_loadBytesZ (w : World) : ∀ (zs : List Int) (a : Addr) (acc : ByteArray), (∀ j z, zs[j]? = some z → w.cell? (a.add j) = some (.int .u8 z)) → (loadBytes a acc zs.length).run P w = .ok ⟨acc.data ++ (zs.map fun z => UInt8.ofNat z.toNat).toArray⟩ w
  | [], a, acc, _ => by simp [loadBytes]
  | z :: zs, a, acc, h => by
    have h0 : w.cell? a = some (.int .u8 z) := by
      have := h 0 z rfl
      simpa [Addr.add] using this
    have ih := run_loadBytesZ w zs (a.add 1) (acc.push z.toNat.toUInt8) (fun j y hy => by
      have := h (j + 1) y (by simpa using hy)
      have e : (a.add 1).add j = a.add (j + 1) := by
        unfold Addr.add
        by_cases hj : j = 0
        · subst hj; simp
        · simp [hj]; omega
      rw [e]; exact this)
    simp only [List.length_cons, loadBytes, Sem.run_bind, run_load, h0, Result.andThen]
    rw [ih]
    congr 1
    apply ByteArray.ext
    simp [ByteArray.push]
theorem freeze_other {w : World} {a : Addr} {n b : Nat} (h : b ≠ a.block) : blkW (w.freeze a n) b = blkW w b := by
  unfold World.freeze blkW
  split
  · rfl
  · simp [Array.getElem?_modify, Ne.symm h]
theorem freeze_size {w : World} {a : Addr} {n : Nat} : (w.freeze a n).heap.size = w.heap.size := by
  unfold World.freeze
  split
  · rfl
  · simp
theorem freeze_rest {w : World} {a : Addr} {n : Nat} : (w.freeze a n).os = w.os ∧ (w.freeze a n).tape = w.tape ∧ (w.freeze a n).output = w.output := by
  unfold World.freeze
  split <;> exact ⟨rfl, rfl, rfl⟩
theorem run_unsafeStrZ (w : World) {pt it ty e : TypeId} (hp : P.underlying pt = some (.pointer e)) (hc : P.cellsOf e = 1) {g cells : Nat} (hsh : w.shape? g = some (e, cells)) (zs : List Int) (h0 : zs ≠ []) (hn : zs.length ≤ cells) (h63 : zs.length ≤ 9223372036854775807) {k : IntKind}
    (hcell : ∀ j z, zs[j]? = some z → w.cell? ((⟨g, 0, none⟩ : Addr).add j) = some (.int .u8 z)) :
    (Builtin.unsafeString_ #[pt, it] ty #[.pointer (some ⟨g, 0, none⟩), .int k zs.length]).run P w = .ok (.string ⟨(zs.map fun z => UInt8.ofNat z.toNat).toArray⟩) (w.freeze ⟨g, 0, none⟩ zs.length) := by
  have hl : zs.length ≠ 0 := by simpa using h0
  have hlb := run_loadBytesZ (P := P) w zs ⟨g, 0, none⟩ .empty hcell
  have hlies := Lib.liesAt_bytes (P := P) hc (cells / P.cellsOf e) zs.length (by rw [hc]; simpa using hn)
  have h63' : ¬ (9223372036854775807 : Int) < (zs.length : Int) := by omega
  have hdef : Builtin.unsafeString_ #[pt, it] ty #[.pointer (some ⟨g, 0, none⟩), .int k zs.length] =
      (do
        let n ← asInt (.int k zs.length)
        if n < 0 then runtimePanic (.error "unsafe.String: len out of range")
        if n > IntKind.i64.max then unsupported (.unsafePointer "String: a length above the largest int")
        if n = 0 then pure (.string .empty)
        else if ← variablesAt ⟨g, 0, none⟩ (← elemOf pt) n.toNat then do
          let s ← loadBytes ⟨g, 0, none⟩ .empty n.toNat
          freeze ⟨g, 0, none⟩ n.toNat
          pure (.string s)
        else unsupported (.unsafePointer "String: not so many bytes at ptr")) := rfl
  rw [hdef]
  have hmax : IntKind.i64.max = 9223372036854775807 := rfl
  have hneg : ¬ (zs.length : Int) < 0 := by omega
  simp [asInt, asIntOf, hmax, h63', hneg, hl, variablesAt, hsh, elemOf, run_underlying hp, hlies, hlb]
theorem run_unsafeStr0 (w : World) (pt it ty : TypeId) (k : IntKind) : (Builtin.unsafeString_ #[pt, it] ty #[.pointer none, .int k 0]).run P w = .ok (.string .empty) w := by
  have hmax : IntKind.i64.max = 9223372036854775807 := rfl
  have hdef : Builtin.unsafeString_ #[pt, it] ty #[.pointer none, .int k 0] =
      (do
        let n ← asInt (.int k 0)
        if n < 0 then runtimePanic (.error "unsafe.String: len out of range")
        if n > IntKind.i64.max then unsupported (.unsafePointer "String: a length above the largest int")
        if n = 0 then pure (.string .empty)
        else runtimePanic (.error "unsafe.String: ptr is nil and len is not zero")) := rfl
  rw [hdef]
  simp [asInt, asIntOf, hmax]
theorem unsafeStr_ok {c : Call} (ho : o.op = .call c) (hc : c.callee = .builtin .unsafeString) {p n : AV} (hargs : c.args.toList.map st.val = [p, n]) (h : (unsafeStrA P c.argTypes p n st).hit (a, st')) : OpOk P o st a st' := by
  have ex : ∀ (ρ : Operand → Value), execOp ρ o = (do pure (.value (← Builtin.unsafeString_ c.argTypes o.type (c.args.map ρ)))) := fun ρ => by rw [exec_builtin ho hc]; rfl
  unfold unsafeStrA at h
  split at h
  · rename_i pt it z l hts hint
    have hts' : c.argTypes = #[pt, it] := by
      cases hq : c.argTypes with
      | mk l => rw [hq] at hts; simp at hts; rw [hts]
    have nz : ∀ {E : Env} {v : Value}, Rep E n v → ∃ k, v = .int k z := fun {E v} hv => by
      unfold intOf at hint
      split at hint
      · cases hint; cases hv; exact ⟨_, rfl⟩
      · cases hint; cases hv; exact ⟨_, rfl⟩
      · cases hint
    split at h
    · obtain ⟨h1, h2⟩ := closed_hit h
      cases h2
      subst h1
      refine quiet_of (nd_call ho) fun E act hx => ?_
      obtain ⟨u1, u2, hu, hr1, hr2⟩ := args2 hargs ho hx
      obtain ⟨k, rfl⟩ := nz hr2
      have : u1 = .pointer none := by cases hr1; rfl
      subst this
      refine ⟨.string .empty, fun w => ?_, .lit _ rfl⟩
      rw [ex, hu, hts']
      simp [run_unsafeStr0]
    · rename_i y i k off il
      split at h
      · rename_i ty m k' get e hb hpt
        split at h
        · rename_i hk
          simp only [Bool.and_eq_true] at hk
          obtain ⟨e1, e2, e3, e4, e5, e6⟩ := hk
          obtain rfl := Nat.eq_of_beq_eq_true e1
          obtain rfl := Nat.eq_of_beq_eq_true e2
          obtain rfl := Nat.eq_of_beq_eq_true e3
          obtain rfl := Nat.eq_of_beq_eq_true e4
          obtain rfl := Nat.eq_of_beq_eq_true e5
          have hce := Nat.eq_of_beq_eq_true e6
          obtain ⟨⟨h1, h2, h63, h3⟩, h4⟩ := closed_hit h
          cases h4
          subst h1
          refine ⟨.write st y none (.inl rfl), rfl, fun r FP E act w K Q hwf hcov hfree hS hx hkk => ?_⟩
          obtain ⟨u1, u2, hu, hr1, hr2⟩ := args2 hargs ho hx
          obtain ⟨kk, rfl⟩ := nz hr2
          obtain ⟨hdy, rfl⟩ := rep_pe hr1
          have hF := hcov y (.inl (mem_ins.2 (.inl rfl)))
          obtain ⟨hq, hbl⟩ := hS.blk y _ hF hb
          have hyn : hget st.hp y ≠ none := by rw [hb]; simp
          rcases hbl with ⟨_, h0⟩ | ⟨hv, cc, fr, hcc, hun, hsz, hle, hone, hcells⟩
          · omega
          · let zs := (List.range m).map fun j => byteA (get j)
            have hzl : zs.length = m := by simp [zs]
            have hz : ∀ j z, zs[j]? = some z → w.cell? ((⟨E.ρ y, 0, none⟩ : Addr).add j) = some (.int .u8 z) := by
              intro j z hj
              have hjm : j < m := by have := (List.getElem?_eq_some_iff.1 hj).1; omega
              have hzj : z = byteA (get j) := by
                simp only [zs, List.getElem?_map, List.getElem?_range hjm, Option.map_some, Option.some.injEq] at hj
                exact hj.symm
              have hr := hcells j hjm
              have hb2 := bytesA_ok (h3 j hjm) hr
              have hlt : j < cc.size := by omega
              have h6 : cc.toList[j]? = some (.int .u8 (byteA (get j))) := by
                have := congrArg (fun l => l[0]?) hb2
                simpa using this
              have e : ((⟨E.ρ y, 0, none⟩ : Addr).add j) = ⟨E.ρ y, j, none⟩ := by unfold Addr.add; split <;> simp_all
              rw [e, cell_blk hcc, hzj, ← h6, Array.getElem?_toList]
            have hne : zs ≠ [] := fun e => by rw [e] at hzl; simp at hzl; omega
            have hrun := run_unsafeStrZ (P := P) (it := it) (ty := o.type) (k := kk) w hpt hce (shape_blk hcc) zs hne (by omega) (by omega) hz
            rw [hzl] at hrun
            have hex : (execOp act.eval o).run P w = .ok (.value (.string ⟨(zs.map fun z => UInt8.ofNat z.toNat).toArray⟩)) (w.freeze ⟨E.ρ y, 0, none⟩ m) := by
              rw [ex, hu, hts']
              have e0 : 0 * 1 + 0 = 0 := rfl
              rw [e0]
              simp [hrun]
            obtain ⟨r1, r2, r3⟩ := freeze_rest (w := w) (a := ⟨E.ρ y, 0, none⟩) (n := m)
            refine op_value (nd_call ho) hex (hkk E _ _ (litv_rep rfl) (Pst.drop hS hF hyn hv (hwf y hyn) (mem_ins.2 (.inl rfl)) (fun z => hget_write) (fun b hb' => freeze_other hb') freeze_size r1 r2 r3))
        · exact h.elim
      · exact h.elim
    · exact h.elim
  · exact h.elim
end
end Go.Proofs.YtamjnhpkmhbkcaaGreatDoor

/-
  PART: maps: what the evaluator says of them is so.
-/
namespace Go.Proofs.YtamjnhpkmhbkcaaGreatDoor
open Go.RowKit

section
variable {P : Program} {o : Oper} {st st' : St} {a : AV}
theorem muxW_ok (c : Bool) (v u : Value) : muxW c v u = (if c = true then v else u) := by
  unfold muxW
  split
  · rename_i z h; exact (muxV_ok h).1
  · rfl
theorem kd_desc {t : TypeId} {d : Kd} (h : kdOf P t = some d) : ∃ desc, P.underlying t = some desc ∧ ∀ v, kdV d v = true ↔ MapKept.IsKey desc v := by
  unfold kdOf at h
  split at h
  · rename_i k hu
    cases h
    refine ⟨_, hu, fun v => ?_⟩
    cases v <;> simp [kdV, MapKept.IsKey]
    exact eq_comm
  · rename_i hu
    cases h
    refine ⟨_, hu, fun v => ?_⟩
    cases v <;> simp [kdV, MapKept.IsKey]
  · rename_i hu
    cases h
    refine ⟨_, hu, fun v => ?_⟩
    cases v <;> simp [kdV, MapKept.IsKey]
  · cases h
/-- What keys of a shape do. -/
structure KeyOk (P : Program) (t : TypeId) (sh : KShape) : Prop where
  eq : ∀ a b, keyIs sh a = true → keyIs sh b = true → (keyEq a b = true ↔ a = b)
  check : ∀ (w : World) (em : Bool) (v : Value), keyIs sh v = true → (Instr.checkKey em 10000 t v).run P w = .ok () w
  find : ∀ (w : World) (x : Value), keyIs sh x = true → ∀ es : List MapEntry, (∀ e ∈ es, keyIs sh e.key = true) →
    ((Instr.findKey t x es).run P w = .ok none w ∧ ∀ e ∈ es, e.key ≠ x) ∨ ∃ j e, (Instr.findKey t x es).run P w = .ok (some (j, e.val)) w ∧ es[j]? = some e ∧ e.key = x
  stays : ∀ (w : World) (v : Value), keyIs sh v = true → (Instr.keyThatStays v v).run P w = .ok v w
theorem keyEq_one {d : Kd} {a b : Value} (ha : kdV d a = true) (hb : kdV d b = true) : keyEq a b = true ↔ a = b := by
  cases d <;> cases a <;> cases b <;> simp_all [kdV, keyEq, partEq, MapKept.bytes_beq]
theorem partEq_ok {d : Kd} {a b : Value} (ha : kdW d a = true) (hb : kdW d b = true) : partEq a b = true ↔ a = b := by
  cases d <;> cases a <;> cases b <;> simp_all [kdW, partEq, MapKept.bytes_beq]
theorem partsEq_ok : ∀ {ds : List Kd} {l m : List Value}, kdWs ds l = true → kdWs ds m = true → (partsEq l m = true ↔ l = m)
  | [], [], [], _, _ => by simp [partsEq]
  | [], _ :: _, _, h, _ => by simp [kdWs] at h
  | [], [], _ :: _, _, h => by simp [kdWs] at h
  | _ :: _, [], _, h, _ => by simp [kdWs] at h
  | _ :: _, _ :: _, [], _, h => by simp [kdWs] at h
  | d :: ds, a :: l, b :: m, h1, h2 => by
    simp only [kdWs, Bool.and_eq_true] at h1 h2
    simp only [partsEq, Bool.and_eq_true, partEq_ok h1.1 h2.1, partsEq_ok h1.2 h2.2, List.cons.injEq]
theorem keyOk_one {t : TypeId} {d : Kd} (h : kdOf P t = some d) : KeyOk P t (.one d) := by
  obtain ⟨desc, hu, hkey⟩ := kd_desc h
  refine ⟨fun a b ha hb => keyEq_one ha hb, fun w em v hv => MapKept.run_checkKey hu ((hkey v).1 hv) em 9999, fun w x hx es hes => ?_, fun w v hv => MapKept.run_keyThatStays ((hkey v).1 hv)⟩
  rcases MapKept.findNow_spec ((hkey x).1 hx) es 0 (fun e he => (hkey _).1 (hes e he)) with ⟨h1, h2⟩ | ⟨j, e, h1, h2, h3⟩
  · exact .inl ⟨MapKept.run_findKey hu h1, h2⟩
  · rw [Nat.zero_add] at h1
    exact .inr ⟨j, e, MapKept.run_findKey hu h1, h2, h3⟩
/-! Keys that are arrays or structs. -/
theorem mapM_all {α β : Type} {f : α → Option β} : ∀ {l : List α}, (∀ x, x ∈ l → ∃ b, f x = some b) → ∃ bs, l.mapM f = some bs
  | [], _ => ⟨[], rfl⟩
  | x :: l, h => by
    obtain ⟨b, hb⟩ := h x (List.mem_cons_self ..)
    obtain ⟨bs, hbs⟩ := mapM_all (l := l) fun y hy => h y (List.mem_cons_of_mem _ hy)
    exact ⟨b :: bs, by simp [List.mapM_cons, hb, hbs]⟩
theorem kdWs_len : ∀ {ds : List Kd} {l : List Value}, kdWs ds l = true → l.length = ds.length
  | [], [], _ => rfl
  | [], _ :: _, h => by simp [kdWs] at h
  | _ :: _, [], h => by simp [kdWs] at h
  | d :: ds, a :: l, h => by
    simp only [kdWs, Bool.and_eq_true] at h
    simp [kdWs_len h.2]
theorem kdWs_app : ∀ {a b : List Kd} {l : List Value}, kdWs (a ++ b) l = true → kdWs a (l.take a.length) = true ∧ kdWs b (l.drop a.length) = true
  | [], b, l, h => ⟨by simp [kdWs], by simpa using h⟩
  | d :: a, b, [], h => by simp [kdWs] at h
  | d :: a, b, v :: l, h => by
    simp only [List.cons_append, kdWs, Bool.and_eq_true] at h
    obtain ⟨h1, h2⟩ := kdWs_app h.2
    exact ⟨by simp [kdWs, h.1, h1], by simpa using h2⟩
theorem kdWs_rep {a : List Kd} : ∀ {n : Nat} {l : List Value}, kdWs (List.replicate n a).flatten l = true → ∀ i, i < n → kdWs a ((l.drop (i * a.length)).take a.length) = true
  | 0, _, _, i, hi => absurd hi (Nat.not_lt_zero i)
  | n + 1, l, h, i, hi => by
    rw [List.replicate_succ, List.flatten_cons] at h
    obtain ⟨h1, h2⟩ := kdWs_app h
    cases i with
    | zero => simpa using h1
    | succ i =>
      have := kdWs_rep h2 i (by omega)
      rw [List.drop_drop] at this
      rw [Nat.succ_mul, Nat.add_comm]
      exact this
theorem cells_one1 {t : TypeId} {d : Kd} (h : kdOf P t = some d) (cs : List Value) (hk : kdWs [d] cs = true) (D : Nat) : ∃ ls, P.keyLits (D + 1) t cs = some ls := by
  obtain ⟨c, rfl⟩ : ∃ c, cs = [c] := by
    have := kdWs_len hk
    match cs, this with
    | [c], _ => exact ⟨c, rfl⟩
  simp only [kdWs, Bool.and_true] at hk
  unfold kdOf at h
  unfold Program.keyLits
  split at h
  · rename_i k hu
    cases h
    rw [hu]
    cases c <;> simp_all [kdW]
    rename_i k' z
    obtain ⟨h1, h2⟩ := hk
    subst h1
    simp [h2]
  · rename_i hu
    cases h
    rw [hu]
    cases c <;> simp_all [kdW]
  · rename_i hu
    cases h
    rw [hu]
    cases c <;> simp_all [kdW]
  · cases h
theorem fields_ok {d : Nat} (ih : ∀ (t : TypeId) (ds : List Kd) (cs : List Value), kindsOf P d t = some ds → P.tiled d t = true → P.keyTypeAt d t = true → kdWs ds cs = true → ds.length = P.cellsOf t ∧ ∀ D, d ≤ D → ∃ ls, P.keyLits D t cs = some ls) (cs : List Value) :
    ∀ (fs : List Field) (off tot : Nat) (ds : List Kd), kindsF (kindsOf P d) fs = some ds → P.runs off fs = some tot → (∀ f, f ∈ fs → P.tiled d f.type = true ∧ P.keyTypeAt d f.type = true) → kdWs ds (cs.drop off) = true →
      off + ds.length = tot ∧ ∀ f, f ∈ fs → ∀ D, d ≤ D → ∃ ls, P.keyLits D f.type ((cs.drop f.offset).take (P.cellsOf f.type)) = some ls
  | [], off, tot, ds, h, hr, _, _ => by
    cases h
    unfold Program.runs at hr
    cases hr
    exact ⟨rfl, fun f hf => by cases hf⟩
  | f :: fs, off, tot, ds, h, hr, hf, hc => by
    unfold kindsF at h
    split at h
    · rename_i a b ha hb
      cases h
      unfold Program.runs at hr
      split at hr
      · rename_i ho
        obtain ⟨c1, c2⟩ := kdWs_app hc
        obtain ⟨t1, t2⟩ := hf f (List.mem_cons_self ..)
        obtain ⟨h1, h2⟩ := ih f.type a _ ha t1 t2 c1
        rw [List.drop_drop, h1] at c2
        obtain ⟨r1, r2⟩ := fields_ok ih cs fs (off + P.cellsOf f.type) tot b hb hr (fun g hg => hf g (List.mem_cons_of_mem _ hg)) c2
        refine ⟨by rw [List.length_append, h1]; omega, fun g hg => ?_⟩
        rcases List.mem_cons.1 hg with rfl | hg
        · rw [ho, ← h1]; exact h2
        · exact r2 g hg
      · cases hr
    · cases h
theorem lits_ok : ∀ (d : Nat) (t : TypeId) (ds : List Kd) (cs : List Value), kindsOf P d t = some ds → P.tiled d t = true → P.keyTypeAt d t = true → kdWs ds cs = true → ds.length = P.cellsOf t ∧ ∀ D, d ≤ D → ∃ ls, P.keyLits D t cs = some ls
  | 0, t, ds, cs, h, _, _, _ => by cases h
  | d + 1, t, ds, cs, h, ht, hk, hc => by
    have lift : ∀ (Q : Nat → Prop), (∀ D, d ≤ D → Q (D + 1)) → ∀ D, d + 1 ≤ D → Q D := fun Q hq D hD => by
      obtain ⟨E, rfl⟩ : ∃ E, D = E + 1 := ⟨D - 1, by omega⟩
      exact hq E (by omega)
    unfold kindsOf at h
    split at h
    · rename_i k hkd
      split at h
      · rename_i h1
        cases h
        exact ⟨(Nat.eq_of_beq_eq_true h1).symm, lift _ fun D _ => cells_one1 hkd cs hc D⟩
      · cases h
    · split at h
      · rename_i n e hu
        split at h
        · rename_i l hl
          cases h
          unfold Program.tiled at ht
          rw [hu] at ht
          simp only [Bool.and_eq_true, beq_iff_eq] at ht
          unfold Program.keyTypeAt at hk
          rw [hu] at hk
          have hlen : (List.replicate n l).flatten.length = n * l.length := by simp
          cases n with
          | zero =>
            refine ⟨by rw [hlen, ht.1]; simp, lift _ fun D _ => ?_⟩
            have := kdWs_len hc
            unfold Program.keyLits
            rw [hu]
            simp [this, ht.1]
          | succ n =>
            have hch := kdWs_rep hc
            obtain ⟨q1, _⟩ := lits_ok d e l _ hl ht.2 hk (hch 0 (by omega))
            refine ⟨by rw [hlen, ht.1, q1], lift _ fun D hD => ?_⟩
            have hcl : cs.length = P.cellsOf t := by rw [kdWs_len hc, hlen, ht.1, q1]
            obtain ⟨bs, hbs⟩ := mapM_all (l := List.range (n + 1)) (f := fun i => P.keyLits D e ((cs.drop (i * P.cellsOf e)).take (P.cellsOf e))) fun i hi => by
              have := hch i (List.mem_range.1 hi)
              rw [q1] at this
              exact (lits_ok d e l _ hl ht.2 hk this).2 D hD
            unfold Program.keyLits
            rw [hu]
            simp only [hcl, if_true, hbs]
            exact ⟨_, rfl⟩
        · cases h
      · rename_i fs hu
        unfold Program.tiled at ht
        rw [hu] at ht
        simp only [Bool.and_eq_true, beq_iff_eq, Array.all_eq_true_iff_forall_mem] at ht
        unfold Program.keyTypeAt at hk
        rw [hu] at hk
        simp only [Bool.and_eq_true, Array.all_eq_true_iff_forall_mem] at hk
        obtain ⟨r1, r2⟩ := fields_ok (lits_ok d) cs fs.toList 0 _ ds h ht.1 (fun f hf => ⟨ht.2 f (by simpa using hf), (hk.1.1 f (by simpa using hf)).2⟩) (by simpa using hc)
        rw [Nat.zero_add] at r1
        refine ⟨r1, lift _ fun D hD => ?_⟩
        have hcl : cs.length = P.cellsOf t := by rw [kdWs_len hc, r1]
        obtain ⟨bs, hbs⟩ := mapM_all (l := fs.toList) (f := fun f => P.keyLits D f.type ((cs.drop f.offset).take (P.cellsOf f.type))) fun f hf => r2 f hf D hD
        have hnm : fs.all (·.name != "_") = true := by
          rw [Array.all_eq_true_iff_forall_mem]
          exact fun f hf => (hk.1.1 f hf).1
        unfold Program.keyLits
        rw [hu]
        simp only [hcl, hnm, and_self, if_true, hbs]
        exact ⟨_, rfl⟩
      · cases h
theorem shape_ok {t : TypeId} {sh : KShape} (h : shapeOf P t = some sh) : KeyOk P t sh := by
  unfold shapeOf at h
  split at h
  · rename_i d hd; cases h; exact keyOk_one hd
  · split at h
    · rename_i hb
      split at h
      · rename_i ds hds
        cases h
        simp only [Bool.and_eq_true] at hb
        obtain ⟨hw, h8, h9, hkt, hts⟩ := hb
        have hw' : (match P.underlying t with | some (.array _ _) | some (.struct _) => true | _ => false) = true := hw
        have K : WideMaps.KeyLaw P t := deep_law (m := 8) (by omega) h8 h9 hw'
        have key : ∀ v, keyIs (.row ds) v = true → ∃ l, keyOf P t v = some l := fun v hv => by
          unfold keyIs at hv
          split at hv
          · rename_i hq; cases hq
          · rename_i ds' c hq
            cases hq
            obtain ⟨hl, hD⟩ := lits_ok 8 t ds c.toList hds h9 h8 hv
            have hsz : c.size = P.cellsOf t := by rw [← hl, ← kdWs_len hv, Array.length_toList]
            obtain ⟨ls, hls⟩ := hD (P.types.size + 1) (Nat.le_of_ble_eq_true hts)
            have hf : (Value.agg c).formed P t = true := by
              unfold Value.formed
              unfold wideT at hw
              split at hw
              · rename_i hu; rw [hu]; simp [hsz]
              · rename_i hu; rw [hu]; simp [hsz]
              · cases hw
            refine ⟨.string (keyBytes ls), ?_⟩
            unfold keyOf
            unfold wideT at hw
            split at hw
            · rename_i hu
              rw [hu]
              simp only [hkt, hf, Bool.and_self, if_true]
              show (P.keyLits (P.types.size + 1) t c.toList).map _ = _
              rw [hls]; rfl
            · rename_i hu
              rw [hu]
              simp only [hkt, hf, Bool.and_self, if_true]
              show (P.keyLits (P.types.size + 1) t c.toList).map _ = _
              rw [hls]; rfl
            · cases hw
          · cases hv
        refine ⟨fun a b ha hb => ?_, fun w em v hv => ?_, fun w x hx es hes => ?_, fun w v hv => ?_⟩
        · unfold keyIs at ha hb
          split at ha
          · rename_i hq; cases hq
          · rename_i ds1 c1 hq
            cases hq
            split at hb
            · rename_i hq; cases hq
            · rename_i ds2 c2 hq
              cases hq
              show partsEq c1.toList c2.toList = true ↔ _
              rw [partsEq_ok ha hb]
              constructor
              · intro e; rw [Array.ext' e]
              · intro e; cases e; rfl
            · cases hb
          · cases ha
        · obtain ⟨l, hl⟩ := key v hv; exact K.check w em hl
        · obtain ⟨l, hl⟩ := key x hx
          exact K.find w hl es fun e he => key _ (hes e he)
        · obtain ⟨l, hl⟩ := key v hv; exact K.stays w hl
      · cases h
    · cases h
theorem keyEq_ne {t : TypeId} {sh : KShape} (K : KeyOk P t sh) {a b : Value} (ha : keyIs sh a = true) (hb : keyIs sh b = true) (h : a ≠ b) : keyEq a b = false := by
  cases hq : keyEq a b with
  | false => rfl
  | true => exact absurd ((K.eq a b ha hb).1 hq) h
theorem blk_map {FP : Nat → Prop} {E : Env} {H : Nat → Option Blk} {w : World} {x : Nat} {sh : KShape} {zv : Value} {get : Value → Value} {has : Value → Bool} {nl : Bool} (h : Sim FP E H w) (hF : FP x) (hx : H x = some (.map sh zv get has nl)) :
    E.vir x = false ∧ ∃ (es : Array MapEntry) (clock : Nat), blkW w (E.ρ x) = some (.map es clock) ∧ MapIs sh zv get has es.toList := h.blk x _ hF hx
theorem rep_mp {E : Env} {x : Nat} {v : Value} (h : Rep E (.mp x) v) : E.dom x ∧ v = .map (some (E.ρ x)) := by cases h; exact ⟨‹_›, rfl⟩
theorem run_lookup {w : World} {t kt vt : TypeId} {sh : KShape} {r : Nat} {es : Array MapEntry} {clock : Nat} {zv k z : Value} {get : Value → Value} {has : Value → Bool} {i : TypeInfo} (ht : P.underlying t = some (.map kt vt)) (K : KeyOk P kt sh) (hb : blkW w r = some (.map es clock)) (hm : MapIs sh zv get has es.toList)
    (hk : keyIs sh k = true) (hi : P.info? vt = some i) (hz : i.zero = some z) (hzz : z = zv) (ok : Bool) :
    (Instr.lookup t (.map (some r)) k ok).run P w = .ok (if ok then .tuple #[get k, .bool (has k)] else get k) w := by
  have hb' : w.heap[r]? = some (.map es clock) := hb
  have hks : ∀ x ∈ es.toList, keyIs sh x.key = true := fun x hx => (hm.all x hx).1
  have hzr : (zeroValue vt).run P w = .ok z w := by simp [zeroValue, typeInfo, hi, hz]
  rcases K.find w k hk es.toList hks with ⟨h1, h2⟩ | ⟨j, e, h1, h2, h3⟩
  · obtain ⟨m1, m2⟩ := hm.miss k hk h2
    simp only [Instr.lookup, Sem.run_bind, run_underlying ht, Result.andThen_ok, MapKept.run_getObj_map hb', K.check w _ k hk, h1, hzr, Sem.run_pure]
    rw [m1, m2, hzz]
  · have he : e ∈ es.toList := List.mem_of_getElem? h2
    obtain ⟨m1, m2⟩ := hm.hit e he
    rw [h3] at m1 m2
    simp only [Instr.lookup, Sem.run_bind, run_underlying ht, Result.andThen_ok, MapKept.run_getObj_map hb', K.check w _ k hk, h1, Sem.run_pure]
    rw [m1, m2]
theorem scalsK_rep {E : Env} : ∀ {l : List AV} {vs us : List Value} {b : Bool}, keyA.scalsK l = some (vs, b) → Reps E l us → us = vs
  | [], vs, us, b, h, hr => by
    cases h; cases hr; rfl
  | a :: l, vs, us, b, h, hr => by
    unfold keyA.scalsK at h
    split at h
    · rename_i x lx xs ls h1 h2
      cases h
      cases hr with | cons p t => rw [(scal_rep h1 p).1, scalsK_rep h2 t]
    · cases h
theorem keyA_rep {E : Env} {a : AV} {k v : Value} {l : Bool} (h : keyA a = some (k, l)) (hr : Rep E a v) : v = k := by
  unfold keyA at h
  split at h
  · split at h
    · rename_i vs b hs
      cases h
      cases hr with | agg hr ho => rw [← scalsK_rep hs hr]
    · cases h
  · exact (scal_rep h hr).1
theorem zero1_info {t : TypeId} {z : Value} (h : zero1 P t = some z) : ∃ i, P.info? t = some i ∧ i.zero = some z ∧ one1 z = true := by
  unfold zero1 at h
  split at h
  · rename_i i hi
    split at h
    · rename_i u hu
      split at h
      · rename_i ho; cases h; exact ⟨i, hi, hu, ho⟩
      · cases h
    · cases h
  · cases h
theorem lookup_ok {t : TypeId} {x i : Operand} {ok : Bool} (ho : o.op = .lookup t x i ok) (h : (lookupA P t (st.val x) (st.val i) ok st).hit (a, st')) : OpOk P o st a st' := by
  have hm1 : x ∈ o.op.operands := by rw [ho]; simp [Op.operands]
  have hm2 : i ∈ o.op.operands := by rw [ho]; simp [Op.operands]
  have nd : NoDefer o := nd_of ho (by simp)
  have he : ∀ ρ : Operand → Value, execOp ρ o = (do pure (.value (← Instr.lookup t (ρ x) (ρ i) ok))) := fun ρ => by unfold execOp; rw [ho]
  unfold lookupA at h
  split at h
  · rename_i kt vt y ht hv
    split at h
    · rename_i sh zv get has nl k lk sh' z hb hsc hsh hz
      split at h
      · rename_i hc
        simp only [Bool.and_eq_true, decide_eq_true_eq] at hc
        obtain ⟨rfl, hc3⟩ := hc
        obtain ⟨hc2, h⟩ := closed_hit h
        have K := shape_ok hsh
        obtain ⟨ti, hi, hzz, hone⟩ := zero1_info hz
        have hzv : z = zv := eqV_eq hc3
        have main : ∀ {rd : St}, Grew st rd → rd.sl = st.sl → rd.hp = st.hp → rd.nx = st.nx → y ∈ rd.rd → (∀ E : Env, Rep E a (if ok then .tuple #[get k, .bool (has k)] else get k)) → OpOk P o st a rd := fun {rd} g1 g2 g3 g4 g5 hr =>
          .quiet nd g1 g2 g3 g4 fun FP E act w hcov hS hx => by
            obtain ⟨hd', hp⟩ := rep_mp (hv ▸ hx x hm1)
            obtain ⟨_, es, clock, hb', hM⟩ := blk_map hS (hcov y (.inl g5)) hb
            have hkv : act.eval i = k := keyA_rep hsc (hx i hm2)
            refine ⟨_, ?_, hr E⟩
            rw [he, hp, hkv]
            simp [run_lookup (P := P) ht K hb' hM hc2 hi hzz hzv ok]
        split at h
        · cases h
          refine main (.read st y) rfl rfl rfl (mem_ins.2 (.inl rfl)) fun E => ?_
          exact .tup (.cons (litOr_rep _ _) (.cons (litOr_rep _ _) .nil))
        · cases h
          exact main (.read st y) rfl rfl rfl (mem_ins.2 (.inl rfl)) fun E => litOr_rep _ _
      · exact h.elim
    · exact h.elim
  · exact h.elim
theorem makeMap_ok {t : TypeId} {r : Option Operand} (ho : o.op = .makeMap t r) (h : (makeMapA P t r.isSome st).hit (a, st')) : OpOk P o st a st' := by
  have nd : NoDefer o := nd_of ho (by simp)
  unfold makeMapA at h
  split at h
  · rename_i kt vt ht hr
    have hr' : r = none := by cases r <;> simp_all
    subst hr'
    split at h
    · rename_i sh z hsh hz
      cases h
      obtain ⟨ti, hi, hzz, hone⟩ := zero1_info hz
      refine ⟨.new st _, rfl, fun r FP E act w K Q hwf hcov hfree hS hx hk => ?_⟩
      have hnx : ¬ E.dom st.nx := hfree st.nx (Nat.le_refl _) (Nat.lt_succ_self _)
      have hF : FP st.nx := hcov st.nx (.inr (.inr ⟨Nat.le_refl _, Nat.lt_succ_self _⟩))
      have hρ : (E.add st.nx w.heap.size 0 0 false).ρ st.nx = w.heap.size := by simp [Env.add]
      have hvr : (E.add st.nx w.heap.size 0 0 false).vir st.nx = false := by simp [Env.add]
      have hex : (execOp act.eval o).run P w = .ok (.value (.map (some w.heap.size))) (w.alloc (.map #[] 0)) := by
        unfold execOp
        rw [ho]
        simp [Instr.makeMap]
      have hB : BlkR (E.add st.nx w.heap.size 0 0 false) st.nx (.map sh z (fun _ => z) (fun _ => false) true) (some (.map #[] 0)) := ⟨hvr, #[], 0, rfl, ⟨fun e h => (by cases h), hone, List.nodup_nil, fun e h => (by cases h), fun k _ _ => ⟨rfl, rfl⟩⟩⟩
      refine op_value nd hex (hk (E.add st.nx w.heap.size 0 0 false) _ _ ?_ (Pst.alloc hS hnx hF (mem_ins.2 (.inl rfl)) hB (fun y => hget_new y)))
      have := Rep.mp (E := E.add st.nx w.heap.size 0 0 false) (x := st.nx) (Or.inl rfl)
      rwa [hρ] at this
    · exact h.elim
  · exact h.elim
theorem nodup_ne {es : List MapEntry} (h : (es.map (·.key)).Nodup) {i j : Nat} {a b : MapEntry} (hi : es[i]? = some a) (hj : es[j]? = some b) (hne : i ≠ j) : a.key ≠ b.key := by
  intro e
  have h1 : (es.map (·.key))[i]? = some a.key := by simp [hi]
  have h2 : (es.map (·.key))[j]? = some b.key := by simp [hj]
  have hl : i < (es.map (·.key)).length := (List.getElem?_eq_some_iff.1 h1).1
  exact hne ((List.getElem?_inj hl h).1 (by rw [h1, h2, e]))
theorem mapIs_put {t : TypeId} {sh : KShape} (K : KeyOk P t sh) {zv kv vv : Value} {get : Value → Value} {has : Value → Bool} {es es' : List MapEntry} (hm : MapIs sh zv get has es) (hk : keyIs sh kv = true) (hv : one1 vv = true)
    (hnd : (es'.map (·.key)).Nodup) (h1 : ∀ e, e ∈ es' → (e.key = kv ∧ e.val = vv) ∨ (e ∈ es ∧ e.key ≠ kv)) (h2 : ∀ e, e ∈ es → e.key ≠ kv → e ∈ es') (h3 : ∃ e, e ∈ es' ∧ e.key = kv) :
    MapIs sh zv (fun q => muxW (keyEq q kv) vv (get q)) (fun q => keyEq q kv || has q) es' := by
  refine ⟨fun e he => ?_, hm.zero, hnd, fun e he => ?_, fun k hkk hne => ?_⟩
  · rcases h1 e he with ⟨e1, e2⟩ | ⟨e1, _⟩
    · rw [e1, e2]; exact ⟨hk, hv⟩
    · exact hm.all e e1
  · show (keyEq e.key kv || has e.key) = true ∧ muxW (keyEq e.key kv) vv (get e.key) = e.val
    rw [muxW_ok]
    rcases h1 e he with ⟨e1, e2⟩ | ⟨e1, e2⟩
    · rw [e1, e2, (K.eq _ _ hk hk).2 rfl]; simp
    · rw [keyEq_ne K (hm.all e e1).1 hk e2]
      obtain ⟨q1, q2⟩ := hm.hit e e1
      simp [q1, q2]
  · show (keyEq k kv || has k) = false ∧ muxW (keyEq k kv) vv (get k) = zv
    rw [muxW_ok]
    obtain ⟨e0, h0, h0'⟩ := h3
    have hkne : k ≠ kv := fun e => hne e0 h0 (h0'.trans e.symm)
    rw [keyEq_ne K hkk hk hkne]
    obtain ⟨q1, q2⟩ := hm.miss k hkk fun e he e' => hne e (h2 e he (fun q => hkne (e'.symm.trans q))) e'
    simp [q1, q2]
theorem run_mapUpdate {w : World} {t kt vt : TypeId} {sh : KShape} {r : Nat} {es : Array MapEntry} {clock : Nat} {zv kv vv : Value} {get : Value → Value} {has : Value → Bool} (ht : P.underlying t = some (.map kt vt)) (K : KeyOk P kt sh) (hb : blkW w r = some (.map es clock)) (hm : MapIs sh zv get has es.toList)
    (hk : keyIs sh kv = true) (hv : one1 vv = true) :
    ∃ (es' : Array MapEntry) (clock' : Nat), (Instr.mapUpdate t (.map (some r)) kv vv).run P w = .ok () { w with heap := w.heap.setIfInBounds r (.map es' clock') } ∧ MapIs sh zv (fun q => muxW (keyEq q kv) vv (get q)) (fun q => keyEq q kv || has q) es'.toList := by
  have hb' : w.heap[r]? = some (.map es clock) := hb
  have hks : ∀ x ∈ es.toList, keyIs sh x.key = true := fun x hx => (hm.all x hx).1
  rcases K.find w kv hk es.toList hks with ⟨h1, h2⟩ | ⟨j, e, h1, h2, h3⟩
  · refine ⟨es.push { key := kv, val := vv, born := clock }, clock + 1, ?_, mapIs_put K hm hk hv ?_ ?_ ?_ ⟨{ key := kv, val := vv, born := clock }, by simp, rfl⟩⟩
    · simp [Instr.mapUpdate, run_underlying ht, MapKept.run_getObj_map hb', K.check w _ kv hk, h1, MapKept.run_setObj_map _ hb', Result.andThen]
    · rw [Array.toList_push, List.map_append]
      refine List.nodup_append.2 ⟨hm.nodup, by simp, ?_⟩
      intro x hx y hy
      simp at hy
      obtain ⟨e, he, rfl⟩ := List.mem_map.1 hx
      rw [hy]; exact h2 e he
    · intro e he
      rw [Array.toList_push, List.mem_append] at he
      rcases he with he | he
      · exact .inr ⟨he, h2 e he⟩
      · simp at he; subst he; exact .inl ⟨rfl, rfl⟩
    · intro e he _
      rw [Array.toList_push]; exact List.mem_append.2 (.inl he)
  · have hj : es[j]? = some e := by simpa using h2
    refine ⟨es.modify j (fun e => { e with key := kv, val := vv }), clock, ?_, mapIs_put K hm hk hv ?_ ?_ ?_ ?_⟩
    · simp [Instr.mapUpdate, run_underlying ht, MapKept.run_getObj_map hb', K.check w _ kv hk, h1, hj, h3, K.stays w kv hk, MapKept.run_setObj_map _ hb', Result.andThen]
    · rw [MapKept.modify_keys j _ fun e' he' => by rw [hj] at he'; cases he'; exact h3.symm]
      exact hm.nodup
    · intro e' he'
      obtain ⟨i, hi⟩ := List.mem_iff_getElem?.1 he'
      rw [Array.getElem?_toList, Array.getElem?_modify] at hi
      by_cases hij : j = i
      · rw [if_pos hij] at hi
        subst hij
        rw [hj] at hi
        simp at hi
        subst hi
        exact .inl ⟨rfl, rfl⟩
      · rw [if_neg hij] at hi
        have hi' : es.toList[i]? = some e' := by simpa using hi
        exact .inr ⟨List.mem_of_getElem? hi', fun q => nodup_ne hm.nodup hi' h2 (Ne.symm hij) (q.trans h3.symm)⟩
    · intro e' he' hne
      obtain ⟨i, hi⟩ := List.mem_iff_getElem?.1 he'
      have hij : j ≠ i := fun q => by subst q; rw [h2] at hi; cases hi; exact hne h3
      refine List.mem_iff_getElem?.2 ⟨i, ?_⟩
      rw [Array.getElem?_toList, Array.getElem?_modify, if_neg hij]
      simpa using hi
    · refine ⟨{ e with key := kv, val := vv }, List.mem_iff_getElem?.2 ⟨j, ?_⟩, rfl⟩
      rw [Array.getElem?_toList, Array.getElem?_modify, if_pos rfl, hj]
      rfl
theorem mapUpdate_ok {t : TypeId} {m k v : Operand} (ho : o.op = .mapUpdate t m k v ∨ o.op = .insert t m k v) (h : (mapUpdateA P t (st.val m) (st.val k) (st.val v) st).hit (a, st')) : OpOk P o st a st' := by
  have hm1 : m ∈ o.op.operands := by rcases ho with ho | ho <;> (rw [ho]; simp [Op.operands])
  have hm2 : k ∈ o.op.operands := by rcases ho with ho | ho <;> (rw [ho]; simp [Op.operands])
  have hm3 : v ∈ o.op.operands := by rcases ho with ho | ho <;> (rw [ho]; simp [Op.operands])
  have nd : NoDefer o := fun c h => by rcases ho with ho | ho <;> (rw [ho] at h; cases h)
  have he : ∀ ρ : Operand → Value, execOp ρ o = (do Instr.mapUpdate t (ρ m) (ρ k) (ρ v); pure .skip) := fun ρ => by unfold execOp; rcases ho with ho | ho <;> rw [ho]
  unfold mapUpdateA at h
  split at h
  · rename_i kt vt y ht hv
    split at h
    · rename_i sh zv get has nl kv lk vv lv sh' hb hsk hsv hsh
      split at h
      · rename_i hc
        obtain ⟨hc2, h⟩ := closed_hit h
        cases h
        simp only [Bool.and_eq_true, decide_eq_true_eq] at hc
        obtain ⟨rfl, hc3⟩ := hc
        have KO := shape_ok hsh
        refine ⟨.write st y _ (.inr (by rw [hb]; simp)), rfl, fun r FP E act w K Q hwf hcov hfree hS hx hkk => ?_⟩
        obtain ⟨hd', hp⟩ := rep_mp (hv ▸ hx m hm1)
        have hF := hcov y (.inl (mem_ins.2 (.inl rfl)))
        obtain ⟨hvr, es, clock, hb', hM⟩ := blk_map hS hF hb
        have hkv : act.eval k = kv := keyA_rep hsk (hx k hm2)
        have hvv : act.eval v = vv := (scal_rep hsv (hx v hm3)).1
        obtain ⟨es', clock', hrun, hM'⟩ := run_mapUpdate (P := P) ht KO hb' hM hc2 hc3
        have hyn : hget st.hp y ≠ none := by rw [hb]; simp
        obtain ⟨s1, s2⟩ := MapKept.heap_set (o' := .map es' clock') (show w.heap[E.ρ y]? = some (.map es clock) from hb')
        have hex : (execOp act.eval o).run P w = .ok .skip { w with heap := w.heap.setIfInBounds (E.ρ y) (.map es' clock') } := by
          rw [he, hp, hkv, hvv]
          simp [hrun]
        refine op_skip nd hex (hkk E _ _ (.unk _) (Pst.set hS hF hb hvr (mem_ins.2 (.inl rfl)) (hwf y hyn) ?_ (fun z => hget_write) (fun b hne => s2 b hne) (by simp) rfl rfl rfl))
        exact ⟨hvr, es', clock', s1, hM'⟩
      · exact h.elim
    · exact h.elim
  · exact h.elim
/-! Rows copied. -/
theorem reps_flatK {E : Env} {get : Nat → List AV} {l : List Value} {k : Nat} : ∀ n : Nat, (∀ i, i < n → Reps E (get i) ((l.drop (i * k)).take k)) → Reps E ((List.range n).flatMap get) (l.take (n * k))
  | 0, _ => by simpa using Reps.nil
  | n + 1, h => by
    rw [List.range_succ, List.flatMap_append]
    have h1 := reps_flatK n fun i hi => h i (by omega)
    have h2 := h n (by omega)
    have e : l.take ((n + 1) * k) = l.take (n * k) ++ (l.drop (n * k)).take k := by
      rw [Nat.add_mul, Nat.one_mul, List.take_add]
    rw [e]
    exact h1.app (by simpa using h2)
theorem run_copy {ts : Array TypeId} {ty t elem : TypeId} {k m n : Nat} {b : Option Addr} {cap : Nat} {vx : Value} {E : Env} {w w' : World} {news : Array Value} {ml : Bool} {get : Nat → List AV} (h0 : ts[0]? = some t) (hu : P.underlying t = some (.slice elem)) (hs : sizeO P elem = some k)
    (hq : RowIs P E k ⟨m, ml, get⟩ vx w news) (hmn : m ≤ n) (hst : ∀ a, b = some a → (storeCells a news.toList).run P w = .ok () w') (hn : b = none → w' = w) :
    (Builtin.copy_ ts ty #[.slice b n cap, vx]).run P w = .ok (.int .i64 m) w' := by
  have hmin : Nat.min m n = m := Nat.min_eq_left hmn
  have hc := hq.cells w ⟨rfl, rfl, rfl, rfl⟩
  have hl := hq.len w
  unfold Builtin.copy_
  simp only [h0, List.getElem?_toArray, List.getElem?_cons_zero, List.getElem?_cons_succ, Sem.run_bind, run_underlying hu, Result.andThen_ok, hl, hmin, run_size hs, hc]
  cases b with
  | none => rw [hn rfl]; rfl
  | some a => simp only [Sem.run_bind, hst a rfl, Result.andThen_ok]; rfl
theorem Pst.hpCongr {FP : Nat → Prop} {E E' : Env} {H H1 H2 : Nat → Option Blk} {nx nx' : Nat} {wr : List Nat} {w w' : World} (p : Pst FP E E' H H1 nx nx' wr w w') (h : ∀ z, H2 z = H1 z) : Pst FP E E' H H2 nx nx' wr w w' := by
  have : H2 = H1 := funext h
  rw [this]; exact p
theorem copy_ok {c : Call} (ho : o.op = .call c) (hc : c.callee = .builtin .copy) {d x : AV} (hargs : c.args.toList.map st.val = [d, x]) (h : (copyA P c.argTypes d x st).hit (a, st')) : OpOk P o st a st' := by
  have ex : ∀ (ρ : Operand → Value), execOp ρ o = (do pure (.value (← Builtin.copy_ c.argTypes o.type (c.args.map ρ)))) := fun ρ => by rw [exec_builtin ho hc]; rfl
  unfold copyA at h
  split at h
  · rename_i elem hu0
    obtain ⟨t, h0, hu⟩ : ∃ t, c.argTypes[0]? = some t ∧ P.underlying t = some (.slice elem) := by
      split at hu0
      · rename_i t ht; exact ⟨t, ht, hu0⟩
      · cases hu0
    split at h
    · rename_i k hs
      split at h
      · rename_i m get xs hk1 hrow
        have hk1 := Nat.le_of_ble_eq_true hk1
        obtain ⟨g1, g2, g3, g4, g5⟩ := foldl_read xs st
        split at h
        · rename_i y off n k'
          split at h
          · rename_i ty cs hb
            split at h
            · rename_i hcnd
              cases h
              simp only [Bool.and_eq_true, Bool.not_eq_true'] at hcnd
              obtain ⟨e1, e2, e3, e4, e5⟩ := hcnd
              obtain rfl := Nat.eq_of_beq_eq_true e1
              have hmn := Nat.le_of_ble_eq_true e2
              have hb' : hget (xs.foldl St.read st).hp y = some (.fix ty cs) := by rw [g2]; exact hb
              refine ⟨g1.trans (.writeAt _ y ty cs off _ _ hb' e4 e5), g4, fun r FP E act w K Q hwf hcov hfree hS hx hkk => ?_⟩
              obtain ⟨u1, u2, hu', hr1, hr2⟩ := args2 hargs ho hx
              have hF := hcov y (.inl (mem_ins.2 (.inl rfl)))
              have hFx : ∀ z, z ∈ xs → FP z := fun z hz => hcov z (.inl (mem_ins.2 (.inr (g5 z hz))))
              obtain ⟨news, hnews⟩ := rowOf_ok (P := P) (w := w) hk1 hrow hS hFx hr2
              obtain ⟨hv, cc, hc1, hc2, hc3⟩ := blk_fix hS hF hb
              have hlen : cs.length = cc.size := by have := hc2.len; simpa using this
              have h4 := Nat.le_of_ble_eq_true e4
              have hns : news.toList.length = m * k := by rw [Array.length_toList]; exact hnews.size
              have hstore := run_storeCells_atM (P := P) (E.ρ y) off ty (0, 0) news.toList 0 cc w hc1 (unm0 _) (by omega) (fun u hu' => by rw [one_iff]; exact hnews.one u hu')
              rw [Nat.add_zero, hns] at hstore
              obtain ⟨capq, hsl⟩ : ∃ q, u1 = .slice (some ⟨E.ρ y, off, none⟩) n q := by cases hr1; exact ⟨_, rfl⟩
              have hex : (execOp act.eval o).run P w = .ok (.value (.int .i64 m)) (w.setRow (E.ρ y) (cc.toList.take off ++ news.toList ++ cc.toList.drop (off + m * k)).toArray) := by
                rw [ex, hu', hsl]
                have := run_copy (P := P) (ty := o.type) (b := some ⟨E.ρ y, off, none⟩) (cap := capq) (n := n) h0 hu hs hnews hmn (fun a ha => by cases ha; exact hstore) (fun h => by cases h)
                simp [this]
              have hyn : hget st.hp y ≠ none := by rw [hb]; simp
              have hflat : Reps E ((List.range m).flatMap get) news.toList := by
                have := reps_flatK (k := k) (l := news.toList) m (fun i hi => hnews.rep i hi)
                rwa [List.take_of_length_le (by omega)] at this
              refine op_value (nd_call ho) hex (hkk E _ _ (.lit _ rfl) ?_)
              rw [show ((xs.foldl St.read st).writeAt y (some (.fix ty (splice cs off ((List.range m).flatMap get)))) off (m * k)).nx = st.nx from g3]
              refine (Pst.set hS hF hb hv (mem_ins.2 (.inl rfl)) (hwf y hyn) ?_ (fun z => by show hget ((y, some (.fix ty (splice cs off ((List.range m).flatMap get)))) :: (xs.foldl St.read st).hp) z = _; rw [hget_cons, g2]) (fun b hne => blkW_setRow_other w _ _ hne) (setRow_size ..) rfl rfl rfl)
              rw [blkW_setRow_same hc1]
              refine ⟨hv, _, rfl, ?_, ?_⟩
              · rw [List.toList_toArray]
                have := splice_ok (off := off) hc2 hflat
                rw [hns] at this
                rw [app_assoc3]; exact this
              · rw [List.toList_toArray]; exact one_splice hc3 hnews.one
            · exact h.elim
          · exact h.elim
        · rename_i y n k' nl
          split at h
          · rename_i ty n' k'' get0 hb
            split at h
            · rename_i hcnd
              obtain ⟨hmn, h⟩ := closed_hit h
              cases h
              simp only [Bool.and_eq_true, Bool.not_eq_true'] at hcnd
              obtain ⟨e1, e2, e3⟩ := hcnd
              obtain rfl := Nat.eq_of_beq_eq_true e1
              obtain rfl := Nat.eq_of_beq_eq_true e2
              refine ⟨g1.trans (.write _ _ _ (.inr (by rw [g2, hb]; simp))), g4, fun r FP E act w K Q hwf hcov hfree hS hx hkk => ?_⟩
              obtain ⟨u1, u2, hu', hr1, hr2⟩ := args2 hargs ho hx
              have hF := hcov y (.inl (mem_ins.2 (.inl rfl)))
              have hFx : ∀ z, z ∈ xs → FP z := fun z hz => hcov z (.inl (mem_ins.2 (.inr (g5 z hz))))
              obtain ⟨news, hnews⟩ := rowOf_ok (P := P) (w := w) hk1 hrow hS hFx hr2
              have hyn : hget st.hp y ≠ none := by rw [hb]; simp
              have hBy := hS.blk y _ hF hb
              obtain ⟨hln, hBy⟩ := hBy
              have hns : news.toList.length = m * k := by rw [Array.length_toList]; exact hnews.size
              have hHH : ∀ z, hget ((xs.foldl St.read st).write y (some (.arr ty n' k (overA m get get0)))).hp z = if y = z then some (.arr ty n' k (overA m get get0)) else hget st.hp z := fun z => by
                rw [hget_write, g2]
              have hnx : ((xs.foldl St.read st).write y (some (.arr ty n' k (overA m get get0)))).nx = st.nx := g3
              cases hr1 with
              | own hd' hv' hn' =>
                rcases hBy with ⟨hv, _⟩ | ⟨hv, cc, fr, hcc, hun, hsz, hle, hone, hcells⟩
                · rw [hv'] at hv; cases hv
                · have hnn : n = n' := hn'.trans hln.symm
                  have hmk : m * k ≤ cc.size := by rw [hsz]; exact Nat.mul_le_mul_right _ (by omega)
                  have hstore := run_storeCells_atM (P := P) (E.ρ y) 0 ty fr news.toList 0 cc w hcc hun (by omega) (fun u hu' => by rw [one_iff]; exact hnews.one u hu')
                  rw [Nat.add_zero, hns, Nat.zero_add] at hstore
                  have hex : (execOp act.eval o).run P w = .ok (.value (.int .i64 m)) (w.setRow (E.ρ y) (cc.toList.take 0 ++ news.toList ++ cc.toList.drop (m * k)).toArray) := by
                    rw [ex, hu']
                    have := run_copy (P := P) (ty := o.type) (b := some ⟨E.ρ y, 0, none⟩) (cap := E.cp y) (n := n) h0 hu hs hnews hmn (fun a ha => by cases ha; exact hstore) (fun h => by cases h)
                    simp [this]
                  refine op_value (nd_call ho) hex (hkk E _ _ (.lit _ rfl) ?_)
                  rw [hnx]
                  refine (Pst.set hS hF hb hv (mem_ins.2 (.inl rfl)) (hwf y hyn) ?_ hHH (fun b hne => blkW_setRow_other w _ _ hne) (setRow_size ..) rfl rfl rfl)
                  rw [blkW_setRow_same hcc, List.take_zero, List.nil_append]
                  have hcl : cc.toList.length = cc.size := by simp
                  have hLen : (news.toList ++ cc.toList.drop (m * k)).length = cc.size := by rw [List.length_append, hns, List.length_drop, hcl]; omega
                  refine ⟨hln, .inr ⟨hv, _, fr, rfl, ?_, ?_, hle, ?_, fun j hj => ?_⟩⟩
                  · rw [List.size_toArray, hLen]; exact hun
                  · rw [List.size_toArray, hLen, hsz]
                  · rw [List.toList_toArray]; exact hnews.one.app (hone.drop _)
                  · rw [List.toList_toArray]
                    unfold overA
                    cases hjm : Nat.blt j m with
                    | true =>
                      have hjm' : j < m := by rwa [Nat.blt_eq] at hjm
                      rw [seg_app_l hns hjm']
                      exact hnews.rep j hjm'
                    | false =>
                      have hjm' : m ≤ j := by
                        rcases Nat.lt_or_ge j m with h | h
                        · rw [← Nat.blt_eq, hjm] at h; cases h
                        · exact h
                      rw [seg_app_r hns hjm', List.drop_drop]
                      have : m * k + (j - m) * k = j * k := by rw [← Nat.add_mul]; congr 1; omega
                      rw [this]
                      exact hcells j hj
              | ownNil hd' hv' hn' hl' =>
                have hm0 : m = 0 := by omega
                subst hm0
                have hex : (execOp act.eval o).run P w = .ok (.value (.int .i64 (0 : Nat))) w := by
                  rw [ex, hu']
                  have := run_copy (P := P) (ty := o.type) (b := none) (cap := 0) (n := 0) (w := w) (w' := w) h0 hu hs hnews (Nat.le_refl _) (fun a ha => by cases ha) (fun _ => rfl)
                  simp [this]
                refine op_value (nd_call ho) hex (hkk E _ _ (.lit _ rfl) ?_)
                rcases hBy with ⟨hv, h0'⟩ | ⟨hv, _⟩
                · have hgg : overA 0 get get0 = get0 := rfl
                  rw [show ((xs.foldl St.read st).write y (some (.arr ty n' k (overA 0 get get0)))).nx = st.nx from g3]
                  refine (Pst.refl hS).hpCongr fun z => ?_
                  rw [hHH]
                  by_cases e : y = z
                  · rw [if_pos e, ← e, hb, hgg]
                  · rw [if_neg e]
                · rw [hv'] at hv; cases hv
            · exact h.elim
          · exact h.elim
        · exact h.elim
      · exact h.elim
    · exact h.elim
  · exact h.elim
end
end Go.Proofs.YtamjnhpkmhbkcaaGreatDoor

/-
  PART: any operation: what the evaluator says of it is so, if what it says of calls is.
-/
namespace Go.Proofs.YtamjnhpkmhbkcaaGreatDoor
open Go.RowKit

/-- What the evaluator says of a call is so. -/
structure CallOk (P : Program) (f : Nat) (args : List AV) (st : St) (a : AV) (st' : St) : Prop where
  grew : Grew st st'
  sl : st'.sl = st.sl
  run : ∀ (r : Option Nat) (FP : Nat → Prop) (E : Env) (w : World) (vals : Array Value) (K : Value → World → Prop), Wf st → Cov FP st st' → Free E st.nx st'.nx → Sim FP E (hget st.hp) w → Reps E args vals.toList →
    (∀ E' v w', Rep E' a v → Pst FP E E' (hget st.hp) (hget st'.hp) st.nx st'.nx st'.wr w w' → K v w') →
    (∃ v, (callFunc f vals).run P w = .ok (.value v) w ∧ K v w) ∨ ((callFunc f vals).run P w = .ok (.enter f vals) w ∧ CallsIn (wideR r) 0 P f vals w fun e w' => ∃ v, e = .returned v ∧ K v w')
def CallsOk (P : Program) (r : Evs) : Prop := ∀ f args st a st', (r.call f args st).hit (a, st') → CallOk P f args st a st'
section
variable {P : Program} {o : Oper} {st st' : St} {a : AV}
theorem call_ok {r : Evs} (hr : CallsOk P r) {c : Call} {fo : Operand} (ho : o.op = .call c) (hc : c.callee = .value fo) {cx : Cx} (h : (callA cx r (st.val fo) (c.args.toList.map st.val) st).hit (a, st')) : OpOk P o st a st' := by
  unfold callA at h
  split at h
  · rename_i g first cap hv
    have hok := hr _ _ _ _ _ h
    refine ⟨hok.grew, hok.sl, fun r FP E act w K Q hwf hcov hfree hS hx hk => ?_⟩
    have hf := hx fo (by rw [ho]; simp [Op.operands, Call.operands, hc])
    rw [hv] at hf
    obtain ⟨fv, cv, he, hf1, hf2⟩ : ∃ fv cv : Array Value, act.eval fo = .func (.func g) fv cv ∧ Reps E first fv.toList ∧ Reps E cap cv.toList := by
      generalize act.eval fo = u at hf
      cases hf; exact ⟨_, _, rfl, ‹_›, ‹_›⟩
    have hargs := args_rep ho hx
    have hall : Reps E (first ++ c.args.toList.map st.val ++ cap) (fv ++ c.args.map act.eval ++ cv).toList := by
      rw [Array.toList_append, Array.toList_append]
      exact (hf1.app hargs).app hf2
    have hex : execOp act.eval o = callFunc g (fv ++ c.args.map act.eval ++ cv) := by
      unfold execOp
      rw [ho]
      simp only [resolve, hc, he, Deferred.ofValue]
      rfl
    rcases hok.run r FP E w (fv ++ c.args.map act.eval ++ cv) (fun v w' => K (act.put o.dst v) w') hwf hcov hfree hS hall hk with ⟨v, h1, h2⟩ | ⟨h1, h2⟩
    · exact op_value (nd_call ho) (by rw [hex]; exact h1) h2
    · refine ⟨fun _ _ => trivial, ?_⟩
      rw [Oper.semAt_eq _ _ _ (nd_call ho), hex, h1, Oper.uponIn_enter]
      refine ⟨fun h => by simp [wideR, Fence.wide] at h, h2.mono ?_⟩
      rintro e w' ⟨v, rfl, hK⟩
      exact hK
  · exact h.elim
theorem builtin_ok {c : Call} {b : Builtin} (ho : o.op = .call c) (hc : c.callee = .builtin b) (h : (builtinA P b c.argTypes o.type (c.args.toList.map st.val) st).hit (a, st')) : OpOk P o st a st' := by
  unfold builtinA at h
  split at h
  · rename_i x hl; exact len_ok ho hc hl h
  · rename_i s x hl
    split at h
    · rename_i sT h0 h1
      refine append_ok ho hc hl h0 ?_ h
      split at h1
      · rename_i xT hxT
        split at h1
        · rename_i e hu; exact ⟨xT, hxT, .inl ⟨e, hu⟩⟩
        · rename_i hu; exact ⟨xT, hxT, .inr hu⟩
        · cases h1
      · cases h1
    · exact h.elim
  · exact scalB_ok ho hc (fun _ _ => rfl) h
  · exact scalB_ok ho hc (fun _ _ => rfl) h
  · exact scalB_ok ho hc (fun _ _ => rfl) h
  · exact scalB_ok ho hc (fun _ _ => rfl) h
  · exact scalB_ok ho hc (fun _ _ => rfl) h
  · rename_i x hl; exact sliceData_ok ho hc hl h
  · rename_i d x hl; exact copy_ok ho hc hl h
  · rename_i p n hl; exact unsafeStr_ok ho hc hl h
  · exact h.elim
theorem op_sound {cx : Cx} {r : Evs} (hr : CallsOk cx.P r) (h : (evalOp cx r o st).hit (a, st')) : OpOk cx.P o st a st' := by
  unfold evalOp at h
  split at h
  · rename_i x ho; cases h; exact move_ok (.inl ho)
  · rename_i x ho; cases h; exact move_ok (.inr ho)
  · rename_i c x y ho
    split at h
    · rename_i e hc
      cases e with
      | true => cases h; exact pick_ok (e := true) ho ⟨_, hc⟩ (fun E v h => by simpa using h)
      | false => cases h; exact pick_ok (e := false) ho ⟨_, hc⟩ (fun E v h => by simpa using h)
    · rename_i e hc
      obtain ⟨hm, rfl⟩ := hit_pureA h
      exact pick_ok ho ⟨_, hc⟩ (fun E v h => muxD_ok e E _ _ _ v hm h)
    · exact h.elim
  · rename_i t ho
    split at h
    · rename_i cs hz; cases h; exact alloc_ok ho hz
    · exact h.elim
  · rename_i t x ho
    split at h
    · rename_i hb; cases h; exact box_ok ho hb
    · exact h.elim
  · rename_i t parts ho; exact build_ok ho h
  · rename_i t len parts ho; exact buildSlice_ok ho h
  · rename_i t x ho; exact load_ok ho h
  · rename_i t x y ho; exact store_ok ho h
  · rename_i x ho
    split at h
    · rename_i y off hv; cases h; rw [← hv]
      exact nilCheck_ok ho ⟨fun v => ∃ ad, v = .pointer (some ad), fun E v hR => by rw [hv] at hR; exact ⟨_, (rep_ptr hR).2⟩, fun v h => .inl h⟩
    · rename_i cs off hv; cases h; rw [← hv]
      exact nilCheck_ok ho ⟨fun v => ∃ ad, v = .pointer (some ad), fun E v hR => by rw [hv] at hR; obtain ⟨_, _, _, _, _, _, _, e⟩ := rep_fz hR; exact ⟨_, e⟩, fun v h => .inl h⟩
    · rename_i y i k off il hv; cases h; rw [← hv]
      exact nilCheck_ok ho ⟨fun v => ∃ ad, v = .pointer (some ad), fun E v hR => by rw [hv] at hR; exact ⟨_, (rep_pe hR).2⟩, fun v h => .inl h⟩
    · rename_i y b i s n off hv; cases h; rw [← hv]
      exact nilCheck_ok ho ⟨fun v => ∃ ad, v = .pointer (some ad), fun E v hR => by rw [hv] at hR; exact ⟨_, (rep_pti hR).2.2.2⟩, fun v h => .inl h⟩
    · rename_i g b c hv; cases h; rw [← hv]
      exact nilCheck_ok ho ⟨fun v => ∃ f a c, v = .func (.func f) a c, fun E v hR => by rw [hv] at hR; cases hR; exact ⟨_, _, _, rfl⟩, fun v h => .inr h⟩
    · exact h.elim
  · rename_i op t x y u ho; exact binC_ok ho h
  · rename_i op t x ho; exact un1_ok (nd_of ho (by simp)) (by rw [ho]; exact mem1) (fun ρ => by unfold execOp; rw [ho]) h
  · rename_i t r ho; exact makeMap_ok ho h
  · rename_i t x i ok ho; exact lookup_ok ho h
  · rename_i t m k v ho; exact mapUpdate_ok (.inl ho) h
  · rename_i t m k v ho; exact mapUpdate_ok (.inr ho) h
  · rename_i src dst x ho
    split at h
    · rename_i p hp; cases h; exact ptrConv_ok ho (nd_of ho (by simp)) hp
    split at h
    · rename_i p hp; cases h; exact bconv_ok ho (nd_of ho (by simp)) hp
    split at h
    · rename_i c p hp; obtain ⟨hc, h⟩ := h; cases h; exact bconvS_ok ho (nd_of ho (by simp)) hp hc
    split at h
    · rename_i p hp; cases h; exact sconv_ok ho (nd_of ho (by simp)) hp
    · exact conv_ok ho (nd_of ho (by simp)) h
  · rename_i t x ho; exact un1_ok (nd_of ho (by simp)) (by rw [ho]; exact mem1) (fun ρ => by unfold execOp; rw [ho]) h
  · rename_i f first cap ho; cases h; exact makeFunc_ok ho
  · rename_i t l c ho; exact makeSlice_ok ho h
  · rename_i t x lo hi mx ho
    split at h
    · rename_i hmh
      refine slice_ok ho (fun hq => ?_) h
      cases hi with
      | none => rw [hq] at hmh; cases hmh
      | some => rfl
    · exact h.elim
  · rename_i s x f ho; exact fieldAddr_ok ho h
  · rename_i s x f ho; exact field_ok ho h
  · rename_i t x i ho; exact indexAddr_ok ho h
  · rename_i t x i ho; exact index_ok ho h
  · rename_i t i ho
    split at h
    · rename_i l hv; exact extract_ok ho hv h
    · exact h.elim
  · rename_i c ho
    split at h
    · rename_i b hc; exact builtin_ok ho hc h
    · rename_i f hc; exact call_ok hr ho hc h
    · exact h.elim
  · exact h.elim
end
end Go.Proofs.YtamjnhpkmhbkcaaGreatDoor

/-
  PART: ways joined: what holds behind one of them holds behind the joined one.
-/
namespace Go.Proofs.YtamjnhpkmhbkcaaGreatDoor
open Go.RowKit

/-- What state s says, state m says, if not more. -/
structure Wkn (s m : St) : Prop where
  slot : ∀ (E : Env) (d : Nat) (v : Value), Rep E (look s.sl d) v → Rep E (look m.sl d) v
  blk : ∀ x B, hget m.hp x = some B → ∃ B1, hget s.hp x = some B1 ∧ ∀ (E : Env) (o : Option Obj), BlkR E x B1 o → BlkR E x B o
  nx : s.nx ≤ m.nx
  rd : ∀ x, x ∈ s.rd → x ∈ m.rd
  wr : ∀ x, x ∈ s.wr → x ∈ m.wr
theorem Wkn.refl (s : St) : Wkn s s := ⟨fun _ _ _ h => h, fun _ B h => ⟨B, h, fun _ _ h => h⟩, Nat.le_refl _, fun _ h => h, fun _ h => h⟩
theorem Wkn.trans {a b c : St} (h : Wkn a b) (k : Wkn b c) : Wkn a c :=
  ⟨fun E d v q => k.slot E d v (h.slot E d v q), fun x B q => by
    obtain ⟨B1, h1, h2⟩ := k.blk x B q
    obtain ⟨B2, h3, h4⟩ := h.blk x B1 h1
    exact ⟨B2, h3, fun E o q => h2 E o (h4 E o q)⟩, Nat.le_trans h.nx k.nx, fun x q => k.rd x (h.rd x q), fun x q => k.wr x (h.wr x q)⟩
theorem Pst.wkn {FP : Nat → Prop} {E E' : Env} {H : Nat → Option Blk} {s m : St} {nx : Nat} {w w' : World} (p : Pst FP E E' H (hget s.hp) nx s.nx s.wr w w') (k : Wkn s m) (hwf : Wf s) : Pst FP E E' H (hget m.hp) nx m.nx m.wr w w' := by
  have al : ∀ x, hget m.hp x ≠ none → hget s.hp x ≠ none := fun x hx => by
    cases hB : hget m.hp x with
    | none => exact absurd hB hx
    | some B => obtain ⟨B1, h1, _⟩ := k.blk x B hB; rw [h1]; simp
  refine ⟨⟨p.le, fun x hx => ?_, ⟨p.sim.fz, fun x hF hn => p.sim.dom x hF (al x hn), fun x hF hn hv => p.sim.low x hF (al x hn) hv, fun x B hF hB => ?_, fun x y hx hy hnx hny => p.sim.inj x y hx hy (al x hnx) (al y hny)⟩,
    fun b hb hx => p.frame b hb fun x hx' => hx x (k.wr x hx'), fun x h1 h2 hF hn hv => ?_, p.size, p.os, p.tape, p.output⟩, fun x hx hF hn => p.old x hx hF (al x hn)⟩
  · rcases p.dom x hx with h | h
    · exact .inl h
    · exact .inr ⟨h.1, Nat.lt_of_lt_of_le h.2 k.nx⟩
  · obtain ⟨B1, h1, h2⟩ := k.blk x B hB
    exact h2 _ _ (p.sim.blk x B1 hF h1)
  · rcases p.news x h1 (hwf x (al x hn)) hF (al x hn) hv with h | ⟨y, hy, h⟩
    · exact .inl h
    · exact .inr ⟨y, k.wr y hy, h⟩
/-! Merging. -/
theorem look_cons (d : Nat) (a : AV) (l : List (Nat × AV)) (e : Nat) : look ((d, a) :: l) e = if d = e then a else look l e := by
  show (match Nat.beq d e with | true => a | false => look l e) = _
  by_cases h : d = e
  · subst h; simp
  · have : Nat.beq d e = false := by
      cases hb : Nat.beq d e
      · rfl
      · exact absurd (Nat.eq_of_beq_eq_true hb) h
    rw [this, if_neg h]
theorem muxSl_ok {c : Bool} {l m : List (Nat × AV)} : ∀ {ds : List Nat} {r0 r : List (Nat × AV)}, muxSl c l m ds r0 = some r → ∀ d, (d ∈ ds → mux muxD c (look l d) (look m d) = some (look r d)) ∧ (d ∉ ds → look r d = look r0 d)
  | [], r0, r, h, d => by simp only [muxSl] at h; cases h; exact ⟨fun h => (by cases h), fun _ => rfl⟩
  | e :: ds, r0, r, h, d => by
    simp only [muxSl] at h
    split at h
    · rename_i a ha
      obtain ⟨h1, h2⟩ := muxSl_ok h d
      by_cases hd : d ∈ ds
      · exact ⟨fun _ => h1 hd, fun hn => absurd (List.mem_cons_of_mem _ hd) hn⟩
      · have h3 := h2 hd
        rw [look_cons] at h3
        refine ⟨fun hm => ?_, fun hn => ?_⟩
        · rcases List.mem_cons.1 hm with rfl | hm
          · rw [if_pos rfl] at h3; rw [h3]; exact ha
          · exact absurd hm hd
        · rw [if_neg (show ¬ e = d from fun h => hn (h ▸ List.mem_cons_self ..))] at h3; exact h3
    · cases h
theorem muxHp_ok {c : Bool} {w : Nat → Nat → Bool} {l m : List (Nat × Option Blk)} : ∀ {ds : List Nat} {r0 r : List (Nat × Option Blk)}, muxHp c w l m ds r0 = some r → ∀ d, (d ∈ ds → muxBlk c (w d) (hget l d) (hget m d) = some (hget r d)) ∧ (d ∉ ds → hget r d = hget r0 d)
  | [], r0, r, h, d => by simp only [muxHp] at h; cases h; exact ⟨fun h => (by cases h), fun _ => rfl⟩
  | e :: ds, r0, r, h, d => by
    simp only [muxHp] at h
    split at h
    · rename_i a ha
      obtain ⟨h1, h2⟩ := muxHp_ok h d
      by_cases hd : d ∈ ds
      · exact ⟨fun _ => h1 hd, fun hn => absurd (List.mem_cons_of_mem _ hd) hn⟩
      · have h3 := h2 hd
        rw [hget_cons] at h3
        refine ⟨fun hm => ?_, fun hn => ?_⟩
        · rcases List.mem_cons.1 hm with rfl | hm
          · rw [if_pos rfl] at h3; rw [h3]; exact ha
          · exact absurd hm hd
        · rw [if_neg (show ¬ e = d from fun h => hn (h ▸ List.mem_cons_self ..))] at h3; exact h3
    · cases h
theorem zipO_len {f : AV → AV → Option AV} : ∀ {l m r : List AV}, zipO f l m = some r → l.length = r.length ∧ m.length = r.length
  | [], [], r, h => by simp [zipO] at h; subst h; exact ⟨rfl, rfl⟩
  | [], _ :: _, r, h => by simp [zipO] at h
  | _ :: _, [], r, h => by simp [zipO] at h
  | a :: l, b :: m, r, h => by
    simp only [zipO] at h
    split at h
    · rename_i x y hx hy
      cases h
      obtain ⟨q1, q2⟩ := zipO_len hy
      exact ⟨by simp [q1], by simp [q2]⟩
    · cases h
theorem muxBlk_ok {c : Bool} {w : Nat → Bool} {b1 b2 : Option Blk} {B : Blk} (h : muxBlk c w b1 b2 = some (some B)) (hsame : ∀ ty cs ty' cs', b1 = some (.fix ty cs) → b2 = some (.fix ty' cs') → ∀ j, w j = false → cs[j]? = cs'[j]?) :
    ∃ B1 B2, b1 = some B1 ∧ b2 = some B2 ∧ ∀ (E : Env) (x : Nat) (o : Option Obj), (if c = true then BlkR E x B1 o else BlkR E x B2 o) → BlkR E x B o := by
  unfold muxBlk at h
  split at h
  · rename_i ty cs ty' cs'
    split at h
    · rename_i ht
      obtain rfl := Nat.eq_of_beq_eq_true ht
      split at h
      · rename_i r hz
        cases h
        refine ⟨_, _, rfl, rfl, fun E x o hb => ?_⟩
        cases c
        · simp only [Bool.false_eq_true, if_false] at hb
          obtain ⟨h1, c', h2, h3, h4⟩ := hb
          exact ⟨h1, c', h2, zipW_ok (muxD_ok false) hz (fun j hj => hsame _ _ _ _ rfl rfl j (by simpa using hj)) (by simpa using h3), h4⟩
        · simp only [if_true] at hb
          obtain ⟨h1, c', h2, h3, h4⟩ := hb
          exact ⟨h1, c', h2, zipW_ok (muxD_ok true) hz (fun j hj => hsame _ _ _ _ rfl rfl j (by simpa using hj)) (by simpa using h3), h4⟩
      · cases h
    · cases h
  · rename_i ty n k get ty' n' k' get'
    split at h
    · rename_i ht
      simp only [Bool.and_eq_true] at ht
      obtain rfl := Nat.eq_of_beq_eq_true ht.1
      obtain rfl := Nat.eq_of_beq_eq_true ht.2
      cases h
      refine ⟨_, _, rfl, rfl, fun E x o hb => ?_⟩
      have hfit : ∀ (c : Bool) (l m : List AV) (vs : List Value), vs.length = k → (if c = true then Reps E l vs else Reps E m vs) → Reps E (fit k (zipU (mux muxD c) l m)) vs := fun c l m vs hl h => zipU_fit (muxD_ok c) hl h
      cases c
      · simp only [Bool.false_eq_true, if_false] at hb ⊢
        obtain ⟨h0, hb⟩ := hb
        refine ⟨h0, ?_⟩
        rcases hb with hb | ⟨h1, c', fr, h2, hu, h3, h4, h5, h6⟩
        · exact .inl hb
        · refine .inr ⟨h1, c', fr, h2, hu, h3, h4, h5, fun i hi => hfit false _ _ _ ?_ (by simpa using h6 i hi)⟩
          have hle : 0 + n' * k ≤ c'.size := by rw [h3, Nat.zero_add]; exact Nat.mul_le_mul_right _ h4
          have := seg_len hi hle
          rwa [Nat.zero_add] at this
      · simp only [if_true] at hb ⊢
        obtain ⟨h0, hb⟩ := hb
        refine ⟨h0, ?_⟩
        rcases hb with hb | ⟨h1, c', fr, h2, hu, h3, h4, h5, h6⟩
        · exact .inl hb
        · refine .inr ⟨h1, c', fr, h2, hu, h3, h4, h5, fun i hi => hfit true _ _ _ ?_ (by simpa using h6 i hi)⟩
          have hle : 0 + n * k ≤ c'.size := by rw [h3, Nat.zero_add]; exact Nat.mul_le_mul_right _ h4
          have := seg_len hi hle
          rwa [Nat.zero_add] at this
    · cases h
  · cases h
/-- A block that is told for both ways, is told for one of them. -/
theorem muxBlk_both {c : Bool} {w : Nat → Bool} {b1 b2 : Option Blk} {B : Blk} (h : muxBlk c w b1 b2 = some (some B)) : (∃ B1, b1 = some B1) ∧ ∃ B2, b2 = some B2 := by
  unfold muxBlk at h
  split at h
  · exact ⟨⟨_, rfl⟩, _, rfl⟩
  · exact ⟨⟨_, rfl⟩, _, rfl⟩
  · cases h
/-- Cells that neither way wrote are alike. -/
theorem kept_same {hp hp1 hp2 : List (Nat × Option Blk)} {a b : List (Nat × Option (Nat × Nat))} {x : Nat} (h : Kept hp hp1 a x) (k : Kept hp hp2 b x) {ty ty' : TypeId} {cs cs' : List AV} (h1 : hget hp1 x = some (.fix ty cs)) (k1 : hget hp2 x = some (.fix ty' cs'))
    (j : Nat) (hj : (cov a x j || cov b x j) = false) : cs[j]? = cs'[j]? := by
  simp only [Bool.or_eq_false_iff] at hj
  have key : ∀ {hq : List (Nat × Option Blk)} {a : List (Nat × Option (Nat × Nat))} {ty : TypeId} {cs : List AV}, Kept hp hq a x → hget hq x = some (.fix ty cs) → cov a x j = false → ∃ ty0 cs0, hget hp x = some (.fix ty0 cs0) ∧ cs[j]? = cs0[j]? := by
    intro hq a ty cs h h1 hj
    rcases h with h | h | ⟨ty2, ds, ds', q1, q2, q3, q4⟩
    · rw [h j] at hj; cases hj
    · exact ⟨ty, cs, h ▸ h1, rfl⟩
    · rw [q2] at h1; cases h1
      exact ⟨_, ds, q1, q4 j hj⟩
  obtain ⟨t1, c1, e1, e2⟩ := key h h1 hj.1
  obtain ⟨t2, c2, e3, e4⟩ := key k k1 hj.2
  rw [e1] at e3; cases e3
  rw [e2, e4]
theorem mergeS_ok {c : Bool} {s0 s1 s2 m : St} (h : mergeS c s0 s1 s2 = some m) (g1 : Grew s0.forked s1) (g2 : Grew s0.forked s2) : (c = true → Wkn s1 m) ∧ (c = false → Wkn s2 m) ∧ Grew s0 m := by
  unfold mergeS at h
  split at h
  · rename_i sl hp hsl hhp
    cases h
    have hS := muxSl_ok hsl
    have hH := muxHp_ok hhp
    have hsame : ∀ x ty cs ty' cs', hget s1.hp x = some (.fix ty cs) → hget s2.hp x = some (.fix ty' cs') → ∀ j, (cov s1.wc x j || cov s2.wc x j) = false → cs[j]? = cs'[j]? := fun x ty cs ty' cs' h1 h2 j hj => kept_same (g1.cell x) (g2.cell x) h1 h2 j hj
    refine ⟨?_, ?_, ?_⟩
    · rintro rfl
      refine ⟨fun E d v hv => ?_, fun x B hB => ?_, Nat.le_max_left _ _, fun x hx => mem_uni.2 (.inl hx), fun x hx => mem_uni.2 (.inl hx)⟩
      · by_cases hd : d ∈ uni s1.ws s2.ws
        · exact muxD_ok true E _ _ _ v ((hS d).1 hd) (by simpa using hv)
        · show Rep E (look sl d) v
          rw [(hS d).2 hd]
          have := g1.slot d (fun hx => hd (mem_uni.2 (.inl hx)))
          rw [this] at hv; exact hv
      · by_cases hd : x ∈ uni s1.wb s2.wb
        · have h1 := (hH x).1 hd
          rw [show hget hp x = some B from hB] at h1
          obtain ⟨B1, B2, e1, e2, e3⟩ := muxBlk_ok h1 (fun ty cs ty' cs' => hsame x ty cs ty' cs')
          exact ⟨B1, e1, fun E o q => e3 E x o (by simpa using q)⟩
        · have h1 : hget hp x = hget s0.hp x := (hH x).2 hd
          have h2 := g1.blkb x (fun hx => hd (mem_uni.2 (.inl hx)))
          refine ⟨B, ?_, fun E o q => q⟩
          rw [h2]
          exact h1.symm.trans hB
    · rintro rfl
      refine ⟨fun E d v hv => ?_, fun x B hB => ?_, Nat.le_max_right _ _, fun x hx => mem_uni.2 (.inr hx), fun x hx => mem_uni.2 (.inr hx)⟩
      · by_cases hd : d ∈ uni s1.ws s2.ws
        · exact muxD_ok false E _ _ _ v ((hS d).1 hd) (by simpa using hv)
        · show Rep E (look sl d) v
          rw [(hS d).2 hd]
          have := g2.slot d (fun hx => hd (mem_uni.2 (.inr hx)))
          rw [this] at hv; exact hv
      · by_cases hd : x ∈ uni s1.wb s2.wb
        · have h1 := (hH x).1 hd
          rw [show hget hp x = some B from hB] at h1
          obtain ⟨B1, B2, e1, e2, e3⟩ := muxBlk_ok h1 (fun ty cs ty' cs' => hsame x ty cs ty' cs')
          exact ⟨B2, e2, fun E o q => e3 E x o (by simpa using q)⟩
        · have h1 : hget hp x = hget s0.hp x := (hH x).2 hd
          have h2 := g2.blkb x (fun hx => hd (mem_uni.2 (.inr hx)))
          refine ⟨B, ?_, fun E o q => q⟩
          rw [h2]
          exact h1.symm.trans hB
    · have hal : ∀ x, hget hp x ≠ none → hget s1.hp x ≠ none ∨ hget s0.hp x ≠ none := fun x hx => by
        by_cases hd : x ∈ uni s1.wb s2.wb
        · cases hB : hget hp x with
          | none => exact absurd hB hx
          | some B =>
            have h1 := (hH x).1 hd
            rw [hB] at h1
            obtain ⟨⟨B1, e1⟩, _⟩ := muxBlk_both h1
            exact .inl (by rw [e1]; simp)
        · have h1 : hget hp x = hget s0.hp x := (hH x).2 hd
          rw [h1] at hx; exact .inr hx
      refine ⟨fun hwf x hx => ?_, Nat.le_trans g1.nx (Nat.le_max_left _ _), fun x hx => mem_uni.2 (.inl (g1.rd x hx)), fun x hx => mem_uni.2 (.inl (g1.wr x hx)), fun x hx => mem_uni.2 (.inl hx), fun x hx => mem_uni.2 (.inl hx), fun d hd => ?_, fun x hx => ?_, fun x hx => ?_, fun x hx => ?_, fun e he => List.mem_append.2 (.inr (List.mem_append.2 (.inr (List.mem_append.2 (.inr he))))), fun x => ?_⟩
      · rcases hal x hx with h | h
        · exact Nat.lt_of_lt_of_le (g1.wf hwf x h) (Nat.le_max_left _ _)
        · exact Nat.lt_of_lt_of_le (hwf x h) (Nat.le_trans g1.nx (Nat.le_max_left _ _))
      · exact (hS d).2 fun h => hd (mem_uni.2 (.inr h))
      · exact (hH x).2 fun h => hx (mem_uni.2 (.inr h))
      · by_cases hd : x ∈ uni s1.wb s2.wb
        · rcases mem_uni.1 hd with h | h
          · rcases g1.wbr x h with h | h
            · cases h
            · exact absurd (mem_uni.2 (.inl h)) hx
          · rcases g2.wbr x h with h | h
            · cases h
            · exact absurd (mem_uni.2 (.inr h)) hx
        · exact (hH x).2 hd
      · rcases mem_uni.1 hx with h | h
        · exact .inl h
        · rcases mem_uni.1 h with h | h
          · rcases g1.wbr x h with h | h
            · cases h
            · exact .inr (mem_uni.2 (.inl h))
          · rcases g2.wbr x h with h | h
            · cases h
            · exact .inr (mem_uni.2 (.inr h))
      · generalize hW : ((uni s1.wb s2.wb).filter fun x => noFix (hget s0.hp x)).map (fun x => ((x, none) : Nat × Option (Nat × Nat))) = W0
        have m1 : ∀ e, e ∈ s1.wc → e ∈ W0 ++ (s1.wc ++ (s2.wc ++ s0.wc)) := fun e he => List.mem_append.2 (.inr (List.mem_append.2 (.inl he)))
        have m2 : ∀ e, e ∈ s2.wc → e ∈ W0 ++ (s1.wc ++ (s2.wc ++ s0.wc)) := fun e he => List.mem_append.2 (.inr (List.mem_append.2 (.inr (List.mem_append.2 (.inl he)))))
        by_cases hd : x ∈ uni s1.wb s2.wb
        · have hm := (hH x).1 hd
          have k1 := g1.cell x
          have k2 := g2.cell x
          -- both ways: all cells written, or a row of cells of the same type
          have fixed : ∀ {s : St}, Kept s0.forked.hp s.hp s.wc x → (∀ j, cov s.wc x j = true) ∨ (hget s.hp x = hget s0.hp x) ∨ ∃ ty cs cs', hget s0.hp x = some (.fix ty cs) ∧ hget s.hp x = some (.fix ty cs') ∧ cs'.length = cs.length ∧ ∀ j, cov s.wc x j = false → cs'[j]? = cs[j]? := fun h => h
          rcases fixed k1 with q1 | q1
          · exact .inl fun j => cov_mono m1 (q1 j)
          · rcases fixed k2 with q2 | q2
            · exact .inl fun j => cov_mono m2 (q2 j)
            · cases h0 : hget s0.hp x with
              | none =>
                have e1 : hget s1.hp x = none := by
                  rcases q1 with q1 | ⟨ty, cs, cs', q1, _⟩
                  · rw [q1, h0]
                  · rw [h0] at q1; cases q1
                rw [e1] at hm
                refine .inr (.inl ?_)
                have hn : muxBlk c (fun j => cov s1.wc x j || cov s2.wc x j) none (hget s2.hp x) = some none := rfl
                rw [hn] at hm
                exact (Option.some.inj hm).symm.trans h0.symm
              | some B0 =>
                cases B0 with
                | arr ty n k get =>
                  refine .inl fun j => cov_all (List.mem_append.2 (.inl ?_)) j
                  rw [← hW]
                  exact List.mem_map.2 ⟨x, List.mem_filter.2 ⟨hd, by rw [h0]; rfl⟩, rfl⟩
                | map sh zv get has nl =>
                  refine .inl fun j => cov_all (List.mem_append.2 (.inl ?_)) j
                  rw [← hW]
                  exact List.mem_map.2 ⟨x, List.mem_filter.2 ⟨hd, by rw [h0]; rfl⟩, rfl⟩
                | fix ty cs =>
                  have f1 : ∃ cs1, hget s1.hp x = some (.fix ty cs1) ∧ cs1.length = cs.length ∧ ∀ j, cov s1.wc x j = false → cs1[j]? = cs[j]? := by
                    rcases q1 with q1 | ⟨ty', ds, ds', a1, a2, a3, a4⟩
                    · exact ⟨cs, q1.trans h0, rfl, fun _ _ => rfl⟩
                    · rw [h0] at a1; cases a1; exact ⟨ds', a2, a3, a4⟩
                  have f2 : ∃ cs2, hget s2.hp x = some (.fix ty cs2) ∧ cs2.length = cs.length ∧ ∀ j, cov s2.wc x j = false → cs2[j]? = cs[j]? := by
                    rcases q2 with q2 | ⟨ty', ds, ds', a1, a2, a3, a4⟩
                    · exact ⟨cs, q2.trans h0, rfl, fun _ _ => rfl⟩
                    · rw [h0] at a1; cases a1; exact ⟨ds', a2, a3, a4⟩
                  obtain ⟨cs1, a1, a2, a3⟩ := f1
                  obtain ⟨cs2, b1, b2, b3⟩ := f2
                  rw [a1, b1] at hm
                  have hm' : (match zipW (mux muxD c) (fun j => cov s1.wc x j || cov s2.wc x j) 0 cs1 cs2 with | some r => some (some (Blk.fix ty r)) | none => none) = some (hget hp x) := by
                    have : muxBlk c (fun j => cov s1.wc x j || cov s2.wc x j) (some (.fix ty cs1)) (some (.fix ty cs2)) = (match Nat.beq ty ty with | true => (match zipW (mux muxD c) (fun j => cov s1.wc x j || cov s2.wc x j) 0 cs1 cs2 with | some r => some (some (Blk.fix ty r)) | none => none) | false => some none) := rfl
                    rw [this, show Nat.beq ty ty = true by simp] at hm
                    exact hm
                  cases hz : zipW (mux muxD c) (fun j => cov s1.wc x j || cov s2.wc x j) 0 cs1 cs2 with
                  | none => rw [hz] at hm'; cases hm'
                  | some r =>
                    rw [hz] at hm'
                    obtain ⟨z1, z2⟩ := zipW_len hz
                    refine .inr (.inr ⟨ty, cs, r, h0, (Option.some.inj hm').symm, z1.trans a2, fun j hj => ?_⟩)
                    have j1 := cov_mono_false m1 hj
                    have j2 := cov_mono_false m2 hj
                    exact (z2 j (by rw [Nat.zero_add, j1, j2]; rfl)).trans (a3 j j1)
        · exact .inr (.inl ((hH x).2 hd))
  · cases h
end Go.Proofs.YtamjnhpkmhbkcaaGreatDoor

/-
  PART: what all ways of the evaluator keep.
-/
namespace Go.Proofs.YtamjnhpkmhbkcaaGreatDoor
open Go.RowKit

/-- All results of all ways. -/
def Tree.All {α : Type} (Q : α → Prop) : Tree α → Prop
  | .ret a => Q a
  | .br _ t e => t.All Q ∧ e.All Q
  | .side _ t => t.All Q
  | .fail => True
theorem Tree.All.imp {α : Type} {Q Q' : α → Prop} (h : ∀ a, Q a → Q' a) : ∀ {t : Tree α}, t.All Q → t.All Q'
  | .ret a, q => h a q
  | .br _ _ _, q => ⟨q.1.imp h, q.2.imp h⟩
  | .side _ t, q => Tree.All.imp (t := t) h q
  | .fail, _ => trivial
theorem Tree.All.bind {α β : Type} {Q : α → Prop} {Q' : β → Prop} {f : α → Tree β} : ∀ {t : Tree α}, t.All Q → (∀ a, Q a → (f a).All Q') → (t.bind f).All Q'
  | .ret a, q, h => h a q
  | .br _ _ _, q, h => ⟨q.1.bind h, q.2.bind h⟩
  | .side _ t, q, h => Tree.All.bind (t := t) q h
  | .fail, _, _ => trivial
theorem Tree.All.hit {α : Type} {Q : α → Prop} : ∀ {t : Tree α}, t.All Q → ∀ {b}, t.hit b → Q b
  | .ret a, q, b, h => by cases h; exact q
  | .br _ _ _, q, b, h => h.elim (fun h => q.1.hit h.2) (fun h => q.2.hit h.2)
  | .side _ t, q, b, h => Tree.All.hit (t := t) q h.2
  | .fail, _, b, h => h.elim
theorem Tree.hit_bind {α β : Type} {f : α → Tree β} : ∀ {t : Tree α} {b : β}, (t.bind f).hit b → ∃ a, t.hit a ∧ (f a).hit b
  | .ret a, b, h => ⟨a, rfl, h⟩
  | .br _ _ _, b, h => by
    rcases h with ⟨h1, h2⟩ | ⟨h1, h2⟩
    · obtain ⟨a, k1, k2⟩ := Tree.hit_bind h2; exact ⟨a, .inl ⟨h1, k1⟩, k2⟩
    · obtain ⟨a, k1, k2⟩ := Tree.hit_bind h2; exact ⟨a, .inr ⟨h1, k1⟩, k2⟩
  | .side _ t, b, h => by
    obtain ⟨h1, h2⟩ := h
    obtain ⟨a, k1, k2⟩ := Tree.hit_bind (t := t) h2; exact ⟨a, ⟨h1, k1⟩, k2⟩
  | .fail, b, h => h.elim
/-- A state that goes on from another one, the slots as they were. -/
def GrewS (st : St) (b : AV × St) : Prop := Grew st b.2 ∧ b.2.sl = st.sl
theorem all_below {α : Type} {Q : α → Prop} {l : Bool} {i n : Nat} {t : Tree α} (h : t.All Q) : (below l i n t).All Q := by
  unfold below; cases l with
  | true => simp only []; split; exact h; trivial
  | false => exact h
theorem all_within {α : Type} {Q : α → Prop} {l : Bool} {z : Int} {n : Nat} {t : Tree α} (h : t.All Q) : (within l z n t).All Q := by
  unfold within; cases l with
  | true => simp only []; split; exact h; trivial
  | false => exact h
theorem gs_refl (a : AV) (st : St) : GrewS st (a, st) := ⟨.refl st, rfl⟩
theorem gs_read (a : AV) (st : St) (x : Nat) : GrewS st (a, st.read x) := ⟨.read st x, rfl⟩
theorem gs_new (a : AV) (st : St) (b : Blk) : GrewS st (a, st.new b) := ⟨.new st b, rfl⟩
section
variable {P : Program} {st : St}
theorem all_load (t : TypeId) (a : AV) : (loadA P t a st).All (GrewS st) := by
  unfold loadA
  split
  · split
    · split
      · split
        · exact gs_read ..
        · trivial
      · trivial
    · split
      · split
        · exact gs_read ..
        · trivial
      · trivial
    · split
      · split
        · exact all_below (gs_read ..)
        · trivial
      · trivial
    · split
      · exact gs_refl ..
      · trivial
    · trivial
  · trivial
theorem all_store (t : TypeId) (a v : AV) : (storeA P t a v st).All (GrewS st) := by
  have gw : ∀ x b B, hget st.hp x = some B → GrewS st (.unk, st.write x b) := fun x b B h => ⟨.write st x b (.inr (by rw [h]; simp)), rfl⟩
  have ga : ∀ x ty cs off n new, hget st.hp x = some (.fix ty cs) → Nat.ble (off + n) cs.length = true → Nat.beq (List.length new) n = true → GrewS st (.unk, st.writeAt x (some (.fix ty (splice cs off new))) off n) := fun x ty cs off n new h h1 h2 => ⟨.writeAt st x ty cs off n new h h1 h2, rfl⟩
  unfold storeA
  split
  · split
    · rename_i hn
      split
      · split
        · split
          · exact ga _ _ _ _ _ _ ‹_› ‹_› hn
          · trivial
        · trivial
      · split
        · split
          · exact gw _ _ _ ‹_›
          · trivial
        · trivial
      · split
        · split
          · exact all_below (gw _ _ _ ‹_›)
          · trivial
        · trivial
      · trivial
    · trivial
  · trivial
theorem all_withSt {T : Tree AV} : (withSt st T).All (GrewS st) := by
  unfold withSt
  induction T with
  | ret a => exact gs_refl ..
  | br c t e h1 h2 => exact ⟨h1, h2⟩
  | side p t h => exact h
  | fail => trivial
theorem all_pure {x : Option AV} : (pureA x st).All (GrewS st) := by
  unfold pureA; split
  · exact gs_refl ..
  · trivial
theorem all_closed {l : Bool} {p : Prop} [Decidable p] {t : Tree (AV × St)} (h : t.All (GrewS st)) : (closed l p t).All (GrewS st) := by
  unfold closed
  split
  · split
    · exact h
    · trivial
  · exact h
theorem all_un1 {x : AV} {f : Value → Sem Value} : (un1 P x f st).All (GrewS st) := by
  unfold un1; split
  · split
    · exact gs_refl ..
    · trivial
  · trivial
theorem all_bconv {src dst : TypeId} {x : AV} {p : AV × St} (h : bconvA P src dst x st = some p) : GrewS st p := by
  unfold bconvA at h
  split at h
  · split at h
    · split at h
      · split at h
        · cases h
          exact ⟨(foldl_read _ st).1, (foldl_read _ st).2.2.2.1⟩
        · cases h
      · cases h
    · cases h
  · cases h
theorem all_bconvS {src dst : TypeId} {x : AV} {c : Prop} {p : AV × St} (h : bconvS P src dst x st = some (c, p)) : GrewS st p := by
  unfold bconvS at h
  split at h
  · split at h
    · cases h
      exact ⟨(foldl_read _ st).1, (foldl_read _ st).2.2.2.1⟩
    · cases h
  · cases h
theorem all_sconv {src dst : TypeId} {x : AV} {p : AV × St} (h : sconvA P src dst x st = some p) : GrewS st p := by
  unfold sconvA at h
  split at h
  · split at h
    · cases h
      exact gs_new ..
    · cases h
  · cases h
theorem all_conv {src dst : TypeId} {x : AV} : (convA P src dst x st).All (GrewS st) := by
  unfold convA; split
  · exact gs_refl ..
  · exact all_un1
theorem all_slice (t : TypeId) (x : AV) (lo hi mx : Option AV) : (sliceA P t x lo hi mx st).All (GrewS st) := by
  unfold sliceA
  split
  · split
    · split
      · exact all_closed (gs_refl ..)
      · trivial
    · split
      · exact gs_refl ..
      · trivial
    · trivial
  · split
    · split
      · exact all_closed (gs_refl ..)
      · trivial
    · split
      · split
        · exact gs_refl ..
        · trivial
      · trivial
    · trivial
  · split
    · split
      · split
        · exact gs_refl ..
        · trivial
      · trivial
    · trivial
  · trivial
theorem all_append (sT : TypeId) (s x : AV) : (appendA P sT s x st).All (GrewS st) := by
  unfold appendA
  split
  · split
    · split
      · rename_i elem hu k z hs hz r rs q xs hcond hr hq
        obtain ⟨g1, g2, g3, g4, g5⟩ := foldl_read xs st
        dsimp only
        split
        · split
          · trivial
          · split
            · split
              · exact all_closed ⟨(g1.trans (.write _ _ none (.inl rfl))).trans (.new _ _), g4⟩
              · trivial
            · trivial
        · split
          · exact all_closed ⟨g1.trans (.new _ _), g4⟩
          · trivial
        · split
          · split
            · exact all_closed ⟨g1.trans (.new _ _), g4⟩
            · exact ⟨g1, g4⟩
          · exact ⟨⟨g1, g4⟩, all_closed ⟨g1.trans (.new _ _), g4⟩⟩
        · trivial
      · trivial
    · trivial
  · trivial
theorem all_ptrConv {src dst : TypeId} {x : AV} {p : AV × St} (h : ptrConvA P src dst x st = some p) : GrewS st p := by
  unfold ptrConvA at h
  split at h
  · split at h
    · split at h
      · split at h
        · split at h
          · cases h; exact ⟨.read .., rfl⟩
          · cases h
        · cases h
      · split at h
        · cases h; exact ⟨.read .., rfl⟩
        · cases h
      · cases h
    · cases h
  · cases h
theorem all_sliceData (x : AV) : (sliceDataA x st).All (GrewS st) := by
  unfold sliceDataA
  split
  · split
    · exact gs_refl ..
    · trivial
  · split
    · split
      · exact all_closed ⟨.read .., rfl⟩
      · trivial
    · trivial
  · trivial
theorem all_unsafeStr (ts : Array TypeId) (p n : AV) : (unsafeStrA P ts p n st).All (GrewS st) := by
  unfold unsafeStrA
  split
  · split
    · exact all_closed (gs_refl ..)
    · split
      · split
        · exact all_closed ⟨.write _ _ none (.inl rfl), rfl⟩
        · trivial
      · trivial
    · trivial
  · trivial
theorem all_copy (ts : Array TypeId) (d x : AV) : (copyA P ts d x st).All (GrewS st) := by
  unfold copyA
  split
  · split
    · split
      · rename_i m get xs _ _
        obtain ⟨g1, g2, g3, g4, g5⟩ := foldl_read xs st
        split
        · rename_i y off n k'
          split
          · rename_i ty cs hb
            split
            · rename_i hcnd
              simp only [Bool.and_eq_true] at hcnd
              have hb' : hget (xs.foldl St.read st).hp y = some (.fix ty cs) := by rw [g2]; exact hb
              exact ⟨g1.trans (.writeAt _ _ ty cs _ _ _ hb' hcnd.2.2.2.1 hcnd.2.2.2.2), g4⟩
            · trivial
          · trivial
        · split
          · rename_i hb
            split
            · exact all_closed ⟨g1.trans (.write _ _ _ (.inr (by rw [g2, hb]; simp))), g4⟩
            · trivial
          · trivial
        · trivial
      · trivial
    · trivial
  · trivial
theorem all_makeMap (t : TypeId) (h : Bool) : (makeMapA P t h st).All (GrewS st) := by
  unfold makeMapA
  split
  · split
    · exact gs_new ..
    · trivial
  · trivial
theorem all_lookup (t : TypeId) (x i : AV) (ok : Bool) : (lookupA P t x i ok st).All (GrewS st) := by
  unfold lookupA
  split
  · split
    · split
      · refine all_closed ?_
        split
        · exact ⟨.read .., rfl⟩
        · exact ⟨.read .., rfl⟩
      · trivial
    · trivial
  · trivial
theorem all_mapUpdate (t : TypeId) (m k v : AV) : (mapUpdateA P t m k v st).All (GrewS st) := by
  unfold mapUpdateA
  split
  · split
    · rename_i sh zv get has nl kv lk vv lv sh' hb _ _ _
      split
      · exact all_closed ⟨.write _ _ _ (.inr (by rw [hb]; simp)), rfl⟩
      · trivial
    · trivial
  · trivial
theorem all_builtin (b : Builtin) (ts : Array TypeId) (ty : TypeId) (args : List AV) : (builtinA P b ts ty args st).All (GrewS st) := by
  have sc : ∀ (f : Array Value → Sem Value), (match scals args with
      | some (vs, l) => match semVal P (f vs.toArray) with
        | some r => Tree.ret (litOr l r, st)
        | none => .fail
      | none => .fail : Tree (AV × St)).All (GrewS st) := fun f => by
    split
    · split
      · exact gs_refl ..
      · trivial
    · trivial
  unfold builtinA
  split
  · split
    · exact gs_refl ..
    · trivial
  · split
    · exact all_append ..
    · trivial
  · exact sc _
  · exact sc _
  · exact sc _
  · exact sc _
  · exact sc _
  · exact all_sliceData ..
  · exact all_copy ..
  · exact all_unsafeStr ..
  · trivial
def CallsAll (r : Evs) : Prop := ∀ f args st, (r.call f args st).All (GrewS st)
theorem all_op {cx : Cx} {r : Evs} (hr : CallsAll r) (o : Oper) : (evalOp cx r o st).All (GrewS st) := by
  unfold evalOp
  split
  · exact gs_refl ..
  · exact gs_refl ..
  · split
    · split <;> exact gs_refl ..
    · exact all_pure
    · trivial
  · split
    · exact gs_new ..
    · trivial
  · split
    · exact gs_new ..
    · trivial
  · exact all_pure
  · unfold buildSliceA
    split
    · split
      · split
        · split
          · exact gs_new ..
          · trivial
        · trivial
      · trivial
    · trivial
  · exact all_load ..
  · exact all_store ..
  · split <;> first | exact gs_refl .. | trivial
  · exact all_withSt
  · exact all_un1
  · exact all_makeMap ..
  · exact all_lookup ..
  · exact all_mapUpdate ..
  · exact all_mapUpdate ..
  · split
    · rename_i p hp; exact all_ptrConv hp
    split
    · rename_i p hp; exact all_bconv hp
    split
    · rename_i c p hp; exact all_bconvS hp
    split
    · rename_i p hp; exact all_sconv hp
    · exact all_conv
  · exact all_un1
  · exact gs_refl ..
  · unfold makeSliceA
    split
    · split
      · split
        · exact all_closed (gs_new ..)
        · trivial
      · trivial
    · trivial
  · split
    · exact all_slice ..
    · trivial
  · exact all_pure
  · exact all_pure
  · exact all_withSt
  · exact all_withSt
  · split
    · exact all_pure
    · trivial
  · split
    · exact all_builtin ..
    · unfold callA
      split
      · exact hr ..
      · trivial
    · trivial
  · trivial
end
/-! Forks. -/
theorem peel_ok {α : Type} : ∀ (t : Tree α), (∀ b, t.hit b ↔ (∀ p, t.peel.1 = some p → p) ∧ t.peel.2.hit b) ∧ ∀ Q, t.All Q ↔ t.peel.2.All Q
  | .ret a => ⟨fun b => ⟨fun h => ⟨fun p h => (by cases h), h⟩, fun h => h.2⟩, fun Q => Iff.rfl⟩
  | .br c t e => ⟨fun b => ⟨fun h => ⟨fun p h => (by cases h), h⟩, fun h => h.2⟩, fun Q => Iff.rfl⟩
  | .fail => ⟨fun b => ⟨fun h => ⟨fun p h => (by cases h), h⟩, fun h => h.2⟩, fun Q => Iff.rfl⟩
  | .side p t => by
    obtain ⟨h1, h2⟩ := peel_ok t
    constructor
    · intro b
      show p ∧ t.hit b ↔ _
      rw [h1 b]
      simp only [Tree.peel]
      cases hp : t.peel with
      | mk q u => cases q with
        | none => exact ⟨fun h => ⟨fun r hr => (by cases hr; exact h.1), h.2.2⟩, fun h => ⟨h.1 p rfl, fun r hr => (by cases hr), h.2⟩⟩
        | some q => exact ⟨fun h => ⟨fun r hr => (by cases hr; exact ⟨h.1, h.2.1 q rfl⟩), h.2.2⟩, fun h => ⟨(h.1 (p ∧ q) rfl).1, fun r hr => (by cases hr; exact (h.1 (p ∧ q) rfl).2), h.2⟩⟩
    · intro Q
      show t.All Q ↔ _
      rw [h2 Q]
      simp only [Tree.peel]
      cases hp : t.peel with
      | mk q u => cases q <;> rfl
theorem refork_ok {s0 : St} {x : Ex} {m : St} : ∀ {t : Tree (Ex × St)}, (reFork s0 t).hit (x, m) → ∃ s, t.hit (x, s) ∧ m = { s with ws := uni s0.ws s.ws, wb := uni s0.wb s.wb, wc := s.wc ++ s0.wc }
  | .ret (y, s), h => by cases h; exact ⟨s, rfl, rfl⟩
  | .br c t e, h => by
    rcases h with ⟨h1, h2⟩ | ⟨h1, h2⟩
    · obtain ⟨s, k1, k2⟩ := refork_ok h2; exact ⟨s, .inl ⟨h1, k1⟩, k2⟩
    · obtain ⟨s, k1, k2⟩ := refork_ok h2; exact ⟨s, .inr ⟨h1, k1⟩, k2⟩
  | .side p t, h => by
    obtain ⟨h1, h2⟩ := h
    obtain ⟨s, k1, k2⟩ := refork_ok (t := t) h2; exact ⟨s, ⟨h1, k1⟩, k2⟩
  | .fail, h => h.elim
theorem refork_all {s0 : St} {Q : Ex × St → Prop} : ∀ {t : Tree (Ex × St)}, t.All (fun b => Q (b.1, { b.2 with ws := uni s0.ws b.2.ws, wb := uni s0.wb b.2.wb, wc := b.2.wc ++ s0.wc })) → (reFork s0 t).All Q
  | .ret (y, s), h => h
  | .br c t e, h => ⟨refork_all h.1, refork_all h.2⟩
  | .side p t, h => refork_all (t := t) h
  | .fail, h => trivial
theorem grew_refork {s0 s : St} (g : Grew s0.forked s) : Grew s0 { s with ws := uni s0.ws s.ws, wb := uni s0.wb s.wb, wc := s.wc ++ s0.wc } :=
  ⟨g.wf, g.nx, g.rd, g.wr, fun x h => mem_uni.2 (.inl h), fun x h => mem_uni.2 (.inl h), fun d hd => g.slot d fun h => hd (mem_uni.2 (.inr h)), fun x hx => g.blkb x fun h => hx (mem_uni.2 (.inr h)), g.blkr,
   fun x hx => (mem_uni.1 hx).elim .inl fun h => (g.wbr x h).elim (fun h => by cases h) .inr, fun e h => List.mem_append.2 (.inr h), fun x => (g.cell x).wc fun e h => List.mem_append.2 (.inl h)⟩
theorem wkn_refork {s0 s : St} : Wkn s { s with ws := uni s0.ws s.ws, wb := uni s0.wb s.wb, wc := s.wc ++ s0.wc } := ⟨fun _ _ _ h => h, fun _ B h => ⟨B, h, fun _ _ h => h⟩, Nat.le_refl _, fun _ h => h, fun _ h => h⟩
theorem eqEx_eq {x y : Ex} (h : eqEx x y = true) : x = y := by
  unfold eqEx at h
  split at h
  · rfl
  · rw [Nat.eq_of_beq_eq_true h]
  · rw [Nat.eq_of_beq_eq_true h]
  · rfl
  · cases h
def GrewX (s0 : St) (b : Ex × St) : Prop := Grew s0 b.2
theorem joinT_ok {c : Bool} {s0 : St} {t e : Tree (Ex × St)} (ht : t.All (GrewX s0.forked)) (he : e.All (GrewX s0.forked)) :
    (joinT c s0 t e).All (GrewX s0) ∧ ∀ x m, (joinT c s0 t e).hit (x, m) → (c = true → ∃ s, t.hit (x, s) ∧ Wkn s m) ∧ (c = false → ∃ s, e.hit (x, s) ∧ Wkn s m) := by
  have brk : (Tree.br c (reFork s0 t) (reFork s0 e)).All (GrewX s0) ∧ ∀ x m, (Tree.br c (reFork s0 t) (reFork s0 e)).hit (x, m) → (c = true → ∃ s, t.hit (x, s) ∧ Wkn s m) ∧ (c = false → ∃ s, e.hit (x, s) ∧ Wkn s m) := by
    refine ⟨⟨refork_all (ht.imp fun b h => grew_refork h), refork_all (he.imp fun b h => grew_refork h)⟩, fun x m h => ?_⟩
    rcases h with ⟨h1, h2⟩ | ⟨h1, h2⟩
    · obtain ⟨s, k1, rfl⟩ := refork_ok h2
      exact ⟨fun _ => ⟨s, k1, wkn_refork⟩, fun h => by rw [h1] at h; cases h⟩
    · obtain ⟨s, k1, rfl⟩ := refork_ok h2
      exact ⟨fun h => (by rw [h1] at h; cases h), fun _ => ⟨s, k1, wkn_refork⟩⟩
  unfold joinT
  split
  · rename_i x s1 y s2
    split
    · rename_i hx
      obtain rfl := eqEx_eq hx
      split
      · rename_i m hm
        obtain ⟨k1, k2, k3⟩ := mergeS_ok hm ht he
        refine ⟨k3, fun x' m' h => ?_⟩
        cases h
        exact ⟨fun h => ⟨s1, rfl, k1 h⟩, fun h => ⟨s2, rfl, k2 h⟩⟩
      · exact brk
    · exact brk
  · exact brk
theorem forkT_ok {c : Bool} {s0 : St} {t e : Tree (Ex × St)} (ht : t.All (GrewX s0.forked)) (he : e.All (GrewX s0.forked)) :
    (forkT c s0 t e).All (GrewX s0) ∧ ∀ x m, (forkT c s0 t e).hit (x, m) → (c = true → ∃ s, t.hit (x, s) ∧ Wkn s m) ∧ (c = false → ∃ s, e.hit (x, s) ∧ Wkn s m) := by
  obtain ⟨p1, p2⟩ := peel_ok t
  obtain ⟨q1, q2⟩ := peel_ok e
  have hj := joinT_ok (c := c) ((p2 _).1 ht) ((q2 _).1 he)
  have lift : ∀ x m, (joinT c s0 t.peel.2 e.peel.2).hit (x, m) → (c = true → ∀ p, t.peel.1 = some p → p) → (c = false → ∀ p, e.peel.1 = some p → p) → (c = true → ∃ s, t.hit (x, s) ∧ Wkn s m) ∧ (c = false → ∃ s, e.hit (x, s) ∧ Wkn s m) := by
    intro x m h h1 h2
    obtain ⟨k1, k2⟩ := hj.2 x m h
    exact ⟨fun hc => let ⟨s, a, b⟩ := k1 hc; ⟨s, (p1 _).2 ⟨h1 hc, a⟩, b⟩, fun hc => let ⟨s, a, b⟩ := k2 hc; ⟨s, (q1 _).2 ⟨h2 hc, a⟩, b⟩⟩
  unfold forkT
  cases ht' : t.peel with
  | mk po u => cases he' : e.peel with
    | mk qo v =>
      rw [ht', he'] at hj lift
      cases po with
      | none => cases qo with
        | none => exact ⟨hj.1, fun x m h => lift x m h (fun _ p h => (by cases h)) (fun _ p h => (by cases h))⟩
        | some q => exact ⟨hj.1, fun x m h => lift x m h.2 (fun _ p h => (by cases h)) (fun hc p hp => by cases hp; exact h.1 hc)⟩
      | some p => cases qo with
        | none => exact ⟨hj.1, fun x m h => lift x m h.2 (fun hc p hp => by cases hp; exact h.1 hc) (fun _ p h => (by cases h))⟩
        | some q => exact ⟨hj.1, fun x m h => lift x m h.2 (fun hc p hp => by cases hp; exact h.1.1 hc) (fun hc p hp => by cases hp; exact h.1.2 hc)⟩
theorem decT_ok {d : Option Bool} {c : Bool} {s0 : St} {t e : Tree (Ex × St)} (ht : t.All (GrewX s0.forked)) (he : e.All (GrewX s0.forked)) :
    (decT d c s0 t e).All (GrewX s0) ∧ ∀ x m, (decT d c s0 t e).hit (x, m) → (c = true → ∃ s, t.hit (x, s) ∧ Wkn s m) ∧ (c = false → ∃ s, e.hit (x, s) ∧ Wkn s m) := by
  unfold decT
  split
  · exact forkT_ok ht he
  · refine ⟨refork_all (ht.imp fun b h => grew_refork h), fun x m h => ?_⟩
    obtain ⟨h1, h2⟩ := h
    obtain ⟨s, k1, rfl⟩ := refork_ok h2
    exact ⟨fun _ => ⟨s, k1, wkn_refork⟩, fun h => by rw [h1] at h; cases h⟩
  · refine ⟨refork_all (he.imp fun b h => grew_refork h), fun x m h => ?_⟩
    obtain ⟨h1, h2⟩ := h
    obtain ⟨s, k1, rfl⟩ := refork_ok h2
    exact ⟨fun h => (by rw [h1] at h; cases h), fun _ => ⟨s, k1, wkn_refork⟩⟩
end Go.Proofs.YtamjnhpkmhbkcaaGreatDoor

/-
  PART: regions: a way through a region; regions that go in the text's order.
-/
namespace Go.Proofs.YtamjnhpkmhbkcaaGreatDoor
open Go.RowKit

section
variable {cx : Cx} {r : Evs} {ops : Array Oper} {draw : Bool}
theorem all_opYes (hr : CallsAll r) (o : Oper) (st : St) : (opYes cx r draw o st).All (fun b => Grew st b.2) := by
  unfold opYes
  cases draw with
  | true =>
    refine (all_op hr o (st := st.fresh)).bind fun b hb => ?_
    obtain ⟨g, hsl⟩ := hb
    have : Grew st (b.2.logs st) :=
      ⟨g.wf, g.nx, fun x h => mem_uni.2 (.inr h), fun x h => mem_uni.2 (.inr h), g.ws, g.wb, g.slot, g.blkb, fun x hx => g.blkr x fun h => hx (mem_uni.2 (.inl h)), fun x hx => (g.wbr x hx).imp id fun h => mem_uni.2 (.inl h), g.wc, g.cell⟩
    exact this.trans (.put _ _ _)
  | false =>
    refine (all_op hr o (st := st)).bind fun b hb => ?_
    exact hb.1.trans (.put _ _ _)
theorem opNo_grew (o : Oper) (st : St) : Grew st (opNo o st) := .put _ _ _
theorem forked_put (st : St) (d : Nat) (a : AV) : Grew st.forked (st.forked.put (some d) a) := .put _ _ _
theorem forked_wf {st : St} (h : Wf st) : Wf st.forked := h
theorem all_opsE (hr : CallsAll r) : ∀ (l : List Oper) (i : Nat) (recs : List (Nat × Rec)) (st : St), (opsE cx r ops draw l i recs st).All (GrewX st)
  | [], i, recs, st => by
    unfold opsE
    split
    · exact .refl st
    · split
      · exact .refl st
      · trivial
  | o :: l, i, recs, st => by
    have yes : ∀ st, ((opYes cx r draw o st).bind fun (q, s) => opsE cx r ops draw l (i + 1) ((i, q) :: recs) s).All (GrewX st) := fun st =>
      (all_opYes hr o st).bind fun b hb => (all_opsE hr l (i + 1) ((i, b.1) :: recs) b.2).imp fun c hc => hb.trans hc
    have no : ∀ st, (opsE cx r ops draw l (i + 1) recs (opNo o st)).All (GrewX st) := fun st =>
      (all_opsE hr l (i + 1) recs (opNo o st)).imp fun c hc => (opNo_grew o st).trans hc
    unfold opsE
    split
    · exact yes st
    · split
      · trivial
      · rename_i d _ _
        split
        · split
          · exact yes st
          · exact no st
        · dsimp only
          split
          · exact (decT_ok ((yes _).imp fun c hc => (forked_put ..).trans hc) ((no _).imp fun c hc => (forked_put ..).trans hc)).1
          · exact (decT_ok ((no _).imp fun c hc => (forked_put ..).trans hc) ((yes _).imp fun c hc => (forked_put ..).trans hc)).1
        · split
          · exact no st
          · trivial
/-- Is an operation wanted, by what a state says? -/
def Want (ops : Array Oper) (o : Oper) (st : St) (b : Bool) : Prop :=
  (o.guard = none ∧ b = true) ∨ ∃ d w, guardOf ops o = some (d, w) ∧ ((∃ v l, boolOf (look st.sl d) = some (v, l) ∧ b = (v == w)) ∨ (look st.sl d = .tup [] ∧ b = false))
/-- One way through a region. -/
inductive Path (cx : Cx) (r : Evs) (ops : Array Oper) (draw : Bool) : List Oper → Nat → List (Nat × Rec) → St → List (Nat × Rec) → St → Prop
  | nil (i recs st) : Path cx r ops draw [] i recs st recs st
  | yes {o l i recs st q s recs' st'} (hg : Want ops o st true) (h : (opYes cx r draw o st).hit (q, s)) (t : Path cx r ops draw l (i + 1) ((i, q) :: recs) s recs' st') : Path cx r ops draw (o :: l) i recs st recs' st'
  | no {o l i recs st recs' st'} (hg : Want ops o st false) (t : Path cx r ops draw l (i + 1) recs (opNo o st) recs' st') : Path cx r ops draw (o :: l) i recs st recs' st'
  | asm {o l i recs st recs' st'} (d : Nat) (b lt : Bool) (he : boolOf (look st.sl d) = some (b, lt)) (t : Path cx r ops draw (o :: l) i recs (st.forked.put (some d) (.lit (.bool b))) recs' st') : Path cx r ops draw (o :: l) i recs st recs' st'
theorem path_of (hr : CallsAll r) : ∀ (l : List Oper) (i : Nat) (recs : List (Nat × Rec)) (st : St) (x : Ex) (m : St), (opsE cx r ops draw l i recs st).hit (x, m) →
    x = .norm ∧ ∃ recs' s, Path cx r ops draw l i recs st recs' s ∧ Wkn s m ∧ (Wf st → Wf s) ∧ (draw = true → okRecs (Region.before ops) recs' = true)
  | [], i, recs, st, x, m, h => by
    unfold opsE at h
    split at h
    · cases h; exact ⟨rfl, recs, st, .nil .., .refl _, id, fun h => by cases h⟩
    · split at h
      · rename_i hok; cases h; exact ⟨rfl, recs, st, .nil .., .refl _, id, fun _ => hok⟩
      · exact h.elim
  | o :: l, i, recs, st, x, m, h => by
    have yes : ∀ st m, Want ops o st true → ((opYes cx r draw o st).bind fun (q, s) => opsE cx r ops draw l (i + 1) ((i, q) :: recs) s).hit (x, m) →
        x = .norm ∧ ∃ recs' s, Path cx r ops draw (o :: l) i recs st recs' s ∧ Wkn s m ∧ (Wf st → Wf s) ∧ (draw = true → okRecs (Region.before ops) recs' = true) := by
      intro st m hg h
      obtain ⟨⟨q, s⟩, h1, h2⟩ := Tree.hit_bind h
      have hws := ((all_opYes hr o st).hit h1).wf
      obtain ⟨rfl, recs', s', k1, k2, k3, k4⟩ := path_of hr l (i + 1) ((i, q) :: recs) s x m h2
      exact ⟨rfl, recs', s', .yes hg h1 k1, k2, fun h => k3 (hws h), k4⟩
    have no : ∀ st m, Want ops o st false → (opsE cx r ops draw l (i + 1) recs (opNo o st)).hit (x, m) →
        x = .norm ∧ ∃ recs' s, Path cx r ops draw (o :: l) i recs st recs' s ∧ Wkn s m ∧ (Wf st → Wf s) ∧ (draw = true → okRecs (Region.before ops) recs' = true) := by
      intro st m hg h
      obtain ⟨rfl, recs', s', k1, k2, k3, k4⟩ := path_of hr l (i + 1) recs (opNo o st) x m h
      exact ⟨rfl, recs', s', .no hg k1, k2, fun h => k3 ((opNo_grew o st).wf h), k4⟩
    have ayes : ∀ st, ((opYes cx r draw o st).bind fun (q, s) => opsE cx r ops draw l (i + 1) ((i, q) :: recs) s).All (GrewX st) := fun st =>
      (all_opYes hr o st).bind fun b hb => (all_opsE hr l (i + 1) ((i, b.1) :: recs) b.2).imp fun c hc => hb.trans hc
    have ano : ∀ st, (opsE cx r ops draw l (i + 1) recs (opNo o st)).All (GrewX st) := fun st =>
      (all_opsE hr l (i + 1) recs (opNo o st)).imp fun c hc => (opNo_grew o st).trans hc
    unfold opsE at h
    split at h
    · rename_i hg; exact yes st m (.inl ⟨hg, rfl⟩) h
    · rename_i jj w hgd
      split at h
      · exact h.elim
      · rename_i d w' hgo
        have hw' : w' = w := by
          unfold guardOf at hgo
          rw [hgd] at hgo
          split at hgo
          · cases hgo
          · rename_i j2 w2 he
            cases he
            split at hgo
            · split at hgo
              · cases hgo; rfl
              · cases hgo
            · cases hgo
        subst hw'
        split at h
        · rename_i b hb
          split at h
          · rename_i hbw; exact yes st m (.inr ⟨d, w', hgo, .inl ⟨b, true, hb, hbw.symm⟩⟩) h
          · rename_i hbw; exact no st m (.inr ⟨d, w', hgo, .inl ⟨b, true, hb, hbw.symm⟩⟩) h
        · rename_i e hb
          have hlk : ∀ b, boolOf (look (st.forked.put (some d) (.lit (.bool b))).sl d) = some (b, true) := fun b => by
            show boolOf (look ((d, .lit (.bool b)) :: st.sl) d) = _
            rw [look_cons, if_pos rfl]; rfl
          dsimp only at h
          split at h
          · obtain ⟨_, hf⟩ := decT_ok (c := e) (s0 := st) ((ayes (st.forked.put (some d) (.lit (.bool true)))).imp fun c hc => (forked_put ..).trans hc) ((ano (st.forked.put (some d) (.lit (.bool false)))).imp fun c hc => (forked_put ..).trans hc)
            obtain ⟨f1, f2⟩ := hf x m h
            cases e with
            | true =>
              obtain ⟨s1, k1, k2⟩ := f1 rfl
              obtain ⟨rfl, recs', s', q1, q2, q3⟩ := yes _ s1 (.inr ⟨d, true, hgo, .inl ⟨true, true, hlk true, rfl⟩⟩) k1
              exact ⟨rfl, recs', s', .asm d true false hb q1, q2.trans k2, q3⟩
            | false =>
              obtain ⟨s1, k1, k2⟩ := f2 rfl
              obtain ⟨rfl, recs', s', q1, q2, q3⟩ := no _ s1 (.inr ⟨d, true, hgo, .inl ⟨false, true, hlk false, rfl⟩⟩) k1
              exact ⟨rfl, recs', s', .asm d false false hb q1, q2.trans k2, q3⟩
          · obtain ⟨_, hf⟩ := decT_ok (c := e) (s0 := st) ((ano (st.forked.put (some d) (.lit (.bool true)))).imp fun c hc => (forked_put ..).trans hc) ((ayes (st.forked.put (some d) (.lit (.bool false)))).imp fun c hc => (forked_put ..).trans hc)
            obtain ⟨f1, f2⟩ := hf x m h
            cases e with
            | true =>
              obtain ⟨s1, k1, k2⟩ := f1 rfl
              obtain ⟨rfl, recs', s', q1, q2, q3⟩ := no _ s1 (.inr ⟨d, false, hgo, .inl ⟨true, true, hlk true, rfl⟩⟩) k1
              exact ⟨rfl, recs', s', .asm d true false hb q1, q2.trans k2, q3⟩
            | false =>
              obtain ⟨s1, k1, k2⟩ := f2 rfl
              obtain ⟨rfl, recs', s', q1, q2, q3⟩ := yes _ s1 (.inr ⟨d, false, hgo, .inl ⟨false, true, hlk false, rfl⟩⟩) k1
              exact ⟨rfl, recs', s', .asm d false false hb q1, q2.trans k2, q3⟩
        · split at h
          · rename_i hlk; exact no st m (.inr ⟨d, w', hgo, .inr ⟨hlk, rfl⟩⟩) h
          · exact h.elim
/-! Frames. -/
structure Fr (N : Nat) (E : Env) (st : St) (act : Act) : Prop where
  size : act.tmps.size = N
  slot : ∀ d, Rep E (look st.sl d) (act.tmps.getD d undef)
theorem Fr.mono {N : Nat} {E E' : Env} {st : St} {act : Act} (h : Fr N E st act) (hl : E.le E') : Fr N E' st act := ⟨h.size, fun d => (h.slot d).mono hl⟩
theorem Fr.wkn {N : Nat} {E : Env} {st m : St} {act : Act} (h : Fr N E st act) (k : Wkn st m) : Fr N E m act := ⟨h.size, fun d => k.slot E d _ (h.slot d)⟩
theorem getD_put {t : Array Value} {d : Nat} {v : Value} (hd : d < t.size) (e : Nat) : (t.setIfInBounds d v).getD e undef = if d = e then v else t.getD e undef := by
  by_cases h : d = e
  · subst h; rw [if_pos rfl]; simp [hd]
  · rw [if_neg h]; simp [Array.getElem?_setIfInBounds_ne h]
/-- The operation's slot is one of the frame's. -/
def DstIn (N : Nat) (o : Oper) : Prop := ∀ d, o.dst = some d → d < N
theorem Fr.put {N : Nat} {E : Env} {st : St} {act : Act} {o : Oper} {a : AV} {v : Value} (h : Fr N E st act) (hd : DstIn N o) (hv : Rep E a v) : Fr N E (st.put o.dst a) (act.put o.dst v) := by
  cases ho : o.dst with
  | none => exact h
  | some d =>
    have hlt := hd d ho
    refine ⟨by show (act.tmps.setIfInBounds d v).size = N; simpa using h.size, fun e => ?_⟩
    show Rep E (look ((d, a) :: st.sl) e) ((act.tmps.setIfInBounds d v).getD e undef)
    rw [look_cons, getD_put (by rw [h.size]; exact hlt)]
    by_cases he : d = e
    · rw [if_pos he, if_pos he]; exact hv
    · rw [if_neg he, if_neg he]; exact h.slot e
theorem global_rep {E : Env} {act : Act} (g : Nat) : Rep E (gmA g) (act.eval (.global g)) := by
  unfold gmA
  split
  · rename_i c hc
    split
    · rename_i hone
      have ho := one_of_all hone
      have := Rep.fz (E := E) (b := g) (base := 0) (off := 0) (cs := c.toList.map .lit) ((E.gok g).1 c hc) (by simp) (by rw [List.drop_zero, List.length_map, List.take_length]; exact Reps.lits _ ho) (by rw [List.drop_zero, List.length_map, List.take_length]; exact ho)
      exact this
    · exact .unk _
  · exact .unk _
theorem Fr.val {N : Nat} {E : Env} {st : St} {act : Act} (h : Fr N E st act) (x : Operand) : Rep E (st.val x) (act.eval x) := by
  cases x with
  | tmp t => exact h.slot t
  | const v => exact constR v
  | global g => exact global_rep g
  | func f => exact .fn .nil .nil
theorem yielded_bool {ops : Array Oper} {o : Oper} {d : Nat} {w : Bool} (hg : guardOf ops o = some (d, w)) (tmps : Array Value) : ∃ j, o.guard = some (j, w) ∧ yielded ops tmps j = match tmps.getD d undef with | .bool b => some b | _ => none := by
  unfold guardOf at hg
  split at hg
  · cases hg
  · rename_i j w' hgd
    split at hg
    · rename_i p hp
      split at hg
      · rename_i d' hd
        cases hg
        refine ⟨j, hgd, ?_⟩
        unfold yielded
        simp only [hp, Option.bind_some, hd]
        rw [Array.getD_eq_getD_getElem?]
        cases tmps[d]? with
        | none => rfl
        | some v => cases v <;> rfl
      · cases hg
    · cases hg
theorem want_ok {E : Env} {st : St} {act : Act} {o : Oper} {b : Bool} (h : Want ops o st b) (hs : ∀ d w, guardOf ops o = some (d, w) → Rep E (look st.sl d) (act.tmps.getD d undef)) : Region.wanted o (yielded ops act.tmps) = b := by
  rcases h with ⟨hg, rfl⟩ | ⟨d, w, hg, h⟩
  · unfold Region.wanted; rw [hg]
  · obtain ⟨j, hj, hy⟩ := yielded_bool hg act.tmps
    have hR := hs d w hg
    unfold Region.wanted
    rw [hj]
    simp only [hy]
    rcases h with ⟨v, l, hv, rfl⟩ | ⟨hv, rfl⟩
    · rw [boolOf_rep hv hR]
      cases v <;> cases w <;> rfl
    · rw [hv] at hR
      generalize act.tmps.getD d undef = u at hR
      cases hR
      rfl
/-! Along a way. -/
structure Gs (s s' : St) : Prop where
  wf : Wf s → Wf s'
  nx : s.nx ≤ s'.nx
  rd : ∀ x, x ∈ s.rd → x ∈ s'.rd
  wr : ∀ x, x ∈ s.wr → x ∈ s'.wr
theorem Grew.gs {s s' : St} (g : Grew s s') : Gs s s' := ⟨g.wf, g.nx, g.rd, g.wr⟩
theorem Gs.trans {a b c : St} (h : Gs a b) (k : Gs b c) : Gs a c := ⟨fun d => k.wf (h.wf d), Nat.le_trans h.nx k.nx, fun x d => k.rd x (h.rd x d), fun x d => k.wr x (h.wr x d)⟩
theorem gs_asm (st : St) (d : Nat) (a : AV) : Gs st (st.forked.put (some d) a) := ⟨fun h => h, Nat.le_refl _, fun _ h => h, fun _ h => h⟩
theorem path_gs (hr : CallsAll r) {l : List Oper} {i : Nat} {recs recs' : List (Nat × Rec)} {st st' : St} (h : Path cx r ops draw l i recs st recs' st') : Gs st st' := by
  induction h with
  | nil => exact (Grew.refl _).gs
  | yes hg h t ih => exact ((all_opYes hr _ _).hit h).gs.trans ih
  | no hg t ih => exact (opNo_grew _ _).gs.trans ih
  | asm d b lt he t ih => exact (gs_asm _ _ _).trans ih
theorem Pst.more {FP : Nat → Prop} {E E' : Env} {H H' : Nat → Option Blk} {nx nx' : Nat} {wr wr' : List Nat} {w w' : World} (p : Pst FP E E' H H' nx nx' wr w w') (h : ∀ x, x ∈ wr → x ∈ wr') : Pst FP E E' H H' nx nx' wr' w w' :=
  ⟨⟨p.le, p.dom, p.sim, fun b hb hx => p.frame b hb fun x hx' => hx x (h x hx'), fun x h1 h2 hF hn hv => (p.news x h1 h2 hF hn hv).imp id fun ⟨y, hy, q⟩ => ⟨y, h y hy, q⟩, p.size, p.os, p.tape, p.output⟩, p.old⟩
theorem boolOf_lit {E : Env} {a : AV} {b l : Bool} (h : boolOf a = some (b, l)) (v : Value) : Rep E a v ↔ Rep E (.lit (.bool b)) v :=
  ⟨fun hv => by rw [boolOf_rep h hv]; exact .lit _ rfl, fun hv => by cases hv; exact rep_boolOf h⟩
theorem asm_rep {st : St} {d : Nat} {b l : Bool} (he : boolOf (look st.sl d) = some (b, l)) (E : Env) (e : Nat) (v : Value) : Rep E (look (st.forked.put (some d) (.lit (.bool b))).sl e) v ↔ Rep E (look st.sl e) v := by
  show Rep E (look ((d, .lit (.bool b)) :: st.sl) e) v ↔ _
  rw [look_cons]
  by_cases h : d = e
  · subst h; rw [if_pos rfl]; exact (boolOf_lit he v).symm
  · rw [if_neg h]
/-- A region in the text's order. -/
theorem path_seq {P : Program} (hP : cx.P = P) (hr : CallsAll r) (hok : CallsOk P r) {N : Nat} {D : List Deferred} {rr : Option Nat} {Q : Exit → Act → World → Prop} {FP : Nat → Prop} {l : List Oper} {i : Nat} {recs recs' : List (Nat × Rec)} {st st' : St}
    (h : Path cx r ops false l i recs st recs' st') : (∀ j o, l[j]? = some o → ops[i + j]? = some o) → (∀ o, o ∈ l → DstIn N o) → ∀ (E : Env) (act : Act) (w : World), Wf st → Cov FP st st' → Free E st.nx st'.nx → Sim FP E (hget st.hp) w → Fr N E st act → act.defers = D →
    (∀ E' act' w', Fr N E' st' act' → act'.defers = D → Pst FP E E' (hget st.hp) (hget st'.hp) st.nx st'.nx st'.wr w w' → Q .normal act' w') → wpOpsIn (wideR rr) 0 P ops Q (List.range' i l.length) act w := by
  subst hP
  have hdf : ∀ (o : Oper) (act : Act) (v : Value), (act.put o.dst v).defers = act.defers := fun o act v => by cases ho : o.dst <;> rfl
  induction h with
  | nil i recs st => exact fun _ _ E act w _ _ _ hS hf hd hQ => hQ E act w hf hd (Pst.refl hS)
  | @yes o l i recs st q s recs' st' hg h t ih =>
    intro hl hdst E act w hwf hcov hfree hS hf hd hQ
    have hgs := path_gs hr t
    have hgr := ((all_opYes hr _ _).hit h : Grew st s)
    unfold opYes at h
    simp only [] at h
    obtain ⟨⟨a, s1⟩, h1, h2⟩ := Tree.hit_bind h
    cases h2
    have ok := op_sound hok h1
    have hcovs : Cov FP st s1 := fun x hx => hcov x (by
      rcases hx with hx | hx | ⟨h1, h2⟩
      · exact .inl (hgs.rd x ((Grew.put s1 o.dst a).rd x hx))
      · exact .inr (.inl (hgs.wr x ((Grew.put s1 o.dst a).wr x hx)))
      · exact .inr (.inr ⟨h1, Nat.lt_of_lt_of_le h2 (Nat.le_trans (Grew.put s1 o.dst a).nx hgs.nx)⟩))
    have hnx1 : (s1.put o.dst a).nx = s1.nx := by cases o.dst <;> rfl
    have hhp1 : (s1.put o.dst a).hp = s1.hp := by cases o.dst <;> rfl
    have hwr1 : (s1.put o.dst a).wr = s1.wr := by cases o.dst <;> rfl
    rw [List.length_cons, List.range'_succ, wpOpsIn_cons]
    have ho := hl 0 o rfl
    rw [Nat.add_zero] at ho
    unfold wpOpIn
    rw [ho]
    simp only [want_ok hg (fun d w _ => hf.slot d), if_true]
    refine ok.run rr FP E act w _ _ hwf hcovs (fun x h1 h2 => hfree x h1 (Nat.lt_of_lt_of_le h2 (by rw [← hnx1]; exact hgs.nx))) hS (fun x _ => hf.val x) fun E' v w' hv hp => ?_
    have hf' : Fr N E' (s1.put o.dst a) (act.put o.dst v) := by
      have h0 : Fr N E' st act := hf.mono hp.le
      have h1 : Fr N E' s1 act := ⟨h0.size, fun d => by rw [ok.sl]; exact h0.slot d⟩
      exact h1.put (hdst o (List.mem_cons_self ..)) hv
    have hp' : Pst FP E E' (hget st.hp) (hget (s1.put o.dst a).hp) st.nx (s1.put o.dst a).nx st'.wr w w' := by
      rw [hnx1, hhp1]
      exact hp.more fun x hx => hgs.wr x (by rw [hwr1]; exact hx)
    refine ih (fun j o' hj => by have := hl (j + 1) o' hj; rwa [show i + (j + 1) = i + 1 + j by omega] at this) (fun o' ho' => hdst o' (List.mem_cons_of_mem _ ho')) E' (act.put o.dst v) w' (hgr.wf hwf) (fun x hx => hcov x ?_) (fun x h1 h2 hd' => ?_) hp'.sim hf' ((hdf o act v).trans hd) fun E'' act'' w'' k1 k2 k3 => hQ E'' act'' w'' k1 k2 (Pst.trans hS (fun x hx => hcov x (.inr (.inl hx))) hp' k3 hgr.nx hgs.nx)
    · rcases hx with hx | hx | ⟨h1, h2⟩
      · exact .inl hx
      · exact .inr (.inl hx)
      · exact .inr (.inr ⟨Nat.le_trans hgr.nx h1, h2⟩)
    · rcases hp'.dom x hd' with h | h
      · exact hfree x (Nat.le_trans hgr.nx h1) h2 h
      · exact absurd h.2 (Nat.not_lt.2 h1)
  | @no o l i recs st recs' st' hg t ih =>
    intro hl hdst E act w hwf hcov hfree hS hf hd hQ
    have hgs := path_gs hr t
    have hnx1 : (opNo o st).nx = st.nx := by unfold opNo; cases o.dst <;> rfl
    have hhp1 : (opNo o st).hp = st.hp := by unfold opNo; cases o.dst <;> rfl
    rw [List.length_cons, List.range'_succ, wpOpsIn_cons]
    have ho := hl 0 o rfl
    rw [Nat.add_zero] at ho
    unfold wpOpIn
    rw [ho]
    simp only [want_ok hg (fun d w _ => hf.slot d), Bool.false_eq_true, if_false]
    refine ⟨fun _ _ => trivial, ?_⟩
    have hf' : Fr N E (opNo o st) (act.put o.dst undef) := hf.put (hdst o (List.mem_cons_self ..)) (.tup .nil)
    rw [hnx1, hhp1] at ih
    exact ih (fun j o' hj => by have := hl (j + 1) o' hj; rwa [show i + (j + 1) = i + 1 + j by omega] at this) (fun o' ho' => hdst o' (List.mem_cons_of_mem _ ho')) E (act.put o.dst undef) w ((opNo_grew o st).wf hwf) (fun x hx => hcov x (by rw [hnx1] at hx; exact hx)) hfree hS hf' ((hdf o act undef).trans hd) hQ
  | @asm o l i recs st recs' st' d b lt he t ih =>
    intro hl hdst E act w hwf hcov hfree hS hf hd hQ
    exact ih hl hdst E act w hwf hcov hfree hS ⟨hf.size, fun e => (asm_rep he E e _).2 (hf.slot e)⟩ hd hQ
end
end Go.Proofs.YtamjnhpkmhbkcaaGreatDoor

/-
  PART: regions that draw their order: what must come ahead of what.
-/
namespace Go.Proofs.YtamjnhpkmhbkcaaGreatDoor
open Go.RowKit

section
variable {ops : Array Oper}
theorem numbered_get : ∀ (l : List Oper) (i j : Nat) (o : Oper), l[j]? = some o → (numbered i l)[j]? = some (i + j, o)
  | [], i, j, o, h => by simp at h
  | p :: l, i, 0, o, h => by simp at h; subst h; rfl
  | p :: l, i, j + 1, o, h => by
    simp at h
    have := numbered_get l (i + 1) j o h
    simp only [numbered, List.getElem?_cons_succ, this]
    congr 2; omega
/-- Bits of what stands ahead. -/
def befStep (acc : Array Nat) (o : Oper) : Array Nat := acc.push (o.after.foldl (fun s e => if Region.binds .any e then s ||| 2 ^ e.on ||| acc.getD e.on 0 else s) 0)
theorem before_eq (ops : Array Oper) : Region.before ops = ops.toList.foldl befStep #[] := by
  unfold Region.before
  rw [← Array.foldl_toList]
  rfl
theorem bef_bits (acc : Array Nat) (i : Nat) : ∀ (l : List Edge) (s : Nat), (l.foldl (fun s e => if Region.binds .any e then s ||| 2 ^ e.on ||| acc.getD e.on 0 else s) s).testBit i = true → s.testBit i = true ∨ ∃ e, e ∈ l ∧ Region.binds .any e = true ∧ (e.on = i ∨ (acc.getD e.on 0).testBit i = true)
  | [], s, h => .inl h
  | e :: l, s, h => by
    simp only [List.foldl_cons] at h
    rcases bef_bits acc i l _ h with h | ⟨e', h1, h2⟩
    · by_cases hb : Region.binds .any e = true
      · rw [if_pos hb] at h
        simp only [Nat.testBit_or, Nat.testBit_two_pow, Bool.or_eq_true, decide_eq_true_eq] at h
        rcases h with (h | h) | h
        · exact .inl h
        · exact .inr ⟨e, List.mem_cons_self .., hb, .inl h⟩
        · exact .inr ⟨e, List.mem_cons_self .., hb, .inr h⟩
      · rw [if_neg hb] at h; exact .inl h
    · exact .inr ⟨e', List.mem_cons_of_mem _ h1, h2⟩
theorem bef_spec : ∀ (l : List Oper) (acc : Array Nat), (l.foldl befStep acc).size = acc.size + l.length ∧ (∀ j, j < acc.size → (l.foldl befStep acc).getD j 0 = acc.getD j 0) ∧
    ∀ (j : Nat) (o : Oper), l[j]? = some o → ∀ i, ((l.foldl befStep acc).getD (acc.size + j) 0).testBit i = true → ∃ e, e ∈ o.after ∧ Region.binds .any e = true ∧ (e.on = i ∨ (e.on < acc.size + j ∧ ((l.foldl befStep acc).getD e.on 0).testBit i = true))
  | [], acc => ⟨by simp, fun _ _ => rfl, fun j o h => by simp at h⟩
  | o :: l, acc => by
    obtain ⟨h1, h2, h3⟩ := bef_spec l (befStep acc o)
    have hsz : (befStep acc o).size = acc.size + 1 := by simp [befStep]
    have hold : ∀ j, j < acc.size → (befStep acc o).getD j 0 = acc.getD j 0 := fun j hj => by
      unfold befStep
      simp only [Array.getD_eq_getD_getElem?, Array.getElem?_push]
      rw [if_neg (by omega)]
    refine ⟨by simp only [List.foldl_cons, h1, hsz, List.length_cons]; omega, fun j hj => by simp only [List.foldl_cons]; rw [h2 j (by omega), hold j hj], fun j o' hj i hb => ?_⟩
    simp only [List.foldl_cons] at hb ⊢
    cases j with
    | zero =>
      simp at hj; subst hj
      rw [Nat.add_zero, h2 acc.size (by omega)] at hb
      have hnew : (befStep acc o).getD acc.size 0 = o.after.foldl (fun s e => if Region.binds .any e then s ||| 2 ^ e.on ||| acc.getD e.on 0 else s) 0 := by
        unfold befStep
        simp [Array.getD_eq_getD_getElem?]
      rw [hnew, ← Array.foldl_toList] at hb
      rcases bef_bits acc i _ _ hb with h | ⟨e, he, hbi, h⟩
      · simp at h
      · refine ⟨e, by simpa using he, hbi, h.imp id fun h => ?_⟩
        have hlt : e.on < acc.size := by
          rcases Nat.lt_or_ge e.on acc.size with h' | h'
          · exact h'
          · simp [Array.getD_eq_getD_getElem?, Array.getElem?_eq_none h'] at h
        exact ⟨by omega, by rw [h2 e.on (by omega), hold e.on hlt]; exact h⟩
    | succ j =>
      simp at hj
      have := h3 j o' hj i (by rw [hsz]; rwa [show acc.size + 1 + j = acc.size + (j + 1) by omega])
      obtain ⟨e, q1, q2, q3⟩ := this
      exact ⟨e, q1, q2, q3.imp id fun q => ⟨by rw [hsz] at q; omega, q.2⟩⟩
/-- What is listed, with all that it waits for. -/
def Closed (ops : Array Oper) (L : Nat → Prop) : Prop := ∀ i o, ops[i]? = some o → L i → ∀ e, e ∈ o.after → Region.binds .any e = true → L e.on
theorem before_get {j : Nat} {o : Oper} (ho : ops[j]? = some o) {i : Nat} (h : ((Region.before ops).getD j 0).testBit i = true) : ∃ e, e ∈ o.after ∧ Region.binds .any e = true ∧ (e.on = i ∨ (e.on < j ∧ ((Region.before ops).getD e.on 0).testBit i = true)) := by
  rw [before_eq] at h ⊢
  obtain ⟨_, _, h3⟩ := bef_spec ops.toList #[]
  have := h3 j o (by simpa using ho) i (by simpa using h)
  simpa using this
/-- All that stands ahead of an operation whose direct edges are listed is listed. -/
theorem ahead_listed {L : Nat → Prop} (hL : Closed ops L) : ∀ (j : Nat) (o : Oper), ops[j]? = some o → (∀ e, e ∈ o.after → Region.binds .any e = true → L e.on) → ∀ i, ((Region.before ops).getD j 0).testBit i = true → L i := by
  intro j
  induction j using Nat.strongRecOn with
  | _ j ih =>
    intro o ho hd i hi
    obtain ⟨e, he, hb, h⟩ := before_get ho hi
    have hLe := hd e he hb
    rcases h with rfl | ⟨hlt, h⟩
    · exact hLe
    · cases hoe : ops[e.on]? with
      | none =>
        -- no such operation: no bits
        exfalso
        have hsz : (Region.before ops).size = ops.size := by
          rw [before_eq]; have := (bef_spec ops.toList #[]).1; simpa using this
        have : ops.size ≤ e.on := by
          rcases Nat.lt_or_ge e.on ops.size with h' | h'
          · rw [Array.getElem?_eq_getElem h'] at hoe; cases hoe
          · exact h'
        simp [Array.getD_eq_getD_getElem?, Array.getElem?_eq_none (show (Region.before ops).size ≤ e.on by omega)] at h
      | some p => exact ih e.on hlt p hoe (fun e' he' hb' => hL e.on p hoe hLe e' he' hb') i h
theorem regionOk_spec (h : regionOk ops = true) {i : Nat} {o : Oper} (ho : ops[i]? = some o) :
    (∀ j p d, ops[j]? = some p → p.dst = some d → d ∈ namesOf ops o → i ≠ j → ((Region.before ops).getD (Nat.max i j) 0).testBit (Nat.min i j) = true) ∧ ∀ e, e ∈ o.after → Region.binds .any e = true → e.on < i := by
  unfold regionOk at h
  simp only [List.all_eq_true] at h
  have hm : (i, o) ∈ numbered 0 ops.toList := by
    have := numbered_get ops.toList 0 i o (by simpa using ho)
    rw [Nat.zero_add] at this
    exact List.mem_of_getElem? this
  have h1 := h _ hm
  simp only [Bool.and_eq_true] at h1
  obtain ⟨h1, h2⟩ := h1
  refine ⟨fun j p d hp hd hmem hne => ?_, fun e he hb => ?_⟩
  · have hmj : (j, p) ∈ numbered 0 ops.toList := by
      have := numbered_get ops.toList 0 j p (by simpa using hp)
      rw [Nat.zero_add] at this
      exact List.mem_of_getElem? this
    have key : ∀ l : List (Nat × Oper), orderOk (Region.before ops) i (namesOf ops o) l = true → (j, p) ∈ l → ((Region.before ops).getD (Nat.max i j) 0).testBit (Nat.min i j) = true := by
      intro l
      induction l with
      | nil => intro _ h; cases h
      | cons q l ih =>
        intro hq hmq
        obtain ⟨k, p'⟩ := q
        simp only [orderOk, Bool.and_eq_true] at hq
        rcases List.mem_cons.1 hmq with e | hmq
        · cases e
          have := hq.1
          rw [hd] at this
          simp only [Bool.or_eq_true] at this
          rcases this with (h | h) | h
          · have : (namesOf ops o).elem d = true := by simpa using hmem
            rw [this] at h; cases h
          · exact absurd (Nat.eq_of_beq_eq_true h) hne
          · exact h
        · exact ih hq.2 hmq
    exact key _ h1 hmj
  · rw [List.all_eq_true] at h2
    have := h2 e (by simpa using he)
    rw [hb] at this
    simpa [Nat.blt_eq] using this
/-! Records: who touches what another one writes. -/
theorem okAgainst_spec {bits : Nat} {r : Rec} : ∀ {l : List (Nat × Rec)}, okAgainst bits r l = true → ∀ i q, (i, q) ∈ l → meets r q = true → bits.testBit i = true
  | [], _, i, q, h, _ => by cases h
  | (k, p) :: l, h, i, q, hm, hq => by
    simp only [okAgainst, Bool.and_eq_true, Bool.or_eq_true] at h
    rcases List.mem_cons.1 hm with e | hm
    · cases e
      rcases h.1 with h | h
      · rw [hq] at h; cases h
      · exact h
    · exact okAgainst_spec h.2 i q hm hq
theorem meets_of {a b : Rec} {x : Nat} (h : (x ∈ a.wr ∧ (x ∈ b.rd ∨ x ∈ b.wr)) ∨ (x ∈ b.wr ∧ (x ∈ a.rd ∨ x ∈ a.wr))) : meets a b = true := by
  unfold meets
  simp only [Bool.or_eq_true, List.any_eq_true]
  rcases h with ⟨h1, h2⟩ | ⟨h1, h2⟩
  · exact .inl ⟨x, h1, by rcases h2 with h2 | h2 <;> simp [h2]⟩
  · rcases h2 with h2 | h2
    · exact .inr ⟨x, h1, by simpa using h2⟩
    · exact .inl ⟨x, h2, by simp [h1]⟩
/-- Any two records of which one was taken later. -/
theorem okRecs_spec {b : Array Nat} : ∀ {l : List (Nat × Rec)}, okRecs b l = true → ∀ (m n : Nat) (j i : Nat) (r q : Rec), m < n → l[m]? = some (j, r) → l[n]? = some (i, q) → meets r q = true → (b.getD j 0).testBit i = true
  | [], _, m, n, j, i, r, q, _, h, _, _ => by simp at h
  | (k, p) :: l, h, m, n, j, i, r, q, hmn, hm, hn, hq => by
    simp only [okRecs, Bool.and_eq_true] at h
    cases m with
    | zero =>
      simp at hm
      obtain ⟨rfl, rfl⟩ := hm
      cases n with
      | zero => omega
      | succ n => exact okAgainst_spec h.1 i q (List.mem_of_getElem? (by simpa using hn)) hq
    | succ m => cases n with
      | zero => omega
      | succ n => exact okRecs_spec h.2 m n j i r q (by omega) (by simpa using hm) (by simpa using hn) hq
end
end Go.Proofs.YtamjnhpkmhbkcaaGreatDoor

/-
  PART: regions that draw their order: whatever order is drawn, the region leaves what the evaluator says.
-/
namespace Go.Proofs.YtamjnhpkmhbkcaaGreatDoor
open Go.RowKit

/-- One operation's part of a way. -/
structure Stp where
  pre : St
  b : Bool
  q : Rec
  post : St
structure SameS (a b : St) : Prop where
  hp : b.hp = a.hp
  nx : b.nx = a.nx
  rd : b.rd = a.rd
  wr : b.wr = a.wr
  slot : ∀ (E : Env) (d : Nat) (v : Value), Rep E (look b.sl d) v ↔ Rep E (look a.sl d) v
theorem SameS.refl (a : St) : SameS a a := ⟨rfl, rfl, rfl, rfl, fun _ _ _ => Iff.rfl⟩
theorem SameS.trans {a b c : St} (h : SameS a b) (k : SameS b c) : SameS a c := ⟨k.hp.trans h.hp, k.nx.trans h.nx, k.rd.trans h.rd, k.wr.trans h.wr, fun E d v => (k.slot E d v).trans (h.slot E d v)⟩
section
variable {cx : Cx} {r : Evs} {ops : Array Oper}
def Good (cx : Cx) (r : Evs) (ops : Array Oper) (o : Oper) (p : Stp) : Prop :=
  Want ops o p.pre p.b ∧ (p.b = true → (opYes cx r true o p.pre).hit (p.q, p.post)) ∧ (p.b = false → p.post = opNo o p.pre)
def Chain (cx : Cx) (r : Evs) (ops : Array Oper) : List Oper → St → List Stp → St → Prop
  | [], st, [], st' => SameS st st'
  | o :: l, st, p :: L, st' => SameS st p.pre ∧ Good cx r ops o p ∧ Chain cx r ops l p.post L st'
  | _, _, _, _ => False
def recsOf : Nat → List Stp → List (Nat × Rec)
  | _, [] => []
  | i, p :: L => match p.b with
    | true => (i, p.q) :: recsOf (i + 1) L
    | false => recsOf (i + 1) L
theorem chain_of {l : List Oper} {i : Nat} {recs recs' : List (Nat × Rec)} {st st' : St} (h : Path cx r ops true l i recs st recs' st') : ∃ L, Chain cx r ops l st L st' ∧ recs' = (recsOf i L).reverse ++ recs := by
  induction h with
  | nil i recs st => exact ⟨[], .refl st, rfl⟩
  | @yes o l i recs st q s recs' st' hg h t ih =>
    obtain ⟨L, h1, h2⟩ := ih
    exact ⟨⟨st, true, q, s⟩ :: L, ⟨.refl st, ⟨hg, fun _ => h, fun h => by cases h⟩, h1⟩, by rw [h2]; simp [recsOf]⟩
  | @no o l i recs st recs' st' hg t ih =>
    obtain ⟨L, h1, h2⟩ := ih
    exact ⟨⟨st, false, ⟨[], []⟩, opNo o st⟩ :: L, ⟨.refl st, ⟨hg, fun h => (by cases h), fun _ => rfl⟩, h1⟩, h2⟩
  | @asm o l i recs st recs' st' d b lt he t ih =>
    obtain ⟨L, h1, h2⟩ := ih
    have hs : SameS st (st.forked.put (some d) (.lit (.bool b))) := ⟨rfl, rfl, rfl, rfl, fun E e v => asm_rep he E e v⟩
    cases L with
    | nil => exact h1.elim
    | cons p L => exact ⟨p :: L, ⟨hs.trans h1.1, h1.2⟩, h2⟩
/-- The state ahead of an operation. -/
def stAt (st : St) : List Stp → Nat → St
  | _, 0 => st
  | [], _ + 1 => st
  | p :: L, k + 1 => stAt p.post L k
theorem chain_len : ∀ {l : List Oper} {st : St} {L : List Stp} {st' : St}, Chain cx r ops l st L st' → L.length = l.length ∧ SameS (stAt st L l.length) st'
  | [], st, [], st', h => ⟨rfl, h⟩
  | [], _, _ :: _, _, h => h.elim
  | _ :: _, _, [], _, h => h.elim
  | o :: l, st, p :: L, st', h => by
    obtain ⟨k1, k2⟩ := chain_len h.2.2
    exact ⟨by simp [k1], k2⟩
theorem chain_get : ∀ {l : List Oper} {st : St} {L : List Stp} {st' : St}, Chain cx r ops l st L st' → ∀ (j : Nat) (o : Oper) (p : Stp), l[j]? = some o → L[j]? = some p → SameS (stAt st L j) p.pre ∧ Good cx r ops o p ∧ stAt st L (j + 1) = p.post
  | [], st, [], st', h, j, o, p, ho, hp => by simp at ho
  | [], _, _ :: _, _, h, j, o, p, ho, hp => h.elim
  | _ :: _, _, [], _, h, j, o, p, ho, hp => h.elim
  | o' :: l, st, p' :: L, st', h, 0, o, p, ho, hp => by
    simp at ho hp
    subst ho; subst hp
    exact ⟨h.1, h.2.1, by cases L <;> rfl⟩
  | o' :: l, st, p' :: L, st', h, j + 1, o, p, ho, hp => by
    simp at ho hp
    exact chain_get h.2.2 j o p ho hp
theorem recsOf_get : ∀ {L : List Stp} {i j : Nat} {p : Stp}, L[j]? = some p → p.b = true → (i + j, p.q) ∈ recsOf i L
  | [], i, j, p, h, _ => by simp at h
  | q :: L, i, 0, p, h, hb => by
    simp at h; subst h
    unfold recsOf; rw [hb]; exact List.mem_cons_self ..
  | q :: L, i, j + 1, p, h, hb => by
    simp at h
    have := recsOf_get (i := i + 1) h hb
    unfold recsOf
    rw [show i + (j + 1) = i + 1 + j by omega]
    split
    · exact List.mem_cons_of_mem _ this
    · exact this
theorem recsOf_ge : ∀ {L : List Stp} {i k : Nat} {q : Rec}, (k, q) ∈ recsOf i L → i ≤ k
  | [], i, k, q, h => by cases h
  | p :: L, i, k, q, h => by
    unfold recsOf at h
    split at h
    · rcases List.mem_cons.1 h with h | h
      · cases h; exact Nat.le_refl _
      · have := recsOf_ge h; omega
    · have := recsOf_ge h; omega
/-- Of two records, the later operation waits for the earlier one, if they meet. -/
theorem recs_order {b : Array Nat} {L : List Stp} {i : Nat} (h : okRecs b ((recsOf i L).reverse) = true) {j k : Nat} {p q : Stp} (hj : L[j]? = some p) (hk : L[k]? = some q) (hjk : j < k) (hp : p.b = true) (hq : q.b = true) (hm : meets q.q p.q = true) : (b.getD (i + k) 0).testBit (i + j) = true := by
  have key : ∀ (L : List Stp) (i j k : Nat), L[j]? = some p → L[k]? = some q → j < k → ∃ m n : Nat, m < n ∧ (recsOf i L)[m]? = some (i + j, p.q) ∧ (recsOf i L)[n]? = some (i + k, q.q) := by
    intro L
    induction L with
    | nil => intro i j k h; simp at h
    | cons s L ih =>
      intro i j k hj hk hjk
      obtain ⟨k, rfl⟩ : ∃ k', k = k' + 1 := ⟨k - 1, by omega⟩
      simp at hk
      cases j with
      | zero =>
        simp at hj; subst hj
        have hmem := recsOf_get (i := i + 1) hk hq
        obtain ⟨n, hn⟩ := List.mem_iff_getElem?.1 hmem
        refine ⟨0, n + 1, by omega, ?_, ?_⟩
        · unfold recsOf; rw [hp]; simp
        · unfold recsOf; rw [hp]; simp [hn]; omega
      | succ j =>
        simp at hj
        obtain ⟨m, n, h1, h2, h3⟩ := ih (i + 1) j k hj hk (by omega)
        cases hs : s.b with
        | true =>
          refine ⟨m + 1, n + 1, by omega, ?_, ?_⟩
          · unfold recsOf; rw [hs]; simp [h2]; omega
          · unfold recsOf; rw [hs]; simp [h3]; omega
        | false =>
          refine ⟨m, n, h1, ?_, ?_⟩
          · unfold recsOf; rw [hs]; simp [h2]; omega
          · unfold recsOf; rw [hs]; simp [h3]; omega
  obtain ⟨m, n, h1, h2, h3⟩ := key L i j k hj hk hjk
  have hn : n < (recsOf i L).length := (List.getElem?_eq_some_iff.1 h3).1
  refine okRecs_spec h ((recsOf i L).length - 1 - n) ((recsOf i L).length - 1 - m) (i + k) (i + j) q.q p.q (by omega) ?_ ?_ hm
  · rw [List.getElem?_reverse (by omega), show (recsOf i L).length - 1 - ((recsOf i L).length - 1 - n) = n by omega]; exact h3
  · rw [List.getElem?_reverse (by omega), show (recsOf i L).length - 1 - ((recsOf i L).length - 1 - m) = m by omega]; exact h2
end
/-! What a piece does, seen from all blocks. -/
section
variable {FP FPi : Nat → Prop} {E0 E E' : Env} {H0 Hm Hi Hs : Nat → Option Blk} {w0 w w' : World} {nx0 nxn nxi nxs : Nat} {wri wrn : List Nat}
theorem Pst.lift (h0 : Sim FP E0 H0 w0) (p : Pst FP E0 E H0 Hm nx0 nxn wrn w0 w) (q : Pst FPi E E' Hi Hs nxi nxs wri w w') (hw : ∀ x, x ∈ wri → FPi x ∧ FP x ∧ x ∈ wrn) (hag : ∀ x, FPi x → Hm x = Hi x)
    (h1 : nx0 ≤ nxi) (h2 : nxs ≤ nxn) (hs : ∀ x, x ∈ wri → Hs x ≠ none → x < nxs) (hmn : ∀ x, x ∈ wrn → Hm x ≠ none → x < nxn) :
    Pst FP E0 E' H0 (fun x => if x ∈ wri then Hs x else Hm x) nx0 nxn wrn w0 w' := by
  -- the block of an old name that the piece does not write
  have apart : ∀ x, FP x → x ∉ wri → Hm x ≠ none → E.vir x = false → ∀ y, y ∈ wri → y < nxi → Hi y ≠ none → E.vir y = false → E.ρ x ≠ E.ρ y := by
    intro x hF hx hn hv y hy hyn hyH hyv he
    obtain ⟨f1, f2, _⟩ := hw y hy
    have := p.sim.inj x y hF f2 hn (by rw [hag y f1]; exact hyH) hv hyv he
    exact hx (this ▸ hy)
  have fr : ∀ x, FP x → x ∉ wri → Hm x ≠ none → E.vir x = false → blkW w' (E.ρ x) = blkW w (E.ρ x) ∧ E'.fz (E.ρ x) = E.fz (E.ρ x) := fun x hF hx hn hv =>
    q.frame _ (p.sim.low x hF hn hv).1 (apart x hF hx hn hv)
  have old0 : ∀ y, y < nx0 → FP y → Hm y ≠ none → E.vir y = E0.vir y ∧ E.ρ y = E0.ρ y ∧ H0 y ≠ none := fun y hy hF hn => by
    have hn0 := p.old y hy hF hn
    have hd := h0.dom y hF hn0
    exact ⟨p.le.vir y hd, p.le.ρ y hd, hn0⟩
  refine ⟨⟨p.le.trans q.le, fun x hx => ?_, ⟨q.sim.fz, fun x hF hn => ?_, fun x hF hn hv => ?_, fun x B hF hB => ?_, fun x y hFx hFy hnx hny hvx hvy he => ?_⟩, fun b hb hx => ?_, fun x g1 g2 hF hn hv => ?_, Nat.le_trans p.size q.size, q.os.trans p.os, q.tape.trans p.tape, q.output.trans p.output⟩, fun x hx hF hn => ?_⟩
  · rcases q.dom x hx with h | h
    · exact p.dom x h
    · exact .inr ⟨by omega, by omega⟩
  · by_cases hx : x ∈ wri
    · rw [if_pos hx] at hn; exact q.sim.dom x (hw x hx).1 hn
    · rw [if_neg hx] at hn; exact q.le.dom x (p.sim.dom x hF hn)
  · by_cases hx : x ∈ wri
    · rw [if_pos hx] at hn; exact q.sim.low x (hw x hx).1 hn hv
    · rw [if_neg hx] at hn
      have hd := p.sim.dom x hF hn
      rw [q.le.vir x hd] at hv
      rw [q.le.ρ x hd, (fr x hF hx hn hv).2]
      have := p.sim.low x hF hn hv
      exact ⟨Nat.lt_of_lt_of_le this.1 q.size, this.2⟩
  · by_cases hx : x ∈ wri
    · simp only [if_pos hx] at hB; exact q.sim.blk x B (hw x hx).1 hB
    · simp only [if_neg hx] at hB
      have hn : Hm x ≠ none := by rw [hB]; simp
      have hd := p.sim.dom x hF hn
      have hb := (p.sim.blk x B hF hB).mono q.le hd
      rw [q.le.ρ x hd]
      by_cases hv : E.vir x = true
      · cases B with
        | fix ty cs => exact absurd hb.1 (by rw [q.le.vir x hd, hv]; simp)
        | map sh zv get has nl => exact absurd hb.1 (by rw [q.le.vir x hd, hv]; simp)
        | arr ty n k get =>
          obtain ⟨hq, hb⟩ := hb
          rcases hb with hb | hb
          · exact ⟨hq, .inl hb⟩
          · exact absurd hb.1 (by rw [q.le.vir x hd, hv]; simp)
      · rw [(fr x hF hx hn (by simpa using hv)).1]; exact hb
  · -- names of one block are one
    have mixed : ∀ x y, FP x → FP y → x ∈ wri → y ∉ wri → Hs x ≠ none → Hm y ≠ none → E'.vir x = false → E'.vir y = false → E'.ρ x = E'.ρ y → x = y := by
      intro x y hFx hFy hx hy hnx hny hvx hvy he
      have hdy := p.sim.dom y hFy hny
      rw [q.le.vir y hdy] at hvy
      rw [q.le.ρ y hdy] at he
      exfalso
      rcases Nat.lt_or_ge x nxi with hlt | hge
      · have hi := q.old x hlt (hw x hx).1 hnx
        have hmx : Hm x ≠ none := by rw [hag x (hw x hx).1]; exact hi
        have hdx := p.sim.dom x hFx hmx
        rw [q.le.vir x hdx] at hvx
        rw [q.le.ρ x hdx] at he
        exact apart y hFy hy hny hvy x hx hlt hi hvx he.symm
      · rcases q.news x hge (hs x hx hnx) (hw x hx).1 hnx hvx with h | ⟨z, hz, hzn, hzH, hzv, hzρ⟩
        · have := (p.sim.low y hFy hny hvy).1; omega
        · exact apart y hFy hy hny hvy z hz hzn hzH hzv (he.symm.trans hzρ)
    by_cases hx : x ∈ wri
    · rw [if_pos hx] at hnx
      by_cases hy : y ∈ wri
      · rw [if_pos hy] at hny; exact q.sim.inj x y (hw x hx).1 (hw y hy).1 hnx hny hvx hvy he
      · rw [if_neg hy] at hny; exact mixed x y hFx hFy hx hy hnx hny hvx hvy he
    · rw [if_neg hx] at hnx
      by_cases hy : y ∈ wri
      · rw [if_pos hy] at hny; exact (mixed y x hFy hFx hy hx hny hnx hvy hvx he.symm).symm
      · rw [if_neg hy] at hny
        have hdx := p.sim.dom x hFx hnx
        have hdy := p.sim.dom y hFy hny
        rw [q.le.vir x hdx] at hvx; rw [q.le.vir y hdy] at hvy
        rw [q.le.ρ x hdx, q.le.ρ y hdy] at he
        exact p.sim.inj x y hFx hFy hnx hny hvx hvy he
  · have f1 := p.frame b hb hx
    have f2 := q.frame b (Nat.lt_of_lt_of_le hb p.size) (fun y hy hyn hyH hyv => by
      obtain ⟨k1, k2, k3⟩ := hw y hy
      have hmy : Hm y ≠ none := by rw [hag y k1]; exact hyH
      rcases Nat.lt_or_ge y nx0 with hlt | hge
      · obtain ⟨e1, e2, e3⟩ := old0 y hlt k2 hmy
        rw [e2]; exact hx y k3 hlt e3 (e1 ▸ hyv)
      · rcases p.news y hge (hmn y k3 hmy) k2 hmy hyv with h | ⟨z, hz, hzn, hzH, hzv, hzρ⟩
        · omega
        · rw [hzρ]; exact hx z hz hzn hzH hzv)
    exact ⟨f2.1.trans f1.1, f2.2.trans f1.2⟩
  · by_cases hx : x ∈ wri
    · rw [if_pos hx] at hn
      obtain ⟨k1, k2, k3⟩ := hw x hx
      rcases Nat.lt_or_ge x nxi with hlt | hge
      · have hi := q.old x hlt k1 hn
        have hmx : Hm x ≠ none := by rw [hag x k1]; exact hi
        have hdx := p.sim.dom x k2 hmx
        rw [q.le.vir x hdx] at hv
        rw [q.le.ρ x hdx]
        exact p.news x g1 g2 hF hmx hv
      · rcases q.news x hge (hs x hx hn) k1 hn hv with h | ⟨y, hy, hyn, hyH, hyv, he⟩
        · exact .inl (Nat.le_trans p.size h)
        · obtain ⟨l1, l2, l3⟩ := hw y hy
          have hmy : Hm y ≠ none := by rw [hag y l1]; exact hyH
          rcases Nat.lt_or_ge y nx0 with hlt' | hge'
          · obtain ⟨e1, e2, e3⟩ := old0 y hlt' l2 hmy
            exact .inr ⟨y, l3, hlt', e3, e1 ▸ hyv, he.trans e2⟩
          · rcases p.news y hge' (hmn y l3 hmy) l2 hmy hyv with h | ⟨z, hz, hzn, hzH, hzv, hzρ⟩
            · exact .inl (he ▸ h)
            · exact .inr ⟨z, hz, hzn, hzH, hzv, he.trans hzρ⟩
    · rw [if_neg hx] at hn
      have hdx := p.sim.dom x hF hn
      rw [q.le.vir x hdx] at hv
      rw [q.le.ρ x hdx]
      exact p.news x g1 g2 hF hn hv
  · by_cases hx' : x ∈ wri
    · rw [if_pos hx'] at hn
      obtain ⟨k1, k2, k3⟩ := hw x hx'
      have hi := q.old x (by omega) k1 hn
      exact p.old x hx hF (by rw [hag x k1]; exact hi)
    · rw [if_neg hx'] at hn; exact p.old x hx hF hn
end
end Go.Proofs.YtamjnhpkmhbkcaaGreatDoor

/-
  PART: a region that draws its order.
-/
namespace Go.Proofs.YtamjnhpkmhbkcaaGreatDoor
open Go.RowKit

def leftN (listed : Array Bool) (n : Nat) : Nat := (List.range n).countP fun i => !listed.getD i true
theorem countP_lt {α : Type} (p q : α → Bool) (l : List α) (h : ∀ x ∈ l, q x = true → p x = true) (y : α) (hy : y ∈ l) (hp : p y = true) (hq : q y = false) : l.countP q < l.countP p := by
  induction l with
  | nil => cases hy
  | cons x l ih =>
    have hle : l.countP q ≤ l.countP p := List.countP_mono_left (fun z hz hz' => h z (List.mem_cons_of_mem _ hz) hz')
    rw [List.countP_cons, List.countP_cons]
    rcases List.mem_cons.1 hy with rfl | hy'
    · rw [hp, hq]; simp; omega
    · have := ih (fun z hz => h z (List.mem_cons_of_mem _ hz)) hy'
      by_cases hx : q x = true
      · rw [hx, h x List.mem_cons_self hx]; simp; omega
      · cases hpx : p x <;> simp [hx] <;> omega
theorem left_set {listed : Array Bool} {n i : Nat} (hi : i < n) (h0 : listed.getD i true = false) : leftN (listed.setIfInBounds i true) n < leftN listed n := by
  unfold leftN
  have hlt : i < listed.size := by
    rcases Nat.lt_or_ge i listed.size with h | h
    · exact h
    · simp [Array.getElem?_eq_none h] at h0
  refine countP_lt _ _ _ ?_ i (List.mem_range.2 hi) (by simp [h0]) (by simp [hlt])
  intro x _ hx
  by_cases e : i = x
  · subst e; simp [hlt] at hx
  · rw [getD_set_ne true e] at hx; exact hx
theorem all_listed {ops : Array Oper} (hb : ∀ i o, ops[i]? = some o → ∀ e ∈ o.after, Region.binds .any e = true → e.on < i) {listed : Array Bool} (hr : Region.ready .any ops listed = []) : ∀ i, i < ops.size → listed.getD i true = true := by
  intro i
  induction i using Nat.strongRecOn with
  | _ i ih =>
    intro hi
    cases h : listed.getD i true
    · exfalso
      have hm : i ∈ Region.ready .any ops listed := by
        rw [mem_ready]
        refine ⟨h, ops[i], Array.getElem?_eq_getElem hi, fun e he hbi => ?_⟩
        have hlt := hb i _ (Array.getElem?_eq_getElem hi) e he hbi
        have h1 := ih e.on hlt (by omega)
        have hli : i < listed.size := by
          rcases Nat.lt_or_ge i listed.size with h' | h'
          · exact h'
          · simp [Array.getElem?_eq_none h'] at h
        have : e.on < listed.size := by omega
        simp [this] at h1 ⊢
        exact h1
      rw [hr] at hm; cases hm
    · rfl
section
variable {cx : Cx} {r : Evs} {ops : Array Oper} {P : Program}
/-- An operation writes a slot; a block. -/
def WrS (ops : Array Oper) (j d : Nat) : Prop := ∃ o, ops[j]? = some o ∧ o.dst = some d
def WrB (L : List Stp) (j x : Nat) : Prop := ∃ p, L[j]? = some p ∧ p.b = true ∧ x ∈ p.q.wr
/-- A place between what is listed of some operations, and what is not. -/
def CutAt (n : Nat) (T : Nat → Prop) (Wr : Nat → Prop) (k : Nat) : Prop := k ≤ n ∧ (∀ j, j < k → Wr j → T j) ∧ ∀ j, k ≤ j → j < n → Wr j → ¬ T j
structure Mid (cx : Cx) (ops : Array Oper) (N : Nat) (D : List Deferred) (FP : Nat → Prop) (st st' : St) (L : List Stp) (E0 : Env) (w0 : World) (T : Nat → Prop) (E : Env) (act : Act) (w : World) (Hm : Nat → Option Blk) : Prop where
  size : act.tmps.size = N
  defers : act.defers = D
  slot : ∀ d k, CutAt L.length T (WrS ops · d) k → Rep E (look (stAt st L k).sl d) (act.tmps.getD d undef)
  hm : ∀ x k, CutAt L.length T (WrB L · x) k → Hm x = hget (stAt st L k).hp x
  pst : Pst FP E0 E (hget st.hp) Hm st.nx st'.nx st'.wr w0 w
  dom : ∀ x, E.dom x → E0.dom x ∨ ∃ j, j < L.length ∧ T j ∧ (stAt st L j).nx ≤ x ∧ x < (stAt st L (j + 1)).nx
  low : ∀ x, Hm x ≠ none → x < st'.nx
/-- What one step of a way does to states. -/
structure StepF (ops : Array Oper) (L : List Stp) (st st' : St) : Prop where
  slot : ∀ j d, j < L.length → ¬ WrS ops j d → ∀ E v, Rep E (look (stAt st L j).sl d) v ↔ Rep E (look (stAt st L (j + 1)).sl d) v
  blk : ∀ j x, j < L.length → ¬ WrB L j x → hget (stAt st L (j + 1)).hp x = hget (stAt st L j).hp x
  nx : ∀ j, j < L.length → (stAt st L j).nx ≤ (stAt st L (j + 1)).nx
  rd : ∀ j, j < L.length → ∀ x, x ∈ (stAt st L j).rd → x ∈ (stAt st L (j + 1)).rd
  wr : ∀ j, j < L.length → ∀ x, x ∈ (stAt st L j).wr → x ∈ (stAt st L (j + 1)).wr
  wf : ∀ j, j < L.length → Wf (stAt st L j) → Wf (stAt st L (j + 1))
  fin : SameS (stAt st L L.length) st'
theorem opYes_true {o : Oper} {st : St} {q : Rec} {post : St} (h : (opYes cx r true o st).hit (q, post)) : ∃ a s, (evalOp cx r o st.fresh).hit (a, s) ∧ q = ⟨s.rd, s.wr⟩ ∧ post = (s.logs st).put o.dst a := by
  unfold opYes at h
  simp only [] at h
  obtain ⟨⟨a, s⟩, h1, h2⟩ := Tree.hit_bind h
  cases h2
  exact ⟨a, s, h1, rfl, rfl⟩
theorem look_put {st : St} {dst : Option Nat} {a : AV} {d : Nat} (h : dst ≠ some d) : look (st.put dst a).sl d = look st.sl d := by
  cases dst with
  | none => rfl
  | some e =>
    show look ((e, a) :: st.sl) d = _
    rw [look_cons, if_neg (fun h' => h (by rw [h']))]
theorem look_put_same {st : St} {d : Nat} {a : AV} : look (st.put (some d) a).sl d = a := by
  show look ((d, a) :: st.sl) d = _
  rw [look_cons, if_pos rfl]
theorem put_rest (st : St) (d : Option Nat) (a : AV) : (st.put d a).hp = st.hp ∧ (st.put d a).nx = st.nx ∧ (st.put d a).rd = st.rd ∧ (st.put d a).wr = st.wr := by cases d <;> exact ⟨rfl, rfl, rfl, rfl⟩
theorem chain_steps (hr : CallsAll r) {st st' : St} {L : List Stp} (h : Chain cx r ops ops.toList st L st') : StepF ops L st st' := by
  obtain ⟨hl, hfin⟩ := chain_len h
  have hn : L.length = ops.size := by rw [hl]; simp
  have get : ∀ j, j < L.length → ∃ o p, ops[j]? = some o ∧ L[j]? = some p ∧ SameS (stAt st L j) p.pre ∧ Good cx r ops o p ∧ stAt st L (j + 1) = p.post := fun j hj => by
    have ho : ops.toList[j]? = some ops[j] := by simp [hn ▸ hj]
    exact ⟨ops[j], L[j], Array.getElem?_eq_getElem (by omega), List.getElem?_eq_getElem hj, chain_get h j _ _ ho (List.getElem?_eq_getElem hj)⟩
  have gs : ∀ j, j < L.length → ∃ o p, ops[j]? = some o ∧ L[j]? = some p ∧ SameS (stAt st L j) p.pre ∧ stAt st L (j + 1) = p.post ∧ Gs p.pre p.post := fun j hj => by
    obtain ⟨o, p, h1, h2, h3, h4, h5⟩ := get j hj
    refine ⟨o, p, h1, h2, h3, h5, ?_⟩
    cases hb : p.b with
    | true => exact ((all_opYes hr o p.pre).hit (h4.2.1 hb)).gs
    | false => rw [h4.2.2 hb]; exact (opNo_grew o p.pre).gs
  refine ⟨fun j d hj hw E v => ?_, fun j x hj hw => ?_, fun j hj => ?_, fun j hj => ?_, fun j hj => ?_, fun j hj hwf => ?_, hl ▸ hfin⟩
  · obtain ⟨o, p, h1, h2, h3, h4, h5⟩ := get j hj
    have hne : o.dst ≠ some d := fun e => hw ⟨o, h1, e⟩
    rw [h5, ← h3.slot E d v]
    cases hb : p.b with
    | true =>
      obtain ⟨a, s, k1, k2, k3⟩ := opYes_true (h4.2.1 hb)
      rw [k3, look_put hne]
      have := ((all_op hr o).hit k1).2
      show Rep E _ v ↔ Rep E (look s.sl d) v
      rw [show s.sl = p.pre.fresh.sl from this]
      exact Iff.rfl
    | false => rw [h4.2.2 hb, opNo, look_put hne]
  · obtain ⟨o, p, h1, h2, h3, h4, h5⟩ := get j hj
    rw [h5, ← h3.hp]
    cases hb : p.b with
    | true =>
      obtain ⟨a, s, k1, k2, k3⟩ := opYes_true (h4.2.1 hb)
      have hx : x ∉ s.wr := fun hx => hw ⟨p, h2, hb, by rw [k2]; exact hx⟩
      rw [k3, (put_rest _ _ _).1]
      exact ((all_op hr o).hit k1).1.blkr x hx
    | false => rw [h4.2.2 hb, opNo, (put_rest _ _ _).1]
  · obtain ⟨o, p, h1, h2, h3, h5, g⟩ := gs j hj
    rw [h5, ← h3.nx]; exact g.nx
  · obtain ⟨o, p, h1, h2, h3, h5, g⟩ := gs j hj
    rw [h5, ← h3.rd]; exact g.rd
  · obtain ⟨o, p, h1, h2, h3, h5, g⟩ := gs j hj
    rw [h5, ← h3.wr]; exact g.wr
  · obtain ⟨o, p, h1, h2, h3, h5, g⟩ := gs j hj
    rw [h5]
    refine g.wf ?_
    unfold Wf at hwf ⊢
    rw [h3.hp, h3.nx]; exact hwf
section
variable {L : List Stp} {st st' : St}
theorem StepF.slot_le (F : StepF ops L st st') {d i k : Nat} (hik : i ≤ k) (hk : k ≤ L.length) (h : ∀ j, i ≤ j → j < k → ¬ WrS ops j d) (E : Env) (v : Value) : Rep E (look (stAt st L i).sl d) v ↔ Rep E (look (stAt st L k).sl d) v := by
  induction k with
  | zero => obtain rfl : i = 0 := by omega
            exact Iff.rfl
  | succ k ih =>
    by_cases e : i = k + 1
    · subst e; exact Iff.rfl
    · exact (ih (by omega) (by omega) fun j h1 h2 => h j h1 (by omega)).trans (F.slot k d (by omega) (h k (by omega) (by omega)) E v)
theorem StepF.blk_le (F : StepF ops L st st') {x i k : Nat} (hik : i ≤ k) (hk : k ≤ L.length) (h : ∀ j, i ≤ j → j < k → ¬ WrB L j x) : hget (stAt st L k).hp x = hget (stAt st L i).hp x := by
  induction k with
  | zero => obtain rfl : i = 0 := by omega
            rfl
  | succ k ih =>
    by_cases e : i = k + 1
    · subst e; rfl
    · exact (F.blk k x (by omega) (h k (by omega) (by omega))).trans (ih (by omega) (by omega) fun j h1 h2 => h j h1 (by omega))
theorem StepF.nx_le (F : StepF ops L st st') {i k : Nat} (hik : i ≤ k) (hk : k ≤ L.length) : (stAt st L i).nx ≤ (stAt st L k).nx := by
  induction k with
  | zero => obtain rfl : i = 0 := by omega
            exact Nat.le_refl _
  | succ k ih =>
    by_cases e : i = k + 1
    · subst e; exact Nat.le_refl _
    · exact Nat.le_trans (ih (by omega) (by omega)) (F.nx k (by omega))
theorem StepF.logs_le (F : StepF ops L st st') {i k : Nat} (hik : i ≤ k) (hk : k ≤ L.length) : (∀ x, x ∈ (stAt st L i).rd → x ∈ (stAt st L k).rd) ∧ ∀ x, x ∈ (stAt st L i).wr → x ∈ (stAt st L k).wr := by
  induction k with
  | zero => obtain rfl : i = 0 := by omega
            exact ⟨fun _ h => h, fun _ h => h⟩
  | succ k ih =>
    by_cases e : i = k + 1
    · subst e; exact ⟨fun _ h => h, fun _ h => h⟩
    · obtain ⟨h1, h2⟩ := ih (by omega) (by omega)
      exact ⟨fun x hx => F.rd k (by omega) x (h1 x hx), fun x hx => F.wr k (by omega) x (h2 x hx)⟩
theorem StepF.wf_le (F : StepF ops L st st') (hwf : Wf st) {k : Nat} (hk : k ≤ L.length) : Wf (stAt st L k) := by
  induction k with
  | zero => cases L <;> exact hwf
  | succ k ih => exact F.wf k (by omega) (ih (by omega))
theorem stAt_zero (st : St) (L : List Stp) : stAt st L 0 = st := by cases L <;> rfl
end
end
end Go.Proofs.YtamjnhpkmhbkcaaGreatDoor
