/-
  PART: more operations that leave memory alone: index, build, equality, arithmetic.
-/
import Derived.Test.YtdlghljhgbakjaaDoorEN7
namespace Go.Proofs.YtdlghljhgbakjaaDoor
open Go.RowKit

section
variable {P : Program} {o : Oper} {st st' : St} {a : AV} {w : World} {E : Env}
theorem hit_withSt {T : Tree AV} (h : (withSt st T).hit (a, st')) : T.hit a ∧ st' = st := by
  unfold withSt at h
  induction T with
  | ret b => cases h; exact ⟨rfl, rfl⟩
  | br c t e ih1 ih2 =>
    rcases h with ⟨h1, h2⟩ | ⟨h1, h2⟩
    · exact ⟨.inl ⟨h1, (ih1 h2).1⟩, (ih1 h2).2⟩
    · exact ⟨.inr ⟨h1, (ih2 h2).1⟩, (ih2 h2).2⟩
  | side p t ih => obtain ⟨h1, h2⟩ := h; exact ⟨⟨h1, (ih h2).1⟩, (ih h2).2⟩
  | fail => exact h.elim
theorem hit_ofO {x : Option AV} {r : AV} (h : (ofO x).hit r) : x = some r := by
  cases x with
  | none => exact h.elim
  | some y => cases h; rfl
theorem hit_pureA {x : Option AV} (h : (pureA x st).hit (a, st')) : x = some a ∧ st' = st := by
  cases x with
  | none => exact h.elim
  | some y => cases h; exact ⟨rfl, rfl⟩
theorem rep_agg {l : List AV} {v : Value} (h : Rep E (.agg l) v) : ∃ c : Array Value, v = .agg c ∧ Reps E l c.toList ∧ One c.toList := by cases h; exact ⟨_, rfl, ‹_›, ‹_›⟩
theorem rep_str {s : ByteArray} {a : AV} (ha : a = .lit (.string s) ∨ a = .v (.string s)) {v : Value} (h : Rep E a v) : v = .string s := by
  rcases ha with rfl | rfl <;> (cases h; rfl)
theorem str_at (s : ByteArray) (i : Nat) (h : i < s.size) : s[i] = s.data.getD i 0 := by
  unfold Array.getD
  rw [dif_pos (show i < s.data.size from h)]
  rfl
theorem index_ok {t : TypeId} {x i : Operand} (ho : o.op = .index t x i) (h : (withSt st (indexA P t (st.val x) (st.val i))).hit (a, st')) : OpOk P o st a st' := by
  obtain ⟨h, rfl⟩ := hit_withSt h
  have hmx : x ∈ o.op.operands := by rw [ho]; simp [Op.operands]
  have hmi : i ∈ o.op.operands := by rw [ho]; simp [Op.operands]
  have hd : NoDefer o := nd_of ho (by simp)
  have str : ∀ (s : ByteArray) (z : Int) (lt : Bool) (ax : AV), P.underlying t = some .string → (ax = .lit (.string s) ∨ ax = .v (.string s)) → st'.val x = ax → intOf (st'.val i) = some (z, lt) → 0 ≤ z → z < (s.size : Int) → ∀ r : AV, (∀ E, Rep E r (.int .u8 (s.data.getD z.toNat 0).toNat)) → OpOk P o st' r st' := by
    intro s z lt ax hu hax hv hz h0 h1 r hr
    refine quiet_of hd fun E act hx => ⟨.int .u8 (s.data.getD z.toNat 0).toNat, fun w => ?_, hr E⟩
    obtain ⟨kk, hi⟩ := intOf_rep hz (hx i hmi)
    have he := rep_str hax (hv ▸ hx x hmx)
    have hlt : z.toNat < s.size := by omega
    have hg : s[z.toNat]? = some (s.data.getD z.toNat 0) := by
      rw [getElem?_pos s z.toNat hlt, str_at]
    unfold execOp
    rw [ho]
    simp [Instr.index, hi, asIntOf, run_underlying hu, he, h0, hg]
  unfold indexA at h
  split at h
  · rename_i len elem cs z lt hu hv hz
    split at h
    · rename_i k ag hs ha
      split at h
      · rename_i hb
        simp only [Bool.and_eq_true, decide_eq_true_eq] at hb
        have hc := hit_ofO h
        refine quiet_of hd fun E act hx => ?_
        obtain ⟨c, he, hR, hone⟩ := rep_agg (hv ▸ hx x hmx)
        obtain ⟨kk, hi⟩ := intOf_rep hz (hx i hmi)
        obtain ⟨v, hp, hr⟩ := part_cut (P := P) hs ha hR hone hc
        refine ⟨v, fun w => ?_, hr⟩
        unfold execOp
        rw [ho]
        simp [Instr.index, hi, asIntOf, run_underlying hu, he, hb.1, hb.2, run_size hs, hp w]
      · exact h.elim
    · rename_i k ag hs ha
      split at h
      · rename_i r hc
        obtain ⟨⟨h0, h1⟩, h⟩ := h
        cases h
        refine quiet_of hd fun E act hx => ?_
        obtain ⟨c, he, hR, hone⟩ := rep_agg (hv ▸ hx x hmx)
        obtain ⟨kk, hi⟩ := intOf_rep hz (hx i hmi)
        obtain ⟨a', hp, hpr⟩ := pickI_ok (E := E) hc h0 h1
        obtain ⟨v, hp, hr⟩ := part_cut (P := P) hs ha hR hone hp
        refine ⟨v, fun w => ?_, hpr v hr⟩
        unfold execOp
        rw [ho]
        simp [Instr.index, hi, asIntOf, run_underlying hu, he, h0, h1, run_size hs, hp w]
      · exact h.elim
    · exact h.elim
  · rename_i s z hu hv hz
    split at h
    · rename_i b hb
      cases h
      have h0 : 0 ≤ z := by
        rcases Int.lt_or_le z 0 with h | h
        · rw [if_neg (by omega)] at hb; cases hb
        · exact h
      rw [if_pos h0] at hb
      have hlt : z.toNat < s.size := by
        rcases Nat.lt_or_ge z.toNat s.size with h | h
        · exact h
        · rw [getElem?_neg s z.toNat (by omega)] at hb; cases hb
      rw [getElem?_pos s z.toNat hlt, str_at] at hb
      have hbb : b = s.data.getD z.toNat 0 := by cases hb; rfl
      exact str s z true _ hu (.inl rfl) hv hz h0 (by omega) _ (fun E => by rw [hbb]; exact .lit _ rfl)
    · exact h.elim
  · rename_i s z hu hv hz
    obtain ⟨⟨h0, h1⟩, h⟩ := h
    cases h
    exact str s z false _ hu (.inl rfl) hv hz h0 h1 _ (fun E => .v _ rfl)
  · rename_i s z lt hu hv hz
    obtain ⟨⟨h0, h1⟩, h⟩ := h
    cases h
    exact str s z lt _ hu (.inr rfl) hv hz h0 h1 _ (fun E => .v _ rfl)
  · exact h.elim
theorem nilCheck_ok {x : Operand} (ho : o.op = .nilCheck x) (h : ∃ g : Value → Prop, (∀ E v, Rep E (st.val x) v → g v) ∧ ∀ v, g v → (∃ ad, v = .pointer (some ad)) ∨ ∃ f a c, v = .func (.func f) a c) : OpOk P o st (st.val x) st := by
  obtain ⟨g, hg, h⟩ := h
  refine quiet_of (nd_of ho (by simp)) fun E act hx => ⟨act.eval x, fun w => ?_, hx x (by rw [ho]; exact mem1)⟩
  unfold execOp
  rw [ho]
  rcases h _ (hg E _ (hx x (by rw [ho]; exact mem1))) with ⟨ad, he⟩ | ⟨f, b, c, he⟩
  · simp [he]
  · simp [he]
theorem Reps.mapv {ρ : Operand → Value} {l : List Operand} (h : ∀ x, x ∈ l → Rep E (st.val x) (ρ x)) : Reps E (l.map st.val) (l.map ρ) := by
  induction l with
  | nil => exact .nil
  | cons x l ih => exact .cons (h x (List.mem_cons_self ..)) (ih fun y hy => h y (List.mem_cons_of_mem _ hy))
theorem makeFunc_ok {f : Fn} {first cap : Array Operand} (ho : o.op = .makeFunc f first cap) : OpOk P o st (.fn f (first.toList.map st.val) (cap.toList.map st.val)) st := by
  refine quiet_of (nd_of ho (by simp)) fun E act hx => ⟨.func f (first.map act.eval) (cap.map act.eval), fun w => ?_, ?_⟩
  · unfold execOp
    rw [ho]
    rfl
  · refine .fn ?_ ?_
    · rw [Array.toList_map]; exact .mapv fun x hxm => hx x (by rw [ho]; simp [Op.operands]; exact .inl (by simpa using hxm))
    · rw [Array.toList_map]; exact .mapv fun x hxm => hx x (by rw [ho]; simp [Op.operands]; exact .inr (by simpa using hxm))
theorem extract_ok {t : Operand} {i : Nat} (ho : o.op = .extract t i) {l : List AV} (hv : st.val t = .tup l) (h : (pureA l[i]? st).hit (a, st')) : OpOk P o st a st' := by
  obtain ⟨h', rfl⟩ := hit_pureA h
  refine quiet_of (nd_of ho (by simp)) fun E act hx => ?_
  have hx0 := hx t (by rw [ho]; exact mem1)
  rw [hv] at hx0
  obtain ⟨c, he, hR⟩ : ∃ c : Array Value, act.eval t = .tuple c ∧ Reps E l c.toList := by
    generalize act.eval t = u at hx0
    cases hx0; exact ⟨_, rfl, ‹_›⟩
  obtain ⟨v, hv', hr⟩ := hR.get h'
  rw [Array.getElem?_toList] at hv'
  refine ⟨v, fun w => ?_, hr⟩
  unfold execOp
  rw [ho]
  simp [Instr.extract, he, hv']
/-! Build. -/
theorem foldl_set (l : List Value) : ∀ (off : Nat) (cs : Array Value), (l.zipIdx off).foldl (fun cs (p : Value × Nat) => cs.setIfInBounds p.2 p.1) cs = if off + l.length ≤ cs.size then (cs.toList.take off ++ (l ++ cs.toList.drop (off + l.length))).toArray else (l.zipIdx off).foldl (fun cs (p : Value × Nat) => cs.setIfInBounds p.2 p.1) cs := by
  induction l with
  | nil =>
    intro off cs
    split
    · simp
    · rfl
  | cons v l ih =>
    intro off cs
    split
    · rename_i h
      simp only [List.length_cons] at h
      rw [List.zipIdx_cons, List.foldl_cons, ih, if_pos (by simp; omega)]
      apply congrArg
      apply List.ext_getElem?
      intro i
      have hcz : cs.toList.length = cs.size := by simp
      rw [get_app3, get_app3]
      simp only [Array.toList_setIfInBounds, List.length_take, List.length_set, List.length_cons]
      have e1 : min (off + 1) cs.toList.length = off + 1 := by omega
      have e2 : min off cs.toList.length = off := by omega
      rw [e1, e2]
      by_cases h1 : i < off
      · rw [if_pos (by omega), if_pos h1, List.getElem?_take, List.getElem?_take, if_pos (by omega), if_pos h1, List.getElem?_set, if_neg (by omega)]
      · by_cases h2 : i = off
        · subst h2
          rw [if_pos (by omega), if_neg (by omega), if_pos (by omega), List.getElem?_take, if_pos (by omega), List.getElem?_set, if_pos rfl]
          simp [show i < cs.size by omega]
        · rw [if_neg (by omega), if_neg h1]
          have : i - off = (i - (off + 1)) + 1 := by omega
          rw [this]
          by_cases h3 : i - (off + 1) < l.length
          · rw [if_pos h3, if_pos (by omega)]; simp
          · rw [if_neg h3, if_neg (by omega), List.getElem?_drop, List.getElem?_drop, List.getElem?_set, if_neg (by omega)]
            congr 1; omega
    · rfl
theorem fill_ok {place place' : Nat → Option (Nat × Nat)} (hpl : ∀ i x, place i = some x → place' i = some x) : ∀ (parts : List (Nat × AV)) (cs : List AV) (r : List AV), fillA place parts cs = some r → ∀ (vals : List (Nat × Value)) (c : Array Value),
    List.map Prod.fst vals = List.map Prod.fst parts → (∀ (j : Nat) (p : Nat × AV) (q : Nat × Value), parts[j]? = some p → vals[j]? = some q → Rep E p.2 q.2) → Reps E cs c.toList → One c.toList →
    ∃ c', Instr.fill place' c vals = some c' ∧ Reps E r c'.toList ∧ One c'.toList
  | [], cs, r, h, vals, c, hf, _, hR, ho => by
    simp only [fillA] at h
    cases h
    cases vals with
    | nil => exact ⟨c, rfl, hR, ho⟩
    | cons => simp at hf
  | (i, av) :: parts, cs, r, h, vals, c, hf, hp, hR, ho => by
    simp only [fillA] at h
    split at h
    · rename_i off n hpi
      split at h
      · rename_i hb hl
        simp only [Bool.and_eq_true] at hl
        have hl1 := Nat.eq_of_beq_eq_true hl.1
        have hl2 := Nat.le_of_ble_eq_true hl.2
        cases vals with
        | nil => simp at hf
        | cons q vals =>
          obtain ⟨j, v⟩ := q
          simp only [List.map_cons, List.cons.injEq] at hf
          obtain ⟨rfl, hf⟩ := hf
          obtain ⟨k1, k2⟩ := cellsR (hp 0 (j, av) (j, v) rfl rfl) hb
          have hvl : (cellsA av).length = v.cells.toList.length := k1.len
          have hcl := hR.len
          have hcz : c.toList.length = c.size := by simp
          have hvz : v.cells.toList.length = v.cells.size := by simp
          have hfold : v.cells.zipIdx.foldl (fun cs (p : Value × Nat) => cs.setIfInBounds (off + p.2) p.1) c = (c.toList.take off ++ (v.cells.toList ++ c.toList.drop (off + v.cells.toList.length))).toArray := by
            have h1 := foldl_set v.cells.toList off c
            rw [if_pos (by omega)] at h1
            rw [← h1, ← Array.foldl_toList, Array.toList_zipIdx]
            have : ∀ (l : List Value) (s : Nat) (c : Array Value), (l.zipIdx s).foldl (fun cs (p : Value × Nat) => cs.setIfInBounds (off + p.2) p.1) c = (l.zipIdx (off + s)).foldl (fun cs (p : Value × Nat) => cs.setIfInBounds p.2 p.1) c := by
              intro l
              induction l with
              | nil => intro s c; rfl
              | cons x l ih => intro s c; rw [List.zipIdx_cons, List.zipIdx_cons, List.foldl_cons, List.foldl_cons, ih]; rfl
            have := this v.cells.toList 0 c
            simpa using this
          obtain ⟨c', g1, g2, g3⟩ := fill_ok hpl parts (splice cs off (cellsA av)) r h vals (c.toList.take off ++ (v.cells.toList ++ c.toList.drop (off + v.cells.toList.length))).toArray hf
            (fun j p q hp' hq' => hp (j + 1) p q (by simpa using hp') (by simpa using hq')) (by simpa using splice_ok hR k1) (by simpa using one_splice (n := v.cells.toList.length) (off := off) ho k2)
          refine ⟨c', ?_, g2, g3⟩
          simp only [Instr.fill, hpl _ _ hpi]
          have hno : ¬ (decide (v.cells.size ≠ n) || decide (off + v.cells.size > c.size)) = true := by
            simp only [Bool.or_eq_true, decide_eq_true_eq]
            rintro (h | h) <;> omega
          rw [if_neg hno, hfold]
          exact g1
      · cases h
    · cases h
theorem mapM_places (fs : List Field) (h : fs.all (fun f => (sizeO P f.type).isSome) = true) (w : World) : (fs.mapM (m := Sem) fun f => Prod.mk f.offset <$> sizeOf f.type).run P w = .ok (fs.map fun f => (f.offset, (sizeO P f.type).getD 0)) w := by
  induction fs with
  | nil => rfl
  | cons f fs ih =>
    simp only [List.all_cons, Bool.and_eq_true] at h
    obtain ⟨n, hn⟩ := Option.isSome_iff_exists.1 h.1
    have := ih h.2
    simp [List.mapM_cons, run_size hn, this, hn]
theorem mapM_places' (fs : Array Field) (h : fs.toList.all (fun f => (sizeO P f.type).isSome) = true) (w : World) : (fs.mapM (m := Sem) fun f => Prod.mk f.offset <$> sizeOf f.type).run P w = .ok (fs.toList.map fun f => (f.offset, (sizeO P f.type).getD 0)).toArray w := by
  have := mapM_places (P := P) fs.toList h w
  rw [Array.mapM_eq_mapM_toList]
  simp [this]
theorem build_ok {t : TypeId} {parts : Array (Nat × Operand)} (ho : o.op = .build t parts) (h : (pureA (buildA P t (parts.toList.map fun p => (p.1, st.val p.2))) st).hit (a, st')) : OpOk P o st a st' := by
  obtain ⟨h, rfl⟩ := hit_pureA h
  have hd : NoDefer o := nd_of ho (by simp)
  have hparts : ∀ (E : Env) (act : Act), (∀ x, x ∈ o.op.operands → Rep E (st'.val x) (act.eval x)) → ∀ (j : Nat) (p : Nat × AV) (q : Nat × Value), (parts.toList.map fun p => (p.1, st'.val p.2))[j]? = some p → ((parts.map fun (p : Nat × Operand) => (p.1, act.eval p.2)).toList)[j]? = some q → Rep E p.2 q.2 := by
    intro E act hx j p q h1 h2
    rw [Array.toList_map] at h2
    rw [List.getElem?_map] at h1 h2
    cases hj : parts.toList[j]? with
    | none => rw [hj] at h1; cases h1
    | some u =>
      rw [hj] at h1 h2
      cases h1; cases h2
      exact hx u.2 (by rw [ho]; simp [Op.operands]; exact ⟨u.1, by simpa using List.mem_of_getElem? hj⟩)
  unfold buildA at h
  split at h
  · rename_i cs hz
    obtain ⟨i, z, hi, hzz, rfl, hone⟩ := zero_info hz
    split at h
    · rename_i fs hu
      split at h
      · rename_i hall
        split at h
        · rename_i r hf
          cases h
          refine quiet_of hd fun E act hx => ?_
          obtain ⟨c', g1, g2, g3⟩ := fill_ok (E := E) (place' := fun i => (fs[i]?).map fun f => (f.offset, (sizeO P f.type).getD 0)) (fun i x hx => by
            split at hx
            · rename_i f hf
              split at hx
              · rename_i n hn; cases hx; simp [hf, hn]
              · cases hx
            · cases hx) _ _ _ hf ((parts.map fun (p : Nat × Operand) => (p.1, act.eval p.2)).toList) z.cells (by simp [List.map_map, Function.comp_def]) (hparts E act hx) (.lits _ hone) hone
          refine ⟨.agg c', fun w => ?_, .agg g2 g3⟩
          have hm := mapM_places' (P := P) fs hall w
          unfold execOp
          rw [ho]
          simp only [Array.toList_map] at g1
          simp [Instr.build, zeroValue, typeInfo, hi, hzz, run_underlying hu, hm, g1]
        · cases h
      · cases h
    · rename_i n elem hu
      split at h
      · rename_i k hs
        split at h
        · rename_i r hf
          cases h
          refine quiet_of hd fun E act hx => ?_
          obtain ⟨c', g1, g2, g3⟩ := fill_ok (E := E) (place' := fun i => some (i * k, k)) (fun i x hx => hx) _ _ _ hf ((parts.map fun (p : Nat × Operand) => (p.1, act.eval p.2)).toList) z.cells (by simp [List.map_map, Function.comp_def]) (hparts E act hx) (.lits _ hone) hone
          refine ⟨.agg c', fun w => ?_, .agg g2 g3⟩
          unfold execOp
          rw [ho]
          simp only [Array.toList_map] at g1
          simp [Instr.build, zeroValue, typeInfo, hi, hzz, run_underlying hu, run_size hs, g1]
        · cases h
      · cases h
    · cases h
  · cases h
end
end Go.Proofs.YtdlghljhgbakjaaDoor
