/-
  PART: ways joined: what holds behind one of them holds behind the joined one.
-/
import Derived.Test.YtdlghljhgbakjaaDoorENG
namespace Go.Proofs.YtdlghljhgbakjaaDoor
open Go.RowKit

/-- What state s says, state m says, if not more. -/
structure Wkn (s m : St) : Prop where
  slot : ∀ (E : Env) (d : Nat) (v : Value), Rep E (look s.sl d) v → Rep E (look m.sl d) v
  blk : ∀ x B, hget m.hp x = some B → ∃ B1, hget s.hp x = some B1 ∧ ∀ (E : Env) (o : Option Obj), BlkR E x B1 o → BlkR E x B o
  nx : s.nx ≤ m.nx
  rd : ∀ x, x ∈ s.rd → x ∈ m.rd
  wr : ∀ x, x ∈ s.wr → x ∈ m.wr
theorem Wkn.refl (s : St) : Wkn s s := ⟨fun _ _ _ h => h, fun _ B h => ⟨B, h, fun _ _ h => h⟩, Nat.le_refl _, fun _ h => h, fun _ h => h⟩
theorem Wkn.trans {a b c : St} (h : Wkn a b) (k : Wkn b c) : Wkn a c :=
  ⟨fun E d v q => k.slot E d v (h.slot E d v q), fun x B q => by
    obtain ⟨B1, h1, h2⟩ := k.blk x B q
    obtain ⟨B2, h3, h4⟩ := h.blk x B1 h1
    exact ⟨B2, h3, fun E o q => h2 E o (h4 E o q)⟩, Nat.le_trans h.nx k.nx, fun x q => k.rd x (h.rd x q), fun x q => k.wr x (h.wr x q)⟩
theorem Pst.wkn {FP : Nat → Prop} {E E' : Env} {H : Nat → Option Blk} {s m : St} {nx : Nat} {w w' : World} (p : Pst FP E E' H (hget s.hp) nx s.nx s.wr w w') (k : Wkn s m) (hwf : Wf s) : Pst FP E E' H (hget m.hp) nx m.nx m.wr w w' := by
  have al : ∀ x, hget m.hp x ≠ none → hget s.hp x ≠ none := fun x hx => by
    cases hB : hget m.hp x with
    | none => exact absurd hB hx
    | some B => obtain ⟨B1, h1, _⟩ := k.blk x B hB; rw [h1]; simp
  refine ⟨⟨p.le, fun x hx => ?_, ⟨p.sim.fz, fun x hF hn => p.sim.dom x hF (al x hn), fun x hF hn hv => p.sim.low x hF (al x hn) hv, fun x B hF hB => ?_, fun x y hx hy hnx hny => p.sim.inj x y hx hy (al x hnx) (al y hny)⟩,
    fun b hb hx => p.frame b hb fun x hx' => hx x (k.wr x hx'), fun x h1 h2 hF hn hv => ?_, p.size, p.os, p.tape, p.output⟩, fun x hx hF hn => p.old x hx hF (al x hn)⟩
  · rcases p.dom x hx with h | h
    · exact .inl h
    · exact .inr ⟨h.1, Nat.lt_of_lt_of_le h.2 k.nx⟩
  · obtain ⟨B1, h1, h2⟩ := k.blk x B hB
    exact h2 _ _ (p.sim.blk x B1 hF h1)
  · rcases p.news x h1 (hwf x (al x hn)) hF (al x hn) hv with h | ⟨y, hy, h⟩
    · exact .inl h
    · exact .inr ⟨y, k.wr y hy, h⟩
/-! Merging. -/
theorem look_cons (d : Nat) (a : AV) (l : List (Nat × AV)) (e : Nat) : look ((d, a) :: l) e = if d = e then a else look l e := by
  show (match Nat.beq d e with | true => a | false => look l e) = _
  by_cases h : d = e
  · subst h; simp
  · have : Nat.beq d e = false := by
      cases hb : Nat.beq d e
      · rfl
      · exact absurd (Nat.eq_of_beq_eq_true hb) h
    rw [this, if_neg h]
theorem muxSl_ok {c : Bool} {l m : List (Nat × AV)} : ∀ {ds : List Nat} {r0 r : List (Nat × AV)}, muxSl c l m ds r0 = some r → ∀ d, (d ∈ ds → mux muxD c (look l d) (look m d) = some (look r d)) ∧ (d ∉ ds → look r d = look r0 d)
  | [], r0, r, h, d => by simp only [muxSl] at h; cases h; exact ⟨fun h => (by cases h), fun _ => rfl⟩
  | e :: ds, r0, r, h, d => by
    simp only [muxSl] at h
    split at h
    · rename_i a ha
      obtain ⟨h1, h2⟩ := muxSl_ok h d
      by_cases hd : d ∈ ds
      · exact ⟨fun _ => h1 hd, fun hn => absurd (List.mem_cons_of_mem _ hd) hn⟩
      · have h3 := h2 hd
        rw [look_cons] at h3
        refine ⟨fun hm => ?_, fun hn => ?_⟩
        · rcases List.mem_cons.1 hm with rfl | hm
          · rw [if_pos rfl] at h3; rw [h3]; exact ha
          · exact absurd hm hd
        · rw [if_neg (show ¬ e = d from fun h => hn (h ▸ List.mem_cons_self ..))] at h3; exact h3
    · cases h
theorem muxHp_ok {c : Bool} {w : Nat → Nat → Bool} {l m : List (Nat × Option Blk)} : ∀ {ds : List Nat} {r0 r : List (Nat × Option Blk)}, muxHp c w l m ds r0 = some r → ∀ d, (d ∈ ds → muxBlk c (w d) (hget l d) (hget m d) = some (hget r d)) ∧ (d ∉ ds → hget r d = hget r0 d)
  | [], r0, r, h, d => by simp only [muxHp] at h; cases h; exact ⟨fun h => (by cases h), fun _ => rfl⟩
  | e :: ds, r0, r, h, d => by
    simp only [muxHp] at h
    split at h
    · rename_i a ha
      obtain ⟨h1, h2⟩ := muxHp_ok h d
      by_cases hd : d ∈ ds
      · exact ⟨fun _ => h1 hd, fun hn => absurd (List.mem_cons_of_mem _ hd) hn⟩
      · have h3 := h2 hd
        rw [hget_cons] at h3
        refine ⟨fun hm => ?_, fun hn => ?_⟩
        · rcases List.mem_cons.1 hm with rfl | hm
          · rw [if_pos rfl] at h3; rw [h3]; exact ha
          · exact absurd hm hd
        · rw [if_neg (show ¬ e = d from fun h => hn (h ▸ List.mem_cons_self ..))] at h3; exact h3
    · cases h
theorem zipO_len {f : AV → AV → Option AV} : ∀ {l m r : List AV}, zipO f l m = some r → l.length = r.length ∧ m.length = r.length
  | [], [], r, h => by simp [zipO] at h; subst h; exact ⟨rfl, rfl⟩
  | [], _ :: _, r, h => by simp [zipO] at h
  | _ :: _, [], r, h => by simp [zipO] at h
  | a :: l, b :: m, r, h => by
    simp only [zipO] at h
    split at h
    · rename_i x y hx hy
      cases h
      obtain ⟨q1, q2⟩ := zipO_len hy
      exact ⟨by simp [q1], by simp [q2]⟩
    · cases h
theorem muxBlk_ok {c : Bool} {w : Nat → Bool} {b1 b2 : Option Blk} {B : Blk} (h : muxBlk c w b1 b2 = some (some B)) (hsame : ∀ ty cs ty' cs', b1 = some (.fix ty cs) → b2 = some (.fix ty' cs') → ∀ j, w j = false → cs[j]? = cs'[j]?) :
    ∃ B1 B2, b1 = some B1 ∧ b2 = some B2 ∧ ∀ (E : Env) (x : Nat) (o : Option Obj), (if c = true then BlkR E x B1 o else BlkR E x B2 o) → BlkR E x B o := by
  unfold muxBlk at h
  split at h
  · rename_i ty cs ty' cs'
    split at h
    · rename_i ht
      obtain rfl := Nat.eq_of_beq_eq_true ht
      split at h
      · rename_i r hz
        cases h
        refine ⟨_, _, rfl, rfl, fun E x o hb => ?_⟩
        cases c
        · simp only [Bool.false_eq_true, if_false] at hb
          obtain ⟨h1, c', h2, h3, h4⟩ := hb
          exact ⟨h1, c', h2, zipW_ok (muxD_ok false) hz (fun j hj => hsame _ _ _ _ rfl rfl j (by simpa using hj)) (by simpa using h3), h4⟩
        · simp only [if_true] at hb
          obtain ⟨h1, c', h2, h3, h4⟩ := hb
          exact ⟨h1, c', h2, zipW_ok (muxD_ok true) hz (fun j hj => hsame _ _ _ _ rfl rfl j (by simpa using hj)) (by simpa using h3), h4⟩
      · cases h
    · cases h
  · rename_i ty n k get ty' n' k' get'
    split at h
    · rename_i ht
      simp only [Bool.and_eq_true] at ht
      obtain rfl := Nat.eq_of_beq_eq_true ht.1
      obtain rfl := Nat.eq_of_beq_eq_true ht.2
      cases h
      refine ⟨_, _, rfl, rfl, fun E x o hb => ?_⟩
      have hfit : ∀ (c : Bool) (l m : List AV) (vs : List Value), vs.length = k → (if c = true then Reps E l vs else Reps E m vs) → Reps E (fit k (zipU (mux muxD c) l m)) vs := fun c l m vs hl h => zipU_fit (muxD_ok c) hl h
      cases c
      · simp only [Bool.false_eq_true, if_false] at hb ⊢
        obtain ⟨h0, hb⟩ := hb
        refine ⟨h0, ?_⟩
        rcases hb with hb | ⟨h1, c', h2, h3, h4, h5, h6⟩
        · exact .inl hb
        · refine .inr ⟨h1, c', h2, h3, h4, h5, fun i hi => hfit false _ _ _ ?_ (by simpa using h6 i hi)⟩
          have hle : 0 + n' * k ≤ c'.size := by rw [h3, Nat.zero_add]; exact Nat.mul_le_mul_right _ h4
          have := seg_len hi hle
          rwa [Nat.zero_add] at this
      · simp only [if_true] at hb ⊢
        obtain ⟨h0, hb⟩ := hb
        refine ⟨h0, ?_⟩
        rcases hb with hb | ⟨h1, c', h2, h3, h4, h5, h6⟩
        · exact .inl hb
        · refine .inr ⟨h1, c', h2, h3, h4, h5, fun i hi => hfit true _ _ _ ?_ (by simpa using h6 i hi)⟩
          have hle : 0 + n * k ≤ c'.size := by rw [h3, Nat.zero_add]; exact Nat.mul_le_mul_right _ h4
          have := seg_len hi hle
          rwa [Nat.zero_add] at this
    · cases h
  · cases h
/-- A block that is told for both ways, is told for one of them. -/
theorem muxBlk_both {c : Bool} {w : Nat → Bool} {b1 b2 : Option Blk} {B : Blk} (h : muxBlk c w b1 b2 = some (some B)) : (∃ B1, b1 = some B1) ∧ ∃ B2, b2 = some B2 := by
  unfold muxBlk at h
  split at h
  · exact ⟨⟨_, rfl⟩, _, rfl⟩
  · exact ⟨⟨_, rfl⟩, _, rfl⟩
  · cases h
/-- Cells that neither way wrote are alike. -/
theorem kept_same {hp hp1 hp2 : List (Nat × Option Blk)} {a b : List (Nat × Option (Nat × Nat))} {x : Nat} (h : Kept hp hp1 a x) (k : Kept hp hp2 b x) {ty ty' : TypeId} {cs cs' : List AV} (h1 : hget hp1 x = some (.fix ty cs)) (k1 : hget hp2 x = some (.fix ty' cs'))
    (j : Nat) (hj : (cov a x j || cov b x j) = false) : cs[j]? = cs'[j]? := by
  simp only [Bool.or_eq_false_iff] at hj
  have key : ∀ {hq : List (Nat × Option Blk)} {a : List (Nat × Option (Nat × Nat))} {ty : TypeId} {cs : List AV}, Kept hp hq a x → hget hq x = some (.fix ty cs) → cov a x j = false → ∃ ty0 cs0, hget hp x = some (.fix ty0 cs0) ∧ cs[j]? = cs0[j]? := by
    intro hq a ty cs h h1 hj
    rcases h with h | h | ⟨ty2, ds, ds', q1, q2, q3, q4⟩
    · rw [h j] at hj; cases hj
    · exact ⟨ty, cs, h ▸ h1, rfl⟩
    · rw [q2] at h1; cases h1
      exact ⟨_, ds, q1, q4 j hj⟩
  obtain ⟨t1, c1, e1, e2⟩ := key h h1 hj.1
  obtain ⟨t2, c2, e3, e4⟩ := key k k1 hj.2
  rw [e1] at e3; cases e3
  rw [e2, e4]
theorem mergeS_ok {c : Bool} {s0 s1 s2 m : St} (h : mergeS c s0 s1 s2 = some m) (g1 : Grew s0.forked s1) (g2 : Grew s0.forked s2) : (c = true → Wkn s1 m) ∧ (c = false → Wkn s2 m) ∧ Grew s0 m := by
  unfold mergeS at h
  split at h
  · rename_i sl hp hsl hhp
    cases h
    have hS := muxSl_ok hsl
    have hH := muxHp_ok hhp
    have hsame : ∀ x ty cs ty' cs', hget s1.hp x = some (.fix ty cs) → hget s2.hp x = some (.fix ty' cs') → ∀ j, (cov s1.wc x j || cov s2.wc x j) = false → cs[j]? = cs'[j]? := fun x ty cs ty' cs' h1 h2 j hj => kept_same (g1.cell x) (g2.cell x) h1 h2 j hj
    refine ⟨?_, ?_, ?_⟩
    · rintro rfl
      refine ⟨fun E d v hv => ?_, fun x B hB => ?_, Nat.le_max_left _ _, fun x hx => mem_uni.2 (.inl hx), fun x hx => mem_uni.2 (.inl hx)⟩
      · by_cases hd : d ∈ uni s1.ws s2.ws
        · exact muxD_ok true E _ _ _ v ((hS d).1 hd) (by simpa using hv)
        · show Rep E (look sl d) v
          rw [(hS d).2 hd]
          have := g1.slot d (fun hx => hd (mem_uni.2 (.inl hx)))
          rw [this] at hv; exact hv
      · by_cases hd : x ∈ uni s1.wb s2.wb
        · have h1 := (hH x).1 hd
          rw [show hget hp x = some B from hB] at h1
          obtain ⟨B1, B2, e1, e2, e3⟩ := muxBlk_ok h1 (fun ty cs ty' cs' => hsame x ty cs ty' cs')
          exact ⟨B1, e1, fun E o q => e3 E x o (by simpa using q)⟩
        · have h1 : hget hp x = hget s0.hp x := (hH x).2 hd
          have h2 := g1.blkb x (fun hx => hd (mem_uni.2 (.inl hx)))
          refine ⟨B, ?_, fun E o q => q⟩
          rw [h2]
          exact h1.symm.trans hB
    · rintro rfl
      refine ⟨fun E d v hv => ?_, fun x B hB => ?_, Nat.le_max_right _ _, fun x hx => mem_uni.2 (.inr hx), fun x hx => mem_uni.2 (.inr hx)⟩
      · by_cases hd : d ∈ uni s1.ws s2.ws
        · exact muxD_ok false E _ _ _ v ((hS d).1 hd) (by simpa using hv)
        · show Rep E (look sl d) v
          rw [(hS d).2 hd]
          have := g2.slot d (fun hx => hd (mem_uni.2 (.inr hx)))
          rw [this] at hv; exact hv
      · by_cases hd : x ∈ uni s1.wb s2.wb
        · have h1 := (hH x).1 hd
          rw [show hget hp x = some B from hB] at h1
          obtain ⟨B1, B2, e1, e2, e3⟩ := muxBlk_ok h1 (fun ty cs ty' cs' => hsame x ty cs ty' cs')
          exact ⟨B2, e2, fun E o q => e3 E x o (by simpa using q)⟩
        · have h1 : hget hp x = hget s0.hp x := (hH x).2 hd
          have h2 := g2.blkb x (fun hx => hd (mem_uni.2 (.inr hx)))
          refine ⟨B, ?_, fun E o q => q⟩
          rw [h2]
          exact h1.symm.trans hB
    · have hal : ∀ x, hget hp x ≠ none → hget s1.hp x ≠ none ∨ hget s0.hp x ≠ none := fun x hx => by
        by_cases hd : x ∈ uni s1.wb s2.wb
        · cases hB : hget hp x with
          | none => exact absurd hB hx
          | some B =>
            have h1 := (hH x).1 hd
            rw [hB] at h1
            obtain ⟨⟨B1, e1⟩, _⟩ := muxBlk_both h1
            exact .inl (by rw [e1]; simp)
        · have h1 : hget hp x = hget s0.hp x := (hH x).2 hd
          rw [h1] at hx; exact .inr hx
      refine ⟨fun hwf x hx => ?_, Nat.le_trans g1.nx (Nat.le_max_left _ _), fun x hx => mem_uni.2 (.inl (g1.rd x hx)), fun x hx => mem_uni.2 (.inl (g1.wr x hx)), fun x hx => mem_uni.2 (.inl hx), fun x hx => mem_uni.2 (.inl hx), fun d hd => ?_, fun x hx => ?_, fun x hx => ?_, fun x hx => ?_, fun e he => List.mem_append.2 (.inr (List.mem_append.2 (.inr (List.mem_append.2 (.inr he))))), fun x => ?_⟩
      · rcases hal x hx with h | h
        · exact Nat.lt_of_lt_of_le (g1.wf hwf x h) (Nat.le_max_left _ _)
        · exact Nat.lt_of_lt_of_le (hwf x h) (Nat.le_trans g1.nx (Nat.le_max_left _ _))
      · exact (hS d).2 fun h => hd (mem_uni.2 (.inr h))
      · exact (hH x).2 fun h => hx (mem_uni.2 (.inr h))
      · by_cases hd : x ∈ uni s1.wb s2.wb
        · rcases mem_uni.1 hd with h | h
          · rcases g1.wbr x h with h | h
            · cases h
            · exact absurd (mem_uni.2 (.inl h)) hx
          · rcases g2.wbr x h with h | h
            · cases h
            · exact absurd (mem_uni.2 (.inr h)) hx
        · exact (hH x).2 hd
      · rcases mem_uni.1 hx with h | h
        · exact .inl h
        · rcases mem_uni.1 h with h | h
          · rcases g1.wbr x h with h | h
            · cases h
            · exact .inr (mem_uni.2 (.inl h))
          · rcases g2.wbr x h with h | h
            · cases h
            · exact .inr (mem_uni.2 (.inr h))
      · generalize hW : ((uni s1.wb s2.wb).filter fun x => noFix (hget s0.hp x)).map (fun x => ((x, none) : Nat × Option (Nat × Nat))) = W0
        have m1 : ∀ e, e ∈ s1.wc → e ∈ W0 ++ (s1.wc ++ (s2.wc ++ s0.wc)) := fun e he => List.mem_append.2 (.inr (List.mem_append.2 (.inl he)))
        have m2 : ∀ e, e ∈ s2.wc → e ∈ W0 ++ (s1.wc ++ (s2.wc ++ s0.wc)) := fun e he => List.mem_append.2 (.inr (List.mem_append.2 (.inr (List.mem_append.2 (.inl he)))))
        by_cases hd : x ∈ uni s1.wb s2.wb
        · have hm := (hH x).1 hd
          have k1 := g1.cell x
          have k2 := g2.cell x
          -- both ways: all cells written, or a row of cells of the same type
          have fixed : ∀ {s : St}, Kept s0.forked.hp s.hp s.wc x → (∀ j, cov s.wc x j = true) ∨ (hget s.hp x = hget s0.hp x) ∨ ∃ ty cs cs', hget s0.hp x = some (.fix ty cs) ∧ hget s.hp x = some (.fix ty cs') ∧ cs'.length = cs.length ∧ ∀ j, cov s.wc x j = false → cs'[j]? = cs[j]? := fun h => h
          rcases fixed k1 with q1 | q1
          · exact .inl fun j => cov_mono m1 (q1 j)
          · rcases fixed k2 with q2 | q2
            · exact .inl fun j => cov_mono m2 (q2 j)
            · cases h0 : hget s0.hp x with
              | none =>
                have e1 : hget s1.hp x = none := by
                  rcases q1 with q1 | ⟨ty, cs, cs', q1, _⟩
                  · rw [q1, h0]
                  · rw [h0] at q1; cases q1
                rw [e1] at hm
                refine .inr (.inl ?_)
                have hn : muxBlk c (fun j => cov s1.wc x j || cov s2.wc x j) none (hget s2.hp x) = some none := rfl
                rw [hn] at hm
                exact (Option.some.inj hm).symm.trans h0.symm
              | some B0 =>
                cases B0 with
                | arr ty n k get =>
                  refine .inl fun j => cov_all (List.mem_append.2 (.inl ?_)) j
                  rw [← hW]
                  exact List.mem_map.2 ⟨x, List.mem_filter.2 ⟨hd, by rw [h0]; rfl⟩, rfl⟩
                | fix ty cs =>
                  have f1 : ∃ cs1, hget s1.hp x = some (.fix ty cs1) ∧ cs1.length = cs.length ∧ ∀ j, cov s1.wc x j = false → cs1[j]? = cs[j]? := by
                    rcases q1 with q1 | ⟨ty', ds, ds', a1, a2, a3, a4⟩
                    · exact ⟨cs, q1.trans h0, rfl, fun _ _ => rfl⟩
                    · rw [h0] at a1; cases a1; exact ⟨ds', a2, a3, a4⟩
                  have f2 : ∃ cs2, hget s2.hp x = some (.fix ty cs2) ∧ cs2.length = cs.length ∧ ∀ j, cov s2.wc x j = false → cs2[j]? = cs[j]? := by
                    rcases q2 with q2 | ⟨ty', ds, ds', a1, a2, a3, a4⟩
                    · exact ⟨cs, q2.trans h0, rfl, fun _ _ => rfl⟩
                    · rw [h0] at a1; cases a1; exact ⟨ds', a2, a3, a4⟩
                  obtain ⟨cs1, a1, a2, a3⟩ := f1
                  obtain ⟨cs2, b1, b2, b3⟩ := f2
                  rw [a1, b1] at hm
                  have hm' : (match zipW (mux muxD c) (fun j => cov s1.wc x j || cov s2.wc x j) 0 cs1 cs2 with | some r => some (some (Blk.fix ty r)) | none => none) = some (hget hp x) := by
                    have : muxBlk c (fun j => cov s1.wc x j || cov s2.wc x j) (some (.fix ty cs1)) (some (.fix ty cs2)) = (match Nat.beq ty ty with | true => (match zipW (mux muxD c) (fun j => cov s1.wc x j || cov s2.wc x j) 0 cs1 cs2 with | some r => some (some (Blk.fix ty r)) | none => none) | false => some none) := rfl
                    rw [this, show Nat.beq ty ty = true by simp] at hm
                    exact hm
                  cases hz : zipW (mux muxD c) (fun j => cov s1.wc x j || cov s2.wc x j) 0 cs1 cs2 with
                  | none => rw [hz] at hm'; cases hm'
                  | some r =>
                    rw [hz] at hm'
                    obtain ⟨z1, z2⟩ := zipW_len hz
                    refine .inr (.inr ⟨ty, cs, r, h0, (Option.some.inj hm').symm, z1.trans a2, fun j hj => ?_⟩)
                    have j1 := cov_mono_false m1 hj
                    have j2 := cov_mono_false m2 hj
                    exact (z2 j (by rw [Nat.zero_add, j1, j2]; rfl)).trans (a3 j j1)
        · exact .inr (.inl ((hH x).2 hd))
  · cases h
end Go.Proofs.YtdlghljhgbakjaaDoor
