/-
  PARTS, one behind the other: NH NI NJ NK NL NM NN NO NP NQ.
-/
import Derived.Test.YtdlghljhgbakjaaDoorWi1
import Derived.Orders
import Derived.LoopNIn
/-
  PART: ways joined: what holds behind one of them holds behind the joined one.
-/
namespace Go.Proofs.YtdlghljhgbakjaaDoor
open Go.RowKit

/-- What state s says, state m says, if not more. -/
structure Wkn (s m : St) : Prop where
  slot : ∀ (E : Env) (d : Nat) (v : Value), Rep E (look s.sl d) v → Rep E (look m.sl d) v
  blk : ∀ x B, hget m.hp x = some B → ∃ B1, hget s.hp x = some B1 ∧ ∀ (E : Env) (o : Option Obj), BlkR E x B1 o → BlkR E x B o
  nx : s.nx ≤ m.nx
  rd : ∀ x, x ∈ s.rd → x ∈ m.rd
  wr : ∀ x, x ∈ s.wr → x ∈ m.wr
theorem Wkn.refl (s : St) : Wkn s s := ⟨fun _ _ _ h => h, fun _ B h => ⟨B, h, fun _ _ h => h⟩, Nat.le_refl _, fun _ h => h, fun _ h => h⟩
theorem Wkn.trans {a b c : St} (h : Wkn a b) (k : Wkn b c) : Wkn a c :=
  ⟨fun E d v q => k.slot E d v (h.slot E d v q), fun x B q => by
    obtain ⟨B1, h1, h2⟩ := k.blk x B q
    obtain ⟨B2, h3, h4⟩ := h.blk x B1 h1
    exact ⟨B2, h3, fun E o q => h2 E o (h4 E o q)⟩, Nat.le_trans h.nx k.nx, fun x q => k.rd x (h.rd x q), fun x q => k.wr x (h.wr x q)⟩
theorem Pst.wkn {FP : Nat → Prop} {E E' : Env} {H : Nat → Option Blk} {s m : St} {nx : Nat} {w w' : World} (p : Pst FP E E' H (hget s.hp) nx s.nx s.wr w w') (k : Wkn s m) (hwf : Wf s) : Pst FP E E' H (hget m.hp) nx m.nx m.wr w w' := by
  have al : ∀ x, hget m.hp x ≠ none → hget s.hp x ≠ none := fun x hx => by
    cases hB : hget m.hp x with
    | none => exact absurd hB hx
    | some B => obtain ⟨B1, h1, _⟩ := k.blk x B hB; rw [h1]; simp
  refine ⟨⟨p.le, fun x hx => ?_, ⟨p.sim.fz, fun x hF hn => p.sim.dom x hF (al x hn), fun x hF hn hv => p.sim.low x hF (al x hn) hv, fun x B hF hB => ?_, fun x y hx hy hnx hny => p.sim.inj x y hx hy (al x hnx) (al y hny)⟩,
    fun b hb hx => p.frame b hb fun x hx' => hx x (k.wr x hx'), fun x h1 h2 hF hn hv => ?_, p.size, p.os, p.tape, p.output⟩, fun x hx hF hn => p.old x hx hF (al x hn)⟩
  · rcases p.dom x hx with h | h
    · exact .inl h
    · exact .inr ⟨h.1, Nat.lt_of_lt_of_le h.2 k.nx⟩
  · obtain ⟨B1, h1, h2⟩ := k.blk x B hB
    exact h2 _ _ (p.sim.blk x B1 hF h1)
  · rcases p.news x h1 (hwf x (al x hn)) hF (al x hn) hv with h | ⟨y, hy, h⟩
    · exact .inl h
    · exact .inr ⟨y, k.wr y hy, h⟩
/-! Merging. -/
theorem look_cons (d : Nat) (a : AV) (l : List (Nat × AV)) (e : Nat) : look ((d, a) :: l) e = if d = e then a else look l e := by
  show (match Nat.beq d e with | true => a | false => look l e) = _
  by_cases h : d = e
  · subst h; simp
  · have : Nat.beq d e = false := by
      cases hb : Nat.beq d e
      · rfl
      · exact absurd (Nat.eq_of_beq_eq_true hb) h
    rw [this, if_neg h]
theorem muxSl_ok {c : Bool} {l m : List (Nat × AV)} : ∀ {ds : List Nat} {r0 r : List (Nat × AV)}, muxSl c l m ds r0 = some r → ∀ d, (d ∈ ds → mux muxD c (look l d) (look m d) = some (look r d)) ∧ (d ∉ ds → look r d = look r0 d)
  | [], r0, r, h, d => by simp only [muxSl] at h; cases h; exact ⟨fun h => (by cases h), fun _ => rfl⟩
  | e :: ds, r0, r, h, d => by
    simp only [muxSl] at h
    split at h
    · rename_i a ha
      obtain ⟨h1, h2⟩ := muxSl_ok h d
      by_cases hd : d ∈ ds
      · exact ⟨fun _ => h1 hd, fun hn => absurd (List.mem_cons_of_mem _ hd) hn⟩
      · have h3 := h2 hd
        rw [look_cons] at h3
        refine ⟨fun hm => ?_, fun hn => ?_⟩
        · rcases List.mem_cons.1 hm with rfl | hm
          · rw [if_pos rfl] at h3; rw [h3]; exact ha
          · exact absurd hm hd
        · rw [if_neg (show ¬ e = d from fun h => hn (h ▸ List.mem_cons_self ..))] at h3; exact h3
    · cases h
theorem muxHp_ok {c : Bool} {w : Nat → Nat → Bool} {l m : List (Nat × Option Blk)} : ∀ {ds : List Nat} {r0 r : List (Nat × Option Blk)}, muxHp c w l m ds r0 = some r → ∀ d, (d ∈ ds → muxBlk c (w d) (hget l d) (hget m d) = some (hget r d)) ∧ (d ∉ ds → hget r d = hget r0 d)
  | [], r0, r, h, d => by simp only [muxHp] at h; cases h; exact ⟨fun h => (by cases h), fun _ => rfl⟩
  | e :: ds, r0, r, h, d => by
    simp only [muxHp] at h
    split at h
    · rename_i a ha
      obtain ⟨h1, h2⟩ := muxHp_ok h d
      by_cases hd : d ∈ ds
      · exact ⟨fun _ => h1 hd, fun hn => absurd (List.mem_cons_of_mem _ hd) hn⟩
      · have h3 := h2 hd
        rw [hget_cons] at h3
        refine ⟨fun hm => ?_, fun hn => ?_⟩
        · rcases List.mem_cons.1 hm with rfl | hm
          · rw [if_pos rfl] at h3; rw [h3]; exact ha
          · exact absurd hm hd
        · rw [if_neg (show ¬ e = d from fun h => hn (h ▸ List.mem_cons_self ..))] at h3; exact h3
    · cases h
theorem zipO_len {f : AV → AV → Option AV} : ∀ {l m r : List AV}, zipO f l m = some r → l.length = r.length ∧ m.length = r.length
  | [], [], r, h => by simp [zipO] at h; subst h; exact ⟨rfl, rfl⟩
  | [], _ :: _, r, h => by simp [zipO] at h
  | _ :: _, [], r, h => by simp [zipO] at h
  | a :: l, b :: m, r, h => by
    simp only [zipO] at h
    split at h
    · rename_i x y hx hy
      cases h
      obtain ⟨q1, q2⟩ := zipO_len hy
      exact ⟨by simp [q1], by simp [q2]⟩
    · cases h
theorem muxBlk_ok {c : Bool} {w : Nat → Bool} {b1 b2 : Option Blk} {B : Blk} (h : muxBlk c w b1 b2 = some (some B)) (hsame : ∀ ty cs ty' cs', b1 = some (.fix ty cs) → b2 = some (.fix ty' cs') → ∀ j, w j = false → cs[j]? = cs'[j]?) :
    ∃ B1 B2, b1 = some B1 ∧ b2 = some B2 ∧ ∀ (E : Env) (x : Nat) (o : Option Obj), (if c = true then BlkR E x B1 o else BlkR E x B2 o) → BlkR E x B o := by
  unfold muxBlk at h
  split at h
  · rename_i ty cs ty' cs'
    split at h
    · rename_i ht
      obtain rfl := Nat.eq_of_beq_eq_true ht
      split at h
      · rename_i r hz
        cases h
        refine ⟨_, _, rfl, rfl, fun E x o hb => ?_⟩
        cases c
        · simp only [Bool.false_eq_true, if_false] at hb
          obtain ⟨h1, c', h2, h3, h4⟩ := hb
          exact ⟨h1, c', h2, zipW_ok (muxD_ok false) hz (fun j hj => hsame _ _ _ _ rfl rfl j (by simpa using hj)) (by simpa using h3), h4⟩
        · simp only [if_true] at hb
          obtain ⟨h1, c', h2, h3, h4⟩ := hb
          exact ⟨h1, c', h2, zipW_ok (muxD_ok true) hz (fun j hj => hsame _ _ _ _ rfl rfl j (by simpa using hj)) (by simpa using h3), h4⟩
      · cases h
    · cases h
  · rename_i ty n k get ty' n' k' get'
    split at h
    · rename_i ht
      simp only [Bool.and_eq_true] at ht
      obtain rfl := Nat.eq_of_beq_eq_true ht.1
      obtain rfl := Nat.eq_of_beq_eq_true ht.2
      cases h
      refine ⟨_, _, rfl, rfl, fun E x o hb => ?_⟩
      have hfit : ∀ (c : Bool) (l m : List AV) (vs : List Value), vs.length = k → (if c = true then Reps E l vs else Reps E m vs) → Reps E (fit k (zipU (mux muxD c) l m)) vs := fun c l m vs hl h => zipU_fit (muxD_ok c) hl h
      cases c
      · simp only [Bool.false_eq_true, if_false] at hb ⊢
        obtain ⟨h0, hb⟩ := hb
        refine ⟨h0, ?_⟩
        rcases hb with hb | ⟨h1, c', fr, h2, hu, h3, h4, h5, h6⟩
        · exact .inl hb
        · refine .inr ⟨h1, c', fr, h2, hu, h3, h4, h5, fun i hi => hfit false _ _ _ ?_ (by simpa using h6 i hi)⟩
          have hle : 0 + n' * k ≤ c'.size := by rw [h3, Nat.zero_add]; exact Nat.mul_le_mul_right _ h4
          have := seg_len hi hle
          rwa [Nat.zero_add] at this
      · simp only [if_true] at hb ⊢
        obtain ⟨h0, hb⟩ := hb
        refine ⟨h0, ?_⟩
        rcases hb with hb | ⟨h1, c', fr, h2, hu, h3, h4, h5, h6⟩
        · exact .inl hb
        · refine .inr ⟨h1, c', fr, h2, hu, h3, h4, h5, fun i hi => hfit true _ _ _ ?_ (by simpa using h6 i hi)⟩
          have hle : 0 + n * k ≤ c'.size := by rw [h3, Nat.zero_add]; exact Nat.mul_le_mul_right _ h4
          have := seg_len hi hle
          rwa [Nat.zero_add] at this
    · cases h
  · cases h
/-- A block that is told for both ways, is told for one of them. -/
theorem muxBlk_both {c : Bool} {w : Nat → Bool} {b1 b2 : Option Blk} {B : Blk} (h : muxBlk c w b1 b2 = some (some B)) : (∃ B1, b1 = some B1) ∧ ∃ B2, b2 = some B2 := by
  unfold muxBlk at h
  split at h
  · exact ⟨⟨_, rfl⟩, _, rfl⟩
  · exact ⟨⟨_, rfl⟩, _, rfl⟩
  · cases h
/-- Cells that neither way wrote are alike. -/
theorem kept_same {hp hp1 hp2 : List (Nat × Option Blk)} {a b : List (Nat × Option (Nat × Nat))} {x : Nat} (h : Kept hp hp1 a x) (k : Kept hp hp2 b x) {ty ty' : TypeId} {cs cs' : List AV} (h1 : hget hp1 x = some (.fix ty cs)) (k1 : hget hp2 x = some (.fix ty' cs'))
    (j : Nat) (hj : (cov a x j || cov b x j) = false) : cs[j]? = cs'[j]? := by
  simp only [Bool.or_eq_false_iff] at hj
  have key : ∀ {hq : List (Nat × Option Blk)} {a : List (Nat × Option (Nat × Nat))} {ty : TypeId} {cs : List AV}, Kept hp hq a x → hget hq x = some (.fix ty cs) → cov a x j = false → ∃ ty0 cs0, hget hp x = some (.fix ty0 cs0) ∧ cs[j]? = cs0[j]? := by
    intro hq a ty cs h h1 hj
    rcases h with h | h | ⟨ty2, ds, ds', q1, q2, q3, q4⟩
    · rw [h j] at hj; cases hj
    · exact ⟨ty, cs, h ▸ h1, rfl⟩
    · rw [q2] at h1; cases h1
      exact ⟨_, ds, q1, q4 j hj⟩
  obtain ⟨t1, c1, e1, e2⟩ := key h h1 hj.1
  obtain ⟨t2, c2, e3, e4⟩ := key k k1 hj.2
  rw [e1] at e3; cases e3
  rw [e2, e4]
theorem mergeS_ok {c : Bool} {s0 s1 s2 m : St} (h : mergeS c s0 s1 s2 = some m) (g1 : Grew s0.forked s1) (g2 : Grew s0.forked s2) : (c = true → Wkn s1 m) ∧ (c = false → Wkn s2 m) ∧ Grew s0 m := by
  unfold mergeS at h
  split at h
  · rename_i sl hp hsl hhp
    cases h
    have hS := muxSl_ok hsl
    have hH := muxHp_ok hhp
    have hsame : ∀ x ty cs ty' cs', hget s1.hp x = some (.fix ty cs) → hget s2.hp x = some (.fix ty' cs') → ∀ j, (cov s1.wc x j || cov s2.wc x j) = false → cs[j]? = cs'[j]? := fun x ty cs ty' cs' h1 h2 j hj => kept_same (g1.cell x) (g2.cell x) h1 h2 j hj
    refine ⟨?_, ?_, ?_⟩
    · rintro rfl
      refine ⟨fun E d v hv => ?_, fun x B hB => ?_, Nat.le_max_left _ _, fun x hx => mem_uni.2 (.inl hx), fun x hx => mem_uni.2 (.inl hx)⟩
      · by_cases hd : d ∈ uni s1.ws s2.ws
        · exact muxD_ok true E _ _ _ v ((hS d).1 hd) (by simpa using hv)
        · show Rep E (look sl d) v
          rw [(hS d).2 hd]
          have := g1.slot d (fun hx => hd (mem_uni.2 (.inl hx)))
          rw [this] at hv; exact hv
      · by_cases hd : x ∈ uni s1.wb s2.wb
        · have h1 := (hH x).1 hd
          rw [show hget hp x = some B from hB] at h1
          obtain ⟨B1, B2, e1, e2, e3⟩ := muxBlk_ok h1 (fun ty cs ty' cs' => hsame x ty cs ty' cs')
          exact ⟨B1, e1, fun E o q => e3 E x o (by simpa using q)⟩
        · have h1 : hget hp x = hget s0.hp x := (hH x).2 hd
          have h2 := g1.blkb x (fun hx => hd (mem_uni.2 (.inl hx)))
          refine ⟨B, ?_, fun E o q => q⟩
          rw [h2]
          exact h1.symm.trans hB
    · rintro rfl
      refine ⟨fun E d v hv => ?_, fun x B hB => ?_, Nat.le_max_right _ _, fun x hx => mem_uni.2 (.inr hx), fun x hx => mem_uni.2 (.inr hx)⟩
      · by_cases hd : d ∈ uni s1.ws s2.ws
        · exact muxD_ok false E _ _ _ v ((hS d).1 hd) (by simpa using hv)
        · show Rep E (look sl d) v
          rw [(hS d).2 hd]
          have := g2.slot d (fun hx => hd (mem_uni.2 (.inr hx)))
          rw [this] at hv; exact hv
      · by_cases hd : x ∈ uni s1.wb s2.wb
        · have h1 := (hH x).1 hd
          rw [show hget hp x = some B from hB] at h1
          obtain ⟨B1, B2, e1, e2, e3⟩ := muxBlk_ok h1 (fun ty cs ty' cs' => hsame x ty cs ty' cs')
          exact ⟨B2, e2, fun E o q => e3 E x o (by simpa using q)⟩
        · have h1 : hget hp x = hget s0.hp x := (hH x).2 hd
          have h2 := g2.blkb x (fun hx => hd (mem_uni.2 (.inr hx)))
          refine ⟨B, ?_, fun E o q => q⟩
          rw [h2]
          exact h1.symm.trans hB
    · have hal : ∀ x, hget hp x ≠ none → hget s1.hp x ≠ none ∨ hget s0.hp x ≠ none := fun x hx => by
        by_cases hd : x ∈ uni s1.wb s2.wb
        · cases hB : hget hp x with
          | none => exact absurd hB hx
          | some B =>
            have h1 := (hH x).1 hd
            rw [hB] at h1
            obtain ⟨⟨B1, e1⟩, _⟩ := muxBlk_both h1
            exact .inl (by rw [e1]; simp)
        · have h1 : hget hp x = hget s0.hp x := (hH x).2 hd
          rw [h1] at hx; exact .inr hx
      refine ⟨fun hwf x hx => ?_, Nat.le_trans g1.nx (Nat.le_max_left _ _), fun x hx => mem_uni.2 (.inl (g1.rd x hx)), fun x hx => mem_uni.2 (.inl (g1.wr x hx)), fun x hx => mem_uni.2 (.inl hx), fun x hx => mem_uni.2 (.inl hx), fun d hd => ?_, fun x hx => ?_, fun x hx => ?_, fun x hx => ?_, fun e he => List.mem_append.2 (.inr (List.mem_append.2 (.inr (List.mem_append.2 (.inr he))))), fun x => ?_⟩
      · rcases hal x hx with h | h
        · exact Nat.lt_of_lt_of_le (g1.wf hwf x h) (Nat.le_max_left _ _)
        · exact Nat.lt_of_lt_of_le (hwf x h) (Nat.le_trans g1.nx (Nat.le_max_left _ _))
      · exact (hS d).2 fun h => hd (mem_uni.2 (.inr h))
      · exact (hH x).2 fun h => hx (mem_uni.2 (.inr h))
      · by_cases hd : x ∈ uni s1.wb s2.wb
        · rcases mem_uni.1 hd with h | h
          · rcases g1.wbr x h with h | h
            · cases h
            · exact absurd (mem_uni.2 (.inl h)) hx
          · rcases g2.wbr x h with h | h
            · cases h
            · exact absurd (mem_uni.2 (.inr h)) hx
        · exact (hH x).2 hd
      · rcases mem_uni.1 hx with h | h
        · exact .inl h
        · rcases mem_uni.1 h with h | h
          · rcases g1.wbr x h with h | h
            · cases h
            · exact .inr (mem_uni.2 (.inl h))
          · rcases g2.wbr x h with h | h
            · cases h
            · exact .inr (mem_uni.2 (.inr h))
      · generalize hW : ((uni s1.wb s2.wb).filter fun x => noFix (hget s0.hp x)).map (fun x => ((x, none) : Nat × Option (Nat × Nat))) = W0
        have m1 : ∀ e, e ∈ s1.wc → e ∈ W0 ++ (s1.wc ++ (s2.wc ++ s0.wc)) := fun e he => List.mem_append.2 (.inr (List.mem_append.2 (.inl he)))
        have m2 : ∀ e, e ∈ s2.wc → e ∈ W0 ++ (s1.wc ++ (s2.wc ++ s0.wc)) := fun e he => List.mem_append.2 (.inr (List.mem_append.2 (.inr (List.mem_append.2 (.inl he)))))
        by_cases hd : x ∈ uni s1.wb s2.wb
        · have hm := (hH x).1 hd
          have k1 := g1.cell x
          have k2 := g2.cell x
          -- both ways: all cells written, or a row of cells of the same type
          have fixed : ∀ {s : St}, Kept s0.forked.hp s.hp s.wc x → (∀ j, cov s.wc x j = true) ∨ (hget s.hp x = hget s0.hp x) ∨ ∃ ty cs cs', hget s0.hp x = some (.fix ty cs) ∧ hget s.hp x = some (.fix ty cs') ∧ cs'.length = cs.length ∧ ∀ j, cov s.wc x j = false → cs'[j]? = cs[j]? := fun h => h
          rcases fixed k1 with q1 | q1
          · exact .inl fun j => cov_mono m1 (q1 j)
          · rcases fixed k2 with q2 | q2
            · exact .inl fun j => cov_mono m2 (q2 j)
            · cases h0 : hget s0.hp x with
              | none =>
                have e1 : hget s1.hp x = none := by
                  rcases q1 with q1 | ⟨ty, cs, cs', q1, _⟩
                  · rw [q1, h0]
                  · rw [h0] at q1; cases q1
                rw [e1] at hm
                refine .inr (.inl ?_)
                have hn : muxBlk c (fun j => cov s1.wc x j || cov s2.wc x j) none (hget s2.hp x) = some none := rfl
                rw [hn] at hm
                exact (Option.some.inj hm).symm.trans h0.symm
              | some B0 =>
                cases B0 with
                | arr ty n k get =>
                  refine .inl fun j => cov_all (List.mem_append.2 (.inl ?_)) j
                  rw [← hW]
                  exact List.mem_map.2 ⟨x, List.mem_filter.2 ⟨hd, by rw [h0]; rfl⟩, rfl⟩
                | fix ty cs =>
                  have f1 : ∃ cs1, hget s1.hp x = some (.fix ty cs1) ∧ cs1.length = cs.length ∧ ∀ j, cov s1.wc x j = false → cs1[j]? = cs[j]? := by
                    rcases q1 with q1 | ⟨ty', ds, ds', a1, a2, a3, a4⟩
                    · exact ⟨cs, q1.trans h0, rfl, fun _ _ => rfl⟩
                    · rw [h0] at a1; cases a1; exact ⟨ds', a2, a3, a4⟩
                  have f2 : ∃ cs2, hget s2.hp x = some (.fix ty cs2) ∧ cs2.length = cs.length ∧ ∀ j, cov s2.wc x j = false → cs2[j]? = cs[j]? := by
                    rcases q2 with q2 | ⟨ty', ds, ds', a1, a2, a3, a4⟩
                    · exact ⟨cs, q2.trans h0, rfl, fun _ _ => rfl⟩
                    · rw [h0] at a1; cases a1; exact ⟨ds', a2, a3, a4⟩
                  obtain ⟨cs1, a1, a2, a3⟩ := f1
                  obtain ⟨cs2, b1, b2, b3⟩ := f2
                  rw [a1, b1] at hm
                  have hm' : (match zipW (mux muxD c) (fun j => cov s1.wc x j || cov s2.wc x j) 0 cs1 cs2 with | some r => some (some (Blk.fix ty r)) | none => none) = some (hget hp x) := by
                    have : muxBlk c (fun j => cov s1.wc x j || cov s2.wc x j) (some (.fix ty cs1)) (some (.fix ty cs2)) = (match Nat.beq ty ty with | true => (match zipW (mux muxD c) (fun j => cov s1.wc x j || cov s2.wc x j) 0 cs1 cs2 with | some r => some (some (Blk.fix ty r)) | none => none) | false => some none) := rfl
                    rw [this, show Nat.beq ty ty = true by simp] at hm
                    exact hm
                  cases hz : zipW (mux muxD c) (fun j => cov s1.wc x j || cov s2.wc x j) 0 cs1 cs2 with
                  | none => rw [hz] at hm'; cases hm'
                  | some r =>
                    rw [hz] at hm'
                    obtain ⟨z1, z2⟩ := zipW_len hz
                    refine .inr (.inr ⟨ty, cs, r, h0, (Option.some.inj hm').symm, z1.trans a2, fun j hj => ?_⟩)
                    have j1 := cov_mono_false m1 hj
                    have j2 := cov_mono_false m2 hj
                    exact (z2 j (by rw [Nat.zero_add, j1, j2]; rfl)).trans (a3 j j1)
        · exact .inr (.inl ((hH x).2 hd))
  · cases h
end Go.Proofs.YtdlghljhgbakjaaDoor

/-
  PART: what all ways of the evaluator keep.
-/
namespace Go.Proofs.YtdlghljhgbakjaaDoor
open Go.RowKit

/-- All results of all ways. -/
def Tree.All {α : Type} (Q : α → Prop) : Tree α → Prop
  | .ret a => Q a
  | .br _ t e => t.All Q ∧ e.All Q
  | .side _ t => t.All Q
  | .fail => True
theorem Tree.All.imp {α : Type} {Q Q' : α → Prop} (h : ∀ a, Q a → Q' a) : ∀ {t : Tree α}, t.All Q → t.All Q'
  | .ret a, q => h a q
  | .br _ _ _, q => ⟨q.1.imp h, q.2.imp h⟩
  | .side _ t, q => Tree.All.imp (t := t) h q
  | .fail, _ => trivial
theorem Tree.All.bind {α β : Type} {Q : α → Prop} {Q' : β → Prop} {f : α → Tree β} : ∀ {t : Tree α}, t.All Q → (∀ a, Q a → (f a).All Q') → (t.bind f).All Q'
  | .ret a, q, h => h a q
  | .br _ _ _, q, h => ⟨q.1.bind h, q.2.bind h⟩
  | .side _ t, q, h => Tree.All.bind (t := t) q h
  | .fail, _, _ => trivial
theorem Tree.All.hit {α : Type} {Q : α → Prop} : ∀ {t : Tree α}, t.All Q → ∀ {b}, t.hit b → Q b
  | .ret a, q, b, h => by cases h; exact q
  | .br _ _ _, q, b, h => h.elim (fun h => q.1.hit h.2) (fun h => q.2.hit h.2)
  | .side _ t, q, b, h => Tree.All.hit (t := t) q h.2
  | .fail, _, b, h => h.elim
theorem Tree.hit_bind {α β : Type} {f : α → Tree β} : ∀ {t : Tree α} {b : β}, (t.bind f).hit b → ∃ a, t.hit a ∧ (f a).hit b
  | .ret a, b, h => ⟨a, rfl, h⟩
  | .br _ _ _, b, h => by
    rcases h with ⟨h1, h2⟩ | ⟨h1, h2⟩
    · obtain ⟨a, k1, k2⟩ := Tree.hit_bind h2; exact ⟨a, .inl ⟨h1, k1⟩, k2⟩
    · obtain ⟨a, k1, k2⟩ := Tree.hit_bind h2; exact ⟨a, .inr ⟨h1, k1⟩, k2⟩
  | .side _ t, b, h => by
    obtain ⟨h1, h2⟩ := h
    obtain ⟨a, k1, k2⟩ := Tree.hit_bind (t := t) h2; exact ⟨a, ⟨h1, k1⟩, k2⟩
  | .fail, b, h => h.elim
/-- A state that goes on from another one, the slots as they were. -/
def GrewS (st : St) (b : AV × St) : Prop := Grew st b.2 ∧ b.2.sl = st.sl
theorem all_below {α : Type} {Q : α → Prop} {l : Bool} {i n : Nat} {t : Tree α} (h : t.All Q) : (below l i n t).All Q := by
  unfold below; cases l with
  | true => simp only []; split; exact h; trivial
  | false => exact h
theorem all_within {α : Type} {Q : α → Prop} {l : Bool} {z : Int} {n : Nat} {t : Tree α} (h : t.All Q) : (within l z n t).All Q := by
  unfold within; cases l with
  | true => simp only []; split; exact h; trivial
  | false => exact h
theorem gs_refl (a : AV) (st : St) : GrewS st (a, st) := ⟨.refl st, rfl⟩
theorem gs_read (a : AV) (st : St) (x : Nat) : GrewS st (a, st.read x) := ⟨.read st x, rfl⟩
theorem gs_new (a : AV) (st : St) (b : Blk) : GrewS st (a, st.new b) := ⟨.new st b, rfl⟩
section
variable {P : Program} {st : St}
theorem all_load (t : TypeId) (a : AV) : (loadA P t a st).All (GrewS st) := by
  unfold loadA
  split
  · split
    · split
      · split
        · exact gs_read ..
        · trivial
      · trivial
    · split
      · split
        · exact gs_read ..
        · trivial
      · trivial
    · split
      · split
        · exact all_below (gs_read ..)
        · trivial
      · trivial
    · split
      · exact gs_refl ..
      · trivial
    · trivial
  · trivial
theorem all_store (t : TypeId) (a v : AV) : (storeA P t a v st).All (GrewS st) := by
  have gw : ∀ x b B, hget st.hp x = some B → GrewS st (.unk, st.write x b) := fun x b B h => ⟨.write st x b (.inr (by rw [h]; simp)), rfl⟩
  have ga : ∀ x ty cs off n new, hget st.hp x = some (.fix ty cs) → Nat.ble (off + n) cs.length = true → Nat.beq (List.length new) n = true → GrewS st (.unk, st.writeAt x (some (.fix ty (splice cs off new))) off n) := fun x ty cs off n new h h1 h2 => ⟨.writeAt st x ty cs off n new h h1 h2, rfl⟩
  unfold storeA
  split
  · split
    · rename_i hn
      split
      · split
        · split
          · exact ga _ _ _ _ _ _ ‹_› ‹_› hn
          · trivial
        · trivial
      · split
        · split
          · exact gw _ _ _ ‹_›
          · trivial
        · trivial
      · split
        · split
          · exact all_below (gw _ _ _ ‹_›)
          · trivial
        · trivial
      · trivial
    · trivial
  · trivial
theorem all_withSt {T : Tree AV} : (withSt st T).All (GrewS st) := by
  unfold withSt
  induction T with
  | ret a => exact gs_refl ..
  | br c t e h1 h2 => exact ⟨h1, h2⟩
  | side p t h => exact h
  | fail => trivial
theorem all_pure {x : Option AV} : (pureA x st).All (GrewS st) := by
  unfold pureA; split
  · exact gs_refl ..
  · trivial
theorem all_un1 {x : AV} {f : Value → Sem Value} : (un1 P x f st).All (GrewS st) := by
  unfold un1; split
  · split
    · exact gs_refl ..
    · trivial
  · trivial
theorem all_bconv {src dst : TypeId} {x : AV} {p : AV × St} (h : bconvA P src dst x st = some p) : GrewS st p := by
  unfold bconvA at h
  split at h
  · split at h
    · split at h
      · split at h
        · cases h
          exact ⟨(foldl_read _ st).1, (foldl_read _ st).2.2.2.1⟩
        · cases h
      · cases h
    · cases h
  · cases h
theorem all_bconvS {src dst : TypeId} {x : AV} {c : Prop} {p : AV × St} (h : bconvS P src dst x st = some (c, p)) : GrewS st p := by
  unfold bconvS at h
  split at h
  · split at h
    · cases h
      exact ⟨(foldl_read _ st).1, (foldl_read _ st).2.2.2.1⟩
    · cases h
  · cases h
theorem all_sconv {src dst : TypeId} {x : AV} {p : AV × St} (h : sconvA P src dst x st = some p) : GrewS st p := by
  unfold sconvA at h
  split at h
  · split at h
    · cases h
      exact gs_new ..
    · cases h
  · cases h
theorem all_conv {src dst : TypeId} {x : AV} : (convA P src dst x st).All (GrewS st) := by
  unfold convA; split
  · exact gs_refl ..
  · exact all_un1
theorem all_slice (t : TypeId) (x : AV) (lo hi mx : Option AV) : (sliceA P t x lo hi mx st).All (GrewS st) := by
  unfold sliceA
  split
  · split
    · split
      · exact gs_refl ..
      · trivial
    · split
      · exact gs_refl ..
      · trivial
    · trivial
  · split
    · split
      · exact gs_refl ..
      · trivial
    · trivial
  · split
    · split
      · split
        · exact gs_refl ..
        · trivial
      · trivial
    · trivial
  · trivial
theorem all_append (sT : TypeId) (s x : AV) : (appendA P sT s x st).All (GrewS st) := by
  unfold appendA
  split
  · split
    · split
      · rename_i elem hu k z hs hz r rs q xs hcond hr hq
        obtain ⟨g1, g2, g3, g4, g5⟩ := foldl_read xs st
        dsimp only
        split
        · split
          · trivial
          · split
            · split
              · exact ⟨(g1.trans (.write _ _ none (.inl rfl))).trans (.new _ _), g4⟩
              · trivial
            · trivial
        · split
          · exact ⟨g1.trans (.new _ _), g4⟩
          · trivial
        · split
          · split
            · exact ⟨g1.trans (.new _ _), g4⟩
            · exact ⟨g1, g4⟩
          · exact ⟨⟨g1, g4⟩, ⟨g1.trans (.new _ _), g4⟩⟩
        · trivial
      · trivial
    · trivial
  · trivial
theorem all_builtin (b : Builtin) (ts : Array TypeId) (ty : TypeId) (args : List AV) : (builtinA P b ts ty args st).All (GrewS st) := by
  have sc : ∀ (f : Array Value → Sem Value), (match scals args with
      | some (vs, l) => match semVal P (f vs.toArray) with
        | some r => Tree.ret (litOr l r, st)
        | none => .fail
      | none => .fail : Tree (AV × St)).All (GrewS st) := fun f => by
    split
    · split
      · exact gs_refl ..
      · trivial
    · trivial
  unfold builtinA
  split
  · split
    · exact gs_refl ..
    · trivial
  · split
    · exact all_append ..
    · trivial
  · exact sc _
  · exact sc _
  · exact sc _
  · exact sc _
  · exact sc _
  · trivial
def CallsAll (r : Evs) : Prop := ∀ f args st, (r.call f args st).All (GrewS st)
theorem all_op {cx : Cx} {r : Evs} (hr : CallsAll r) (o : Oper) : (evalOp cx r o st).All (GrewS st) := by
  unfold evalOp
  split
  · exact gs_refl ..
  · exact gs_refl ..
  · split
    · split <;> exact gs_refl ..
    · exact all_pure
    · trivial
  · split
    · exact gs_new ..
    · trivial
  · split
    · exact gs_new ..
    · trivial
  · exact all_pure
  · unfold buildSliceA
    split
    · split
      · split
        · split
          · exact gs_new ..
          · trivial
        · trivial
      · trivial
    · trivial
  · exact all_load ..
  · exact all_store ..
  · split <;> first | exact gs_refl .. | trivial
  · exact all_withSt
  · exact all_un1
  · split
    · rename_i p hp; exact all_bconv hp
    split
    · rename_i c p hp; exact all_bconvS hp
    split
    · rename_i p hp; exact all_sconv hp
    · exact all_conv
  · exact all_un1
  · exact gs_refl ..
  · unfold makeSliceA
    split
    · split
      · split
        · exact gs_new ..
        · trivial
      · trivial
    · trivial
  · split
    · exact all_slice ..
    · trivial
  · exact all_pure
  · exact all_pure
  · exact all_withSt
  · exact all_withSt
  · split
    · exact all_pure
    · trivial
  · split
    · exact all_builtin ..
    · unfold callA
      split
      · exact hr ..
      · trivial
    · trivial
  · trivial
end
/-! Forks. -/
theorem peel_ok {α : Type} : ∀ (t : Tree α), (∀ b, t.hit b ↔ (∀ p, t.peel.1 = some p → p) ∧ t.peel.2.hit b) ∧ ∀ Q, t.All Q ↔ t.peel.2.All Q
  | .ret a => ⟨fun b => ⟨fun h => ⟨fun p h => (by cases h), h⟩, fun h => h.2⟩, fun Q => Iff.rfl⟩
  | .br c t e => ⟨fun b => ⟨fun h => ⟨fun p h => (by cases h), h⟩, fun h => h.2⟩, fun Q => Iff.rfl⟩
  | .fail => ⟨fun b => ⟨fun h => ⟨fun p h => (by cases h), h⟩, fun h => h.2⟩, fun Q => Iff.rfl⟩
  | .side p t => by
    obtain ⟨h1, h2⟩ := peel_ok t
    constructor
    · intro b
      show p ∧ t.hit b ↔ _
      rw [h1 b]
      simp only [Tree.peel]
      cases hp : t.peel with
      | mk q u => cases q with
        | none => exact ⟨fun h => ⟨fun r hr => (by cases hr; exact h.1), h.2.2⟩, fun h => ⟨h.1 p rfl, fun r hr => (by cases hr), h.2⟩⟩
        | some q => exact ⟨fun h => ⟨fun r hr => (by cases hr; exact ⟨h.1, h.2.1 q rfl⟩), h.2.2⟩, fun h => ⟨(h.1 (p ∧ q) rfl).1, fun r hr => (by cases hr; exact (h.1 (p ∧ q) rfl).2), h.2⟩⟩
    · intro Q
      show t.All Q ↔ _
      rw [h2 Q]
      simp only [Tree.peel]
      cases hp : t.peel with
      | mk q u => cases q <;> rfl
theorem refork_ok {s0 : St} {x : Ex} {m : St} : ∀ {t : Tree (Ex × St)}, (reFork s0 t).hit (x, m) → ∃ s, t.hit (x, s) ∧ m = { s with ws := uni s0.ws s.ws, wb := uni s0.wb s.wb, wc := s.wc ++ s0.wc }
  | .ret (y, s), h => by cases h; exact ⟨s, rfl, rfl⟩
  | .br c t e, h => by
    rcases h with ⟨h1, h2⟩ | ⟨h1, h2⟩
    · obtain ⟨s, k1, k2⟩ := refork_ok h2; exact ⟨s, .inl ⟨h1, k1⟩, k2⟩
    · obtain ⟨s, k1, k2⟩ := refork_ok h2; exact ⟨s, .inr ⟨h1, k1⟩, k2⟩
  | .side p t, h => by
    obtain ⟨h1, h2⟩ := h
    obtain ⟨s, k1, k2⟩ := refork_ok (t := t) h2; exact ⟨s, ⟨h1, k1⟩, k2⟩
  | .fail, h => h.elim
theorem refork_all {s0 : St} {Q : Ex × St → Prop} : ∀ {t : Tree (Ex × St)}, t.All (fun b => Q (b.1, { b.2 with ws := uni s0.ws b.2.ws, wb := uni s0.wb b.2.wb, wc := b.2.wc ++ s0.wc })) → (reFork s0 t).All Q
  | .ret (y, s), h => h
  | .br c t e, h => ⟨refork_all h.1, refork_all h.2⟩
  | .side p t, h => refork_all (t := t) h
  | .fail, h => trivial
theorem grew_refork {s0 s : St} (g : Grew s0.forked s) : Grew s0 { s with ws := uni s0.ws s.ws, wb := uni s0.wb s.wb, wc := s.wc ++ s0.wc } :=
  ⟨g.wf, g.nx, g.rd, g.wr, fun x h => mem_uni.2 (.inl h), fun x h => mem_uni.2 (.inl h), fun d hd => g.slot d fun h => hd (mem_uni.2 (.inr h)), fun x hx => g.blkb x fun h => hx (mem_uni.2 (.inr h)), g.blkr,
   fun x hx => (mem_uni.1 hx).elim .inl fun h => (g.wbr x h).elim (fun h => by cases h) .inr, fun e h => List.mem_append.2 (.inr h), fun x => (g.cell x).wc fun e h => List.mem_append.2 (.inl h)⟩
theorem wkn_refork {s0 s : St} : Wkn s { s with ws := uni s0.ws s.ws, wb := uni s0.wb s.wb, wc := s.wc ++ s0.wc } := ⟨fun _ _ _ h => h, fun _ B h => ⟨B, h, fun _ _ h => h⟩, Nat.le_refl _, fun _ h => h, fun _ h => h⟩
theorem eqEx_eq {x y : Ex} (h : eqEx x y = true) : x = y := by
  unfold eqEx at h
  split at h
  · rfl
  · rw [Nat.eq_of_beq_eq_true h]
  · rw [Nat.eq_of_beq_eq_true h]
  · rfl
  · cases h
def GrewX (s0 : St) (b : Ex × St) : Prop := Grew s0 b.2
theorem joinT_ok {c : Bool} {s0 : St} {t e : Tree (Ex × St)} (ht : t.All (GrewX s0.forked)) (he : e.All (GrewX s0.forked)) :
    (joinT c s0 t e).All (GrewX s0) ∧ ∀ x m, (joinT c s0 t e).hit (x, m) → (c = true → ∃ s, t.hit (x, s) ∧ Wkn s m) ∧ (c = false → ∃ s, e.hit (x, s) ∧ Wkn s m) := by
  have brk : (Tree.br c (reFork s0 t) (reFork s0 e)).All (GrewX s0) ∧ ∀ x m, (Tree.br c (reFork s0 t) (reFork s0 e)).hit (x, m) → (c = true → ∃ s, t.hit (x, s) ∧ Wkn s m) ∧ (c = false → ∃ s, e.hit (x, s) ∧ Wkn s m) := by
    refine ⟨⟨refork_all (ht.imp fun b h => grew_refork h), refork_all (he.imp fun b h => grew_refork h)⟩, fun x m h => ?_⟩
    rcases h with ⟨h1, h2⟩ | ⟨h1, h2⟩
    · obtain ⟨s, k1, rfl⟩ := refork_ok h2
      exact ⟨fun _ => ⟨s, k1, wkn_refork⟩, fun h => by rw [h1] at h; cases h⟩
    · obtain ⟨s, k1, rfl⟩ := refork_ok h2
      exact ⟨fun h => (by rw [h1] at h; cases h), fun _ => ⟨s, k1, wkn_refork⟩⟩
  unfold joinT
  split
  · rename_i x s1 y s2
    split
    · rename_i hx
      obtain rfl := eqEx_eq hx
      split
      · rename_i m hm
        obtain ⟨k1, k2, k3⟩ := mergeS_ok hm ht he
        refine ⟨k3, fun x' m' h => ?_⟩
        cases h
        exact ⟨fun h => ⟨s1, rfl, k1 h⟩, fun h => ⟨s2, rfl, k2 h⟩⟩
      · exact brk
    · exact brk
  · exact brk
theorem forkT_ok {c : Bool} {s0 : St} {t e : Tree (Ex × St)} (ht : t.All (GrewX s0.forked)) (he : e.All (GrewX s0.forked)) :
    (forkT c s0 t e).All (GrewX s0) ∧ ∀ x m, (forkT c s0 t e).hit (x, m) → (c = true → ∃ s, t.hit (x, s) ∧ Wkn s m) ∧ (c = false → ∃ s, e.hit (x, s) ∧ Wkn s m) := by
  obtain ⟨p1, p2⟩ := peel_ok t
  obtain ⟨q1, q2⟩ := peel_ok e
  have hj := joinT_ok (c := c) ((p2 _).1 ht) ((q2 _).1 he)
  have lift : ∀ x m, (joinT c s0 t.peel.2 e.peel.2).hit (x, m) → (c = true → ∀ p, t.peel.1 = some p → p) → (c = false → ∀ p, e.peel.1 = some p → p) → (c = true → ∃ s, t.hit (x, s) ∧ Wkn s m) ∧ (c = false → ∃ s, e.hit (x, s) ∧ Wkn s m) := by
    intro x m h h1 h2
    obtain ⟨k1, k2⟩ := hj.2 x m h
    exact ⟨fun hc => let ⟨s, a, b⟩ := k1 hc; ⟨s, (p1 _).2 ⟨h1 hc, a⟩, b⟩, fun hc => let ⟨s, a, b⟩ := k2 hc; ⟨s, (q1 _).2 ⟨h2 hc, a⟩, b⟩⟩
  unfold forkT
  cases ht' : t.peel with
  | mk po u => cases he' : e.peel with
    | mk qo v =>
      rw [ht', he'] at hj lift
      cases po with
      | none => cases qo with
        | none => exact ⟨hj.1, fun x m h => lift x m h (fun _ p h => (by cases h)) (fun _ p h => (by cases h))⟩
        | some q => exact ⟨hj.1, fun x m h => lift x m h.2 (fun _ p h => (by cases h)) (fun hc p hp => by cases hp; exact h.1 hc)⟩
      | some p => cases qo with
        | none => exact ⟨hj.1, fun x m h => lift x m h.2 (fun hc p hp => by cases hp; exact h.1 hc) (fun _ p h => (by cases h))⟩
        | some q => exact ⟨hj.1, fun x m h => lift x m h.2 (fun hc p hp => by cases hp; exact h.1.1 hc) (fun hc p hp => by cases hp; exact h.1.2 hc)⟩
theorem decT_ok {d : Option Bool} {c : Bool} {s0 : St} {t e : Tree (Ex × St)} (ht : t.All (GrewX s0.forked)) (he : e.All (GrewX s0.forked)) :
    (decT d c s0 t e).All (GrewX s0) ∧ ∀ x m, (decT d c s0 t e).hit (x, m) → (c = true → ∃ s, t.hit (x, s) ∧ Wkn s m) ∧ (c = false → ∃ s, e.hit (x, s) ∧ Wkn s m) := by
  unfold decT
  split
  · exact forkT_ok ht he
  · refine ⟨refork_all (ht.imp fun b h => grew_refork h), fun x m h => ?_⟩
    obtain ⟨h1, h2⟩ := h
    obtain ⟨s, k1, rfl⟩ := refork_ok h2
    exact ⟨fun _ => ⟨s, k1, wkn_refork⟩, fun h => by rw [h1] at h; cases h⟩
  · refine ⟨refork_all (he.imp fun b h => grew_refork h), fun x m h => ?_⟩
    obtain ⟨h1, h2⟩ := h
    obtain ⟨s, k1, rfl⟩ := refork_ok h2
    exact ⟨fun h => (by rw [h1] at h; cases h), fun _ => ⟨s, k1, wkn_refork⟩⟩
end Go.Proofs.YtdlghljhgbakjaaDoor

/-
  PART: regions: a way through a region; regions that go in the text's order.
-/
namespace Go.Proofs.YtdlghljhgbakjaaDoor
open Go.RowKit

section
variable {cx : Cx} {r : Evs} {ops : Array Oper} {draw : Bool}
theorem all_opYes (hr : CallsAll r) (o : Oper) (st : St) : (opYes cx r draw o st).All (fun b => Grew st b.2) := by
  unfold opYes
  cases draw with
  | true =>
    refine (all_op hr o (st := st.fresh)).bind fun b hb => ?_
    obtain ⟨g, hsl⟩ := hb
    have : Grew st (b.2.logs st) :=
      ⟨g.wf, g.nx, fun x h => mem_uni.2 (.inr h), fun x h => mem_uni.2 (.inr h), g.ws, g.wb, g.slot, g.blkb, fun x hx => g.blkr x fun h => hx (mem_uni.2 (.inl h)), fun x hx => (g.wbr x hx).imp id fun h => mem_uni.2 (.inl h), g.wc, g.cell⟩
    exact this.trans (.put _ _ _)
  | false =>
    refine (all_op hr o (st := st)).bind fun b hb => ?_
    exact hb.1.trans (.put _ _ _)
theorem opNo_grew (o : Oper) (st : St) : Grew st (opNo o st) := .put _ _ _
theorem forked_put (st : St) (d : Nat) (a : AV) : Grew st.forked (st.forked.put (some d) a) := .put _ _ _
theorem forked_wf {st : St} (h : Wf st) : Wf st.forked := h
theorem all_opsE (hr : CallsAll r) : ∀ (l : List Oper) (i : Nat) (recs : List (Nat × Rec)) (st : St), (opsE cx r ops draw l i recs st).All (GrewX st)
  | [], i, recs, st => by
    unfold opsE
    split
    · exact .refl st
    · split
      · exact .refl st
      · trivial
  | o :: l, i, recs, st => by
    have yes : ∀ st, ((opYes cx r draw o st).bind fun (q, s) => opsE cx r ops draw l (i + 1) ((i, q) :: recs) s).All (GrewX st) := fun st =>
      (all_opYes hr o st).bind fun b hb => (all_opsE hr l (i + 1) ((i, b.1) :: recs) b.2).imp fun c hc => hb.trans hc
    have no : ∀ st, (opsE cx r ops draw l (i + 1) recs (opNo o st)).All (GrewX st) := fun st =>
      (all_opsE hr l (i + 1) recs (opNo o st)).imp fun c hc => (opNo_grew o st).trans hc
    unfold opsE
    split
    · exact yes st
    · split
      · trivial
      · rename_i d _ _
        split
        · split
          · exact yes st
          · exact no st
        · dsimp only
          split
          · exact (decT_ok ((yes _).imp fun c hc => (forked_put ..).trans hc) ((no _).imp fun c hc => (forked_put ..).trans hc)).1
          · exact (decT_ok ((no _).imp fun c hc => (forked_put ..).trans hc) ((yes _).imp fun c hc => (forked_put ..).trans hc)).1
        · split
          · exact no st
          · trivial
/-- Is an operation wanted, by what a state says? -/
def Want (ops : Array Oper) (o : Oper) (st : St) (b : Bool) : Prop :=
  (o.guard = none ∧ b = true) ∨ ∃ d w, guardOf ops o = some (d, w) ∧ ((∃ v l, boolOf (look st.sl d) = some (v, l) ∧ b = (v == w)) ∨ (look st.sl d = .tup [] ∧ b = false))
/-- One way through a region. -/
inductive Path (cx : Cx) (r : Evs) (ops : Array Oper) (draw : Bool) : List Oper → Nat → List (Nat × Rec) → St → List (Nat × Rec) → St → Prop
  | nil (i recs st) : Path cx r ops draw [] i recs st recs st
  | yes {o l i recs st q s recs' st'} (hg : Want ops o st true) (h : (opYes cx r draw o st).hit (q, s)) (t : Path cx r ops draw l (i + 1) ((i, q) :: recs) s recs' st') : Path cx r ops draw (o :: l) i recs st recs' st'
  | no {o l i recs st recs' st'} (hg : Want ops o st false) (t : Path cx r ops draw l (i + 1) recs (opNo o st) recs' st') : Path cx r ops draw (o :: l) i recs st recs' st'
  | asm {o l i recs st recs' st'} (d : Nat) (b lt : Bool) (he : boolOf (look st.sl d) = some (b, lt)) (t : Path cx r ops draw (o :: l) i recs (st.forked.put (some d) (.lit (.bool b))) recs' st') : Path cx r ops draw (o :: l) i recs st recs' st'
theorem path_of (hr : CallsAll r) : ∀ (l : List Oper) (i : Nat) (recs : List (Nat × Rec)) (st : St) (x : Ex) (m : St), (opsE cx r ops draw l i recs st).hit (x, m) →
    x = .norm ∧ ∃ recs' s, Path cx r ops draw l i recs st recs' s ∧ Wkn s m ∧ (Wf st → Wf s) ∧ (draw = true → okRecs (Region.before ops) recs' = true)
  | [], i, recs, st, x, m, h => by
    unfold opsE at h
    split at h
    · cases h; exact ⟨rfl, recs, st, .nil .., .refl _, id, fun h => by cases h⟩
    · split at h
      · rename_i hok; cases h; exact ⟨rfl, recs, st, .nil .., .refl _, id, fun _ => hok⟩
      · exact h.elim
  | o :: l, i, recs, st, x, m, h => by
    have yes : ∀ st m, Want ops o st true → ((opYes cx r draw o st).bind fun (q, s) => opsE cx r ops draw l (i + 1) ((i, q) :: recs) s).hit (x, m) →
        x = .norm ∧ ∃ recs' s, Path cx r ops draw (o :: l) i recs st recs' s ∧ Wkn s m ∧ (Wf st → Wf s) ∧ (draw = true → okRecs (Region.before ops) recs' = true) := by
      intro st m hg h
      obtain ⟨⟨q, s⟩, h1, h2⟩ := Tree.hit_bind h
      have hws := ((all_opYes hr o st).hit h1).wf
      obtain ⟨rfl, recs', s', k1, k2, k3, k4⟩ := path_of hr l (i + 1) ((i, q) :: recs) s x m h2
      exact ⟨rfl, recs', s', .yes hg h1 k1, k2, fun h => k3 (hws h), k4⟩
    have no : ∀ st m, Want ops o st false → (opsE cx r ops draw l (i + 1) recs (opNo o st)).hit (x, m) →
        x = .norm ∧ ∃ recs' s, Path cx r ops draw (o :: l) i recs st recs' s ∧ Wkn s m ∧ (Wf st → Wf s) ∧ (draw = true → okRecs (Region.before ops) recs' = true) := by
      intro st m hg h
      obtain ⟨rfl, recs', s', k1, k2, k3, k4⟩ := path_of hr l (i + 1) recs (opNo o st) x m h
      exact ⟨rfl, recs', s', .no hg k1, k2, fun h => k3 ((opNo_grew o st).wf h), k4⟩
    have ayes : ∀ st, ((opYes cx r draw o st).bind fun (q, s) => opsE cx r ops draw l (i + 1) ((i, q) :: recs) s).All (GrewX st) := fun st =>
      (all_opYes hr o st).bind fun b hb => (all_opsE hr l (i + 1) ((i, b.1) :: recs) b.2).imp fun c hc => hb.trans hc
    have ano : ∀ st, (opsE cx r ops draw l (i + 1) recs (opNo o st)).All (GrewX st) := fun st =>
      (all_opsE hr l (i + 1) recs (opNo o st)).imp fun c hc => (opNo_grew o st).trans hc
    unfold opsE at h
    split at h
    · rename_i hg; exact yes st m (.inl ⟨hg, rfl⟩) h
    · rename_i jj w hgd
      split at h
      · exact h.elim
      · rename_i d w' hgo
        have hw' : w' = w := by
          unfold guardOf at hgo
          rw [hgd] at hgo
          split at hgo
          · cases hgo
          · rename_i j2 w2 he
            cases he
            split at hgo
            · split at hgo
              · cases hgo; rfl
              · cases hgo
            · cases hgo
        subst hw'
        split at h
        · rename_i b hb
          split at h
          · rename_i hbw; exact yes st m (.inr ⟨d, w', hgo, .inl ⟨b, true, hb, hbw.symm⟩⟩) h
          · rename_i hbw; exact no st m (.inr ⟨d, w', hgo, .inl ⟨b, true, hb, hbw.symm⟩⟩) h
        · rename_i e hb
          have hlk : ∀ b, boolOf (look (st.forked.put (some d) (.lit (.bool b))).sl d) = some (b, true) := fun b => by
            show boolOf (look ((d, .lit (.bool b)) :: st.sl) d) = _
            rw [look_cons, if_pos rfl]; rfl
          dsimp only at h
          split at h
          · obtain ⟨_, hf⟩ := decT_ok (c := e) (s0 := st) ((ayes (st.forked.put (some d) (.lit (.bool true)))).imp fun c hc => (forked_put ..).trans hc) ((ano (st.forked.put (some d) (.lit (.bool false)))).imp fun c hc => (forked_put ..).trans hc)
            obtain ⟨f1, f2⟩ := hf x m h
            cases e with
            | true =>
              obtain ⟨s1, k1, k2⟩ := f1 rfl
              obtain ⟨rfl, recs', s', q1, q2, q3⟩ := yes _ s1 (.inr ⟨d, true, hgo, .inl ⟨true, true, hlk true, rfl⟩⟩) k1
              exact ⟨rfl, recs', s', .asm d true false hb q1, q2.trans k2, q3⟩
            | false =>
              obtain ⟨s1, k1, k2⟩ := f2 rfl
              obtain ⟨rfl, recs', s', q1, q2, q3⟩ := no _ s1 (.inr ⟨d, true, hgo, .inl ⟨false, true, hlk false, rfl⟩⟩) k1
              exact ⟨rfl, recs', s', .asm d false false hb q1, q2.trans k2, q3⟩
          · obtain ⟨_, hf⟩ := decT_ok (c := e) (s0 := st) ((ano (st.forked.put (some d) (.lit (.bool true)))).imp fun c hc => (forked_put ..).trans hc) ((ayes (st.forked.put (some d) (.lit (.bool false)))).imp fun c hc => (forked_put ..).trans hc)
            obtain ⟨f1, f2⟩ := hf x m h
            cases e with
            | true =>
              obtain ⟨s1, k1, k2⟩ := f1 rfl
              obtain ⟨rfl, recs', s', q1, q2, q3⟩ := no _ s1 (.inr ⟨d, false, hgo, .inl ⟨true, true, hlk true, rfl⟩⟩) k1
              exact ⟨rfl, recs', s', .asm d true false hb q1, q2.trans k2, q3⟩
            | false =>
              obtain ⟨s1, k1, k2⟩ := f2 rfl
              obtain ⟨rfl, recs', s', q1, q2, q3⟩ := yes _ s1 (.inr ⟨d, false, hgo, .inl ⟨false, true, hlk false, rfl⟩⟩) k1
              exact ⟨rfl, recs', s', .asm d false false hb q1, q2.trans k2, q3⟩
        · split at h
          · rename_i hlk; exact no st m (.inr ⟨d, w', hgo, .inr ⟨hlk, rfl⟩⟩) h
          · exact h.elim
/-! Frames. -/
structure Fr (N : Nat) (E : Env) (st : St) (act : Act) : Prop where
  size : act.tmps.size = N
  slot : ∀ d, Rep E (look st.sl d) (act.tmps.getD d undef)
theorem Fr.mono {N : Nat} {E E' : Env} {st : St} {act : Act} (h : Fr N E st act) (hl : E.le E') : Fr N E' st act := ⟨h.size, fun d => (h.slot d).mono hl⟩
theorem Fr.wkn {N : Nat} {E : Env} {st m : St} {act : Act} (h : Fr N E st act) (k : Wkn st m) : Fr N E m act := ⟨h.size, fun d => k.slot E d _ (h.slot d)⟩
theorem getD_put {t : Array Value} {d : Nat} {v : Value} (hd : d < t.size) (e : Nat) : (t.setIfInBounds d v).getD e undef = if d = e then v else t.getD e undef := by
  by_cases h : d = e
  · subst h; rw [if_pos rfl]; simp [hd]
  · rw [if_neg h]; simp [Array.getElem?_setIfInBounds_ne h]
/-- The operation's slot is one of the frame's. -/
def DstIn (N : Nat) (o : Oper) : Prop := ∀ d, o.dst = some d → d < N
theorem Fr.put {N : Nat} {E : Env} {st : St} {act : Act} {o : Oper} {a : AV} {v : Value} (h : Fr N E st act) (hd : DstIn N o) (hv : Rep E a v) : Fr N E (st.put o.dst a) (act.put o.dst v) := by
  cases ho : o.dst with
  | none => exact h
  | some d =>
    have hlt := hd d ho
    refine ⟨by show (act.tmps.setIfInBounds d v).size = N; simpa using h.size, fun e => ?_⟩
    show Rep E (look ((d, a) :: st.sl) e) ((act.tmps.setIfInBounds d v).getD e undef)
    rw [look_cons, getD_put (by rw [h.size]; exact hlt)]
    by_cases he : d = e
    · rw [if_pos he, if_pos he]; exact hv
    · rw [if_neg he, if_neg he]; exact h.slot e
theorem global_rep {E : Env} {act : Act} (g : Nat) : Rep E (gmA g) (act.eval (.global g)) := by
  unfold gmA
  split
  · rename_i c hc
    split
    · rename_i hone
      have ho := one_of_all hone
      have := Rep.fz (E := E) (b := g) (base := 0) (off := 0) (cs := c.toList.map .lit) ((E.gok g).1 c hc) (by simp) (by rw [List.drop_zero, List.length_map, List.take_length]; exact Reps.lits _ ho) (by rw [List.drop_zero, List.length_map, List.take_length]; exact ho)
      exact this
    · exact .unk _
  · exact .unk _
theorem Fr.val {N : Nat} {E : Env} {st : St} {act : Act} (h : Fr N E st act) (x : Operand) : Rep E (st.val x) (act.eval x) := by
  cases x with
  | tmp t => exact h.slot t
  | const v => exact constR v
  | global g => exact global_rep g
  | func f => exact .fn .nil .nil
theorem yielded_bool {ops : Array Oper} {o : Oper} {d : Nat} {w : Bool} (hg : guardOf ops o = some (d, w)) (tmps : Array Value) : ∃ j, o.guard = some (j, w) ∧ yielded ops tmps j = match tmps.getD d undef with | .bool b => some b | _ => none := by
  unfold guardOf at hg
  split at hg
  · cases hg
  · rename_i j w' hgd
    split at hg
    · rename_i p hp
      split at hg
      · rename_i d' hd
        cases hg
        refine ⟨j, hgd, ?_⟩
        unfold yielded
        simp only [hp, Option.bind_some, hd]
        rw [Array.getD_eq_getD_getElem?]
        cases tmps[d]? with
        | none => rfl
        | some v => cases v <;> rfl
      · cases hg
    · cases hg
theorem want_ok {E : Env} {st : St} {act : Act} {o : Oper} {b : Bool} (h : Want ops o st b) (hs : ∀ d w, guardOf ops o = some (d, w) → Rep E (look st.sl d) (act.tmps.getD d undef)) : Region.wanted o (yielded ops act.tmps) = b := by
  rcases h with ⟨hg, rfl⟩ | ⟨d, w, hg, h⟩
  · unfold Region.wanted; rw [hg]
  · obtain ⟨j, hj, hy⟩ := yielded_bool hg act.tmps
    have hR := hs d w hg
    unfold Region.wanted
    rw [hj]
    simp only [hy]
    rcases h with ⟨v, l, hv, rfl⟩ | ⟨hv, rfl⟩
    · rw [boolOf_rep hv hR]
      cases v <;> cases w <;> rfl
    · rw [hv] at hR
      generalize act.tmps.getD d undef = u at hR
      cases hR
      rfl
/-! Along a way. -/
structure Gs (s s' : St) : Prop where
  wf : Wf s → Wf s'
  nx : s.nx ≤ s'.nx
  rd : ∀ x, x ∈ s.rd → x ∈ s'.rd
  wr : ∀ x, x ∈ s.wr → x ∈ s'.wr
theorem Grew.gs {s s' : St} (g : Grew s s') : Gs s s' := ⟨g.wf, g.nx, g.rd, g.wr⟩
theorem Gs.trans {a b c : St} (h : Gs a b) (k : Gs b c) : Gs a c := ⟨fun d => k.wf (h.wf d), Nat.le_trans h.nx k.nx, fun x d => k.rd x (h.rd x d), fun x d => k.wr x (h.wr x d)⟩
theorem gs_asm (st : St) (d : Nat) (a : AV) : Gs st (st.forked.put (some d) a) := ⟨fun h => h, Nat.le_refl _, fun _ h => h, fun _ h => h⟩
theorem path_gs (hr : CallsAll r) {l : List Oper} {i : Nat} {recs recs' : List (Nat × Rec)} {st st' : St} (h : Path cx r ops draw l i recs st recs' st') : Gs st st' := by
  induction h with
  | nil => exact (Grew.refl _).gs
  | yes hg h t ih => exact ((all_opYes hr _ _).hit h).gs.trans ih
  | no hg t ih => exact (opNo_grew _ _).gs.trans ih
  | asm d b lt he t ih => exact (gs_asm _ _ _).trans ih
theorem Pst.more {FP : Nat → Prop} {E E' : Env} {H H' : Nat → Option Blk} {nx nx' : Nat} {wr wr' : List Nat} {w w' : World} (p : Pst FP E E' H H' nx nx' wr w w') (h : ∀ x, x ∈ wr → x ∈ wr') : Pst FP E E' H H' nx nx' wr' w w' :=
  ⟨⟨p.le, p.dom, p.sim, fun b hb hx => p.frame b hb fun x hx' => hx x (h x hx'), fun x h1 h2 hF hn hv => (p.news x h1 h2 hF hn hv).imp id fun ⟨y, hy, q⟩ => ⟨y, h y hy, q⟩, p.size, p.os, p.tape, p.output⟩, p.old⟩
theorem boolOf_lit {E : Env} {a : AV} {b l : Bool} (h : boolOf a = some (b, l)) (v : Value) : Rep E a v ↔ Rep E (.lit (.bool b)) v :=
  ⟨fun hv => by rw [boolOf_rep h hv]; exact .lit _ rfl, fun hv => by cases hv; exact rep_boolOf h⟩
theorem asm_rep {st : St} {d : Nat} {b l : Bool} (he : boolOf (look st.sl d) = some (b, l)) (E : Env) (e : Nat) (v : Value) : Rep E (look (st.forked.put (some d) (.lit (.bool b))).sl e) v ↔ Rep E (look st.sl e) v := by
  show Rep E (look ((d, .lit (.bool b)) :: st.sl) e) v ↔ _
  rw [look_cons]
  by_cases h : d = e
  · subst h; rw [if_pos rfl]; exact (boolOf_lit he v).symm
  · rw [if_neg h]
/-- A region in the text's order. -/
theorem path_seq {P : Program} (hP : cx.P = P) (hr : CallsAll r) (hok : CallsOk P r) {N : Nat} {D : List Deferred} {rr : Option Nat} {Q : Exit → Act → World → Prop} {FP : Nat → Prop} {l : List Oper} {i : Nat} {recs recs' : List (Nat × Rec)} {st st' : St}
    (h : Path cx r ops false l i recs st recs' st') : (∀ j o, l[j]? = some o → ops[i + j]? = some o) → (∀ o, o ∈ l → DstIn N o) → ∀ (E : Env) (act : Act) (w : World), Wf st → Cov FP st st' → Free E st.nx st'.nx → Sim FP E (hget st.hp) w → Fr N E st act → act.defers = D →
    (∀ E' act' w', Fr N E' st' act' → act'.defers = D → Pst FP E E' (hget st.hp) (hget st'.hp) st.nx st'.nx st'.wr w w' → Q .normal act' w') → wpOpsIn (wideR rr) 0 P ops Q (List.range' i l.length) act w := by
  subst hP
  have hdf : ∀ (o : Oper) (act : Act) (v : Value), (act.put o.dst v).defers = act.defers := fun o act v => by cases ho : o.dst <;> rfl
  induction h with
  | nil i recs st => exact fun _ _ E act w _ _ _ hS hf hd hQ => hQ E act w hf hd (Pst.refl hS)
  | @yes o l i recs st q s recs' st' hg h t ih =>
    intro hl hdst E act w hwf hcov hfree hS hf hd hQ
    have hgs := path_gs hr t
    have hgr := ((all_opYes hr _ _).hit h : Grew st s)
    unfold opYes at h
    simp only [] at h
    obtain ⟨⟨a, s1⟩, h1, h2⟩ := Tree.hit_bind h
    cases h2
    have ok := op_sound hok h1
    have hcovs : Cov FP st s1 := fun x hx => hcov x (by
      rcases hx with hx | hx | ⟨h1, h2⟩
      · exact .inl (hgs.rd x ((Grew.put s1 o.dst a).rd x hx))
      · exact .inr (.inl (hgs.wr x ((Grew.put s1 o.dst a).wr x hx)))
      · exact .inr (.inr ⟨h1, Nat.lt_of_lt_of_le h2 (Nat.le_trans (Grew.put s1 o.dst a).nx hgs.nx)⟩))
    have hnx1 : (s1.put o.dst a).nx = s1.nx := by cases o.dst <;> rfl
    have hhp1 : (s1.put o.dst a).hp = s1.hp := by cases o.dst <;> rfl
    have hwr1 : (s1.put o.dst a).wr = s1.wr := by cases o.dst <;> rfl
    rw [List.length_cons, List.range'_succ, wpOpsIn_cons]
    have ho := hl 0 o rfl
    rw [Nat.add_zero] at ho
    unfold wpOpIn
    rw [ho]
    simp only [want_ok hg (fun d w _ => hf.slot d), if_true]
    refine ok.run rr FP E act w _ _ hwf hcovs (fun x h1 h2 => hfree x h1 (Nat.lt_of_lt_of_le h2 (by rw [← hnx1]; exact hgs.nx))) hS (fun x _ => hf.val x) fun E' v w' hv hp => ?_
    have hf' : Fr N E' (s1.put o.dst a) (act.put o.dst v) := by
      have h0 : Fr N E' st act := hf.mono hp.le
      have h1 : Fr N E' s1 act := ⟨h0.size, fun d => by rw [ok.sl]; exact h0.slot d⟩
      exact h1.put (hdst o (List.mem_cons_self ..)) hv
    have hp' : Pst FP E E' (hget st.hp) (hget (s1.put o.dst a).hp) st.nx (s1.put o.dst a).nx st'.wr w w' := by
      rw [hnx1, hhp1]
      exact hp.more fun x hx => hgs.wr x (by rw [hwr1]; exact hx)
    refine ih (fun j o' hj => by have := hl (j + 1) o' hj; rwa [show i + (j + 1) = i + 1 + j by omega] at this) (fun o' ho' => hdst o' (List.mem_cons_of_mem _ ho')) E' (act.put o.dst v) w' (hgr.wf hwf) (fun x hx => hcov x ?_) (fun x h1 h2 hd' => ?_) hp'.sim hf' ((hdf o act v).trans hd) fun E'' act'' w'' k1 k2 k3 => hQ E'' act'' w'' k1 k2 (Pst.trans hS (fun x hx => hcov x (.inr (.inl hx))) hp' k3 hgr.nx hgs.nx)
    · rcases hx with hx | hx | ⟨h1, h2⟩
      · exact .inl hx
      · exact .inr (.inl hx)
      · exact .inr (.inr ⟨Nat.le_trans hgr.nx h1, h2⟩)
    · rcases hp'.dom x hd' with h | h
      · exact hfree x (Nat.le_trans hgr.nx h1) h2 h
      · exact absurd h.2 (Nat.not_lt.2 h1)
  | @no o l i recs st recs' st' hg t ih =>
    intro hl hdst E act w hwf hcov hfree hS hf hd hQ
    have hgs := path_gs hr t
    have hnx1 : (opNo o st).nx = st.nx := by unfold opNo; cases o.dst <;> rfl
    have hhp1 : (opNo o st).hp = st.hp := by unfold opNo; cases o.dst <;> rfl
    rw [List.length_cons, List.range'_succ, wpOpsIn_cons]
    have ho := hl 0 o rfl
    rw [Nat.add_zero] at ho
    unfold wpOpIn
    rw [ho]
    simp only [want_ok hg (fun d w _ => hf.slot d), Bool.false_eq_true, if_false]
    refine ⟨fun _ _ => trivial, ?_⟩
    have hf' : Fr N E (opNo o st) (act.put o.dst undef) := hf.put (hdst o (List.mem_cons_self ..)) (.tup .nil)
    rw [hnx1, hhp1] at ih
    exact ih (fun j o' hj => by have := hl (j + 1) o' hj; rwa [show i + (j + 1) = i + 1 + j by omega] at this) (fun o' ho' => hdst o' (List.mem_cons_of_mem _ ho')) E (act.put o.dst undef) w ((opNo_grew o st).wf hwf) (fun x hx => hcov x (by rw [hnx1] at hx; exact hx)) hfree hS hf' ((hdf o act undef).trans hd) hQ
  | @asm o l i recs st recs' st' d b lt he t ih =>
    intro hl hdst E act w hwf hcov hfree hS hf hd hQ
    exact ih hl hdst E act w hwf hcov hfree hS ⟨hf.size, fun e => (asm_rep he E e _).2 (hf.slot e)⟩ hd hQ
end
end Go.Proofs.YtdlghljhgbakjaaDoor

/-
  PART: regions that draw their order: what must come ahead of what.
-/
namespace Go.Proofs.YtdlghljhgbakjaaDoor
open Go.RowKit

section
variable {ops : Array Oper}
theorem numbered_get : ∀ (l : List Oper) (i j : Nat) (o : Oper), l[j]? = some o → (numbered i l)[j]? = some (i + j, o)
  | [], i, j, o, h => by simp at h
  | p :: l, i, 0, o, h => by simp at h; subst h; rfl
  | p :: l, i, j + 1, o, h => by
    simp at h
    have := numbered_get l (i + 1) j o h
    simp only [numbered, List.getElem?_cons_succ, this]
    congr 2; omega
/-- Bits of what stands ahead. -/
def befStep (acc : Array Nat) (o : Oper) : Array Nat := acc.push (o.after.foldl (fun s e => if Region.binds .any e then s ||| 2 ^ e.on ||| acc.getD e.on 0 else s) 0)
theorem before_eq (ops : Array Oper) : Region.before ops = ops.toList.foldl befStep #[] := by
  unfold Region.before
  rw [← Array.foldl_toList]
  rfl
theorem bef_bits (acc : Array Nat) (i : Nat) : ∀ (l : List Edge) (s : Nat), (l.foldl (fun s e => if Region.binds .any e then s ||| 2 ^ e.on ||| acc.getD e.on 0 else s) s).testBit i = true → s.testBit i = true ∨ ∃ e, e ∈ l ∧ Region.binds .any e = true ∧ (e.on = i ∨ (acc.getD e.on 0).testBit i = true)
  | [], s, h => .inl h
  | e :: l, s, h => by
    simp only [List.foldl_cons] at h
    rcases bef_bits acc i l _ h with h | ⟨e', h1, h2⟩
    · by_cases hb : Region.binds .any e = true
      · rw [if_pos hb] at h
        simp only [Nat.testBit_or, Nat.testBit_two_pow, Bool.or_eq_true, decide_eq_true_eq] at h
        rcases h with (h | h) | h
        · exact .inl h
        · exact .inr ⟨e, List.mem_cons_self .., hb, .inl h⟩
        · exact .inr ⟨e, List.mem_cons_self .., hb, .inr h⟩
      · rw [if_neg hb] at h; exact .inl h
    · exact .inr ⟨e', List.mem_cons_of_mem _ h1, h2⟩
theorem bef_spec : ∀ (l : List Oper) (acc : Array Nat), (l.foldl befStep acc).size = acc.size + l.length ∧ (∀ j, j < acc.size → (l.foldl befStep acc).getD j 0 = acc.getD j 0) ∧
    ∀ (j : Nat) (o : Oper), l[j]? = some o → ∀ i, ((l.foldl befStep acc).getD (acc.size + j) 0).testBit i = true → ∃ e, e ∈ o.after ∧ Region.binds .any e = true ∧ (e.on = i ∨ (e.on < acc.size + j ∧ ((l.foldl befStep acc).getD e.on 0).testBit i = true))
  | [], acc => ⟨by simp, fun _ _ => rfl, fun j o h => by simp at h⟩
  | o :: l, acc => by
    obtain ⟨h1, h2, h3⟩ := bef_spec l (befStep acc o)
    have hsz : (befStep acc o).size = acc.size + 1 := by simp [befStep]
    have hold : ∀ j, j < acc.size → (befStep acc o).getD j 0 = acc.getD j 0 := fun j hj => by
      unfold befStep
      simp only [Array.getD_eq_getD_getElem?, Array.getElem?_push]
      rw [if_neg (by omega)]
    refine ⟨by simp only [List.foldl_cons, h1, hsz, List.length_cons]; omega, fun j hj => by simp only [List.foldl_cons]; rw [h2 j (by omega), hold j hj], fun j o' hj i hb => ?_⟩
    simp only [List.foldl_cons] at hb ⊢
    cases j with
    | zero =>
      simp at hj; subst hj
      rw [Nat.add_zero, h2 acc.size (by omega)] at hb
      have hnew : (befStep acc o).getD acc.size 0 = o.after.foldl (fun s e => if Region.binds .any e then s ||| 2 ^ e.on ||| acc.getD e.on 0 else s) 0 := by
        unfold befStep
        simp [Array.getD_eq_getD_getElem?]
      rw [hnew, ← Array.foldl_toList] at hb
      rcases bef_bits acc i _ _ hb with h | ⟨e, he, hbi, h⟩
      · simp at h
      · refine ⟨e, by simpa using he, hbi, h.imp id fun h => ?_⟩
        have hlt : e.on < acc.size := by
          rcases Nat.lt_or_ge e.on acc.size with h' | h'
          · exact h'
          · simp [Array.getD_eq_getD_getElem?, Array.getElem?_eq_none h'] at h
        exact ⟨by omega, by rw [h2 e.on (by omega), hold e.on hlt]; exact h⟩
    | succ j =>
      simp at hj
      have := h3 j o' hj i (by rw [hsz]; rwa [show acc.size + 1 + j = acc.size + (j + 1) by omega])
      obtain ⟨e, q1, q2, q3⟩ := this
      exact ⟨e, q1, q2, q3.imp id fun q => ⟨by rw [hsz] at q; omega, q.2⟩⟩
/-- What is listed, with all that it waits for. -/
def Closed (ops : Array Oper) (L : Nat → Prop) : Prop := ∀ i o, ops[i]? = some o → L i → ∀ e, e ∈ o.after → Region.binds .any e = true → L e.on
theorem before_get {j : Nat} {o : Oper} (ho : ops[j]? = some o) {i : Nat} (h : ((Region.before ops).getD j 0).testBit i = true) : ∃ e, e ∈ o.after ∧ Region.binds .any e = true ∧ (e.on = i ∨ (e.on < j ∧ ((Region.before ops).getD e.on 0).testBit i = true)) := by
  rw [before_eq] at h ⊢
  obtain ⟨_, _, h3⟩ := bef_spec ops.toList #[]
  have := h3 j o (by simpa using ho) i (by simpa using h)
  simpa using this
/-- All that stands ahead of an operation whose direct edges are listed is listed. -/
theorem ahead_listed {L : Nat → Prop} (hL : Closed ops L) : ∀ (j : Nat) (o : Oper), ops[j]? = some o → (∀ e, e ∈ o.after → Region.binds .any e = true → L e.on) → ∀ i, ((Region.before ops).getD j 0).testBit i = true → L i := by
  intro j
  induction j using Nat.strongRecOn with
  | _ j ih =>
    intro o ho hd i hi
    obtain ⟨e, he, hb, h⟩ := before_get ho hi
    have hLe := hd e he hb
    rcases h with rfl | ⟨hlt, h⟩
    · exact hLe
    · cases hoe : ops[e.on]? with
      | none =>
        -- no such operation: no bits
        exfalso
        have hsz : (Region.before ops).size = ops.size := by
          rw [before_eq]; have := (bef_spec ops.toList #[]).1; simpa using this
        have : ops.size ≤ e.on := by
          rcases Nat.lt_or_ge e.on ops.size with h' | h'
          · rw [Array.getElem?_eq_getElem h'] at hoe; cases hoe
          · exact h'
        simp [Array.getD_eq_getD_getElem?, Array.getElem?_eq_none (show (Region.before ops).size ≤ e.on by omega)] at h
      | some p => exact ih e.on hlt p hoe (fun e' he' hb' => hL e.on p hoe hLe e' he' hb') i h
theorem regionOk_spec (h : regionOk ops = true) {i : Nat} {o : Oper} (ho : ops[i]? = some o) :
    (∀ j p d, ops[j]? = some p → p.dst = some d → d ∈ namesOf ops o → i ≠ j → ((Region.before ops).getD (Nat.max i j) 0).testBit (Nat.min i j) = true) ∧ ∀ e, e ∈ o.after → Region.binds .any e = true → e.on < i := by
  unfold regionOk at h
  simp only [List.all_eq_true] at h
  have hm : (i, o) ∈ numbered 0 ops.toList := by
    have := numbered_get ops.toList 0 i o (by simpa using ho)
    rw [Nat.zero_add] at this
    exact List.mem_of_getElem? this
  have h1 := h _ hm
  simp only [Bool.and_eq_true] at h1
  obtain ⟨h1, h2⟩ := h1
  refine ⟨fun j p d hp hd hmem hne => ?_, fun e he hb => ?_⟩
  · have hmj : (j, p) ∈ numbered 0 ops.toList := by
      have := numbered_get ops.toList 0 j p (by simpa using hp)
      rw [Nat.zero_add] at this
      exact List.mem_of_getElem? this
    have key : ∀ l : List (Nat × Oper), orderOk (Region.before ops) i (namesOf ops o) l = true → (j, p) ∈ l → ((Region.before ops).getD (Nat.max i j) 0).testBit (Nat.min i j) = true := by
      intro l
      induction l with
      | nil => intro _ h; cases h
      | cons q l ih =>
        intro hq hmq
        obtain ⟨k, p'⟩ := q
        simp only [orderOk, Bool.and_eq_true] at hq
        rcases List.mem_cons.1 hmq with e | hmq
        · cases e
          have := hq.1
          rw [hd] at this
          simp only [Bool.or_eq_true] at this
          rcases this with (h | h) | h
          · have : (namesOf ops o).elem d = true := by simpa using hmem
            rw [this] at h; cases h
          · exact absurd (Nat.eq_of_beq_eq_true h) hne
          · exact h
        · exact ih hq.2 hmq
    exact key _ h1 hmj
  · rw [List.all_eq_true] at h2
    have := h2 e (by simpa using he)
    rw [hb] at this
    simpa [Nat.blt_eq] using this
/-! Records: who touches what another one writes. -/
theorem okAgainst_spec {bits : Nat} {r : Rec} : ∀ {l : List (Nat × Rec)}, okAgainst bits r l = true → ∀ i q, (i, q) ∈ l → meets r q = true → bits.testBit i = true
  | [], _, i, q, h, _ => by cases h
  | (k, p) :: l, h, i, q, hm, hq => by
    simp only [okAgainst, Bool.and_eq_true, Bool.or_eq_true] at h
    rcases List.mem_cons.1 hm with e | hm
    · cases e
      rcases h.1 with h | h
      · rw [hq] at h; cases h
      · exact h
    · exact okAgainst_spec h.2 i q hm hq
theorem meets_of {a b : Rec} {x : Nat} (h : (x ∈ a.wr ∧ (x ∈ b.rd ∨ x ∈ b.wr)) ∨ (x ∈ b.wr ∧ (x ∈ a.rd ∨ x ∈ a.wr))) : meets a b = true := by
  unfold meets
  simp only [Bool.or_eq_true, List.any_eq_true]
  rcases h with ⟨h1, h2⟩ | ⟨h1, h2⟩
  · exact .inl ⟨x, h1, by rcases h2 with h2 | h2 <;> simp [h2]⟩
  · rcases h2 with h2 | h2
    · exact .inr ⟨x, h1, by simpa using h2⟩
    · exact .inl ⟨x, h2, by simp [h1]⟩
/-- Any two records of which one was taken later. -/
theorem okRecs_spec {b : Array Nat} : ∀ {l : List (Nat × Rec)}, okRecs b l = true → ∀ (m n : Nat) (j i : Nat) (r q : Rec), m < n → l[m]? = some (j, r) → l[n]? = some (i, q) → meets r q = true → (b.getD j 0).testBit i = true
  | [], _, m, n, j, i, r, q, _, h, _, _ => by simp at h
  | (k, p) :: l, h, m, n, j, i, r, q, hmn, hm, hn, hq => by
    simp only [okRecs, Bool.and_eq_true] at h
    cases m with
    | zero =>
      simp at hm
      obtain ⟨rfl, rfl⟩ := hm
      cases n with
      | zero => omega
      | succ n => exact okAgainst_spec h.1 i q (List.mem_of_getElem? (by simpa using hn)) hq
    | succ m => cases n with
      | zero => omega
      | succ n => exact okRecs_spec h.2 m n j i r q (by omega) (by simpa using hm) (by simpa using hn) hq
end
end Go.Proofs.YtdlghljhgbakjaaDoor

/-
  PART: regions that draw their order: whatever order is drawn, the region leaves what the evaluator says.
-/
namespace Go.Proofs.YtdlghljhgbakjaaDoor
open Go.RowKit

/-- One operation's part of a way. -/
structure Stp where
  pre : St
  b : Bool
  q : Rec
  post : St
structure SameS (a b : St) : Prop where
  hp : b.hp = a.hp
  nx : b.nx = a.nx
  rd : b.rd = a.rd
  wr : b.wr = a.wr
  slot : ∀ (E : Env) (d : Nat) (v : Value), Rep E (look b.sl d) v ↔ Rep E (look a.sl d) v
theorem SameS.refl (a : St) : SameS a a := ⟨rfl, rfl, rfl, rfl, fun _ _ _ => Iff.rfl⟩
theorem SameS.trans {a b c : St} (h : SameS a b) (k : SameS b c) : SameS a c := ⟨k.hp.trans h.hp, k.nx.trans h.nx, k.rd.trans h.rd, k.wr.trans h.wr, fun E d v => (k.slot E d v).trans (h.slot E d v)⟩
section
variable {cx : Cx} {r : Evs} {ops : Array Oper}
def Good (cx : Cx) (r : Evs) (ops : Array Oper) (o : Oper) (p : Stp) : Prop :=
  Want ops o p.pre p.b ∧ (p.b = true → (opYes cx r true o p.pre).hit (p.q, p.post)) ∧ (p.b = false → p.post = opNo o p.pre)
def Chain (cx : Cx) (r : Evs) (ops : Array Oper) : List Oper → St → List Stp → St → Prop
  | [], st, [], st' => SameS st st'
  | o :: l, st, p :: L, st' => SameS st p.pre ∧ Good cx r ops o p ∧ Chain cx r ops l p.post L st'
  | _, _, _, _ => False
def recsOf : Nat → List Stp → List (Nat × Rec)
  | _, [] => []
  | i, p :: L => match p.b with
    | true => (i, p.q) :: recsOf (i + 1) L
    | false => recsOf (i + 1) L
theorem chain_of {l : List Oper} {i : Nat} {recs recs' : List (Nat × Rec)} {st st' : St} (h : Path cx r ops true l i recs st recs' st') : ∃ L, Chain cx r ops l st L st' ∧ recs' = (recsOf i L).reverse ++ recs := by
  induction h with
  | nil i recs st => exact ⟨[], .refl st, rfl⟩
  | @yes o l i recs st q s recs' st' hg h t ih =>
    obtain ⟨L, h1, h2⟩ := ih
    exact ⟨⟨st, true, q, s⟩ :: L, ⟨.refl st, ⟨hg, fun _ => h, fun h => by cases h⟩, h1⟩, by rw [h2]; simp [recsOf]⟩
  | @no o l i recs st recs' st' hg t ih =>
    obtain ⟨L, h1, h2⟩ := ih
    exact ⟨⟨st, false, ⟨[], []⟩, opNo o st⟩ :: L, ⟨.refl st, ⟨hg, fun h => (by cases h), fun _ => rfl⟩, h1⟩, h2⟩
  | @asm o l i recs st recs' st' d b lt he t ih =>
    obtain ⟨L, h1, h2⟩ := ih
    have hs : SameS st (st.forked.put (some d) (.lit (.bool b))) := ⟨rfl, rfl, rfl, rfl, fun E e v => asm_rep he E e v⟩
    cases L with
    | nil => exact h1.elim
    | cons p L => exact ⟨p :: L, ⟨hs.trans h1.1, h1.2⟩, h2⟩
/-- The state ahead of an operation. -/
def stAt (st : St) : List Stp → Nat → St
  | _, 0 => st
  | [], _ + 1 => st
  | p :: L, k + 1 => stAt p.post L k
theorem chain_len : ∀ {l : List Oper} {st : St} {L : List Stp} {st' : St}, Chain cx r ops l st L st' → L.length = l.length ∧ SameS (stAt st L l.length) st'
  | [], st, [], st', h => ⟨rfl, h⟩
  | [], _, _ :: _, _, h => h.elim
  | _ :: _, _, [], _, h => h.elim
  | o :: l, st, p :: L, st', h => by
    obtain ⟨k1, k2⟩ := chain_len h.2.2
    exact ⟨by simp [k1], k2⟩
theorem chain_get : ∀ {l : List Oper} {st : St} {L : List Stp} {st' : St}, Chain cx r ops l st L st' → ∀ (j : Nat) (o : Oper) (p : Stp), l[j]? = some o → L[j]? = some p → SameS (stAt st L j) p.pre ∧ Good cx r ops o p ∧ stAt st L (j + 1) = p.post
  | [], st, [], st', h, j, o, p, ho, hp => by simp at ho
  | [], _, _ :: _, _, h, j, o, p, ho, hp => h.elim
  | _ :: _, _, [], _, h, j, o, p, ho, hp => h.elim
  | o' :: l, st, p' :: L, st', h, 0, o, p, ho, hp => by
    simp at ho hp
    subst ho; subst hp
    exact ⟨h.1, h.2.1, by cases L <;> rfl⟩
  | o' :: l, st, p' :: L, st', h, j + 1, o, p, ho, hp => by
    simp at ho hp
    exact chain_get h.2.2 j o p ho hp
theorem recsOf_get : ∀ {L : List Stp} {i j : Nat} {p : Stp}, L[j]? = some p → p.b = true → (i + j, p.q) ∈ recsOf i L
  | [], i, j, p, h, _ => by simp at h
  | q :: L, i, 0, p, h, hb => by
    simp at h; subst h
    unfold recsOf; rw [hb]; exact List.mem_cons_self ..
  | q :: L, i, j + 1, p, h, hb => by
    simp at h
    have := recsOf_get (i := i + 1) h hb
    unfold recsOf
    rw [show i + (j + 1) = i + 1 + j by omega]
    split
    · exact List.mem_cons_of_mem _ this
    · exact this
theorem recsOf_ge : ∀ {L : List Stp} {i k : Nat} {q : Rec}, (k, q) ∈ recsOf i L → i ≤ k
  | [], i, k, q, h => by cases h
  | p :: L, i, k, q, h => by
    unfold recsOf at h
    split at h
    · rcases List.mem_cons.1 h with h | h
      · cases h; exact Nat.le_refl _
      · have := recsOf_ge h; omega
    · have := recsOf_ge h; omega
/-- Of two records, the later operation waits for the earlier one, if they meet. -/
theorem recs_order {b : Array Nat} {L : List Stp} {i : Nat} (h : okRecs b ((recsOf i L).reverse) = true) {j k : Nat} {p q : Stp} (hj : L[j]? = some p) (hk : L[k]? = some q) (hjk : j < k) (hp : p.b = true) (hq : q.b = true) (hm : meets q.q p.q = true) : (b.getD (i + k) 0).testBit (i + j) = true := by
  have key : ∀ (L : List Stp) (i j k : Nat), L[j]? = some p → L[k]? = some q → j < k → ∃ m n : Nat, m < n ∧ (recsOf i L)[m]? = some (i + j, p.q) ∧ (recsOf i L)[n]? = some (i + k, q.q) := by
    intro L
    induction L with
    | nil => intro i j k h; simp at h
    | cons s L ih =>
      intro i j k hj hk hjk
      obtain ⟨k, rfl⟩ : ∃ k', k = k' + 1 := ⟨k - 1, by omega⟩
      simp at hk
      cases j with
      | zero =>
        simp at hj; subst hj
        have hmem := recsOf_get (i := i + 1) hk hq
        obtain ⟨n, hn⟩ := List.mem_iff_getElem?.1 hmem
        refine ⟨0, n + 1, by omega, ?_, ?_⟩
        · unfold recsOf; rw [hp]; simp
        · unfold recsOf; rw [hp]; simp [hn]; omega
      | succ j =>
        simp at hj
        obtain ⟨m, n, h1, h2, h3⟩ := ih (i + 1) j k hj hk (by omega)
        cases hs : s.b with
        | true =>
          refine ⟨m + 1, n + 1, by omega, ?_, ?_⟩
          · unfold recsOf; rw [hs]; simp [h2]; omega
          · unfold recsOf; rw [hs]; simp [h3]; omega
        | false =>
          refine ⟨m, n, h1, ?_, ?_⟩
          · unfold recsOf; rw [hs]; simp [h2]; omega
          · unfold recsOf; rw [hs]; simp [h3]; omega
  obtain ⟨m, n, h1, h2, h3⟩ := key L i j k hj hk hjk
  have hn : n < (recsOf i L).length := (List.getElem?_eq_some_iff.1 h3).1
  refine okRecs_spec h ((recsOf i L).length - 1 - n) ((recsOf i L).length - 1 - m) (i + k) (i + j) q.q p.q (by omega) ?_ ?_ hm
  · rw [List.getElem?_reverse (by omega), show (recsOf i L).length - 1 - ((recsOf i L).length - 1 - n) = n by omega]; exact h3
  · rw [List.getElem?_reverse (by omega), show (recsOf i L).length - 1 - ((recsOf i L).length - 1 - m) = m by omega]; exact h2
end
/-! What a piece does, seen from all blocks. -/
section
variable {FP FPi : Nat → Prop} {E0 E E' : Env} {H0 Hm Hi Hs : Nat → Option Blk} {w0 w w' : World} {nx0 nxn nxi nxs : Nat} {wri wrn : List Nat}
theorem Pst.lift (h0 : Sim FP E0 H0 w0) (p : Pst FP E0 E H0 Hm nx0 nxn wrn w0 w) (q : Pst FPi E E' Hi Hs nxi nxs wri w w') (hw : ∀ x, x ∈ wri → FPi x ∧ FP x ∧ x ∈ wrn) (hag : ∀ x, FPi x → Hm x = Hi x)
    (h1 : nx0 ≤ nxi) (h2 : nxs ≤ nxn) (hs : ∀ x, x ∈ wri → Hs x ≠ none → x < nxs) (hmn : ∀ x, x ∈ wrn → Hm x ≠ none → x < nxn) :
    Pst FP E0 E' H0 (fun x => if x ∈ wri then Hs x else Hm x) nx0 nxn wrn w0 w' := by
  -- the block of an old name that the piece does not write
  have apart : ∀ x, FP x → x ∉ wri → Hm x ≠ none → E.vir x = false → ∀ y, y ∈ wri → y < nxi → Hi y ≠ none → E.vir y = false → E.ρ x ≠ E.ρ y := by
    intro x hF hx hn hv y hy hyn hyH hyv he
    obtain ⟨f1, f2, _⟩ := hw y hy
    have := p.sim.inj x y hF f2 hn (by rw [hag y f1]; exact hyH) hv hyv he
    exact hx (this ▸ hy)
  have fr : ∀ x, FP x → x ∉ wri → Hm x ≠ none → E.vir x = false → blkW w' (E.ρ x) = blkW w (E.ρ x) ∧ E'.fz (E.ρ x) = E.fz (E.ρ x) := fun x hF hx hn hv =>
    q.frame _ (p.sim.low x hF hn hv).1 (apart x hF hx hn hv)
  have old0 : ∀ y, y < nx0 → FP y → Hm y ≠ none → E.vir y = E0.vir y ∧ E.ρ y = E0.ρ y ∧ H0 y ≠ none := fun y hy hF hn => by
    have hn0 := p.old y hy hF hn
    have hd := h0.dom y hF hn0
    exact ⟨p.le.vir y hd, p.le.ρ y hd, hn0⟩
  refine ⟨⟨p.le.trans q.le, fun x hx => ?_, ⟨q.sim.fz, fun x hF hn => ?_, fun x hF hn hv => ?_, fun x B hF hB => ?_, fun x y hFx hFy hnx hny hvx hvy he => ?_⟩, fun b hb hx => ?_, fun x g1 g2 hF hn hv => ?_, Nat.le_trans p.size q.size, q.os.trans p.os, q.tape.trans p.tape, q.output.trans p.output⟩, fun x hx hF hn => ?_⟩
  · rcases q.dom x hx with h | h
    · exact p.dom x h
    · exact .inr ⟨by omega, by omega⟩
  · by_cases hx : x ∈ wri
    · rw [if_pos hx] at hn; exact q.sim.dom x (hw x hx).1 hn
    · rw [if_neg hx] at hn; exact q.le.dom x (p.sim.dom x hF hn)
  · by_cases hx : x ∈ wri
    · rw [if_pos hx] at hn; exact q.sim.low x (hw x hx).1 hn hv
    · rw [if_neg hx] at hn
      have hd := p.sim.dom x hF hn
      rw [q.le.vir x hd] at hv
      rw [q.le.ρ x hd, (fr x hF hx hn hv).2]
      have := p.sim.low x hF hn hv
      exact ⟨Nat.lt_of_lt_of_le this.1 q.size, this.2⟩
  · by_cases hx : x ∈ wri
    · simp only [if_pos hx] at hB; exact q.sim.blk x B (hw x hx).1 hB
    · simp only [if_neg hx] at hB
      have hn : Hm x ≠ none := by rw [hB]; simp
      have hd := p.sim.dom x hF hn
      have hb := (p.sim.blk x B hF hB).mono q.le hd
      rw [q.le.ρ x hd]
      by_cases hv : E.vir x = true
      · cases B with
        | fix ty cs => exact absurd hb.1 (by rw [q.le.vir x hd, hv]; simp)
        | arr ty n k get =>
          obtain ⟨hq, hb⟩ := hb
          rcases hb with hb | hb
          · exact ⟨hq, .inl hb⟩
          · exact absurd hb.1 (by rw [q.le.vir x hd, hv]; simp)
      · rw [(fr x hF hx hn (by simpa using hv)).1]; exact hb
  · -- names of one block are one
    have mixed : ∀ x y, FP x → FP y → x ∈ wri → y ∉ wri → Hs x ≠ none → Hm y ≠ none → E'.vir x = false → E'.vir y = false → E'.ρ x = E'.ρ y → x = y := by
      intro x y hFx hFy hx hy hnx hny hvx hvy he
      have hdy := p.sim.dom y hFy hny
      rw [q.le.vir y hdy] at hvy
      rw [q.le.ρ y hdy] at he
      exfalso
      rcases Nat.lt_or_ge x nxi with hlt | hge
      · have hi := q.old x hlt (hw x hx).1 hnx
        have hmx : Hm x ≠ none := by rw [hag x (hw x hx).1]; exact hi
        have hdx := p.sim.dom x hFx hmx
        rw [q.le.vir x hdx] at hvx
        rw [q.le.ρ x hdx] at he
        exact apart y hFy hy hny hvy x hx hlt hi hvx he.symm
      · rcases q.news x hge (hs x hx hnx) (hw x hx).1 hnx hvx with h | ⟨z, hz, hzn, hzH, hzv, hzρ⟩
        · have := (p.sim.low y hFy hny hvy).1; omega
        · exact apart y hFy hy hny hvy z hz hzn hzH hzv (he.symm.trans hzρ)
    by_cases hx : x ∈ wri
    · rw [if_pos hx] at hnx
      by_cases hy : y ∈ wri
      · rw [if_pos hy] at hny; exact q.sim.inj x y (hw x hx).1 (hw y hy).1 hnx hny hvx hvy he
      · rw [if_neg hy] at hny; exact mixed x y hFx hFy hx hy hnx hny hvx hvy he
    · rw [if_neg hx] at hnx
      by_cases hy : y ∈ wri
      · rw [if_pos hy] at hny; exact (mixed y x hFy hFx hy hx hny hnx hvy hvx he.symm).symm
      · rw [if_neg hy] at hny
        have hdx := p.sim.dom x hFx hnx
        have hdy := p.sim.dom y hFy hny
        rw [q.le.vir x hdx] at hvx; rw [q.le.vir y hdy] at hvy
        rw [q.le.ρ x hdx, q.le.ρ y hdy] at he
        exact p.sim.inj x y hFx hFy hnx hny hvx hvy he
  · have f1 := p.frame b hb hx
    have f2 := q.frame b (Nat.lt_of_lt_of_le hb p.size) (fun y hy hyn hyH hyv => by
      obtain ⟨k1, k2, k3⟩ := hw y hy
      have hmy : Hm y ≠ none := by rw [hag y k1]; exact hyH
      rcases Nat.lt_or_ge y nx0 with hlt | hge
      · obtain ⟨e1, e2, e3⟩ := old0 y hlt k2 hmy
        rw [e2]; exact hx y k3 hlt e3 (e1 ▸ hyv)
      · rcases p.news y hge (hmn y k3 hmy) k2 hmy hyv with h | ⟨z, hz, hzn, hzH, hzv, hzρ⟩
        · omega
        · rw [hzρ]; exact hx z hz hzn hzH hzv)
    exact ⟨f2.1.trans f1.1, f2.2.trans f1.2⟩
  · by_cases hx : x ∈ wri
    · rw [if_pos hx] at hn
      obtain ⟨k1, k2, k3⟩ := hw x hx
      rcases Nat.lt_or_ge x nxi with hlt | hge
      · have hi := q.old x hlt k1 hn
        have hmx : Hm x ≠ none := by rw [hag x k1]; exact hi
        have hdx := p.sim.dom x k2 hmx
        rw [q.le.vir x hdx] at hv
        rw [q.le.ρ x hdx]
        exact p.news x g1 g2 hF hmx hv
      · rcases q.news x hge (hs x hx hn) k1 hn hv with h | ⟨y, hy, hyn, hyH, hyv, he⟩
        · exact .inl (Nat.le_trans p.size h)
        · obtain ⟨l1, l2, l3⟩ := hw y hy
          have hmy : Hm y ≠ none := by rw [hag y l1]; exact hyH
          rcases Nat.lt_or_ge y nx0 with hlt' | hge'
          · obtain ⟨e1, e2, e3⟩ := old0 y hlt' l2 hmy
            exact .inr ⟨y, l3, hlt', e3, e1 ▸ hyv, he.trans e2⟩
          · rcases p.news y hge' (hmn y l3 hmy) l2 hmy hyv with h | ⟨z, hz, hzn, hzH, hzv, hzρ⟩
            · exact .inl (he ▸ h)
            · exact .inr ⟨z, hz, hzn, hzH, hzv, he.trans hzρ⟩
    · rw [if_neg hx] at hn
      have hdx := p.sim.dom x hF hn
      rw [q.le.vir x hdx] at hv
      rw [q.le.ρ x hdx]
      exact p.news x g1 g2 hF hn hv
  · by_cases hx' : x ∈ wri
    · rw [if_pos hx'] at hn
      obtain ⟨k1, k2, k3⟩ := hw x hx'
      have hi := q.old x (by omega) k1 hn
      exact p.old x hx hF (by rw [hag x k1]; exact hi)
    · rw [if_neg hx'] at hn; exact p.old x hx hF hn
end
end Go.Proofs.YtdlghljhgbakjaaDoor

/-
  PART: a region that draws its order.
-/
namespace Go.Proofs.YtdlghljhgbakjaaDoor
open Go.RowKit

def leftN (listed : Array Bool) (n : Nat) : Nat := (List.range n).countP fun i => !listed.getD i true
theorem countP_lt {α : Type} (p q : α → Bool) (l : List α) (h : ∀ x ∈ l, q x = true → p x = true) (y : α) (hy : y ∈ l) (hp : p y = true) (hq : q y = false) : l.countP q < l.countP p := by
  induction l with
  | nil => cases hy
  | cons x l ih =>
    have hle : l.countP q ≤ l.countP p := List.countP_mono_left (fun z hz hz' => h z (List.mem_cons_of_mem _ hz) hz')
    rw [List.countP_cons, List.countP_cons]
    rcases List.mem_cons.1 hy with rfl | hy'
    · rw [hp, hq]; simp; omega
    · have := ih (fun z hz => h z (List.mem_cons_of_mem _ hz)) hy'
      by_cases hx : q x = true
      · rw [hx, h x List.mem_cons_self hx]; simp; omega
      · cases hpx : p x <;> simp [hx] <;> omega
theorem left_set {listed : Array Bool} {n i : Nat} (hi : i < n) (h0 : listed.getD i true = false) : leftN (listed.setIfInBounds i true) n < leftN listed n := by
  unfold leftN
  have hlt : i < listed.size := by
    rcases Nat.lt_or_ge i listed.size with h | h
    · exact h
    · simp [Array.getElem?_eq_none h] at h0
  refine countP_lt _ _ _ ?_ i (List.mem_range.2 hi) (by simp [h0]) (by simp [hlt])
  intro x _ hx
  by_cases e : i = x
  · subst e; simp [hlt] at hx
  · rw [getD_set_ne true e] at hx; exact hx
theorem all_listed {ops : Array Oper} (hb : ∀ i o, ops[i]? = some o → ∀ e ∈ o.after, Region.binds .any e = true → e.on < i) {listed : Array Bool} (hr : Region.ready .any ops listed = []) : ∀ i, i < ops.size → listed.getD i true = true := by
  intro i
  induction i using Nat.strongRecOn with
  | _ i ih =>
    intro hi
    cases h : listed.getD i true
    · exfalso
      have hm : i ∈ Region.ready .any ops listed := by
        rw [mem_ready]
        refine ⟨h, ops[i], Array.getElem?_eq_getElem hi, fun e he hbi => ?_⟩
        have hlt := hb i _ (Array.getElem?_eq_getElem hi) e he hbi
        have h1 := ih e.on hlt (by omega)
        have hli : i < listed.size := by
          rcases Nat.lt_or_ge i listed.size with h' | h'
          · exact h'
          · simp [Array.getElem?_eq_none h'] at h
        have : e.on < listed.size := by omega
        simp [this] at h1 ⊢
        exact h1
      rw [hr] at hm; cases hm
    · rfl
section
variable {cx : Cx} {r : Evs} {ops : Array Oper} {P : Program}
/-- An operation writes a slot; a block. -/
def WrS (ops : Array Oper) (j d : Nat) : Prop := ∃ o, ops[j]? = some o ∧ o.dst = some d
def WrB (L : List Stp) (j x : Nat) : Prop := ∃ p, L[j]? = some p ∧ p.b = true ∧ x ∈ p.q.wr
/-- A place between what is listed of some operations, and what is not. -/
def CutAt (n : Nat) (T : Nat → Prop) (Wr : Nat → Prop) (k : Nat) : Prop := k ≤ n ∧ (∀ j, j < k → Wr j → T j) ∧ ∀ j, k ≤ j → j < n → Wr j → ¬ T j
structure Mid (cx : Cx) (ops : Array Oper) (N : Nat) (D : List Deferred) (FP : Nat → Prop) (st st' : St) (L : List Stp) (E0 : Env) (w0 : World) (T : Nat → Prop) (E : Env) (act : Act) (w : World) (Hm : Nat → Option Blk) : Prop where
  size : act.tmps.size = N
  defers : act.defers = D
  slot : ∀ d k, CutAt L.length T (WrS ops · d) k → Rep E (look (stAt st L k).sl d) (act.tmps.getD d undef)
  hm : ∀ x k, CutAt L.length T (WrB L · x) k → Hm x = hget (stAt st L k).hp x
  pst : Pst FP E0 E (hget st.hp) Hm st.nx st'.nx st'.wr w0 w
  dom : ∀ x, E.dom x → E0.dom x ∨ ∃ j, j < L.length ∧ T j ∧ (stAt st L j).nx ≤ x ∧ x < (stAt st L (j + 1)).nx
  low : ∀ x, Hm x ≠ none → x < st'.nx
/-- What one step of a way does to states. -/
structure StepF (ops : Array Oper) (L : List Stp) (st st' : St) : Prop where
  slot : ∀ j d, j < L.length → ¬ WrS ops j d → ∀ E v, Rep E (look (stAt st L j).sl d) v ↔ Rep E (look (stAt st L (j + 1)).sl d) v
  blk : ∀ j x, j < L.length → ¬ WrB L j x → hget (stAt st L (j + 1)).hp x = hget (stAt st L j).hp x
  nx : ∀ j, j < L.length → (stAt st L j).nx ≤ (stAt st L (j + 1)).nx
  rd : ∀ j, j < L.length → ∀ x, x ∈ (stAt st L j).rd → x ∈ (stAt st L (j + 1)).rd
  wr : ∀ j, j < L.length → ∀ x, x ∈ (stAt st L j).wr → x ∈ (stAt st L (j + 1)).wr
  wf : ∀ j, j < L.length → Wf (stAt st L j) → Wf (stAt st L (j + 1))
  fin : SameS (stAt st L L.length) st'
theorem opYes_true {o : Oper} {st : St} {q : Rec} {post : St} (h : (opYes cx r true o st).hit (q, post)) : ∃ a s, (evalOp cx r o st.fresh).hit (a, s) ∧ q = ⟨s.rd, s.wr⟩ ∧ post = (s.logs st).put o.dst a := by
  unfold opYes at h
  simp only [] at h
  obtain ⟨⟨a, s⟩, h1, h2⟩ := Tree.hit_bind h
  cases h2
  exact ⟨a, s, h1, rfl, rfl⟩
theorem look_put {st : St} {dst : Option Nat} {a : AV} {d : Nat} (h : dst ≠ some d) : look (st.put dst a).sl d = look st.sl d := by
  cases dst with
  | none => rfl
  | some e =>
    show look ((e, a) :: st.sl) d = _
    rw [look_cons, if_neg (fun h' => h (by rw [h']))]
theorem look_put_same {st : St} {d : Nat} {a : AV} : look (st.put (some d) a).sl d = a := by
  show look ((d, a) :: st.sl) d = _
  rw [look_cons, if_pos rfl]
theorem put_rest (st : St) (d : Option Nat) (a : AV) : (st.put d a).hp = st.hp ∧ (st.put d a).nx = st.nx ∧ (st.put d a).rd = st.rd ∧ (st.put d a).wr = st.wr := by cases d <;> exact ⟨rfl, rfl, rfl, rfl⟩
theorem chain_steps (hr : CallsAll r) {st st' : St} {L : List Stp} (h : Chain cx r ops ops.toList st L st') : StepF ops L st st' := by
  obtain ⟨hl, hfin⟩ := chain_len h
  have hn : L.length = ops.size := by rw [hl]; simp
  have get : ∀ j, j < L.length → ∃ o p, ops[j]? = some o ∧ L[j]? = some p ∧ SameS (stAt st L j) p.pre ∧ Good cx r ops o p ∧ stAt st L (j + 1) = p.post := fun j hj => by
    have ho : ops.toList[j]? = some ops[j] := by simp [hn ▸ hj]
    exact ⟨ops[j], L[j], Array.getElem?_eq_getElem (by omega), List.getElem?_eq_getElem hj, chain_get h j _ _ ho (List.getElem?_eq_getElem hj)⟩
  have gs : ∀ j, j < L.length → ∃ o p, ops[j]? = some o ∧ L[j]? = some p ∧ SameS (stAt st L j) p.pre ∧ stAt st L (j + 1) = p.post ∧ Gs p.pre p.post := fun j hj => by
    obtain ⟨o, p, h1, h2, h3, h4, h5⟩ := get j hj
    refine ⟨o, p, h1, h2, h3, h5, ?_⟩
    cases hb : p.b with
    | true => exact ((all_opYes hr o p.pre).hit (h4.2.1 hb)).gs
    | false => rw [h4.2.2 hb]; exact (opNo_grew o p.pre).gs
  refine ⟨fun j d hj hw E v => ?_, fun j x hj hw => ?_, fun j hj => ?_, fun j hj => ?_, fun j hj => ?_, fun j hj hwf => ?_, hl ▸ hfin⟩
  · obtain ⟨o, p, h1, h2, h3, h4, h5⟩ := get j hj
    have hne : o.dst ≠ some d := fun e => hw ⟨o, h1, e⟩
    rw [h5, ← h3.slot E d v]
    cases hb : p.b with
    | true =>
      obtain ⟨a, s, k1, k2, k3⟩ := opYes_true (h4.2.1 hb)
      rw [k3, look_put hne]
      have := ((all_op hr o).hit k1).2
      show Rep E _ v ↔ Rep E (look s.sl d) v
      rw [show s.sl = p.pre.fresh.sl from this]
      exact Iff.rfl
    | false => rw [h4.2.2 hb, opNo, look_put hne]
  · obtain ⟨o, p, h1, h2, h3, h4, h5⟩ := get j hj
    rw [h5, ← h3.hp]
    cases hb : p.b with
    | true =>
      obtain ⟨a, s, k1, k2, k3⟩ := opYes_true (h4.2.1 hb)
      have hx : x ∉ s.wr := fun hx => hw ⟨p, h2, hb, by rw [k2]; exact hx⟩
      rw [k3, (put_rest _ _ _).1]
      exact ((all_op hr o).hit k1).1.blkr x hx
    | false => rw [h4.2.2 hb, opNo, (put_rest _ _ _).1]
  · obtain ⟨o, p, h1, h2, h3, h5, g⟩ := gs j hj
    rw [h5, ← h3.nx]; exact g.nx
  · obtain ⟨o, p, h1, h2, h3, h5, g⟩ := gs j hj
    rw [h5, ← h3.rd]; exact g.rd
  · obtain ⟨o, p, h1, h2, h3, h5, g⟩ := gs j hj
    rw [h5, ← h3.wr]; exact g.wr
  · obtain ⟨o, p, h1, h2, h3, h5, g⟩ := gs j hj
    rw [h5]
    refine g.wf ?_
    unfold Wf at hwf ⊢
    rw [h3.hp, h3.nx]; exact hwf
section
variable {L : List Stp} {st st' : St}
theorem StepF.slot_le (F : StepF ops L st st') {d i k : Nat} (hik : i ≤ k) (hk : k ≤ L.length) (h : ∀ j, i ≤ j → j < k → ¬ WrS ops j d) (E : Env) (v : Value) : Rep E (look (stAt st L i).sl d) v ↔ Rep E (look (stAt st L k).sl d) v := by
  induction k with
  | zero => obtain rfl : i = 0 := by omega
            exact Iff.rfl
  | succ k ih =>
    by_cases e : i = k + 1
    · subst e; exact Iff.rfl
    · exact (ih (by omega) (by omega) fun j h1 h2 => h j h1 (by omega)).trans (F.slot k d (by omega) (h k (by omega) (by omega)) E v)
theorem StepF.blk_le (F : StepF ops L st st') {x i k : Nat} (hik : i ≤ k) (hk : k ≤ L.length) (h : ∀ j, i ≤ j → j < k → ¬ WrB L j x) : hget (stAt st L k).hp x = hget (stAt st L i).hp x := by
  induction k with
  | zero => obtain rfl : i = 0 := by omega
            rfl
  | succ k ih =>
    by_cases e : i = k + 1
    · subst e; rfl
    · exact (F.blk k x (by omega) (h k (by omega) (by omega))).trans (ih (by omega) (by omega) fun j h1 h2 => h j h1 (by omega))
theorem StepF.nx_le (F : StepF ops L st st') {i k : Nat} (hik : i ≤ k) (hk : k ≤ L.length) : (stAt st L i).nx ≤ (stAt st L k).nx := by
  induction k with
  | zero => obtain rfl : i = 0 := by omega
            exact Nat.le_refl _
  | succ k ih =>
    by_cases e : i = k + 1
    · subst e; exact Nat.le_refl _
    · exact Nat.le_trans (ih (by omega) (by omega)) (F.nx k (by omega))
theorem StepF.logs_le (F : StepF ops L st st') {i k : Nat} (hik : i ≤ k) (hk : k ≤ L.length) : (∀ x, x ∈ (stAt st L i).rd → x ∈ (stAt st L k).rd) ∧ ∀ x, x ∈ (stAt st L i).wr → x ∈ (stAt st L k).wr := by
  induction k with
  | zero => obtain rfl : i = 0 := by omega
            exact ⟨fun _ h => h, fun _ h => h⟩
  | succ k ih =>
    by_cases e : i = k + 1
    · subst e; exact ⟨fun _ h => h, fun _ h => h⟩
    · obtain ⟨h1, h2⟩ := ih (by omega) (by omega)
      exact ⟨fun x hx => F.rd k (by omega) x (h1 x hx), fun x hx => F.wr k (by omega) x (h2 x hx)⟩
theorem StepF.wf_le (F : StepF ops L st st') (hwf : Wf st) {k : Nat} (hk : k ≤ L.length) : Wf (stAt st L k) := by
  induction k with
  | zero => cases L <;> exact hwf
  | succ k ih => exact F.wf k (by omega) (ih (by omega))
theorem stAt_zero (st : St) (L : List Stp) : stAt st L 0 = st := by cases L <;> rfl
end
end
end Go.Proofs.YtdlghljhgbakjaaDoor

/-
  PART: a region that draws its order: the theorem.
-/
namespace Go.Proofs.YtdlghljhgbakjaaDoor
open Go.RowKit

section
variable {cx : Cx} {r : Evs} {ops : Array Oper} {P : Program}
theorem Sim.cut {FP FPi : Nat → Prop} {E : Env} {Hm Hi : Nat → Option Blk} {w : World} (h : Sim FP E Hm w) (hF : ∀ x, FPi x → FP x) (ha : ∀ x, FPi x → Hm x = Hi x) : Sim FPi E Hi w :=
  ⟨h.fz, fun x hx hn => h.dom x (hF x hx) (by rw [ha x hx]; exact hn), fun x hx hn hv => h.low x (hF x hx) (by rw [ha x hx]; exact hn) hv, fun x B hx hB => h.blk x B (hF x hx) (by rw [ha x hx]; exact hB),
   fun x y hx hy hnx hny => h.inj x y (hF x hx) (hF y hy) (by rw [ha x hx]; exact hnx) (by rw [ha y hy]; exact hny)⟩
theorem Pst.wide {FP : Nat → Prop} {E E' : Env} {H H' : Nat → Option Blk} {nx nx' : Nat} {wr : List Nat} {w w' : World} (p : Pst FP E E' H H' nx nx wr w w') (h : ∀ x, H' x ≠ none → x < nx) : Pst FP E E' H H' nx nx' wr w w' :=
  ⟨⟨p.le, fun x hx => (p.dom x hx).imp id fun h => absurd h.1 (by omega), p.sim, p.frame, fun x h1 _ _ hn _ => absurd (h x hn) (by omega), p.size, p.os, p.tape, p.output⟩, p.old⟩
theorem operand_name {o : Oper} {t : Nat} (h : Operand.tmp t ∈ o.op.operands) : t ∈ namesOf ops o := by
  unfold namesOf
  refine List.mem_append.2 (.inr (List.mem_append.2 (.inl ?_)))
  exact List.mem_filterMap.2 ⟨.tmp t, by simpa using h, rfl⟩
theorem guard_name {o : Oper} {d : Nat} {w : Bool} (h : guardOf ops o = some (d, w)) : d ∈ namesOf ops o := by
  unfold namesOf
  refine List.mem_append.2 (.inr (List.mem_append.2 (.inr ?_)))
  rw [h]; simp
theorem dst_name {o : Oper} {d : Nat} (h : o.dst = some d) : d ∈ namesOf ops o := by
  unfold namesOf
  refine List.mem_append.2 (.inl ?_)
  rw [h]; simp
theorem path_draw (hP : cx.P = P) (hr : CallsAll r) (hok : CallsOk P r) (hmix : P.follows .mixedOrders = true) (hreg : regionOk ops = true) {id N : Nat} {D : List Deferred} {rr : Option Nat} {Q : Exit → Act → World → Prop} {FP : Nat → Prop} {recs' : List (Nat × Rec)} {st st' : St}
    (h : Path cx r ops true ops.toList 0 [] st recs' st') (hrec : okRecs (Region.before ops) recs' = true) (hdst : ∀ o, o ∈ ops.toList → DstIn N o) (E : Env) (act : Act) (w : World) (hwf : Wf st) (hcov : Cov FP st st') (hfree : Free E st.nx st'.nx) (hS : Sim FP E (hget st.hp) w) (hf : Fr N E st act) (hd : act.defers = D)
    (hQ : ∀ E' act' w', Fr N E' st' act' → act'.defers = D → Pst FP E E' (hget st.hp) (hget st'.hp) st.nx st'.nx st'.wr w w' → Q .normal act' w') : (Code.region id ops true).wpIn (wideR rr) 0 P Q act w := by
  subst hP
  obtain ⟨L, hch, hrecs⟩ := chain_of h
  rw [List.append_nil] at hrecs
  subst hrecs
  have F := chain_steps hr hch
  obtain ⟨hlen, _⟩ := chain_len hch
  have hn : L.length = ops.size := by rw [hlen]; simp
  have hdf : ∀ (o : Oper) (act : Act) (v : Value), (act.put o.dst v).defers = act.defers := fun o act v => by cases ho : o.dst <;> rfl
  have hnx0 : ∀ k, k ≤ L.length → st.nx ≤ (stAt st L k).nx := fun k hk => by have := F.nx_le (Nat.zero_le k) hk; rwa [stAt_zero] at this
  have hnxn : ∀ k, k ≤ L.length → (stAt st L k).nx ≤ st'.nx := fun k hk => by rw [F.fin.nx]; exact F.nx_le hk (Nat.le_refl _)
  have hback : ∀ i o, ops[i]? = some o → ∀ e ∈ o.after, Region.binds .any e = true → e.on < i := fun i o ho => (regionOk_spec hreg ho).2
  refine wpIn_region_any hmix ?_
  have key : ∀ (fuel : Nat) (listed : Array Bool) (act1 : Act) (w1 : World) (E1 : Env) (Hm : Nat → Option Blk), leftN listed ops.size ≤ fuel → listed.size = ops.size → Closed ops (fun j => j < L.length ∧ listed.getD j true = true) →
      Mid cx ops N D FP st st' L E w (fun j => j < L.length ∧ listed.getD j true = true) E1 act1 w1 Hm → wpAnyIn (wideR rr) 0 cx.P .any ops Q fuel listed act1 w1 := by
    have fin : ∀ (listed : Array Bool) (act1 : Act) (w1 : World) (E1 : Env) (Hm : Nat → Option Blk), Region.ready .any ops listed = [] → Mid cx ops N D FP st st' L E w (fun j => j < L.length ∧ listed.getD j true = true) E1 act1 w1 Hm → Q .normal act1 w1 := by
      intro listed act1 w1 E1 Hm hrd M
      have hall := all_listed hback hrd
      have hcut : ∀ Wr : Nat → Prop, CutAt L.length (fun j => j < L.length ∧ listed.getD j true = true) Wr L.length := fun Wr => ⟨Nat.le_refl _, fun j hj _ => ⟨hj, hall j (by omega)⟩, fun j h1 h2 => absurd h1 (by omega)⟩
      have hHm : Hm = hget st'.hp := funext fun x => by rw [M.hm x _ (hcut _), F.fin.hp]
      have p := M.pst
      rw [hHm] at p
      exact hQ E1 act1 w1 ⟨M.size, fun d => (F.fin.slot E1 d _).2 (M.slot d _ (hcut _))⟩ M.defers p
    intro fuel
    induction fuel with
    | zero =>
      intro listed act1 w1 E1 Hm hl hsz hcl M
      have hrd : Region.ready .any ops listed = [] := by
        rw [List.eq_nil_iff_forall_not_mem]
        intro i hi
        obtain ⟨h0, o, ho, _⟩ := mem_ready.1 hi
        have := left_set (Array.getElem?_eq_some_iff.1 ho).1 h0
        omega
      exact ⟨hrd, fin listed act1 w1 E1 Hm hrd M⟩
    | succ fuel ih =>
      intro listed act1 w1 E1 Hm hl hsz hcl M
      refine ⟨fun hrd => fin listed act1 w1 E1 Hm hrd M, fun i hi => ?_⟩
      obtain ⟨h0, o, ho, hedges⟩ := mem_ready.1 hi
      have hi' : i < ops.size := (Array.getElem?_eq_some_iff.1 ho).1
      have hiL : i < L.length := by omega
      have hnT : ¬ (i < L.length ∧ listed.getD i true = true) := fun hc => by rw [h0] at hc; cases hc.2
      have hedge : ∀ e, e ∈ o.after → Region.binds .any e = true → e.on < L.length ∧ listed.getD e.on true = true := fun e he hb => by
        have h1 := hedges e he hb
        have h2 := hback i o ho e he hb
        have : e.on < listed.size := by omega
        refine ⟨by omega, ?_⟩
        simp [this] at h1 ⊢
        exact h1
      have hahead := ahead_listed hcl i o ho hedge
      have hbehind : ∀ j, (j < L.length ∧ listed.getD j true = true) → ((Region.before ops).getD j 0).testBit i = true → False := fun j hT hb => by
        have hj : j < ops.size := by omega
        exact hnT (ahead_listed hcl j ops[j] (Array.getElem?_eq_getElem hj) (fun e he hb' => hcl j _ (Array.getElem?_eq_getElem hj) hT e he hb') i hb)
      have hord := (regionOk_spec hreg ho).1
      -- slots that the operation names
      have slotLt : ∀ d, d ∈ namesOf ops o → ∀ j, WrS ops j d → j < i → (j < L.length ∧ listed.getD j true = true) := fun d hd j ⟨p, hp, hpd⟩ hj => by
        refine hahead j ?_
        have := hord j p d hp hpd hd (by omega)
        rwa [show Nat.max i j = i from Nat.max_eq_left (by omega), show Nat.min i j = j from Nat.min_eq_right (by omega)] at this
      have slotGt : ∀ d, d ∈ namesOf ops o → ∀ j, WrS ops j d → i < j → ¬ (j < L.length ∧ listed.getD j true = true) := fun d hd j ⟨p, hp, hpd⟩ hj hT => by
        refine hbehind j hT ?_
        have := hord j p d hp hpd hd (by omega)
        rwa [show Nat.max i j = j from Nat.max_eq_right (by omega), show Nat.min i j = i from Nat.min_eq_left (by omega)] at this
      have hp : L[i]? = some L[i] := List.getElem?_eq_getElem hiL
      obtain ⟨hsame, hgood, hpost⟩ := chain_get hch i o L[i] (by simpa using ho) hp
      generalize L[i] = p at hp hsame hgood hpost
      have hpre : ∀ d, d ∈ namesOf ops o → Rep E1 (look p.pre.sl d) (act1.tmps.getD d undef) := fun d hd => by
        rw [hsame.slot]
        refine M.slot d i ⟨by omega, fun j hj hw => slotLt d hd j hw hj, fun j hj hjn hw => ?_⟩
        rcases Nat.lt_or_ge i j with h | h
        · exact slotGt d hd j hw h
        · obtain rfl : j = i := by omega
          exact hnT
      have hwfp : Wf p.pre := by
        have := F.wf_le hwf (Nat.le_of_lt hiL)
        unfold Wf at this ⊢
        rw [hsame.hp, hsame.nx]; exact this
      have hT' : ∀ j, (j < L.length ∧ (listed.setIfInBounds i true).getD j true = true) ↔ ((j < L.length ∧ listed.getD j true = true) ∨ j = i) := fun j => by
        by_cases e : i = j
        · subst e
          have : i < listed.size := by omega
          simp [this, hiL]
        · rw [getD_set_ne true e]
          exact ⟨.inl, fun h => h.resolve_right (fun h => e h.symm)⟩
      have hcl' : Closed ops (fun j => j < L.length ∧ (listed.setIfInBounds i true).getD j true = true) := fun j q hq hj e he hb => by
        refine (hT' _).2 (.inl ?_)
        rcases (hT' _).1 hj with hj | rfl
        · exact hcl j q hq hj e he hb
        · rw [ho] at hq; cases hq
          exact hedge e he hb
      have hleft : leftN (listed.setIfInBounds i true) ops.size ≤ fuel := by have := left_set hi' h0; omega
      have hNd : DstIn N o := hdst o (List.mem_of_getElem? (by simpa using ho))
      have hputsz : ∀ v, (act1.put o.dst v).tmps.size = N := fun v => by
        cases hdd : o.dst with
        | none => exact M.size
        | some d => show (act1.tmps.setIfInBounds d v).size = N; simpa using M.size
      -- slots behind the operation
      have hslots : ∀ (E' : Env) (a : AV) (v : Value), E1.le E' → Rep E' a v → (∀ d, o.dst = some d → look p.post.sl d = a) → ∀ d k, CutAt L.length (fun j => j < L.length ∧ (listed.setIfInBounds i true).getD j true = true) (WrS ops · d) k → Rep E' (look (stAt st L k).sl d) ((act1.put o.dst v).tmps.getD d undef) := by
        intro E' a v hle hv hpa d k ⟨c1, c2, c3⟩
        by_cases hdd : o.dst = some d
        · have hwi : WrS ops i d := ⟨o, ho, hdd⟩
          have hik : i < k := by
            rcases Nat.lt_or_ge i k with h | h
            · exact h
            · exact absurd ((hT' i).2 (.inr rfl)) (c3 i h hiL hwi)
          have hno : ∀ j, i + 1 ≤ j → j < k → ¬ WrS ops j d := fun j h1 h2 hw => by
            have := (hT' j).1 (c2 j h2 hw)
            rcases this with h | h
            · exact slotGt d (dst_name hdd) j hw (by omega) h
            · omega
          rw [← F.slot_le (show i + 1 ≤ k by omega) c1 hno, hpost, hpa d hdd, hdd]
          show Rep E' a ((act1.tmps.setIfInBounds d v).getD d undef)
          rw [getD_put (by rw [M.size]; exact hNd d hdd), if_pos rfl]
          exact hv
        · have hget : (act1.put o.dst v).tmps.getD d undef = act1.tmps.getD d undef := by
            cases hoo : o.dst with
            | none => rfl
            | some e =>
              show (act1.tmps.setIfInBounds e v).getD d undef = _
              rw [getD_put (by rw [M.size]; exact hNd e hoo), if_neg (fun h => hdd (by rw [hoo, h]))]
          rw [hget]
          refine (M.slot d k ⟨c1, fun j h1 h2 => ?_, fun j h1 h2 hw hT => c3 j h1 h2 hw ((hT' j).2 (.inl hT))⟩).mono hle
          rcases (hT' j).1 (c2 j h1 h2) with h | rfl
          · exact h
          · obtain ⟨o', ho', hd'⟩ := h2
            rw [ho] at ho'; cases ho'
            exact absurd hd' hdd
      unfold wpOpIn
      rw [ho]
      simp only []
      rw [want_ok hgood.1 fun d w hg => hpre d (guard_name hg)]
      cases hb : p.b with
      | false =>
        simp only [Bool.false_eq_true, if_false]
        refine ⟨fun _ _ => trivial, ?_⟩
        have hpo := hgood.2.2 hb
        refine ih _ _ _ E1 Hm hleft (by simpa using hsz) hcl' ⟨hputsz _, (hdf o act1 undef).trans M.defers, hslots E1 (.tup []) undef (.refl E1) (.tup .nil) (fun d hdd => by rw [hpo, opNo, hdd, look_put_same]), fun x k hc => ?_, M.pst, fun x hx => ?_, M.low⟩
        · obtain ⟨c1, c2, c3⟩ := hc
          refine M.hm x k ⟨c1, fun j h1 h2 => ?_, fun j h1 h2 hw hT => c3 j h1 h2 hw ((hT' j).2 (.inl hT))⟩
          rcases (hT' j).1 (c2 j h1 h2) with h | rfl
          · exact h
          · obtain ⟨p', hp', hb', _⟩ := h2
            rw [hp] at hp'; cases hp'
            rw [hb] at hb'; cases hb'
        · rcases M.dom x hx with h | ⟨j, h1, h2, h3⟩
          · exact .inl h
          · exact .inr ⟨j, h1, (hT' j).2 (.inl h2), h3⟩
      | true =>
        simp only [if_true]
        obtain ⟨a, s, k1, k2, k3⟩ := opYes_true (hgood.2.1 hb)
        have ok := op_sound hok k1
        have gs : Grew p.pre.fresh s := ok.grew
        have hpn : p.post.nx = s.nx := by rw [k3, (put_rest _ _ _).2.1]; rfl
        have hph : p.post.hp = s.hp := by rw [k3, (put_rest _ _ _).1]; rfl
        have hprd : ∀ x, x ∈ s.rd → x ∈ p.post.rd := fun x hx => by rw [k3, (put_rest _ _ _).2.2.1]; exact mem_uni.2 (.inl hx)
        have hpwr : ∀ x, x ∈ s.wr → x ∈ p.post.wr := fun x hx => by rw [k3, (put_rest _ _ _).2.2.2]; exact mem_uni.2 (.inl hx)
        have hlogs := F.logs_le (show i + 1 ≤ L.length by omega) (Nat.le_refl _)
        rw [hpost] at hlogs
        have hrd' : ∀ x, x ∈ s.rd → x ∈ st'.rd := fun x hx => by rw [F.fin.rd]; exact hlogs.1 x (hprd x hx)
        have hwr' : ∀ x, x ∈ s.wr → x ∈ st'.wr := fun x hx => by rw [F.fin.wr]; exact hlogs.2 x (hpwr x hx)
        have hprn : p.pre.nx = (stAt st L i).nx := hsame.nx
        have hpsn : s.nx = (stAt st L (i + 1)).nx := by rw [hpost, hpn]
        have hlo : st.nx ≤ p.pre.nx := by rw [hprn]; exact hnx0 i (by omega)
        have hhi : s.nx ≤ st'.nx := by rw [hpsn]; exact hnxn (i + 1) (by omega)
        let FPi : Nat → Prop := fun x => x ∈ s.rd ∨ x ∈ s.wr ∨ (p.pre.nx ≤ x ∧ x < s.nx)
        have hFi : ∀ x, FPi x → FP x := fun x hx => by
          rcases hx with h | h | h
          · exact hcov x (.inl (hrd' x h))
          · exact hcov x (.inr (.inl (hwr' x h)))
          · exact hcov x (.inr (.inr ⟨by omega, by omega⟩))
        have hnew : ∀ x, p.pre.nx ≤ x → x < s.nx → ¬ E1.dom x := fun x h1 h2 hdm => by
          rcases M.dom x hdm with h | ⟨j, hj, hTj, g1, g2⟩
          · exact hfree x (by omega) (by omega) h
          · rcases Nat.lt_trichotomy j i with h | rfl | h
            · have := F.nx_le (show j + 1 ≤ i by omega) (by omega)
              omega
            · exact hnT hTj
            · have := F.nx_le (show i + 1 ≤ j by omega) (by omega)
              omega
        have hag : ∀ x, FPi x → Hm x = hget p.pre.hp x := fun x hx => by
          have touch : (x ∈ s.rd ∨ x ∈ s.wr) → Hm x = hget p.pre.hp x := fun ht => by
            rw [hsame.hp]
            have hpq : x ∈ p.q.rd ∨ x ∈ p.q.wr := by rw [k2]; exact ht
            refine M.hm x i ⟨by omega, fun j hj ⟨p', hp', hb', hw'⟩ => ?_, fun j hj hjn ⟨p', hp', hb', hw'⟩ hT => ?_⟩
            · have := recs_order hrec hp' hp hj hb' hb (meets_of (.inr ⟨hw', hpq⟩))
              rw [Nat.zero_add, Nat.zero_add] at this
              exact hahead j this
            · rcases Nat.lt_or_ge i j with h | h
              · have := recs_order hrec hp hp' h hb hb' (meets_of (.inl ⟨hw', hpq⟩))
                rw [Nat.zero_add, Nat.zero_add] at this
                exact hbehind j hT this
              · obtain rfl : j = i := by omega
                exact hnT hT
          rcases hx with h | h | ⟨h1, h2⟩
          · exact touch (.inl h)
          · exact touch (.inr h)
          · have e1 : hget p.pre.hp x = none := by
              cases hh : hget p.pre.hp x with
              | none => rfl
              | some B => have := hwfp x (by rw [hh]; simp); omega
            have e2 : Hm x = none := by
              cases hh : Hm x with
              | none => rfl
              | some B => exact absurd (M.pst.sim.dom x (hFi x (.inr (.inr ⟨h1, h2⟩))) (by rw [hh]; simp)) (hnew x h1 h2)
            rw [e1, e2]
        refine ok.run rr FPi E1 act1 w1 _ _ hwfp (fun x hx => hx) hnew (M.pst.sim.cut hFi hag) (fun x hx => ?_) fun E' v w' hv hpst => ?_
        · cases x with
          | tmp t => exact hpre t (operand_name hx)
          | const c => exact constR c
          | global g => exact global_rep g
          | func f => exact .fn .nil .nil
        · have hwfs : Wf s := gs.wf hwfp
          have plift := Pst.lift (nx0 := st.nx) (nxn := st'.nx) (wrn := st'.wr) hS M.pst hpst (fun x hx => ⟨.inr (.inl hx), hFi x (.inr (.inl hx)), hwr' x hx⟩) hag hlo hhi (fun x _ hn => hwfs x hn) (fun x hx hn => M.low x hn)
          refine ih _ _ _ E' _ hleft (by simpa using hsz) hcl' ⟨hputsz _, (hdf o act1 v).trans M.defers, hslots E' a v hpst.le hv (fun d hdd => by rw [k3, hdd, look_put_same]), fun x k hc => ?_, plift, fun x hx => ?_, fun x hn => ?_⟩
          · obtain ⟨c1, c2, c3⟩ := hc
            by_cases hx : x ∈ s.wr
            · simp only [if_pos hx]
              have hwi : WrB L i x := ⟨p, hp, hb, by rw [k2]; exact hx⟩
              have hik : i < k := by
                rcases Nat.lt_or_ge i k with h | h
                · exact h
                · exact absurd ((hT' i).2 (.inr rfl)) (c3 i h hiL hwi)
              have hno : ∀ j, i + 1 ≤ j → j < k → ¬ WrB L j x := fun j h1 h2 hw => by
                obtain ⟨p', hp', hb', hw'⟩ := hw
                rcases (hT' j).1 (c2 j h2 ⟨p', hp', hb', hw'⟩) with h | h
                · have := recs_order hrec hp hp' (by omega) hb hb' (meets_of (.inl ⟨hw', .inr (by rw [k2]; exact hx)⟩))
                  rw [Nat.zero_add, Nat.zero_add] at this
                  exact hbehind j h this
                · omega
              rw [F.blk_le (show i + 1 ≤ k by omega) c1 hno, hpost, hph]
            · simp only [if_neg hx]
              refine M.hm x k ⟨c1, fun j h1 h2 => ?_, fun j h1 h2 hw hT => c3 j h1 h2 hw ((hT' j).2 (.inl hT))⟩
              rcases (hT' j).1 (c2 j h1 h2) with h | rfl
              · exact h
              · obtain ⟨p', hp', hb', hw'⟩ := h2
                rw [hp] at hp'; cases hp'
                rw [k2] at hw'; exact absurd hw' hx
          · rcases hpst.dom x hx with h | h
            · rcases M.dom x h with h | ⟨j, h1, h2, h3⟩
              · exact .inl h
              · exact .inr ⟨j, h1, (hT' j).2 (.inl h2), h3⟩
            · exact .inr ⟨i, hiL, (hT' i).2 (.inr rfl), by have : p.pre.fresh.nx = (stAt st L i).nx := hprn; omega, by omega⟩
          · by_cases hx : x ∈ s.wr
            · simp only [if_pos hx] at hn
              have := hwfs x hn; omega
            · simp only [if_neg hx] at hn; exact M.low x hn
  refine key ops.size (Array.replicate ops.size false) act w.drew E (hget st.hp) ?_ (by simp) ?_ ⟨hf.size, hd, fun d k hc => ?_, fun x k hc => ?_, Pst.wide (Pst.same (nx := st.nx) (wr := st'.wr) hS (.drew w)) (fun x hn => hwf x hn), fun x hx => .inl hx, fun x hn => Nat.lt_of_lt_of_le (hwf x hn) (by have := hnxn 0 (Nat.zero_le _); rwa [stAt_zero] at this)⟩
  · unfold leftN
    have := List.countP_le_length (p := fun i => !(Array.replicate ops.size false).getD i true) (l := List.range ops.size)
    simpa using this
  · intro i o ho hT
    have hi : i < ops.size := (Array.getElem?_eq_some_iff.1 ho).1
    have := hT.2
    simp [hi] at this
  · obtain ⟨c1, c2, c3⟩ := hc
    have := F.slot_le (i := 0) (d := d) (Nat.zero_le k) c1 (fun j _ h2 hw => by
      have hT := c2 j h2 hw
      have hj : j < ops.size := by omega
      have := hT.2
      simp [hj] at this) E (act.tmps.getD d undef)
    rw [stAt_zero] at this
    exact this.1 (hf.slot d)
  · obtain ⟨c1, c2, c3⟩ := hc
    have := F.blk_le (i := 0) (x := x) (Nat.zero_le k) c1 (fun j _ h2 hw => by
      have hT := c2 j h2 hw
      have hj : j < ops.size := by omega
      have := hT.2
      simp [hj] at this)
    rw [stAt_zero] at this
    exact this.symm
end
end Go.Proofs.YtdlghljhgbakjaaDoor

/-
  PART: code and calls: what the evaluator says is so.
-/
namespace Go.Proofs.YtdlghljhgbakjaaDoor
open Go.RowKit

def toExit : Ex → Exit
  | .norm => .normal
  | .exit id => .exit id
  | .goto l => .goto l
  | .ret => .ret
/-- What is asked of a program once: its functions' slots, regions, names; the orders that it draws. -/
structure Fit (P : Program) : Prop where
  funcs : P.funcs.toList.all funcOk = true
  mixed : P.follows .mixedOrders = true
/-- What the evaluator says of a piece of code is so. -/
def CodeOk (P : Program) (c : Code) (st : St) (x : Ex) (st' : St) : Prop :=
  ∀ (N : Nat) (D : List Deferred) (rr : Option Nat) (FP : Nat → Prop) (E : Env) (act : Act) (w : World) (Q : Exit → Act → World → Prop), codeOk N c = true → Wf st → Cov FP st st' → Free E st.nx st'.nx → Sim FP E (hget st.hp) w → Fr N E st act → act.defers = D →
    (∀ E' act' w', Fr N E' st' act' → act'.defers = D → Pst FP E E' (hget st.hp) (hget st'.hp) st.nx st'.nx st'.wr w w' → Q (toExit x) act' w') → c.wpIn (wideR rr) 0 P Q act w
/-- Of a loop: in so many rounds. -/
def RoundsOk (P : Program) (c : Code) (st : St) (x : Ex) (st' : St) : Prop :=
  ∃ m, ∀ (N : Nat) (D : List Deferred) (rr : Option Nat) (FP : Nat → Prop) (E : Env) (act : Act) (w : World) (Q : Exit → Act → World → Prop), codeOk N c = true → Wf st → Cov FP st st' → Free E st.nx st'.nx → Sim FP E (hget st.hp) w → Fr N E st act → act.defers = D →
    (∀ E' act' w', Fr N E' st' act' → act'.defers = D → Pst FP E E' (hget st.hp) (hget st'.hp) st.nx st'.nx st'.wr w w' → Q (toExit x) act' w') → Code.roundsIn (wideR rr) 0 P c Q m act w
/-- A scope whose jumps are gone one by one: so many. -/
def _root_.Go.Code.jumpsIn (F : Fence) (n : Nat) (P : Program) (c : Code) (Q : Exit → Act → World → Prop) : Nat → Code → Act → World → Prop
  | 0, _, _, _ => False
  | m + 1, rest, a, w => rest.wpIn F n P (fun e a w => match e with
    | .goto l => (∃ rest', findLabel c l = some rest' ∧ Code.jumpsIn F n P c Q m rest' a w) ∨ (findLabel c l = none ∧ Q (.goto l) a w)
    | e => Q e a w) a w
theorem stepR_scope {P : Program} {b : Frame} {a : Act} {w : World} {cs : List Frame} {k : List Item} {c : Code} :
    step P (lone (b.atR a (.code (.scope c) :: k)) cs w) = .next (lone (b.atR a (.code c :: .inScope c :: k)) cs w) :=
  step_lone_go (by simp [stepG, stepG.exec, Frame.atR])
theorem stepR_inScope {P : Program} {b : Frame} {a : Act} {w : World} {cs : List Frame} {k : List Item} {c : Code} :
    step P (lone (b.atR a (.inScope c :: k)) cs w) = .next (lone (b.atR a k) cs w) :=
  step_lone_go (by simp [stepG, stepG.exec, Frame.atR])
theorem wpIn_scope_jumps {F : Fence} {n : Nat} {P : Program} {Q : Exit → Act → World → Prop} {a : Act} {w : World} {c : Code} (m : Nat) (h : Code.jumpsIn F n P c Q m c a w) : (Code.scope c).wpIn F n P Q a w := by
  intro b k cs hro hb hr
  have key : ∀ m rest a w, Code.jumpsIn F n P c Q m rest a w →
      ∃ e a' w', Q e a' w' ∧ ArrivesIn (Machine.fenced P F) P (lone (b.atR a (.code rest :: .inScope c :: k)) cs w) b k cs e a' w' := by
    intro m
    induction m with
    | zero => intro rest a w h; exact h.elim
    | succ m ih =>
      intro rest a w h
      obtain ⟨e, a₁, w₁, hq, harr⟩ := h b (.inScope c :: k) cs hro hb hr
      cases e with
      | normal => exact ⟨.normal, a₁, w₁, hq, StepsIn.trans harr (.one (fenced_calm hb hr rfl) stepR_inScope)⟩
      | exit id =>
        have hx : exitTo id (.inScope c :: k) = exitTo id k := by simp [exitTo]
        exact ⟨_, a₁, w₁, hq, fun k' hk => harr.1 k' (by rw [hx]; exact hk), fun hr' hk => harr.2 hr' (by rw [hx]; exact hk)⟩
      | goto l =>
        rcases hq with ⟨rest', hf, hj⟩ | ⟨hf, hq⟩
        · have hg : gotoIn l (.inScope c :: k) = some (.code rest' :: .inScope c :: k) := by simp [gotoIn, hf]
          obtain ⟨e₂, a₂, w₂, hq₂, harr₂⟩ := ih rest' a₁ w₁ hj
          exact ⟨e₂, a₂, w₂, hq₂, .of_steps (harr.1 _ hg) harr₂⟩
        · have hx : gotoIn l (.inScope c :: k) = gotoIn l k := by simp [gotoIn, hf]
          exact ⟨_, a₁, w₁, hq, fun k' hk => harr.1 k' (by rw [hx]; exact hk), fun hr' hk => harr.2 hr' (by rw [hx]; exact hk)⟩
      | ret => exact ⟨_, a₁, w₁, hq, harr⟩
      | panic ch => exact ⟨_, a₁, w₁, hq, harr⟩
      | outgrown => exact ⟨_, a₁, w₁, hq, harr⟩
  obtain ⟨e, a', w', hq, harr⟩ := key m c a w h
  exact ⟨e, a', w', hq, .of_steps (.one (fenced_calm hb hr rfl) stepR_scope) harr⟩
theorem codeOk_label {N : Nat} : ∀ {c : Code} {l : Nat} {rest : Code}, findLabel c l = some rest → codeOk N c = true → codeOk N rest = true
  | .seq a b, l, rest, h, hc => by
    simp only [codeOk, Bool.and_eq_true] at hc
    unfold findLabel at h
    split at h
    · rename_i r hr
      cases h
      simp only [codeOk, Bool.and_eq_true]
      exact ⟨codeOk_label hr hc.1, hc.2⟩
    · exact codeOk_label h hc.2
  | .label l', l, rest, h, hc => by
    unfold findLabel at h
    split at h
    · cases h; rfl
    · cases h
  | .skip, _, _, h, _ => by cases h
  | .region _ _ _, _, _, h, _ => by cases h
  | .cond _ _ _, _, _, h, _ => by cases h
  | .block _ _, _, _, h, _ => by cases h
  | .loop _, _, _, h, _ => by cases h
  | .exit _, _, _, h, _ => by cases h
  | .goto _, _, _, h, _ => by cases h
  | .ret, _, _, h, _ => by cases h
  | .rangeFunc _ _ _ _, _, _, h, _ => by cases h
  | .scope _, _, _, h, _ => by cases h
  | .refuse _, _, _, h, _ => by cases h
def JumpsOk (P : Program) (c rest : Code) (st : St) (x : Ex) (st' : St) : Prop :=
  ∃ m, ∀ (N : Nat) (D : List Deferred) (rr : Option Nat) (FP : Nat → Prop) (E : Env) (act : Act) (w : World) (Q : Exit → Act → World → Prop), codeOk N c = true → codeOk N rest = true → Wf st → Cov FP st st' → Free E st.nx st'.nx → Sim FP E (hget st.hp) w → Fr N E st act → act.defers = D →
    (∀ E' act' w', Fr N E' st' act' → act'.defers = D → Pst FP E E' (hget st.hp) (hget st'.hp) st.nx st'.nx st'.wr w w' → Q (toExit x) act' w') → Code.jumpsIn (wideR rr) 0 P c Q m rest act w
structure CodeAll (r : Evs) : Prop where
  code : ∀ c st, (r.code c st).All (GrewX st)
  jump : ∀ c rest st, (r.jump c rest st).All (GrewX st)
structure EvsOk (P : Program) (r : Evs) : Prop where
  loop : ∀ c st x st', (r.code (.loop c) st).hit (x, st') → x ≠ .norm ∧ RoundsOk P c st x st'
  jumps : ∀ c rest st x st', (r.jump c rest st).hit (x, st') → JumpsOk P c rest st x st'
  all : CodeAll r
  calls : CallsOk P r
  callsAll : CallsAll r
section
variable {cx : Cx} {r : Evs} {P : Program}
theorem all_onGoto (hl : CodeAll r) (c : Code) {st : St} {b : Ex × St} (h : GrewX st b) : (onGoto r c b).All (GrewX st) := by
  obtain ⟨e, s⟩ := b
  unfold onGoto
  split
  · split
    · exact (hl.jump c _ s).imp fun y hy => Grew.trans h hy
    · exact h
  · exact h
theorem all_codeE (hr : CallsAll r) (hl : CodeAll r) : ∀ (c : Code) (st : St), (codeE cx r c st).All (GrewX st)
  | .skip, st => .refl st
  | .label _, st => .refl st
  | .region _ ops draw, st => all_opsE hr _ _ _ st
  | .seq a b, st => (all_codeE hr hl a st).bind fun x hx => by
      obtain ⟨e, s⟩ := x
      cases e with
      | norm => exact (all_codeE hr hl b s).imp fun y hy => Grew.trans hx hy
      | exit id => exact hx
      | goto l => exact hx
      | ret => exact hx
  | .cond c a b, st => by
      unfold codeE
      split
      · split
        · exact all_codeE hr hl a st
        · exact all_codeE hr hl b st
      · exact (decT_ok (all_codeE hr hl a _) (all_codeE hr hl b _)).1
      · trivial
  | .block id c, st => (all_codeE hr hl c st).bind fun x hx => by
      obtain ⟨e, s⟩ := x
      show (match eqEx e (.exit id) with | true => _ | false => _ : Tree (Ex × St)).All (GrewX st)
      split
      · exact hx
      · exact hx
  | .loop c, st => (all_codeE hr hl c st).bind fun x hx => by
      obtain ⟨e, s⟩ := x
      cases e with
      | norm => exact (hl.code (.loop c) s).imp fun y hy => Grew.trans hx hy
      | exit id => exact hx
      | goto l => exact hx
      | ret => exact hx
  | .exit _, st => .refl st
  | .goto _, st => .refl st
  | .ret, st => .refl st
  | .rangeFunc .., _ => trivial
  | .scope c, st => (all_codeE hr hl c st).bind fun x hx => all_onGoto hl c hx
  | .refuse _, _ => trivial
theorem free_mid {E E' : Env} {FP : Nat → Prop} {H H' : Nat → Option Blk} {nx nx1 nx2 : Nat} {wr : List Nat} {w w' : World} (h : Free E nx nx2) (p : Pst FP E E' H H' nx nx1 wr w w') (h1 : nx ≤ nx1) : Free E' nx1 nx2 := fun x g1 g2 hd => by
  rcases p.dom x hd with h' | h'
  · exact h x (by omega) g2 h'
  · omega
theorem cov_l {FP : Nat → Prop} {a b c : St} (h : Cov FP a c) (k : Gs b c) : Cov FP a b := fun x hx => h x (by
  rcases hx with hx | hx | ⟨h1, h2⟩
  · exact .inl (k.rd x hx)
  · exact .inr (.inl (k.wr x hx))
  · exact .inr (.inr ⟨h1, Nat.lt_of_lt_of_le h2 k.nx⟩))
theorem cov_r {FP : Nat → Prop} {a b c : St} (h : Cov FP a c) (k : a.nx ≤ b.nx) : Cov FP b c := fun x hx => h x (by
  rcases hx with hx | hx | ⟨h1, h2⟩
  · exact .inl hx
  · exact .inr (.inl hx)
  · exact .inr (.inr ⟨by omega, h2⟩))
/-- Weakened at the end. -/
theorem CodeOk.wkn {c : Code} {st : St} {x : Ex} {s m : St} (h : CodeOk P c st x s) (k : Wkn s m) (hwf : Wf st → Wf s) : CodeOk P c st x m := fun N D rr FP E act w Q hc hw hcov hfree hS hf hd hQ =>
  h N D rr FP E act w Q hc hw (fun y hy => hcov y (by
    rcases hy with hy | hy | ⟨h1, h2⟩
    · exact .inl (k.rd y hy)
    · exact .inr (.inl (k.wr y hy))
    · exact .inr (.inr ⟨h1, Nat.lt_of_lt_of_le h2 k.nx⟩))) (fun y h1 h2 => hfree y h1 (Nat.lt_of_lt_of_le h2 k.nx)) hS hf hd fun E' act' w' k1 k2 k3 => hQ E' act' w' (k1.wkn k) k2 (k3.wkn k (hwf hw))
/-- What is behind a piece in a scope, its jump gone. -/
theorem goto_sound (hE : EvsOk P r) {c rest : Code} {st s : St} {e x : Ex} {st' : St} (ih : CodeOk P rest st e s) (g1 : Grew st s) (h2 : (onGoto r c (e, s)).hit (x, st')) : JumpsOk P c rest st x st' := by
  have stop : (∀ l, e = .goto l → findLabel c l = none) → (x, st') = (e, s) → JumpsOk P c rest st x st' := fun hne heq => by
    cases heq
    refine ⟨1, fun N D rr FP E act w Q hc hcr hw hcov hfree hS hf hd hQ => ?_⟩
    refine ih N D rr FP E act w _ hcr hw hcov hfree hS hf hd fun E' act' w' k1 k2 k3 => ?_
    have q := hQ E' act' w' k1 k2 k3
    cases e with
    | norm => exact q
    | exit id => exact q
    | goto l => exact .inr ⟨hne l rfl, q⟩
    | ret => exact q
  cases e with
  | goto l =>
    unfold onGoto at h2
    dsimp only at h2
    split at h2
    · rename_i rest' hf'
      obtain ⟨m, hm⟩ := hE.jumps c rest' s x st' h2
      have g2 : Grew s st' := (hE.all.jump c rest' s).hit h2
      refine ⟨m + 1, fun N D rr FP E act w Q hc hcr hw hcov hfree hS hf hd hQ => ?_⟩
      refine ih N D rr FP E act w _ hcr hw (cov_l hcov g2.gs) (fun y h1 h2 => hfree y h1 (Nat.lt_of_lt_of_le h2 g2.nx)) hS hf hd fun E' act' w' k1 k2 k3 => ?_
      have k3' := k3.more g2.wr
      exact .inl ⟨rest', hf', hm N D rr FP E' act' w' Q hc (codeOk_label hf' hc) (g1.wf hw) (cov_r hcov g1.nx) (free_mid hfree k3 g1.nx) k3.sim k1 k2 fun E'' act'' w'' q1 q2 q3 => hQ E'' act'' w'' q1 q2 (Pst.trans hS (fun y hy => hcov y (.inr (.inl hy))) k3' q3 g1.nx g2.nx)⟩
    · rename_i hf'
      exact stop (fun l' hl' => by cases hl'; exact hf') h2.symm
  | norm => exact stop (fun l hl => by cases hl) h2.symm
  | exit id => exact stop (fun l hl => by cases hl) h2.symm
  | ret => exact stop (fun l hl => by cases hl) h2.symm
theorem code_sound (hP : cx.P = P) (hfit : Fit P) (hE : EvsOk P r) : ∀ (c : Code) (st : St) (x : Ex) (st' : St), (codeE cx r c st).hit (x, st') → CodeOk P c st x st'
  | .skip, st, x, st', h => by cases h; exact fun N D rr FP E act w Q hc hw hcov hfree hS hf hd hQ => wpIn_skip (hQ E act w hf hd (.refl hS))
  | .label l, st, x, st', h => by cases h; exact fun N D rr FP E act w Q hc hw hcov hfree hS hf hd hQ => wpIn_label (hQ E act w hf hd (.refl hS))
  | .exit id, st, x, st', h => by cases h; exact fun N D rr FP E act w Q hc hw hcov hfree hS hf hd hQ => wpIn_exit (hQ E act w hf hd (.refl hS))
  | .goto l, st, x, st', h => by cases h; exact fun N D rr FP E act w Q hc hw hcov hfree hS hf hd hQ => wpIn_goto (hQ E act w hf hd (.refl hS))
  | .ret, st, x, st', h => by cases h; exact fun N D rr FP E act w Q hc hw hcov hfree hS hf hd hQ => wpIn_ret (hQ E act w hf hd (.refl hS))
  | .rangeFunc .., st, x, st', h => h.elim
  | .scope c, st, x, st', h => by
    obtain ⟨⟨e, s⟩, h1, h2⟩ := Tree.hit_bind h
    have ih := code_sound hP hfit hE c st e s h1
    have g1 : Grew st s := (all_codeE hE.callsAll hE.all c st).hit h1
    obtain ⟨m, hm⟩ := goto_sound hE ih g1 h2
    exact fun N D rr FP E act w Q hc hw hcov hfree hS hf hd hQ => wpIn_scope_jumps m (hm N D rr FP E act w Q hc hc hw hcov hfree hS hf hd hQ)
  | .refuse _, st, x, st', h => h.elim
  | .region id ops draw, st, x, st', h => by
    obtain ⟨rfl, recs', s, hpath, hwk, hws, hok⟩ := path_of hE.callsAll _ _ _ _ _ _ h
    refine CodeOk.wkn (s := s) ?_ hwk hws
    intro N D rr FP E act w Q hc hw hcov hfree hS hf hd hQ
    simp only [codeOk, Bool.and_eq_true] at hc
    have hdst : ∀ o, o ∈ ops.toList → DstIn N o := fun o ho d hd => by
      have := List.all_eq_true.1 hc.1 o ho
      rw [hd] at this
      simpa [Nat.blt_eq] using this
    cases draw with
    | false =>
      refine wpIn_region ?_
      have := path_seq (N := N) (D := D) (rr := rr) (Q := Q) hP hE.callsAll hE.calls hpath (fun j o hj => by simpa using hj) hdst E act w hw hcov hfree hS hf hd hQ
      rwa [List.range_eq_range', ← Array.length_toList]
    | true =>
      have hreg : regionOk ops = true := by simpa using hc.2
      exact path_draw hP hE.callsAll hE.calls hfit.mixed hreg hpath (hok rfl) hdst E act w hw hcov hfree hS hf hd hQ
  | .seq a b, st, x, st', h => by
    obtain ⟨⟨e, s⟩, h1, h2⟩ := Tree.hit_bind h
    have ih1 := code_sound hP hfit hE a st e s h1
    have g1 : Grew st s := (all_codeE hE.callsAll hE.all a st).hit h1
    intro N D rr FP E act w Q hc hw hcov hfree hS hf hd hQ
    simp only [codeOk, Bool.and_eq_true] at hc
    refine wpIn_seq ?_
    have stop : e ≠ .norm → (x, st') = (e, s) → a.wpIn (wideR rr) 0 P (Exit.then (b.wpIn (wideR rr) 0 P Q) Q) act w := fun hne heq => by
      cases heq
      refine ih1 N D rr FP E act w _ hc.1 hw hcov hfree hS hf hd fun E' act' w' k1 k2 k3 => ?_
      cases x with
      | norm => exact absurd rfl hne
      | exit id => exact hQ E' act' w' k1 k2 k3
      | goto l => exact hQ E' act' w' k1 k2 k3
      | ret => exact hQ E' act' w' k1 k2 k3
    cases e with
    | norm =>
      have ih2 := code_sound hP hfit hE b s x st' h2
      have g2 : Grew s st' := (all_codeE hE.callsAll hE.all b s).hit h2
      refine ih1 N D rr FP E act w _ hc.1 hw (cov_l hcov g2.gs) (fun y h1 h2 => hfree y h1 (Nat.lt_of_lt_of_le h2 g2.nx)) hS hf hd fun E' act' w' k1 k2 k3 => ?_
      have k3' := k3.more g2.wr
      exact ih2 N D rr FP E' act' w' Q hc.2 (g1.wf hw) (cov_r hcov g1.nx) (free_mid hfree k3 g1.nx) k3.sim k1 k2 fun E'' act'' w'' q1 q2 q3 => hQ E'' act'' w'' q1 q2 (Pst.trans hS (fun y hy => hcov y (.inr (.inl hy))) k3' q3 g1.nx g2.nx)
    | exit id => exact stop (by simp) h2.symm
    | goto l => exact stop (by simp) h2.symm
    | ret => exact stop (by simp) h2.symm
  | .cond c a b, st, x, st', h => by
    unfold codeE at h
    split at h
    · rename_i e hb
      cases e with
      | true =>
        have ih := code_sound hP hfit hE a st x st' h
        intro N D rr FP E act w Q hc hw hcov hfree hS hf hd hQ
        simp only [codeOk, Bool.and_eq_true] at hc
        exact wpIn_cond_true (boolOf_rep hb (hf.val c)) (ih N D rr FP E act w Q hc.1 hw hcov hfree hS hf hd hQ)
      | false =>
        have ih := code_sound hP hfit hE b st x st' h
        intro N D rr FP E act w Q hc hw hcov hfree hS hf hd hQ
        simp only [codeOk, Bool.and_eq_true] at hc
        exact wpIn_cond_false (boolOf_rep hb (hf.val c)) (ih N D rr FP E act w Q hc.2 hw hcov hfree hS hf hd hQ)
    · rename_i e hb
      obtain ⟨_, hfk⟩ := decT_ok (c := e) (s0 := st) (all_codeE hE.callsAll hE.all a _) (all_codeE hE.callsAll hE.all b _)
      obtain ⟨f1, f2⟩ := hfk x st' h
      cases e with
      | true =>
        obtain ⟨s, k1, k2⟩ := f1 rfl
        have ih := code_sound hP hfit hE a st.forked x s k1
        have g : Grew st.forked s := (all_codeE hE.callsAll hE.all a _).hit k1
        have ih' := CodeOk.wkn ih k2 g.wf
        intro N D rr FP E act w Q hc hw hcov hfree hS hf hd hQ
        simp only [codeOk, Bool.and_eq_true] at hc
        exact wpIn_cond_true (boolOf_rep hb (hf.val c)) (ih' N D rr FP E act w Q hc.1 hw hcov hfree hS ⟨hf.size, hf.slot⟩ hd hQ)
      | false =>
        obtain ⟨s, k1, k2⟩ := f2 rfl
        have ih := code_sound hP hfit hE b st.forked x s k1
        have g : Grew st.forked s := (all_codeE hE.callsAll hE.all b _).hit k1
        have ih' := CodeOk.wkn ih k2 g.wf
        intro N D rr FP E act w Q hc hw hcov hfree hS hf hd hQ
        simp only [codeOk, Bool.and_eq_true] at hc
        exact wpIn_cond_false (boolOf_rep hb (hf.val c)) (ih' N D rr FP E act w Q hc.2 hw hcov hfree hS ⟨hf.size, hf.slot⟩ hd hQ)
    · exact h.elim
  | .block id c, st, x, st', h => by
    obtain ⟨⟨e, s⟩, h1, h2⟩ := Tree.hit_bind h
    have ih := code_sound hP hfit hE c st e s h1
    intro N D rr FP E act w Q hc hw hcov hfree hS hf hd hQ
    refine wpIn_block ?_
    simp only [] at h2
    split at h2
    · rename_i he
      obtain rfl := eqEx_eq he
      cases h2
      refine ih N D rr FP E act w _ hc hw hcov hfree hS hf hd fun E' act' w' k1 k2 k3 => ?_
      show (if id = id then _ else _)
      rw [if_pos rfl]; exact hQ E' act' w' k1 k2 k3
    · rename_i he
      cases h2
      refine ih N D rr FP E act w _ hc hw hcov hfree hS hf hd fun E' act' w' k1 k2 k3 => ?_
      have := hQ E' act' w' k1 k2 k3
      cases x with
      | norm => exact this
      | exit id' =>
        show (if id' = id then _ else _)
        have hne : ¬ id' = id := fun e => by subst e; simp [eqEx] at he
        rw [if_neg hne]; exact this
      | goto l => exact this
      | ret => exact this
  | .loop c, st, x, st', h => by
    obtain ⟨⟨e, s⟩, h1, h2⟩ := Tree.hit_bind h
    have ih := code_sound hP hfit hE c st e s h1
    have g1 : Grew st s := (all_codeE hE.callsAll hE.all c st).hit h1
    intro N D rr FP E act w Q hc hw hcov hfree hS hf hd hQ
    have stop : e ≠ .norm → (x, st') = (e, s) → (Code.loop c).wpIn (wideR rr) 0 P Q act w := fun hne heq => by
      cases heq
      refine wpIn_loop_rounds 1 ?_
      rw [roundsIn_succ]
      refine ih N D rr FP E act w _ hc hw hcov hfree hS hf hd fun E' act' w' k1 k2 k3 => ?_
      cases x with
      | norm => exact absurd rfl hne
      | exit id => exact hQ E' act' w' k1 k2 k3
      | goto l => exact hQ E' act' w' k1 k2 k3
      | ret => exact hQ E' act' w' k1 k2 k3
    cases e with
    | norm =>
      obtain ⟨_, m, hm⟩ := hE.loop c s x st' h2
      have g2 : Grew s st' := (hE.all.code (.loop c) s).hit h2
      refine wpIn_loop_rounds (m + 1) ?_
      rw [roundsIn_succ]
      refine ih N D rr FP E act w _ hc hw (cov_l hcov g2.gs) (fun y h1 h2 => hfree y h1 (Nat.lt_of_lt_of_le h2 g2.nx)) hS hf hd fun E' act' w' k1 k2 k3 => ?_
      have k3' := k3.more g2.wr
      exact hm N D rr FP E' act' w' Q hc (g1.wf hw) (cov_r hcov g1.nx) (free_mid hfree k3 g1.nx) k3.sim k1 k2 fun E'' act'' w'' q1 q2 q3 => hQ E'' act'' w'' q1 q2 (Pst.trans hS (fun y hy => hcov y (.inr (.inl hy))) k3' q3 g1.nx g2.nx)
    | exit id => exact stop (by simp) h2.symm
    | goto l => exact stop (by simp) h2.symm
    | ret => exact stop (by simp) h2.symm
/-- A jump, likewise. -/
theorem jump_sound (hP : cx.P = P) (hfit : Fit P) (hE : EvsOk P r) (c rest : Code) (st : St) (x : Ex) (st' : St) (h : (jumpE cx r c rest st).hit (x, st')) : JumpsOk P c rest st x st' := by
  obtain ⟨⟨e, s⟩, h1, h2⟩ := Tree.hit_bind h
  exact goto_sound hE (code_sound hP hfit hE rest st e s h1) ((all_codeE hE.callsAll hE.all rest st).hit h1) h2
theorem all_jumpE (hr : CallsAll r) (hl : CodeAll r) (c rest : Code) (st : St) : (jumpE cx r c rest st).All (GrewX st) := (all_codeE hr hl rest st).bind fun x hx => all_onGoto hl c hx
/-- A loop's rounds, likewise. -/
theorem loop_sound (hP : cx.P = P) (hfit : Fit P) (hE : EvsOk P r) (c : Code) (st : St) (x : Ex) (st' : St) (h : (codeE cx r (.loop c) st).hit (x, st')) : x ≠ .norm ∧ RoundsOk P c st x st' := by
  obtain ⟨⟨e, s⟩, h1, h2⟩ := Tree.hit_bind h
  have ih := code_sound hP hfit hE c st e s h1
  have g1 : Grew st s := (all_codeE hE.callsAll hE.all c st).hit h1
  have stop : e ≠ .norm → (x, st') = (e, s) → x ≠ .norm ∧ RoundsOk P c st x st' := fun hne heq => by
    cases heq
    refine ⟨hne, 1, fun N D rr FP E act w Q hc hw hcov hfree hS hf hd hQ => ?_⟩
    rw [roundsIn_succ]
    refine ih N D rr FP E act w _ hc hw hcov hfree hS hf hd fun E' act' w' k1 k2 k3 => ?_
    cases x with
    | norm => exact absurd rfl hne
    | exit id => exact hQ E' act' w' k1 k2 k3
    | goto l => exact hQ E' act' w' k1 k2 k3
    | ret => exact hQ E' act' w' k1 k2 k3
  cases e with
  | norm =>
    obtain ⟨hne, m, hm⟩ := hE.loop c s x st' h2
    have g2 : Grew s st' := (hE.all.code (.loop c) s).hit h2
    refine ⟨hne, m + 1, fun N D rr FP E act w Q hc hw hcov hfree hS hf hd hQ => ?_⟩
    rw [roundsIn_succ]
    refine ih N D rr FP E act w _ hc hw (cov_l hcov g2.gs) (fun y h1 h2 => hfree y h1 (Nat.lt_of_lt_of_le h2 g2.nx)) hS hf hd fun E' act' w' k1 k2 k3 => ?_
    have k3' := k3.more g2.wr
    exact hm N D rr FP E' act' w' Q hc (g1.wf hw) (cov_r hcov g1.nx) (free_mid hfree k3 g1.nx) k3.sim k1 k2 fun E'' act'' w'' q1 q2 q3 => hQ E'' act'' w'' q1 q2 (Pst.trans hS (fun y hy => hcov y (.inr (.inl hy))) k3' q3 g1.nx g2.nx)
  | exit id => exact stop (by simp) h2.symm
  | goto l => exact stop (by simp) h2.symm
  | ret => exact stop (by simp) h2.symm
end
end Go.Proofs.YtdlghljhgbakjaaDoor

/-
  PART: calls: what the evaluator says of a function's body is so.
-/
namespace Go.Proofs.YtdlghljhgbakjaaDoor
open Go.RowKit

section
variable {P : Program} {st st' s : St} {a : AV}
theorem load_ptr {t : TypeId} {x off : Nat} (h : (loadA P t (.ptr x off) st).hit (a, s)) : s = st.read x ∧ ∀ (FP : Nat → Prop) (E : Env) (w : World), FP x → Sim FP E (hget st.hp) w → ∃ v, (loadVar t ⟨E.ρ x, off, none⟩).run P w = .ok v w ∧ Rep E a v := by
  unfold loadA at h
  split at h
  · rename_i n ag hs ha
    simp only [] at h
    split at h
    · rename_i ty cs hb
      split at h
      · rename_i r hc
        cases h
        refine ⟨rfl, fun FP E w hF hS => ?_⟩
        obtain ⟨_, c, hc1, hc2, hc3⟩ := blk_fix hS hF hb
        obtain ⟨hw1, hw2⟩ := hc2.whole
        obtain ⟨v, hl, hr⟩ := load_cut (P := P) hc1 hs ha hw1 hw2 ((hc3.drop _).take _) hc
        rw [Nat.zero_add] at hl
        exact ⟨v, hl, hr⟩
      · exact h.elim
    · exact h.elim
  · exact h.elim
def resRun (tmps : Array Value) : ResultVar → Sem Value
  | .tmp t => pure (tmps.getD t undef)
  | .cell a t => do loadVar t (← asAddr (tmps.getD a undef))
theorem resA_ok {N : Nat} {rv : ResultVar} (h : (resA P st rv).hit (a, s)) : (Grew st s ∧ s.sl = st.sl ∧ s.hp = st.hp ∧ s.nx = st.nx ∧ s.wr = st.wr ∧ s.wb = st.wb) ∧ ∀ (FP : Nat → Prop) (E : Env) (act : Act) (w : World), Cov FP st s → Sim FP E (hget st.hp) w → Fr N E st act →
    ∃ v, (resRun act.tmps rv).run P w = .ok v w ∧ Rep E a v := by
  unfold resA at h
  split at h
  · rename_i t
    cases h
    exact ⟨⟨.refl _, rfl, rfl, rfl, rfl, rfl⟩, fun FP E act w _ _ hf => ⟨_, rfl, hf.slot t⟩⟩
  · rename_i b t
    split at h
    · rename_i x off hl
      obtain ⟨rfl, hk⟩ := load_ptr h
      refine ⟨⟨.read _ _, rfl, rfl, rfl, rfl, rfl⟩, fun FP E act w hc hS hf => ?_⟩
      obtain ⟨v, h1, h2⟩ := hk FP E w (hc x (.inl (mem_ins.2 (.inl rfl)))) hS
      obtain ⟨_, he⟩ := rep_ptr (hl ▸ hf.slot b)
      refine ⟨v, ?_, h2⟩
      simp only [resRun, he]
      simpa [asAddr] using h1
    · exact h.elim
theorem ressA_ok {N : Nat} : ∀ {rs : List ResultVar} {st s : St} {as : List AV}, (ressA P rs st).hit (as, s) → (Grew st s ∧ s.sl = st.sl ∧ s.hp = st.hp ∧ s.nx = st.nx ∧ s.wr = st.wr ∧ s.wb = st.wb) ∧ ∀ (FP : Nat → Prop) (E : Env) (act : Act) (w : World), Cov FP st s → Sim FP E (hget st.hp) w → Fr N E st act →
    ∃ vs, (rs.mapM (resRun act.tmps)).run P w = .ok vs w ∧ Reps E as vs
  | [], st, s, as, h => by
    cases h
    exact ⟨⟨.refl _, rfl, rfl, rfl, rfl, rfl⟩, fun FP E act w _ _ _ => ⟨[], by simp, .nil⟩⟩
  | rv :: rs, st, s, as, h => by
    obtain ⟨⟨a, s1⟩, h1, h2⟩ := Tree.hit_bind h
    obtain ⟨⟨bs, s2⟩, h3, h4⟩ := Tree.hit_bind h2
    cases h4
    obtain ⟨⟨g1, e1, e2, e3, e4, e5⟩, k1⟩ := resA_ok (N := N) h1
    obtain ⟨⟨g2, f1, f2, f3, f4, f5⟩, k2⟩ := ressA_ok (N := N) h3
    refine ⟨⟨g1.trans g2, f1.trans e1, f2.trans e2, f3.trans e3, f4.trans e4, f5.trans e5⟩, fun FP E act w hc hS hf => ?_⟩
    obtain ⟨v, q1, q2⟩ := k1 FP E act w (cov_l hc g2.gs) hS hf
    obtain ⟨vs, q3, q4⟩ := k2 FP E act w (cov_r hc g1.nx) (by rw [e2]; exact hS) ⟨hf.size, fun d => by rw [e1]; exact hf.slot d⟩
    refine ⟨v :: vs, ?_, .cons q2 q4⟩
    rw [List.mapM_cons]
    simp [q1, q3]
theorem results_run {fn : Func} {tmps : Array Value} {vs : List Value} {w : World} (h : (fn.results.toList.mapM (resRun tmps)).run P w = .ok vs w) : (results fn tmps).run P w = .ok (if h : vs.toArray.size = 1 then vs.toArray[0] else .tuple vs.toArray) w := by
  have : results fn tmps = (do let vs ← fn.results.mapM (resRun tmps); pure (if h : vs.size = 1 then vs[0] else .tuple vs)) := by
    unfold results
    congr 1
  rw [this, Array.mapM_eq_mapM_toList]
  simp [h]
theorem oneA_ok {E : Env} {as : List AV} {vs : List Value} (h : Reps E as vs) : Rep E (oneA as) (if h : vs.toArray.size = 1 then vs.toArray[0] else .tuple vs.toArray) := by
  have hl := h.len
  unfold oneA
  split
  · rename_i x
    cases h with
    | cons h t => cases t; exact h
  · rename_i l hne
    have : ¬ vs.toArray.size = 1 := fun e => by
      have : as.length = 1 := by rw [hl]; simpa using e
      match as, this with
      | [x], _ => exact hne x rfl
    rw [dif_neg this]
    exact .tup h
theorem hget_upd (hp : List (Nat × Option Blk)) : ∀ (l : List Nat) (base : List (Nat × Option Blk)) (x : Nat), hget (upd hp l base) x = if x ∈ l then hget hp x else hget base x
  | [], base, x => by simp [upd]
  | y :: l, base, x => by
    simp only [upd, hget_cons, hget_upd hp l base x, List.mem_cons]
    by_cases h : y = x
    · subst h; simp
    · rw [if_neg h]
      have : ¬ x = y := fun e => h e.symm
      simp [this]
/-- What comes back of a call. -/
theorem back_ok {st0 : St} (hst0 : st0.hp = st.hp ∧ st0.nx = st.nx ∧ st0.rd = [] ∧ st0.wr = [] ∧ st0.wb = []) (g : Grew st0 s) (a : AV) :
    Grew st (s.back st a) ∧ (s.back st a).sl = st.sl ∧ (s.back st a).nx = s.nx ∧ (∀ FP, Cov FP st (s.back st a) → Cov FP st0 s) ∧
    ∀ (FP : Nat → Prop) (E E' : Env) (w w' : World), Wf st → Pst FP E E' (hget st.hp) (hget s.hp) st.nx s.nx s.wr w w' → Pst FP E E' (hget st.hp) (hget (s.back st a).hp) st.nx s.nx (s.back st a).wr w w' := by
  obtain ⟨e1, e2, e3, e4, e5⟩ := hst0
  generalize hold : (s.wr.filter fun x => Nat.blt x st.nx || Nat.ble s.nx x) = old
  generalize hnew : (reach s.hp st.nx 4 (idsA 5 a ++ old.flatMap (idsB s.hp)) []) = new
  have hb : s.back st a = { s with sl := st.sl, ws := st.ws, hp := upd s.hp old (upd s.hp new st.hp), rd := uni (s.rd.filter fun x => Nat.blt x st.nx || Nat.ble s.nx x) st.rd, wr := uni old (uni new st.wr), wb := uni old (uni new st.wb), wc := new.map (fun x => (x, none)) ++ (s.wc ++ st.wc) } := by
    unfold St.back; rw [hold]; dsimp only; rw [hnew]
  rw [hb]
  have hh : ∀ x, hget (upd s.hp old (upd s.hp new st.hp)) x = if x ∈ old ∨ x ∈ new then hget s.hp x else hget st.hp x := fun x => by
    rw [hget_upd, hget_upd]
    by_cases h1 : x ∈ old <;> by_cases h2 : x ∈ new <;> simp [h1, h2]
  have hnx : st.nx ≤ s.nx := by rw [← e2]; exact g.nx
  have mem_old : ∀ x, x ∈ s.wr → (x < st.nx ∨ s.nx ≤ x) → x ∈ old := fun x hx h => by
    rw [← hold]
    refine List.mem_filter.2 ⟨hx, ?_⟩
    rcases h with h | h
    · simp [Nat.blt_eq, h]
    · simp [Nat.ble_eq, h]
  have wfs : Wf st → Wf s := fun h => g.wf (by unfold Wf; rw [e1, e2]; exact h)
  have al : Wf st → ∀ x, hget (upd s.hp old (upd s.hp new st.hp)) x ≠ none → hget (upd s.hp old (upd s.hp new st.hp)) x = hget s.hp x := fun hwf x hx => by
    rw [hh] at hx ⊢
    by_cases h : x ∈ old ∨ x ∈ new
    · rw [if_pos h]
    · rw [if_neg h] at hx ⊢
      have hlt := hwf x hx
      have hnw : x ∉ s.wr := fun hw => h (.inl (mem_old x hw (.inl hlt)))
      rw [g.blkr x hnw, e1]
  refine ⟨⟨fun hwf x hx => ?_, hnx, fun x h => mem_uni.2 (.inr h), fun x h => mem_uni.2 (.inr (mem_uni.2 (.inr h))), fun x h => h, fun x h => mem_uni.2 (.inr (mem_uni.2 (.inr h))), fun d hd => rfl, fun x hx => ?_, fun x hx => ?_, fun x hx => ?_, fun e he => List.mem_append.2 (.inr (List.mem_append.2 (.inr he))), fun x => ?_⟩, rfl, rfl, fun FP hc x hx => ?_, fun FP E E' w w' hwf p => ?_⟩
  · have := al hwf x hx
    rw [this] at hx
    exact wfs hwf x hx
  · rw [hh, if_neg]
    rintro (h | h)
    · exact hx (mem_uni.2 (.inl h))
    · exact hx (mem_uni.2 (.inr (mem_uni.2 (.inl h))))
  · rw [hh, if_neg]
    rintro (h | h)
    · exact hx (mem_uni.2 (.inl h))
    · exact hx (mem_uni.2 (.inr (mem_uni.2 (.inl h))))
  · rcases mem_uni.1 hx with h | h
    · exact .inr (mem_uni.2 (.inl h))
    · rcases mem_uni.1 h with h | h
      · exact .inr (mem_uni.2 (.inr (mem_uni.2 (.inl h))))
      · exact .inl h
  · by_cases hn : x ∈ new
    · exact .inl fun j => cov_all (List.mem_append.2 (.inl (List.mem_map.2 ⟨x, hn, rfl⟩))) j
    · by_cases ho : x ∈ old
      · have hc := (g.cell x).wc (b := new.map (fun x => (x, none)) ++ (s.wc ++ st.wc)) fun e he => List.mem_append.2 (.inr (List.mem_append.2 (.inl he)))
        have hx : hget (upd s.hp old (upd s.hp new st.hp)) x = hget s.hp x := by rw [hh, if_pos (.inl ho)]
        unfold Kept at hc ⊢
        rw [e1] at hc
        show _ ∨ hget (upd s.hp old (upd s.hp new st.hp)) x = _ ∨ ∃ ty cs cs', _ ∧ hget (upd s.hp old (upd s.hp new st.hp)) x = _ ∧ _ ∧ _
        rw [hx]; exact hc
      · refine .inr (.inl ?_)
        show hget (upd s.hp old (upd s.hp new st.hp)) x = _
        rw [hh, if_neg (by simp [ho, hn])]
  · by_cases hr : st.nx ≤ x ∧ x < s.nx
    · exact hc x (.inr (.inr hr))
    · have hr' : x < st.nx ∨ s.nx ≤ x := by omega
      rcases hx with hx | hx | hx
      · refine hc x (.inl (mem_uni.2 (.inl (List.mem_filter.2 ⟨hx, ?_⟩))))
        rcases hr' with h | h
        · simp [Nat.blt_eq, h]
        · simp [Nat.ble_eq, h]
      · exact hc x (.inr (.inl (mem_uni.2 (.inl (mem_old x hx hr')))))
      · rw [e2] at hx; exact absurd hx hr
  · have alv : ∀ x, hget (upd s.hp old (upd s.hp new st.hp)) x ≠ none → hget s.hp x ≠ none := fun x hx => by rw [← al hwf x hx]; exact hx
    refine ⟨⟨p.le, p.dom, ⟨p.sim.fz, fun x hF hn => p.sim.dom x hF (alv x hn), fun x hF hn hv => p.sim.low x hF (alv x hn) hv, fun x B hF hB => ?_, fun x y hx hy hnx hny => p.sim.inj x y hx hy (alv x hnx) (alv y hny)⟩,
      fun b hb hx => p.frame b hb fun x hx' hlt => hx x (mem_uni.2 (.inl (mem_old x hx' (.inl hlt)))) hlt, fun x h1 h2 hF hn hv => ?_, p.size, p.os, p.tape, p.output⟩, fun x hx hF hn => p.old x hx hF (alv x hn)⟩
    · have := al hwf x (by rw [hB]; simp)
      exact p.sim.blk x B hF (by rw [← this]; exact hB)
    · rcases p.news x h1 h2 hF (alv x hn) hv with h | ⟨y, hy, hlt, h⟩
      · exact .inl h
      · exact .inr ⟨y, mem_uni.2 (.inl (mem_old y hy (.inl hlt))), hlt, h⟩
end
end Go.Proofs.YtdlghljhgbakjaaDoor

/-
  PART: calls and all: the evaluator is right.
-/
namespace Go.Proofs.YtdlghljhgbakjaaDoor
open Go.RowKit

/-- Contracts that are given are so. -/
structure CtrOk (cx : Cx) : Prop where
  all : ∀ f args st t, cx.ctr f args st = some t → t.All (GrewS st)
  ok : ∀ f args st t a st', cx.ctr f args st = some t → t.hit (a, st') → CallOk cx.P f args st a st'
section
variable {cx : Cx} {r : Evs} {P : Program}
theorem params_look (l : List AV) : ∀ (i d : Nat), look (params i l) d = if i ≤ d ∧ d < i + l.length then l.getD (d - i) .unk else .unk := by
  induction l with
  | nil => intro i d; simp [params, look]
  | cons a l ih =>
    intro i d
    simp only [params, look_cons, ih]
    by_cases h : i = d
    · subst h; simp
    · rw [if_neg h]
      by_cases h2 : i + 1 ≤ d ∧ d < i + 1 + l.length
      · rw [if_pos h2, if_pos (by simp; omega)]
        obtain ⟨k, rfl⟩ : ∃ k, d = i + 1 + k := ⟨d - (i + 1), by omega⟩
        rw [show i + 1 + k - (i + 1) = k by omega, show i + 1 + k - i = k + 1 by omega]
        simp
      · rw [if_neg h2, if_neg (by simp; omega)]
theorem params_fr {E : Env} {st : St} {args : List AV} {vals : Array Value} {N : Nat} (h : Reps E args vals.toList) (hle : args.length ≤ N) {D : List Deferred} : Fr N E { st with sl := params 0 args, ws := [], rd := [], wr := [], wb := [], wc := [] } { tmps := vals ++ Array.replicate (N - vals.size) undef, defers := D } := by
  have hlen : args.length = vals.size := by rw [h.len]; simp
  refine ⟨by simp; omega, fun d => ?_⟩
  show Rep E (look (params 0 args) d) _
  rw [params_look]
  by_cases hd : 0 ≤ d ∧ d < 0 + args.length
  · rw [if_pos hd]
    have hd' : d < args.length := by omega
    have hg : args[d]? = some args[d] := List.getElem?_eq_getElem hd'
    obtain ⟨v, h1, h2⟩ := h.get hg
    have h3 : (vals ++ Array.replicate (N - vals.size) undef).getD d undef = v := by
      rw [Array.getD_eq_getD_getElem?, Array.getElem?_append_left (by omega), ← Array.getElem?_toList, h1]; rfl
    rw [h3]
    have h4 : args.getD (d - 0) .unk = args[d] := by simp [List.getD, hg]
    rw [h4]; exact h2
  · rw [if_neg hd]; exact .unk _
theorem all_ressA {s0 : St} (P : Program) : ∀ (rs : List ResultVar) (s : St), Grew s0 s → (ressA P rs s).All fun b => Grew s0 b.2
  | [], s, h => h
  | rv :: rs, s, h => by
    refine Tree.All.bind (Q := fun b => Grew s0 b.2) ?_ fun b hb => (all_ressA P rs b.2 hb).bind fun b' hb' => hb'
    unfold resA
    split
    · exact h
    · split
      · exact (all_load _ _).imp fun b hb => h.trans hb.1
      · trivial
theorem grew_start {st s : St} {l : List (Nat × AV)} (a : AV) (g : Grew { st with sl := l, ws := [], rd := [], wr := [], wb := [], wc := [] } s) : Grew st.start { s with sl := [(0, a)], ws := [0] } :=
  ⟨g.wf, g.nx, g.rd, g.wr, fun x h => (by cases h), fun x h => (by cases h), fun d hd => by
    show look [(0, a)] d = look [] d
    rw [look_cons, if_neg]
    rintro rfl; exact hd (List.mem_cons_self ..), g.blkb, g.blkr, g.wbr, fun e h => (by cases h), g.cell⟩
theorem all_inside (hr : CallsAll r) (hl : CodeAll r) (fn : Func) (c : Code) (args : List AV) (st : St) : (insideE cx r fn c args st).All (GrewX st.start) := by
  unfold insideE
  refine (all_codeE hr hl c _).bind fun x hx => ?_
  obtain ⟨e, s⟩ := x
  have key : ((ressA cx.P fn.results.toList s).bind fun (as, s') => .ret (.ret, { s' with sl := [(0, oneA as)], ws := [0] }) : Tree (Ex × St)).All (GrewX st.start) :=
    (all_ressA cx.P _ s hx).bind fun b hb => grew_start _ hb
  cases e with
  | norm => exact key
  | ret => exact key
  | exit id => trivial
  | goto l => trivial
theorem collapse_ok {s0 : St} (h0 : s0.forked = s0) : ∀ {t : Tree (Ex × St)}, t.All (GrewX s0) → (collapse s0 t).All (GrewX s0) ∧ ∀ x m, (collapse s0 t).hit (x, m) → ∃ s, t.hit (x, s) ∧ Wkn s m
  | .ret b, h => ⟨h, fun x m hh => ⟨m, hh, .refl _⟩⟩
  | .br c t e, h => by
    obtain ⟨a1, k1⟩ := collapse_ok h0 h.1
    obtain ⟨a2, k2⟩ := collapse_ok h0 h.2
    obtain ⟨q1, q2⟩ := forkT_ok (c := c) (s0 := s0) (by rw [h0]; exact a1) (by rw [h0]; exact a2)
    refine ⟨q1, fun x m hh => ?_⟩
    obtain ⟨r1, r2⟩ := q2 x m hh
    cases c with
    | true =>
      obtain ⟨s, h1, h2⟩ := r1 rfl
      obtain ⟨s', h3, h4⟩ := k1 x s h1
      exact ⟨s', .inl ⟨rfl, h3⟩, h4.trans h2⟩
    | false =>
      obtain ⟨s, h1, h2⟩ := r2 rfl
      obtain ⟨s', h3, h4⟩ := k2 x s h1
      exact ⟨s', .inr ⟨rfl, h3⟩, h4.trans h2⟩
  | .side p t, h => by
    obtain ⟨a1, k1⟩ := collapse_ok (t := t) h0 h
    refine ⟨a1, fun x m hh => ?_⟩
    obtain ⟨s, h1, h2⟩ := k1 x m hh.2
    exact ⟨s, ⟨hh.1, h1⟩, h2⟩
  | .fail, h => ⟨trivial, fun x m hh => hh.elim⟩
theorem all_bodyE (hr : CallsAll r) (hl : CodeAll r) (fn : Func) (c : Code) (args : List AV) (st : St) : (bodyE cx r fn c args st).All (GrewS st) := by
  unfold bodyE
  split
  · trivial
  · refine (collapse_ok rfl (all_inside hr hl fn c args st)).1.bind fun x hx => ?_
    obtain ⟨k1, k2, _⟩ := back_ok (st := st) (st0 := st.start) ⟨rfl, rfl, rfl, rfl, rfl⟩ hx (look x.2.sl 0)
    exact ⟨k1, k2⟩
theorem all_callE (hc : CtrOk cx) (hr : CallsAll r) (hl : CodeAll r) : CallsAll ⟨codeE cx r, callE cx r, jumpE cx r⟩ := fun f args st => by
  show (callE cx r f args st).All (GrewS st)
  unfold callE
  split
  · rename_i t ht; exact hc.all f args st t ht
  · split
    · trivial
    · split
      · exact all_bodyE hr hl ..
      · split
        · split
          · exact gs_refl ..
          · trivial
        · trivial
theorem fit_func (hfit : Fit P) {f : Nat} {fn : Func} (hf : P.funcs[f]? = some fn) {c : Code} (hb : fn.body = some c) : codeOk fn.ntmps c = true ∧ (fn.name == "runtime.NumGoroutine") = false := by
  have h := List.all_eq_true.1 hfit.funcs fn (by
    have := Array.mem_of_getElem? hf
    simpa using this)
  unfold funcOk at h
  rw [hb] at h
  simpa using h
theorem body_sound (hP : cx.P = P) (hfit : Fit P) (hE : EvsOk P r) {f : Nat} {fn : Func} {c : Code} (hf : P.funcs[f]? = some fn) (hb : fn.body = some c) {args : List AV} {st : St} {a : AV} {st' : St} (h : (bodyE cx r fn c args st).hit (a, st')) : CallOk P f args st a st' := by
  have hall := (all_bodyE hE.callsAll hE.all fn c args st).hit h
  obtain ⟨hgrew, hsl⟩ := hall
  obtain ⟨hcode, hname⟩ := fit_func hfit hf hb
  unfold bodyE at h
  split at h
  · exact h.elim
  · rename_i hle
    have hle : args.length ≤ fn.ntmps := Nat.le_of_ble_eq_true hle
    obtain ⟨⟨x0, m⟩, hm, hm2⟩ := Tree.hit_bind h
    cases hm2
    obtain ⟨hcall, hcol⟩ := collapse_ok rfl (all_inside (cx := cx) hE.callsAll hE.all fn c args st)
    have gm : Grew st.start m := hcall.hit hm
    obtain ⟨sl, hin, hwk⟩ := hcol x0 m hm
    unfold insideE at hin
    obtain ⟨⟨e, s⟩, h1, h2⟩ := Tree.hit_bind hin
    have g1 : Grew _ s := (all_codeE hE.callsAll hE.all c _).hit h1
    have hs := code_sound hP hfit hE c _ e s h1
    have key : (toExit e = .normal ∨ toExit e = .ret) → ((ressA cx.P fn.results.toList s).bind fun (as, s') => Tree.ret (Ex.ret, { s' with sl := [(0, oneA as)], ws := [0] })).hit (x0, sl) → CallOk P f args st (look m.sl 0) (m.back st (look m.sl 0)) := fun he h2 => by
      obtain ⟨⟨as, s1⟩, h3, h4⟩ := Tree.hit_bind h2
      cases h4
      subst hP
      obtain ⟨⟨g2, f1, f2, f3, f4, f5⟩, k2⟩ := ressA_ok (N := fn.ntmps) h3
      obtain ⟨b1, b2, b3, b4, b5⟩ := back_ok (st := st) (st0 := st.start) ⟨rfl, rfl, rfl, rfl, rfl⟩ gm (look m.sl 0)
      refine ⟨hgrew, hsl, ?_⟩
      intro rr FP E w vals K hwf hcov hfree hS hargs hK
      refine .inr ⟨?_, ?_⟩
      · have hname' : ¬ fn.name = "runtime.NumGoroutine" := by simpa using hname
        simp [callFunc, hf, hname', hb]
      · have hnxs : s.nx ≤ m.nx := by rw [← f3]; exact hwk.nx
        have hwide : CallsIn Fence.wide 0 cx.P f vals w fun e w' => ∃ v, e = .returned v ∧ K v w' := by
          refine callsIn_of_wp hf hb trivial ?_
          have hc0 := b4 FP hcov
          have hc1 : Cov FP { st with sl := params 0 args, ws := [], rd := [], wr := [], wb := [], wc := [] } s1 := fun x hx => hc0 x (by
            rcases hx with hx | hx | ⟨q1, q2⟩
            · exact .inl (hwk.rd x hx)
            · exact .inr (.inl (hwk.wr x hx))
            · exact .inr (.inr ⟨q1, Nat.lt_of_lt_of_le q2 hwk.nx⟩))
          refine hs fn.ntmps [] none FP E _ w _ hcode hwf (cov_l hc1 g2.gs) (fun x q1 q2 => hfree x q1 (by rw [b3]; exact Nat.lt_of_lt_of_le q2 hnxs)) hS (params_fr hargs hle) rfl fun E' act' w' q1 q2 q3 => ?_
          obtain ⟨vs, r1, r2⟩ := k2 FP E' act' w' (cov_r hc1 g1.nx) q3.sim q1
          have hpost : act'.defers = [] ∧ ∃ v, (results fn act'.tmps).run cx.P w' = .ok v w' ∧ ∃ v', Ending.returned v = .returned v' ∧ K v' w' := by
            refine ⟨q2, _, results_run r1, _, rfl, hK E' _ w' (hwk.slot E' 0 _ (oneA_ok r2)) ?_⟩
            rw [b3]
            refine b5 FP E E' w w' hwf ?_
            refine Pst.wkn (s := { s1 with sl := [(0, oneA as)], ws := [0] }) ?_ hwk (fun x hx => (g1.trans g2).wf hwf x hx)
            show Pst FP E E' (hget st.hp) (hget s1.hp) st.nx s1.nx s1.wr w w'
            rw [f2, f3, f4]
            exact q3
          rcases he with he | he
          · rw [he]; exact hpost
          · rw [he]; exact hpost
        cases rr with
        | none => exact hwide
        | some l => exact hwide.inRound l
    cases e with
    | norm => exact key (.inl rfl) h2
    | ret => exact key (.inr rfl) h2
    | exit id => exact h2.elim
    | goto l => exact h2.elim
theorem call_sound (hc : CtrOk cx) (hP : cx.P = P) (hfit : Fit P) (hE : EvsOk P r) : CallsOk P ⟨codeE cx r, callE cx r, jumpE cx r⟩ := fun f args st a st' h => by
  subst hP
  have h' : (callE cx r f args st).hit (a, st') := h
  unfold callE at h'
  split at h'
  · rename_i t ht; exact hc.ok f args st t a st' ht h'
  · split at h'
    · exact h'.elim
    · rename_i fn hfn
      split at h'
      · rename_i c hb; exact body_sound rfl hfit hE hfn hb h'
      · split at h'
        · rename_i vs l hs
          split at h'
          · rename_i v hv
            cases h'
            refine ⟨.refl _, rfl, fun rr FP E w vals K hwf hcov hfree hS hargs hK => .inl ⟨v, ?_, hK E v w (litOr_rep l v) (.refl hS)⟩⟩
            have hvals : vals = vs.toArray := by rw [← scals_rep hs hargs]
            rw [hvals]
            exact semVal_run hv w
          · exact h'.elim
        · exact h'.elim
/-- The evaluator is right. -/
theorem evs_ok (hc : CtrOk cx) (hfit : Fit cx.P) : ∀ n, EvsOk cx.P (evs cx n)
  | 0 => ⟨fun _ _ _ _ h => h.elim, fun _ _ _ _ _ h => h.elim, ⟨fun _ _ => trivial, fun _ _ _ => trivial⟩, fun _ _ _ _ _ h => h.elim, fun _ _ _ => trivial⟩
  | n + 1 => by
    have ih := evs_ok hc hfit n
    exact ⟨fun c st x st' h => loop_sound rfl hfit ih c st x st' h, fun c rest st x st' h => jump_sound rfl hfit ih c rest st x st' h, ⟨fun c st => all_codeE ih.callsAll ih.all c st, fun c rest st => all_jumpE ih.callsAll ih.all c rest st⟩, call_sound hc rfl hfit ih, all_callE hc ih.callsAll ih.all⟩
end
end Go.Proofs.YtdlghljhgbakjaaDoor
