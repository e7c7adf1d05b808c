/-
  PARTS, one behind the other: NCE.
-/
import Derived.Test.YtamjnhpkmhbkcaaGreatDoorWm5
/-
  PART: closed values, written out as data; tables of closed calls.
-/
namespace Go.Proofs.YtamjnhpkmhbkcaaGreatDoor
open Go.RowKit

/-- A closed value whose cells stay as they are, written out (nil, cons: rows of them). -/
inductive RV : Type where
  | lit (v : Value)
  | agg (l : RV)
  | tup (l : RV)
  | fz (l : RV) (off : Nat)
  | sl (n k : Nat) (l : RV) (full : Bool)
  | fn (f : Fn) (a b : RV)
  | nil
  | cons (a b : RV)
def RV.den : RV → AV × List AV
  | .lit v => (.lit v, [])
  | .agg l => (.agg l.den.2, [])
  | .tup l => (.tup l.den.2, [])
  | .fz l off => (.fz l.den.2 off, [])
  | .sl n k l full => (.sl n k (rowGet k l.den.2) true full, [])
  | .fn f a b => (.fn f a.den.2 b.den.2, [])
  | .nil => (.unk, [])
  | .cons a b => (.unk, a.den.1 :: b.den.2)
def rl : List RV → RV
  | [] => .nil
  | a :: l => .cons a (rl l)
def RV.a (r : RV) : AV := r.den.1
def RV.l (r : RV) : List AV := r.den.2
def reiL (f : AV → Option RV) : List AV → Option RV
  | [] => some .nil
  | a :: l => match f a, reiL f l with
    | some x, some y => some (.cons x y)
    | _, _ => none
def rowsOf (k : Nat) (get : Nat → List AV) (n : Nat) : List AV := (List.range n).flatMap fun i => fit k (get i)
/-- Told as data; keep: it is told which slices have no room behind them. -/
def reify (keep : Bool) : Nat → AV → Option RV
  | 0, _ => none
  | d + 1, a => match a with
    | .lit v => some (.lit v)
    | .v v => some (.lit v)
    | .agg l => match reiL (reify keep d) l with
      | some r => some (.agg r)
      | none => none
    | .tup l => match reiL (reify keep d) l with
      | some r => some (.tup r)
      | none => none
    | .fz l off => match reiL (reify keep d) l with
      | some r => some (.fz r off)
      | none => none
    | .sl n k get true full => match reiL (reify keep d) (rowsOf k get n) with
      | some r => some (.sl n k r (keep && full))
      | none => none
    | .fn f a b => match reiL (reify keep d) a, reiL (reify keep d) b with
      | some r, some s => some (.fn f r s)
      | _, _ => none
    | _ => none
theorem reiL_ok {E : Env} {f : AV → Option RV} (hf : ∀ a r, f a = some r → ∀ v, Rep E a v → Rep E r.a v) : ∀ (l : List AV) (r : RV), reiL f l = some r → ∀ vs, Reps E l vs → Reps E r.l vs
  | [], r, h, vs, hv => by
    cases h
    cases hv
    exact .nil
  | a :: l, r, h, vs, hv => by
    unfold reiL at h
    split at h
    · rename_i x y hx hy
      cases h
      cases hv with
      | cons h1 h2 => exact .cons (hf a x hx _ h1) (reiL_ok hf l y hy _ h2)
    · cases h
theorem fit_eq {k : Nat} : ∀ {l : List AV}, l.length = k → fit k l = l := by
  induction k with
  | zero => intro l h; cases l with
    | nil => rfl
    | cons a l => simp at h
  | succ k ih => intro l h; cases l with
    | nil => simp at h
    | cons a l => simp at h; simp [fit, ih h]
theorem rowsOf_ok {E : Env} {k off : Nat} {get : Nat → List AV} {c : List Value} : ∀ (n : Nat), off + n * k ≤ c.length → (∀ i, i < n → Reps E (get i) ((c.drop (off + i * k)).take k)) → Reps E (rowsOf k get n) ((c.drop off).take (n * k))
  | 0, _, _ => by simp [rowsOf]; exact .nil
  | n + 1, hs, h => by
    have e1 : (n + 1) * k = n * k + k := Nat.succ_mul n k
    have ih := rowsOf_ok (E := E) (k := k) (off := off) (get := get) (c := c) n (by omega) fun i hi => h i (by omega)
    have e2 : rowsOf k get (n + 1) = rowsOf k get n ++ fit k (get n) := by simp [rowsOf, List.range_succ, List.flatMap_append]
    have hn := h n (by omega)
    have hl : (get n).length = k := by
      rw [hn.len, List.length_take, List.length_drop]; omega
    rw [e2, fit_eq hl, e1, List.take_add, List.drop_drop]
    exact ih.app hn
theorem reify_ok {E : Env} {keep : Bool} : ∀ (d : Nat) (a : AV) (r : RV), reify keep d a = some r → ∀ v, Rep E a v → Rep E r.a v
  | 0, a, r, h, _, _ => by cases h
  | d + 1, a, r, h, v, hv => by
    have ih := reiL_ok (E := E) (reify_ok (E := E) (keep := keep) d)
    unfold reify at h
    split at h
    · cases h; exact hv
    · cases h
      cases hv with
      | v _ h1 => exact .lit _ h1
    · split at h
      · rename_i l _ r' hr
        cases h
        cases hv with
        | agg h1 h2 => exact .agg (ih _ _ hr _ h1) h2
      · cases h
    · split at h
      · rename_i l _ r' hr
        cases h
        cases hv with
        | tup h1 => exact .tup (ih _ _ hr _ h1)
      · cases h
    · split at h
      · rename_i l off _ r' hr
        cases h
        cases hv with
        | fz h1 h2 h3 h4 =>
          have e : r'.l.length = l.length := by
            have q := ih _ _ hr _ h3
            rw [q.len, ← h3.len]
          exact .fz (cs := r'.l) h1 (by rw [e]; exact h2) (by rw [e]; exact ih _ _ hr _ h3) (by rw [e]; exact h4)
      · cases h
    · split at h
      · rename_i n k get full _ r' hr
        cases h
        cases hv with
        | slNil hn => exact .slNil hn
        | slEmp hn hf => exact .slEmp hn fun hh => hf (by simp at hh; exact hh.2)
        | @sl _ _ b off cap _ _ _ c h1 hs hf hc h2 ho =>
          refine .sl h1 hs (fun hh => hf (by simp at hh; exact hh.2)) hc (fun i hi => ?_) ho
          have hq := ih _ _ hr _ (rowsOf_ok (c := c.toList) n (by simpa using hs) h2)
          have h3 := (hq.drop (i * k)).take k
          rw [List.drop_take, List.take_take, List.drop_drop] at h3
          have hk : i * k + k ≤ n * k := by
            have := Nat.mul_le_mul_right k (show i + 1 ≤ n from hi)
            rwa [Nat.succ_mul] at this
          rwa [Nat.min_eq_left (by omega)] at h3
      · cases h
    · split at h
      · rename_i f l m _ r' s' hr hs
        cases h
        cases hv with
        | fn h1 h2 => exact .fn (ih _ _ hr _ h1) (ih _ _ hs _ h2)
      · cases h
    · cases h
def RV.beq : RV → RV → Bool
  | .lit v, .lit u => eqV v u
  | .agg a, .agg b => a.beq b
  | .tup a, .tup b => a.beq b
  | .fz a i, .fz b j => Nat.beq i j && a.beq b
  | .sl n k a f, .sl m j b g => Nat.beq n m && (Nat.beq k j && (f == g && a.beq b))
  | .fn f a b, .fn g c d => decide (f = g) && (a.beq c && b.beq d)
  | .nil, .nil => true
  | .cons a b, .cons c d => a.beq c && b.beq d
  | _, _ => false
theorem RV.beq_eq : ∀ {r s : RV}, r.beq s = true → r = s
  | .lit v, .lit u, h => by rw [eqV_eq h]
  | .agg a, .agg b, h => by rw [RV.beq_eq (r := a) h]
  | .tup a, .tup b, h => by rw [RV.beq_eq (r := a) h]
  | .fz a i, .fz b j, h => by
    simp only [RV.beq, Bool.and_eq_true] at h
    rw [Nat.eq_of_beq_eq_true h.1, RV.beq_eq (r := a) h.2]
  | .sl n k a f, .sl m j b g, h => by
    simp only [RV.beq, Bool.and_eq_true] at h
    rw [Nat.eq_of_beq_eq_true h.1, Nat.eq_of_beq_eq_true h.2.1, eq_of_beq h.2.2.1, RV.beq_eq (r := a) h.2.2.2]
  | .fn f a b, .fn g c d, h => by
    simp only [RV.beq, Bool.and_eq_true, decide_eq_true_eq] at h
    rw [h.1, RV.beq_eq (r := a) h.2.1, RV.beq_eq (r := b) h.2.2]
  | .nil, .nil, _ => rfl
  | .cons a b, .cons c d, h => by
    simp only [RV.beq, Bool.and_eq_true] at h
    rw [RV.beq_eq (r := a) h.1, RV.beq_eq (r := b) h.2]
/-- A closed call: its arguments, its answer. -/
structure Ent where
  f : Nat
  args : RV
  ans : RV
def hasF : List Ent → Nat → Bool
  | [], _ => false
  | e :: T, f => Nat.beq e.f f || hasF T f
def findE : List Ent → Nat → RV → Option AV
  | [], _, _ => none
  | e :: T, f, r => match Nat.beq e.f f && e.args.beq r with
    | true => some e.ans.a
    | false => findE T f r
def tabR (T : List Ent) (f : Nat) (args : List AV) : Option (Tree AV) := match hasF T f with
  | false => none
  | true => match reiL (reify false 60) args with
    | none => none
    | some r => match findE T f r with
      | some a => some (.ret a)
      | none => none
def EntsOk (P : Program) (T : List Ent) : Prop := ∀ e, e ∈ T → FrzOk P e.f e.args.l e.ans.a
def EntsPure (P : Program) (T : List Ent) : Prop := ∀ e, e ∈ T → PureOk P e.f e.args.l e.ans.a
theorem EntsOk.nil {P : Program} : EntsOk P [] := fun _ h => nomatch h
theorem EntsPure.nil {P : Program} : EntsPure P [] := fun _ h => nomatch h
theorem EntsOk.cons {P : Program} {f : Nat} {a r : RV} {T : List Ent} (h : FrzOk P f a.l r.a) (k : EntsOk P T) : EntsOk P (⟨f, a, r⟩ :: T) := fun e he => by
  rcases List.mem_cons.1 he with rfl | he
  · exact h
  · exact k e he
theorem EntsPure.cons {P : Program} {f : Nat} {a r : RV} {T : List Ent} (h : PureOk P f a.l r.a) (k : EntsPure P T) : EntsPure P (⟨f, a, r⟩ :: T) := fun e he => by
  rcases List.mem_cons.1 he with rfl | he
  · exact h
  · exact k e he
theorem EntsOk.app {P : Program} {T U : List Ent} (h : EntsOk P T) (k : EntsOk P U) : EntsOk P (T ++ U) := fun e he => (List.mem_append.1 he).elim (h e) (k e)
theorem EntsPure.app {P : Program} {T U : List Ent} (h : EntsPure P T) (k : EntsPure P U) : EntsPure P (T ++ U) := fun e he => (List.mem_append.1 he).elim (h e) (k e)
theorem findE_ok : ∀ {T : List Ent} {f : Nat} {r : RV} {a : AV}, findE T f r = some a → ∃ e, e ∈ T ∧ e.f = f ∧ e.args = r ∧ e.ans.a = a
  | [], _, _, _, h => by cases h
  | e :: T, f, r, a, h => by
    unfold findE at h
    split at h
    · rename_i hb
      simp only [Bool.and_eq_true] at hb
      cases h
      exact ⟨e, List.mem_cons_self .., Nat.eq_of_beq_eq_true hb.1, RV.beq_eq hb.2, rfl⟩
    · obtain ⟨e', h1, h2⟩ := findE_ok h
      exact ⟨e', List.mem_cons_of_mem _ h1, h2⟩
theorem tabR_some {T : List Ent} {f : Nat} {args : List AV} {t : Tree AV} {a : AV} (ht : tabR T f args = some t) (hh : t.hit a) : ∃ e r, e ∈ T ∧ e.f = f ∧ e.args = r ∧ e.ans.a = a ∧ reiL (reify false 60) args = some r := by
  unfold tabR at ht
  split at ht
  · cases ht
  · split at ht
    · cases ht
    · rename_i r hr
      split at ht
      · rename_i b hb
        cases ht
        cases hh
        obtain ⟨e, h1, h2, h3, h4⟩ := findE_ok hb
        exact ⟨e, r, h1, h2, h3, h4, hr⟩
      · cases ht
theorem tabR_ok {P : Program} {T : List Ent} (h : EntsOk P T) : TabFOk P (tabR T) := fun f args t a ht hh => by
  obtain ⟨e, r, h1, h2, h3, h4, hr⟩ := tabR_some ht hh
  subst h2; subst h4; subst h3
  exact (h e h1).pre fun E vs hv => reiL_ok (reify_ok 60) _ _ hr _ hv
theorem PureOk.preR {P : Program} {f : Nat} {args args' : List AV} {a : AV} (h : PureOk P f args' a) (ha : ∀ E vs, Reps E args vs → Reps E args' vs) : PureOk P f args a :=
  fun rr E w vals K hd hf hargs hK => h rr E w vals K hd hf (ha E _ hargs) hK
theorem tabR_pure {P : Program} {T : List Ent} (h : EntsPure P T) : TabOk P (tabR T) := fun f args t a ht hh => by
  obtain ⟨e, r, h1, h2, h3, h4, hr⟩ := tabR_some ht hh
  subst h2; subst h4; subst h3
  exact (h e h1).preR fun E vs hv => reiL_ok (reify_ok 60) _ _ hr _ hv
/-- One table, then another one. -/
def tabOr (s t : Nat → List AV → Option (Tree AV)) (f : Nat) (args : List AV) : Option (Tree AV) := match s f args with
  | some u => some u
  | none => t f args
theorem tabOr_f {P : Program} {s t : Nat → List AV → Option (Tree AV)} (h : TabFOk P s) (k : TabFOk P t) : TabFOk P (tabOr s t) := fun f args u a hu hh => by
  unfold tabOr at hu
  split at hu
  · rename_i v hv; cases hu; exact h f args _ a hv hh
  · exact k f args u a hu hh
theorem tabOr_p {P : Program} {s t : Nat → List AV → Option (Tree AV)} (h : TabOk P s) (k : TabOk P t) : TabOk P (tabOr s t) := fun f args u a hu hh => by
  unfold tabOr at hu
  split at hu
  · rename_i v hv; cases hu; exact h f args _ a hv hh
  · exact k f args u a hu hh
/-- As ctrOf2, but that values are looked at 60 deep. -/
def ctrP (tab : Nat → List AV → Option (Tree AV)) (f : Nat) (args : List AV) (st : St) : Option (Tree (AV × St)) :=
  match tab f (args.map (frz st.hp 60)) with
  | some t => some (t.bind fun a => .ret (a, st.reads (args.flatMap (frzIds st.hp 60))))
  | none => none
def ctrR (tabP tabF : Nat → List AV → Option (Tree AV)) (f : Nat) (args : List AV) (st : St) : Option (Tree (AV × St)) :=
  match ctrP tabP f args st with
  | some t => some t
  | none => match tabF f (args.map (strip 60)) with
    | some t => some (t.bind fun a => .ret (a, st))
    | none => none
section
variable {P : Program}
theorem ctrP_ok {tab : Nat → List AV → Option (Tree AV)} (h : TabOk P tab) : CtrOk ⟨P, ctrP tab, fun _ _ => none⟩ := by
  have gr : ∀ (st : St) (l : List Nat), Grew st (st.reads l) := fun st l => ⟨id, Nat.le_refl _, fun _ h => mem_uni.2 (.inr h), fun _ h => h, fun _ h => h, fun _ h => h, fun _ _ => rfl, fun _ _ => rfl, fun _ _ => rfl, fun _ h => .inl h, fun _ h => h, fun _ => .inr (.inl rfl)⟩
  refine ⟨fun f args st t ht => ?_, fun f args st t a st' ht hh => ?_⟩
  · have ht' : ctrP tab f args st = some t := ht
    unfold ctrP at ht'
    split at ht'
    · rename_i u hu
      cases ht'
      have : ∀ u : Tree AV, u.All fun _ => True := fun u => by induction u <;> simp_all [Tree.All]
      exact (this u).bind fun a _ => ⟨gr _ _, rfl⟩
    · cases ht'
  · have ht' : ctrP tab f args st = some t := ht
    unfold ctrP at ht'
    split at ht'
    · rename_i u hu
      cases ht'
      obtain ⟨a', h1, h2⟩ := Tree.hit_bind hh
      cases h2
      have hp := h f _ u _ hu h1
      refine ⟨gr _ _, rfl, fun rr FP E w vals K hwf hcov hfree hS hargs hK => ?_⟩
      let E1 : Env := { E with dom := fun _ => False, fz := fun b => match blkW w b with | some (.cells c _ _) => some c | _ => none, gok := fun g => (E.gok g).mono fun c hg => by obtain ⟨ty, fr, hq⟩ := hS.fz g c hg; rw [hq] }
      refine hp rr E1 w vals K (fun _ h => h) (fun b c hb => ?_) ?_ fun v w' hv hq => hK E v w' (hv E) ?_
      · show ∃ ty fr, blkW w b = some (.cells c ty fr)
        have hb' : (match blkW w b with | some (.cells c _ _) => some c | _ => none) = some c := hb
        split at hb'
        · rename_i c' ty fr he; cases hb'; exact ⟨ty, fr, he⟩
        · cases hb'
      · refine hargs.mapR fun b hb v hv => frz_ok (E' := E1) hS (fun b c ty fr he => ?_) 60 b v (fun x hx => hcov x (.inl (mem_uni.2 (.inl (List.mem_flatMap.2 ⟨b, hb, hx⟩))))) hv
        show (match blkW w b with | some (.cells c _ _) => some c | _ => none) = some c
        rw [he]
      · refine ⟨⟨.refl E, fun _ hx => .inl hx, hq.sim hS, fun b hb _ => ⟨hq.old b hb, rfl⟩, fun _ h1 h2 => absurd h2 (by show ¬ _ < st.nx; omega), hq.size, hq.os, hq.tape, hq.output⟩, fun _ _ _ hn => hn⟩
    · cases ht'
theorem ctrR_ok {P : Program} {tabP tabF : Nat → List AV → Option (Tree AV)} (h : TabOk P tabP) (h2 : TabFOk P tabF) (dec : Nat → St → Option Bool) : CtrOk ⟨P, ctrR tabP tabF, dec⟩ := by
  have h1 := ctrP_ok h
  have all : ∀ u : Tree AV, u.All fun _ => True := fun u => by induction u <;> simp_all [Tree.All]
  refine ⟨fun f args st t ht => ?_, fun f args st t a st' ht hh => ?_⟩
  · have ht' : ctrR tabP tabF f args st = some t := ht
    unfold ctrR at ht'
    split at ht'
    · rename_i u hu
      exact h1.all f args st t (by cases ht'; exact hu)
    · split at ht'
      · cases ht'
        exact (all _).bind fun a _ => ⟨Grew.refl st, rfl⟩
      · cases ht'
  · have ht' : ctrR tabP tabF f args st = some t := ht
    unfold ctrR at ht'
    split at ht'
    · rename_i u hu
      exact h1.ok f args st t a st' (by cases ht'; exact hu) hh
    · split at ht'
      · rename_i u hu
        cases ht'
        obtain ⟨a', q1, q2⟩ := Tree.hit_bind hh
        cases q2
        have hp := h2 f _ u _ hu q1
        refine ⟨Grew.refl st, rfl, fun rr FP E w vals K hwf hcov hfree hS hargs hK => ?_⟩
        let E1 : Env := { E with dom := fun _ => False }
        have hE1 : ∀ b c, E.fz b = some c → E1.fz b = some c := fun _ _ h => h
        refine hp rr E1 w vals K (fun _ h => h) (fun b c hb => hS.fz b c hb) (hargs.mapR fun b _ v hv => strip_ok (E' := E1) hE1 60 b v hv) fun v w' E' k1 k2 k3 k4 k5 k6 => ?_
        let E2 : Env := { E with fz := E'.fz, gok := E'.gok }
        have l2 : E.le E2 := ⟨fun _ h => h, fun _ _ => rfl, fun _ _ => rfl, fun _ _ => rfl, fun _ _ => rfl, fun b c hb => k2 b c hb⟩
        have l3 : E'.le E2 := ⟨fun x h => absurd h (k1 x), fun x h => absurd h (k1 x), fun x h => absurd h (k1 x), fun x h => absurd h (k1 x), fun x h => absurd h (k1 x), fun _ _ h => h⟩
        have s2 := k6.sim hS
        refine hK E2 v w' (k5.mono l3) ⟨⟨l2, fun _ hx => .inl hx, ⟨k4, hS.dom, fun x hx hn hv => ?_, fun x B hx hB => (s2.blk x B hx hB).mono l2 (hS.dom x hx (by rw [hB]; simp)), hS.inj⟩, fun b hb _ => ⟨k6.old b hb, k3 b hb⟩, fun _ h1 h2 => absurd h2 (by show ¬ _ < st.nx; omega), k6.size, k6.os, k6.tape, k6.output⟩, fun _ _ _ hn => hn⟩
        have := hS.low x hx hn hv
        refine ⟨Nat.lt_of_lt_of_le this.1 k6.size, ?_⟩
        show E'.fz (E.ρ x) = none
        rw [k3 _ this.1]; exact this.2
      · cases ht'
end
/-- A closed call, as data. -/
def reiT : Tree AV → Option RV
  | .ret a => reify true 60 a
  | _ => none
def Tree.frz60 (t : Tree (AV × St)) : Tree AV := t.map fun b => frzD b.2.hp 60 b.1
theorem reiT_some {t : Tree AV} {r : RV} (h : reiT t = some r) : ∃ a, t = .ret a ∧ reify true 60 a = some r := by
  cases t with
  | ret a => exact ⟨a, rfl, h⟩
  | br c t e => cases h
  | side p t => cases h
  | fail => cases h
theorem rv_ev {cx : Cx} (hc : CtrOk cx) (hfit : Fit cx.P) {n f : Nat} {args : List AV} {r : RV} (h : reiT ((evs cx n).call f args .nil).frz60 = some r) : FrzOk cx.P f args r.a := by
  obtain ⟨a', h1, h2⟩ := reiT_some h
  have hh : (((evs cx n).call f args .nil).frz60).hit a' := by rw [h1]; rfl
  obtain ⟨⟨b, s⟩, h3, h4⟩ := Tree.map_hit hh
  subst h4
  exact (frz_of (evs_ok hc hfit n).calls h3 60).imp fun E v hv => reify_ok 60 _ _ h2 v hv
end Go.Proofs.YtamjnhpkmhbkcaaGreatDoor
