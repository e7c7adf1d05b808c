/-
  PARTS, one behind the other: NC7 NC8 NC9 NCA NCB.
-/
import Derived.Test.YtdlghljhgbakjaaDoorWl6
/-
  PART: functions that are ranged over: stages of their walk.
-/
namespace Go.Proofs.YtdlghljhgbakjaaDoor
open Go.RowKit
section
variable {P : Program} {N : Nat} {G : Ghost} {c a b : Code} {s m : St} {κ : Option Nat} {R R1 : Ex → St → Option Nat → Prop}
theorem wpi_post (h : WpI P N G c s κ R1) (hR : ∀ x s' κ', R1 x s' κ' → ∃ m, (∀ B : Start, B.nx0 = 0 → HoldLe B s' m) ∧ R x m κ') : WpI P N G c s κ R := fun act w Q hs hQ => h act w Q hs fun x s' κ' act' w' k1 ⟨B, h1, h2, h3, h4, h5, h6⟩ =>
  let ⟨m, q1, q2⟩ := hR x s' κ' k1; hQ x m κ' act' w' q2 ⟨B, h1, h2, h3, h4, q1 B h2 act' w' h5, h6⟩
theorem wpis_post {ops : Array Oper} {js : List Nat} {R R1 : St → Option Nat → Prop} (h : WpIs P N G ops js s κ R1) (hR : ∀ s' κ', R1 s' κ' → ∃ m, (∀ B : Start, B.nx0 = 0 → HoldLe B s' m) ∧ R m κ') : WpIs P N G ops js s κ R := fun act w Q hs hQ => h act w Q hs fun s' κ' act' w' k1 ⟨B, h1, h2, h3, h4, h5, h6⟩ =>
  let ⟨m, q1, q2⟩ := hR s' κ' k1; hQ m κ' act' w' q2 ⟨B, h1, h2, h3, h4, q1 B h2 act' w' h5, h6⟩
/-- An end, short. -/
def lfI (ds : List (Nat × Bool)) (gb : Bool) (b : Ex × St) : Ex × Option St := (b.1, canon 0 ds gb b.2)
theorem wpi_evs {cx : Cx} {n : Nat} (hc : CtrOk cx) (hfit : Fit cx.P) : ∀ (l : List Code) (s : St), l ≠ [] → (l.all fun a => codeOk N a) = true →
    (codeE cx (evs cx n) (joins l) s).wp (fun b => match b.1 with | .norm => WpI cx.P N G c b.2 κ R | x => R x b.2 κ) → WpI cx.P N G (seqs l c) s κ R
  | [], _, h, _, _ => absurd rfl h
  | [a], s, _, hok, h => by
    simp only [List.all_cons, List.all_nil, Bool.and_true] at hok
    refine wpi_seq (wpi_of (R1 := fun x s' => match x with | .norm => WpI cx.P N G c s' κ R | x => R x s' κ) fun B hN _ => wpc_ev hc hfit (by rw [hN]; exact hok) h) (fun s1 κ1 h1 => by obtain ⟨rfl, h1⟩ := h1; exact h1) fun x s1 κ1 hx h1 => ?_
    obtain ⟨rfl, h1⟩ := h1
    cases x <;> first | exact absurd rfl hx | exact h1
  | a :: b :: l, s, _, hok, h => by
    simp only [List.all_cons, Bool.and_eq_true] at hok
    have h' := Tree.wp_bind (show ((codeE cx (evs cx n) a s).bind fun (e, s) => match e with | .norm => codeE cx (evs cx n) (joins (b :: l)) s | e => .ret (e, s)).wp _ from h)
    refine wpi_seq (R1 := fun x s' κ' => κ' = κ ∧ match x with | .norm => WpI cx.P N G (seqs (b :: l) c) s' κ R | x => R x s' κ) (wpi_of fun B hN _ => wpc_ev hc hfit (by rw [hN]; exact hok.1) (Tree.wp_imp (fun q hq => ?_) h')) (fun s1 κ1 h1 => by obtain ⟨rfl, h1⟩ := h1; exact h1) fun x s1 κ1 hx h1 => ?_
    · obtain ⟨x, s'⟩ := q
      cases x with
      | norm => exact wpi_evs hc hfit (b :: l) s' (by simp) (by simp [hok.2]) hq
      | exit id => exact hq
      | goto l => exact hq
      | ret => exact hq
    · obtain ⟨rfl, h1⟩ := h1
      cases x <;> first | exact absurd rfl hx | exact h1
/-- Some pieces by the evaluator, ahead of more. -/
theorem wpi_stages {cx : Cx} {n : Nat} (hc : CtrOk cx) (hfit : Fit cx.P) {l : List Code} {ds : List (Nat × Bool)} {gb : Bool} (hl : l ≠ []) (hok : (l.all fun a => codeOk N a) = true)
    (h : ((codeE cx (evs cx n) (joins l) s).map (lfI ds gb)).wp fun q => ∃ m, q.2 = some m ∧ match q.1 with | .norm => WpI cx.P N G c m κ R | x => R x m κ) : WpI cx.P N G (seqs l c) s κ R := by
  refine wpi_post (R1 := fun x s' κ' => ∃ m, (∀ B : Start, B.nx0 = 0 → HoldLe B s' m) ∧ R x m κ') (wpi_evs hc hfit l s hl hok (Tree.wp_imp (fun q hq => ?_) (Tree.wp_map h))) fun x s' κ' h => h
  obtain ⟨x, s'⟩ := q
  obtain ⟨m, h1, h2⟩ := hq
  have hle : ∀ B : Start, B.nx0 = 0 → HoldLe B s' m := fun B hB => canon_ok (by rw [hB]; exact h1)
  cases x with
  | norm => exact wpi_pre hle (wpi_imp h2 fun x s1 κ1 h1 => ⟨s1, fun _ _ _ _ h => h, h1⟩)
  | exit id => exact ⟨m, hle, h2⟩
  | goto l => exact ⟨m, hle, h2⟩
  | ret => exact ⟨m, hle, h2⟩
/-- The last pieces. -/
theorem wpi_stage {cx : Cx} {n : Nat} (hc : CtrOk cx) (hfit : Fit cx.P) {ds : List (Nat × Bool)} {gb : Bool} (hok : codeOk N c = true)
    (h : ((codeE cx (evs cx n) c s).map (lfI ds gb)).wp fun q => ∃ m, q.2 = some m ∧ R q.1 m κ) : WpI cx.P N G c s κ R := by
  refine wpi_post (wpi_of (R1 := fun x s' => ∃ m, (∀ B : Start, B.nx0 = 0 → HoldLe B s' m) ∧ R x m κ) fun B hN _ => wpc_ev hc hfit (by rw [hN]; exact hok) (Tree.wp_imp (fun q hq => ?_) (Tree.wp_map h))) fun x s' κ' h => by
    obtain ⟨rfl, m, h1, h2⟩ := h; exact ⟨m, h1, h2⟩
  obtain ⟨m, h1, h2⟩ := hq
  exact ⟨m, fun B hB => canon_ok (by rw [hB]; exact h1), h2⟩
/-- Some operations by the evaluator. -/
theorem wpis_stage {cx : Cx} {n : Nat} (hc : CtrOk cx) (hfit : Fit cx.P) {ops : Array Oper} {l : List Oper} {i : Nat} {ds : List (Nat × Bool)} {gb : Bool} (hl : ops.toList.drop i = l ++ ops.toList.drop (i + l.length)) (hdst : (l.all fun o => match o.dst with | some d => Nat.blt d N | none => true) = true) {R : St → Option Nat → Prop}
    (h : ((opsE cx (evs cx n) ops false l i [] s).map (lfI ds gb)).wp fun q => ∃ m, q.2 = some m ∧ R m κ) : WpIs cx.P N G ops (List.range' i l.length) s κ R := by
  refine wpis_post (R1 := fun s' κ' => ∃ m, (∀ B : Start, B.nx0 = 0 → HoldLe B s' m) ∧ R m κ') (wpis_ev hc hfit (fun j o hj => ?_) (fun o ho d hd => ?_) (Tree.wp_imp (fun q hq => ?_) (Tree.wp_map h))) fun s' κ' h => h
  · have h1 : (ops.toList.drop i)[j]? = some o := by
      rw [hl, List.getElem?_append_left (List.getElem?_eq_some_iff.1 hj).1]; exact hj
    rw [List.getElem?_drop] at h1
    simpa using h1
  · have := List.all_eq_true.1 hdst o ho
    rw [hd] at this
    simpa [Nat.blt_eq] using this
  · obtain ⟨m, h1, h2⟩ := hq
    exact ⟨m, fun B hB => canon_ok (by rw [hB]; exact h1), h2⟩
def opsOf : Code → Array Oper
  | .region _ ops _ => ops
  | _ => #[]
/-- An operation that calls the function in a slot. -/
def tmpIs (x : Operand) (t : Nat) : Bool := match x with
  | .tmp u => Nat.beq u t
  | _ => false
def tmpsAre : List Operand → List Nat → Bool
  | [], [] => true
  | x :: l, t :: m => tmpIs x t && tmpsAre l m
  | _, _ => false
def isYield (ops : Array Oper) (i d f : Nat) (as : List Nat) (g : Option (Nat × Bool)) : Bool := match ops[i]? with
  | some o => match o.op with
    | .call c => (match o.dst with | some e => Nat.beq e d | none => false) && (match c.callee with | .value x => tmpIs x f | _ => false) && tmpsAre c.args.toList as &&
      (match o.guard, g with | none, none => true | some _, some (t, b) => (match guardOf ops o with | some (u, b') => Nat.beq u t && b' == b | none => false) | _, _ => false)
    | _ => false
  | none => false
theorem tmpIs_eq {x : Operand} {t : Nat} (h : tmpIs x t = true) : x = .tmp t := by
  unfold tmpIs at h
  split at h
  · rw [Nat.eq_of_beq_eq_true h]
  · cases h
theorem tmpsAre_eq : ∀ {l : List Operand} {m : List Nat}, tmpsAre l m = true → l = m.map .tmp
  | [], [], _ => rfl
  | [], _ :: _, h => by cases h
  | _ :: _, [], h => by cases h
  | x :: l, t :: m, h => by
    simp only [tmpsAre, Bool.and_eq_true] at h
    rw [tmpIs_eq h.1, tmpsAre_eq h.2]; rfl
/-- What is handed over, told by the operation itself. -/
theorem wpis_y {l : Nat} {xs : List (List Int)} (hG : GhostOk G) (hY : YieldsTo P l G xs) {ops : Array Oper} {i d f : Nat} {as : List Nat} {g : Option (Nat × Bool)} {rest : List Nat} (hop : isYield ops i d f as g = true) (hdN : d < N) (hhp : s.hp = []) (hnx0 : s.nx = 0) (hf : look s.sl f = .fn (.yield l) [] [])
    {k : Nat} {x : List Int} (hx : xs[k]? = some x) (ha : as.map (look s.sl) = x.map fun z => .v (.int .i64 z)) (hg : ∀ p, g = some p → look s.sl p.1 = .lit (.bool p.2)) {R : St → Option Nat → Prop}
    (h1 : WpIs P N G ops rest (s.put (some d) (.lit (.bool true))) (some (k + 1)) R) (h2 : WpIs P N G ops rest (s.put (some d) (.lit (.bool false))) none R) : WpIs P N G ops (i :: rest) s (some k) R := by
  unfold isYield at hop
  split at hop
  · rename_i o ho
    split at hop
    · rename_i c hc
      simp only [Bool.and_eq_true] at hop
      obtain ⟨⟨⟨q1, q2⟩, q3⟩, q4⟩ := hop
      have hd : o.dst = some d := by
        split at q1
        · rename_i e he; rw [he, Nat.eq_of_beq_eq_true q1]
        · cases q1
      obtain ⟨fo, hfo, hft⟩ : ∃ fo, c.callee = .value fo ∧ fo = .tmp f := by
        split at q2
        · rename_i x hx; exact ⟨x, hx, tmpIs_eq q2⟩
        · cases q2
      have hargs : c.args.toList.map s.val = x.map fun z => .v (.int .i64 z) := by
        rw [tmpsAre_eq q3, List.map_map]; exact ha
      have hw : Want ops o s true := by
        cases hgd : o.guard with
        | none => exact .inl ⟨hgd, rfl⟩
        | some og =>
          cases g with
          | none => rw [hgd] at q4; cases q4
          | some tb =>
            obtain ⟨t, b⟩ := tb
            rw [hgd] at q4
            simp only [] at q4
            split at q4
            · rename_i u b' hgo
              simp only [Bool.and_eq_true, beq_iff_eq] at q4
              obtain ⟨q5, rfl⟩ := q4
              have q5 := Nat.eq_of_beq_eq_true q5
              subst q5
              exact .inr ⟨u, b', hgo, .inl ⟨b', true, by rw [hg (u, b') rfl]; rfl, by simp⟩⟩
            · cases q4
      refine wpis_yield hG hY ho hc hfo hhp hnx0 (by rw [hft]; exact hf) hx hargs hw (fun d' h => by rw [hd] at h; cases h; exact hdN) (by rw [hd]; exact h1) (by rw [hd]; exact h2)
    · cases hop
  · cases hop
end
end Go.Proofs.YtdlghljhgbakjaaDoor

/-
  PART: a scope that is left by a jump to one of its labels, once.
-/
namespace Go.Proofs.YtdlghljhgbakjaaDoor
open Go.RowKit
theorem wpc_scope {P : Program} {B : Start} {c : Code} {s : St} {R R1 R2 : Ex → St → Prop} (h : WpC P B c s R1) (hg : ∀ l s1, R1 (.goto l) s1 → ∃ rest, findLabel c l = some rest ∧ WpC P B rest s1 R2)
    (h1 : ∀ x s1, (∀ l, x ≠ .goto l) → R1 x s1 → R x s1) (h2 : ∀ x s1, R2 x s1 → (∀ l, x ≠ .goto l) ∧ R x s1) : WpC P B (.scope c) s R := fun act w Q hs hQ => by
  refine wpIn_scope_jumps 2 ?_
  refine h act w _ hs fun x s1 act' w' k1 k2 => ?_
  cases x with
  | norm => exact hQ .norm s1 act' w' (h1 .norm s1 (fun l h => by cases h) k1) k2
  | exit id => exact hQ (.exit id) s1 act' w' (h1 (.exit id) s1 (fun l h => by cases h) k1) k2
  | ret => exact hQ .ret s1 act' w' (h1 .ret s1 (fun l h => by cases h) k1) k2
  | goto l =>
    obtain ⟨rest, q1, q2⟩ := hg l s1 k1
    refine .inl ⟨rest, q1, ?_⟩
    refine q2 act' w' _ k2 fun x s2 act2 w2 k3 k4 => ?_
    obtain ⟨q3, q4⟩ := h2 x s2 k3
    cases x with
    | norm => exact hQ .norm s2 act2 w2 q4 k4
    | exit id => exact hQ (.exit id) s2 act2 w2 q4 k4
    | ret => exact hQ .ret s2 act2 w2 q4 k4
    | goto l => exact absurd rfl (q3 l)
theorem hold_noSl {B : Start} (s : St) : HoldLe B s s.noSl := fun act w ⟨E, p, hf, hb, hwf, hd, hn⟩ => ⟨E, p, ⟨hf.size, fun _ => .unk _⟩, hb, hwf, hd, hn⟩
end Go.Proofs.YtdlghljhgbakjaaDoor

/-
  PART: contracts of functions that change blocks of their caller: told once of few blocks, numbered from 0 on; so for any caller.
-/
namespace Go.Proofs.YtdlghljhgbakjaaDoor
open Go.RowKit
def numb : Nat → List Blk → List (Nat × Option Blk)
  | _, [] => []
  | i, b :: l => (i, some b) :: numb (i + 1) l
theorem numb_get : ∀ (l : List Blk) (i x : Nat), hget (numb i l) x = if i ≤ x then l[x - i]? else none
  | [], i, x => by simp [numb, hget]
  | b :: l, i, x => by
    unfold numb
    rw [hget_cons, numb_get l (i + 1) x]
    by_cases h : i = x
    · subst h; simp
    · rw [if_neg h]
      by_cases h2 : i + 1 ≤ x
      · rw [if_pos h2, if_pos (by omega)]
        have : x - i = (x - (i + 1)) + 1 := by omega
        rw [this, List.getElem?_cons_succ]
      · rw [if_neg h2, if_neg (by omega)]
def smallS (bs : List Blk) : St := { sl := [], hp := numb 0 bs, nx := bs.length, rd := [], wr := [], ws := [], wb := [], wc := [] }
/-- Of these blocks and arguments: what it answers; the blocks behind it. -/
def MutOk (P : Program) (f : Nat) (args : List AV) (bs : List Blk) (a : AV) (H1 : List (Nat × Option Blk)) (n1 : Nat) (wr : List Nat) : Prop :=
  ∀ (r : Option Nat) (E : Env) (w : World) (vals : Array Value) (K : Value → World → Prop), (∀ x, E.dom x → x < bs.length) → Sim (fun _ => True) E (hget (numb 0 bs)) w → Reps E args vals.toList →
    (∀ E' v w', Rep E' a v → Pst (fun _ => True) E E' (hget (numb 0 bs)) (hget H1) bs.length n1 wr w w' → K v w') →
    (∃ v, (callFunc f vals).run P w = .ok (.value v) w ∧ K v w) ∨ ((callFunc f vals).run P w = .ok (.enter f vals) w ∧ CallsIn (wideR r) 0 P f vals w fun e w' => ∃ v, e = .returned v ∧ K v w')
section
variable {P : Program} {f : Nat} {args : List AV} {bs : List Blk} {a : AV}
theorem wf_small : Wf (smallS bs) := fun x hx => by
  have h : hget (numb 0 bs) x ≠ none := hx
  rw [numb_get] at h
  rcases Nat.lt_or_ge x bs.length with h1 | h1
  · exact h1
  · exact absurd (by rw [if_pos (Nat.zero_le _)]; exact List.getElem?_eq_none (by omega)) h
theorem mut_of_callok {s1 : St} (h : CallOk P f args (smallS bs) a s1) : MutOk P f args bs a s1.hp s1.nx s1.wr := fun r E w vals K hd hS hargs hK =>
  h.run r (fun _ => True) E w vals K wf_small (fun _ _ => trivial) (fun x h1 _ hx => Nat.not_le_of_lt (hd x hx) h1) hS hargs hK
/-! Names turned. -/
def renG (g : Nat → Nat) : Nat → AV → AV
  | 0, _ => .unk
  | d + 1, a => match a with
    | .lit v => .lit v
    | .v v => .v v
    | .agg l => .agg (l.map (renG g d))
    | .tup l => .tup (l.map (renG g d))
    | .fz cs off => .fz (cs.map (renG g d)) off
    | .fn f a b => .fn f (a.map (renG g d)) (b.map (renG g d))
    | .any φ => .any φ
    | .sl n k get nl full => .sl n k (fun i => (get i).map (renG g d)) nl full
    | .ptr x off => .ptr (g x) off
    | .pti x base i str n off => .pti (g x) base i str n off
    | .pe x i k off il => .pe (g x) i k off il
    | .own x n k nl => .own (g x) n k nl
    | .slv x off n k => .slv (g x) off n k
    | .unk => .unk
def renGB (g : Nat → Nat) : Blk → Blk
  | .fix ty cs => .fix ty (cs.map (renG g 6))
  | .arr ty n k get => .arr ty n k (fun i => (get i).map (renG g 6))
theorem renG_ok {E E' : Env} {g : Nat → Nat} (hg : ∀ x, E.dom x → E'.dom (g x) ∧ E'.ρ (g x) = E.ρ x ∧ E'.vir (g x) = E.vir x ∧ E'.cp (g x) = E.cp x ∧ E'.ln (g x) = E.ln x) (hf : ∀ b c, E.fz b = some c → E'.fz b = some c) :
    ∀ (d : Nat) (a : AV) (v : Value), Rep E a v → Rep E' (renG g d a) v
  | 0, a, v, _ => .unk v
  | d + 1, a, v, h => by
    have ihs : ∀ {l : List AV} {vs : List Value}, Reps E l vs → Reps E' (l.map (renG g d)) vs := fun h => h.mapR fun a _ v => renG_ok hg hf d a v
    unfold renG
    match h with
    | .lit v h => exact .lit v h
    | .v v h => exact .v v h
    | .agg h ho => exact .agg (ihs h) ho
    | .tup h => exact .tup (ihs h)
    | .fz h hs hr ho => exact .fz (hf _ _ h) (by rw [List.length_map]; exact hs) (by rw [List.length_map]; exact ihs hr) (by rw [List.length_map]; exact ho)
    | .slNil hn => exact .slNil hn
    | .slEmp hn hf => exact .slEmp hn hf
    | .sl h hs hq hc hr ho => exact .sl (hf _ _ h) hs hq hc (fun i hi => ihs (hr i hi)) ho
    | .fn h h' => exact .fn (ihs h) (ihs h')
    | .any h ho => exact .any (fun fz' hq => h fz' fun b c hb => hq b c (hf b c hb)) ho
    | .unk v => exact .unk _
    | @Rep.ptr _ x off hd => obtain ⟨h1, h2, _⟩ := hg x hd; rw [← h2]; exact .ptr h1
    | @Rep.pti _ x base str n off i hd h0 h1 => obtain ⟨q1, q2, _⟩ := hg x hd; rw [← q2]; exact .pti q1 h0 h1
    | @Rep.pe _ x i k off il hd => obtain ⟨q1, q2, _⟩ := hg x hd; rw [← q2]; exact .pe q1
    | @Rep.own _ x n k nl hd hv hn => obtain ⟨q1, q2, q3, q4, q5⟩ := hg x hd; rw [← q2, ← q4]; exact .own q1 (q3.trans hv) (hn.trans q5.symm)
    | @Rep.ownNil _ x n k nl hd hv hn hl => obtain ⟨q1, q2, q3, q4, q5⟩ := hg x hd; exact .ownNil q1 (q3.trans hv) hn (hl.trans q5.symm)
    | @Rep.slv _ x off n k _ hd => obtain ⟨q1, q2, _⟩ := hg x hd; rw [← q2]; exact .slv q1
theorem renGB_ok {E E' : Env} {g : Nat → Nat} (hg : ∀ x, E.dom x → E'.dom (g x) ∧ E'.ρ (g x) = E.ρ x ∧ E'.vir (g x) = E.vir x ∧ E'.cp (g x) = E.cp x ∧ E'.ln (g x) = E.ln x) (hf : ∀ b c, E.fz b = some c → E'.fz b = some c)
    {x : Nat} (hx : E.dom x) {B : Blk} {o : Option Obj} (h : BlkR E x B o) : BlkR E' (g x) (renGB g B) o := by
  obtain ⟨_, _, q3, q4, q5⟩ := hg x hx
  cases B with
  | fix ty cs =>
    obtain ⟨hv, c, h1, h2, h3⟩ := h
    exact ⟨q3.trans hv, c, h1, h2.mapR fun a _ v => renG_ok hg hf 6 a v, h3⟩
  | arr ty n k get =>
    obtain ⟨hn, h⟩ := h
    refine ⟨hn.trans q5.symm, ?_⟩
    rcases h with ⟨hv, h0⟩ | ⟨hv, c, h1, h2, h3, h4, h5⟩
    · exact .inl ⟨q3.trans hv, h0⟩
    · exact .inr ⟨q3.trans hv, c, h1, by rw [q4]; exact h2, by rw [q4]; exact h3, h4, fun i hi => (h5 i hi).mapR fun a _ v => renG_ok hg hf 6 a v⟩
/-- The name that a caller has for a block. -/
def bigN (L : List Nat) (nx i : Nat) : Nat := match Nat.blt i L.length with
  | true => L.getD i 0
  | false => nx + (i - L.length)
/-- The caller's blocks that have turned, and those that are new: its names, and ours. -/
def pairs (L : List Nat) (nx n1 : Nat) (wr : List Nat) : List (Nat × Nat) :=
  ((List.range (n1 - L.length)).map fun j => (nx + j, L.length + j)) ++ (wr.filter fun i => Nat.blt i L.length).map fun i => (L.getD i 0, i)
def lifted (L : List Nat) (st : St) (H1 : List (Nat × Option Blk)) (n1 : Nat) (wr : List Nat) : St :=
  let ps := pairs L st.nx n1 wr
  { st with hp := ps.map (fun p => (p.1, (hget H1 p.2).map (renGB (bigN L st.nx)))) ++ st.hp, nx := st.nx + (n1 - L.length), rd := uni L (uni (ps.map (·.1)) st.rd), wr := uni (ps.map (·.1)) st.wr, wb := uni (ps.map (·.1)) st.wb, wc := ps.map (fun p => (p.1, none)) ++ st.wc }
theorem hget_app {g : Nat → Option Blk} {hp : List (Nat × Option Blk)} {y : Nat} : ∀ (ps : List (Nat × Nat)), (∃ p, p ∈ ps ∧ p.1 = y ∧ hget (ps.map (fun p => (p.1, g p.2)) ++ hp) y = g p.2) ∨ ((∀ p, p ∈ ps → p.1 ≠ y) ∧ hget (ps.map (fun p => (p.1, g p.2)) ++ hp) y = hget hp y)
  | [] => .inr ⟨fun _ h => absurd h List.not_mem_nil, rfl⟩
  | p :: ps => by
    rw [List.map_cons, List.cons_append, hget_cons]
    by_cases h : p.1 = y
    · rw [if_pos h]; exact .inl ⟨p, List.mem_cons_self .., h, rfl⟩
    · rw [if_neg h]
      rcases hget_app ps with ⟨q, h1, h2, h3⟩ | ⟨h1, h2⟩
      · exact .inl ⟨q, List.mem_cons_of_mem _ h1, h2, h3⟩
      · exact .inr ⟨fun q hq => (List.mem_cons.1 hq).elim (fun e => e ▸ h) (h1 q), h2⟩
theorem pairs_mem {L : List Nat} {nx n1 : Nat} {wr : List Nat} {p : Nat × Nat} : p ∈ pairs L nx n1 wr ↔ (∃ j, j < n1 - L.length ∧ p = (nx + j, L.length + j)) ∨ (∃ i, i ∈ wr ∧ i < L.length ∧ p = (L.getD i 0, i)) := by
  unfold pairs
  rw [List.mem_append]
  constructor
  · rintro (h | h)
    · obtain ⟨j, h1, rfl⟩ := List.mem_map.1 h
      exact .inl ⟨j, List.mem_range.1 h1, rfl⟩
    · obtain ⟨i, h1, rfl⟩ := List.mem_map.1 h
      obtain ⟨h2, h3⟩ := List.mem_filter.1 h1
      exact .inr ⟨i, h2, by simpa [Nat.blt_eq] using h3, rfl⟩
  · rintro (⟨j, h1, rfl⟩ | ⟨i, h1, h2, rfl⟩)
    · exact .inl (List.mem_map.2 ⟨j, List.mem_range.2 h1, rfl⟩)
    · exact .inr (List.mem_map.2 ⟨i, List.mem_filter.2 ⟨h1, by simpa [Nat.blt_eq] using h2⟩, rfl⟩)
theorem bigN_lo {L : List Nat} {nx i : Nat} (h : i < L.length) : bigN L nx i = L.getD i 0 := by
  have : Nat.blt i L.length = true := by simpa [Nat.blt_eq] using h
  unfold bigN; rw [this]
theorem bigN_hi {L : List Nat} {nx i : Nat} (h : L.length ≤ i) : bigN L nx i = nx + (i - L.length) := by
  have : Nat.blt i L.length = false := by
    cases hq : Nat.blt i L.length with
    | false => rfl
    | true => rw [Nat.blt_eq] at hq; omega
  unfold bigN; rw [this]
theorem oldN_zero {L : List Nat} {y : Nat} : oldN 0 L y = L.getD y 0 := by
  have : Nat.blt y 0 = false := by
    cases hq : Nat.blt y 0 with
    | false => rfl
    | true => rw [Nat.blt_eq] at hq; omega
  unfold oldN; rw [this]; rfl
/-- The blocks of these names, as they are told. -/
def blksOf (hp : List (Nat × Option Blk)) (L : List Nat) : List Nat → Option (List Blk)
  | [] => some []
  | x :: l => match hget hp x, blksOf hp L l with
    | some b, some r => some (renB 0 L b :: r)
    | _, _ => none
theorem blksOf_ok {hp : List (Nat × Option Blk)} {L : List Nat} : ∀ {l : List Nat} {bs : List Blk}, blksOf hp L l = some bs → bs.length = l.length ∧ ∀ i x : Nat, l[i]? = some x → ∃ b, hget hp x = some b ∧ bs[i]? = some (renB 0 L b)
  | [], bs, h => by cases h; exact ⟨rfl, fun i x hi => by rw [List.getElem?_nil] at hi; cases hi⟩
  | y :: l, bs, h => by
    unfold blksOf at h
    split at h
    · rename_i b r h1 h2
      cases h
      obtain ⟨k1, k2⟩ := blksOf_ok h2
      refine ⟨by simp [k1], fun i x hi => ?_⟩
      cases i with
      | zero => simp at hi; subst hi; exact ⟨b, h1, rfl⟩
      | succ i => simp at hi; simpa using k2 i x hi
    · cases h
theorem getD_some {L : List Nat} {i : Nat} (h : i < L.length) : L[i]? = some (L.getD i 0) := by simp [List.getD, List.getElem?_eq_getElem h]
theorem grew_lifted {L : List Nat} {st : St} {H1 : List (Nat × Option Blk)} {n1 : Nat} {wr : List Nat} (hL : ∀ x, x ∈ L → hget st.hp x ≠ none) : GrewS st (a, lifted L st H1 n1 wr) := by
  have key : ∀ y, y ∉ (pairs L st.nx n1 wr).map (·.1) → hget (lifted L st H1 n1 wr).hp y = hget st.hp y := fun y hy => by
    rcases hget_app (g := fun i => (hget H1 i).map (renGB (bigN L st.nx))) (hp := st.hp) (y := y) (pairs L st.nx n1 wr) with ⟨p, h1, h2, _⟩ | ⟨_, h2⟩
    · exact absurd (List.mem_map.2 ⟨p, h1, h2⟩) hy
    · exact h2
  refine ⟨⟨fun hwf x hx => ?_, Nat.le_add_right _ _, fun x hx => mem_uni.2 (.inr (mem_uni.2 (.inr hx))), fun x hx => mem_uni.2 (.inr hx), fun x hx => hx, fun x hx => mem_uni.2 (.inr hx), fun d _ => rfl, fun x hx => ?_, fun x hx => ?_, fun x hx => ?_, fun e he => List.mem_append.2 (.inr he), fun x => ?_⟩, rfl⟩
  · show x < st.nx + (n1 - L.length)
    by_cases hm : x ∈ (pairs L st.nx n1 wr).map (·.1)
    · obtain ⟨p, h1, rfl⟩ := List.mem_map.1 hm
      rcases pairs_mem.1 h1 with ⟨j, h2, rfl⟩ | ⟨i, _, h3, rfl⟩
      · show st.nx + j < _; omega
      · have := hwf (L.getD i 0) (hL _ (List.mem_of_getElem? (getD_some h3)))
        show L.getD i 0 < _; omega
    · rw [key x hm] at hx
      have := hwf x hx; omega
  · exact key x fun h => hx (mem_uni.2 (.inl h))
  · exact key x fun h => hx (mem_uni.2 (.inl h))
  · rcases mem_uni.1 hx with h | h
    · exact .inr (mem_uni.2 (.inl h))
    · exact .inl h
  · by_cases hm : x ∈ (pairs L st.nx n1 wr).map (·.1)
    · obtain ⟨p, h1, rfl⟩ := List.mem_map.1 hm
      exact .inl (cov_all (List.mem_append.2 (.inl (List.mem_map.2 ⟨p, h1, rfl⟩))))
    · exact .inr (.inl (key x hm))
theorem distinct_get {L : List Nat} (h : distinct L = true) {i j : Nat} (hi : i < L.length) (hj : j < L.length) (he : L.getD i 0 = L.getD j 0) : i = j := distinct_ok h i j _ (getD_some hi) (by rw [he]; exact getD_some hj)
theorem lift_ok {L : List Nat} {st : St} {d d' : Nat} {H1 : List (Nat × Option Blk)} {n1 : Nat} {wr : List Nat} (h : MutOk P f (args.map (renA 0 L d)) bs a H1 n1 wr) (hL : distinct L = true) (hb : blksOf st.hp L L = some bs) (hn : L.length ≤ n1) :
    CallOk P f args st (renG (bigN L st.nx) d' a) (lifted L st H1 n1 wr) := by
  obtain ⟨hlen, hblk⟩ := blksOf_ok hb
  have hLn : ∀ x, x ∈ L → hget st.hp x ≠ none := fun x hx => by
    obtain ⟨i, hi⟩ := List.getElem?_of_mem hx
    obtain ⟨b, h1, _⟩ := hblk i x hi
    rw [h1]; simp
  refine ⟨(grew_lifted (a := a) hLn).1, rfl, fun r FP E w vals K hwf hcov hfree hS hargs hK => ?_⟩
  have hfree : ∀ x, st.nx ≤ x → x < st.nx + (n1 - L.length) → ¬ E.dom x := hfree
  have hFL : ∀ x, x ∈ L → FP x := fun x hx => hcov x (.inl (mem_uni.2 (.inl hx)))
  have hFP : ∀ x, x ∈ (pairs L st.nx n1 wr).map (·.1) → FP x := fun x hx => hcov x (.inr (.inl (mem_uni.2 (.inl hx))))
  have hmL : ∀ {i}, i < L.length → L.getD i 0 ∈ L := fun hi => List.mem_of_getElem? (getD_some hi)
  -- the few blocks
  have sb : ∀ y B, hget (numb 0 bs) y = some B → y < L.length ∧ ∃ b, hget st.hp (L.getD y 0) = some b ∧ B = renB 0 L b := fun y B hB => by
    rw [numb_get, if_pos (Nat.zero_le _), Nat.sub_zero] at hB
    have hy : y < L.length := by rw [← hlen]; exact (List.getElem?_eq_some_iff.1 hB).1
    obtain ⟨b, h1, h2⟩ := hblk y _ (getD_some hy)
    rw [h2] at hB
    exact ⟨hy, b, h1, (Option.some.inj hB).symm⟩
  have sn : ∀ y, hget (numb 0 bs) y ≠ none → y < L.length ∧ hget st.hp (L.getD y 0) ≠ none := fun y hy => by
    cases hq : hget (numb 0 bs) y with
    | none => exact absurd hq hy
    | some B =>
      obtain ⟨h1, b, h2, _⟩ := sb y B hq
      exact ⟨h1, by rw [h2]; simp⟩
  have sn' : ∀ y, y < L.length → hget (numb 0 bs) y ≠ none := fun y hy => by
    rw [numb_get, if_pos (Nat.zero_le _), Nat.sub_zero, List.getElem?_eq_getElem (by omega)]; simp
  let Es := E.ren 0 L
  have eρ : ∀ y, Es.ρ y = E.ρ (L.getD y 0) := fun y => by show E.ρ (oldN 0 L y) = _; rw [oldN_zero]
  have ev : ∀ y, Es.vir y = E.vir (L.getD y 0) := fun y => by show E.vir (oldN 0 L y) = _; rw [oldN_zero]
  have ec : ∀ y, Es.cp y = E.cp (L.getD y 0) := fun y => by show E.cp (oldN 0 L y) = _; rw [oldN_zero]
  have el : ∀ y, Es.ln y = E.ln (L.getD y 0) := fun y => by show E.ln (oldN 0 L y) = _; rw [oldN_zero]
  have ed : ∀ y, Es.dom y ↔ E.dom (L.getD y 0) ∧ y < L.length := fun y => by
    show E.dom (oldN 0 L y) ∧ y < 0 + L.length ↔ _
    rw [oldN_zero, Nat.zero_add]
  have hdL : ∀ {i}, i < L.length → E.dom (L.getD i 0) := fun hi => hS.dom _ (hFL _ (hmL hi)) (hLn _ (hmL hi))
  have simS : Sim (fun _ => True) Es (hget (numb 0 bs)) w := by
    refine ⟨hS.fz, fun y _ hn => ?_, fun y _ hn hv => ?_, fun y B _ hB => ?_, fun y z _ _ hy hz hvy hvz he => ?_⟩
    · obtain ⟨h1, _⟩ := sn y hn
      exact (ed y).2 ⟨hdL h1, h1⟩
    · obtain ⟨h1, h2⟩ := sn y hn
      rw [eρ]
      rw [ev] at hv
      exact hS.low _ (hFL _ (hmL h1)) h2 hv
    · obtain ⟨h1, b, h2, rfl⟩ := sb y B hB
      have h3 := hS.blk _ b (hFL _ (hmL h1)) h2
      rw [eρ]
      refine renB_ok ?_
      rw [oldN_zero]; exact h3
    · obtain ⟨h1, h2⟩ := sn y hy
      obtain ⟨h3, h4⟩ := sn z hz
      rw [ev] at hvy hvz
      rw [eρ, eρ] at he
      exact distinct_get hL h1 h3 (hS.inj _ _ (hFL _ (hmL h1)) (hFL _ (hmL h3)) h2 h4 hvy hvz he)
  refine h r Es w vals K (fun x hx => by rw [hlen]; exact ((ed x).1 hx).2) simS (hargs.mapR fun a _ v => renA_ok d a v) fun E1 v w' hv p => ?_
  rw [hlen] at p
  -- the caller's names
  let N := fun y => st.nx ≤ y ∧ y < st.nx + (n1 - L.length)
  have pd : ∀ y, Decidable (N y) := fun y => inferInstanceAs (Decidable (_ ∧ _))
  let E' : Env :=
    { ρ := fun y => if N y then E1.ρ (L.length + (y - st.nx)) else E.ρ y, dom := fun y => if N y then E1.dom (L.length + (y - st.nx)) else E.dom y, vir := fun y => if N y then E1.vir (L.length + (y - st.nx)) else E.vir y,
      cp := fun y => if N y then E1.cp (L.length + (y - st.nx)) else E.cp y, ln := fun y => if N y then E1.ln (L.length + (y - st.nx)) else E.ln y, fz := E1.fz, gok := E1.gok }
  have nold : ∀ y, E.dom y → ¬ N y := fun y hy hN => hfree y hN.1 hN.2 hy
  have le : E.le E' := by
    refine ⟨fun x hx => ?_, fun x hx => ?_, fun x hx => ?_, fun x hx => ?_, fun x hx => ?_, fun b c hb => p.le.fz b c hb⟩
    · show if N x then _ else E.dom x
      rw [if_neg (nold x hx)]; exact hx
    · show (if N x then _ else E.ρ x) = _
      rw [if_neg (nold x hx)]
    · show (if N x then _ else E.vir x) = _
      rw [if_neg (nold x hx)]
    · show (if N x then _ else E.cp x) = _
      rw [if_neg (nold x hx)]
    · show (if N x then _ else E.ln x) = _
      rw [if_neg (nold x hx)]
  have hg : ∀ x, E1.dom x → E'.dom (bigN L st.nx x) ∧ E'.ρ (bigN L st.nx x) = E1.ρ x ∧ E'.vir (bigN L st.nx x) = E1.vir x ∧ E'.cp (bigN L st.nx x) = E1.cp x ∧ E'.ln (bigN L st.nx x) = E1.ln x := fun x hx => by
    rcases Nat.lt_or_ge x L.length with h1 | h1
    · rw [bigN_lo h1]
      have hdx := hdL h1
      have hsx : Es.dom x := (ed x).2 ⟨hdx, h1⟩
      refine ⟨le.dom _ hdx, ?_, ?_, ?_, ?_⟩
      · rw [le.ρ _ hdx, p.le.ρ x hsx, eρ]
      · rw [le.vir _ hdx, p.le.vir x hsx, ev]
      · rw [le.cp _ hdx, p.le.cp x hsx, ec]
      · rw [le.ln _ hdx, p.le.ln x hsx, el]
    · have h2 : x < n1 := by
        rcases p.dom x hx with h | h
        · exact absurd ((ed x).1 h).2 (by omega)
        · exact h.2
      rw [bigN_hi h1]
      have hN : N (st.nx + (x - L.length)) := ⟨Nat.le_add_right _ _, by omega⟩
      have hx' : L.length + (st.nx + (x - L.length) - st.nx) = x := by omega
      refine ⟨?_, ?_, ?_, ?_, ?_⟩
      · show if N _ then _ else _
        rw [if_pos hN, hx']; exact hx
      · show (if N _ then _ else _) = _
        rw [if_pos hN, hx']
      · show (if N _ then _ else _) = _
        rw [if_pos hN, hx']
      · show (if N _ then _ else _) = _
        rw [if_pos hN, hx']
      · show (if N _ then _ else _) = _
        rw [if_pos hN, hx']
  have hcase : ∀ y, hget (lifted L st H1 n1 wr).hp y ≠ none →
      (∃ i B, bigN L st.nx i = y ∧ hget H1 i = some B ∧ hget (lifted L st H1 n1 wr).hp y = some (renGB (bigN L st.nx) B) ∧ i < n1 ∧ (i < L.length → i ∈ wr)) ∨ (hget (lifted L st H1 n1 wr).hp y = hget st.hp y ∧ hget st.hp y ≠ none ∧ ¬ N y ∧ ∀ i, i ∈ wr → i < L.length → L.getD i 0 ≠ y) := fun y hy => by
    rcases hget_app (g := fun i => (hget H1 i).map (renGB (bigN L st.nx))) (hp := st.hp) (y := y) (pairs L st.nx n1 wr) with ⟨q, h1, h2, h3⟩ | ⟨h1, h2⟩
    · left
      have h3 : hget (lifted L st H1 n1 wr).hp y = (hget H1 q.2).map (renGB (bigN L st.nx)) := h3
      cases hB : hget H1 q.2 with
      | none => rw [h3, hB] at hy; exact absurd rfl hy
      | some B =>
        refine ⟨q.2, B, ?_, hB, by rw [h3, hB]; rfl, ?_, ?_⟩
        · rcases pairs_mem.1 h1 with ⟨j, _, rfl⟩ | ⟨i, _, hi, rfl⟩
          · rw [bigN_hi (Nat.le_add_right _ _), ← h2]
            show st.nx + (L.length + j - L.length) = st.nx + j
            omega
          · rw [bigN_lo hi, ← h2]
        · rcases pairs_mem.1 h1 with ⟨j, hj, rfl⟩ | ⟨i, _, hi, rfl⟩
          · show L.length + j < n1; omega
          · show i < n1; omega
        · intro hlt
          rcases pairs_mem.1 h1 with ⟨j, hj, rfl⟩ | ⟨i, hi1, hi, rfl⟩
          · exact absurd (show L.length + j < L.length from hlt) (by omega)
          · exact hi1
    · right
      have h2 : hget (lifted L st H1 n1 wr).hp y = hget st.hp y := h2
      refine ⟨h2, by rw [← h2]; exact hy, fun hN => ?_, fun i h3 h4 he => h1 (L.getD i 0, i) (pairs_mem.2 (.inr ⟨i, h3, h4, rfl⟩)) he⟩
      exact h1 (st.nx + (y - st.nx), L.length + (y - st.nx)) (pairs_mem.2 (.inl ⟨y - st.nx, by have := hN.1; have := hN.2; omega, rfl⟩)) (by show st.nx + (y - st.nx) = y; have := hN.1; omega)
  have hdm : ∀ {i B}, hget H1 i = some B → E1.dom i := fun {i B} hB => p.sim.dom i trivial (by rw [hB]; simp)
  -- what the call did not turn
  have stay : ∀ y, FP y → hget st.hp y ≠ none → (∀ i, i ∈ wr → i < L.length → L.getD i 0 ≠ y) → E.vir y = false → blkW w' (E.ρ y) = blkW w (E.ρ y) ∧ E1.fz (E.ρ y) = E.fz (E.ρ y) := fun y hF hn hne hvir => by
    have hlow := hS.low y hF hn hvir
    refine p.frame _ hlow.1 fun i hi hik hin hiv he => ?_
    rw [eρ] at he
    rw [ev] at hiv
    exact hne i hi hik ((hS.inj _ _ hF (hFL _ (hmL hik)) hn (hLn _ (hmL hik)) hvir hiv he).symm)
  have EN : ∀ {i}, E1.dom i → E'.ρ (bigN L st.nx i) = E1.ρ i := fun hi => (hg _ hi).2.1
  have EV : ∀ {i}, E1.dom i → E'.vir (bigN L st.nx i) = E1.vir i := fun hi => (hg _ hi).2.2.1
  have oldE : ∀ y, ¬ N y → E'.ρ y = E.ρ y ∧ E'.vir y = E.vir y := fun y hN => ⟨by show (if N y then _ else E.ρ y) = _; rw [if_neg hN], by show (if N y then _ else E.vir y) = _; rw [if_neg hN]⟩
  have sim' : Sim FP E' (hget (lifted L st H1 n1 wr).hp) w' := by
    refine ⟨p.sim.fz, fun y hF hn => ?_, fun y hF hn hvir => ?_, fun y B hF hB => ?_, fun y z hFy hFz hy hz hvy hvz he => ?_⟩
    · rcases hcase y hn with ⟨i, B, rfl, hB, _⟩ | ⟨_, h2, _⟩
      · exact (hg i (hdm hB)).1
      · exact le.dom _ (hS.dom y hF h2)
    · rcases hcase y hn with ⟨i, B, rfl, hB, _⟩ | ⟨_, h2, h3, h4⟩
      · rw [EN (hdm hB)]
        rw [EV (hdm hB)] at hvir
        exact p.sim.low i trivial (by rw [hB]; simp) hvir
      · rw [(oldE y h3).1]
        rw [(oldE y h3).2] at hvir
        have := hS.low y hF h2 hvir
        refine ⟨Nat.lt_of_lt_of_le this.1 p.size, ?_⟩
        show E1.fz _ = none
        rw [(stay y hF h2 h4 hvir).2]; exact this.2
    · rcases hcase y (by rw [hB]; simp) with ⟨i, B0, rfl, hB0, h1, _⟩ | ⟨h1, h2, h3, h4⟩
      · rw [h1] at hB
        cases hB
        rw [EN (hdm hB0)]
        exact renGB_ok hg (fun _ _ h => h) (hdm hB0) (p.sim.blk i B0 trivial hB0)
      · rw [h1] at hB
        rw [(oldE y h3).1]
        have hb0 := (hS.blk y B hF hB).mono le (hS.dom y hF h2)
        cases hvir : E.vir y with
        | false => rw [(stay y hF h2 h4 hvir).1]; exact hb0
        | true =>
          cases B with
          | fix ty cs =>
            obtain ⟨q, _⟩ := hb0
            rw [(oldE y h3).2, hvir] at q; cases q
          | arr ty n k get =>
            obtain ⟨q0, q⟩ := hb0
            refine ⟨q0, ?_⟩
            rcases q with q | ⟨q, _⟩
            · exact .inl q
            · rw [(oldE y h3).2, hvir] at q; cases q
    · rcases hcase y hy with ⟨i, B, rfl, hB, _, hi1, hi2⟩ | ⟨_, h2, h3, h4⟩
      · rcases hcase z hz with ⟨j, C, rfl, hC, _, hj1, hj2⟩ | ⟨_, k2, k3, k4⟩
        · rw [EN (hdm hB), EN (hdm hC)] at he
          rw [EV (hdm hB)] at hvy
          rw [EV (hdm hC)] at hvz
          rw [p.sim.inj i j trivial trivial (by rw [hB]; simp) (by rw [hC]; simp) hvy hvz he]
        · exfalso
          rw [EN (hdm hB), (oldE z k3).1] at he
          rw [EV (hdm hB)] at hvy
          rw [(oldE z k3).2] at hvz
          have hlz := hS.low z hFz k2 hvz
          rcases Nat.lt_or_ge i L.length with hi | hi
          · have hsi : Es.dom i := (ed i).2 ⟨hdL hi, hi⟩
            rw [p.le.ρ i hsi, eρ] at he
            rw [p.le.vir i hsi, ev] at hvy
            exact k4 i (hi2 hi) hi (hS.inj _ _ (hFL _ (hmL hi)) hFz (hLn _ (hmL hi)) k2 hvy hvz he)
          · rcases p.news i hi hi1 trivial (by rw [hB]; simp) hvy with h5 | ⟨x, x1, x2, x3, x4, x5⟩
            · rw [he] at h5; omega
            · rw [he, eρ] at x5
              rw [ev] at x4
              exact k4 x x1 x2 ((hS.inj _ _ hFz (hFL _ (hmL x2)) k2 (hLn _ (hmL x2)) hvz x4 x5).symm)
      · rcases hcase z hz with ⟨j, C, rfl, hC, _, hj1, hj2⟩ | ⟨_, k2, k3, k4⟩
        · exfalso
          rw [EN (hdm hC), (oldE y h3).1] at he
          rw [EV (hdm hC)] at hvz
          rw [(oldE y h3).2] at hvy
          have hly := hS.low y hFy h2 hvy
          rcases Nat.lt_or_ge j L.length with hj | hj
          · have hsj : Es.dom j := (ed j).2 ⟨hdL hj, hj⟩
            rw [p.le.ρ j hsj, eρ] at he
            rw [p.le.vir j hsj, ev] at hvz
            exact h4 j (hj2 hj) hj (hS.inj _ _ (hFL _ (hmL hj)) hFy (hLn _ (hmL hj)) h2 hvz hvy he.symm)
          · rcases p.news j hj hj1 trivial (by rw [hC]; simp) hvz with h5 | ⟨x, x1, x2, x3, x4, x5⟩
            · rw [← he] at h5; omega
            · rw [← he, eρ] at x5
              rw [ev] at x4
              exact h4 x x1 x2 ((hS.inj _ _ hFy (hFL _ (hmL x2)) h2 (hLn _ (hmL x2)) hvy x4 x5).symm)
        · rw [(oldE y h3).1, (oldE z k3).1] at he
          rw [(oldE y h3).2] at hvy
          rw [(oldE z k3).2] at hvz
          exact hS.inj y z hFy hFz h2 k2 hvy hvz he
  refine hK E' v w' (renG_ok hg (fun _ _ h => h) d' a v hv) ⟨⟨le, fun x hx => ?_, sim', fun b hb hne => ?_, fun x h1 h2 hF hn hvir => ?_, p.size, p.os, p.tape, p.output⟩, fun x h1 hF hn => ?_⟩
  · by_cases hN : N x
    · exact .inr hN
    · have hx : if N x then _ else E.dom x := hx
      rw [if_neg hN] at hx
      exact .inl hx
  · refine p.frame b hb fun i hi hik hin hiv he => ?_
    rw [eρ] at he
    rw [ev] at hiv
    have hw : L.getD i 0 ∈ (lifted L st H1 n1 wr).wr := mem_uni.2 (.inl (List.mem_map.2 ⟨(L.getD i 0, i), pairs_mem.2 (.inr ⟨i, hi, hik, rfl⟩), rfl⟩))
    exact hne _ hw (hwf _ (hLn _ (hmL hik))) (hLn _ (hmL hik)) hiv he
  · rcases hcase x hn with ⟨i, B, rfl, hB, _, hi1, hi2⟩ | ⟨_, h2, _⟩
    · rw [EN (hdm hB)]
      rw [EV (hdm hB)] at hvir
      rcases Nat.lt_or_ge i L.length with hi | hi
      · rw [bigN_lo hi] at h1
        have := hwf _ (hLn _ (hmL hi))
        omega
      · rcases p.news i hi hi1 trivial (by rw [hB]; simp) hvir with h5 | ⟨y, y1, y2, y3, y4, y5⟩
        · exact .inl h5
        · refine .inr ⟨L.getD y 0, mem_uni.2 (.inl (List.mem_map.2 ⟨(L.getD y 0, y), pairs_mem.2 (.inr ⟨y, y1, y2, rfl⟩), rfl⟩)), hwf _ (hLn _ (hmL y2)), hLn _ (hmL y2), ?_, ?_⟩
          · rw [← ev]; exact y4
          · rw [y5, eρ]
    · exact absurd (hwf x h2) (by omega)
  · rcases hcase x hn with ⟨i, B, rfl, hB, _, hi1, hi2⟩ | ⟨_, h2, _⟩
    · rcases Nat.lt_or_ge i L.length with hi | hi
      · rw [bigN_lo hi]; exact hLn _ (hmL hi)
      · rw [bigN_hi hi] at h1; omega
    · exact h2
end
end Go.Proofs.YtdlghljhgbakjaaDoor

/-
  PART: contracts of functions that change blocks of their caller: by evaluation; a table of them.
-/
namespace Go.Proofs.YtdlghljhgbakjaaDoor
open Go.RowKit
/-- What such a call answers: the answer, the blocks, how many there are, those that turned. -/
abbrev MRes := AV × List (Nat × Option Blk) × Nat × List Nat
/-- An end, short: the blocks that were there and turned, and new ones that are led to. -/
def compactM (k : Nat) (b : AV × St) : Option MRes :=
  let old := b.2.wr.filter fun i => Nat.blt i k
  let L := meet b.2.hp k 60 (idsA 5 b.1 ++ old.flatMap (idsB b.2.hp)) []
  match distinct L && L.all (fun x => Nat.ble k x) with
  | true => some (renA k L 8 b.1, (old.map (fun i => (i, i)) ++ names k 0 L).map (fun p => (p.1, (hget b.2.hp p.2).map (renB k L))), k + L.length, old)
  | false => none
section
variable {P : Program} {f : Nat} {args : List AV} {bs : List Blk} {a : AV}
def BlkLe (b b' : Blk) : Prop := ∀ (E : Env) (x : Nat) (o : Option Obj), BlkR E x b o → BlkR E x b' o
theorem BlkLe.refl (b : Blk) : BlkLe b b := fun _ _ _ h => h
def HLe (H H' : List (Nat × Option Blk)) : Prop := ∀ x B', hget H' x = some B' → ∃ B, hget H x = some B ∧ BlkLe B B'
theorem HLe.refl (H : List (Nat × Option Blk)) : HLe H H := fun _ B h => ⟨B, h, BlkLe.refl B⟩
theorem HLe.nil (H : List (Nat × Option Blk)) : HLe H [] := fun _ _ h => nomatch h
theorem HLe.cons {x : Nat} {b b' : Blk} {H H' : List (Nat × Option Blk)} (h : BlkLe b b') (t : HLe H H') : HLe ((x, some b) :: H) ((x, some b') :: H') := fun y B hB => by
  rw [hget_cons] at hB ⊢
  by_cases e : x = y
  · rw [if_pos e] at hB ⊢; cases hB; exact ⟨b, rfl, h⟩
  · rw [if_neg e] at hB ⊢; exact t y B hB
theorem pst_ren {E E1 : Env} {H : Nat → Option Blk} {hp : List (Nat × Option Blk)} {k n1 : Nat} {wr : List Nat} {w w' : World} {L : List Nat} (p : Pst (fun _ => True) E E1 H (hget hp) k n1 wr w w') (hdE : ∀ x, E.dom x → x < k) (hn1 : ∀ x, x ∈ L → hget hp x ≠ none → x < n1)
    (hdis : distinct L = true) (hge : L.all (fun x => Nat.ble k x) = true) :
    Pst (fun _ => True) E (E1.ren k L) H (hget ((((wr.filter fun i => Nat.blt i k).map (fun i => (i, i))) ++ names k 0 L).map fun q => (q.1, (hget hp q.2).map (renB k L)))) k (k + L.length) (wr.filter fun i => Nat.blt i k) w w' := by
  have lo : ∀ y, y < k → oldN k L y = y := fun y hy => by
    have : Nat.blt y k = true := by simpa [Nat.blt_eq] using hy
    unfold oldN; rw [this]
  have hi : ∀ y, k ≤ y → y < k + L.length → L[y - k]? = some (oldN k L y) ∧ k ≤ oldN k L y := fun y h1 h2 => by
    have hq : Nat.blt y k = false := by
      cases hq : Nat.blt y k with
      | false => rfl
      | true => rw [Nat.blt_eq] at hq; omega
    have hlt : y - k < L.length := by omega
    have h3 : L[y - k]? = some (oldN k L y) := by
      unfold oldN; rw [hq]
      simp [List.getD, List.getElem?_eq_getElem hlt]
    exact ⟨h3, Nat.le_of_ble_eq_true (List.all_eq_true.1 hge _ (List.mem_of_getElem? h3))⟩
  have hold : ∀ q, q ∈ ((wr.filter fun i => Nat.blt i k).map (fun i => (i, i))) ++ names k 0 L → oldN k L q.1 = q.2 ∧ q.1 < k + L.length := fun q hq => by
    rcases List.mem_append.1 hq with h | h
    · obtain ⟨i, h1, rfl⟩ := List.mem_map.1 h
      have h2 : i < k := by simpa [Nat.blt_eq] using (List.mem_filter.1 h1).2
      exact ⟨lo i h2, by show i < _; omega⟩
    · exact pair_old (List.mem_append.2 (.inr h))
  have hm : ∀ y B', hget ((((wr.filter fun i => Nat.blt i k).map (fun i => (i, i))) ++ names k 0 L).map fun q => (q.1, (hget hp q.2).map (renB k L))) y = some B' → ∃ b, hget hp (oldN k L y) = some b ∧ B' = renB k L b ∧ y < k + L.length := fun y B' hB => by
    obtain ⟨q, h1, h2, h3⟩ := hget_map (f := fun x => (hget hp x).map (renB k L)) hB
    obtain ⟨k1, k2⟩ := hold q h1
    subst h2
    cases hg : hget hp q.2 with
    | none => rw [hg] at h3; cases h3
    | some b =>
      rw [hg] at h3
      exact ⟨b, by rw [k1]; exact hg, by cases h3; rfl, k2⟩
  have al : ∀ y, hget ((((wr.filter fun i => Nat.blt i k).map (fun i => (i, i))) ++ names k 0 L).map fun q => (q.1, (hget hp q.2).map (renB k L))) y ≠ none → hget hp (oldN k L y) ≠ none ∧ y < k + L.length := fun y hy => by
    cases hB : hget ((((wr.filter fun i => Nat.blt i k).map (fun i => (i, i))) ++ names k 0 L).map fun q => (q.1, (hget hp q.2).map (renB k L))) y with
    | none => exact absurd hB hy
    | some B' =>
      obtain ⟨b, h1, _, h3⟩ := hm y B' hB
      exact ⟨by rw [h1]; simp, h3⟩
  refine ⟨⟨⟨fun x hx => ?_, fun x hx => ?_, fun x hx => ?_, fun x hx => ?_, fun x hx => ?_, p.le.fz⟩, fun y hy => ?_, ⟨p.sim.fz, fun y hF hn => ?_, fun y hF hn hv => ?_, fun y B' hF hB => ?_, fun y z _ _ hny hnz hvy hvz he => ?_⟩, fun b hb hne => ?_, fun y h1 h2 hF hn hv => ?_, p.size, p.os, p.tape, p.output⟩, fun y hy hF hn => ?_⟩
  · have hlt := hdE x hx
    exact ⟨by rw [lo x hlt]; exact p.le.dom x hx, by omega⟩
  · show E1.ρ (oldN k L x) = _
    rw [lo x (hdE x hx)]; exact p.le.ρ x hx
  · show E1.vir (oldN k L x) = _
    rw [lo x (hdE x hx)]; exact p.le.vir x hx
  · show E1.cp (oldN k L x) = _
    rw [lo x (hdE x hx)]; exact p.le.cp x hx
  · show E1.ln (oldN k L x) = _
    rw [lo x (hdE x hx)]; exact p.le.ln x hx
  · rcases Nat.lt_or_ge y k with h | h
    · have h1 := hy.1
      rw [lo y h] at h1
      rcases p.dom y h1 with h2 | h2
      · exact .inl h2
      · exact absurd h2.1 (Nat.not_le.2 h)
    · exact .inr ⟨h, hy.2⟩
  · obtain ⟨h1, h2⟩ := al y hn
    exact ⟨p.sim.dom _ trivial h1, h2⟩
  · exact p.sim.low _ trivial (al y hn).1 hv
  · obtain ⟨b, h1, rfl, _⟩ := hm y B' hB
    exact renB_ok (p.sim.blk _ b trivial h1)
  · obtain ⟨h1, h2⟩ := al y hny
    obtain ⟨h3, h4⟩ := al z hnz
    have heq := p.sim.inj _ _ trivial trivial h1 h3 hvy hvz he
    rcases Nat.lt_or_ge y k with hy | hy
    · rcases Nat.lt_or_ge z k with hz | hz
      · rw [lo y hy, lo z hz] at heq; exact heq
      · have := (hi z hz h4).2
        rw [← heq, lo y hy] at this; omega
    · rcases Nat.lt_or_ge z k with hz | hz
      · have := (hi y hy h2).2
        rw [heq, lo z hz] at this; omega
      · have k1 := (hi y hy h2).1
        have k2 := (hi z hz h4).1
        rw [heq] at k1
        have := distinct_ok hdis _ _ _ k1 k2
        omega
  · exact p.frame b hb fun x hx hxk => hne x (List.mem_filter.2 ⟨hx, by simpa [Nat.blt_eq] using hxk⟩) hxk
  · obtain ⟨k1, k2⟩ := al y hn
    obtain ⟨k3, k4⟩ := hi y h1 k2
    have hlt : oldN k L y < n1 := hn1 _ (List.mem_of_getElem? k3) k1
    rcases p.news _ k4 hlt trivial k1 hv with h | ⟨z, z1, z2, z3⟩
    · exact .inl h
    · exact .inr ⟨z, List.mem_filter.2 ⟨z1, by simpa [Nat.blt_eq] using z2⟩, z2, z3⟩
  · have := (al y hn).1
    rw [lo y hy] at this
    exact p.old y hy trivial this
theorem MutOk.le {a' : AV} {H H' : List (Nat × Option Blk)} {n1 : Nat} {wr : List Nat} (h : MutOk P f args bs a H n1 wr) (ha : ∀ E v, Rep E a v → Rep E a' v) (hH : HLe H H') : MutOk P f args bs a' H' n1 wr :=
  fun r E w vals K hd hS hargs hK => h r E w vals K hd hS hargs fun E' v w' hv p => by
    have hn : ∀ x, hget H' x ≠ none → hget H x ≠ none := fun x hx => by
      cases hB : hget H' x with
      | none => exact absurd hB hx
      | some B =>
        obtain ⟨B0, h1, _⟩ := hH x B hB
        rw [h1]; simp
    exact hK E' v w' (ha E' v hv) ⟨⟨p.le, p.dom, ⟨p.sim.fz, fun x hF hx => p.sim.dom x hF (hn x hx), fun x hF hx => p.sim.low x hF (hn x hx), fun x B hF hB => (by
      obtain ⟨B0, h1, h2⟩ := hH x B hB
      exact h2 E' x _ (p.sim.blk x B0 hF h1)), fun x y hx hy h1 h2 => p.sim.inj x y hx hy (hn x h1) (hn y h2)⟩, p.frame, fun x h1 h2 hF hx => p.news x h1 h2 hF (hn x hx), p.size, p.os, p.tape, p.output⟩, fun x h1 hF hx => p.old x h1 hF (hn x hx)⟩
/-- Blocks that are told less of. -/
inductive BsLe : List Blk → List Blk → Prop
  | nil : BsLe [] []
  | cons {b b' : Blk} {l l' : List Blk} (h : BlkLe b b') (t : BsLe l l') : BsLe (b :: l) (b' :: l')
theorem BsLe.get {l l' : List Blk} (h : BsLe l l') : l.length = l'.length ∧ ∀ (i : Nat) (B' : Blk), l'[i]? = some B' → ∃ B, l[i]? = some B ∧ BlkLe B B' := by
  induction h with
  | nil => exact ⟨rfl, fun i B h => by rw [List.getElem?_nil] at h; cases h⟩
  | @cons b b' l l' h t ih =>
    refine ⟨by simp [ih.1], fun i B hB => ?_⟩
    cases i with
    | zero => simp at hB; subst hB; exact ⟨b, rfl, h⟩
    | succ i => simp at hB; simpa using ih.2 i B hB
theorem MutOk.pre {args' : List AV} {bs' : List Blk} {H : List (Nat × Option Blk)} {n1 : Nat} {wr : List Nat} (h : MutOk P f args' bs' a H n1 wr) (ha : ∀ E vs, Reps E args vs → Reps E args' vs) (hb : BsLe bs bs') : MutOk P f args bs a H n1 wr := by
  intro r E w vals K hd hS hargs hK
  obtain ⟨hlen, hget'⟩ := hb.get
  have fwd : ∀ x B', hget (numb 0 bs') x = some B' → ∃ B, hget (numb 0 bs) x = some B ∧ BlkLe B B' := fun x B' hB => by
    rw [numb_get, if_pos (Nat.zero_le _)] at hB ⊢
    exact hget' _ B' hB
  have hn : ∀ x, hget (numb 0 bs') x ≠ none ↔ hget (numb 0 bs) x ≠ none := fun x => by
    rw [numb_get, if_pos (Nat.zero_le _), numb_get, if_pos (Nat.zero_le _), Ne, Ne, List.getElem?_eq_none_iff, List.getElem?_eq_none_iff, hlen]
  refine h r E w vals K (fun x hx => by rw [← hlen]; exact hd x hx) ⟨hS.fz, fun x hF hx => hS.dom x hF ((hn x).1 hx), fun x hF hx => hS.low x hF ((hn x).1 hx), fun x B' hF hB => ?_, fun x y hx hy h1 h2 => hS.inj x y hx hy ((hn x).1 h1) ((hn y).1 h2)⟩ (ha E _ hargs) fun E' v w' hv p => ?_
  · obtain ⟨B, h1, h2⟩ := fwd x B' hB
    exact h2 E x _ (hS.blk x B hF h1)
  · rw [← hlen] at p
    exact hK E' v w' hv ⟨⟨p.le, p.dom, p.sim, fun b hb hne => p.frame b hb fun x h1 h2 h3 => hne x h1 h2 ((hn x).1 h3), fun x h1 h2 hF hx hv => (p.news x h1 h2 hF hx hv).imp id fun ⟨y, y1, y2, y3, y4⟩ => ⟨y, y1, y2, (hn y).1 y3, y4⟩, p.size, p.os, p.tape, p.output⟩, fun x h1 hF hx => (hn x).1 (p.old x h1 hF hx)⟩
theorem mut_compact {s1 : St} {r : MRes} (h : CallOk P f args (smallS bs) a s1) (hc : compactM bs.length (a, s1) = some r) : MutOk P f args bs r.1 r.2.1 r.2.2.1 r.2.2.2 := by
  unfold compactM at hc
  dsimp only at hc
  generalize meet s1.hp bs.length 60 (idsA 5 a ++ (s1.wr.filter fun i => Nat.blt i bs.length).flatMap (idsB s1.hp)) [] = L at hc
  split at hc
  · rename_i hL
    simp only [Bool.and_eq_true] at hL
    cases hc
    intro rr E w vals K hd hS hargs hK
    refine mut_of_callok h rr E w vals K hd hS hargs fun E1 v w' hv p => ?_
    exact hK _ v w' (renA_ok 8 a v hv) (pst_ren p hd (fun x _ hx => h.grew.wf wf_small x hx) hL.1 hL.2)
  · cases hc
/-- By evaluation. -/
theorem mut_ev {cx : Cx} (hc : CtrOk cx) (hfit : Fit cx.P) {n : Nat} {fn : Func} {c : Code} (hf : cx.P.funcs[f]? = some fn) (hb : fn.body = some c) {t : Tree (Option MRes)} {H : List (Nat × Option Blk)} {n1 : Nat} {wr : List Nat}
    (h : (bodyE cx (evs cx n) fn c args (smallS bs)).map (compactM bs.length) = t) (ha : t.wp fun r => ∃ a0 H0, r = some (a0, H0, n1, wr) ∧ (∀ E v, Rep E a0 v → Rep E a v) ∧ HLe H0 H) : MutOk cx.P f args bs a H n1 wr := by
  obtain ⟨r, h1, a0, H0, rfl, h2, h3⟩ := Tree.wp_hit ha
  rw [← h] at h1
  obtain ⟨⟨b, s⟩, h4, h5⟩ := Tree.map_hit h1
  have := mut_compact (body_sound rfl hfit (evs_ok hc hfit n) hf hb h4) h5
  exact this.le h2 h3
/-! A table of such contracts. -/
def ctrM (tabM : Nat → List AV → List Blk → Option (Tree MRes)) (f : Nat) (args : List AV) (st : St) : Option (Tree (AV × St)) :=
  let L := meet st.hp 0 60 (args.flatMap (idsA 5)) []
  match distinct L, blksOf st.hp L L with
  | true, some bs => match tabM f (args.map (renA 0 L 8)) bs with
    | some t => some (t.bind fun r => match Nat.ble L.length r.2.2.1 with
      | true => .ret (renG (bigN L st.nx) 8 r.1, lifted L st r.2.1 r.2.2.1 r.2.2.2)
      | false => .fail)
    | none => none
  | _, _ => none
def TabMOk (P : Program) (tabM : Nat → List AV → List Blk → Option (Tree MRes)) : Prop := ∀ f args bs t r, tabM f args bs = some t → t.hit r → MutOk P f args bs r.1 r.2.1 r.2.2.1 r.2.2.2
def ctrOf3 (tabP tabF : Nat → List AV → Option (Tree AV)) (tabM : Nat → List AV → List Blk → Option (Tree MRes)) (f : Nat) (args : List AV) (st : St) : Option (Tree (AV × St)) := match ctrM tabM f args st with
  | some t => some t
  | none => ctrOf2 tabP tabF f args st
theorem ctrOf3_ok {tabP tabF : Nat → List AV → Option (Tree AV)} {tabM : Nat → List AV → List Blk → Option (Tree MRes)} (h : TabOk P tabP) (h2 : TabFOk P tabF) (h3 : TabMOk P tabM) (dec : Nat → St → Option Bool) : CtrOk ⟨P, ctrOf3 tabP tabF tabM, dec⟩ := by
  have h1 := ctrOf2_ok h h2 dec
  refine ⟨fun f args st t ht => ?_, fun f args st t a st' ht hh => ?_⟩
  · have ht' : ctrOf3 tabP tabF tabM f args st = some t := ht
    unfold ctrOf3 at ht'
    split at ht'
    · rename_i u hu
      cases ht'
      unfold ctrM at hu
      dsimp only at hu
      split at hu
      · rename_i bs hL hb
        split at hu
        · rename_i u' hu'
          cases hu
          have all : ∀ v : Tree MRes, v.All fun _ => True := fun v => by induction v <;> simp_all [Tree.All]
          refine (all _).bind fun r _ => ?_
          split
          · refine grew_lifted fun x hx => ?_
            obtain ⟨_, hblk⟩ := blksOf_ok hb
            obtain ⟨i, hi⟩ := List.getElem?_of_mem hx
            obtain ⟨b, q, _⟩ := hblk i x hi
            rw [q]; simp
          · trivial
        · cases hu
      · cases hu
    · exact h1.all f args st t ht'
  · have ht' : ctrOf3 tabP tabF tabM f args st = some t := ht
    unfold ctrOf3 at ht'
    split at ht'
    · rename_i u hu
      cases ht'
      unfold ctrM at hu
      dsimp only at hu
      split at hu
      · rename_i bs hL hb
        split at hu
        · rename_i u' hu'
          cases hu
          obtain ⟨r, q1, q2⟩ := Tree.hit_bind hh
          split at q2
          · rename_i hle
            cases q2
            exact lift_ok (h3 f _ bs u' r hu' q1) hL hb (Nat.le_of_ble_eq_true hle)
          · exact q2.elim
        · cases hu
      · cases hu
    · exact h1.ok f args st t a st' ht' hh
end
end Go.Proofs.YtdlghljhgbakjaaDoor

/-
  PART: contracts of functions that change blocks of their caller: a block that stayed, told with the others.
-/
namespace Go.Proofs.YtdlghljhgbakjaaDoor
open Go.RowKit
theorem mut_stay {P : Program} {f : Nat} {args : List AV} {bs : List Blk} {a : AV} {H : List (Nat × Option Blk)} {n1 : Nat} {wr : List Nat} {i : Nat} {ty : TypeId} {cs : List AV} (h : MutOk P f args bs a H n1 wr) (hB : bs[i]? = some (.fix ty cs)) (hi : i ∉ wr) (hH : hget H i = none) :
    MutOk P f args bs a ((i, some (.fix ty cs)) :: H) n1 (i :: wr) := by
  intro r E w vals K hd hS hargs hK
  refine h r E w vals K hd hS hargs fun E' v w' hv p => ?_
  have hBn : hget (numb 0 bs) i = some (.fix ty cs) := by rw [numb_get, if_pos (Nat.zero_le _)]; exact hB
  have hne : hget (numb 0 bs) i ≠ none := by rw [hBn]; simp
  have hdi := hS.dom i trivial hne
  have hb0 := hS.blk i _ trivial hBn
  have hvi : E.vir i = false := hb0.1
  have hlow := hS.low i trivial hne hvi
  have fr := p.frame (E.ρ i) hlow.1 fun x hx hxk hxn hxv he => hi (by
    have := hS.inj i x trivial trivial hne hxn hvi hxv he
    rw [this]; exact hx)
  have hik : i < bs.length := hd i hdi
  have eρ := p.le.ρ i hdi
  have ev := p.le.vir i hdi
  have hg : ∀ y, hget ((i, some (.fix ty cs)) :: H) y = if i = y then some (.fix ty cs) else hget H y := fun y => hget_cons ..
  have hn : ∀ y, i ≠ y → hget ((i, some (.fix ty cs)) :: H) y ≠ none → hget H y ≠ none := fun y hy hq => by rw [hg, if_neg hy] at hq; exact hq
  have apart : ∀ y, hget H y ≠ none → E'.vir y = false → E'.ρ i ≠ E'.ρ y := fun y hy hv he => by
    rw [eρ] at he
    rcases Nat.lt_or_ge y bs.length with h1 | h1
    · have h2 := p.old y h1 trivial hy
      have h3 := hS.dom y trivial h2
      rw [p.le.ρ y h3] at he
      rw [p.le.vir y h3] at hv
      have := hS.inj i y trivial trivial hne h2 hvi hv he
      rw [← this] at hy
      exact hy hH
    · have h2 := p.sim.dom y trivial hy
      have h3 : y < n1 := by
        rcases p.dom y h2 with h | h
        · exact absurd (hd y h) (by omega)
        · exact h.2
      rcases p.news y h1 h3 trivial hy hv with h4 | ⟨z, z1, z2, z3, z4, z5⟩
      · rw [← he] at h4; omega
      · rw [← he] at z5
        have := hS.inj i z trivial trivial hne z3 hvi z4 z5
        rw [this] at hi
        exact hi z1
  refine hK E' v w' hv ⟨⟨p.le, p.dom, ⟨p.sim.fz, fun y _ hy => ?_, fun y _ hy hv => ?_, fun y B _ hB' => ?_, fun y z _ _ hy hz hvy hvz he => ?_⟩, fun b hb hne' => p.frame b hb fun x hx => hne' x (List.mem_cons_of_mem _ hx), fun y h1 h2 _ hy hv => ?_, p.size, p.os, p.tape, p.output⟩, fun y h1 _ hy => ?_⟩
  · by_cases e : i = y
    · rw [← e]; exact p.le.dom i hdi
    · exact p.sim.dom y trivial (hn y e hy)
  · by_cases e : i = y
    · rw [← e, eρ]
      refine ⟨Nat.lt_of_lt_of_le hlow.1 p.size, ?_⟩
      rw [fr.2]; exact hlow.2
    · exact p.sim.low y trivial (hn y e hy) hv
  · rw [hg] at hB'
    by_cases e : i = y
    · rw [if_pos e] at hB'; cases hB'
      rw [← e, eρ, fr.1]
      exact hb0.mono p.le hdi
    · rw [if_neg e] at hB'; exact p.sim.blk y B trivial hB'
  · by_cases e : i = y
    · by_cases e2 : i = z
      · rw [← e, ← e2]
      · rw [← e] at he; exact absurd he (apart z (hn z e2 hz) hvz)
    · by_cases e2 : i = z
      · rw [← e2] at he; exact absurd he.symm (apart y (hn y e hy) hvy)
      · exact p.sim.inj y z trivial trivial (hn y e hy) (hn z e2 hz) hvy hvz he
  · by_cases e : i = y
    · omega
    · exact (p.news y h1 h2 trivial (hn y e hy) hv).imp id fun ⟨z, z1, z2⟩ => ⟨z, List.mem_cons_of_mem _ z1, z2⟩
  · by_cases e : i = y
    · rw [← e]; exact hne
    · exact p.old y h1 trivial (hn y e hy)
end Go.Proofs.YtdlghljhgbakjaaDoor
