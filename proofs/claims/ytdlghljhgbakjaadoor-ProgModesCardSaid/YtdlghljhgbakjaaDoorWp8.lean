/-
  PARTS, one behind the other: P2.
-/
import Derived.Test.YtdlghljhgbakjaaDoorWp7
/-
  PART: law 9 (ProgModes): it answers true.
-/
namespace Go.Proofs.YtdlghljhgbakjaaDoor
open Go.RowKit
noncomputable section
theorem lit_of_v {v : Value} : ∀ E u, Rep E (.v v) u → Rep E (.lit v) u := fun E u h => by cases h with | v v h => exact .lit _ h
theorem v_of_lit {v : Value} : ∀ E u, Rep E (.lit v) u → Rep E (.v v) u := fun E u h => by cases h with | lit v h => exact .v _ h
theorem rep_self {a : AV} : ∀ E v, Rep E a v → Rep E a v := fun _ _ h => h
theorem wk37 : ((evs (cxJ (decL [])) 200).call 37 [] .nil).frz = .ret (.lit (.bool true)) := by kernel_rfl
theorem wakes37 : FrzOk Tryd.prog 37 [] (.lit (.bool true)) := frz_ev (cxJ_ok _) fitTry wk37 rep_self
noncomputable def modeS (m : Int) : ByteArray := ⟨(modesL.getD m.toNat []).toArray⟩
noncomputable def u8L (k : Nat) : AV := .lit (.int .u8 (k : Nat))
theorem md32 : (List.range 256).map (fun m => (callT 60 32 [u8L m]).ans) = (List.range 256).map fun m => .ret (.lit (.string (modeS (m : Nat)))) := by kernel_rfl
theorem md33 : (List.range 256).map (fun m => (callT 60 33 [u8L m]).ans) = (List.range 256).map fun m => .ret (.lit (.string (modeS (m : Nat)))) := by kernel_rfl
theorem map_at {α : Type} {f g : Nat → α} {n i : Nat} (h : (List.range n).map f = (List.range n).map g) (hi : i < n) : f i = g i := by
  have := congrArg (fun l => l[i]?) h
  simp only [List.getElem?_map, List.getElem?_range hi, Option.map_some, Option.some.injEq] at this
  exact this
theorem rep_at {α : Type} {f : Nat → α} {T : α} {n i : Nat} (h : (List.range n).map f = List.replicate n T) (hi : i < n) : f i = T := by
  have := congrArg (fun l => l[i]?) h
  simp only [List.getElem?_map, List.getElem?_range hi, Option.map_some, List.getElem?_replicate, if_pos hi, Option.some.injEq] at this
  exact this
theorem u8_nat {m : Int} (h : 0 ≤ m ∧ m < 256) : ((m.toNat : Nat) : Int) = m := by omega
theorem mode_pure {f : Nat} (h : (List.range 256).map (fun m => (callT 60 f [u8L m]).ans) = (List.range 256).map fun m => .ret (.lit (.string (modeS (m : Nat))))) {m : Int} (hm : 0 ≤ m ∧ m < 256) : PureOk Tryd.prog f [.v (.int .u8 m)] (.v (.string (modeS m))) := by
  have h1 := map_at h (show m.toNat < 256 by omega)
  have h2 : PureOk Tryd.prog f [u8L m.toNat] (.lit (.string (modeS (m.toNat : Nat)))) := pure_hitX (cx := cxJ (decL [])) (cxJ_ok _) rfl (n := 60) h1 rfl rfl
  unfold u8L at h2
  rw [u8_nat hm] at h2
  exact (h2.pre fun E vs hv => by cases hv with | cons a t => exact .cons (lit_of_v _ _ a) t).imp fun v hv E => v_of_lit _ _ (hv E)
/-- The law's table. -/
noncomputable def tab9 (f : Nat) (args : List AV) : Option (Tree AV) := match f, args with
  | 37, [] => some (.side (FrzOk Tryd.prog 37 [] (.lit (.bool true))) (.ret (.lit (.bool true))))
  | _, _ => none
theorem tab9_ok : TabFOk Tryd.prog tab9 := by
  intro f args t b ht hh
  unfold tab9 at ht
  split at ht
  · cases ht
    obtain ⟨h1, h2⟩ := hh
    cases h2
    exact h1
  · cases ht
noncomputable def tab9P (f : Nat) (args : List AV) : Option (Tree AV) := match f, args with
  | 32, [.v (.int .u8 m)] => some (.side (PureOk Tryd.prog 32 [.v (.int .u8 m)] (.v (.string (modeS m)))) (.ret (.v (.string (modeS m)))))
  | 33, [.v (.int .u8 m)] => some (.side (PureOk Tryd.prog 33 [.v (.int .u8 m)] (.v (.string (modeS m)))) (.ret (.v (.string (modeS m)))))
  | _, _ => none
theorem tab9P_ok : TabOk Tryd.prog tab9P := by
  intro f args t b ht hh
  unfold tab9P at ht
  split at ht
  · cases ht
    obtain ⟨h1, h2⟩ := hh
    cases h2
    exact h1
  · cases ht
    obtain ⟨h1, h2⟩ := hh
    cases h2
    exact h1
  · cases ht
noncomputable def cx9 (dec : Nat → St → Option Bool) : Cx := ⟨Tryd.prog, ctrOf2 tab9P tab9, dec⟩
theorem cx9_ok (dec : Nat → St → Option Bool) : CtrOk (cx9 dec) := ctrOf2_ok tab9P_ok tab9_ok dec
noncomputable def res9 : St → Option AV := resF Tryd.prog Tryd.f9.results.toList
noncomputable def rnd9 (dec ds : List (Nat × Bool)) (c : Code) (s : St) : Tree Lf := (codeE (cx9 (decL dec)) (evs (cx9 (decL dec)) 200) c s).map (lfR 0 ds false res9)
noncomputable def nrm (s : St) : Tree Lf := .ret (.go .norm (some s))
theorem code9 : c9 = seqs (firsts 6 c9) (behind 6 c9) := by kernel_rfl
noncomputable def sdM (f : Nat) (m : Int) : Prop := PureOk Tryd.prog f [.v (.int .u8 m)] (.v (.string (modeS m)))
noncomputable def decD (q : Nat) (l : List (Nat × Bool)) (t : Nat) (st : St) : Option Bool := match Nat.beq t 56 with
  | true => match look st.sl 11 with
    | .lit (.int _ i) => some (decide (i < (q : Int)))
    | _ => none
  | false => decL l t st
noncomputable def rnd9D (q : Nat) (dec ds : List (Nat × Bool)) (c : Code) (s : St) : Tree Lf := (codeE (cx9 (decD q dec)) (evs (cx9 (decD q dec)) 200) c s).map (lfR 0 ds false res9)
noncomputable def s9v (z : Int) : St := { sl := [(2, .v (.int .u8 z))], hp := [], nx := 0, rd := [], wr := [], ws := [], wb := [] }
noncomputable def TA (m z : Int) : Tree Lf := .side (sdM 32 m) (.side (sdM 33 m) (.side ((!((modeS m).toList == (modeS m).toList)) = false) (nrm (s9v z))))
noncomputable def decA : List (Nat × Bool) := [(15,false),(18,false),(4,false),(7,false),(10,false),(30,false)]
noncomputable def rA (m z : Int) (k : AV) : Tree Lf := rnd9 decA [(2, false)] (joins (firsts 6 c9)) (entry [.v (.int .u8 m), k, .v (.int .u8 z)])
theorem sa2 (m z : Int) : rA m z (u8L 2) = TA m z := by kernel_rfl
theorem sa3 (m z : Int) : rA m z (u8L 3) = TA m z := by kernel_rfl
theorem sa4 (m z : Int) : rA m z (u8L 4) = TA m z := by kernel_rfl
theorem sa5 (m z : Int) : rA m z (u8L 5) = TA m z := by kernel_rfl
theorem sa6 (m z : Int) : rA m z (u8L 6) = TA m z := by kernel_rfl
theorem sa7 (m z : Int) : rA m z (u8L 7) = TA m z := by kernel_rfl
theorem sao (m z k : Int) : rA m z (.v (.int .u8 k)) = .side ((k == 2) = false) (.side ((k == 3) = false) (.side ((k == 4) = false) (.side ((k == 5) = false) (.side ((k == 6) = false) (.side ((k == 7) = false) (.side ((k == 2) = false) (.side ((k == 3) = false) (.side ((k == 4) = false) (.side ((k == 5) = false) (.side ((k == 6) = false) (.side ((k == 7) = false) (TA m z)))))))))))) := by kernel_rfl
noncomputable def Q9 (z : Int) : Int := (IntKind.i64.wrap z).tmod 20
def sidesL {α : Type} : List Prop → Tree α → Tree α
  | [], t => t
  | p :: l, t => .side p (sidesL l t)
theorem sidesL_wp {α : Type} {Q : α → Prop} {t : Tree α} (ht : t.wp Q) : ∀ {l : List Prop}, (∀ p, p ∈ l → p) → (sidesL l t).wp Q
  | [], _ => ht
  | p :: l, h => ⟨h p (List.mem_cons_self ..), sidesL_wp ht fun q hq => h q (List.mem_cons_of_mem _ hq)⟩
noncomputable def psB (q : Nat) (a b z : Int) : List Prop := (List.range q).flatMap (fun (i : Nat) => [(20 : Int) ≠ 0, decide ((i : Int) < Q9 z) = true]) ++ [(20 : Int) ≠ 0, decide ((q : Int) < Q9 z) = false, (20 : Int) ≠ 0, (a == if (9 : Int) < IntKind.i64.wrap (Q9 z + 1) then (9 : Int) else IntKind.i64.wrap (Q9 z + 1)) = true, (b == if (8 : Int) < Q9 z then (8 : Int) else Q9 z) = true, FrzOk Tryd.prog 37 [] (.lit (.bool true))]
noncomputable def rB (q : Nat) (z : Int) : Tree Lf := rnd9D q [(76,true),(82,true)] [] (behind 6 c9) (s9v z)
noncomputable def TB : Tree Lf := .ret (.out (.lit (.bool true)))
def IsB (q : Nat) (a b z : Int) : Prop := rB q z = sidesL (psB q a b z) TB
theorem sb0 (z : Int) : IsB 0 1 0 z := show rB 0 z = sidesL (psB 0 1 0 z) TB by kernel_rfl
theorem sb1 (z : Int) : IsB 1 2 1 z := show rB 1 z = sidesL (psB 1 2 1 z) TB by kernel_rfl
theorem sb2 (z : Int) : IsB 2 3 2 z := show rB 2 z = sidesL (psB 2 3 2 z) TB by kernel_rfl
theorem sb3 (z : Int) : IsB 3 4 3 z := show rB 3 z = sidesL (psB 3 4 3 z) TB by kernel_rfl
theorem sb4 (z : Int) : IsB 4 5 4 z := show rB 4 z = sidesL (psB 4 5 4 z) TB by kernel_rfl
theorem sb5 (z : Int) : IsB 5 6 5 z := show rB 5 z = sidesL (psB 5 6 5 z) TB by kernel_rfl
theorem sb6 (z : Int) : IsB 6 7 6 z := show rB 6 z = sidesL (psB 6 7 6 z) TB by kernel_rfl
theorem sb7 (z : Int) : IsB 7 8 7 z := show rB 7 z = sidesL (psB 7 8 7 z) TB by kernel_rfl
theorem sb8 (z : Int) : IsB 8 9 8 z := show rB 8 z = sidesL (psB 8 9 8 z) TB by kernel_rfl
theorem sb9 (z : Int) : IsB 9 9 8 z := show rB 9 z = sidesL (psB 9 9 8 z) TB by kernel_rfl
theorem sb10 (z : Int) : IsB 10 9 8 z := show rB 10 z = sidesL (psB 10 9 8 z) TB by kernel_rfl
theorem sb11 (z : Int) : IsB 11 9 8 z := show rB 11 z = sidesL (psB 11 9 8 z) TB by kernel_rfl
theorem sb12 (z : Int) : IsB 12 9 8 z := show rB 12 z = sidesL (psB 12 9 8 z) TB by kernel_rfl
theorem sb13 (z : Int) : IsB 13 9 8 z := show rB 13 z = sidesL (psB 13 9 8 z) TB by kernel_rfl
theorem sb14 (z : Int) : IsB 14 9 8 z := show rB 14 z = sidesL (psB 14 9 8 z) TB by kernel_rfl
theorem sb15 (z : Int) : IsB 15 9 8 z := show rB 15 z = sidesL (psB 15 9 8 z) TB by kernel_rfl
theorem sb16 (z : Int) : IsB 16 9 8 z := show rB 16 z = sidesL (psB 16 9 8 z) TB by kernel_rfl
theorem sb17 (z : Int) : IsB 17 9 8 z := show rB 17 z = sidesL (psB 17 9 8 z) TB by kernel_rfl
theorem sb18 (z : Int) : IsB 18 9 8 z := show rB 18 z = sidesL (psB 18 9 8 z) TB by kernel_rfl
theorem sb19 (z : Int) : IsB 19 9 8 z := show rB 19 z = sidesL (psB 19 9 8 z) TB by kernel_rfl
theorem psB_ok {q : Nat} {a b z : Int} (hq : q < 20) (hz : Q9 z = q) (ha : a = min ((q : Int) + 1) 9) (hb : b = min (q : Int) 8) (p : Prop) (hp : p ∈ psB q a b z) : p := by
  have hw : IntKind.i64.wrap ((q : Int) + 1) = q + 1 := IntWalk.i64_in _ ⟨by omega, by omega⟩
  unfold psB at hp
  rw [hz, hw] at hp
  rcases List.mem_append.1 hp with hp | hp
  · obtain ⟨i, hi, hp⟩ := List.mem_flatMap.1 hp
    have hi := List.mem_range.1 hi
    simp only [List.mem_cons, List.not_mem_nil, or_false] at hp
    rcases hp with rfl | rfl
    · decide
    · exact decide_eq_true (by omega)
  · simp only [List.mem_cons, List.not_mem_nil, or_false] at hp
    rcases hp with rfl | rfl | rfl | rfl | rfl | rfl
    · decide
    · exact decide_eq_false (by omega)
    · decide
    · rw [beq_iff_eq, ha]; split <;> omega
    · rw [beq_iff_eq, hb]; split <;> omega
    · exact wakes37
theorem rb_of {q : Nat} {a b z : Int} (h : IsB q a b z) (hq : q < 20) (hz : Q9 z = q) (ha : a = min ((q : Int) + 1) 9) (hb : b = min (q : Int) 8) : ∃ ps, rB q z = sidesL ps TB ∧ ∀ p, p ∈ ps → p :=
  ⟨_, h, psB_ok hq hz ha hb⟩
theorem isB_ex {q : Nat} {z : Int} (hq : q < 20) : ∃ a b, IsB q a b z ∧ a = min ((q : Int) + 1) 9 ∧ b = min (q : Int) 8 := by
  if h0 : q = 0 then exact ⟨1, 0, by subst h0; exact sb0 z, by omega, by omega⟩ else
  if h1 : q = 1 then exact ⟨2, 1, by subst h1; exact sb1 z, by omega, by omega⟩ else
  if h2 : q = 2 then exact ⟨3, 2, by subst h2; exact sb2 z, by omega, by omega⟩ else
  if h3 : q = 3 then exact ⟨4, 3, by subst h3; exact sb3 z, by omega, by omega⟩ else
  if h4 : q = 4 then exact ⟨5, 4, by subst h4; exact sb4 z, by omega, by omega⟩ else
  if h5 : q = 5 then exact ⟨6, 5, by subst h5; exact sb5 z, by omega, by omega⟩ else
  if h6 : q = 6 then exact ⟨7, 6, by subst h6; exact sb6 z, by omega, by omega⟩ else
  if h7 : q = 7 then exact ⟨8, 7, by subst h7; exact sb7 z, by omega, by omega⟩ else
  if h8 : q = 8 then exact ⟨9, 8, by subst h8; exact sb8 z, by omega, by omega⟩ else
  if h9 : q = 9 then exact ⟨9, 8, by subst h9; exact sb9 z, by omega, by omega⟩ else
  if h10 : q = 10 then exact ⟨9, 8, by subst h10; exact sb10 z, by omega, by omega⟩ else
  if h11 : q = 11 then exact ⟨9, 8, by subst h11; exact sb11 z, by omega, by omega⟩ else
  if h12 : q = 12 then exact ⟨9, 8, by subst h12; exact sb12 z, by omega, by omega⟩ else
  if h13 : q = 13 then exact ⟨9, 8, by subst h13; exact sb13 z, by omega, by omega⟩ else
  if h14 : q = 14 then exact ⟨9, 8, by subst h14; exact sb14 z, by omega, by omega⟩ else
  if h15 : q = 15 then exact ⟨9, 8, by subst h15; exact sb15 z, by omega, by omega⟩ else
  if h16 : q = 16 then exact ⟨9, 8, by subst h16; exact sb16 z, by omega, by omega⟩ else
  if h17 : q = 17 then exact ⟨9, 8, by subst h17; exact sb17 z, by omega, by omega⟩ else
  if h18 : q = 18 then exact ⟨9, 8, by subst h18; exact sb18 z, by omega, by omega⟩ else
  if h19 : q = 19 then exact ⟨9, 8, by subst h19; exact sb19 z, by omega, by omega⟩ else
  omega
theorem rB_ex {q : Nat} {z : Int} (hq : q < 20) (hz : Q9 z = q) : ∃ ps, rB q z = sidesL ps TB ∧ ∀ p, p ∈ ps → p := by
  obtain ⟨a, b, h1, h2, h3⟩ := isB_ex (z := z) hq
  exact rb_of h1 hq hz h2 h3
section
variable {Bt : Start} {Q : Ex → St → Prop} {O : AV → Prop}
theorem wpc9 (hB : Bt.nx0 = 0) {q : Nat} {dec ds : List (Nat × Bool)} {c : Code} {s : St} (hc : codeOk Bt.N c = true) (h : (rnd9D q dec ds c s).wp (LfQ Q O)) (ho : ∀ s a, res9 s = some a → O a → Q .ret s) : WpC Tryd.prog Bt c s Q :=
  wpc_of_lfR (B := Bt) (cx := cx9 (decD q dec)) (n := 200) (ds := ds) (gb := false) (res := res9) (O := O) (cx9_ok _) fitTry hc (by rw [hB]; exact h) ho
theorem stg9 (hB : Bt.nx0 = 0) {dec ds : List (Nat × Bool)} {l : List Code} {c : Code} {s : St} (hl : l ≠ []) (hc : (l.all fun a => codeOk Bt.N a) = true) (h : (rnd9 dec ds (joins l) s).wp (LfQ (fun x m => match x with | .norm => WpC Tryd.prog Bt c m Q | x => Q x m) O)) (ho : ∀ s a, res9 s = some a → O a → Q .ret s) : WpC Tryd.prog Bt (seqs l c) s Q :=
  wpc_stageR (B := Bt) (cx := cx9 (decL dec)) (n := 200) (ds := ds) (gb := false) (res := res9) (O := O) (cx9_ok _) fitTry hl hc (by rw [hB]; exact h) ho
end
noncomputable def OT (a : AV) : Prop := ∀ E v, Rep E a v → Rep E (.lit (.bool true)) v
theorem law9_ways {m z : Int} (hm : 0 ≤ m ∧ m < 256) (hz : 0 ≤ z ∧ z < 256) {k : AV} {pa : List Prop} (a1 : rA m z k = sidesL pa (TA m z)) (a2 : ∀ p, p ∈ pa → p) : FrzOk Tryd.prog 9 [.v (.int .u8 m), k, .v (.int .u8 z)] (.lit (.bool true)) := by
  have hq : Q9 z = ((z.toNat % 20 : Nat) : Int) := by
    unfold Q9
    rw [IntWalk.i64_in z ⟨by omega, by omega⟩, Int.tmod_eq_emod_of_nonneg hz.1]
    omega
  obtain ⟨ps, h1, h2⟩ := rB_ex (z := z) (Nat.mod_lt z.toNat (show 0 < 20 by decide)) hq
  have h3 : rnd9D (z.toNat % 20) [(76,true),(82,true)] [] (behind 6 c9) (s9v z) = sidesL ps TB := h1
  refine frz_of_ends fitTry Tryd.func9 (c := c9) (by kernel_rfl) (Nat.le_of_ble_eq_true (by kernel_rfl)) (O := OT) (fun E w hd' hf => ?_) fun a' h => h
  rw [code9]
  refine stg9 (O := OT) rfl (dec := decA) (ds := [(2, false)]) (by simp [firsts]) (by kernel_rfl) ?_ ends_ret
  have a3 : rnd9 decA [(2, false)] (joins (firsts 6 c9)) (entry [.v (.int .u8 m), k, .v (.int .u8 z)]) = sidesL pa (TA m z) := a1
  rw [a3]
  refine sidesL_wp ?_ a2
  refine ⟨mode_pure md32 hm, mode_pure md33 hm, ?_, ?_⟩
  · rw [beq_self_eq_true]; rfl
  show WpC _ _ _ _ _
  refine wpc9 (O := OT) rfl (q := z.toNat % 20) (dec := [(76,true),(82,true)]) (ds := []) (by kernel_rfl) ?_ ends_ret
  rw [h3]
  refine sidesL_wp ?_ h2
  show OT _
  exact fun _ _ h => h
theorem k_lit {m k z : Int} {c : Nat} (h : k = c) (H : FrzOk Tryd.prog 9 [.v (.int .u8 m), u8L c, .v (.int .u8 z)] (.lit (.bool true))) : FrzOk Tryd.prog 9 [.v (.int .u8 m), .v (.int .u8 k), .v (.int .u8 z)] (.lit (.bool true)) := by
  subst h
  exact fun r E w vals K hd hf hr hK => H r E w vals K hd hf (by generalize vals.toList = vs at hr; cases hr with | cons a t => cases t with | cons b t => exact .cons a (.cons (lit_of_v _ _ b) t)) hK
theorem law9_frz {m k z : Int} (hm : 0 ≤ m ∧ m < 256) (hz : 0 ≤ z ∧ z < 256) : FrzOk Tryd.prog 9 [.v (.int .u8 m), .v (.int .u8 k), .v (.int .u8 z)] (.lit (.bool true)) := by
  by_cases h2 : k = 2
  · exact k_lit h2 (law9_ways (pa := []) hm hz (sa2 m z) (fun _ h => by cases h))
  by_cases h3 : k = 3
  · exact k_lit h3 (law9_ways (pa := []) hm hz (sa3 m z) (fun _ h => by cases h))
  by_cases h4 : k = 4
  · exact k_lit h4 (law9_ways (pa := []) hm hz (sa4 m z) (fun _ h => by cases h))
  by_cases h5 : k = 5
  · exact k_lit h5 (law9_ways (pa := []) hm hz (sa5 m z) (fun _ h => by cases h))
  by_cases h6 : k = 6
  · exact k_lit h6 (law9_ways (pa := []) hm hz (sa6 m z) (fun _ h => by cases h))
  by_cases h7 : k = 7
  · exact k_lit h7 (law9_ways (pa := []) hm hz (sa7 m z) (fun _ h => by cases h))
  have e : ∀ c : Int, k ≠ c → (k == c) = false := fun c hc => beq_eq_false_iff_ne.2 hc
  refine law9_ways (pa := [(k == 2) = false, (k == 3) = false, (k == 4) = false, (k == 5) = false, (k == 6) = false, (k == 7) = false, (k == 2) = false, (k == 3) = false, (k == 4) = false, (k == 5) = false, (k == 6) = false, (k == 7) = false]) hm hz (sao m z k) (fun p hp => ?_)
  simp only [List.mem_cons, List.not_mem_nil, or_false] at hp
  rcases hp with rfl | rfl | rfl | rfl | rfl | rfl | rfl | rfl | rfl | rfl | rfl | rfl
  · exact e 2 h2
  · exact e 3 h3
  · exact e 4 h4
  · exact e 5 h5
  · exact e 6 h6
  · exact e 7 h7
  · exact e 2 h2
  · exact e 3 h3
  · exact e 4 h4
  · exact e 5 h5
  · exact e 6 h6
  · exact e 7 h7
end
end Go.Proofs.YtdlghljhgbakjaaDoor
