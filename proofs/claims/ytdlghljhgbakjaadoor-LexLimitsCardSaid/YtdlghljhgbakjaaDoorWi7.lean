/-
  PARTS, one behind the other: L1 L2 L3 L4 L5 L6 L7 L8 L9 LA LB LC LD LE LF LG LH LI LJ LK LM LN LO.
-/
import Derived.Test.YtdlghljhgbakjaaDoorWi6
import Derived.Lib.AtoiErrMem
/-
  PART: bytes; contracts out of calls that are proved by other means.
-/
namespace Go.Proofs.YtdlghljhgbakjaaDoor
open Go.RowKit
abbrev Bs := List UInt8
noncomputable def B (l : List UInt8) : ByteArray := ⟨l.toArray⟩
theorem B_app (a b : List UInt8) : B a ++ B b = B (a ++ b) := by
  apply ByteArray.ext
  simp [B]
theorem B_size (a : List UInt8) : (B a).size = a.length := by simp [B, ByteArray.size]
theorem B_data (a : List UInt8) : (B a).data.toList = a := rfl
theorem B_extract (l : List UInt8) (i j : Nat) : (B l).extract i j = B ((l.take j).drop i) := by
  apply ByteArray.ext
  rw [ByteArray.data_extract]
  apply Array.ext'
  rw [Array.toList_extract]
  simp [B, List.extract_eq_take_drop, List.drop_take]
theorem bloop (bs : ByteArray) : ∀ k i r, bs.size - i = k → ByteArray.toList.loop bs i r = r.reverse ++ bs.data.toList.drop i := by
  intro k
  induction k with
  | zero =>
    intro i r h
    unfold ByteArray.toList.loop
    rw [if_neg (by omega), List.drop_eq_nil_of_le (by rw [Array.length_toList]; show bs.size ≤ i; omega), List.append_nil]
  | succ k ih =>
    intro i r h
    have hi : i < bs.data.size := by show i < bs.size; omega
    unfold ByteArray.toList.loop
    rw [if_pos (by show i < bs.size; omega), ih (i + 1) _ (by omega)]
    have hd : bs.data.toList.drop i = bs.data[i] :: bs.data.toList.drop (i + 1) := by
      rw [List.drop_eq_getElem_cons (i := i) (by rw [Array.length_toList]; exact hi)]
      simp
    rw [hd]
    have : bs.get! i = bs.data[i] := by
      show bs.data[i]! = _
      rw [getElem!_pos bs.data i hi]
    simp [this]
theorem B_toList (l : List UInt8) : (B l).toList = l := by
  show ByteArray.toList.loop (B l) 0 [] = l
  rw [bloop _ _ _ _ rfl]; simp [B]
theorem v_of_lit {v : Value} : ∀ E u, Rep E (.lit v) u → Rep E (.v v) u := fun E u h => by cases h with | lit v h => exact .v _ h
theorem lit_of_v {v : Value} : ∀ E u, Rep E (.v v) u → Rep E (.lit v) u := fun E u h => by cases h with | v v h => exact .lit _ h
theorem pure_body {cx : Cx} (hc : CtrOk cx) (hfit : Fit cx.P) {n f : Nat} {fn : Func} {c : Code} (hf : cx.P.funcs[f]? = some fn) (hb : fn.body = some c) {args : List AV} {t : Tree AV} {a : AV} (h : (bodyE cx (evs cx n) fn c args .nil).ans = t)
    (ha : t.hit a) {d : Nat} (hp : plainA d a = true) : PureOk cx.P f args a := by
  rw [← h] at ha
  obtain ⟨s, k⟩ := Tree.ans_hit ha
  have ok := body_sound rfl hfit (evs_ok hc hfit n) hf hb k
  intro rr E w vals K hd hfz hargs hK
  refine ok.run rr (fun _ => True) E w vals K (fun x hx => by exact absurd rfl hx) (fun _ _ => trivial) (fun x _ _ hx => hd x hx) ⟨hfz, fun x _ hn => absurd rfl hn, fun x _ hn => absurd rfl hn, fun x B _ hB => (by cases hB), fun x y _ _ hn => absurd rfl hn⟩ hargs fun E' v w' hv p => ?_
  refine hK v w' (fun E2 => plain_ok d a v hp hv) ⟨fun b hb => (p.frame b hb fun x _ hx => ?_).1, p.size, p.os, p.tape, p.output⟩
  exact absurd hx (Nat.not_lt_zero x)
theorem frz_of_calls {P : Program} {f : Nat} {fn : Func} {c : Code} (hfit : Fit P) (hfn : P.funcs[f]? = some fn) (hb : fn.body = some c) {args : List AV} {a : AV}
    (h : ∀ (E : Env) (w : World) (vals : Array Value), FzOk E w → Reps E args vals.toList → Calls P f vals w fun e w' => ∃ v, e = .returned v ∧ Rep E a v ∧ Below w.heap.size w w') : FrzOk P f args a := by
  intro rr E w vals K hd hf hr hK
  have hname' : ¬ fn.name = "runtime.NumGoroutine" := by simpa using (fit_func hfit hfn hb).2
  refine .inr ⟨by simp [callFunc, hfn, hname', hb], ?_⟩
  have hc : CallsIn Fence.wide 0 P f vals w fun e w' => ∃ v, e = .returned v ∧ K v w' := callsIn_wide.2 ((h E w vals hf hr).mono fun e w' ⟨v, h2, h3, h4⟩ => by
    have hq : Quiet w w' := ⟨fun b hb => h4.block b hb, h4.size, h4.os, h4.tape, h4.output⟩
    exact ⟨v, h2, hK v w' E hd (fun _ _ h => h) (fun _ _ => rfl) (fun b c hb => by
      obtain ⟨ty, fr, h⟩ := hf b c hb
      exact ⟨ty, fr, (hq.old b (blkW_some_lt h)).trans h⟩) h3 hq⟩)
  cases rr with
  | none => exact hc
  | some l => exact hc.inRound l
theorem pure_of_calls {P : Program} {f : Nat} {fn : Func} {c : Code} (hfit : Fit P) (hfn : P.funcs[f]? = some fn) (hb : fn.body = some c) {args : List AV} {v0 : Value} (h1 : one1 v0 = true)
    (h : ∀ (E : Env) (w : World) (vals : Array Value), FzOk E w → Reps E args vals.toList → Calls P f vals w fun e w' => e = .returned v0 ∧ w' = w) : PureOk P f args (.v v0) := by
  intro rr E w vals K hd hf hr hK
  have hname' : ¬ fn.name = "runtime.NumGoroutine" := by simpa using (fit_func hfit hfn hb).2
  refine .inr ⟨by simp [callFunc, hfn, hname', hb], ?_⟩
  have hc : CallsIn Fence.wide 0 P f vals w fun e w' => ∃ v, e = .returned v ∧ K v w' := callsIn_wide.2 ((h E w vals hf hr).mono fun e w' ⟨h2, h3⟩ => by
    subst h2 h3
    exact ⟨v0, rfl, hK v0 _ (fun E => .v _ h1) ⟨fun _ _ => rfl, Nat.le_refl _, rfl, rfl, rfl⟩⟩)
  cases rr with
  | none => exact hc
  | some l => exact hc.inRound l
/-- A variable that holds a number. -/
theorem int_cell {E : Env} {w : World} (hf : FzOk E w) : ∃ z, w.cell? ⟨5, 0, none⟩ = some (.int .i64 z) := by
  obtain ⟨c, h1, z, h2⟩ := (E.gok 5).2 .int rfl
  obtain ⟨ty, fr, h3⟩ := hf 5 c h1
  subst h2
  refine ⟨z, ?_⟩
  have h3 : w.heap[5]? = some (.cells #[.int .i64 z] ty fr) := h3
  simp [World.cell?, h3]
theorem ifc_cell {E : Env} {w : World} (hf : FzOk E w) : ∃ t p, w.cell? ⟨3, 0, none⟩ = some (.iface t p) := by
  obtain ⟨c, h1, t, p, h2⟩ := (E.gok 3).2 .ifc rfl
  obtain ⟨ty, fr, h3⟩ := hf 3 c h1
  subst h2
  refine ⟨t, p, ?_⟩
  have h3 : w.heap[3]? = some (.cells #[.iface t p] ty fr) := h3
  simp [World.cell?, h3]
/-! strings.Contains, strconv.ParseUint. -/
theorem contains103 (S l : List UInt8) (hS : S.length < 4294967281) : PureOk Tryd.prog 103 [.lit (.string (B S)), .v (.string (B l))] (.v (.bool (Lib.contains S l))) :=
  pure_of_calls fitTry Tryd.func103 (c := codeOf Tryd.f103) (by kernel_rfl) rfl fun E w vals hf hr => by
    obtain ⟨z, hz⟩ := int_cell hf
    have hv : vals = #[.string (B S), .string (B l)] := Array.ext' (by
      generalize vals.toList = vs at hr
      cases hr with | cons h1 h => cases h with | cons h2 h => cases h; cases h1; cases h2; rfl)
    subst hv
    exact shf_strings_Contains (B S) (B l) z w (by rw [B_size]; exact hS) hz
noncomputable def ifcP : (Nat → Option (Array Value)) → Value → Prop := fun _ v => ∃ t p, v = .iface t p
theorem ifcP_nonNil : NonNil ifcP := fun _ _ h => h
noncomputable def numArgs (l : List UInt8) : List AV := [.v (.string (B l)), .lit (.int .i64 10), .lit (.int .i64 64)]
theorem numVals {E : Env} {l : List UInt8} {vals : Array Value} (hr : Reps E (numArgs l) vals.toList) : vals = #[.string (B l), .int .i64 10, .int .i64 64] := Array.ext' (by
  unfold numArgs at hr
  generalize vals.toList = vs at hr
  cases hr with | cons h1 h => cases h with | cons h2 h => cases h with | cons h3 h => cases h; cases h1; cases h2; cases h3; rfl)
theorem num_ok {l : List UInt8} {u : Nat} (hl : l.length ≤ 1000000) (h : Lib.parseUintB 64 l = .ok u) : FrzOk Tryd.prog 63 (numArgs l) (.tup [.v (.int .u64 (u : Nat)), .lit .nilIface]) :=
  frz_of_calls fitTry Tryd.func63 (c := codeOf Tryd.f63) (by kernel_rfl) fun E w vals hf hr => by
    rw [numVals hr]
    refine (shf_strconv_ParseUint_10_at64_ok (B l) (by rw [B_size]; omega) u h w).mono fun e w' ⟨h1, h2⟩ => ⟨_, h1, .tup (.cons (.v _ rfl) (.cons (.lit _ rfl) .nil)), ?_⟩
    rcases h2 with rfl | rfl
    · exact Below.refl _ _
    · exact Lib.bytesWorld_below w 5 (B l)
theorem num_range {l : List UInt8} (hl : l.length ≤ 1000000) (h : Lib.parseUintB 64 l = .range) : FrzOk Tryd.prog 63 (numArgs l) (.tup [.v (.int .u64 18446744073709551615), .any ifcP]) :=
  frz_of_calls fitTry Tryd.func63 (c := codeOf Tryd.f63) (by kernel_rfl) fun E w vals hf hr => by
    rw [numVals hr]
    obtain ⟨t, p, hc⟩ := ifc_cell hf
    exact (shf_strconv_ParseUint_10_at64_range (B l) (by rw [B_size]; omega) h (.iface t p) w hc (.inr ⟨t, p, rfl⟩)).mono fun e w' ⟨N, h1, _, _, h2⟩ => ⟨_, h1, .tup (.cons (.v _ rfl) (.cons (.any (fun _ _ => ⟨_, _, rfl⟩) rfl) .nil)), h2⟩
end Go.Proofs.YtdlghljhgbakjaaDoor

/-
  PART: how many bytes at the beginning are of a kind: the loop.
-/
namespace Go.Proofs.YtdlghljhgbakjaaDoor
open Go.RowKit
/-- A function with one open loop that begins with nothing of its own. -/
theorem frz_oloop {P : Program} (hfit : Fit P) {f : Nat} {fn : Func} {c : Code} (hfn : P.funcs[f]? = some fn) (hb : fn.body = some c) {args : List AV} (hle : Nat.ble args.length fn.ntmps = true) {a : AV} {O : AV → Prop} {ι : Type} {cx cx' : Cx} (hc : CtrOk cx) (hc' : CtrOk cx') (hP : cx.P = P) (hP' : cx'.P = P) {n : Nat}
    {l : List Code} {body tail : Code} {id : Nat} (hcode : c = seqs l (.seq (.block id (.loop body)) tail)) (hl : l.isEmpty = false) (hok : ((l.all fun a => codeOk fn.ntmps a) && codeOk fn.ntmps tail) = true)
    {ds0 : List (Nat × Bool)} {gb0 : Bool} (Inv : ι → St) (J : ι → Prop) (m : ι → Nat) (Out : St → Prop)
    (h0 : ((codeE cx (evs cx n) (joins l) (entry args)).map (lfR 0 ds0 gb0 (resF P fn.results.toList))).wp (LfQ (fun x s => x = .norm ∧ ∃ k, J k ∧ s = Inv k) O))
    (h2 : ∀ (B : Start), B.nx0 = 0 → B.N = fn.ntmps → ∀ k, J k → WpC P B body (Inv k) (Round B (resF P fn.results.toList) Inv J m id k Out O))
    (h3 : ∀ s, Out s → ((codeE cx' (evs cx' n) tail s).map (lfR 0 [] false (resF P fn.results.toList))).wp (LfQ (fun _ _ => False) O))
    (hO : ∀ a', O a' → ∀ E v, Rep E a' v → Rep E a v) : FrzOk P f args a := by
  subst hP
  simp only [Bool.and_eq_true] at hok
  obtain ⟨k1, k4⟩ := hok
  refine frz_of_ends hfit hfn hb (Nat.le_of_ble_eq_true hle) (O := O) (fun E w hd hf => ?_) hO
  rw [hcode]
  refine wpc_stageR (n := n) (ds := ds0) (gb := gb0) (res := resF cx.P fn.results.toList) (O := O) hc hfit (fun e => by rw [e] at hl; cases hl) k1 (Tree.wp_imp (fun q hq => ?_) h0) ends_ret
  cases q with
  | out a => exact hq
  | go x s =>
    cases s with
    | none => exact hq
    | some s =>
      obtain ⟨rfl, k, hk, rfl⟩ := hq
      show WpC _ _ _ _ _
      refine wpc_oloop Inv J m Out (fun k hk => h2 _ rfl rfl k hk) ends_ret k hk rfl fun s hs => ?_
      have hfit' : Fit cx'.P := by rw [hP']; exact hfit
      have := wpc_of_lfR (B := begins fn.ntmps E w hd hf) (R := Ends cx.P fn.results.toList O) hc' hfit' (n := n) (ds := []) (gb := false) (res := resF cx.P fn.results.toList) (O := O) k4 (Tree.wp_imp (fun q hq => ?_) (h3 s hs)) (by rw [hP'] at *; exact ends_ret)
      · rw [hP'] at this; exact this
      · cases q with
        | out a => exact hq
        | go x s => cases s with
          | none => exact hq
          | some s => exact hq.elim
noncomputable section
noncomputable def cx0' : Cx := cx0 (decL [])
noncomputable def c60 : Code := codeOf Tryd.f60
noncomputable def res60 : St → Option AV := resF Tryd.prog Tryd.f60.results.toList
noncomputable def body60 : Code := cin (cin (cl (behind 2 c60)))
noncomputable def tail60 : Code := cr (behind 2 c60)
theorem code60 : c60 = seqs (firsts 2 c60) (.seq (.block 0 (.loop body60)) tail60) := by kernel_rfl
noncomputable def fnA (g : Nat) : AV := .fn (.func g) [] []
noncomputable def inv60 (l : List UInt8) (g : Nat) (i : Int) : St := { sl := [(0, .v (.string (B l))), (1, fnA g), (5, .v (.int .i64 i))], hp := [], nx := 0, rd := [], wr := [], ws := [], wb := [] }
noncomputable def ds60 : List (Nat × Bool) := [(0, false), (1, false), (5, true)]
noncomputable def bod60 (dec : List (Nat × Bool)) (l : List UInt8) (g : Nat) (i : Int) : Tree Lf := (codeE (cx0 (decL dec)) (evs (cx0 (decL dec)) 60) body60 (inv60 l g i)).map (lfR 0 ds60 true res60)
end
end Go.Proofs.YtdlghljhgbakjaaDoor

/-
  PART: how many bytes at the beginning are of a kind: the contract; what a sign at the beginning has.
-/
namespace Go.Proofs.YtdlghljhgbakjaaDoor
open Go.RowKit
theorem B_getD (l : List UInt8) (i : Nat) (d : UInt8) : (B l).data.getD i d = l.getD i d := by
  show l.toArray.getD i d = l.getD i d
  simp [Array.getD, List.getD]
  by_cases h : i < l.length
  · simp [h]
  · simp [h]
noncomputable def atB (l : List UInt8) (i : Int) : Int := (((B l).data.getD i.toNat 0).toNat : Nat)
theorem atB_nat (l : List UInt8) (i : Nat) : atB l (i : Int) = ((l.getD i 0).toNat : Nat) := by unfold atB; rw [Int.toNat_natCast, B_getD]
noncomputable def p61 (z : Int) : Bool := !(z == 10)
noncomputable def p62 (z : Int) : Bool := if decide (z ≥ 48) = true then decide (z ≤ 57) else false
noncomputable def p64 (z : Int) : Bool := if decide (z ≥ 97) = true then decide (z ≤ 122) else false
noncomputable def p65 (z : Int) : Bool := if p64 z = true then true else p62 z
noncomputable def go60 (p : Int → Bool) (l : List UInt8) (i : Int) : Bool := if decide (i < ((B l).size : Int)) = true then p (atB l i) else false
noncomputable def sd60 (l : List UInt8) (i : Int) : Prop := decide (i < ((B l).size : Int)) = true → 0 ≤ i ∧ i < ((B l).size : Int)
noncomputable def runL (p : Int → Bool) (l : List UInt8) : Nat := (l.takeWhile fun c => p (c.toNat : Nat)).length
theorem runL_le (p : Int → Bool) (l : List UInt8) : runL p l ≤ l.length := by
  unfold runL
  induction l with
  | nil => exact Nat.le_refl 0
  | cons c l ih =>
    rw [List.takeWhile_cons]
    split
    · simp only [List.length_cons]; omega
    · exact Nat.zero_le _
theorem runL_lt (p : Int → Bool) : ∀ (l : List UInt8) (i : Nat), i ≤ runL p l → (i < runL p l ↔ i < l.length ∧ p ((l.getD i 0).toNat : Nat) = true)
  | [], i, h => ⟨fun h => absurd h (Nat.not_lt_zero i), fun h => absurd h.1 (Nat.not_lt_zero i)⟩
  | c :: l, i, h => by
    unfold runL at h ⊢
    rw [List.takeWhile_cons] at h ⊢
    by_cases hc : p (c.toNat : Nat) = true
    · rw [if_pos hc] at h ⊢
      cases i with
      | zero => simp [hc]
      | succ i =>
        have := runL_lt p l i (by simpa [runL] using h)
        simpa [runL] using this
    · rw [if_neg hc] at h ⊢
      obtain rfl : i = 0 := by simpa using h
      simp [hc]
noncomputable section
section
variable (l : List UInt8) (i : Int)
noncomputable def nx60 (g : Nat) : Tree Lf := .ret (.go .norm (some (inv60 l g (IntKind.i64.wrap (i + 1)))))
noncomputable def sp60 (g : Nat) : Tree Lf := .ret (.go (.exit 0) (some (inv60 l g i)))
theorem b60_61t : bod60 [(16,true)] l 61 i = .side (sd60 l i) (.side (go60 p61 l i = true) (nx60 l i 61)) := by kernel_rfl
theorem b60_61f : bod60 [(16,false)] l 61 i = .side (sd60 l i) (.side (go60 p61 l i = false) (sp60 l i 61)) := by kernel_rfl
theorem b60_62t : bod60 [(16,true)] l 62 i = .side (sd60 l i) (.side (go60 p62 l i = true) (nx60 l i 62)) := by kernel_rfl
theorem b60_62f : bod60 [(16,false)] l 62 i = .side (sd60 l i) (.side (go60 p62 l i = false) (sp60 l i 62)) := by kernel_rfl
theorem b60_65t : bod60 [(16,true)] l 65 i = .side (sd60 l i) (.side (go60 p65 l i = true) (nx60 l i 65)) := by kernel_rfl
theorem b60_65f : bod60 [(16,false)] l 65 i = .side (sd60 l i) (.side (go60 p65 l i = false) (sp60 l i 65)) := by kernel_rfl
theorem b60_0 (g : Nat) : (codeE cx0' (evs cx0' 60) (joins (firsts 2 c60)) (entry [.v (.string (B l)), fnA g])).map (lfR 0 ds60 true res60) = .ret (.go .norm (some (inv60 l g 0))) := by kernel_rfl
theorem b60_e (g : Nat) : (codeE cx0' (evs cx0' 60) tail60 (inv60 l g i)).map (lfR 0 [] false res60) = .ret (.out (.v (.int .i64 i))) := by kernel_rfl
end
theorem run60_of {g : Nat} {p : Int → Bool} (ht : ∀ l i, bod60 [(16,true)] l g i = .side (sd60 l i) (.side (go60 p l i = true) (nx60 l i g))) (hf : ∀ l i, bod60 [(16,false)] l g i = .side (sd60 l i) (.side (go60 p l i = false) (sp60 l i g)))
    (l : List UInt8) (hl : l.length ≤ 1000000) : FrzOk Tryd.prog 60 [.v (.string (B l)), fnA g] (.v (.int .i64 (runL p l : Nat))) := by
  let Inv : Nat → St := fun i => inv60 l g (i : Nat)
  have hrl := runL_le p l
  refine frz_oloop fitTry Tryd.func60 (c := c60) (by kernel_rfl) (by kernel_rfl) (O := fun a => ∀ E v, Rep E a v → Rep E (.v (.int .i64 (runL p l : Nat))) v) (cx := cx0') (cx' := cx0') (cx0_ok _) (cx0_ok _) rfl rfl (n := 60) code60 (by kernel_rfl) (by kernel_rfl) (ds0 := ds60) (gb0 := true)
    Inv (fun i => i ≤ runL p l) (fun i => runL p l - i) (fun s => s = Inv (runL p l)) ?_ (fun B hB hN i hi => ?_) (fun s hs => ?_) (fun a h => h)
  · show ((codeE cx0' (evs cx0' 60) (joins (firsts 2 c60)) (entry [.v (.string (B l)), fnA g])).map (lfR 0 ds60 true res60)).wp _
    rw [b60_0]
    exact ⟨rfl, 0, Nat.zero_le _, rfl⟩
  · have hk : codeOk B.N body60 = true := by rw [hN]; kernel_rfl
    have hsd : sd60 l (i : Nat) := fun h => ⟨by omega, of_decide_eq_true h⟩
    have hgo : go60 p l (i : Nat) = decide (i < runL p l) := by
      unfold go60
      rw [atB_nat, B_size]
      have h1 := runL_lt p l i hi
      by_cases h2 : i < runL p l
      · obtain ⟨h3, h4⟩ := h1.1 h2
        rw [if_pos (decide_eq_true (by omega)), h4]; simp [h2]
      · by_cases h3 : i < l.length
        · rw [if_pos (decide_eq_true (by omega))]
          have : p ((l.getD i 0).toNat : Nat) = false := Bool.eq_false_iff.2 fun h => h2 (h1.2 ⟨h3, h⟩)
          rw [this]; exact (decide_eq_false h2).symm
        · rw [if_neg (by simp; omega)]; simp [h2]
    by_cases hlt : i < runL p l
    · refine wpc_endH (cx := cx0 (decL [(16,true)])) (n := 60) (ds := ds60) (gb := true) (res := res60) (cx0_ok _) fitTry hk ?_
      rw [hB]
      show (bod60 [(16,true)] l g (i : Nat)).wp _
      rw [ht]
      have hw : IntKind.i64.wrap ((i : Int) + 1) = ((i + 1 : Nat) : Int) := IntWalk.i64_in _ ⟨by omega, by omega⟩
      refine ⟨hsd, by rw [hgo]; exact decide_eq_true hlt, i + 1, ?_, by show i + 1 ≤ _; omega, by show runL p l - (i + 1) < runL p l - i; omega⟩
      show HoldLe B (inv60 l g (IntKind.i64.wrap ((i : Int) + 1))) (inv60 l g ((i + 1 : Nat) : Int))
      rw [hw]
      exact .refl _
    · refine wpc_endH (cx := cx0 (decL [(16,false)])) (n := 60) (ds := ds60) (gb := true) (res := res60) (cx0_ok _) fitTry hk ?_
      rw [hB]
      show (bod60 [(16,false)] l g (i : Nat)).wp _
      rw [hf]
      have : i = runL p l := by omega
      exact ⟨hsd, by rw [hgo]; exact decide_eq_false hlt, rfl, _, .refl _, by rw [this]⟩
  · subst hs
    show ((codeE cx0' (evs cx0' 60) tail60 (inv60 l g (runL p l : Nat))).map (lfR 0 [] false res60)).wp _
    rw [b60_e]
    exact fun E v hv => hv
theorem run61 (l : List UInt8) (hl : l.length ≤ 1000000) : FrzOk Tryd.prog 60 [.v (.string (B l)), fnA 61] (.v (.int .i64 (runL p61 l : Nat))) := run60_of b60_61t b60_61f l hl
theorem run62 (l : List UInt8) (hl : l.length ≤ 1000000) : FrzOk Tryd.prog 60 [.v (.string (B l)), fnA 62] (.v (.int .i64 (runL p62 l : Nat))) := run60_of b60_62t b60_62f l hl
theorem run65 (l : List UInt8) (hl : l.length ≤ 1000000) : FrzOk Tryd.prog 60 [.v (.string (B l)), fnA 65] (.v (.int .i64 (runL p65 l : Nat))) := run60_of b60_65t b60_65f l hl
end
end Go.Proofs.YtdlghljhgbakjaaDoor

/-
  PART: a sign at the beginning: the table.
-/
namespace Go.Proofs.YtdlghljhgbakjaaDoor
open Go.RowKit
noncomputable section
noncomputable def ctrT (f : Nat) (args : List AV) (a : AV) : Tree AV := .side (PureOk Tryd.prog f args a) (.ret a)
noncomputable def strA : AV → ByteArray
  | .lit (.string s) => s
  | .v (.string s) => s
  | _ => B []
noncomputable def tabC (f : Nat) (args : List AV) : Option (Tree AV) := match f, args with
  | 103, [a, b] => some (ctrT 103 [a, b] (.v (.bool (Lib.contains (strA a).data.toList (strA b).data.toList))))
  | _, _ => none
theorem tabC_ok : TabOk Tryd.prog tabC := by
  intro f args t a ht hh
  unfold tabC at ht
  split at ht <;> cases ht
  obtain ⟨h1, h2⟩ := hh
  cases h2
  exact h1
noncomputable def cxC (dec : Nat → St → Option Bool) : Cx := ⟨Tryd.prog, ctrOf tabC, dec⟩
theorem cxC_ok (dec : Nat → St → Option Bool) : CtrOk (cxC dec) := (ctrOf_ok tabC_ok).withDec dec
noncomputable def bod66 (dec : List (Nat × Bool)) (s : ByteArray) : Tree AV := (bodyE (cxC (decL dec)) (evs (cxC (decL dec)) 60) Tryd.f66 (codeOf Tryd.f66) [.v (.string s)] .nil).ans
end
end Go.Proofs.YtdlghljhgbakjaaDoor

/-
  PART: a sign at the beginning: the contract.
-/
namespace Go.Proofs.YtdlghljhgbakjaaDoor
open Go.RowKit
noncomputable def longB : List UInt8 := [61, 61, 32, 33, 61, 32, 60, 61]
noncomputable def shortB : List UInt8 := [60, 61, 33, 43, 45, 124, 94, 42, 47, 37, 38, 40, 41, 123, 125, 44, 59, 58]
noncomputable def c3 (s : ByteArray) : Bool := if decide ((s.size : Int) > 1) = true then if (((s.data.getD (Int.toNat 1) 0).toNat : Int) == 61) = true then Lib.contains longB (s.extract (Int.toNat 0) (Int.toNat 2)).data.toList else false else false
noncomputable def K103 (S : List UInt8) (s : ByteArray) : Prop := PureOk Tryd.prog 103 [.lit (.string (B S)), .v (.string s)] (.v (.bool (Lib.contains S s.data.toList)))
noncomputable def sd3 (s : ByteArray) : Prop := decide ((s.size : Int) > 1) = true → ((0 : Int) ≤ 1 ∧ (1 : Int) < s.size) ∧ ((((s.data.getD (Int.toNat 1) 0).toNat : Int) == 61) = true → ((0 : Int) ≤ 0 ∧ (0 : Int) ≤ 2 ∧ (2 : Int) ≤ s.size) ∧ K103 longB (s.extract (Int.toNat 0) (Int.toNat 2)))
section
variable (s : ByteArray)
theorem b66_2 : bod66 [(3,true)] s = .side (sd3 s) (.side (c3 s = true) (.ret (.lit (.int .i64 2)))) := by kernel_rfl
theorem b66_1 : bod66 [(3,false),(17,true)] s = .side (sd3 s) (.side (c3 s = false) (.side ((0 : Int) ≤ 0 ∧ (0 : Int) ≤ 1 ∧ (1 : Int) ≤ s.size) (.side (K103 shortB (s.extract (Int.toNat 0) (Int.toNat 1))) (.side (Lib.contains shortB (s.extract (Int.toNat 0) (Int.toNat 1)).data.toList = true) (.ret (.lit (.int .i64 1))))))) := by kernel_rfl
theorem b66_0 : bod66 [(3,false),(17,false)] s = .side (sd3 s) (.side (c3 s = false) (.side ((0 : Int) ≤ 0 ∧ (0 : Int) ≤ 1 ∧ (1 : Int) ≤ s.size) (.side (K103 shortB (s.extract (Int.toNat 0) (Int.toNat 1))) (.side (Lib.contains shortB (s.extract (Int.toNat 0) (Int.toNat 1)).data.toList = false) (.ret (.lit (.int .i64 0))))))) := by kernel_rfl
end
noncomputable def isLong (l : List UInt8) : Bool := match l with
  | c :: d :: _ => d == 61 && Lib.contains longB [c, d]
  | _ => false
noncomputable def signL (l : List UInt8) : Nat := if isLong l = true then 2 else if Lib.contains shortB (l.take 1) = true then 1 else 0
theorem c3_eq (l : List UInt8) : c3 (B l) = isLong l := by
  unfold c3
  rw [B_getD, B_size, B_extract]
  match l with
  | [] => rfl
  | [c] => rfl
  | c :: d :: r =>
    rw [if_pos (by simp; omega)]
    show (if (((d.toNat : Nat) : Int) == 61) = true then Lib.contains longB [c, d] else false) = (d == 61 && Lib.contains longB [c, d])
    have : (((d.toNat : Nat) : Int) == 61) = (d == 61) := by
      by_cases h : d = 61
      · subst h; rfl
      · have h1 : d.toNat ≠ 61 := fun e => h (by
          apply UInt8.toNat_inj.1
          rw [e]; rfl)
        rw [beq_eq_false_iff_ne.2 h, beq_eq_false_iff_ne.2 (by omega)]
    rw [this]
    cases d == 61 <;> rfl
theorem K103_ok (S : List UInt8) (hS : S.length < 4294967281) (l : List UInt8) : K103 S (B l) := contains103 S l hS
theorem sign66 (l : List UInt8) (hl : l ≠ []) : PureOk Tryd.prog 66 [.v (.string (B l))] (.v (.int .i64 (signL l : Nat))) := by
  have hlen : 1 ≤ l.length := by cases l with | nil => exact absurd rfl hl | cons => simp
  have h3 : sd3 (B l) := fun h => by
    have h := of_decide_eq_true h
    rw [B_size] at h ⊢
    exact ⟨⟨by omega, by omega⟩, fun _ => ⟨⟨by omega, by omega, by omega⟩, by rw [B_extract]; exact K103_ok _ (by decide) _⟩⟩
  have h1 : (0 : Int) ≤ 0 ∧ (0 : Int) ≤ 1 ∧ (1 : Int) ≤ ((B l).size : Int) := by rw [B_size]; omega
  have hK : K103 shortB ((B l).extract (Int.toNat 0) (Int.toNat 1)) := by rw [B_extract]; exact K103_ok _ (by decide) _
  have he : ((B l).extract (Int.toNat 0) (Int.toNat 1)).data.toList = l.take 1 := by rw [B_extract]; rfl
  have lv : ∀ {v : Value} {f : Nat} {args : List AV}, PureOk Tryd.prog f args (.lit v) → PureOk Tryd.prog f args (.v v) := fun h => h.imp fun u hu E => v_of_lit E u (hu E)
  unfold signL
  cases hc : isLong l with
  | true => exact lv (pure_body (cxC_ok _) fitTry Tryd.func66 (by kernel_rfl) (b66_2 (B l)) ⟨h3, by rw [c3_eq]; exact hc, rfl⟩ (d := 4) (by kernel_rfl))
  | false =>
    cases hd : Lib.contains shortB (l.take 1) with
    | true => exact lv (pure_body (cxC_ok _) fitTry Tryd.func66 (by kernel_rfl) (b66_1 (B l)) ⟨h3, by rw [c3_eq]; exact hc, h1, hK, by rw [he]; exact hd, rfl⟩ (d := 4) (by kernel_rfl))
    | false => exact lv (pure_body (cxC_ok _) fitTry Tryd.func66 (by kernel_rfl) (b66_0 (B l)) ⟨h3, by rw [c3_eq]; exact hc, h1, hK, by rw [he]; exact hd, rfl⟩ (d := 4) (by kernel_rfl))
end Go.Proofs.YtdlghljhgbakjaaDoor

/-
  PART: a scope whose labels are jumped to again and again; the pieces of a text: the states.
-/
namespace Go.Proofs.YtdlghljhgbakjaaDoor
open Go.RowKit
theorem wpc_scope_inv {P : Program} {B : Start} {c : Code} {s : St} {R : Ex → St → Prop} {ι : Type} (Inv : ι → St) (lab : ι → Nat) (J : ι → Prop) (m : ι → Nat) (rest : Nat → Code) (M0 : Nat)
    (hfl : ∀ k, J k → findLabel c (lab k) = some (rest (lab k)))
    (h : WpC P B c s fun x s' => (∃ k, x = .goto (lab k) ∧ J k ∧ m k < M0 ∧ HoldLe B s' (Inv k)) ∨ ((∀ l, x ≠ .goto l) ∧ R x s'))
    (hr : ∀ k, J k → WpC P B (rest (lab k)) (Inv k) fun x s' => (∃ k', x = .goto (lab k') ∧ J k' ∧ m k' < m k ∧ HoldLe B s' (Inv k')) ∨ ((∀ l, x ≠ .goto l) ∧ R x s')) : WpC P B (.scope c) s R := fun act w Q hs hQ => by
  have key : ∀ (n : Nat) (k : ι), J k → m k < n → ∀ act w, Hold B (Inv k) act w → Code.jumpsIn (wideR B.rr) 0 P c Q n (rest (lab k)) act w := by
    intro n
    induction n with
    | zero => intro k _ h; exact absurd h (Nat.not_lt_zero _)
    | succ n ih =>
      intro k hk hlt act w hh
      refine hr k hk act w _ hh fun x s1 act' w' k1 k2 => ?_
      rcases k1 with ⟨k', rfl, h1, h2, h3⟩ | ⟨h1, h2⟩
      · exact .inl ⟨_, hfl k' h1, ih k' h1 (by omega) act' w' (h3 act' w' k2)⟩
      · cases x with
        | norm => exact hQ .norm s1 act' w' h2 k2
        | exit id => exact hQ (.exit id) s1 act' w' h2 k2
        | ret => exact hQ .ret s1 act' w' h2 k2
        | goto l => exact absurd rfl (h1 l)
  refine wpIn_scope_jumps (M0 + 1) ?_
  refine h act w _ hs fun x s1 act' w' k1 k2 => ?_
  rcases k1 with ⟨k, rfl, h1, h2, h3⟩ | ⟨h1, h2⟩
  · exact .inl ⟨_, hfl k h1, key M0 k h1 h2 act' w' (h3 act' w' k2)⟩
  · cases x with
    | norm => exact hQ .norm s1 act' w' h2 k2
    | exit id => exact hQ (.exit id) s1 act' w' h2 k2
    | ret => exact hQ .ret s1 act' w' h2 k2
    | goto l => exact absurd rfl (h1 l)
theorem wpc_skip1 {P : Program} {B : Start} {c : Code} {s : St} {R : Ex → St → Prop} {cx : Cx} (hc : CtrOk cx) (hfit : Fit cx.P) (hP : cx.P = P) (h : WpC P B c s R) : WpC P B (.seq .skip c) s R := by
  subst hP
  refine wpc_seq (R1 := fun x s' => x = .norm ∧ s' = s) (wpc_ev (n := 1) hc hfit rfl ⟨rfl, rfl⟩) (fun s1 h1 => by rw [h1.2]; exact h) fun x s1 hx h1 => absurd h1.1 hx
noncomputable section
noncomputable def c28 : Code := codeOf Tryd.f28
noncomputable def inS : Code → Code
  | .scope c => c
  | c => c
noncomputable def cS : Code := inS (cr c28)
noncomputable def rest0 : Code := behind 7 cS
noncomputable def rest1 : Code := behind 13 cS
noncomputable def restL (l : Nat) : Code := match Nat.beq l 0 with
  | true => .seq .skip rest0
  | false => .seq .skip rest1
theorem code28 : c28 = .seq (cl c28) (.scope cS) := by kernel_rfl
theorem codeS : cS = seqs (firsts 7 cS) rest0 := by kernel_rfl
theorem lab0 : findLabel cS 0 = some (restL 0) := by kernel_rfl
theorem lab1 : findLabel cS 1 = some (restL 1) := by kernel_rfl
noncomputable def res28 : St → Option AV := resF Tryd.prog Tryd.f28.results.toList
/-- A piece. -/
structure Pc where
  k : Int
  t : List UInt8
  n : Int
  ln : Int
  cl : Int
noncomputable def pcC (p : Pc) : List AV := [.v (.int .u8 p.k), .v (.string (B p.t)), .v (.int .u64 p.n), .v (.int .i64 p.ln), .v (.int .i64 p.cl)]
noncomputable def hpL (s : ByteArray) (ln cl : Int) (n : Nat) (get : Nat → List AV) (p : Pc) : List (Nat × Option Blk) := [(0, some (.fix 9 [.v (.string s)])), (1, some (.fix 56 [.v (.int .i64 0), .v (.int .i64 0)])), (2, some (.fix 56 [.v (.int .i64 ln), .v (.int .i64 cl)])), (3, some (.arr 64 n 5 get)), (4, some (.fix 64 (pcC p)))]
noncomputable def slL (n : Nat) : List (Nat × AV) := [(1, .ptr 0 0), (3, .ptr 1 0), (5, .ptr 2 0), (6, .own 3 n 5 false), (7, .ptr 4 0), (9, .fn (.func 59) [] [.ptr 0 0, .ptr 2 0])]
noncomputable def invL (s : ByteArray) (ln cl : Int) (n : Nat) (get : Nat → List AV) (p : Pc) : St := { sl := slL n, hp := hpL s ln cl n get p, nx := 5, rd := [], wr := [], ws := [], wb := [] }
noncomputable def dsL : List (Nat × Bool) := [(1, false), (3, false), (5, false), (6, false), (7, false), (9, false)]
noncomputable def tabL (f : Nat) (args : List AV) : Option (Tree AV) := match f, args with
  | 66, [s] => some (ctrT 66 [s] (.v (.int .i64 (signL (strA s).data.toList : Nat))))
  | 62, [.v (.int k z)] => some (ctrT 62 [.v (.int k z)] (.v (.bool (p62 z))))
  | 64, [.v (.int k z)] => some (ctrT 64 [.v (.int k z)] (.v (.bool (p64 z))))
  | _, _ => none
theorem tabL_ok : TabOk Tryd.prog tabL := by
  intro f args t a ht hh
  unfold tabL at ht
  split at ht <;> cases ht
  all_goals
    obtain ⟨h1, h2⟩ := hh
    cases h2
    exact h1
noncomputable def pOf (g : Nat) : Int → Bool := match Nat.beq g 61 with
  | true => p61
  | false => match Nat.beq g 62 with
    | true => p62
    | false => p65
noncomputable def fnOf : AV → Nat
  | .fn (.func g) _ _ => g
  | _ => 0
/-- Whether a number is too great is told beforehand; what it is otherwise. -/
noncomputable def tabLF (ok : Bool) (u : Int) (f : Nat) (args : List AV) : Option (Tree AV) := match f, args with
  | 60, [s, g] => some (.side (FrzOk Tryd.prog 60 [s, g] (.v (.int .i64 (runL (pOf (fnOf g)) (strA s).data.toList : Nat)))) (.ret (.v (.int .i64 (runL (pOf (fnOf g)) (strA s).data.toList : Nat)))))
  | 63, [s, b, c] => match ok with
    | true => some (.side (FrzOk Tryd.prog 63 [s, b, c] (.tup [.v (.int .u64 u), .lit .nilIface])) (.ret (.tup [.v (.int .u64 u), .lit .nilIface])))
    | false => some (.side (FrzOk Tryd.prog 63 [s, b, c] (.tup [.v (.int .u64 18446744073709551615), .any ifcP])) (.ret (.tup [.v (.int .u64 18446744073709551615), .any ifcP])))
  | _, _ => none
theorem tabLF_ok (ok : Bool) (u : Int) : TabFOk Tryd.prog (tabLF ok u) := by
  intro f args t a ht hh
  unfold tabLF at ht
  split at ht
  · cases ht
    obtain ⟨h1, h2⟩ := hh
    cases h2
    exact h1
  · split at ht
    · cases ht
      obtain ⟨h1, h2⟩ := hh
      cases h2
      exact h1
    · cases ht
      obtain ⟨h1, h2⟩ := hh
      cases h2
      exact h1
  · cases ht
noncomputable def cxL (ok : Bool) (u : Int) (dec : Nat → St → Option Bool) : Cx := ⟨Tryd.prog, ctrOf2 tabL (tabLF ok u), dec⟩
theorem cxL_ok (ok : Bool) (u : Int) (dec : Nat → St → Option Bool) : CtrOk (cxL ok u dec) := ctrOf2_ok tabL_ok (tabLF_ok ok u) dec
noncomputable def rndL (ok : Bool) (u : Int) (dec : List (Nat × Bool)) (c : Code) (s : St) : Tree Lf := (codeE (cxL ok u (decL dec)) (evs (cxL ok u (decL dec)) 60) c s).map (lfR 0 dsL true res28)
end
end Go.Proofs.YtdlghljhgbakjaaDoor

/-
  PART: the pieces of a text: a round's ways.
-/
namespace Go.Proofs.YtdlghljhgbakjaaDoor
open Go.RowKit
noncomputable section
noncomputable def wq (z : Int) : Int := IntKind.i64.wrap z
noncomputable def e0 (s : ByteArray) : Bool := s.toList == (B []).toList
noncomputable def c0 (s : ByteArray) : Int := ((s.data.getD (Int.toNat 0) 0).toNat : Nat)
noncomputable def in0 (s : ByteArray) : Prop := (0 : Int) ≤ 0 ∧ (0 : Int) < (s.size : Int)
noncomputable def cut1 (s : ByteArray) (n : Int) : Prop := (0 : Int) ≤ 0 ∧ (0 : Int) ≤ n ∧ n ≤ (s.size : Int)
noncomputable def cut2 (s : ByteArray) (n : Int) : Prop := (0 : Int) ≤ n ∧ n ≤ (s.size : Int) ∧ (s.size : Int) ≤ (s.size : Int)
noncomputable def pre (s : ByteArray) (n : Int) : ByteArray := s.extract (Int.toNat 0) n.toNat
noncomputable def suf (s : ByteArray) (n : Int) : ByteArray := s.extract n.toNat (s.size : Int).toNat
noncomputable def isB (s : ByteArray) : Bool := if (c0 s == 32) = true then true else c0 s == 9
noncomputable def rn (g : Nat) (s : ByteArray) : Int := (runL (pOf g) s.data.toList : Nat)
noncomputable def S60 (g : Nat) (s : ByteArray) : Prop := FrzOk Tryd.prog 60 [.v (.string s), fnA g] (.v (.int .i64 (rn g s)))
noncomputable def S62 (s : ByteArray) : Prop := PureOk Tryd.prog 62 [.v (.int .u8 (c0 s))] (.v (.bool (p62 (c0 s))))
noncomputable def S64 (s : ByteArray) : Prop := PureOk Tryd.prog 64 [.v (.int .u8 (c0 s))] (.v (.bool (p64 (c0 s))))
noncomputable def sg (s : ByteArray) : Int := (signL s.data.toList : Nat)
noncomputable def S66 (s : ByteArray) : Prop := PureOk Tryd.prog 66 [.v (.string s)] (.v (.int .i64 (sg s)))
noncomputable def pcS (k : Int) (t : ByteArray) (n ln cl : Int) : List AV := [.v (.int .u8 k), .v (.string t), .v (.int .u64 n), .v (.int .i64 ln), .v (.int .i64 cl)]
noncomputable def hpS (s : ByteArray) (ln cl : Int) (n : Nat) (get : Nat → List AV) (pc : List AV) : List (Nat × Option Blk) := [(0, some (.fix 9 [.v (.string s)])), (1, some (.fix 56 [.v (.int .i64 0), .v (.int .i64 0)])), (2, some (.fix 56 [.v (.int .i64 ln), .v (.int .i64 cl)])), (3, some (.arr 64 n 5 get)), (4, some (.fix 64 pc))]
noncomputable def invS (s : ByteArray) (ln cl : Int) (n : Nat) (get : Nat → List AV) (pc : List AV) : St := { sl := slL n, hp := hpS s ln cl n get pc, nx := 5, rd := [], wr := [], ws := [], wb := [] }
noncomputable def gt (l : Nat) (s : St) : Tree Lf := .ret (.go (.goto l) (some s))
noncomputable def gY (Y : Nat → Pc) : Nat → List AV := fun j => pcC (Y j)
noncomputable def mxP (c : Bool) (x : Pc) (k : Int) (t : ByteArray) (n ln cl : Int) : List AV := [.v (.int .u8 (if c = true then x.k else k)), .v (.string (if c = true then B x.t else t)), .v (.int .u64 (if c = true then x.n else n)), .v (.int .i64 (if c = true then x.ln else ln)), .v (.int .i64 (if c = true then x.cl else cl))]
noncomputable def gA (n : Nat) (Y : Nat → Pc) (k : Int) (t : ByteArray) (v ln cl : Int) : Nat → List AV := fun j => mxP (decide (j < n)) (Y j) k t v ln cl
noncomputable def sizeP (n : Nat) : Prop := n * Tryd.prog.bytesOf 64 ≤ maxAppend ∧ n ≤ maxAppend
section
variable (s : ByteArray) (ln cl : Int) (n : Nat) (Y : Nat → Pc) (p : Pc) (u : Int) (k : Int) (t : ByteArray) (v : Int)
theorem rN : rndL true u [(20,false),(28,true)] rest0 (invS s ln cl n (gY Y) (pcC p)) = .side (e0 s = false) (.side (in0 s) (.side ((c0 s == 10) = true) (.side (cut1 s 1) (.side (cut2 s 1) (gt 0 (invS (suf s 1) (wq (ln + 1)) 1 n (gY Y) (pcS 0 (B []) 0 ln cl))))))) := by kernel_rfl
theorem rB : rndL true u [(20,false),(28,false),(38,true)] rest0 (invS s ln cl n (gY Y) (pcC p)) = .side (e0 s = false) (.side (in0 s) (.side ((c0 s == 10) = false) (.side (in0 s) (.side ((c0 s == 32) = false → in0 s) (.side (isB s = true) (.side (cut1 s 1) (.side (cut2 s 1) (gt 0 (invS (suf s 1) ln (wq (cl + 1)) n (gY Y) (pcS 0 (B []) 0 ln cl)))))))))) := by kernel_rfl
theorem rC : rndL true u [(20,false),(28,false),(38,false),(49,true)] rest0 (invS s ln cl n (gY Y) (pcC p)) = .side (e0 s = false) (.side (in0 s) (.side ((c0 s == 10) = false) (.side (in0 s) (.side ((c0 s == 32) = false → in0 s) (.side (isB s = false) (.side (in0 s) (.side ((c0 s == 35) = true) (.side (S60 61 s) (.side (cut1 s (rn 61 s)) (.side (cut2 s (rn 61 s)) (gt 0 (invS (suf s (rn 61 s)) ln (wq (cl + rn 61 s)) n (gY Y) (pcS 0 (B []) 0 ln cl))))))))))))) := by kernel_rfl
noncomputable def G63 (u : Int) (s : ByteArray) : Prop := FrzOk Tryd.prog 63 [.v (.string s), .lit (.int .i64 10), .lit (.int .i64 64)] (.tup [.v (.int .u64 u), .lit .nilIface])
noncomputable def R63 (s : ByteArray) : Prop := FrzOk Tryd.prog 63 [.v (.string s), .lit (.int .i64 10), .lit (.int .i64 64)] (.tup [.v (.int .u64 18446744073709551615), .any ifcP])
noncomputable def plA (ln cl : AV) : AV := .agg [ln, cl]
noncomputable def il0 (z : Int) : AV := .lit (.int .i64 z)
noncomputable def iv (z : Int) : AV := .v (.int .i64 z)
noncomputable def nilR : AV := .lit (.slice none 0 0)
/-- No newline, no blank, no comment. -/
noncomputable def hdT (s : ByteArray) (t : Tree Lf) : Tree Lf := .side (e0 s = false) (.side (in0 s) (.side ((c0 s == 10) = false) (.side (in0 s) (.side ((c0 s == 32) = false → in0 s) (.side (isB s = false) (.side (in0 s) (.side ((c0 s == 35) = false) (.side (in0 s) (.side (S62 s) t)))))))))
theorem rD : rndL true u [(20,false),(28,false),(38,false),(49,false),(57,true)] rest0 (invS s ln cl n (gY Y) (pcC p)) = hdT s (.side (p62 (c0 s) = true) (.side (S60 62 s) (.side (cut1 s (rn 62 s)) (.side (cut2 s (rn 62 s)) (.side (G63 u (pre s (rn 62 s))) (gt 1 (invS (suf s (rn 62 s)) ln (wq (cl + rn 62 s)) n (gY Y) (pcS 1 (pre s (rn 62 s)) u ln cl)))))))) := by kernel_rfl
theorem rR : rndL false u [(20,false),(28,false),(38,false),(49,false),(57,true)] rest0 (invS s ln cl n (gY Y) (pcC p)) = hdT s (.side (p62 (c0 s) = true) (.side (S60 62 s) (.side (cut1 s (rn 62 s)) (.side (cut2 s (rn 62 s)) (.side (R63 (pre s (rn 62 s))) (.side (NonNil ifcP) (.ret (.out (.tup [nilR, plA (iv ln) (iv cl), il0 4]))))))))) := by kernel_rfl
theorem rW : rndL true u [(20,false),(28,false),(38,false),(49,false),(57,false),(79,true)] rest0 (invS s ln cl n (gY Y) (pcC p)) = hdT s (.side (p62 (c0 s) = false) (.side (in0 s) (.side (S64 s) (.side (p64 (c0 s) = true) (.side (S60 65 s) (.side (cut1 s (rn 65 s)) (.side (cut2 s (rn 65 s)) (gt 1 (invS (suf s (rn 65 s)) ln (wq (cl + rn 65 s)) n (gY Y) (pcS 2 (pre s (rn 65 s)) 0 ln cl)))))))))) := by kernel_rfl
theorem rS : rndL true u [(20,false),(28,false),(38,false),(49,false),(57,false),(79,false),(92,false)] rest0 (invS s ln cl n (gY Y) (pcC p)) = hdT s (.side (p62 (c0 s) = false) (.side (in0 s) (.side (S64 s) (.side (p64 (c0 s) = false) (.side (S66 s) (.side ((sg s == 0) = false) (.side (cut1 s (sg s)) (.side (cut2 s (sg s)) (.side (sizeP (n + 1)) (gt 0 (invS (suf s (sg s)) ln (wq (cl + sg s)) (n + 1) (gA n Y 3 (pre s (sg s)) 0 ln cl) (pcS 3 (pre s (sg s)) 0 ln cl)))))))))))) := by kernel_rfl
theorem rX : rndL true u [(20,false),(28,false),(38,false),(49,false),(57,false),(79,false),(92,true)] rest0 (invS s ln cl n (gY Y) (pcC p)) = hdT s (.side (p62 (c0 s) = false) (.side (in0 s) (.side (S64 s) (.side (p64 (c0 s) = false) (.side (S66 s) (.side ((sg s == 0) = true) (.ret (.out (.tup [nilR, plA (iv ln) (iv cl), il0 3]))))))))) := by kernel_rfl
theorem rE : rndL true u [(20,true)] rest0 (invS s ln cl n (gY Y) (pcC p)) = .side (e0 s = true) (.side (sizeP (n + 1)) (.ret (.out (.tup [.sl (n + 1) 5 (gA n Y 0 (B []) 0 ln cl) false false, plA (il0 0) (il0 0), il0 0])))) := by kernel_rfl
theorem rP (ln' cl' : Int) : rndL true u [] rest1 (invS s ln cl n (gY Y) (pcS k t v ln' cl')) = .side (sizeP (n + 1)) (gt 0 (invS s ln cl (n + 1) (gA n Y k t v ln' cl') (pcS k t v ln' cl'))) := by kernel_rfl
end
end
end Go.Proofs.YtdlghljhgbakjaaDoor

/-
  PART: the pieces of a text, plainly.
-/
namespace Go.Proofs.YtdlghljhgbakjaaDoor
open Go.RowKit
inductive LRes where
  | ok (ps : List Pc)
  | bad (e ln cl : Int)
noncomputable def ch (l : List UInt8) : Int := ((l.getD 0 0).toNat : Nat)
noncomputable def numOf (l : List UInt8) : Option Nat := match Lib.parseUintB 64 l with
  | .ok u => some u
  | _ => none
/-- The pieces from here on, behind those that there are. -/
noncomputable def lexR : Nat → List UInt8 → Int → Int → List Pc → LRes
  | 0, _, _, _, _ => .bad 0 0 0
  | f + 1, l, ln, cl, acc =>
    if l = [] then .ok (acc ++ [⟨0, [], 0, ln, cl⟩])
    else if ch l = 10 then lexR f (l.drop 1) (ln + 1) 1 acc
    else if ch l = 32 ∨ ch l = 9 then lexR f (l.drop 1) ln (cl + 1) acc
    else if ch l = 35 then lexR f (l.drop (runL p61 l)) ln (cl + (runL p61 l : Nat)) acc
    else if p62 (ch l) = true then (match numOf (l.take (runL p62 l)) with
      | some u => lexR f (l.drop (runL p62 l)) ln (cl + (runL p62 l : Nat)) (acc ++ [⟨1, l.take (runL p62 l), (u : Nat), ln, cl⟩])
      | none => .bad 4 ln cl)
    else if p64 (ch l) = true then lexR f (l.drop (runL p65 l)) ln (cl + (runL p65 l : Nat)) (acc ++ [⟨2, l.take (runL p65 l), 0, ln, cl⟩])
    else if signL l = 0 then .bad 3 ln cl
    else lexR f (l.drop (signL l)) ln (cl + (signL l : Nat)) (acc ++ [⟨3, l.take (signL l), 0, ln, cl⟩])
theorem lexR_succ (f : Nat) (l : List UInt8) (ln cl : Int) (acc : List Pc) : lexR (f + 1) l ln cl acc = if l = [] then .ok (acc ++ [⟨0, [], 0, ln, cl⟩])
    else if ch l = 10 then lexR f (l.drop 1) (ln + 1) 1 acc
    else if ch l = 32 ∨ ch l = 9 then lexR f (l.drop 1) ln (cl + 1) acc
    else if ch l = 35 then lexR f (l.drop (runL p61 l)) ln (cl + (runL p61 l : Nat)) acc
    else if p62 (ch l) = true then (match numOf (l.take (runL p62 l)) with
      | some u => lexR f (l.drop (runL p62 l)) ln (cl + (runL p62 l : Nat)) (acc ++ [⟨1, l.take (runL p62 l), (u : Nat), ln, cl⟩])
      | none => .bad 4 ln cl)
    else if p64 (ch l) = true then lexR f (l.drop (runL p65 l)) ln (cl + (runL p65 l : Nat)) (acc ++ [⟨2, l.take (runL p65 l), 0, ln, cl⟩])
    else if signL l = 0 then .bad 3 ln cl
    else lexR f (l.drop (signL l)) ln (cl + (signL l : Nat)) (acc ++ [⟨3, l.take (signL l), 0, ln, cl⟩]) := rfl
theorem run_pos {p : Int → Bool} {l : List UInt8} (hl : l ≠ []) (hp : p (ch l) = true) : 1 ≤ runL p l := by
  cases l with
  | nil => exact absurd rfl hl
  | cons c l =>
    have hp : p (c.toNat : Nat) = true := hp
    unfold runL
    rw [List.takeWhile_cons, if_pos hp]
    simp
theorem sign_le (l : List UInt8) (hl : l ≠ []) : signL l ≤ l.length := by
  unfold signL
  split
  · rename_i h
    match l with
    | [] => exact absurd rfl hl
    | [c] => cases h
    | c :: d :: r => simp
  · split
    · cases l with
      | nil => exact absurd rfl hl
      | cons => simp
    · exact Nat.zero_le _
/-- Digits alone spell a number, or one that is too great. -/
theorem parse_digits (M : Nat) : ∀ (l : List UInt8) (acc : Nat), (∀ c ∈ l, p62 ((c.toNat : Nat) : Int) = true) → (∃ u, Lib.parseUintM M acc l = .ok u) ∨ Lib.parseUintM M acc l = .range
  | [], acc, _ => .inl ⟨acc, rfl⟩
  | c :: l, acc, h => by
    have hc := h c (List.mem_cons_self ..)
    have h2 : 48 ≤ c.toNat ∧ c.toNat ≤ 57 := by
      unfold p62 at hc
      split at hc
      · rename_i h1
        have h1 := of_decide_eq_true h1
        have h3 := of_decide_eq_true hc
        omega
      · cases hc
    unfold Lib.parseUintM
    rw [if_pos h2]
    split
    · exact .inr rfl
    split
    · exact .inr rfl
    · exact parse_digits M l _ fun d hd => h d (List.mem_cons_of_mem _ hd)
theorem take_tw {α : Type} (q : α → Bool) : ∀ l : List α, l.take (l.takeWhile q).length = l.takeWhile q
  | [] => rfl
  | c :: l => by
    rw [List.takeWhile_cons]
    by_cases h : q c = true
    · rw [if_pos h, List.length_cons, List.take_succ_cons, take_tw q l]
    · rw [if_neg h]; rfl
theorem take_run (p : Int → Bool) (l : List UInt8) : l.take (runL p l) = l.takeWhile fun c => p (c.toNat : Nat) := take_tw _ l
theorem parse_run {l : List UInt8} (hl : l ≠ []) (hp : p62 (ch l) = true) : (∃ u, Lib.parseUintB 64 (l.take (runL p62 l)) = .ok u ∧ numOf (l.take (runL p62 l)) = some u) ∨ (Lib.parseUintB 64 (l.take (runL p62 l)) = .range ∧ numOf (l.take (runL p62 l)) = none) := by
  have h1 := run_pos hl hp
  have hne : l.take (runL p62 l) ≠ [] := fun e => by
    have h2 := congrArg List.length e
    rw [List.length_take, List.length_nil] at h2
    have := runL_le p62 l
    omega
  have hd : ∀ c ∈ l.take (runL p62 l), p62 ((c.toNat : Nat) : Int) = true := fun c hc => by
    rw [take_run] at hc
    exact List.all_eq_true.1 (List.all_takeWhile (p := fun c : UInt8 => p62 ((c.toNat : Nat) : Int)) (l := l)) c hc
  have e : Lib.parseUintB 64 (l.take (runL p62 l)) = Lib.parseUintM (2 ^ 64 - 1) 0 (l.take (runL p62 l)) := by unfold Lib.parseUintB; rw [if_neg hne]
  rcases parse_digits (2 ^ 64 - 1) _ 0 hd with ⟨u, h⟩ | h
  · exact .inl ⟨u, e.trans h, by unfold numOf; rw [e, h]⟩
  · exact .inr ⟨e.trans h, by unfold numOf; rw [e, h]⟩
end Go.Proofs.YtdlghljhgbakjaaDoor

/-
  PART: the pieces of a text: each round.
-/
namespace Go.Proofs.YtdlghljhgbakjaaDoor
open Go.RowKit
noncomputable section
noncomputable def pz : Pc := ⟨0, [], 0, 0, 0⟩
noncomputable def accY (acc : List Pc) : Nat → Pc := fun j => acc.getD j pz
/-- Where a run stands: at 'next', or (a piece in hand) at 'put'. -/
structure KL where
  ph : Bool
  l : List UInt8
  ln : Int
  cl : Int
  acc : List Pc
  p : Pc
  f : Nat
noncomputable def labK (k : KL) : Nat := match k.ph with
  | true => 1
  | false => 0
noncomputable def InvK (k : KL) : St := invS (B k.l) k.ln k.cl k.acc.length (gY (accY k.acc)) (pcC k.p)
structure JK (R : LRes) (k : KL) : Prop where
  res : (if k.ph = true then lexR k.f k.l k.ln k.cl (k.acc ++ [k.p]) else lexR k.f k.l k.ln k.cl k.acc) = R
  fuel : k.l.length < k.f
  len : k.l.length ≤ 4096
  ln : 1 ≤ k.ln
  cl : 1 ≤ k.cl
  sum : k.ln + k.cl + k.l.length ≤ 5000
  acc : k.acc.length + (if k.ph = true then 1 else 0) + k.l.length ≤ 4096
noncomputable def mK (k : KL) : Nat := 2 * k.l.length + (if k.ph = true then 1 else 0)
noncomputable def ansL : LRes → AV
  | .ok ps => .tup [.sl ps.length 5 (fun j => pcC (accY ps j)) false false, .agg [iv 0, iv 0], iv 0]
  | .bad e ln cl => .tup [.lit (.slice none 0 0), .agg [iv ln, iv cl], iv e]
noncomputable def OL (R : LRes) (a : AV) : Prop := ∀ E v, Rep E a v → Rep E (ansL R) v
theorem fin {R : LRes} {a : AV} (h : ∀ E v, Rep E a v → Rep E (ansL R) v) : OL R a := h
section
variable {l : List UInt8}
theorem e0_eq : e0 (B l) = decide (l = []) := by
  unfold e0
  rw [B_toList, B_toList]
  cases l <;> simp
theorem c0_eq : c0 (B l) = ch l := by
  unfold c0 ch
  rw [B_getD]; rfl
theorem in0_of (h : l ≠ []) : in0 (B l) := by
  unfold in0
  rw [B_size]
  cases l with
  | nil => exact absurd rfl h
  | cons => simp only [List.length_cons]; omega
theorem isB_eq : isB (B l) = decide (ch l = 32 ∨ ch l = 9) := by
  unfold isB
  rw [c0_eq]
  by_cases h : ch l = 32
  · simp [h]
  · simp [h]; rfl
theorem cut1_of {n : Nat} (h : n ≤ l.length) : cut1 (B l) (n : Int) := by unfold cut1; rw [B_size]; omega
theorem cut2_of {n : Nat} (h : n ≤ l.length) : cut2 (B l) (n : Int) := by unfold cut2; rw [B_size]; omega
theorem pre_eq (n : Nat) : pre (B l) (n : Int) = B (l.take n) := by
  unfold pre
  rw [B_extract, Int.toNat_natCast]; rfl
theorem suf_eq (n : Nat) : suf (B l) (n : Int) = B (l.drop n) := by
  unfold suf
  rw [B_extract, B_size, Int.toNat_natCast, Int.toNat_natCast, List.take_length]
theorem suf_one : suf (B l) 1 = B (l.drop 1) := suf_eq 1
theorem rn61 : rn 61 (B l) = (runL p61 l : Nat) := rfl
theorem rn62 : rn 62 (B l) = (runL p62 l : Nat) := rfl
theorem rn65 : rn 65 (B l) = (runL p65 l : Nat) := rfl
theorem sg_eq : sg (B l) = (signL l : Nat) := rfl
theorem ev62 (z : Int) : ((evs (cx0 (decL [])) 60).call 62 [.v (.int .u8 z)] .nil).ans = .ret (.v (.bool (p62 z))) := by kernel_rfl
theorem ev64 (z : Int) : ((evs (cx0 (decL [])) 60).call 64 [.v (.int .u8 z)] .nil).ans = .ret (.v (.bool (p64 z))) := by kernel_rfl
theorem S62_ok (s : ByteArray) : S62 s := pure_hitX (cx0_ok _) rfl (ev62 _) rfl (by kernel_rfl)
theorem S64_ok (s : ByteArray) : S64 s := pure_hitX (cx0_ok _) rfl (ev64 _) rfl (by kernel_rfl)
theorem wq_in {z : Int} (h : -1 ≤ z) (h2 : z ≤ 1000000) : wq z = z := IntWalk.i64_in _ ⟨by omega, by omega⟩
theorem sizeP_ok {n : Nat} (h : n ≤ 100000) : sizeP n := by
  have h1 : Tryd.prog.bytesOf 64 ≤ 1000 := Nat.le_of_ble_eq_true (by kernel_rfl)
  have h3 : maxAppend = 1099511627776 := by decide
  unfold sizeP
  have := Nat.mul_le_mul h h1
  omega
theorem mxP_eq (c : Bool) (x : Pc) (k : Int) (t : List UInt8) (n ln cl : Int) : mxP c x k (B t) n ln cl = pcC (if c = true then x else ⟨k, t, n, ln, cl⟩) := by cases c <;> rfl
theorem gA_eq (acc : List Pc) (k : Int) (t : List UInt8) (v ln cl : Int) (j : Nat) (hj : j < acc.length + 1) : gA acc.length (accY acc) k (B t) v ln cl j = gY (accY (acc ++ [⟨k, t, v, ln, cl⟩])) j := by
  unfold gA gY
  rw [mxP_eq]
  congr 1
  unfold accY
  by_cases h : j < acc.length
  · rw [if_pos (decide_eq_true h)]
    simp [List.getD, List.getElem?_append_left h]
  · obtain rfl : j = acc.length := by omega
    rw [if_neg (by simp)]
    simp [List.getD]
theorem hold_app {Bt : Start} (l : List UInt8) (ln cl : Int) (acc : List Pc) (k : Int) (t : List UInt8) (v ln' cl' : Int) (pc : List AV) : HoldLe Bt (invS (B l) ln cl (acc.length + 1) (gA acc.length (accY acc) k (B t) v ln' cl') pc) (invS (B l) ln cl (acc ++ [(⟨k, t, v, ln', cl'⟩ : Pc)]).length (gY (accY (acc ++ [(⟨k, t, v, ln', cl'⟩ : Pc)]))) pc) := by
  rw [List.length_append, List.length_singleton]
  exact hold_rows rfl rfl (.same (.same (.same (.row (fun j hj => gA_eq acc k t v ln' cl' j hj) (.same .nil)))))
end
end
end Go.Proofs.YtdlghljhgbakjaaDoor

/-
  PART: the pieces of a text: the contract.
-/
namespace Go.Proofs.YtdlghljhgbakjaaDoor
open Go.RowKit
noncomputable section
/-- What a round may end with. -/
noncomputable def Nxt (Bt : Start) (R : LRes) (k : KL) (x : Ex) (s : St) : Prop := (∃ k', x = .goto (labK k') ∧ JK R k' ∧ mK k' < mK k ∧ HoldLe Bt s (InvK k')) ∨ ((∀ l, x ≠ .goto l) ∧ Ends Tryd.prog Tryd.f28.results.toList (OL R) x s)
theorem nxt_ret {Bt : Start} {R : LRes} {k : KL} (s : St) (a : AV) (h : res28 s = some a) (ho : OL R a) : Nxt Bt R k .ret s := .inr ⟨fun _ h => (by cases h), ends_ret s a h ho⟩
theorem tup3_lv {E : Env} {a b : AV} {x v : Value} (h : Rep E (.tup [a, b, .lit x]) v) : Rep E (.tup [a, b, .v x]) v := by
  cases h with
  | tup h =>
    refine .tup ?_
    rename_i cs
    generalize cs.toList = vs at h
    cases h with | cons a1 h => cases h with | cons a2 h => cases h with | cons a3 h =>
    cases h
    exact .cons a1 (.cons a2 (.cons (v_of_lit _ _ a3) .nil))
section
variable {Bt : Start} {R : LRes}
theorem wpcL (hB : Bt.nx0 = 0) {ok : Bool} {u : Int} {dec : List (Nat × Bool)} {c : Code} {s : St} {k : KL} (hc : codeOk Bt.N c = true) (h : (rndL ok u dec c s).wp (LfQ (Nxt Bt R k) (OL R))) : WpC Tryd.prog Bt c s (Nxt Bt R k) := by
  have h' := wpc_of_lfR (B := Bt) (cx := cxL ok u (decL dec)) (n := 60) (c := c) (s := s) (ds := dsL) (gb := true) (res := res28) (O := OL R) (R := Nxt Bt R k) (cxL_ok _ _ _) fitTry hc (by rw [hB]; exact h) nxt_ret
  exact h'
theorem goK {k : KL} {l : Nat} {s : St} (k' : KL) (h1 : l = labK k') (h2 : JK R k') (h3 : mK k' < mK k) (h4 : HoldLe Bt s (InvK k')) : LfQ (Nxt Bt R k) (OL R) (.go (.goto l) (some s)) := .inl ⟨k', by rw [h1], h2, h3, h4⟩
theorem round1 (hB : Bt.nx0 = 0) (hc : codeOk Bt.N rest1 = true) (k : KL) (hk : JK R k) (hp : k.ph = true) : WpC Tryd.prog Bt rest1 (InvK k) (Nxt Bt R k) := by
  obtain ⟨ph, l, ln, cl, acc, p, f⟩ := k
  obtain rfl : ph = true := hp
  obtain ⟨h1, h2, h3, h4, h5, h6, h7⟩ := hk
  simp only [if_true] at h1 h2 h3 h4 h5 h6 h7
  refine wpcL (ok := true) (u := 0) (dec := []) hB hc ?_
  show (rndL true 0 [] rest1 (invS (B l) ln cl acc.length (gY (accY acc)) (pcS p.k (B p.t) p.n p.ln p.cl))).wp _
  rw [rP]
  refine ⟨sizeP_ok (by omega), goK ⟨false, l, ln, cl, acc ++ [p], p, f⟩ rfl ⟨?_, h2, h3, h4, h5, h6, ?_⟩ ?_ ?_⟩
  · rw [if_neg (by simp)]; exact h1
  · rw [if_neg (by simp), List.length_append, List.length_singleton]; omega
  · show 2 * l.length + _ < 2 * l.length + _
    rw [if_neg (by simp), if_pos rfl]; omega
  · exact hold_app l ln cl acc p.k p.t p.n p.ln p.cl _
theorem round0 (hB : Bt.nx0 = 0) (hc : codeOk Bt.N rest0 = true) (k : KL) (hk : JK R k) (hp : k.ph = false) : WpC Tryd.prog Bt rest0 (InvK k) (Nxt Bt R k) := by
  obtain ⟨ph, l, ln, cl, acc, p, f⟩ := k
  obtain rfl : ph = false := hp
  obtain ⟨h1, h2, h3, h4, h5, h6, h7⟩ := hk
  rw [if_neg (by simp)] at h1 h7
  simp only [] at h1 h2 h3 h4 h5 h6 h7
  obtain ⟨f, rfl⟩ : ∃ f', f = f' + 1 := ⟨f - 1, by omega⟩
  have hst : InvK ⟨false, l, ln, cl, acc, p, f + 1⟩ = invS (B l) ln cl acc.length (gY (accY acc)) (pcC p) := rfl
  rw [hst]
  rw [lexR_succ] at h1
  by_cases hl : l = []
  · rw [if_pos hl] at h1
    refine wpcL (ok := true) (u := 0) (dec := [(20,true)]) hB hc ?_
    rw [rE]
    refine ⟨by rw [e0_eq]; exact decide_eq_true hl, sizeP_ok (by omega), fun E v hv => ?_⟩
    rw [← h1]
    have hv : Rep E (.tup [.sl (acc.length + 1) 5 (gA acc.length (accY acc) 0 (B []) 0 ln cl) false false, plA (il0 0) (il0 0), il0 0]) v := hv
    show Rep E (.tup [.sl (acc ++ [(⟨0, [], 0, ln, cl⟩ : Pc)]).length 5 (fun j => pcC (accY (acc ++ [(⟨0, [], 0, ln, cl⟩ : Pc)]) j)) false false, .agg [iv 0, iv 0], iv 0]) v
    cases hv with
    | tup h =>
      refine .tup ?_
      rename_i cs
      generalize cs.toList = vs at h
      cases h with | cons a1 h => cases h with | cons a2 h => cases h with | cons a3 h =>
      cases h
      refine .cons ?_ (.cons ?_ (.cons (v_of_lit _ _ a3) .nil))
      · rw [List.length_append, List.length_singleton]
        cases a1 with
        | slNil hn => exact .slNil hn
        | slEmp hn hf => exact .slEmp hn fun e => by cases e
        | sl q1 q2 q3 q4 q5 q6 => exact .sl q1 q2 (fun e => by cases e) q4 (fun i hi => by have := gA_eq acc 0 [] 0 ln cl i hi; rw [show (pcC (accY (acc ++ [(⟨0, [], 0, ln, cl⟩ : Pc)]) i)) = gY (accY (acc ++ [(⟨0, [], 0, ln, cl⟩ : Pc)])) i from rfl, ← this]; exact q5 i hi) q6
      · unfold plA at a2
        cases a2 with
        | agg h ho =>
          refine .agg ?_ ho
          rename_i cs
          generalize cs.toList = ws at h
          cases h with | cons b1 h => cases h with | cons b2 h =>
          cases h
          exact .cons (v_of_lit _ _ b1) (.cons (v_of_lit _ _ b2) .nil)
  rw [if_neg hl] at h1
  have hlen : 1 ≤ l.length := by cases l with | nil => exact absurd rfl hl | cons => simp
  have he0 : e0 (B l) = false := by rw [e0_eq]; exact decide_eq_false hl
  have hin : in0 (B l) := in0_of hl
  -- on to 'next', so many bytes on
  have next0 : ∀ (n : Nat) (ln' cl' : Int) (acc' : List Pc) (p' : Pc), 1 ≤ n → n ≤ l.length → 1 ≤ ln' → 1 ≤ cl' → ln' + cl' ≤ ln + cl + n → acc'.length ≤ acc.length + 1 → lexR f (l.drop n) ln' cl' acc' = R → JK R ⟨false, l.drop n, ln', cl', acc', p', f⟩ ∧ mK ⟨false, l.drop n, ln', cl', acc', p', f⟩ < mK ⟨false, l, ln, cl, acc, p, f + 1⟩ := fun n ln' cl' acc' p' a1 a2 a3 a4 a5 a6 a7 => by
    refine ⟨⟨a7, ?_, ?_, a3, a4, ?_, ?_⟩, ?_⟩
    · show (l.drop n).length < f; rw [List.length_drop]; omega
    · show (l.drop n).length ≤ 4096; rw [List.length_drop]; omega
    · show ln' + cl' + ((l.drop n).length : Nat) ≤ 5000; rw [List.length_drop]; omega
    · show acc'.length + (if false = true then 1 else 0) + (l.drop n).length ≤ 4096
      rw [List.length_drop, if_neg (by simp)]; omega
    · show 2 * (l.drop n).length + (if false = true then 1 else 0) < 2 * l.length + (if false = true then 1 else 0)
      rw [List.length_drop, if_neg (by simp)]; omega
  have next1 : ∀ (n : Nat) (cl' : Int) (p' : Pc), 1 ≤ n → n ≤ l.length → 1 ≤ cl' → cl' ≤ cl + n → lexR f (l.drop n) ln cl' (acc ++ [p']) = R → JK R ⟨true, l.drop n, ln, cl', acc, p', f⟩ ∧ mK ⟨true, l.drop n, ln, cl', acc, p', f⟩ < mK ⟨false, l, ln, cl, acc, p, f + 1⟩ := fun n cl' p' a1 a2 a4 a5 a7 => by
    refine ⟨⟨a7, ?_, ?_, h4, a4, ?_, ?_⟩, ?_⟩
    · show (l.drop n).length < f; rw [List.length_drop]; omega
    · show (l.drop n).length ≤ 4096; rw [List.length_drop]; omega
    · show ln + cl' + ((l.drop n).length : Nat) ≤ 5000; rw [List.length_drop]; omega
    · show acc.length + (if true = true then 1 else 0) + (l.drop n).length ≤ 4096
      rw [List.length_drop, if_pos rfl]; omega
    · show 2 * (l.drop n).length + (if true = true then 1 else 0) < 2 * l.length + (if false = true then 1 else 0)
      rw [List.length_drop, if_pos rfl, if_neg (by simp)]; omega
  by_cases c10 : ch l = 10
  · rw [if_pos c10] at h1
    refine wpcL (ok := true) (u := 0) (dec := [(20,false),(28,true)]) hB hc ?_
    rw [rN, c0_eq, suf_one, wq_in (by omega) (by omega)]
    obtain ⟨j1, j2⟩ := next0 1 (ln + 1) 1 acc ⟨0, [], 0, ln, cl⟩ (by omega) hlen (by omega) (by omega) (by omega) (by omega) h1
    exact ⟨he0, hin, by simp [c10], cut1_of hlen, cut2_of hlen, goK _ rfl j1 j2 (.refl _)⟩
  rw [if_neg c10] at h1
  have n10 : (ch l == 10) = false := by simp [c10]
  by_cases cb : ch l = 32 ∨ ch l = 9
  · rw [if_pos cb] at h1
    refine wpcL (ok := true) (u := 0) (dec := [(20,false),(28,false),(38,true)]) hB hc ?_
    rw [rB, c0_eq, suf_one, wq_in (by omega) (by omega), isB_eq]
    obtain ⟨j1, j2⟩ := next0 1 ln (cl + 1) acc ⟨0, [], 0, ln, cl⟩ (by omega) hlen (by omega) (by omega) (by omega) (by omega) h1
    exact ⟨he0, hin, n10, hin, fun _ => hin, decide_eq_true cb, cut1_of hlen, cut2_of hlen, goK _ rfl j1 j2 (.refl _)⟩
  rw [if_neg cb] at h1
  have nb : isB (B l) = false := by rw [isB_eq]; exact decide_eq_false cb
  by_cases c35 : ch l = 35
  · rw [if_pos c35] at h1
    have hr := runL_le p61 l
    have hr1 : 1 ≤ runL p61 l := run_pos hl (by rw [c35]; decide)
    refine wpcL (ok := true) (u := 0) (dec := [(20,false),(28,false),(38,false),(49,true)]) hB hc ?_
    rw [rC, c0_eq, rn61, suf_eq, wq_in (by omega) (by omega)]
    obtain ⟨j1, j2⟩ := next0 (runL p61 l) ln (cl + (runL p61 l : Nat)) acc ⟨0, [], 0, ln, cl⟩ hr1 hr (by omega) (by omega) (by omega) (by omega) h1
    exact ⟨he0, hin, n10, hin, fun _ => hin, nb, hin, by simp [c35], run61 l (by omega), cut1_of hr, cut2_of hr, goK _ rfl j1 j2 (.refl _)⟩
  rw [if_neg c35] at h1
  have n35 : (ch l == 35) = false := by simp [c35]
  by_cases cd : p62 (ch l) = true
  · rw [if_pos cd] at h1
    have hr := runL_le p62 l
    have hr1 : 1 ≤ runL p62 l := run_pos hl cd
    have hlt : (l.take (runL p62 l)).length ≤ 1000000 := by rw [List.length_take]; omega
    rcases parse_run hl cd with ⟨u, q1, q2⟩ | ⟨q1, q2⟩
    · rw [q2] at h1
      refine wpcL (ok := true) (u := (u : Nat)) (dec := [(20,false),(28,false),(38,false),(49,false),(57,true)]) hB hc ?_
      rw [rD, hdT, c0_eq, rn62, suf_eq, pre_eq, wq_in (by omega) (by omega)]
      obtain ⟨j1, j2⟩ := next1 (runL p62 l) (cl + (runL p62 l : Nat)) ⟨1, l.take (runL p62 l), (u : Nat), ln, cl⟩ hr1 hr (by omega) (by omega) h1
      exact ⟨he0, hin, n10, hin, fun _ => hin, nb, hin, n35, hin, S62_ok _, cd, run62 l (by omega), cut1_of hr, cut2_of hr, num_ok hlt q1, goK _ rfl j1 j2 (.refl _)⟩
    · rw [q2] at h1
      refine wpcL (ok := false) (u := 0) (dec := [(20,false),(28,false),(38,false),(49,false),(57,true)]) hB hc ?_
      rw [rR, hdT, c0_eq, rn62, pre_eq]
      refine ⟨he0, hin, n10, hin, fun _ => hin, nb, hin, n35, hin, S62_ok _, cd, run62 l (by omega), cut1_of hr, cut2_of hr, num_range hlt q1, ifcP_nonNil, fun E v hv => ?_⟩
      rw [← h1]
      exact tup3_lv hv
  rw [if_neg cd] at h1
  have ncd : p62 (ch l) = false := by simpa using cd
  by_cases cw : p64 (ch l) = true
  · rw [if_pos cw] at h1
    have hr := runL_le p65 l
    have hr1 : 1 ≤ runL p65 l := run_pos hl (by unfold p65; rw [if_pos cw])
    refine wpcL (ok := true) (u := 0) (dec := [(20,false),(28,false),(38,false),(49,false),(57,false),(79,true)]) hB hc ?_
    rw [rW, hdT, c0_eq, rn65, suf_eq, pre_eq, wq_in (by omega) (by omega)]
    obtain ⟨j1, j2⟩ := next1 (runL p65 l) (cl + (runL p65 l : Nat)) ⟨2, l.take (runL p65 l), 0, ln, cl⟩ hr1 hr (by omega) (by omega) h1
    exact ⟨he0, hin, n10, hin, fun _ => hin, nb, hin, n35, hin, S62_ok _, ncd, hin, S64_ok _, cw, run65 l (by omega), cut1_of hr, cut2_of hr, goK _ rfl j1 j2 (.refl _)⟩
  rw [if_neg cw] at h1
  have ncw : p64 (ch l) = false := by simpa using cw
  by_cases c0' : signL l = 0
  · rw [if_pos c0'] at h1
    refine wpcL (ok := true) (u := 0) (dec := [(20,false),(28,false),(38,false),(49,false),(57,false),(79,false),(92,true)]) hB hc ?_
    rw [rX, hdT, c0_eq, sg_eq]
    refine ⟨he0, hin, n10, hin, fun _ => hin, nb, hin, n35, hin, S62_ok _, ncd, hin, S64_ok _, ncw, sign66 l hl, by simp [c0'], fun E v hv => ?_⟩
    rw [← h1]
    exact tup3_lv hv
  · rw [if_neg c0'] at h1
    have hr := sign_le l hl
    refine wpcL (ok := true) (u := 0) (dec := [(20,false),(28,false),(38,false),(49,false),(57,false),(79,false),(92,false)]) hB hc ?_
    rw [rS, hdT, c0_eq, sg_eq, suf_eq, pre_eq, wq_in (by omega) (by omega)]
    obtain ⟨j1, j2⟩ := next0 (signL l) ln (cl + (signL l : Nat)) (acc ++ [⟨3, l.take (signL l), 0, ln, cl⟩]) ⟨3, l.take (signL l), 0, ln, cl⟩ (by omega) hr (by omega) (by omega) (by omega) (by rw [List.length_append, List.length_singleton]; omega) h1
    refine ⟨he0, hin, n10, hin, fun _ => hin, nb, hin, n35, hin, S62_ok _, ncd, hin, S64_ok _, ncw, sign66 l hl, ?_, cut1_of hr, cut2_of hr, sizeP_ok (by omega), goK _ rfl j1 j2 (hold_app _ _ _ acc 3 (l.take (signL l)) 0 ln cl _)⟩
    simp; omega
end
end
end Go.Proofs.YtdlghljhgbakjaaDoor

/-
  PART: the pieces of a text: what the program answers.
-/
namespace Go.Proofs.YtdlghljhgbakjaaDoor
open Go.RowKit
noncomputable section
noncomputable def lexRes (l : List UInt8) : LRes := if l.length > 4096 then .bad 4 1 1 else lexR (l.length + 1) l 1 1 []
noncomputable def ds28a : List (Nat × Bool) := [(1, false), (3, false)]
noncomputable def st28a (s : ByteArray) : St := { sl := [(1, .ptr 0 0), (3, .ptr 1 0)], hp := [(0, some (.fix 9 [.v (.string s)])), (1, some (.fix 56 [.lit (.int .i64 0), .lit (.int .i64 0)]))], nx := 2, rd := [], wr := [], ws := [], wb := [] }
noncomputable def st28b (s : ByteArray) : St := { sl := [(1, .ptr 0 0), (3, .ptr 1 0), (5, .ptr 2 0), (6, nilR), (7, .ptr 3 0), (9, .fn (.func 59) [] [.ptr 0 0, .ptr 2 0])], hp := [(0, some (.fix 9 [.v (.string s)])), (1, some (.fix 56 [.lit (.int .i64 0), .lit (.int .i64 0)])), (2, some (.fix 56 [.lit (.int .i64 1), .lit (.int .i64 1)])), (3, some (.fix 64 [.lit (.int .u8 0), .lit (.string (B [])), .lit (.int .u64 0), .lit (.int .i64 0), .lit (.int .i64 0)]))], nx := 4, rd := [], wr := [], ws := [], wb := [] }
section
variable (s : ByteArray)
theorem ev28a : (codeE (cxL true 0 (decL [])) (evs (cxL true 0 (decL [])) 60) (joins [cl c28]) (entry [.v (.string s)])).map (lfR 0 ds28a false res28) = .ret (.go .norm (some (st28a s))) := by kernel_rfl
theorem ev28t : (codeE (cxL true 0 (decL [(15,true)])) (evs (cxL true 0 (decL [(15,true)])) 60) (joins (firsts 7 cS)) (st28a s)).map (lfR 0 dsL false res28) = .side (decide ((s.size : Int) > 4096) = true) (.ret (.out (.tup [nilR, plA (il0 1) (il0 1), il0 4]))) := by kernel_rfl
theorem ev28f : (codeE (cxL true 0 (decL [(15,false)])) (evs (cxL true 0 (decL [(15,false)])) 60) (joins (firsts 7 cS)) (st28a s)).map (lfR 0 dsL false res28) = .side (decide ((s.size : Int) > 4096) = false) (.ret (.go .norm (some (st28b s)))) := by kernel_rfl
theorem nil28 : St.nilOwn? 0 dsL 6 64 5 (st28b s) = some (invS s 1 1 0 (fun _ => fit 5 []) (pcS 0 (B []) 0 0 0)) := by kernel_rfl
end
theorem tup3_lv2 {E : Env} {a : AV} {x y z v : Value} (h : Rep E (.tup [a, .agg [.lit x, .lit y], .lit z]) v) : Rep E (.tup [a, .agg [.v x, .v y], .v z]) v := by
  cases h with
  | tup h =>
    refine .tup ?_
    rename_i cs
    generalize cs.toList = vs at h
    cases h with | cons a1 h => cases h with | cons a2 h => cases h with | cons a3 h =>
    cases h
    refine .cons a1 (.cons ?_ (.cons (v_of_lit _ _ a3) .nil))
    cases a2 with
    | agg h ho =>
      refine .agg ?_ ho
      rename_i cs
      generalize cs.toList = ws at h
      cases h with | cons b1 h => cases h with | cons b2 h =>
      cases h
      exact .cons (v_of_lit _ _ b1) (.cons (v_of_lit _ _ b2) .nil)
theorem lex28 (l : List UInt8) : FrzOk Tryd.prog 28 [.v (.string (B l))] (ansL (lexRes l)) := by
  let R := lexRes l
  refine frz_of_ends fitTry Tryd.func28 (c := c28) (by kernel_rfl) (Nat.le_of_ble_eq_true (by kernel_rfl)) (O := OL R) (fun E w hd hf => ?_) fun a' h => h
  rw [code28]
  refine wpc_stageR (l := [cl c28]) (cx := cxL true 0 (decL [])) (n := 60) (ds := ds28a) (gb := false) (res := res28) (O := OL R) (cxL_ok _ _ _) fitTry (by simp) (by kernel_rfl) ?_ ends_ret
  show ((codeE (cxL true 0 (decL [])) (evs (cxL true 0 (decL [])) 60) (joins [cl c28]) (entry [.v (.string (B l))])).map (lfR 0 ds28a false res28)).wp _
  rw [ev28a]
  show WpC _ _ _ _ _
  have hk0 : codeOk (begins Tryd.f28.ntmps E w hd hf).N rest0 = true := by kernel_rfl
  have hk1 : codeOk (begins Tryd.f28.ntmps E w hd hf).N rest1 = true := by kernel_rfl
  have hr : ∀ k, JK R k → WpC Tryd.prog (begins Tryd.f28.ntmps E w hd hf) (restL (labK k)) (InvK k) (Nxt (begins Tryd.f28.ntmps E w hd hf) R k) := fun k hk => by
    cases hp : k.ph with
    | false =>
      have : labK k = 0 := by unfold labK; rw [hp]
      rw [this]
      exact wpc_skip1 (cx := cx0 (decL [])) (cx0_ok _) fitTry rfl (round0 rfl hk0 k hk hp)
    | true =>
      have : labK k = 1 := by unfold labK; rw [hp]
      rw [this]
      exact wpc_skip1 (cx := cx0 (decL [])) (cx0_ok _) fitTry rfl (round1 rfl hk1 k hk hp)
  refine wpc_scope_inv InvK labK (JK R) mK restL 20000 (fun k hk => ?_) ?_ hr
  · cases hp : k.ph with
    | false =>
      have : labK k = 0 := by unfold labK; rw [hp]
      rw [this]; exact lab0
    | true =>
      have : labK k = 1 := by unfold labK; rw [hp]
      rw [this]; exact lab1
  · rw [codeS]
    by_cases hl : l.length > 4096
    · refine wpc_stageR (cx := cxL true 0 (decL [(15,true)])) (n := 60) (ds := dsL) (gb := false) (res := res28) (O := OL R) (cxL_ok _ _ _) fitTry (by simp [firsts]) (by kernel_rfl) ?_ (fun s a h ho => .inr ⟨fun _ h => (by cases h), ends_ret s a h ho⟩)
      show ((codeE (cxL true 0 (decL [(15,true)])) (evs (cxL true 0 (decL [(15,true)])) 60) (joins (firsts 7 cS)) (st28a (B l))).map (lfR 0 dsL false res28)).wp _
      rw [ev28t]
      refine ⟨decide_eq_true (by rw [B_size]; omega), fun E v hv => ?_⟩
      have e : R = .bad 4 1 1 := by show lexRes l = _; unfold lexRes; rw [if_pos hl]
      rw [e]
      exact tup3_lv2 hv
    · refine wpc_stageR (cx := cxL true 0 (decL [(15,false)])) (n := 60) (ds := dsL) (gb := false) (res := res28) (O := OL R) (cxL_ok _ _ _) fitTry (by simp [firsts]) (by kernel_rfl) ?_ (fun s a h ho => .inr ⟨fun _ h => (by cases h), ends_ret s a h ho⟩)
      show ((codeE (cxL true 0 (decL [(15,false)])) (evs (cxL true 0 (decL [(15,false)])) 60) (joins (firsts 7 cS)) (st28a (B l))).map (lfR 0 dsL false res28)).wp _
      rw [ev28f]
      refine ⟨decide_eq_false (by rw [B_size]; omega), ?_⟩
      show WpC _ _ _ _ _
      let k0 : KL := ⟨false, l, 1, 1, [], pz, l.length + 1⟩
      have hj : JK R k0 := by
        refine ⟨?_, Nat.lt_succ_self _, by show l.length ≤ 4096; omega, by show (1 : Int) ≤ 1; omega, by show (1 : Int) ≤ 1; omega, by show (1 : Int) + 1 + (l.length : Nat) ≤ 5000; omega, by show 0 + 0 + l.length ≤ 4096; omega⟩
        show lexR (l.length + 1) l 1 1 [] = lexRes l
        unfold lexRes
        rw [if_neg hl]
      have hle : HoldLe (begins Tryd.f28.ntmps E w hd hf) (st28b (B l)) (InvK k0) := by
        refine (nilOwn_le (d := 6) (elem := 64) (k := 5) (nil28 (B l))).trans ?_
        exact hold_rows (s := invS (B l) 1 1 0 (fun _ => fit 5 []) (pcS 0 (B []) 0 0 0)) (m := InvK k0) rfl rfl (.same (.same (.same (.row (fun j hj => absurd hj (Nat.not_lt_zero j)) (.same .nil)))))
      refine wpc_pre hle (wpc_imp (round0 rfl hk0 k0 hj rfl) fun x s' h => ?_)
      rcases h with ⟨k', h1, h2, h3, h4⟩ | h
      · refine .inl ⟨k', h1, h2, ?_, h4⟩
        have : mK k0 = 2 * l.length + 0 := rfl
        omega
      · exact .inr h
end
end Go.Proofs.YtdlghljhgbakjaaDoor

/-
  PART: where a byte of a text stands: the loop.
-/
namespace Go.Proofs.YtdlghljhgbakjaaDoor
open Go.RowKit
/-- A function with one open loop, its rounds by the rules. -/
theorem frz_iloop {P : Program} (hfit : Fit P) {f : Nat} {fn : Func} {c : Code} (hfn : P.funcs[f]? = some fn) (hb : fn.body = some c) {args : List AV} (hle : Nat.ble args.length fn.ntmps = true) {a : AV} {O : AV → Prop} {ι : Type} {cx : Cx} (hc : CtrOk cx) (hP : cx.P = P) {n : Nat}
    {l : List Code} {a0 body tail : Code} {id : Nat} (hcode : c = seqs l (.seq (.seq a0 (.block id (.loop body))) tail)) (hl : l.isEmpty = false) (hok : ((l.all fun a => codeOk fn.ntmps a) && codeOk fn.ntmps a0 && codeOk fn.ntmps tail) = true)
    {s1 : St} {ds0 ds : List (Nat × Bool)} {gb0 gb : Bool} (Inv : ι → St) (J : ι → Prop) (m : ι → Nat) (Out : St → Prop)
    (h0 : ((codeE cx (evs cx n) (joins l) (entry args)).map (lfR 0 ds0 gb0 (resF P fn.results.toList))).wp (LfQ (fun x s => x = .norm ∧ s = s1) O))
    (h1 : ((codeE cx (evs cx n) a0 s1).map (lfR 0 ds gb (resF P fn.results.toList))).wp (LfQ (fun x s => x = .norm ∧ ∃ k, (∀ B : Start, B.nx0 = 0 → HoldLe B s (Inv k)) ∧ J k) fun _ => False))
    (h2 : ∀ (B : Start), B.nx0 = 0 → B.N = fn.ntmps → ∀ k, J k → WpC P B body (Inv k) (Round B (resF P fn.results.toList) Inv J m id k Out O))
    (h3 : ∀ s, Out s → ((codeE cx (evs cx n) tail s).map (lfR 0 [] false (resF P fn.results.toList))).wp (LfQ (fun _ _ => False) O))
    (hO : ∀ a', O a' → ∀ E v, Rep E a' v → Rep E a v) : FrzOk P f args a := by
  subst hP
  simp only [Bool.and_eq_true] at hok
  obtain ⟨⟨k1, k2⟩, k4⟩ := hok
  refine frz_of_ends hfit hfn hb (Nat.le_of_ble_eq_true hle) (O := O) (fun E w hd hf => ?_) hO
  rw [hcode]
  refine wpc_stageR (n := n) (ds := ds0) (gb := gb0) (res := resF cx.P fn.results.toList) (O := O) hc hfit (fun e => by rw [e] at hl; cases hl) k1 (Tree.wp_imp (fun q hq => ?_) h0) ends_ret
  cases q with
  | out a => exact hq
  | go x s =>
    cases s with
    | none => exact hq
    | some s =>
      obtain ⟨rfl, rfl⟩ := hq
      show WpC _ _ _ _ _
      refine wpc_ioloop hc hfit (n := n) (ds := ds) (gb := gb) (res := resF cx.P fn.results.toList) (O := O) Inv J m Out k2 (Tree.wp_imp (fun q hq => ?_) h1) (fun k hk => h2 _ rfl rfl k hk) ends_ret fun s hs => ?_
      · cases q with
        | out a => exact hq
        | go x s => cases s with
          | none => exact hq
          | some s =>
            obtain ⟨h1, k, h2, h3⟩ := hq
            exact ⟨h1, k, h2 _ rfl, h3⟩
      · refine wpc_of_lfR hc hfit (n := n) (ds := []) (gb := false) (res := resF cx.P fn.results.toList) (O := O) k4 (Tree.wp_imp (fun q hq => ?_) (h3 s hs)) ends_ret
        cases q with
        | out a => exact hq
        | go x s => cases s with
          | none => exact hq
          | some s => exact hq.elim
noncomputable section
noncomputable def c67 : Code := codeOf Tryd.f67
noncomputable def res67 : St → Option AV := resF Tryd.prog Tryd.f67.results.toList
noncomputable def body67 : Code := cin (cin (cr (cl (behind 2 c67))))
noncomputable def a67 : Code := cl (cl (behind 2 c67))
noncomputable def tail67 : Code := cr (behind 2 c67)
theorem code67 : c67 = seqs (firsts 2 c67) (.seq (.seq a67 (.block 0 (.loop body67))) tail67) := by kernel_rfl
noncomputable def ds67a : List (Nat × Bool) := [(0, false), (1, false), (4, false), (5, false)]
noncomputable def ds67 : List (Nat × Bool) := [(0, false), (1, false), (4, false), (5, false), (6, true)]
noncomputable def hp67 (ln cl : Int) : List (Nat × Option Blk) := [(0, some (.fix 56 [.v (.int .i64 0), .v (.int .i64 0)])), (1, some (.fix 56 [.v (.int .i64 ln), .v (.int .i64 cl)]))]
noncomputable def st67 (s : ByteArray) (n : Int) : St := { sl := [(0, .v (.string s)), (1, .v (.int .i64 n)), (4, .ptr 0 0), (5, .ptr 1 0)], hp := hp67 1 1, nx := 2, rd := [], wr := [], ws := [], wb := [] }
noncomputable def inv67 (s : ByteArray) (n i ln cl : Int) : St := { sl := [(0, .v (.string s)), (1, .v (.int .i64 n)), (4, .ptr 0 0), (5, .ptr 1 0), (6, .v (.int .i64 i))], hp := hp67 ln cl, nx := 2, rd := [], wr := [], ws := [], wb := [] }
noncomputable def bod67 (dec : List (Nat × Bool)) (s : ByteArray) (n i ln cl : Int) : Tree Lf := (codeE (cx0 (decL dec)) (evs (cx0 (decL dec)) 60) body67 (inv67 s n i ln cl)).map (lfR 0 ds67 true res67)
noncomputable def gt' (s : St) : Tree Lf := .ret (.go .norm (some s))
noncomputable def bI (s : ByteArray) (i : Int) : Int := ((s.data.getD i.toNat 0).toNat : Nat)
section
variable (s : ByteArray) (n i ln cl : Int)
theorem p67_0 : (codeE cx0' (evs cx0' 60) (joins (firsts 2 c67)) (entry [.v (.string s), .v (.int .i64 n)])).map (lfR 0 ds67a true res67) = .ret (.go .norm (some (st67 s n))) := by kernel_rfl
theorem p67_a : (codeE cx0' (evs cx0' 60) a67 (st67 s n)).map (lfR 0 ds67 true res67) = .ret (.go .norm (some (inv67 s n 0 1 1))) := by kernel_rfl
theorem p67_t : bod67 [(10,true),(20,true)] s n i ln cl = .side (decide (i < n) = true) (.side (0 ≤ i ∧ i < (s.size : Int)) (.side ((bI s i == 10) = true) (gt' (inv67 s n (wq (i + 1)) (wq (ln + 1)) 1)))) := by kernel_rfl
theorem p67_f : bod67 [(10,true),(20,false)] s n i ln cl = .side (decide (i < n) = true) (.side (0 ≤ i ∧ i < (s.size : Int)) (.side ((bI s i == 10) = false) (gt' (inv67 s n (wq (i + 1)) ln (wq (cl + 1)))))) := by kernel_rfl
theorem p67_x : bod67 [(10,false)] s n i ln cl = .side (decide (i < n) = false) (.ret (.go (.exit 0) (some (inv67 s n i ln cl)))) := by kernel_rfl
theorem p67_e : (codeE cx0' (evs cx0' 60) tail67 (inv67 s n i ln cl)).map (lfR 0 [] false res67) = .ret (.out (.agg [iv ln, iv cl])) := by kernel_rfl
end
/-- Where a byte stands. -/
noncomputable def plc (l : List UInt8) : Nat → Int × Int
  | 0 => (1, 1)
  | i + 1 => if ((l.getD i 0).toNat : Int) = 10 then ((plc l i).1 + 1, 1) else ((plc l i).1, (plc l i).2 + 1)
theorem plc_succ (l : List UInt8) (i : Nat) : plc l (i + 1) = if ((l.getD i 0).toNat : Int) = 10 then ((plc l i).1 + 1, 1) else ((plc l i).1, (plc l i).2 + 1) := rfl
theorem plc_in (l : List UInt8) : ∀ i, 1 ≤ (plc l i).1 ∧ 1 ≤ (plc l i).2 ∧ (plc l i).1 + (plc l i).2 ≤ i + 2
  | 0 => by show (1:Int) ≤ 1 ∧ (1:Int) ≤ 1 ∧ (1:Int) + 1 ≤ 0 + 2; omega
  | i + 1 => by
    have := plc_in l i
    rw [plc_succ]
    split
    · show 1 ≤ (plc l i).1 + 1 ∧ (1:Int) ≤ 1 ∧ (plc l i).1 + 1 + 1 ≤ _; omega
    · show 1 ≤ (plc l i).1 ∧ 1 ≤ (plc l i).2 + 1 ∧ (plc l i).1 + ((plc l i).2 + 1) ≤ _; omega
theorem bI_nat (l : List UInt8) (i : Nat) : bI (B l) (i : Int) = ((l.getD i 0).toNat : Nat) := by unfold bI; rw [Int.toNat_natCast, B_getD]
theorem place67 (l : List UInt8) (n : Nat) (hn : n ≤ l.length) (hl : l.length ≤ 100000) : FrzOk Tryd.prog 67 [.v (.string (B l)), .v (.int .i64 (n : Nat))] (.agg [iv (plc l n).1, iv (plc l n).2]) := by
  let Inv : Nat → St := fun i => inv67 (B l) (n : Nat) (i : Nat) (plc l i).1 (plc l i).2
  refine frz_iloop fitTry Tryd.func67 (c := c67) (by kernel_rfl) (by kernel_rfl) (O := fun a => ∀ E v, Rep E a v → Rep E (.agg [iv (plc l n).1, iv (plc l n).2]) v) (cx := cx0') (cx0_ok _) rfl (n := 60) code67 (by kernel_rfl) (by kernel_rfl) (ds0 := ds67a) (gb0 := true) (s1 := st67 (B l) (n : Nat)) (ds := ds67) (gb := true)
    Inv (fun i => i ≤ n) (fun i => n - i) (fun s => s = Inv n) ?_ ?_ (fun Bt hB hN i hi => ?_) (fun s hs => ?_) (fun a h => h)
  · show ((codeE cx0' (evs cx0' 60) (joins (firsts 2 c67)) (entry [.v (.string (B l)), .v (.int .i64 (n : Nat))])).map (lfR 0 ds67a true res67)).wp _
    rw [p67_0]; exact ⟨rfl, rfl⟩
  · show ((codeE cx0' (evs cx0' 60) a67 (st67 (B l) (n : Nat))).map (lfR 0 ds67 true res67)).wp _
    rw [p67_a]; exact ⟨rfl, 0, fun _ _ => .refl _, Nat.zero_le _⟩
  · have hk : codeOk Bt.N body67 = true := by rw [hN]; kernel_rfl
    have hp := plc_in l i
    by_cases hlt : i < n
    · have w1 : wq ((i : Int) + 1) = ((i + 1 : Nat) : Int) := wq_in (by omega) (by omega)
      have w2 : wq ((plc l i).1 + 1) = (plc l i).1 + 1 := wq_in (by omega) (by omega)
      have w3 : wq ((plc l i).2 + 1) = (plc l i).2 + 1 := wq_in (by omega) (by omega)
      by_cases hc : ((l.getD i 0).toNat : Int) = 10
      · refine wpc_endH (cx := cx0 (decL [(10,true),(20,true)])) (n := 60) (ds := ds67) (gb := true) (res := res67) (cx0_ok _) fitTry hk ?_
        rw [hB]
        show (bod67 [(10,true),(20,true)] (B l) (n : Nat) (i : Nat) (plc l i).1 (plc l i).2).wp _
        rw [p67_t, w1, w2, bI_nat, B_size]
        refine ⟨decide_eq_true (by omega), by omega, beq_iff_eq.2 hc, i + 1, ?_, by show i + 1 ≤ n; omega, by show n - (i + 1) < n - i; omega⟩
        show HoldLe Bt _ (inv67 (B l) (n : Nat) ((i + 1 : Nat) : Int) (plc l (i + 1)).1 (plc l (i + 1)).2)
        rw [plc_succ, if_pos hc]
        exact .refl _
      · refine wpc_endH (cx := cx0 (decL [(10,true),(20,false)])) (n := 60) (ds := ds67) (gb := true) (res := res67) (cx0_ok _) fitTry hk ?_
        rw [hB]
        show (bod67 [(10,true),(20,false)] (B l) (n : Nat) (i : Nat) (plc l i).1 (plc l i).2).wp _
        rw [p67_f, w1, w3, bI_nat, B_size]
        refine ⟨decide_eq_true (by omega), by omega, beq_eq_false_iff_ne.2 hc, i + 1, ?_, by show i + 1 ≤ n; omega, by show n - (i + 1) < n - i; omega⟩
        show HoldLe Bt _ (inv67 (B l) (n : Nat) ((i + 1 : Nat) : Int) (plc l (i + 1)).1 (plc l (i + 1)).2)
        rw [plc_succ, if_neg hc]
        exact .refl _
    · refine wpc_endH (cx := cx0 (decL [(10,false)])) (n := 60) (ds := ds67) (gb := true) (res := res67) (cx0_ok _) fitTry hk ?_
      rw [hB]
      show (bod67 [(10,false)] (B l) (n : Nat) (i : Nat) (plc l i).1 (plc l i).2).wp _
      rw [p67_x]
      obtain rfl : i = n := by omega
      exact ⟨decide_eq_false (by omega), rfl, _, .refl _, rfl⟩
  · subst hs
    show ((codeE cx0' (evs cx0' 60) tail67 (inv67 (B l) (n : Nat) (n : Nat) (plc l n).1 (plc l n).2)).map (lfR 0 [] false res67)).wp _
    rw [p67_e]; exact fun E v hv => hv
end
end Go.Proofs.YtdlghljhgbakjaaDoor

/-
  PART: what digits come to, by the document.
-/
namespace Go.Proofs.YtdlghljhgbakjaaDoor
open Go.RowKit
noncomputable section
noncomputable def c69 : Code := codeOf Tryd.f69
noncomputable def res69 : St → Option AV := resF Tryd.prog Tryd.f69.results.toList
noncomputable def body69 : Code := cin (cin (cr (cl (behind 2 c69))))
noncomputable def a69 : Code := cl (cl (behind 2 c69))
noncomputable def tail69 : Code := cr (behind 2 c69)
theorem code69 : c69 = seqs (firsts 2 c69) (.seq (.seq a69 (.block 0 (.loop body69))) tail69) := by kernel_rfl
noncomputable def ds69a : List (Nat × Bool) := [(0, false), (4, true)]
noncomputable def ds69 : List (Nat × Bool) := [(0, false), (4, true), (5, true)]
noncomputable def st69 (s : ByteArray) : St := { sl := [(0, .v (.string s)), (4, .v (.int .u64 0))], hp := [], nx := 0, rd := [], wr := [], ws := [], wb := [] }
noncomputable def inv69 (s : ByteArray) (n i : Int) : St := { sl := [(0, .v (.string s)), (4, .v (.int .u64 n)), (5, .v (.int .i64 i))], hp := [], nx := 0, rd := [], wr := [], ws := [], wb := [] }
noncomputable def bod69 (dec : List (Nat × Bool)) (s : ByteArray) (n i : Int) : Tree Lf := (codeE (cx0 (decL dec)) (evs (cx0 (decL dec)) 60) body69 (inv69 s n i)).map (lfR 0 ds69 true res69)
noncomputable def uw (z : Int) : Int := IntKind.u64.wrap z
noncomputable def dgI (s : ByteArray) (i : Int) : Int := uw (IntKind.u8.wrap (bI s i - 48))
noncomputable def ov69 (s : ByteArray) (n i : Int) : Bool := decide (n > uw ((uw (18446744073709551615 - dgI s i)).tdiv 10))
section
variable (s : ByteArray) (n i : Int)
theorem n69_0 : (codeE cx0' (evs cx0' 60) (joins (firsts 2 c69)) (entry [.v (.string s)])).map (lfR 0 ds69a true res69) = .ret (.go .norm (some (st69 s))) := by kernel_rfl
theorem n69_a : (codeE cx0' (evs cx0' 60) a69 (st69 s)).map (lfR 0 ds69 true res69) = .ret (.go .norm (some (inv69 s 0 0))) := by kernel_rfl
theorem n69_t : bod69 [(10,true),(22,true)] s n i = .side (decide (i < (s.size : Int)) = true) (.side (0 ≤ i ∧ i < (s.size : Int)) (.side ((10 : Int) ≠ 0) (.side (ov69 s n i = true) (.ret (.out (.tup [.lit (.int .u64 0), .lit (.bool false)])))))) := by kernel_rfl
theorem n69_f : bod69 [(10,true),(22,false)] s n i = .side (decide (i < (s.size : Int)) = true) (.side (0 ≤ i ∧ i < (s.size : Int)) (.side ((10 : Int) ≠ 0) (.side (ov69 s n i = false) (gt' (inv69 s (uw (uw (10 * n) + dgI s i)) (wq (i + 1))))))) := by kernel_rfl
theorem n69_x : bod69 [(10,false)] s n i = .side (decide (i < (s.size : Int)) = false) (.ret (.go (.exit 0) (some (inv69 s n i)))) := by kernel_rfl
theorem n69_e : (codeE cx0' (evs cx0' 60) tail69 (inv69 s n i)).map (lfR 0 [] false res69) = .ret (.out (.tup [.v (.int .u64 n), .lit (.bool true)])) := by kernel_rfl
end
end
end Go.Proofs.YtdlghljhgbakjaaDoor

/-
  PART: what digits come to, by the document: the contract.
-/
namespace Go.Proofs.YtdlghljhgbakjaaDoor
open Go.RowKit
noncomputable def dNat (c : UInt8) : Nat := c.toNat - 48
noncomputable def refN : Nat → List UInt8 → Option Nat
  | acc, [] => some acc
  | acc, c :: l => if 18446744073709551615 < acc * 10 + dNat c then none else refN (acc * 10 + dNat c) l
theorem refN_cons (acc : Nat) (c : UInt8) (l : List UInt8) : refN acc (c :: l) = if 18446744073709551615 < acc * 10 + dNat c then none else refN (acc * 10 + dNat c) l := rfl
theorem u8w (n : Int) : IntKind.u8.wrap n = n % 256 := by simp [IntKind.wrap, IntKind.bits, IntKind.signed]
theorem u64w (n : Int) : IntKind.u64.wrap n = n % 18446744073709551616 := by simp [IntKind.wrap, IntKind.bits, IntKind.signed]
noncomputable def allD (l : List UInt8) : Prop := ∀ c ∈ l, 48 ≤ c.toNat ∧ c.toNat ≤ 57
theorem refN_parse : ∀ (l : List UInt8) (acc : Nat), allD l → (match refN acc l with | some u => Lib.parseUintM (2 ^ 64 - 1) acc l = .ok u | none => Lib.parseUintM (2 ^ 64 - 1) acc l = .range)
  | [], acc, _ => rfl
  | c :: l, acc, h => by
    have hc := h c (List.mem_cons_self ..)
    have ih := refN_parse l (acc * 10 + dNat c) fun d hd => h d (List.mem_cons_of_mem _ hd)
    have e : (2 : Nat) ^ 64 - 1 = 18446744073709551615 := by decide
    unfold refN Lib.parseUintM
    rw [if_pos hc]
    unfold dNat at ih ⊢
    by_cases h1 : 18446744073709551615 < acc * 10 + (c.toNat - 48)
    · rw [if_pos h1]
      by_cases h2 : 1844674407370955162 ≤ acc
      · rw [if_pos h2]
      · rw [if_neg h2, e, if_pos h1]
    · rw [if_neg h1, if_neg (by omega)]
      rw [e] at ih ⊢
      rw [if_neg h1]
      exact ih
theorem numOf_refN {l : List UInt8} (hl : l ≠ []) (h : allD l) : numOf l = refN 0 l := by
  have := refN_parse l 0 h
  unfold numOf Lib.parseUintB
  rw [if_neg hl]
  cases hr : refN 0 l with
  | some u => rw [hr] at this; simp only [] at this; rw [this]
  | none => rw [hr] at this; simp only [] at this; rw [this]
noncomputable section
noncomputable def ansN : Option Nat → AV
  | some u => .tup [.v (.int .u64 (u : Nat)), .lit (.bool true)]
  | none => .tup [.lit (.int .u64 0), .lit (.bool false)]
structure KN where
  i : Nat
  n : Nat
theorem number69 (l : List UInt8) (hd : allD l) (hl : l.length ≤ 100000) : FrzOk Tryd.prog 69 [.v (.string (B l))] (ansN (refN 0 l)) := by
  let Inv : KN → St := fun k => inv69 (B l) (k.n : Nat) (k.i : Nat)
  let J : KN → Prop := fun k => k.i ≤ l.length ∧ k.n ≤ 18446744073709551615 ∧ refN k.n (l.drop k.i) = refN 0 l
  refine frz_iloop fitTry Tryd.func69 (c := c69) (by kernel_rfl) (by kernel_rfl) (O := fun a => ∀ E v, Rep E a v → Rep E (ansN (refN 0 l)) v) (cx := cx0') (cx0_ok _) rfl (n := 60) code69 (by kernel_rfl) (by kernel_rfl) (ds0 := ds69a) (gb0 := true) (s1 := st69 (B l)) (ds := ds69) (gb := true)
    Inv J (fun k => l.length - k.i) (fun s => ∃ k : KN, s = Inv k ∧ refN 0 l = some k.n) ?_ ?_ (fun Bt hB hN k hk => ?_) (fun s hs => ?_) (fun a h => h)
  · show ((codeE cx0' (evs cx0' 60) (joins (firsts 2 c69)) (entry [.v (.string (B l))])).map (lfR 0 ds69a true res69)).wp _
    rw [n69_0]; exact ⟨rfl, rfl⟩
  · show ((codeE cx0' (evs cx0' 60) a69 (st69 (B l))).map (lfR 0 ds69 true res69)).wp _
    rw [n69_a]; exact ⟨rfl, ⟨0, 0⟩, fun _ _ => .refl _, Nat.zero_le _, by show 0 ≤ _; omega, rfl⟩
  · have hcode : codeOk Bt.N body69 = true := by rw [hN]; kernel_rfl
    obtain ⟨i, n⟩ := k
    obtain ⟨hi, hn, hr⟩ := hk
    simp only [] at hi hn hr
    by_cases hlt : i < l.length
    · have w1 : wq ((i : Int) + 1) = ((i + 1 : Nat) : Int) := wq_in (by omega) (by omega)
      have hg : l.getD i 0 = l[i] := by simp [List.getD, hlt]
      have hc := hd (l.getD i 0) (by rw [hg]; exact List.getElem_mem hlt)
      have hdrop : l.drop i = l.getD i 0 :: l.drop (i + 1) := by rw [hg]; exact List.drop_eq_getElem_cons hlt
      rw [hdrop, refN_cons] at hr
      have d1 : dgI (B l) (i : Nat) = (dNat (l.getD i 0) : Nat) := by
        unfold dgI uw dNat
        rw [bI_nat]
        rw [u8w, u64w]
        omega
      have d2 : dNat (l.getD i 0) ≤ 9 := by unfold dNat; omega
      generalize dNat (l.getD i 0) = d at *
      have u1 : ∀ z : Int, 0 ≤ z → z < 18446744073709551616 → uw z = z := fun z h0 h1 => by
        unfold uw
        rw [u64w]
        omega
      have hov : ov69 (B l) (n : Nat) (i : Nat) = decide (18446744073709551615 < n * 10 + d) := by
        unfold ov69
        rw [d1, u1 (18446744073709551615 - (d : Int)) (by omega) (by omega), Int.tdiv_eq_ediv_of_nonneg (by omega), u1 ((18446744073709551615 - (d : Int)) / 10) (by omega) (by omega)]
        by_cases h : 18446744073709551615 < n * 10 + d
        · rw [decide_eq_true h]; exact decide_eq_true (by omega)
        · rw [decide_eq_false h]; exact decide_eq_false (by omega)
      by_cases h : 18446744073709551615 < n * 10 + d
      · rw [if_pos h] at hr
        refine wpc_endH (cx := cx0 (decL [(10,true),(22,true)])) (n := 60) (ds := ds69) (gb := true) (res := res69) (cx0_ok _) fitTry hcode ?_
        rw [hB]
        show (bod69 [(10,true),(22,true)] (B l) (n : Nat) (i : Nat)).wp _
        rw [n69_t, B_size, hov]
        refine ⟨decide_eq_true (by omega), by omega, by decide, decide_eq_true h, fun E v hv => ?_⟩
        rw [← hr]; exact hv
      · rw [if_neg h] at hr
        refine wpc_endH (cx := cx0 (decL [(10,true),(22,false)])) (n := 60) (ds := ds69) (gb := true) (res := res69) (cx0_ok _) fitTry hcode ?_
        rw [hB]
        show (bod69 [(10,true),(22,false)] (B l) (n : Nat) (i : Nat)).wp _
        rw [n69_f, B_size, hov, w1, d1, u1 (10 * (n : Int)) (by omega) (by omega), u1 _ (by omega) (by omega)]
        have e : (10 * (n : Int) + (d : Nat)) = ((n * 10 + d : Nat) : Int) := by omega
        rw [e]
        exact ⟨decide_eq_true (by omega), by omega, by decide, decide_eq_false h, ⟨i + 1, n * 10 + d⟩, .refl _, ⟨by show i + 1 ≤ _; omega, by show n * 10 + d ≤ _; omega, hr⟩, by show l.length - (i + 1) < l.length - i; omega⟩
    · refine wpc_endH (cx := cx0 (decL [(10,false)])) (n := 60) (ds := ds69) (gb := true) (res := res69) (cx0_ok _) fitTry hcode ?_
      rw [hB]
      show (bod69 [(10,false)] (B l) (n : Nat) (i : Nat)).wp _
      rw [n69_x, B_size]
      have : l.drop i = [] := List.drop_eq_nil_of_le (by omega)
      rw [this] at hr
      exact ⟨decide_eq_false (by omega), rfl, _, .refl _, ⟨i, n⟩, rfl, hr.symm⟩
  · obtain ⟨k, rfl, hr⟩ := hs
    show ((codeE cx0' (evs cx0' 60) tail69 (inv69 (B l) (k.n : Nat) (k.i : Nat))).map (lfR 0 [] false res69)).wp _
    rw [n69_e]
    refine fun E v hv => ?_
    rw [hr]; exact hv
end
end Go.Proofs.YtdlghljhgbakjaaDoor

/-
  PART: the pieces of a text, by the document: its code, its states.
-/
namespace Go.Proofs.YtdlghljhgbakjaaDoor
open Go.RowKit
noncomputable def condT : Code → Code
  | .cond _ a _ => a
  | c => c
noncomputable def condF : Code → Code
  | .cond _ _ b => b
  | c => c
noncomputable section
noncomputable def intA0 : AV → Int
  | .v (.int _ z) => z
  | .lit (.int _ z) => z
  | _ => 0
noncomputable def sgnL : List (List UInt8) := [[61, 61], [33, 61], [60, 61], [60], [61], [33], [43], [45], [124], [94], [42], [47], [37], [38], [40], [41], [123], [125], [44], [59], [58]]
noncomputable def sgnA : AV := .sl 21 1 (fun j => [.v (.string (B (sgnL.getD j [])))]) true false
noncomputable def tabRF (ok : Bool) (u : Int) (f : Nat) (args : List AV) : Option (Tree AV) := match f, args with
  | 67, [s, i] => some (.side (FrzOk Tryd.prog 67 [s, i] (.agg [iv (plc (strA s).data.toList (intA0 i).toNat).1, iv (plc (strA s).data.toList (intA0 i).toNat).2])) (.ret (.agg [iv (plc (strA s).data.toList (intA0 i).toNat).1, iv (plc (strA s).data.toList (intA0 i).toNat).2])))
  | 69, [s] => match ok with
    | true => some (.side (FrzOk Tryd.prog 69 [s] (.tup [.v (.int .u64 u), .lit (.bool true)])) (.ret (.tup [.v (.int .u64 u), .lit (.bool true)])))
    | false => some (.side (FrzOk Tryd.prog 69 [s] (.tup [.lit (.int .u64 0), .lit (.bool false)])) (.ret (.tup [.lit (.int .u64 0), .lit (.bool false)])))
  | 70, [] => some (.side (FrzOk Tryd.prog 70 [] sgnA) (.ret sgnA))
  | _, _ => none
theorem tabRF_ok (ok : Bool) (u : Int) : TabFOk Tryd.prog (tabRF ok u) := by
  intro f args t a ht hh
  unfold tabRF at ht
  split at ht
  · cases ht
    obtain ⟨h1, h2⟩ := hh
    cases h2
    exact h1
  · split at ht
    · cases ht
      obtain ⟨h1, h2⟩ := hh
      cases h2
      exact h1
    · cases ht
      obtain ⟨h1, h2⟩ := hh
      cases h2
      exact h1
  · cases ht
    obtain ⟨h1, h2⟩ := hh
    cases h2
    exact h1
  · cases ht
noncomputable def noP (_ : Nat) (_ : List AV) : Option (Tree AV) := none
theorem noP_ok {P : Program} : TabOk P noP := fun _ _ _ _ h => nomatch h
noncomputable def cxR (ok : Bool) (u : Int) (dec : Nat → St → Option Bool) : Cx := ⟨Tryd.prog, ctrOf2 noP (tabRF ok u), dec⟩
theorem cxR_ok (ok : Bool) (u : Int) (dec : Nat → St → Option Bool) : CtrOk (cxR ok u dec) := ctrOf2_ok noP_ok (tabRF_ok ok u) dec
noncomputable def c29 : Code := codeOf Tryd.f29
noncomputable def res29 : St → Option AV := resF Tryd.prog Tryd.f29.results.toList
noncomputable def body29 : Code := cin (cin (cl (behind 4 c29)))
noncomputable def tail29 : Code := cr (behind 4 c29)
noncomputable def in29 : Code := cin (cr body29)
noncomputable def cc29 : Code := cl (behind 3 in29)            -- a comment
noncomputable def lc29 : Code := cin (cin (cl (condT (cr cc29))))
noncomputable def w29 : Code := cl (behind 5 in29)
noncomputable def y29 : Code := cr (behind 5 in29)
noncomputable def ww29 : Code := condT (cr w29)
noncomputable def lw29 : Code := cin (cin (cl ww29))
noncomputable def nd29 : Code := condF (cr w29)
noncomputable def dd29 : Code := condT (cr nd29)
noncomputable def ld29 : Code := cin (cin (cl dd29))
noncomputable def sg29 : Code := condF (cr nd29)
noncomputable def ls29 : Code := cin (cin (cr (cl (cr sg29))))
theorem code29 : c29 = seqs (firsts 4 c29) (.seq (.block 0 (.loop body29)) tail29) := by kernel_rfl
theorem codeB : body29 = .seq (cl body29) (.block 1 in29) := by kernel_rfl
theorem codeC : in29 = seqs (firsts 3 in29) (.seq (.seq (cl cc29) (.cond (.tmp 39) (.seq (.block 2 (.loop lc29)) (cr (condT (cr cc29)))) .skip)) (behind 4 in29)) := by kernel_rfl
theorem codeI : in29 = seqs (firsts 5 in29) (.seq w29 y29) := by kernel_rfl
theorem codeW : w29 = .seq (cl w29) (.cond (.tmp 57) (.seq (.block 4 (.loop lw29)) (cr ww29)) nd29) := by kernel_rfl
theorem codeN : nd29 = .seq (cl nd29) (.cond (.tmp 72) (.seq (.block 6 (.loop ld29)) (cr dd29)) sg29) := by kernel_rfl
theorem codeG : sg29 = .seq (cl sg29) (.seq (.seq (cl (cl (cr sg29))) (.block 8 (.loop ls29))) (cr (cr sg29))) := by kernel_rfl
end
end Go.Proofs.YtdlghljhgbakjaaDoor

/-
  PART: the pieces of a text, by the document: the normal forms.
-/
namespace Go.Proofs.YtdlghljhgbakjaaDoor
open Go.RowKit
noncomputable section
noncomputable def rndR (ok : Bool) (u : Int) (dec : List (Nat × Bool)) (ds : List (Nat × Bool)) (c : Code) (s : St) : Tree Lf := (codeE (cxR ok u (decL dec)) (evs (cxR ok u (decL dec)) 60) c s).map (lfR 0 ds true res29)
noncomputable def sl29 (s : ByteArray) (i : Int) (n : Nat) : List (Nat × AV) := [(0, .v (.string s)), (3, .ptr 0 0), (5, .own 1 n 5 false), (6, .v (.int .i64 i))]
noncomputable def hp29 (n : Nat) (get : Nat → List AV) : List (Nat × Option Blk) := [(0, some (.fix 56 [.v (.int .i64 0), .v (.int .i64 0)])), (1, some (.arr 65 n 5 get))]
noncomputable def hp29p (n : Nat) (get : Nat → List AV) (pc : List AV) : List (Nat × Option Blk) := [(0, some (.fix 56 [.v (.int .i64 0), .v (.int .i64 0)])), (1, some (.arr 65 n 5 get)), (2, some (.fix 65 pc))]
noncomputable def mkS (sl : List (Nat × AV)) (hp : List (Nat × Option Blk)) (nx : Nat) : St := { sl := sl, hp := hp, nx := nx, rd := [], wr := [], ws := [], wb := [] }
noncomputable def inv29 (s : ByteArray) (i : Int) (n : Nat) (get : Nat → List AV) : St := mkS (sl29 s i n) (hp29 n get) 2
noncomputable def ds29 : List (Nat × Bool) := [(0, false), (3, false), (5, false), (6, true)]
noncomputable def ds39 : List (Nat × Bool) := [(0, false), (3, false), (5, false), (6, true), (39, false)]
noncomputable def ds7 : List (Nat × Bool) := [(0, false), (3, false), (5, false), (6, true), (7, false), (8, true)]
noncomputable def dsM : List (Nat × Bool) := [(0, false), (3, false), (5, false), (6, true), (7, false), (8, true), (9, false)]
noncomputable def dsM57 : List (Nat × Bool) := [(0, false), (3, false), (5, false), (6, true), (7, false), (8, true), (9, false), (57, false)]
noncomputable def dsM72 : List (Nat × Bool) := [(0, false), (3, false), (5, false), (6, true), (7, false), (8, true), (9, false), (72, false)]
noncomputable def dsW : List (Nat × Bool) := [(0, false), (3, false), (5, false), (6, true), (8, true), (9, false)]
noncomputable def dsS : List (Nat × Bool) := [(0, false), (3, false), (5, false), (6, true), (8, true), (9, false), (12, false)]
noncomputable def dsT : List (Nat × Bool) := [(0, false), (3, false), (5, false), (6, true), (8, true), (9, false), (12, false), (13, true)]
noncomputable def st7 (s : ByteArray) (i : Int) (n : Nat) (get : Nat → List AV) : St := mkS (sl29 s i n ++ [(7, .v (.int .u8 (bI s i))), (8, .v (.int .i64 i))]) (hp29 n get) 2
noncomputable def st39 (s : ByteArray) (i : Int) (n : Nat) (get : Nat → List AV) : St := mkS (sl29 s i n ++ [(39, .v (.bool (bI s i == 35)))]) (hp29 n get) 2
noncomputable def stM (s : ByteArray) (i : Int) (n : Nat) (get : Nat → List AV) (pc : List AV) (x : List (Nat × AV)) : St := mkS (sl29 s i n ++ ([(7, .v (.int .u8 (bI s i))), (8, .v (.int .i64 i)), (9, .ptr 2 0)] ++ x)) (hp29p n get pc) 3
noncomputable def stW (s : ByteArray) (i e : Int) (n : Nat) (get : Nat → List AV) (pc : List AV) (x : List (Nat × AV)) : St := mkS (sl29 s i n ++ ([(8, .v (.int .i64 e)), (9, .ptr 2 0)] ++ x)) (hp29p n get pc) 3
noncomputable def isB9 (c : Int) : Bool := if (c == 10) = true then true else if (c == 9) = true then true else c == 32
noncomputable def inI (s : ByteArray) (i : Int) : Prop := 0 ≤ i ∧ i < (s.size : Int)
noncomputable def ltI (s : ByteArray) (i : Int) : Bool := decide (i < (s.size : Int))
noncomputable def goI (q : Int → Bool) (s : ByteArray) (i : Int) : Bool := if ltI s i = true then q (bI s i) else false
noncomputable def sdI (s : ByteArray) (i : Int) : Prop := ltI s i = true → inI s i
noncomputable def w65 (c : Int) : Bool := if decide (c ≥ 97) = true then if decide (c ≤ 122) = true then true else p62 c else p62 c
theorem w65_eq (c : Int) : w65 c = p65 c := by
  unfold w65 p65 p64
  cases decide (c ≥ 97) <;> cases decide (c ≤ 122) <;> rfl
noncomputable def dI (c : Int) : Bool := if decide (c ≥ 48) = true then decide (c ≤ 57) else false
noncomputable def sdD (s : ByteArray) (i : Int) : Prop := ltI s i = true → inI s i ∧ (decide (bI s i ≥ 48) = true → inI s i)
noncomputable def nrm (s : St) : Tree Lf := .ret (.go .norm (some s))
noncomputable def P67 (s : ByteArray) (i : Int) : Prop := FrzOk Tryd.prog 67 [.v (.string s), .v (.int .i64 i)] (.agg [iv (plc s.data.toList i.toNat).1, iv (plc s.data.toList i.toNat).2])
noncomputable def pl1 (s : ByteArray) (i : Int) : Int := (plc s.data.toList i.toNat).1
noncomputable def pl2 (s : ByteArray) (i : Int) : Int := (plc s.data.toList i.toNat).2
section
variable (s : ByteArray) (i e : Int) (n : Nat) (Y : Nat → Pc) (u : Int) (k : Int) (t : ByteArray) (v a b c : Int)
theorem q0 : rndR true u [(21,true)] ds29 (cl body29) (inv29 s i n (gY Y)) = .side (ltI s i = true) (nrm (inv29 s i n (gY Y))) := by kernel_rfl
theorem q0x : rndR true u [(21,false)] ds29 body29 (inv29 s i n (gY Y)) = .side (ltI s i = false) (.ret (.go (.exit 0) (some (inv29 s i n (gY Y))))) := by kernel_rfl
theorem qb : rndR true u [(21,true),(35,true)] ds29 body29 (inv29 s i n (gY Y)) = .side (ltI s i = true) (.side (inI s i) (.side (isB9 (bI s i) = true) (nrm (inv29 s (wq (i + 1)) n (gY Y))))) := by kernel_rfl
theorem q1 : rndR true u [(35,false)] ds7 (joins (firsts 3 in29)) (inv29 s i n (gY Y)) = .side (inI s i) (.side (isB9 (bI s i) = false) (nrm (st7 s i n (gY Y)))) := by kernel_rfl
theorem q2 : rndR true u [] ds39 (cl cc29) (st7 s i n (gY Y)) = nrm (st39 s i n (gY Y)) := by kernel_rfl
theorem q2c : canon 0 ds29 true (st39 s i n (gY Y)) = some (inv29 s i n (gY Y)) := by kernel_rfl
theorem qct : rndR true u [(49,true)] ds29 lc29 (inv29 s i n (gY Y)) = .side (sdI s i) (.side (goI p61 s i = true) (nrm (inv29 s (wq (i + 1)) n (gY Y)))) := by kernel_rfl
theorem qcf : rndR true u [(49,false)] ds29 lc29 (inv29 s i n (gY Y)) = .side (sdI s i) (.side (goI p61 s i = false) (.ret (.go (.exit 2) (some (inv29 s i n (gY Y)))))) := by kernel_rfl
theorem qcx : rndR true u [] ds29 (cr (condT (cr cc29))) (inv29 s i n (gY Y)) = .ret (.go (.exit 1) (some (inv29 s i n (gY Y)))) := by kernel_rfl
theorem q3 : rndR true u [(35,false),(39,false)] dsM (joins (firsts 5 in29)) (inv29 s i n (gY Y)) = .side (inI s i) (.side (isB9 (bI s i) = false) (.side ((bI s i == 35) = false) (.side (P67 s i) (nrm (stM s i n (gY Y) (pcS 0 (B []) 0 (pl1 s i) (pl2 s i)) []))))) := by kernel_rfl
theorem q4 : rndR true u [] dsM57 (cl w29) (stM s i n (gY Y) (pcS k t v a b) []) = nrm (stM s i n (gY Y) (pcS k t v a b) [(57, .v (.bool (p64 (bI s i))))]) := by kernel_rfl
noncomputable def cutI (s : ByteArray) (i e : Int) : Prop := 0 ≤ i ∧ i ≤ e ∧ e ≤ (s.size : Int)
noncomputable def sub (s : ByteArray) (i e : Int) : ByteArray := s.extract i.toNat e.toNat
noncomputable def N69 (u : Int) (s : ByteArray) : Prop := FrzOk Tryd.prog 69 [.v (.string s)] (.tup [.v (.int .u64 u), .lit (.bool true)])
noncomputable def N69x (s : ByteArray) : Prop := FrzOk Tryd.prog 69 [.v (.string s)] (.tup [.lit (.int .u64 0), .lit (.bool false)])
noncomputable def sizeQ (n : Nat) : Prop := n * Tryd.prog.bytesOf 65 ≤ maxAppend ∧ n ≤ maxAppend
noncomputable def T70 : Prop := FrzOk Tryd.prog 70 [] sgnA
theorem cW : canon 0 dsW true (stM s i n (gY Y) (pcS k t v a b) [(57, .v (.bool true))]) = some (stW s i i n (gY Y) (pcS k t v a b) []) := by kernel_rfl
theorem cD : canon 0 dsW true (stM s i n (gY Y) (pcS k t v a b) [(72, .v (.bool true))]) = some (stW s i i n (gY Y) (pcS k t v a b) []) := by kernel_rfl
theorem cM : canon 0 dsM true (stM s i n (gY Y) (pcS k t v a b) [(57, .v (.bool false))]) = some (stM s i n (gY Y) (pcS k t v a b) []) := by kernel_rfl
theorem cG : canon 0 dsW true (stM s i n (gY Y) (pcS k t v a b) [(72, .v (.bool false))]) = some (stW s i i n (gY Y) (pcS k t v a b) []) := by kernel_rfl
theorem qwt : rndR true u [(67,true)] dsW lw29 (stW s i e n (gY Y) (pcS k t v a b) []) = .side (sdI s e) (.side (goI w65 s e = true) (nrm (stW s i (wq (e + 1)) n (gY Y) (pcS k t v a b) []))) := by kernel_rfl
theorem qwf : rndR true u [(67,false)] dsW lw29 (stW s i e n (gY Y) (pcS k t v a b) []) = .side (sdI s e) (.side (goI w65 s e = false) (.ret (.go (.exit 4) (some (stW s i e n (gY Y) (pcS k t v a b) []))))) := by kernel_rfl
theorem qw : rndR true u [] dsW (cr ww29) (stW s i e n (gY Y) (pcS k t v a b) []) = nrm (stW s i e n (gY Y) (pcS 2 t v a b) []) := by kernel_rfl
theorem q6 : rndR true u [] dsM72 (cl nd29) (stM s i n (gY Y) (pcS k t v a b) []) = nrm (stM s i n (gY Y) (pcS k t v a b) [(72, .v (.bool (w65 (bI s i))))]) := by kernel_rfl
theorem qdt : rndR true u [(88,true)] dsW ld29 (stW s i e n (gY Y) (pcS k t v a b) []) = .side (sdD s e) (.side (goI p62 s e = true) (nrm (stW s i (wq (e + 1)) n (gY Y) (pcS k t v a b) []))) := by kernel_rfl
theorem qdf : rndR true u [(88,false)] dsW ld29 (stW s i e n (gY Y) (pcS k t v a b) []) = .side (sdD s e) (.side (goI p62 s e = false) (.ret (.go (.exit 6) (some (stW s i e n (gY Y) (pcS k t v a b) []))))) := by kernel_rfl
theorem qd : rndR true u [] dsW (cr dd29) (stW s i e n (gY Y) (pcS k t v a b) []) = .side (cutI s i e) (.side (N69 u (sub s i e)) (nrm (stW s i e n (gY Y) (pcS 1 t u a b) []))) := by kernel_rfl
theorem qdr : rndR false u [] dsW (cr dd29) (stW s i e n (gY Y) (pcS k t v a b) []) = .side (cutI s i e) (.side (N69x (sub s i e)) (.ret (.out (.tup [nilR, plA (iv a) (iv b), il0 4])))) := by kernel_rfl
theorem q8 : rndR true u [] dsS (cl sg29) (stW s i e n (gY Y) (pcS k t v a b) []) = .side T70 (nrm (stW s i e n (gY Y) (pcS k t v a b) [(12, sgnA)])) := by kernel_rfl
theorem q9 : rndR true u [] dsT (cl (cl (cr sg29))) (stW s i e n (gY Y) (pcS k t v a b) [(12, sgnA)]) = nrm (stW s i e n (gY Y) (pcS k t v a b) [(12, sgnA), (13, .v (.int .i64 0))]) := by kernel_rfl
theorem qx1 : rndR true u [(154,true)] dsW (cr (cr sg29)) (stW s i e n (gY Y) (pcS k t v a b) []) = .side ((e == i) = true) (.ret (.out (.tup [nilR, plA (iv a) (iv b), il0 3]))) := by kernel_rfl
theorem qx0 : rndR true u [(154,false)] dsW (cr (cr sg29)) (stW s i e n (gY Y) (pcS k t v a b) []) = .side ((e == i) = false) (nrm (stW s i e n (gY Y) (pcS 3 t v a b) [])) := by kernel_rfl
theorem qy : rndR true u [] ds29 y29 (stW s i e n (gY Y) (pcS k t v a b) []) = .side (cutI s i e) (.side (sizeQ (n + 1)) (nrm (inv29 s e (n + 1) (gA n Y k (sub s i e) v a b)))) := by kernel_rfl
noncomputable def goS (i e k : Int) : Bool := if decide (k < 21) = true then e == i else false
noncomputable def sgK (k : Int) : List UInt8 := sgnL.getD k.toNat []
noncomputable def fitS (s : ByteArray) (i k : Int) : Bool := decide (wq ((s.size : Int) - i) ≥ ((B (sgK k)).size : Int))
noncomputable def hitS (s : ByteArray) (i k : Int) : Bool := if fitS s i k = true then (s.extract i.toNat (wq (i + ((B (sgK k)).size : Int))).toNat).toList == (B (sgK k)).toList else false
noncomputable def in21 (k : Int) : Prop := 0 ≤ k ∧ k < ((21 : Nat) : Int)
noncomputable def stT (s : ByteArray) (i e : Int) (n : Nat) (get : Nat → List AV) (pc : List AV) (k : Int) : St := stW s i e n get pc [(12, sgnA), (13, .v (.int .i64 k))]
noncomputable def sdS (s : ByteArray) (i c : Int) : Prop := fitS s i c = true → in21 c ∧ (0 ≤ i ∧ i ≤ wq (i + ((B (sgK c)).size : Int)) ∧ wq (i + ((B (sgK c)).size : Int)) ≤ (s.size : Int)) ∧ in21 c
theorem qst : rndR true u [(115,true),(144,true)] dsT ls29 (stT s i e n (gY Y) (pcS k t v a b) c) = .side (goS i e c = true) (.side (in21 c) (.side (sdS s i c) (.side (hitS s i c = true) (.side (in21 c) (nrm (stT s i (wq (i + ((B (sgK c)).size : Int))) n (gY Y) (pcS k t v a b) (wq (c + 1)))))))) := by kernel_rfl
theorem qsf : rndR true u [(115,true),(144,false)] dsT ls29 (stT s i e n (gY Y) (pcS k t v a b) c) = .side (goS i e c = true) (.side (in21 c) (.side (sdS s i c) (.side (hitS s i c = false) (nrm (stT s i e n (gY Y) (pcS k t v a b) (wq (c + 1))))))) := by kernel_rfl
theorem cT : canon 0 dsW true (stT s i e n (gY Y) (pcS k t v a b) c) = some (stW s i e n (gY Y) (pcS k t v a b) []) := by kernel_rfl
theorem qsx : rndR true u [(115,false)] dsT ls29 (stT s i e n (gY Y) (pcS k t v a b) c) = .side (goS i e c = false) (.ret (.go (.exit 8) (some (stT s i e n (gY Y) (pcS k t v a b) c)))) := by kernel_rfl
end
end
end Go.Proofs.YtdlghljhgbakjaaDoor

/-
  PART: the pieces of a text, by the document: signs, plainly.
-/
namespace Go.Proofs.YtdlghljhgbakjaaDoor
open Go.RowKit
noncomputable def refS (l : List UInt8) : List (List UInt8) → Nat
  | [] => 0
  | t :: ts => if t.isPrefixOf l = true then t.length else refS l ts
noncomputable def two (c : UInt8) (b : Bool) : Nat := if (61 == c && (b && true)) = true then 2 else if (33 == c && (b && true)) = true then 2 else if (60 == c && (b && true)) = true then 2 else
  refS [c] (sgnL.drop 3)
theorem refS_one (c : UInt8) (r : List UInt8) : ∀ ts : List (List UInt8), (∀ t ∈ ts, t.length = 1) → refS (c :: r) ts = refS [c] ts
  | [], _ => rfl
  | t :: ts, h => by
    have h1 := h t (List.mem_cons_self ..)
    have ih := refS_one c r ts fun t ht => h t (List.mem_cons_of_mem _ ht)
    match t, h1 with
    | [x], _ =>
      show (if (x == c && true) = true then _ else refS (c :: r) ts) = (if (x == c && true) = true then _ else refS [c] ts)
      rw [ih]
theorem sgn_one : ∀ t ∈ sgnL.drop 3, t.length = 1 := by decide
theorem ref_two (c d : UInt8) (r : List UInt8) : refS (c :: d :: r) sgnL = two c (61 == d) := by
  show (if (61 == c && ((61 == d) && true)) = true then 2 else if (33 == c && ((61 == d) && true)) = true then 2 else if (60 == c && ((61 == d) && true)) = true then 2 else refS (c :: d :: r) (sgnL.drop 3)) = _
  rw [refS_one c (d :: r) _ sgn_one]
  rfl
theorem ref_single (c : UInt8) : refS [c] sgnL = two c false := by
  unfold two
  have e : ∀ x : UInt8, (x == c && (false && true)) = false := fun x => by cases x == c <;> rfl
  show (if (61 == c && false) = true then 2 else if (33 == c && false) = true then 2 else if (60 == c && false) = true then 2 else refS [c] (sgnL.drop 3)) = _
  simp
noncomputable def sgTwo (c : UInt8) (b : Bool) : Nat := if (b && Lib.contains longB [c, 61]) = true then 2 else if Lib.contains shortB [c] = true then 1 else 0
theorem sg_all : ((List.range 256).all fun k => two (UInt8.ofNat k) true == sgTwo (UInt8.ofNat k) true && two (UInt8.ofNat k) false == sgTwo (UInt8.ofNat k) false) = true := by kernel_rfl
theorem two_sg (c : UInt8) (b : Bool) : two c b = sgTwo c b := by
  have h := List.all_eq_true.1 sg_all c.toNat (List.mem_range.2 c.toNat_lt)
  simp only [UInt8.ofNat_toNat, Bool.and_eq_true, beq_iff_eq] at h
  cases b
  · exact h.2
  · exact h.1
theorem refS_sign (l : List UInt8) (hl : l ≠ []) : refS l sgnL = signL l := by
  match l with
  | [] => exact absurd rfl hl
  | [c] =>
    rw [ref_single, two_sg]
    rfl
  | c :: d :: r =>
    rw [ref_two, two_sg]
    unfold sgTwo signL isLong
    by_cases h : d = 61
    · subst h; rfl
    · have e1 : (61 == d) = false := beq_eq_false_iff_ne.2 fun e => h e.symm
      have e2 : (d == 61) = false := beq_eq_false_iff_ne.2 h
      show (if ((61 == d) && Lib.contains longB [c, 61]) = true then 2 else if Lib.contains shortB [c] = true then 1 else 0) = (if (d == 61 && Lib.contains longB [c, d]) = true then 2 else if Lib.contains shortB [c] = true then 1 else 0)
      rw [e1, e2]; rfl
theorem sgn_len : ∀ k : Nat, 1 ≤ (sgnL.getD k [] ).length ∧ (sgnL.getD k []).length ≤ 2 ∨ 21 ≤ k := by
  intro k
  by_cases h : k < 21
  · left
    have : ∀ j : Fin 21, 1 ≤ (sgnL.getD j.val []).length ∧ (sgnL.getD j.val []).length ≤ 2 := by decide
    exact this ⟨k, h⟩
  · exact .inr (by omega)
theorem prefix_take : ∀ (t l : List UInt8), t.isPrefixOf l = (decide (t.length ≤ l.length) && (l.take t.length == t))
  | [], l => by simp
  | x :: t, [] => by simp
  | x :: t, c :: l => by
    rw [List.isPrefixOf_cons_cons, prefix_take t l]
    simp only [List.length_cons, List.take_succ_cons, Nat.add_le_add_iff_right]
    by_cases h : c = x
    · subst h; simp
    · have e1 : (x == c) = false := beq_eq_false_iff_ne.2 fun e => h e.symm
      have e2 : (c :: List.take t.length l == x :: t) = false := beq_eq_false_iff_ne.2 fun e => h (List.cons.inj e).1
      rw [e1, e2]; simp
theorem hit_eq (T : List UInt8) (i k : Nat) (hi : i ≤ T.length) (hT : T.length ≤ 100000) (hk : k < 21) : hitS (B T) (i : Int) (k : Int) = (sgnL.getD k []).isPrefixOf (T.drop i) ∧ (fitS (B T) (i : Int) (k : Int) = true → i + (sgnL.getD k []).length ≤ T.length) ∧ wq ((i : Int) + ((B (sgK (k : Int))).size : Int)) = ((i + (sgnL.getD k []).length : Nat) : Int) := by
  have hs : sgK (k : Int) = sgnL.getD k [] := by unfold sgK; rw [Int.toNat_natCast]
  obtain ⟨l1, l2⟩ := (sgn_len k).resolve_right (by omega)
  have w1 : wq ((i : Int) + ((B (sgnL.getD k [])).size : Int)) = ((i + (sgnL.getD k []).length : Nat) : Int) := by
    rw [B_size, wq_in (by omega) (by omega)]; omega
  have w2 : wq (((B T).size : Int) - (i : Int)) = ((T.length - i : Nat) : Int) := by
    rw [B_size, wq_in (by omega) (by omega)]; omega
  have hf : fitS (B T) (i : Int) (k : Int) = decide ((sgnL.getD k []).length ≤ T.length - i) := by
    unfold fitS
    rw [hs, w2, B_size]
    by_cases h : (sgnL.getD k []).length ≤ T.length - i
    · rw [decide_eq_true h]; exact decide_eq_true (by omega)
    · rw [decide_eq_false h]; exact decide_eq_false (by omega)
  refine ⟨?_, ?_, by rw [hs]; exact w1⟩
  · unfold hitS
    rw [hf, hs, w1, B_extract, B_toList, B_toList, prefix_take, List.length_drop, Int.toNat_natCast, Int.toNat_natCast]
    have e : (T.take (i + (sgnL.getD k []).length)).drop i = (T.drop i).take (sgnL.getD k []).length := by
      rw [List.drop_take]; congr 1; omega
    rw [e]
    cases decide ((sgnL.getD k []).length ≤ T.length - i) <;> rfl
  · rw [hf]
    intro h
    have := of_decide_eq_true h
    omega
end Go.Proofs.YtdlghljhgbakjaaDoor

/-
  PART: the pieces of a text, by the document: its inner loops.
-/
namespace Go.Proofs.YtdlghljhgbakjaaDoor
open Go.RowKit
noncomputable section
theorem goI_run {p : Int → Bool} {T : List UInt8} {i j : Nat} (hj : j ≤ runL p (T.drop i)) : goI p (B T) ((i + j : Nat) : Int) = decide (j < runL p (T.drop i)) := by
  have h1 := runL_lt p (T.drop i) j hj
  have hg : (T.drop i).getD j 0 = T.getD (i + j) 0 := by simp [List.getD]
  rw [hg, List.length_drop] at h1
  unfold goI ltI
  rw [bI_nat, B_size]
  by_cases h2 : j < runL p (T.drop i)
  · obtain ⟨h3, h4⟩ := h1.1 h2
    rw [if_pos (decide_eq_true (by omega)), h4, decide_eq_true h2]
  · rw [decide_eq_false h2]
    by_cases h3 : i + j < T.length
    · rw [if_pos (decide_eq_true (by omega))]
      exact Bool.eq_false_iff.2 fun h => h2 (h1.2 ⟨by omega, h⟩)
    · rw [if_neg]
      intro h
      have := of_decide_eq_true h
      omega
section
variable {Bt : Start} {R : Ex → St → Prop} {O : AV → Prop} {T : List UInt8}
/-- A loop over the bytes of a kind. -/
theorem loopG (hB : Bt.nx0 = 0) {d id : Nat} {ds : List (Nat × Bool)} {code c : Code} (hc : codeOk Bt.N code = true) {InvE : Int → St} {sd : Int → Prop} {p : Int → Bool}
    (et : ∀ e, rndR true 0 [(d,true)] ds code (InvE e) = .side (sd e) (.side (goI p (B T) e = true) (nrm (InvE (wq (e + 1))))))
    (ef : ∀ e, rndR true 0 [(d,false)] ds code (InvE e) = .side (sd e) (.side (goI p (B T) e = false) (.ret (.go (.exit id) (some (InvE e))))))
    (hsd : ∀ e : Nat, sd (e : Int)) (hT : T.length ≤ 100000) {i : Nat} (hi : i ≤ T.length) (ho : ∀ s a, res29 s = some a → O a → R .ret s) (hn : WpC Tryd.prog Bt c (InvE ((i + runL p (T.drop i) : Nat) : Int)) R) :
    WpC Tryd.prog Bt (.seq (.block id (.loop code)) c) (InvE (i : Int)) R := by
  have hr := runL_le p (T.drop i)
  rw [List.length_drop] at hr
  refine wpc_oloop (res := res29) (O := O) (fun j : Nat => InvE ((i + j : Nat) : Int)) (fun j => j ≤ runL p (T.drop i)) (fun j => runL p (T.drop i) - j) (fun s => s = InvE ((i + runL p (T.drop i) : Nat) : Int)) (fun j hj => ?_) ho 0 (Nat.zero_le _) rfl (fun s hs => by rw [hs]; exact hn)
  have hg := goI_run hj
  by_cases hlt : j < runL p (T.drop i)
  · rw [decide_eq_true hlt] at hg
    refine wpc_endH (cx := cxR true 0 (decL [(d,true)])) (n := 60) (ds := ds) (gb := true) (res := res29) (cxR_ok _ _ _) fitTry hc ?_
    rw [hB]
    show (rndR true 0 [(d,true)] ds code (InvE ((i + j : Nat) : Int))).wp _
    rw [et]
    have w1 : wq (((i + j : Nat) : Int) + 1) = ((i + (j + 1) : Nat) : Int) := by rw [wq_in (by omega) (by omega)]; omega
    rw [w1]
    exact ⟨hsd _, hg, j + 1, .refl _, hlt, by show runL p (T.drop i) - (j + 1) < runL p (T.drop i) - j; omega⟩
  · rw [decide_eq_false hlt] at hg
    refine wpc_endH (cx := cxR true 0 (decL [(d,false)])) (n := 60) (ds := ds) (gb := true) (res := res29) (cxR_ok _ _ _) fitTry hc ?_
    rw [hB]
    show (rndR true 0 [(d,false)] ds code (InvE ((i + j : Nat) : Int))).wp _
    rw [ef]
    have : j = runL p (T.drop i) := by omega
    exact ⟨hsd _, hg, rfl, _, .refl _, by rw [this]⟩
theorem sdI_ok (e : Nat) : sdI (B T) (e : Int) := fun h => ⟨by omega, of_decide_eq_true h⟩
theorem sdD_ok (e : Nat) : sdD (B T) (e : Int) := fun h => ⟨⟨by omega, of_decide_eq_true h⟩, fun _ => ⟨by omega, of_decide_eq_true h⟩⟩
structure KS where
  k : Nat
  e : Nat
/-- The loop over the signs. -/
theorem loopS (hB : Bt.nx0 = 0) (hc : codeOk Bt.N ls29 = true) (hc0 : codeOk Bt.N (cl (cl (cr sg29))) = true) {c : Code} {n : Nat} {Y : Nat → Pc} {kk : Int} {t : ByteArray} {v a b : Int} (hT : T.length ≤ 100000) {i : Nat} (hi : i ≤ T.length) (ho : ∀ s a, res29 s = some a → O a → R .ret s)
    (hn : WpC Tryd.prog Bt c (stW (B T) (i : Nat) ((i + refS (T.drop i) sgnL : Nat) : Int) n (gY Y) (pcS kk t v a b) []) R) :
    WpC Tryd.prog Bt (.seq (.seq (cl (cl (cr sg29))) (.block 8 (.loop ls29))) c) (stW (B T) (i : Nat) (i : Nat) n (gY Y) (pcS kk t v a b) [(12, sgnA)]) R := by
  let Inv : KS → St := fun k => stT (B T) (i : Nat) (k.e : Nat) n (gY Y) (pcS kk t v a b) (k.k : Nat)
  let J : KS → Prop := fun k => k.k ≤ 21 ∧ ((k.e = i ∧ refS (T.drop i) (sgnL.drop k.k) = refS (T.drop i) sgnL) ∨ (k.e ≠ i ∧ k.e = i + refS (T.drop i) sgnL))
  refine wpc_ioloop (cx := cxR true 0 (decL [])) (n := 60) (ds := dsT) (gb := true) (res := res29) (O := O) (cxR_ok _ _ _) fitTry Inv J (fun k => 21 - k.k) (fun s => s = stW (B T) (i : Nat) ((i + refS (T.drop i) sgnL : Nat) : Int) n (gY Y) (pcS kk t v a b) []) hc0 ?_ (fun k hk => ?_) ho (fun s hs => by rw [hs]; exact hn)
  · rw [hB]
    show (rndR true 0 [] dsT (cl (cl (cr sg29))) (stW (B T) (i : Nat) (i : Nat) n (gY Y) (pcS kk t v a b) [(12, sgnA)])).wp _
    rw [q9]
    exact ⟨rfl, ⟨0, i⟩, .refl _, Nat.zero_le _, .inl ⟨rfl, rfl⟩⟩
  · obtain ⟨k, e⟩ := k
    obtain ⟨hk1, hk2⟩ := hk
    simp only [] at hk1 hk2
    by_cases hgo : k < 21 ∧ e = i
    · obtain ⟨hlt, rfl⟩ := hgo
      have hr : refS (T.drop e) (sgnL.drop k) = refS (T.drop e) sgnL := by
        rcases hk2 with ⟨_, h⟩ | ⟨h, _⟩
        · exact h
        · exact absurd rfl h
      obtain ⟨h1, h2, h3⟩ := hit_eq T e k hi hT hlt
      obtain ⟨l1, l2⟩ := (sgn_len k).resolve_right (by omega)
      have hg : goS (e : Nat) (e : Nat) (k : Nat) = true := by
        unfold goS
        rw [if_pos (decide_eq_true (by omega))]; simp
      have h21 : in21 (k : Nat) := ⟨by omega, by omega⟩
      have hsd : sdS (B T) (e : Nat) (k : Nat) := fun h => by
        have := h2 h
        rw [h3, B_size]
        exact ⟨h21, ⟨by omega, by omega, by omega⟩, h21⟩
      have hdrop : sgnL.drop k = sgnL.getD k [] :: sgnL.drop (k + 1) := by
        have hk' : k < sgnL.length := hlt
        rw [show sgnL.getD k [] = sgnL[k] by simp [List.getD, hk']]
        exact List.drop_eq_getElem_cons hk'
      rw [hdrop] at hr
      have hr : (if (sgnL.getD k []).isPrefixOf (T.drop e) = true then (sgnL.getD k []).length else refS (T.drop e) (sgnL.drop (k + 1))) = refS (T.drop e) sgnL := hr
      have w1 : wq ((k : Int) + 1) = ((k + 1 : Nat) : Int) := by rw [wq_in (by omega) (by omega)]; rfl
      cases hh : (sgnL.getD k []).isPrefixOf (T.drop e) with
      | true =>
        rw [if_pos hh] at hr
        refine wpc_endH (cx := cxR true 0 (decL [(115,true),(144,true)])) (n := 60) (ds := dsT) (gb := true) (res := res29) (cxR_ok _ _ _) fitTry hc ?_
        rw [hB]
        show (rndR true 0 [(115,true),(144,true)] dsT ls29 (stT (B T) (e : Nat) (e : Nat) n (gY Y) (pcS kk t v a b) (k : Nat))).wp _
        rw [qst, h3, w1]
        exact ⟨hg, h21, hsd, h1.trans hh, h21, ⟨k + 1, e + (sgnL.getD k []).length⟩, .refl _, ⟨hlt, .inr ⟨by show e + _ ≠ e; omega, by show e + _ = e + _; rw [hr]⟩⟩, by show 21 - (k + 1) < 21 - k; omega⟩
      | false =>
        rw [hh, if_neg (by simp)] at hr
        refine wpc_endH (cx := cxR true 0 (decL [(115,true),(144,false)])) (n := 60) (ds := dsT) (gb := true) (res := res29) (cxR_ok _ _ _) fitTry hc ?_
        rw [hB]
        show (rndR true 0 [(115,true),(144,false)] dsT ls29 (stT (B T) (e : Nat) (e : Nat) n (gY Y) (pcS kk t v a b) (k : Nat))).wp _
        rw [qsf, w1]
        exact ⟨hg, h21, hsd, h1.trans hh, ⟨k + 1, e⟩, .refl _, ⟨hlt, .inl ⟨rfl, hr⟩⟩, by show 21 - (k + 1) < 21 - k; omega⟩
    · have hg : goS (i : Nat) (e : Nat) (k : Nat) = false := by
        unfold goS
        by_cases h : k < 21
        · rw [if_pos (decide_eq_true (by omega))]
          exact beq_eq_false_iff_ne.2 fun h' => hgo ⟨h, by omega⟩
        · rw [if_neg]
          intro h'
          have := of_decide_eq_true h'
          omega
      refine wpc_endH (cx := cxR true 0 (decL [(115,false)])) (n := 60) (ds := dsT) (gb := true) (res := res29) (cxR_ok _ _ _) fitTry hc ?_
      rw [hB]
      show (rndR true 0 [(115,false)] dsT ls29 (stT (B T) (i : Nat) (e : Nat) n (gY Y) (pcS kk t v a b) (k : Nat))).wp _
      rw [qsx]
      refine ⟨hg, rfl, _, canon_ok (by rw [hB]; exact cT _ _ _ _ _ _ _ _ _ _ _), ?_⟩
      rcases hk2 with ⟨rfl, h⟩ | ⟨_, h⟩
      · have hk21 : k = 21 := by
          by_cases h' : k < 21
          · exact absurd ⟨h', rfl⟩ hgo
          · omega
        rw [hk21] at h
        have : refS (T.drop e) sgnL = 0 := h.symm
        rw [this]; rfl
      · rw [h]
end
end
end Go.Proofs.YtdlghljhgbakjaaDoor

/-
  PART: the pieces of a text, by the document: each round.
-/
namespace Go.Proofs.YtdlghljhgbakjaaDoor
open Go.RowKit
noncomputable section
noncomputable def isLitS (l : List UInt8) : List AV → Bool
  | [.lit (.string s)] => s.data.toList == l
  | _ => false
theorem isLitS_eq {l : List UInt8} {cs : List AV} (h : isLitS l cs = true) : cs = [.lit (.string (B l))] := by
  match cs, h with
  | [.lit (.string s)], h =>
    have : s.data.toList = l := eq_of_beq h
    subst this; rfl
noncomputable def chk70 : Tree AV → Bool
  | .ret (.sl n k get _ _) => n == 21 && (k == 1 && (List.range 21).all fun j => isLitS (sgnL.getD j []) (get j))
  | _ => false
theorem ev70 : chk70 ((evs (cx0 (decL [])) 60).call 70 [] .nil).frz = true := by kernel_rfl
theorem one_lv {E : Env} {v : Value} {vs : List Value} (h : Reps E [.lit v] vs) : Reps E [.v v] vs := by
  cases h with | cons a h => cases h; exact .cons (v_of_lit _ _ a) .nil
theorem chk_frz : ∀ t : Tree AV, chk70 t = true → ((evs (cx0 (decL [])) 60).call 70 [] .nil).frz = t → T70
  | .ret (.sl n k get nl full), h, e => by
    simp only [chk70, Bool.and_eq_true, beq_iff_eq] at h
    obtain ⟨rfl, rfl, h⟩ := h
    refine frz_ev (cx0_ok _) fitTry e (fun E v hv => ?_)
    have hg : ∀ j, j < 21 → get j = [.lit (.string (B (sgnL.getD j [])))] := fun j hj => isLitS_eq (List.all_eq_true.1 h j (List.mem_range.2 hj))
    unfold sgnA
    cases hv with
    | slNil hn => exact .slNil hn
    | slEmp hn hf => exact .slEmp hn fun e => by cases e
    | sl q1 q2 q3 q4 q5 q6 => exact .sl q1 q2 (fun e => by cases e) q4 (fun i hi => one_lv (by have := q5 i hi; rw [hg i hi] at this; exact this)) q6
theorem signs70 : T70 := chk_frz _ ev70 rfl
structure KR where
  i : Nat
  acc : List Pc
  f : Nat
noncomputable def InvR (T : List UInt8) (k : KR) : St := inv29 (B T) (k.i : Nat) k.acc.length (gY (accY k.acc))
structure JR (R : LRes) (T : List UInt8) (k : KR) : Prop where
  res : lexR k.f (T.drop k.i) (plc T k.i).1 (plc T k.i).2 k.acc = R
  fuel : T.length - k.i < k.f
  le : k.i ≤ T.length
  acc : k.acc.length + (T.length - k.i) ≤ 4096
noncomputable def OutR (R : LRes) (T : List UInt8) (s : St) : Prop := ∃ k, s = InvR T k ∧ JR R T k ∧ k.i = T.length
noncomputable def RI (Bt : Start) (R : LRes) (T : List UInt8) (k : KR) (x : Ex) (s : St) : Prop := ((x = .norm ∨ x = .exit 1) ∧ ∃ k', JR R T k' ∧ T.length - k'.i < T.length - k.i ∧ HoldLe Bt s (InvR T k')) ∨ (x = .ret ∧ ∃ a, res29 s = some a ∧ OL R a)
theorem plc_adv (T : List UInt8) (i : Nat) : ∀ n, (∀ j, j < n → ((T.getD (i + j) 0).toNat : Int) ≠ 10) → plc T (i + n) = ((plc T i).1, (plc T i).2 + (n : Nat))
  | 0, _ => by simp
  | n + 1, h => by
    have ih := plc_adv T i n fun j hj => h j (by omega)
    have h1 := h n (by omega)
    rw [show i + (n + 1) = (i + n) + 1 from rfl, plc_succ, if_neg h1, ih]
    exact Prod.ext rfl (by show (plc T i).2 + (n : Nat) + 1 = _; omega)
theorem run_adv {p : Int → Bool} (T : List UInt8) (i : Nat) (hp : p 10 = false) : plc T (i + runL p (T.drop i)) = ((plc T i).1, (plc T i).2 + (runL p (T.drop i) : Nat)) := by
  refine plc_adv T i _ fun j hj e => ?_
  have h1 := ((runL_lt p (T.drop i) j (by omega)).1 hj).2
  have hg : (T.drop i).getD j 0 = T.getD (i + j) 0 := by simp [List.getD]
  rw [hg, e, hp] at h1
  cases h1
theorem sign_adv (T : List UInt8) (i : Nat) (h10 : ch (T.drop i) ≠ 10) : plc T (i + signL (T.drop i)) = ((plc T i).1, (plc T i).2 + (signL (T.drop i) : Nat)) := by
  refine plc_adv T i _ fun j hj => ?_
  have hg : ∀ j, (T.drop i).getD j 0 = T.getD (i + j) 0 := fun j => by simp [List.getD]
  rw [← hg j]
  unfold signL at hj
  split at hj
  · rename_i hl
    have hj : j = 0 ∨ j = 1 := by omega
    rcases hj with rfl | rfl
    · exact h10
    · generalize T.drop i = l at hl
      match l, hl with
      | c :: d :: r, hl =>
        have hd : d = 61 := by
          have : (d == 61 && Lib.contains longB [c, d]) = true := hl
          simp only [Bool.and_eq_true, beq_iff_eq] at this
          exact this.1
        subst hd
        show ((61 : UInt8).toNat : Int) ≠ 10
        decide
  · split at hj
    · obtain rfl : j = 0 := by omega
      exact h10
    · omega
theorem sub_eq (T : List UInt8) (i n : Nat) : sub (B T) (i : Nat) ((i + n : Nat) : Int) = B ((T.drop i).take n) := by
  unfold sub
  rw [B_extract, Int.toNat_natCast, Int.toNat_natCast, List.drop_take]
  congr 2; omega
theorem cutI_ok {T : List UInt8} {i n : Nat} (h : i + n ≤ T.length) : cutI (B T) (i : Nat) ((i + n : Nat) : Int) := by unfold cutI; rw [B_size]; omega
theorem sizeQ_ok {n : Nat} (h : n ≤ 100000) : sizeQ n := by
  have h1 : Tryd.prog.bytesOf 65 ≤ 1000 := Nat.le_of_ble_eq_true (by kernel_rfl)
  have h3 : maxAppend = 1099511627776 := by decide
  unfold sizeQ
  have := Nat.mul_le_mul h h1
  omega
theorem bI_ch (T : List UInt8) (i : Nat) : bI (B T) (i : Nat) = ch (T.drop i) := by
  rw [bI_nat]
  unfold ch
  simp [List.getD]
theorem isB9_eq (c : Int) : isB9 c = decide (c = 10 ∨ c = 32 ∨ c = 9) := by
  unfold isB9
  by_cases h : c = 10
  · simp [h]
  by_cases h2 : c = 9
  · simp [h2]
  · simp [h, h2]; rfl
theorem wpcR {Bt : Start} {Q : Ex → St → Prop} {O : AV → Prop} (hB : Bt.nx0 = 0) {ok : Bool} {u : Int} {dec ds : List (Nat × Bool)} {c : Code} {s : St} (hc : codeOk Bt.N c = true) (h : (rndR ok u dec ds c s).wp (LfQ Q O)) (ho : ∀ s a, res29 s = some a → O a → Q .ret s) : WpC Tryd.prog Bt c s Q :=
  wpc_of_lfR (B := Bt) (cx := cxR ok u (decL dec)) (n := 60) (ds := ds) (gb := true) (res := res29) (O := O) (cxR_ok _ _ _) fitTry hc (by rw [hB]; exact h) ho
theorem stgR {Bt : Start} {Q : Ex → St → Prop} {O : AV → Prop} (hB : Bt.nx0 = 0) {ok : Bool} {u : Int} {dec ds : List (Nat × Bool)} {l : List Code} {c : Code} {s : St} (hl : l ≠ []) (hc : (l.all fun a => codeOk Bt.N a) = true) (h : (rndR ok u dec ds (joins l) s).wp (LfQ (fun x m => match x with | .norm => WpC Tryd.prog Bt c m Q | x => Q x m) O)) (ho : ∀ s a, res29 s = some a → O a → Q .ret s) : WpC Tryd.prog Bt (seqs l c) s Q :=
  wpc_stageR (B := Bt) (cx := cxR ok u (decL dec)) (n := 60) (ds := ds) (gb := true) (res := res29) (O := O) (cxR_ok _ _ _) fitTry hl hc (by rw [hB]; exact h) ho
end
end Go.Proofs.YtdlghljhgbakjaaDoor

/-
  PART: the pieces of a text, by the document: each round as a whole.
-/
namespace Go.Proofs.YtdlghljhgbakjaaDoor
open Go.RowKit
noncomputable section
/-- What the middle of a round ends with. -/
noncomputable def RW (R : LRes) (T : List UInt8) (i : Nat) (acc : List Pc) (f : Nat) (x : Ex) (s : St) : Prop := (x = .norm ∧ ∃ (n : Nat) (k v : Int), 1 ≤ n ∧ i + n ≤ T.length ∧ s = stW (B T) (i : Nat) ((i + n : Nat) : Int) acc.length (gY (accY acc)) (pcS k (B []) v (plc T i).1 (plc T i).2) [] ∧ lexR f (T.drop (i + n)) (plc T (i + n)).1 (plc T (i + n)).2 (acc ++ [⟨k, (T.drop i).take n, v, (plc T i).1, (plc T i).2⟩]) = R) ∨ (x = .ret ∧ ∃ a, res29 s = some a ∧ OL R a)
theorem rw_ret {R : LRes} {T : List UInt8} {i : Nat} {acc : List Pc} {f : Nat} (s : St) (a : AV) (h : res29 s = some a) (ho : OL R a) : RW R T i acc f .ret s := .inr ⟨rfl, a, h, ho⟩
theorem ri_ret {Bt : Start} {R : LRes} {T : List UInt8} {k : KR} (s : St) (a : AV) (h : res29 s = some a) (ho : OL R a) : RI Bt R T k .ret s := .inr ⟨rfl, a, h, ho⟩
section
variable {Bt : Start} {R : LRes} {T : List UInt8}
theorem dig_all (l : List UInt8) : allD (l.take (runL p62 l)) := by
  rw [take_run]
  intro c hc
  have := List.all_eq_true.1 (List.all_takeWhile (p := fun c : UInt8 => p62 ((c.toNat : Nat) : Int)) (l := l)) c hc
  unfold p62 at this
  split at this
  · rename_i h1
    have h1 := of_decide_eq_true h1
    have h3 := of_decide_eq_true this
    omega
  · cases this
/-- A piece: a word, a number or a sign. -/
theorem piece29 (hB : Bt.nx0 = 0) (hN : Bt.N = Tryd.f29.ntmps) (hT : T.length ≤ 4096) {i f : Nat} {acc : List Pc} (hi : i < T.length)
    (h1 : (if p62 (ch (T.drop i)) = true then (match numOf ((T.drop i).take (runL p62 (T.drop i))) with
      | some u => lexR f ((T.drop i).drop (runL p62 (T.drop i))) (plc T i).1 ((plc T i).2 + (runL p62 (T.drop i) : Nat)) (acc ++ [⟨1, (T.drop i).take (runL p62 (T.drop i)), (u : Nat), (plc T i).1, (plc T i).2⟩])
      | none => .bad 4 (plc T i).1 (plc T i).2)
    else if p64 (ch (T.drop i)) = true then lexR f ((T.drop i).drop (runL p65 (T.drop i))) (plc T i).1 ((plc T i).2 + (runL p65 (T.drop i) : Nat)) (acc ++ [⟨2, (T.drop i).take (runL p65 (T.drop i)), 0, (plc T i).1, (plc T i).2⟩])
    else if signL (T.drop i) = 0 then .bad 3 (plc T i).1 (plc T i).2
    else lexR f ((T.drop i).drop (signL (T.drop i))) (plc T i).1 ((plc T i).2 + (signL (T.drop i) : Nat)) (acc ++ [⟨3, (T.drop i).take (signL (T.drop i)), 0, (plc T i).1, (plc T i).2⟩])) = R)
    (h10 : ch (T.drop i) ≠ 10) :
    WpC Tryd.prog Bt w29 (stM (B T) (i : Nat) acc.length (gY (accY acc)) (pcS 0 (B []) 0 (plc T i).1 (plc T i).2) []) (RW R T i acc f) := by
  have hne : T.drop i ≠ [] := fun e => by have := congrArg List.length e; rw [List.length_drop, List.length_nil] at this; omega
  have hle : ∀ p, runL p (T.drop i) ≤ T.length - i := fun p => by have := runL_le p (T.drop i); rw [List.length_drop] at this; exact this
  have hT' : T.length ≤ 100000 := by omega
  have hdd : ∀ n, (T.drop i).drop n = T.drop (i + n) := fun n => by rw [List.drop_drop]
  rw [codeW]
  refine stgR (Q := RW R T i acc f) (O := OL R) hB (ok := true) (u := 0) (dec := []) (ds := dsM57) (l := [cl w29]) (by simp) (by rw [hN]; kernel_rfl) ?_ rw_ret
  show (rndR true 0 [] dsM57 (cl w29) _).wp _
  rw [q4, bI_ch]
  show WpC _ _ _ _ _
  refine wpc_cond (e := p64 (ch (T.drop i))) (l := false) (by kernel_rfl) (fun cw => ?_) (fun ncw => ?_)
  · -- a word
    have ncd : p62 (ch (T.drop i)) = false := by
      unfold p64 at cw
      unfold p62
      by_cases hd : ch (T.drop i) ≤ 57
      · by_cases hd' : 48 ≤ ch (T.drop i)
        · exfalso
          revert cw
          generalize ch (T.drop i) = z at hd hd'
          intro cw
          have : z = 48 ∨ z = 49 ∨ z = 50 ∨ z = 51 ∨ z = 52 ∨ z = 53 ∨ z = 54 ∨ z = 55 ∨ z = 56 ∨ z = 57 := by omega
          rcases this with rfl | rfl | rfl | rfl | rfl | rfl | rfl | rfl | rfl | rfl <;> revert cw <;> decide
        · rw [if_neg]
          intro h; have := of_decide_eq_true h; omega
      · split
        · exact decide_eq_false hd
        · rfl
    rw [ncd, if_neg Bool.false_ne_true, if_pos cw] at h1
    have hr1 : 1 ≤ runL p65 (T.drop i) := run_pos hne (by unfold p65; rw [if_pos cw])
    have hr := hle p65
    rw [cw]
    refine wpc_pre (canon_ok (by rw [hB]; exact cW _ _ _ _ _ _ _ _ _)) ?_
    refine loopG (R := RW R T i acc f) (O := OL R) hB (d := 67) (id := 4) (ds := dsW) (code := lw29) (by rw [hN]; kernel_rfl) (InvE := fun e => stW (B T) (i : Nat) e acc.length (gY (accY acc)) (pcS 0 (B []) 0 (plc T i).1 (plc T i).2) []) (sd := sdI (B T)) (p := p65)
      (fun e => by rw [qwt, show goI w65 = goI p65 by rw [show w65 = p65 from funext w65_eq]]) (fun e => by rw [qwf, show goI w65 = goI p65 by rw [show w65 = p65 from funext w65_eq]]) sdI_ok hT' (Nat.le_of_lt hi) rw_ret ?_
    refine wpcR (Q := RW R T i acc f) (O := OL R) hB (ok := true) (u := 0) (dec := []) (ds := dsW) (by rw [hN]; kernel_rfl) ?_ rw_ret
    rw [qw]
    refine .inl ⟨rfl, _, _, _, hr1, by omega, rfl, ?_⟩
    rw [run_adv T i (by decide), ← hdd]
    exact h1
  · rw [ncw]
    refine wpc_pre (canon_ok (by rw [hB]; exact cM _ _ _ _ _ _ _ _ _)) ?_
    rw [codeN]
    refine stgR (Q := RW R T i acc f) (O := OL R) hB (ok := true) (u := 0) (dec := []) (ds := dsM72) (l := [cl nd29]) (by simp) (by rw [hN]; kernel_rfl) ?_ rw_ret
    show (rndR true 0 [] dsM72 (cl nd29) _).wp _
    rw [q6, bI_ch, w65_eq]
    show WpC _ _ _ _ _
    have e65 : p65 (ch (T.drop i)) = p62 (ch (T.drop i)) := by unfold p65; rw [ncw, if_neg Bool.false_ne_true]
    rw [e65]
    refine wpc_cond (e := p62 (ch (T.drop i))) (l := false) (by kernel_rfl) (fun cd => ?_) (fun ncd => ?_)
    · -- a number
      rw [if_pos cd] at h1
      have hr1 : 1 ≤ runL p62 (T.drop i) := run_pos hne cd
      have hr := hle p62
      rw [cd]
      refine wpc_pre (canon_ok (by rw [hB]; exact cD _ _ _ _ _ _ _ _ _)) ?_
      refine loopG (R := RW R T i acc f) (O := OL R) hB (d := 88) (id := 6) (ds := dsW) (code := ld29) (by rw [hN]; kernel_rfl) (InvE := fun e => stW (B T) (i : Nat) e acc.length (gY (accY acc)) (pcS 0 (B []) 0 (plc T i).1 (plc T i).2) []) (sd := sdD (B T)) (p := p62)
        (fun e => qdt _ _ _ _ _ _ _ _ _ _ _) (fun e => qdf _ _ _ _ _ _ _ _ _ _ _) sdD_ok hT' (Nat.le_of_lt hi) rw_ret ?_
      have h69 := number69 ((T.drop i).take (runL p62 (T.drop i))) (dig_all _) (by rw [List.length_take, List.length_drop]; omega)
      have hnn : (T.drop i).take (runL p62 (T.drop i)) ≠ [] := fun e => by
        have h2 := congrArg List.length e
        rw [List.length_take, List.length_nil, List.length_drop] at h2
        omega
      rw [← numOf_refN hnn (dig_all _), ← sub_eq] at h69
      have hcut := cutI_ok (T := T) (i := i) (n := runL p62 (T.drop i)) (by omega)
      cases hn : numOf ((T.drop i).take (runL p62 (T.drop i))) with
      | some u =>
        rw [hn] at h1 h69
        simp only [] at h1
        refine wpcR (Q := RW R T i acc f) (O := OL R) hB (ok := true) (u := (u : Nat)) (dec := []) (ds := dsW) (by rw [hN]; kernel_rfl) ?_ rw_ret
        rw [qd]
        refine ⟨hcut, h69, .inl ⟨rfl, _, _, _, hr1, by omega, rfl, ?_⟩⟩
        rw [run_adv T i (by decide), ← hdd]
        exact h1
      | none =>
        rw [hn] at h1 h69
        simp only [] at h1
        refine wpcR (Q := RW R T i acc f) (O := OL R) hB (ok := false) (u := 0) (dec := []) (ds := dsW) (by rw [hN]; kernel_rfl) ?_ rw_ret
        rw [qdr]
        refine ⟨hcut, h69, fun E v hv => ?_⟩
        rw [← h1]
        exact tup3_lv hv
    · -- a sign
      rw [ncd, if_neg Bool.false_ne_true, ncw, if_neg Bool.false_ne_true] at h1
      rw [ncd]
      refine wpc_pre (canon_ok (by rw [hB]; exact cG _ _ _ _ _ _ _ _ _)) ?_
      rw [codeG]
      refine stgR (Q := RW R T i acc f) (O := OL R) hB (ok := true) (u := 0) (dec := []) (ds := dsS) (l := [cl sg29]) (by simp) (by rw [hN]; kernel_rfl) ?_ rw_ret
      show (rndR true 0 [] dsS (cl sg29) _).wp _
      rw [q8]
      refine ⟨signs70, ?_⟩
      show WpC _ _ _ _ _
      have hs := refS_sign (T.drop i) hne
      have hsl := sign_le (T.drop i) hne
      rw [List.length_drop] at hsl
      refine loopS (R := RW R T i acc f) (O := OL R) hB (by rw [hN]; kernel_rfl) (by rw [hN]; kernel_rfl) hT' (Nat.le_of_lt hi) rw_ret ?_
      rw [hs]
      by_cases h0 : signL (T.drop i) = 0
      · rw [if_pos h0] at h1
        refine wpcR (Q := RW R T i acc f) (O := OL R) hB (ok := true) (u := 0) (dec := [(154,true)]) (ds := dsW) (by rw [hN]; kernel_rfl) ?_ rw_ret
        rw [qx1]
        refine ⟨by rw [h0]; simp, fun E v hv => ?_⟩
        rw [← h1]
        exact tup3_lv hv
      · rw [if_neg h0] at h1
        refine wpcR (Q := RW R T i acc f) (O := OL R) hB (ok := true) (u := 0) (dec := [(154,false)]) (ds := dsW) (by rw [hN]; kernel_rfl) ?_ rw_ret
        rw [qx0]
        refine ⟨beq_eq_false_iff_ne.2 (by omega), .inl ⟨rfl, _, _, _, Nat.pos_of_ne_zero h0, by omega, rfl, ?_⟩⟩
        rw [sign_adv T i h10, ← hdd]
        exact h1
end
end
end Go.Proofs.YtdlghljhgbakjaaDoor

/-
  PART: the pieces of a text, by the document: the contract.
-/
namespace Go.Proofs.YtdlghljhgbakjaaDoor
open Go.RowKit
noncomputable section
section
variable {Bt : Start} {R : LRes} {T : List UInt8}
/-- What a whole round is to end with. -/
noncomputable def Rd (Bt : Start) (R : LRes) (T : List UInt8) (k : KR) : Ex → St → Prop := Round Bt res29 (InvR T) (JR R T) (fun k => T.length - k.i) 0 k (OutR R T) (OL R)
theorem rd_ret {k : KR} (s : St) (a : AV) (h : res29 s = some a) (ho : OL R a) : Rd Bt R T k .ret s := .inr (.inr ⟨rfl, a, h, ho⟩)
theorem rd_norm {k k' : KR} {s : St} (h : JR R T k') (hm : T.length - k'.i < T.length - k.i) (hs : HoldLe Bt s (InvR T k')) : Rd Bt R T k .norm s := .inl ⟨rfl, k', h, hm, hs⟩
theorem round29 (hB : Bt.nx0 = 0) (hN : Bt.N = Tryd.f29.ntmps) (hT : T.length ≤ 4096) (k : KR) (hk : JR R T k) : WpC Tryd.prog Bt body29 (InvR T k) (Rd Bt R T k) := by
  obtain ⟨i, acc, f⟩ := k
  obtain ⟨h1, h2, h3, h4⟩ := hk
  simp only [] at h1 h2 h3 h4
  have hst : InvR T ⟨i, acc, f⟩ = inv29 (B T) (i : Nat) acc.length (gY (accY acc)) := rfl
  rw [hst]
  have hlt : ltI (B T) (i : Nat) = decide (i < T.length) := by
    unfold ltI; rw [B_size]
    by_cases h : i < T.length
    · rw [decide_eq_true h]; exact decide_eq_true (by omega)
    · rw [decide_eq_false h]; exact decide_eq_false (by omega)
  by_cases hi : i < T.length
  case neg =>
    refine wpcR (Q := Rd Bt R T _) (O := OL R) hB (ok := true) (u := 0) (dec := [(21,false)]) (ds := ds29) (by rw [hN]; kernel_rfl) ?_ rd_ret
    rw [q0x]
    exact ⟨by rw [hlt]; exact decide_eq_false hi, .inr (.inl ⟨rfl, _, .refl _, ⟨i, acc, f⟩, rfl, ⟨h1, h2, h3, h4⟩, by show i = T.length; omega⟩)⟩
  obtain ⟨f, rfl⟩ : ∃ f', f = f' + 1 := ⟨f - 1, by omega⟩
  rw [lexR_succ] at h1
  have hne : T.drop i ≠ [] := fun e => by have := congrArg List.length e; rw [List.length_drop, List.length_nil] at this; omega
  have hle : ∀ p, runL p (T.drop i) ≤ T.length - i := fun p => by have := runL_le p (T.drop i); rw [List.length_drop] at this; exact this
  have hT' : T.length ≤ 100000 := by omega
  have hdd : ∀ n, (T.drop i).drop n = T.drop (i + n) := fun n => by rw [List.drop_drop]
  have hlt1 : ltI (B T) (i : Nat) = true := by rw [hlt]; exact decide_eq_true hi
  have hin : inI (B T) (i : Nat) := ⟨by omega, of_decide_eq_true hlt1⟩
  rw [if_neg hne] at h1
  have hch : ch (T.drop i) = ((T.getD i 0).toNat : Nat) := by rw [← bI_ch, bI_nat]
  have blank : isB9 (ch (T.drop i)) = true → lexR f (T.drop (i + 1)) (plc T (i + 1)).1 (plc T (i + 1)).2 acc = R → WpC Tryd.prog Bt body29 (inv29 (B T) (i : Nat) acc.length (gY (accY acc))) (Rd Bt R T ⟨i, acc, f + 1⟩) := fun hb hr => by
    refine wpcR (Q := Rd Bt R T _) (O := OL R) hB (ok := true) (u := 0) (dec := [(21,true),(35,true)]) (ds := ds29) (by rw [hN]; kernel_rfl) ?_ rd_ret
    rw [qb, bI_ch, wq_in (by omega) (by omega)]
    exact ⟨hlt1, hin, hb, rd_norm (k' := ⟨i + 1, acc, f⟩) ⟨hr, by show T.length - (i + 1) < f; omega, hi, by show acc.length + (T.length - (i + 1)) ≤ 4096; omega⟩ (by show T.length - (i + 1) < T.length - i; omega) (.refl _)⟩
  by_cases c10 : ch (T.drop i) = 10
  · rw [if_pos c10, hdd] at h1
    refine blank (by rw [isB9_eq]; exact decide_eq_true (.inl c10)) ?_
    rw [plc_succ, if_pos (by rw [← hch]; exact c10)]
    exact h1
  rw [if_neg c10] at h1
  by_cases cb : ch (T.drop i) = 32 ∨ ch (T.drop i) = 9
  · rw [if_pos cb, hdd] at h1
    refine blank (by rw [isB9_eq]; exact decide_eq_true (.inr cb)) ?_
    rw [plc_succ, if_neg (by rw [← hch]; exact c10)]
    exact h1
  rw [if_neg cb] at h1
  have nb : isB9 (ch (T.drop i)) = false := by rw [isB9_eq]; exact decide_eq_false fun h => h.elim c10 cb
  rw [codeB]
  refine wpc_seq (R1 := fun x s => (x = .norm ∧ s = inv29 (B T) (i : Nat) acc.length (gY (accY acc)))) (wpcR (O := fun _ => False) hB (ok := true) (u := 0) (dec := [(21,true)]) (ds := ds29) (by rw [hN]; kernel_rfl) (by rw [q0]; exact ⟨hlt1, rfl, rfl⟩) fun _ _ _ h => h.elim) (fun s1 hs1 => ?_) (fun x s1 hx hs1 => absurd hs1.1 hx)
  rw [hs1.2]
  refine wpc_block (R1 := RI Bt R T ⟨i, acc, f + 1⟩) ?_ (fun s1 hs1 => ?_) (fun x s1 hx hs1 => ?_)
  · by_cases c35 : ch (T.drop i) = 35
    · rw [if_pos c35, hdd] at h1
      have hr1 : 1 ≤ runL p61 (T.drop i) := run_pos hne (by rw [c35]; decide)
      have hr := hle p61
      rw [codeC]
      refine stgR (Q := RI Bt R T ⟨i, acc, f + 1⟩) (O := OL R) hB (ok := true) (u := 0) (dec := [(35,false)]) (ds := ds7) (l := firsts 3 in29) (by simp [firsts]) (by rw [hN]; kernel_rfl) ?_ ri_ret
      show (rndR true 0 [(35,false)] ds7 (joins (firsts 3 in29)) _).wp _
      rw [q1, bI_ch]
      refine ⟨hin, nb, ?_⟩
      show WpC _ _ _ _ _
      refine wpc_seq (R1 := fun x s => x = .exit 1 ∧ s = inv29 (B T) ((i + runL p61 (T.drop i) : Nat) : Int) acc.length (gY (accY acc))) ?_ (fun s1 hs1 => by cases hs1.1) (fun x s1 hx hs1 => .inl ⟨.inr hs1.1, ⟨i + runL p61 (T.drop i), acc, f⟩, ⟨?_, by show T.length - (i + runL p61 (T.drop i)) < f; omega, by show i + runL p61 (T.drop i) ≤ T.length; omega, by show acc.length + (T.length - (i + runL p61 (T.drop i))) ≤ 4096; omega⟩, by show T.length - (i + runL p61 (T.drop i)) < T.length - i; omega, by rw [hs1.2]; exact .refl _⟩)
      · refine stgR (O := fun _ => False) hB (ok := true) (u := 0) (dec := []) (ds := ds39) (l := [cl cc29]) (by simp) (by rw [hN]; kernel_rfl) ?_ (fun _ _ _ h => h.elim)
        show (rndR true 0 [] ds39 (cl cc29) _).wp _
        rw [q2]
        show WpC _ _ _ _ _
        refine wpc_cond (e := bI (B T) (i : Nat) == 35) (l := false) (by kernel_rfl) (fun _ => ?_) (fun h => by rw [bI_ch, c35] at h; cases h)
        refine wpc_pre (m := inv29 (B T) (i : Nat) acc.length (gY (accY acc))) (canon_ok (by rw [hB]; exact q2c _ _ _ _)) ?_
        refine loopG (O := fun _ => False) hB (d := 49) (id := 2) (ds := ds29) (code := lc29) (by rw [hN]; kernel_rfl) (InvE := fun e => inv29 (B T) e acc.length (gY (accY acc))) (sd := sdI (B T)) (p := p61)
          (fun e => qct _ _ _ _ _) (fun e => qcf _ _ _ _ _) sdI_ok hT' h3 (fun _ _ _ h => h.elim) ?_
        refine wpcR (O := fun _ => False) hB (ok := true) (u := 0) (dec := []) (ds := ds29) (by rw [hN]; kernel_rfl) ?_ (fun _ _ _ h => h.elim)
        rw [qcx]
        exact ⟨rfl, rfl⟩
      · show lexR f (T.drop (i + runL p61 (T.drop i))) (plc T (i + runL p61 (T.drop i))).1 (plc T (i + runL p61 (T.drop i))).2 acc = R
        rw [run_adv T i (by decide)]
        exact h1
    rw [if_neg c35] at h1
    rw [codeI]
    refine stgR (Q := RI Bt R T ⟨i, acc, f + 1⟩) (O := OL R) hB (ok := true) (u := 0) (dec := [(35,false),(39,false)]) (ds := dsM) (l := firsts 5 in29) (by simp [firsts]) (by rw [hN]; kernel_rfl) ?_ ri_ret
    show (rndR true 0 [(35,false),(39,false)] dsM (joins (firsts 5 in29)) _).wp _
    rw [q3, bI_ch]
    refine ⟨hin, nb, by simp [c35], place67 T i h3 hT', ?_⟩
    show WpC _ _ _ _ _
    refine wpc_seq (piece29 hB hN hT hi h1 c10) (fun s1 hs1 => ?_) (fun x s1 hx hs1 => ?_)
    · rcases hs1 with ⟨_, n, kk, v, a1, a2, rfl, a4⟩ | ⟨h, _⟩
      · refine wpcR (Q := RI Bt R T _) (O := OL R) hB (ok := true) (u := 0) (dec := []) (ds := ds29) (by rw [hN]; kernel_rfl) ?_ ri_ret
        rw [qy, sub_eq]
        refine ⟨cutI_ok a2, sizeQ_ok (by omega), .inl ⟨.inl rfl, ⟨i + n, acc ++ [⟨kk, (T.drop i).take n, v, (plc T i).1, (plc T i).2⟩], f⟩, ⟨a4, by show T.length - (i + n) < f; omega, a2, by show (acc ++ [_]).length + (T.length - (i + n)) ≤ 4096; rw [List.length_append, List.length_singleton]; omega⟩, by show T.length - (i + n) < T.length - i; omega, ?_⟩⟩
        show HoldLe Bt _ (inv29 (B T) ((i + n : Nat) : Int) (acc ++ [(⟨kk, (T.drop i).take n, v, (plc T i).1, (plc T i).2⟩ : Pc)]).length (gY (accY (acc ++ [(⟨kk, (T.drop i).take n, v, (plc T i).1, (plc T i).2⟩ : Pc)]))))
        rw [List.length_append, List.length_singleton]
        exact hold_rows rfl rfl (.same (.row (fun j hj => gA_eq acc kk _ v _ _ j hj) .nil))
      · cases h
    · rcases hs1 with ⟨h, _⟩ | ⟨rfl, h⟩
      · exact absurd h hx
      · exact .inr ⟨rfl, h⟩
  · rcases hs1 with ⟨_, k', a1, a2, a3⟩ | ⟨h, _⟩
    · exact rd_norm a1 a2 a3
    · cases h
  · rcases hs1 with ⟨rfl | rfl, k', a1, a2, a3⟩ | ⟨rfl, a, a1, a2⟩
    · exact rd_norm a1 a2 a3
    · exact absurd rfl hx
    · exact rd_ret s1 a a1 a2
end
end
end Go.Proofs.YtdlghljhgbakjaaDoor

/-
  PART: the pieces of a text, by the document: what it answers.
-/
namespace Go.Proofs.YtdlghljhgbakjaaDoor
open Go.RowKit
noncomputable section
noncomputable def st29a (s : ByteArray) : St := mkS [(0, .v (.string s)), (3, .ptr 0 0), (5, nilR), (6, .v (.int .i64 0))] [(0, some (.fix 56 [.lit (.int .i64 0), .lit (.int .i64 0)]))] 1
section
variable (s : ByteArray) (i : Int) (n : Nat) (Y : Nat → Pc)
theorem a29t : (codeE (cxR true 0 (decL [(16,true)])) (evs (cxR true 0 (decL [(16,true)])) 60) (joins (firsts 4 c29)) (entry [.v (.string s)])).map (lfR 0 ds29 false res29) = .side (decide ((s.size : Int) > 4096) = true) (.ret (.out (.tup [nilR, plA (il0 1) (il0 1), il0 4]))) := by kernel_rfl
theorem a29f : (codeE (cxR true 0 (decL [(16,false)])) (evs (cxR true 0 (decL [(16,false)])) 60) (joins (firsts 4 c29)) (entry [.v (.string s)])).map (lfR 0 ds29 false res29) = .side (decide ((s.size : Int) > 4096) = false) (.ret (.go .norm (some (st29a s)))) := by kernel_rfl
theorem nil29 : St.nilOwn? 0 ds29 5 65 5 (st29a s) = some (inv29 s 0 0 (fun _ => fit 5 [])) := by kernel_rfl
theorem t29 : rndR true 0 [] [] tail29 (inv29 s i n (gY Y)) = .side (P67 s (s.size : Int)) (.side (sizeQ (n + 1)) (.ret (.out (.tup [.sl (n + 1) 5 (gA n Y 0 (B []) 0 (pl1 s (s.size : Int)) (pl2 s (s.size : Int))) false false, plA (il0 0) (il0 0), il0 0])))) := by kernel_rfl
end
theorem ok_ans {R : LRes} {acc : List Pc} {ln cl : Int} (h1 : .ok (acc ++ [⟨0, [], 0, ln, cl⟩]) = R) : OL R (.tup [.sl (acc.length + 1) 5 (gA acc.length (accY acc) 0 (B []) 0 ln cl) false false, plA (il0 0) (il0 0), il0 0]) := fun E v hv => by
  rw [← h1]
  show Rep E (.tup [.sl (acc ++ [(⟨0, [], 0, ln, cl⟩ : Pc)]).length 5 (fun j => pcC (accY (acc ++ [(⟨0, [], 0, ln, cl⟩ : Pc)]) j)) false false, .agg [iv 0, iv 0], iv 0]) v
  cases hv with
  | tup h =>
    refine .tup ?_
    rename_i cs
    generalize cs.toList = vs at h
    cases h with | cons a1 h => cases h with | cons a2 h => cases h with | cons a3 h =>
    cases h
    refine .cons ?_ (.cons ?_ (.cons (v_of_lit _ _ a3) .nil))
    · rw [List.length_append, List.length_singleton]
      cases a1 with
      | slNil hn => exact .slNil hn
      | slEmp hn hf => exact .slEmp hn fun e => by cases e
      | sl q1 q2 q3 q4 q5 q6 => exact .sl q1 q2 (fun e => by cases e) q4 (fun i hi => by have := gA_eq acc 0 [] 0 ln cl i hi; rw [show (pcC (accY (acc ++ [(⟨0, [], 0, ln, cl⟩ : Pc)]) i)) = gY (accY (acc ++ [(⟨0, [], 0, ln, cl⟩ : Pc)])) i from rfl, ← this]; exact q5 i hi) q6
    · unfold plA at a2
      cases a2 with
      | agg h ho =>
        refine .agg ?_ ho
        rename_i cs
        generalize cs.toList = ws at h
        cases h with | cons b1 h => cases h with | cons b2 h =>
        cases h
        exact .cons (v_of_lit _ _ b1) (.cons (v_of_lit _ _ b2) .nil)
theorem lex29 (l : List UInt8) : FrzOk Tryd.prog 29 [.v (.string (B l))] (ansL (lexRes l)) := by
  let R := lexRes l
  refine frz_of_ends fitTry Tryd.func29 (c := c29) (by kernel_rfl) (Nat.le_of_ble_eq_true (by kernel_rfl)) (O := OL R) (fun E w hd hf => ?_) fun a' h => h
  rw [code29]
  by_cases hl : l.length > 4096
  · refine wpc_stageR (cx := cxR true 0 (decL [(16,true)])) (n := 60) (ds := ds29) (gb := false) (res := res29) (O := OL R) (cxR_ok _ _ _) fitTry (by simp [firsts]) (by kernel_rfl) ?_ ends_ret
    show ((codeE (cxR true 0 (decL [(16,true)])) (evs (cxR true 0 (decL [(16,true)])) 60) (joins (firsts 4 c29)) (entry [.v (.string (B l))])).map (lfR 0 ds29 false res29)).wp _
    rw [a29t]
    refine ⟨decide_eq_true (by rw [B_size]; omega), fun E v hv => ?_⟩
    have e : R = .bad 4 1 1 := by show lexRes l = _; unfold lexRes; rw [if_pos hl]
    rw [e]
    exact tup3_lv2 hv
  · refine wpc_stageR (cx := cxR true 0 (decL [(16,false)])) (n := 60) (ds := ds29) (gb := false) (res := res29) (O := OL R) (cxR_ok _ _ _) fitTry (by simp [firsts]) (by kernel_rfl) ?_ ends_ret
    show ((codeE (cxR true 0 (decL [(16,false)])) (evs (cxR true 0 (decL [(16,false)])) 60) (joins (firsts 4 c29)) (entry [.v (.string (B l))])).map (lfR 0 ds29 false res29)).wp _
    rw [a29f]
    refine ⟨decide_eq_false (by rw [B_size]; omega), ?_⟩
    show WpC _ _ _ _ _
    have hT : l.length ≤ 4096 := by omega
    let k0 : KR := ⟨0, [], l.length + 1⟩
    have hj : JR R l k0 := by
      refine ⟨?_, by show l.length - 0 < l.length + 1; omega, Nat.zero_le _, by show 0 + (l.length - 0) ≤ 4096; omega⟩
      show lexR (l.length + 1) l 1 1 [] = lexRes l
      unfold lexRes
      rw [if_neg hl]
    have hle : HoldLe (begins Tryd.f29.ntmps E w hd hf) (st29a (B l)) (InvR l k0) := by
      refine (nilOwn_le (d := 5) (elem := 65) (k := 5) (nil29 (B l))).trans ?_
      exact hold_rows (s := inv29 (B l) 0 0 (fun _ => fit 5 [])) (m := InvR l k0) rfl rfl (.same (.row (fun j hj => absurd hj (Nat.not_lt_zero j)) .nil))
    refine wpc_pre hle ?_
    refine wpc_oloop (res := res29) (O := OL R) (InvR l) (JR R l) (fun k => l.length - k.i) (OutR R l) (fun k hk => round29 rfl rfl hT k hk) ends_ret k0 hj rfl (fun s hs => ?_)
    obtain ⟨k, rfl, hk, hi⟩ := hs
    obtain ⟨i, acc, f⟩ := k
    obtain ⟨h1, h2, h3, h4⟩ := hk
    simp only [] at h1 h2 h3 h4 hi
    subst hi
    obtain ⟨f, rfl⟩ : ∃ f', f = f' + 1 := ⟨f - 1, by omega⟩
    rw [lexR_succ, if_pos (List.drop_eq_nil_of_le (Nat.le_refl _))] at h1
    refine wpcR (O := OL R) rfl (ok := true) (u := 0) (dec := []) (ds := []) (by kernel_rfl) ?_ ends_ret
    have hst : InvR l ⟨l.length, acc, f + 1⟩ = inv29 (B l) (l.length : Nat) acc.length (gY (accY acc)) := rfl
    rw [hst, t29, B_size]
    exact ⟨place67 l l.length (Nat.le_refl _) (by omega), sizeQ_ok (by omega), ok_ans h1⟩
end
end Go.Proofs.YtdlghljhgbakjaaDoor

/-
  PART: pieces that are known; the law's table.
-/
namespace Go.Proofs.YtdlghljhgbakjaaDoor
open Go.RowKit
theorem frz_args {P : Program} {f : Nat} {aa bs : List AV} {a : AV} (h : ∀ E vs, Reps E aa vs → Reps E bs vs) (H : FrzOk P f bs a) : FrzOk P f aa a :=
  fun r E w vals K hd hf hr hK => H r E w vals K hd hf (h _ _ hr) hK
theorem frz_ans {P : Program} {f : Nat} {aa : List AV} {a b : AV} (h : ∀ E v, Rep E a v → Rep E b v) (H : FrzOk P f aa a) : FrzOk P f aa b :=
  fun r E w vals K hd hf hr hK => H r E w vals K hd hf hr fun v w' E' a1 a2 a3 a4 a5 a6 => hK v w' E' a1 a2 a3 a4 (h _ _ a5) a6
noncomputable section
noncomputable def wkT1 : List UInt8 := [114, 48, 10, 60, 61, 61, 32, 55, 32, 35, 32, 110, 111]
noncomputable def wkT2 : List UInt8 := [97, 10, 32, 63]
noncomputable def wkP : List Pc := [⟨2, [114, 48], 0, 1, 1⟩, ⟨3, [60, 61], 0, 2, 1⟩, ⟨3, [61], 0, 2, 3⟩, ⟨1, [55], 7, 2, 5⟩, ⟨0, [], 0, 2, 11⟩]
noncomputable def pcL (p : Pc) : List AV := [.lit (.int .u8 p.k), .lit (.string (B p.t)), .lit (.int .u64 p.n), .lit (.int .i64 p.ln), .lit (.int .i64 p.cl)]
noncomputable def okL (ps : List Pc) : AV := .tup [.sl ps.length 5 (fun j => pcL (accY ps j)) false false, .agg [il0 0, il0 0], il0 0]
noncomputable def badL (e ln cl : Int) : AV := .tup [nilR, .agg [il0 ln, il0 cl], il0 e]
theorem lits_of_vs {E : Env} : ∀ {xs : List Value} {vs : List Value}, Reps E (xs.map .v) vs → Reps E (xs.map .lit) vs
  | [], _, h => by cases h; exact .nil
  | x :: xs, _, h => by cases h with | cons a t => exact .cons (lit_of_v _ _ a) (lits_of_vs t)
theorem pcL_of {E : Env} {p : Pc} {vs : List Value} (h : Reps E (pcC p) vs) : Reps E (pcL p) vs := lits_of_vs (xs := [.int .u8 p.k, .string (B p.t), .int .u64 p.n, .int .i64 p.ln, .int .i64 p.cl]) h
theorem agg_of {E : Env} {x y : Int} {v : Value} (h : Rep E (.agg [iv x, iv y]) v) : Rep E (.agg [il0 x, il0 y]) v := by
  cases h with
  | agg h ho =>
    refine .agg ?_ ho
    exact lits_of_vs (xs := [.int .i64 x, .int .i64 y]) h
theorem okL_of {ps : List Pc} {E : Env} {v : Value} (h : Rep E (ansL (.ok ps)) v) : Rep E (okL ps) v := by
  change Rep E (.tup [.sl ps.length 5 (fun j => pcC (accY ps j)) false false, .agg [iv 0, iv 0], iv 0]) v at h
  cases h with
  | tup h =>
    refine .tup ?_
    rename_i cs
    generalize cs.toList = vs at h
    cases h with | cons a1 h => cases h with | cons a2 h => cases h with | cons a3 h =>
    cases h
    refine .cons ?_ (.cons (agg_of a2) (.cons (lit_of_v _ _ a3) .nil))
    cases a1 with
    | slNil hn => exact .slNil hn
    | slEmp hn hf => exact .slEmp hn fun e => by cases e
    | sl q1 q2 q3 q4 q5 q6 => exact .sl q1 q2 (fun e => by cases e) q4 (fun i hi => pcL_of (q5 i hi)) q6
theorem badL_of {e ln cl : Int} {E : Env} {v : Value} (h : Rep E (ansL (.bad e ln cl)) v) : Rep E (badL e ln cl) v := by
  change Rep E (.tup [nilR, .agg [iv ln, iv cl], iv e]) v at h
  cases h with
  | tup h =>
    refine .tup ?_
    rename_i cs
    generalize cs.toList = vs at h
    cases h with | cons a1 h => cases h with | cons a2 h => cases h with | cons a3 h =>
    cases h
    exact .cons a1 (.cons (agg_of a2) (.cons (lit_of_v _ _ a3) .nil))
theorem frz28_lit {l : List UInt8} {R : LRes} (h : lexRes l = R) {a : AV} (ha : ∀ E v, Rep E (ansL R) v → Rep E a v) : FrzOk Tryd.prog 28 [.lit (.string (B l))] a :=
  frz_args (bs := [.v (.string (B l))]) (fun E vs hv => by cases hv with | cons a t => exact .cons (v_of_lit _ _ a) t) (frz_ans ha (h ▸ lex28 l))
theorem wk1_eq : lexRes wkT1 = .ok wkP := by kernel_rfl
theorem wk2_eq : lexRes wkT2 = .bad 3 2 2 := by kernel_rfl
noncomputable def tabK (f : Nat) (args : List AV) : Option (Tree AV) := match f, args with
  | 28, [.lit (.string s)] => match s.data.toList == wkT1 with
    | true => some (.side (FrzOk Tryd.prog 28 [.lit (.string s)] (okL wkP)) (.ret (okL wkP)))
    | false => some (.side (FrzOk Tryd.prog 28 [.lit (.string s)] (badL 3 2 2)) (.ret (badL 3 2 2)))
  | _, _ => none
theorem tabK_ok : TabFOk Tryd.prog tabK := by
  intro f args t a ht hh
  unfold tabK at ht
  split at ht
  · split at ht
    · cases ht
      obtain ⟨h1, h2⟩ := hh
      cases h2
      exact h1
    · cases ht
      obtain ⟨h1, h2⟩ := hh
      cases h2
      exact h1
  · cases ht
noncomputable def cxK : Cx := ⟨Tryd.prog, ctrOf2 noP tabK, decL []⟩
theorem cxK_ok : CtrOk cxK := ctrOf2_ok noP_ok tabK_ok _
theorem wk27 : ((evs cxK 60).call 27 [] .nil).frz = .side (FrzOk Tryd.prog 28 [.lit (.string (B wkT1))] (okL wkP)) (.side (FrzOk Tryd.prog 28 [.lit (.string (B wkT2))] (badL 3 2 2)) (.side (((wkP.length : Int) != 5) = false → ((0 : Int) ≤ 0 ∧ (0 : Int) < wkP.length) ∧ ((0 : Int) ≤ 1 ∧ (1 : Int) < wkP.length) ∧ ((0 : Int) ≤ 2 ∧ (2 : Int) < wkP.length) ∧ ((0 : Int) ≤ 3 ∧ (3 : Int) < wkP.length) ∧ ((0 : Int) ≤ 4 ∧ (4 : Int) < wkP.length) ∧ (0 : Int) ≤ 4 ∧ (4 : Int) < wkP.length) (.ret (.v (.bool true))))) := by kernel_rfl
theorem wakes27 : FrzOk Tryd.prog 27 [] (.lit (.bool true)) :=
  frz_ev cxK_ok fitTry wk27 ⟨frz28_lit wk1_eq fun _ _ => okL_of, frz28_lit wk2_eq fun _ _ => badL_of, by decide, fun E v hv => lit_of_v _ _ hv⟩
noncomputable def okV (n : Nat) (Y : Nat → Pc) : AV := .tup [.sl n 5 (gY Y) false false, plA (iv 0) (iv 0), iv 0]
noncomputable def badV (e ln cl : Int) : AV := .tup [nilR, plA (iv ln) (iv cl), iv e]
noncomputable def tabW (a : AV) (f : Nat) (args : List AV) : Option (Tree AV) := match f, args with
  | 27, [] => some (.side (FrzOk Tryd.prog 27 [] (.lit (.bool true))) (.ret (.lit (.bool true))))
  | 28, [s] => some (.side (FrzOk Tryd.prog 28 [s] a) (.ret a))
  | 29, [s] => some (.side (FrzOk Tryd.prog 29 [s] a) (.ret a))
  | _, _ => none
theorem tabW_ok (a : AV) : TabFOk Tryd.prog (tabW a) := by
  intro f args t b ht hh
  unfold tabW at ht
  split at ht
  · cases ht
    obtain ⟨h1, h2⟩ := hh
    cases h2
    exact h1
  · cases ht
    obtain ⟨h1, h2⟩ := hh
    cases h2
    exact h1
  · cases ht
    obtain ⟨h1, h2⟩ := hh
    cases h2
    exact h1
  · cases ht
noncomputable def cxW (a : AV) (dec : Nat → St → Option Bool) : Cx := ⟨Tryd.prog, ctrOf2 noP (tabW a), dec⟩
theorem cxW_ok (a : AV) (dec : Nat → St → Option Bool) : CtrOk (cxW a dec) := ctrOf2_ok noP_ok (tabW_ok a) dec
noncomputable def c6 : Code := codeOf Tryd.f6
noncomputable def res6 : St → Option AV := resF Tryd.prog Tryd.f6.results.toList
noncomputable def body6 : Code := cin (cin (cr (cl (behind 5 c6))))
noncomputable def a6 : Code := cl (cl (behind 5 c6))
noncomputable def tail6 : Code := cr (behind 5 c6)
theorem code6 : c6 = seqs (firsts 5 c6) (.seq (.seq a6 (.block 0 (.loop body6))) tail6) := by kernel_rfl
noncomputable def ds6a : List (Nat × Bool) := [(3, false), (4, false), (5, false), (6, false), (7, false), (8, false)]
noncomputable def ds6 : List (Nat × Bool) := [(3, false), (6, false), (9, true)]
noncomputable def bod6 (dec : List (Nat × Bool)) (s : St) : Tree Lf := (codeE (cxW nilR (decL dec)) (evs (cxW nilR (decL dec)) 60) body6 s).map (lfR 0 ds6 true res6)
end
end Go.Proofs.YtdlghljhgbakjaaDoor
