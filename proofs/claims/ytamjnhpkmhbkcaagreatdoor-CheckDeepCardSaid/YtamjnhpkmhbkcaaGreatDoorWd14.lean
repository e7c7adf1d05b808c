/-
  PARTS, one behind the other: QE QF.
-/
import Derived.Test.YtamjnhpkmhbkcaaGreatDoorWd13
import Derived.Test.YtamjnhpkmhbkcaaGreatDoorRows
import Derived.Shelf.Vars
/-
  PART: law 6 (CheckDeep): it answers true.
-/
namespace Go.Proofs.YtamjnhpkmhbkcaaGreatDoor
open Go.RowKit
noncomputable section
theorem psA_ok {q : Nat} {z : Int} (hq : q < 20) (hz : Q4 z = q) (p : Prop) (hp : p ∈ psA q z) : p := by
  unfold psA at hp
  rw [hz] at hp
  rcases List.mem_cons.1 hp with rfl | hp
  · decide
  rcases List.mem_append.1 hp with hp | hp
  · obtain ⟨i, hi, rfl⟩ := List.mem_map.1 hp
    have hi := List.mem_range.1 hi
    exact decide_eq_true (by omega)
  · simp only [List.mem_cons, List.not_mem_nil, or_false] at hp
    rcases hp with rfl | rfl
    · exact decide_eq_false (by omega)
    · by_cases h : 7 < q
      · rw [show Nat.blt 7 q = true by rw [Nat.blt_eq]; exact h]
        exact decide_eq_true (by omega)
      · rw [show Nat.blt 7 q = false by
          cases hb : Nat.blt 7 q with
          | false => rfl
          | true => rw [Nat.blt_eq] at hb; exact absurd hb h]
        exact decide_eq_false (by omega)
theorem isA_all {q : Nat} (hq : q < 20) (z k : Int) : IsA q z k := by
  if h0 : q = 0 then exact (by subst h0; exact sa0 z k) else
  if h1 : q = 1 then exact (by subst h1; exact sa1 z k) else
  if h2 : q = 2 then exact (by subst h2; exact sa2 z k) else
  if h3 : q = 3 then exact (by subst h3; exact sa3 z k) else
  if h4 : q = 4 then exact (by subst h4; exact sa4 z k) else
  if h5 : q = 5 then exact (by subst h5; exact sa5 z k) else
  if h6 : q = 6 then exact (by subst h6; exact sa6 z k) else
  if h7 : q = 7 then exact (by subst h7; exact sa7 z k) else
  if h8 : q = 8 then exact (by subst h8; exact sa8 z k) else
  if h9 : q = 9 then exact (by subst h9; exact sa9 z k) else
  if h10 : q = 10 then exact (by subst h10; exact sa10 z k) else
  if h11 : q = 11 then exact (by subst h11; exact sa11 z k) else
  if h12 : q = 12 then exact (by subst h12; exact sa12 z k) else
  if h13 : q = 13 then exact (by subst h13; exact sa13 z k) else
  if h14 : q = 14 then exact (by subst h14; exact sa14 z k) else
  if h15 : q = 15 then exact (by subst h15; exact sa15 z k) else
  if h16 : q = 16 then exact (by subst h16; exact sa16 z k) else
  if h17 : q = 17 then exact (by subst h17; exact sa17 z k) else
  if h18 : q = 18 then exact (by subst h18; exact sa18 z k) else
  if h19 : q = 19 then exact (by subst h19; exact sa19 z k) else
  omega
section
variable {Bt : Start} {Q : Ex → St → Prop} {O : AV → Prop}
theorem stg4 (hB : Bt.nx0 = 0) {q : Nat} {l : List Code} {c : Code} {s : St} (hl : l ≠ []) (hc : (l.all fun a => codeOk Bt.N a) = true) (h : ((codeE (cxL (decD q)) (evs (cxL (decD q)) 600) (joins l) s).map (lfR 0 [(1, false), (5, false), (10, true), (11, true)] false res4)).wp (LfQ (fun x m => match x with | .norm => WpC Tryz.prog Bt c m Q | x => Q x m) O)) (ho : ∀ s a, res4 s = some a → O a → Q .ret s) : WpC Tryz.prog Bt (seqs l c) s Q :=
  wpc_stageR (B := Bt) (cx := cxL (decD q)) (n := 600) (gb := false) (res := res4) (O := O) (cxL_ok _) fitTry hl hc (by rw [hB]; exact h) ho
theorem wpc4 (hB : Bt.nx0 = 0) {dec : List (Nat × Bool)} {c : Code} {s : St} (hc : codeOk Bt.N c = true) (h : ((codeE (cxW (decL dec)) (evs (cxW (decL dec)) 600) c s).map (lfR 0 [] false res4)).wp (LfQ Q O)) (ho : ∀ s a, res4 s = some a → O a → Q .ret s) : WpC Tryz.prog Bt c s Q :=
  wpc_of_lfR (B := Bt) (cx := cxW (decL dec)) (n := 600) (ds := []) (gb := false) (res := res4) (O := O) (cxW_ok _) fitTry hc (by rw [hB]; exact h) ho
end
noncomputable def OT (a : AV) : Prop := ∀ E v, Rep E a v → Rep E (.lit (.bool true)) v
theorem TBw_wp (w : Int) {Q : Ex → St → Prop} : (TBw w).wp (LfQ Q OT) := ⟨fun _ => wakes19, fun E v h => lit_of_v E v (by rw [beq_self_eq_true] at h; exact h)⟩
theorem tail4 {k w : Int} (hk : 0 ≤ k ∧ k < 256) {Bt : Start} (hB : Bt.nx0 = 0) (hN : Bt.N = Tryz.f4.ntmps) {Q : Ex → St → Prop} (ho : ∀ s a, res4 s = some a → OT a → Q .ret s) : WpC Tryz.prog Bt (behind 8 c4) (sA (.v (.int .u8 k)) w) Q := by
  have hc : codeOk Bt.N (behind 8 c4) = true := by rw [hN]; kernel_rfl
  have lit : ∀ c : Nat, k = c → rB [] (u8L c) w = TBw w → WpC Tryz.prog Bt (behind 8 c4) (sA (.v (.int .u8 k)) w) Q := fun c hkc hr => by
    subst hkc
    refine wpc_pre (m := sA (u8L c) w) ?_ (wpc4 (O := OT) hB (dec := []) hc ?_ ho)
    · intro act wd ⟨E, p, hf, hb, hwf, hd, hn⟩
      refine ⟨E, p, ⟨hf.size, fun d => ?_⟩, hb, hwf, hd, hn⟩
      have h1 := hf.slot d
      revert h1
      show Rep E (look ((1, .v (.int .u8 (c : Int))) :: _) d) _ → Rep E (look ((1, .lit (.int .u8 (c : Int))) :: _) d) _
      by_cases e : 1 = d
      · simp only [look_cons, if_pos e]; exact lit_of_v _ _
      · simp only [look_cons, if_neg e]; exact fun h => h
    · have h : (codeE (cxW (decL [])) (evs (cxW (decL [])) 600) (behind 8 c4) (sA (u8L c) w)).map (lfR 0 [] false res4) = TBw w := hr
      rw [h]; exact TBw_wp w
  if h1 : k = 1 then exact lit 1 h1 (sb1 w) else
  if h2 : k = 2 then exact lit 2 h2 (sb2 w) else
  if h3 : k = 3 then exact lit 3 h3 (sb3 w) else
  if h4 : k = 4 then exact lit 4 h4 (sb4 w) else
  if h5 : k = 5 then exact lit 5 h5 (sb5 w) else
  if h6 : k = 6 then exact lit 6 h6 (sb6 w) else
  if h7 : k = 7 then exact lit 7 h7 (sb7 w) else
  if h8 : k = 8 then exact lit 8 h8 (sb8 w) else
  if h9 : k = 9 then exact lit 9 h9 (sb9 w) else
  have ho' : kOpen k := by
    unfold kOpen
    by_cases h : k < 1
    · rw [if_pos (decide_eq_true h)]
    · rw [if_neg (by simpa using h), IntWalk.i64_in k ⟨by omega, by omega⟩]
      exact decide_eq_true (by omega)
  refine wpc4 (O := OT) hB (dec := [(13,true)]) hc ?_ ho
  have h : (codeE (cxW (decL [(13,true)])) (evs (cxW (decL [(13,true)])) 600) (behind 8 c4) (sA (.v (.int .u8 k)) w)).map (lfR 0 [] false res4) = .side (kOpen k) (.side (kOpen k) (TBw w)) := sbo w k
  rw [h]
  exact ⟨ho', ho', TBw_wp w⟩
theorem law4_frz {k z : Int} (hk : 0 ≤ k ∧ k < 256) (hz : 0 ≤ z ∧ z < 256) : FrzOk Tryz.prog 4 [.v (.int .u8 z), .v (.int .u8 k)] (.lit (.bool true)) := by
  have hq : Q4 z = ((z.toNat % 20 : Nat) : Int) := by
    unfold Q4
    rw [IntWalk.i64_in z ⟨by omega, by omega⟩, Int.tmod_eq_emod_of_nonneg hz.1]
    omega
  have hlt := Nat.mod_lt z.toNat (show 0 < 20 by decide)
  have h3 : (codeE (cxL (decD (z.toNat % 20))) (evs (cxL (decD (z.toNat % 20))) 600) (joins (firsts 8 c4)) (entry [.v (.int .u8 z), .v (.int .u8 k)])).map (lfR 0 [(1, false), (5, false), (10, true), (11, true)] false res4) = _ := isA_all hlt z k
  refine frz_of_ends fitTry Tryz.func4 (c := c4) (by kernel_rfl) (Nat.le_of_ble_eq_true (by kernel_rfl)) (O := OT) (fun E w hd' hf => ?_) fun a' h => h
  rw [code4]
  refine stg4 (O := OT) rfl (q := z.toNat % 20) (by simp [firsts]) (by kernel_rfl) ?_ ends_ret
  rw [h3]
  refine sidesL_wp ?_ (psA_ok hlt hq)
  show WpC _ _ _ _ _
  exact tail4 hk rfl rfl ends_ret
end
end Go.Proofs.YtamjnhpkmhbkcaaGreatDoor

/-
  PART: what package-level variables hold, by the condition: tables of strings, of numbers, of kinds; an error; CheckDeep from any arguments.
-/
namespace Go.Proofs.YtamjnhpkmhbkcaaGreatDoor
open Go.ChangeShapes Go.WideShapes Go.ChangeAt Go.WideMaps Go.WideElems Go.RowKit
theorem own : ownKnob Tryz.prog.godebug = none := by kernel_rfl
theorem gTexts : Tryz.prog.globalNamed "troth/num.texts" = some 3 := by kernel_rfl
theorem gPow10 : Tryz.prog.globalNamed "internal/strconv.uint64pow10" = some 1 := by kernel_rfl
theorem gModes : Tryz.prog.globalNamed "troth/prog.modes" = some 2 := by kernel_rfl
theorem gKinds : Tryz.prog.globalNamed "troth/check.kinds" = some 0 := by kernel_rfl
theorem gErrR : Tryz.prog.globalNamed "strconv.ErrRange" = some 6 := by kernel_rfl
theorem gErrS : Tryz.prog.globalNamed "strconv.ErrSyntax" = some 5 := by kernel_rfl
theorem gTy (g : Nat) (t : TypeId) (h : (Tryz.prog.globals[g]?).map (·.type) = some t) : (Tryz.prog.globals[g]?).map (·.type) = some t := h
theorem cStr : Tryz.prog.cellsOf 9 = 1 := by kernel_rfl
def laidQ : List (String × DataW Unit) := [("math/bits.deBruijn32tab", Rows.laid_math_bits_deBruijn32tab), ("math/bits.deBruijn64tab", Rows.laid_math_bits_deBruijn64tab), ("internal/strconv.uint64pow10", Rows.laid_internal_strconv_uint64pow10), ("strconv.ErrRange", Rows.laid_strconv_ErrRange), ("strconv.ErrSyntax", Rows.laid_strconv_ErrSyntax), ("troth/num.texts", Rows.laid_troth_num_texts), ("troth/prog.modes", Rows.laid_troth_prog_modes), ("troth/check.kinds", Rows.laid_troth_check_kinds)]
theorem cell_string (s : ByteArray) (l : List UInt8) (h : s.data.toList = l) : Value.string s = bytesV l := by
  subst h; rfl
section
variable {H : Type} {enc : TypeId × Value → H} {P : Program} {w : World} {base : Nat} {spare : Nat → Bool} {held : Bool}
/-- An array whose parts are of one cell. -/
theorem laid_arr {t e n : Nat} {α : Type} {L : List α} {dat : α → DataW H} {cell : α → Value} (ht : P.underlying t = some (.array n e)) (hc : P.cellsOf e = 1) (ht' : P.cellsOf t = n) (hn : L.length = n)
    (hone : ∀ m (cs : List Value) d q a, DataW.trod enc P w base spare held m e cs = some (d, q) → d = dat a → cs = [cell a])
    {fuel : Nat} {cs : Array Value} {p : List MemPlace} (hd : DataW.trod enc P w base spare held fuel t cs.toList = some (.agg (L.map dat), p)) : cs = (L.map cell).toArray := by
  obtain ⟨xs, m1, rfl, hx1, hl, hlen, hel⟩ := DataW.trod_array ht hd
  simp only [Prod.mk.injEq, DataW.agg.injEq] at hx1
  apply Array.ext'
  rw [List.toList_toArray]
  have hsz : cs.toList.length = n := by rw [hl, ht']
  apply List.ext_getElem
  · rw [hsz, List.length_map, hn]
  · intro i h1 h2
    have hi : i < n := by omega
    have h0 := hel i hi
    rw [hc] at h0
    rw [List.getElem?_eq_getElem (show i < xs.length by omega)] at h0
    have hL : i < L.length := by omega
    have e3 : (xs.map (·.1))[i]? = some (dat L[i]) := by
      rw [← hx1.1, List.getElem?_map, List.getElem?_eq_getElem hL]; rfl
    rw [List.getElem?_map, List.getElem?_eq_getElem (show i < xs.length by omega)] at e3
    have e4 := hone _ _ _ _ L[i] h0 (Option.some.inj e3)
    have h5 : cs.toList[i]? = some (cell L[i]) := by
      rw [Nat.mul_one] at e4
      have := congrArg (fun l => l[0]?) e4
      simpa [List.getElem?_take, List.getElem?_drop] using this
    rw [List.getElem?_eq_getElem h1] at h5
    rw [Option.some.inj h5, List.getElem_map]
theorem laid_strs {t e n : Nat} {L : List (List UInt8)} (ht : P.underlying t = some (.array n e)) (he : P.underlying e = some .string) (hc : P.cellsOf e = 1) (ht' : P.cellsOf t = n) (hn : L.length = n)
    {fuel : Nat} {cs : Array Value} {p : List MemPlace} (hd : DataW.trod enc P w base spare held fuel t cs.toList = some (.agg (L.map fun l => .lit (.string l)), p)) : cs = (L.map bytesV).toArray :=
  laid_arr ht hc ht' hn (fun m cs d q a h1 h2 => by
    obtain ⟨s, e1, e2, _⟩ := DataW.trod_string he h1
    simp only [Prod.mk.injEq] at e2
    rw [e2.1] at h2
    simp only [DataW.lit.injEq, Lit.string.injEq] at h2
    rw [e1, cell_string s _ h2]) hd
theorem laid_ints {t e n : Nat} {k : IntKind} {L : List Int} (ht : P.underlying t = some (.array n e)) (he : P.underlying e = some (.int k)) (hc : P.cellsOf e = 1) (ht' : P.cellsOf t = n) (hn : L.length = n)
    {fuel : Nat} {cs : Array Value} {p : List MemPlace} (hd : DataW.trod enc P w base spare held fuel t cs.toList = some (.agg (L.map fun l => .lit (.int k l)), p)) : cs = (L.map (Value.int k)).toArray :=
  laid_arr ht hc ht' hn (fun m cs d q a h1 h2 => by
    obtain ⟨s, e1, e2, _⟩ := DataW.trod_int he h1
    simp only [Prod.mk.injEq] at e2
    rw [e2.1] at h2
    simp only [DataW.lit.injEq, Lit.int.injEq, true_and] at h2
    rw [e1, h2]) hd
/-- A row of pieces of K cells. -/
theorem chunks {α : Type} {K : Nat} {cells : α → List Value} : ∀ (L : List α) (l : List Value), l.length = L.length * K → (∀ i a, L[i]? = some a → (l.drop (i * K)).take K = cells a) → l = L.flatMap cells
  | [], l, h, _ => by simpa using h
  | a :: L, l, h, hc => by
    have h0 := hc 0 a rfl
    have ih := chunks (K := K) (cells := cells) L (l.drop K) (by rw [List.length_drop, h, List.length_cons, Nat.succ_mul]; omega) (fun i b hb => by
      have := hc (i + 1) b (by simpa using hb)
      rw [List.drop_drop]
      rwa [show (i + 1) * K = K + i * K by rw [Nat.succ_mul]; omega] at this)
    rw [List.flatMap_cons, ← ih, ← h0, Nat.zero_mul, List.drop_zero, List.take_append_drop]
theorem laid_arrK {t e n K : Nat} {α : Type} {L : List α} {dat : α → DataW H} {cells : α → List Value} (ht : P.underlying t = some (.array n e)) (hc : P.cellsOf e = K) (ht' : P.cellsOf t = n * K) (hn : L.length = n)
    (hone : ∀ m (cs : List Value) d q a, DataW.trod enc P w base spare held m e cs = some (d, q) → d = dat a → cs = cells a)
    {fuel : Nat} {cs : Array Value} {p : List MemPlace} (hd : DataW.trod enc P w base spare held fuel t cs.toList = some (.agg (L.map dat), p)) : cs = (L.flatMap cells).toArray := by
  obtain ⟨xs, m1, rfl, hx1, hl, hlen, hel⟩ := DataW.trod_array ht hd
  simp only [Prod.mk.injEq, DataW.agg.injEq] at hx1
  apply Array.ext'
  rw [List.toList_toArray]
  refine chunks (K := K) L cs.toList (by rw [hl, ht', hn]) fun i a ha => ?_
  have hL : i < L.length := (List.getElem?_eq_some_iff.1 ha).1
  have h0 := hel i (by omega)
  rw [hc, List.getElem?_eq_getElem (show i < xs.length by omega)] at h0
  have e3 : (xs.map (·.1))[i]? = some (dat a) := by
    rw [← hx1.1, List.getElem?_map, ha]; rfl
  rw [List.getElem?_map, List.getElem?_eq_getElem (show i < xs.length by omega)] at e3
  exact hone _ _ _ _ a h0 (Option.some.inj e3)
theorem trod_ifc {t : TypeId} {ms} {fuel : Nat} {cs : List Value} {nm : String} {d : DataW H} {p : List MemPlace} (ht : P.underlying t = some (.interface ms)) (h : DataW.trod enc P w base spare held fuel t cs = some (.iface nm d, p)) : ∃ u v, cs = [.iface u v] := by
  cases fuel with
  | zero => simp [DataW.trod] at h
  | succ n =>
    unfold DataW.trod at h
    rw [ht] at h
    split at h <;> simp_all
theorem var_cells {name : String} {g : Nat} {cs : Array Value} (hg : P.globalNamed name = some g) (hv : w.var? P name = some cs) : ∃ ty fr, w.heap[g]? = some (.cells cs ty fr) := by
  unfold World.var? at hv
  rw [hg] at hv
  simp only [Option.bind_some] at hv
  split at hv
  · rename_i cs ty fr hq
    cases hv
    exact ⟨ty, fr, hq⟩
  · cases hv
end
def kindD {H : Type} (k : Bool × Bool × Int × Bool × Bool) : DataW H := .agg [.lit (.bool k.1), .lit (.bool k.2.1), .lit (.int .i64 k.2.2.1), .lit (.bool k.2.2.2.1), .lit (.bool k.2.2.2.2)]
theorem one_at {l : List Value} {o : Nat} {v : Value} (h : (l.drop o).take 1 = [v]) : l[o]? = some v := by
  have := congrArg (fun l => l[0]?) h
  simpa [List.getElem?_take, List.getElem?_drop] using this
set_option maxRecDepth 100000 in
theorem kind_one {H : Type} {enc : TypeId × Value → H} {w : World} {base : Nat} {spare : Nat → Bool} {held : Bool} (m : Nat) (cs : List Value) (d : DataW H) (q : List MemPlace) (a : Bool × Bool × Int × Bool × Bool) (h : DataW.trod enc Tryz.prog w base spare held m 280 cs = some (d, q)) (hd : d = kindD a) : cs = kindV a := by
  obtain ⟨xs, n, _, hx, hl, hlen, hel⟩ := DataW.trod_struct Tryz.underlying280 h
  simp only [Prod.mk.injEq] at hx
  rw [hx.1] at hd
  unfold kindD at hd
  simp only [DataW.agg.injEq] at hd
  have c4 : Tryz.prog.cellsOf 4 = 1 := by kernel_rfl
  have c3 : Tryz.prog.cellsOf 3 = 1 := by kernel_rfl
  have hl5 : cs.length = 5 := by rw [hl]; kernel_rfl
  have g0 := hel 0 _ rfl
  have g1 := hel 1 _ rfl
  have g2 := hel 2 _ rfl
  have g3 := hel 3 _ rfl
  have g4 := hel 4 _ rfl
  match xs, hd with
  | [x0, x1, x2, x3, x4], hd =>
    simp only [List.map_cons, List.map_nil, List.cons.injEq, and_true] at hd
    obtain ⟨d0, d1, d2, d3, d4⟩ := hd
    simp only [c4, c3, List.getElem?_cons_zero, List.getElem?_cons_succ] at g0 g1 g2 g3 g4
    obtain ⟨b0, e0, f0⟩ := DataW.trod_bool Tryz.underlying4 g0
    obtain ⟨b1, e1, f1⟩ := DataW.trod_bool Tryz.underlying4 g1
    obtain ⟨b2, e2, f2, _⟩ := DataW.trod_int Tryz.underlying3 g2
    obtain ⟨b3, e3, f3⟩ := DataW.trod_bool Tryz.underlying4 g3
    obtain ⟨b4, e4, f4⟩ := DataW.trod_bool Tryz.underlying4 g4
    rw [f0] at d0; rw [f1] at d1; rw [f2] at d2; rw [f3] at d3; rw [f4] at d4
    simp only [DataW.lit.injEq, Lit.bool.injEq, Lit.int.injEq, true_and] at d0 d1 d2 d3 d4
    have k0 := one_at (l := cs) (o := 0) e0
    have k1 := one_at (l := cs) (o := 1) e1
    have k2 := one_at (l := cs) (o := 2) e2
    have k3 := one_at (l := cs) (o := 3) e3
    have k4 := one_at (l := cs) (o := 4) e4
    match cs, hl5 with
    | [y0, y1, y2, y3, y4], _ =>
      simp at k0 k1 k2 k3 k4
      unfold kindV
      rw [k0, k1, k2, k3, k4, d0, d1, d2, d3, d4]
theorem door_met (os : Os) (args : Array Value) : laidMetH Tryz.prog laidQ ((World.doorLaid Tryz.prog 400 os).forCall (fun _ _ => 0) ⟨#[], args, []⟩).memory :=
  laidMetH_of_parts3 (fuel := 8) (laidMet_of_run' 8 (by kernel_rfl) (by kernel_rfl)) (by kernel_rfl) (by kernel_rfl)
theorem glob_at {w : World} {g : Nat} {cs : Array Value} (h : ∃ ty fr, w.heap[g]? = some (.cells cs ty fr)) : cellsAt w g = some cs := by
  obtain ⟨ty, fr, h⟩ := h
  unfold cellsAt
  rw [h]
theorem ifc_at {H : Type} {enc : TypeId × Value → H} {w : World} {base : Nat} {spare : Nat → Bool} {held : Bool} {g : Nat} {cs : Array Value} {fuel : Nat} {nm : String} {d : DataW H} {p : List MemPlace} (h : ∃ ty fr, w.heap[g]? = some (.cells cs ty fr)) (hd : DataW.trod enc Tryz.prog w base spare held fuel 221 cs.toList = some (.iface nm d, p)) : ∃ t p, cellsAt w g = some #[.iface t p] := by
  obtain ⟨u, v, hcs⟩ := trod_ifc Tryz.underlying221 hd
  exact ⟨u, v, (glob_at h).trans (congrArg some (Array.ext' hcs))⟩
theorem max_row : ((begin Tryz.prog (fun _ _ => 0) default).world.heap[4]?).bind Obj.row? = some (#[.int .i64 0], 3) := by kernel_rfl
theorem max_at {W : World} (hs : W.ShapedOpen Tryz.prog) : ∃ z, cellsAt W 4 = some #[.int .i64 z] := by
  obtain ⟨cs, hh, hsz, _⟩ := hs.1 4 _ _ (of_decide_eq_true (by kernel_rfl)) max_row
  obtain ⟨z, hz⟩ := Go.Proofs.cell_of_shapedOpen_int (k := .i64) hs (of_decide_eq_true (by kernel_rfl)) max_row rfl (by kernel_rfl) (by kernel_rfl) (by kernel_rfl)
  have hsz : cs.size = 1 := hsz
  have h1 : 0 < cs.size := by omega
  have hc : W.cell? ⟨4, 0, none⟩ = some cs[0] := by simp [World.cell?, hh, h1]
  rw [hc] at hz
  refine ⟨z, ?_⟩
  unfold cellsAt
  rw [hh]
  show some cs = _
  congr 1
  apply Array.ext
  · exact hsz
  · intro i hi hi'
    obtain rfl : i = 0 := by simp at hi'; omega
    exact Option.some.inj hz
theorem globQ {W : World} (h : laidMetH Tryz.prog laidQ W) (hs : W.ShapedOpen Tryz.prog) : GlobW W := by
  obtain ⟨z, hm⟩ := max_at hs
  rw [MakeChecks.laidMetH_plain _ _ _ (by kernel_rfl)] at h
  obtain ⟨ps, ⟨_, _, _, _, _, _, _, _, _, _, ⟨_, _, _, _, _, _, _, _, _, _, ⟨g1, t1, cs1, f1, p1, q1, hg1, ht1, hv1, hd1, ⟨g5, t5, cs5, f5, p5, q5, hg5, ht5, hv5, hd5, ⟨g6, t6, cs6, f6, p6, q6, hg6, ht6, hv6, hd6, ⟨g0, t0, cs0, f0, p0, q0, hg0, ht0, hv0, hd0, ⟨g2, t2, cs2, f2, p2, q2, hg2, ht2, hv2, hd2, ⟨g3, t3, cs3, f3, p3, q3, hg3, ht3, hv3, hd3, _, _⟩, _⟩, _⟩, _⟩, _⟩, _⟩, _⟩, _⟩, _⟩ := h
  obtain rfl := Option.some.inj (gTexts.symm.trans hg0)
  obtain rfl := Option.some.inj ((gTy 3 412 (by kernel_rfl)).symm.trans ht0)
  obtain rfl := Option.some.inj (gPow10.symm.trans hg1)
  obtain rfl := Option.some.inj ((gTy 1 408 (by kernel_rfl)).symm.trans ht1)
  obtain rfl := Option.some.inj (gModes.symm.trans hg2)
  obtain rfl := Option.some.inj ((gTy 2 411 (by kernel_rfl)).symm.trans ht2)
  obtain rfl := Option.some.inj (gKinds.symm.trans hg3)
  obtain rfl := Option.some.inj ((gTy 0 281 (by kernel_rfl)).symm.trans ht3)
  obtain rfl := Option.some.inj (gErrR.symm.trans hg5)
  obtain rfl := Option.some.inj ((gTy 6 221 (by kernel_rfl)).symm.trans ht5)
  obtain rfl := Option.some.inj (gErrS.symm.trans hg6)
  obtain rfl := Option.some.inj ((gTy 5 221 (by kernel_rfl)).symm.trans ht6)
  have h0 := laid_strs (L := txtsL) Tryz.underlying412 Tryz.underlying9 cStr (by kernel_rfl) rfl hd0
  have h1 := laid_ints (L := pow10L) (k := .u64) Tryz.underlying408 Tryz.underlying42 (by kernel_rfl) (by kernel_rfl) rfl hd1
  have h2 := laid_strs (L := modesL) Tryz.underlying411 Tryz.underlying9 cStr (by kernel_rfl) rfl hd2
  have h3 := laid_arrK (L := kindsL) (K := 5) (dat := kindD) (cells := kindV) Tryz.underlying281 (by kernel_rfl) (by kernel_rfl) rfl kind_one hd3
  have h5 := ifc_at (var_cells gErrR hv5) hd5
  have h6 := ifc_at (var_cells gErrS hv6) hd6
  intro g
  refine ⟨fun c hg => ?_, fun k hk => ?_⟩
  · unfold GM at hg
    split at hg
    · rename_i hb
      obtain rfl := Nat.eq_of_beq_eq_true hb
      cases hg
      rw [← h0]
      exact glob_at (var_cells gTexts hv0)
    · split at hg
      · rename_i hb
        obtain rfl := Nat.eq_of_beq_eq_true hb
        cases hg
        rw [← h1]
        exact glob_at (var_cells gPow10 hv1)
      · split at hg
        · rename_i hb
          obtain rfl := Nat.eq_of_beq_eq_true hb
          cases hg
          rw [← h2]
          exact glob_at (var_cells gModes hv2)
        · split at hg
          · rename_i hb
            obtain rfl := Nat.eq_of_beq_eq_true hb
            cases hg
            rw [← h3]
            exact glob_at (var_cells gKinds hv3)
          · cases hg
  · unfold GK at hk
    split at hk
    · rename_i hb
      obtain rfl := Nat.eq_of_beq_eq_true hb
      cases hk
      exact ⟨_, hm, z, rfl⟩
    · split at hk
      · rename_i hb
        cases hk
        rw [Bool.or_eq_true] at hb
        rcases hb with hb | hb
        · obtain rfl := Nat.eq_of_beq_eq_true hb
          obtain ⟨u, v, hc⟩ := h6
          exact ⟨_, hc, u, v, rfl⟩
        · obtain rfl := Nat.eq_of_beq_eq_true hb
          obtain ⟨u, v, hc⟩ := h5
          exact ⟨_, hc, u, v, rfl⟩
      · cases hk
/-- A law's run from what it answers. -/
theorem runs_of_frz {P : Program} {f : Nat} {fn : Func} {c : Code} (hfit : Fit P) (hfn : P.funcs[f]? = some fn) (hb : fn.body = some c) {ks : List (Bool × List Ck)} (h : ∀ al, ArgsOk ks al → ∃ args, (∀ E vs, Reps E al vs → Reps E args vs) ∧ FrzOk P f args (.lit (.bool true))) : LawRuns P f ks := by
  intro w hg vals al hok hargs
  obtain ⟨args, hA, hF⟩ := h al hok
  rcases hF none (frozenE w hg) w vals (fun v w' => v = .bool true ∧ Quiet w w') (fun _ h => h) (frozenE_ok w hg) (hA _ _ hargs) (fun v w' E' _ _ _ _ hr hq => ⟨by cases hr; rfl, hq⟩) with ⟨u, h1, _⟩ | ⟨_, h2⟩
  · have hname' : ¬ fn.name = "runtime.NumGoroutine" := by simpa using (fit_func hfit hfn hb).2
    have e : Sem.run P (callFunc f vals) w = .ok (.enter f vals) w := by simp [callFunc, hfn, hname', hb]
    rw [e] at h1
    cases h1
  · exact h2
theorem wf_u8 {z : Int} (h : (Lit.int .u8 z).wf = true) : 0 ≤ z ∧ z < 256 := by
  simp only [Lit.wf, Bool.and_eq_true, decide_eq_true_eq] at h
  have h1 : 0 ≤ z := h.1
  have h2 : z ≤ 255 := h.2
  omega
noncomputable section
def ks4 : List (Bool × List Ck) := [(false, [.int .u8]), (false, [.int .u8])]
theorem args_4 {al : List AV} (h : ArgsOk ks4 al) : ∃ (z k : Int), (0 ≤ z ∧ z < 256) ∧ (0 ≤ k ∧ k < 256) ∧ al = [.v (.int .u8 z), .v (.int .u8 k)] := by
  unfold ks4 at h
  cases h with | cons h0 t => cases t with | cons h1 t => cases t with | nil =>
  cases h0 with | cons h0 t0 => cases t0 with | nil =>
  cases h1 with | cons h1 t1 => cases t1 with | nil =>
  cases h0 with
  | int _ z hz =>
    cases h1 with
    | int _ k hk => exact ⟨z, k, wf_u8 hz, wf_u8 hk, rfl⟩
theorem argsSh4 : argShs Tryz.prog 6 Tryz.f4.params.toList = some ks4 := by kernel_rfl
theorem law4_runs : LawRuns Tryz.prog 4 ks4 := runs_of_frz fitTry Tryz.func4 (c := c4) (by kernel_rfl) fun al hok => by
  obtain ⟨z, k, hz, hk, rfl⟩ := args_4 hok
  exact ⟨_, fun _ _ h => h, law4_frz hk hz⟩
end
end Go.Proofs.YtamjnhpkmhbkcaaGreatDoor
