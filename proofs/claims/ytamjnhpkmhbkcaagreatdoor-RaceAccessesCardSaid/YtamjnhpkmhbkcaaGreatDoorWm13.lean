/-
  PARTS, one behind the other: W6 W7 W8 QG W9 RcR0.
-/
import Derived.Test.YtamjnhpkmhbkcaaGreatDoorWm12
import Derived.Test.YtamjnhpkmhbkcaaGreatDoorRows
import Derived.Shelf.Vars
import Derived.JoinedOf
import Derived.KernelRfl
/-
  PART: the wakes of laws 8 and 23.
-/
namespace Go.Proofs.YtamjnhpkmhbkcaaGreatDoor
open Go.RowKit
theorem wk32 : runR [] U4 32 .nil = some (.lit (.bool true)) := by kernel_rfl
theorem wakes32 : FrzOk Tryz.prog 32 [] (.lit (.bool true)) := runR_ok .nil U4_ok wk32
theorem U6_ok : EntsOk Tryz.prog (U4 ++ U5) := U4_ok.app U5_ok
theorem wk55 : runR T5 (U4 ++ U5) 55 .nil = some (.lit (.bool true)) := by kernel_rfl
theorem wakes55 : FrzOk Tryz.prog 55 [] (.lit (.bool true)) := runR_ok T5_ok U6_ok wk55
end Go.Proofs.YtamjnhpkmhbkcaaGreatDoor

/-
  PART: laws 8 and 10: their context.
-/
namespace Go.Proofs.YtamjnhpkmhbkcaaGreatDoor
open Go.RowKit
noncomputable section
noncomputable def UW : List Ent := [⟨32, .nil, .lit (.bool true)⟩, ⟨55, .nil, .lit (.bool true)⟩]
theorem UW_ok : EntsOk Tryz.prog UW := .cons (a := .nil) (r := .lit (.bool true)) wakes32 (.cons (a := .nil) (r := .lit (.bool true)) wakes55 .nil)
def acA (k m l a b : Int) : AV := .agg [.v (.int .u8 k), .v (.int .u8 m), .v (.int .i64 l), .v (.int .u64 a), .v (.int .u64 b)]
end
end Go.Proofs.YtamjnhpkmhbkcaaGreatDoor

/-
  PART: laws 8 and 10: they answer true.
-/
namespace Go.Proofs.YtamjnhpkmhbkcaaGreatDoor
open Go.RowKit
theorem k7 (k : Int) : (k < 2 ∨ 6 < k) ∨ k = 2 ∨ k = 3 ∨ k = 4 ∨ k = 5 ∨ k = 6 := by omega
structure KOut (k : Int) : Prop where
  e2 : (k == 2) = false
  e3 : (k == 3) = false
  e4 : (k == 4) = false
  e5 : (k == 5) = false
  e6 : (k == 6) = false
theorem kout {k : Int} (h : k < 2 ∨ 6 < k) : KOut k := by
  constructor <;> (rw [beq_eq_false_iff_ne]; omega)
theorem k8 (k : Int) : (((k == 2) = false ∧ (k == 3) = false ∧ (k == 4) = false ∧ (k == 5) = false ∧ (k == 6) = false ∧ ((decide (k ≥ 2) = false ∧ decide (k ≥ 3) = false ∧ decide (k ≥ 4) = false ∧ decide (k ≤ 6) = true ∧ decide (k < 4) = true ∧ decide (k > 6) = false) ∨ (decide (k ≥ 2) = true ∧ decide (k ≥ 3) = true ∧ decide (k ≥ 4) = true ∧ decide (k ≤ 6) = false ∧ decide (k < 4) = false ∧ decide (k > 6) = true)))) ∨ k = 2 ∨ k = 3 ∨ k = 4 ∨ k = 5 ∨ k = 6 := by
  rcases k7 k with h | h
  · have q := kout h
    refine .inl ⟨q.e2, q.e3, q.e4, q.e5, q.e6, ?_⟩
    rcases h with h | h
    · left; refine ⟨?_, ?_, ?_, ?_, ?_, ?_⟩ <;> (first | rw [decide_eq_false_iff_not] | rw [decide_eq_true_eq]) <;> omega
    · right; refine ⟨?_, ?_, ?_, ?_, ?_, ?_⟩ <;> (first | rw [decide_eq_false_iff_not] | rw [decide_eq_true_eq]) <;> omega
  · exact .inr h
noncomputable section
def b10 (k m l a b k' m' l' a' b' : Int) : Bool := (if ((if (l == l') = true then if (if (k == 2) = true then true else if (k == 3) = true then true else if decide (k ≥ 4) = true then decide (k ≤ 6) else false) = true then if (if (k' == 2) = true then true else if (k' == 3) = true then true else if decide (k' ≥ 4) = true then decide (k' ≤ 6) else false) = true then if (if (k == 3) = true then true else if decide (k ≥ 4) = true then decide (k ≤ 6) else false) = true then if (if (k == 4) = true then m == 5 else if (k == 5) = true then m == 5 else false) = true then !if (k' == 4) = true then m' == 5 else if (k' == 5) = true then m' == 5 else false else !false else if (if (k' == 3) = true then true else if decide (k' ≥ 4) = true then decide (k' ≤ 6) else false) = true then if (if (k == 4) = true then m == 5 else if (k == 5) = true then m == 5 else false) = true then !if (k' == 4) = true then m' == 5 else if (k' == 5) = true then m' == 5 else false else !false else false else false else false else false) == if (l == l') = true then if decide (k ≥ 2) = true then if decide (k ≤ 6) = true then if decide (k' ≥ 2) = true then if decide (k' ≤ 6) = true then if (if decide (k ≥ 3) = true then decide (k ≤ 6) else false) = true then if (!if (k == 4) = true then m == 5 else if (k == 5) = true then m == 5 else false) = true then true else !if (k' == 4) = true then m' == 5 else if (k' == 5) = true then m' == 5 else false else if (if decide (k' ≥ 3) = true then decide (k' ≤ 6) else false) = true then if (!if (k == 4) = true then m == 5 else if (k == 5) = true then m == 5 else false) = true then true else !if (k' == 4) = true then m' == 5 else if (k' == 5) = true then m' == 5 else false else false else false else false else false else false else false) = true then (if (l' == l) = true then if (if (k' == 2) = true then true else if (k' == 3) = true then true else if decide (k' ≥ 4) = true then decide (k' ≤ 6) else false) = true then if (if (k == 2) = true then true else if (k == 3) = true then true else if decide (k ≥ 4) = true then decide (k ≤ 6) else false) = true then if (if (k' == 3) = true then true else if decide (k' ≥ 4) = true then decide (k' ≤ 6) else false) = true then if (if (k' == 4) = true then m' == 5 else if (k' == 5) = true then m' == 5 else false) = true then !if (k == 4) = true then m == 5 else if (k == 5) = true then m == 5 else false else !false else if (if (k == 3) = true then true else if decide (k ≥ 4) = true then decide (k ≤ 6) else false) = true then if (if (k' == 4) = true then m' == 5 else if (k' == 5) = true then m' == 5 else false) = true then !if (k == 4) = true then m == 5 else if (k == 5) = true then m == 5 else false else !false else false else false else false else false) == if (l == l') = true then if decide (k ≥ 2) = true then if decide (k ≤ 6) = true then if decide (k' ≥ 2) = true then if decide (k' ≤ 6) = true then if (if decide (k ≥ 3) = true then decide (k ≤ 6) else false) = true then if (!if (k == 4) = true then m == 5 else if (k == 5) = true then m == 5 else false) = true then true else !if (k' == 4) = true then m' == 5 else if (k' == 5) = true then m' == 5 else false else if (if decide (k' ≥ 3) = true then decide (k' ≤ 6) else false) = true then if (!if (k == 4) = true then m == 5 else if (k == 5) = true then m == 5 else false) = true then true else !if (k' == 4) = true then m' == 5 else if (k' == 5) = true then m' == 5 else false else false else false else false else false else false else false else false)
theorem ev10 (k m l a b k' m' l' a' b' : Int) : ((evs (cxR [] UW) 60).call 10 [acA k m l a b, acA k' m' l' a' b'] .nil).frz = .ret (.v (.bool (b10 k m l a b k' m' l' a' b'))) := by kernel_rfl
def b8 (k m l a b r : Int) : Bool := (if ((if (k == 2) = true then m else if (if decide (k ≥ 4) = true then decide (k ≤ 6) else false) = true then if (if (m == 3) = true then true else m == 5) = true then 3 else 2 else 0) == if (k == 2) = true then m else if (if decide (k < 4) = true then true else decide (k > 6)) = true then 0 else if (if (m == 3) = true then true else m == 5) = true then 3 else 2) = true then if ((if (k == 2) = true then true else if decide (k ≥ 4) = true then decide (k ≤ 6) else false) == if (k == 2) = true then true else !if decide (k < 4) = true then true else decide (k > 6)) = true then if ((if (k == 3) = true then a else if (k == 6) = true then if (r != a) = true then 0 else b else if (k == 5) = true then IntKind.u64.wrap (a + r) else if (k == 4) = true then a else 0) == if (k == 3) = true then a else if (k == 4) = true then a else if (k == 5) = true then IntKind.u64.wrap (r + a) else if (if (k == 6) = true then r == a else false) = true then b else 0) = true then if ((if (k == 3) = true then m else if (k == 6) = true then if (r != a) = true then 0 else if (if (m == 4) = true then true else m == 5) = true then 4 else 2 else if (k == 5) = true then if (if (m == 4) = true then true else m == 5) = true then 4 else 2 else if (k == 4) = true then if (if (m == 4) = true then true else m == 5) = true then 4 else 2 else 0) == if (k == 3) = true then m else if (k == 4) = true then if (if (m == 4) = true then true else m == 5) = true then 4 else 2 else if (k == 5) = true then if (if (m == 4) = true then true else m == 5) = true then 4 else 2 else if (if (k == 6) = true then r == a else false) = true then if (if (m == 4) = true then true else m == 5) = true then 4 else 2 else 0) = true then if ((if (k == 3) = true then true else if (k == 6) = true then !r != a else if (k == 5) = true then true else k == 4) == if (k == 3) = true then true else if (k == 4) = true then true else if (k == 5) = true then true else if (k == 6) = true then r == a else false) = true then if decide (k ≥ 4) = true then (if decide (k ≥ 4) = true then decide (k ≤ 6) else false) == decide (k ≤ 6) else (if decide (k ≥ 4) = true then decide (k ≤ 6) else false) == false else false else false else false else false else false)
theorem ev8 (k m l a b r : Int) : ((evs (cxR [] UW) 60).call 8 [acA k m l a b, .v (.int .u64 r)] .nil).frz = .ret (.v (.bool (b8 k m l a b r))) := by kernel_rfl
theorem b10_true (k m l a b k' m' l' a' b' : Int) : b10 k m l a b k' m' l' a' b' = true := by
  unfold b10
  have hl : (l' == l) = (l == l') := BEq.comm
  rw [hl]
  generalize (l == l') = L
  generalize (m == 5) = M
  generalize (m' == 5) = M'
  rcases k8 k with ⟨h2, h3, h4, h5, h6, ⟨g2, g3, g4, g6, g7, g8⟩ | ⟨g2, g3, g4, g6, g7, g8⟩⟩ | rfl | rfl | rfl | rfl | rfl <;>
  rcases k8 k' with ⟨i2, i3, i4, i5, i6, ⟨j2, j3, j4, j6, j7, j8⟩ | ⟨j2, j3, j4, j6, j7, j8⟩⟩ | rfl | rfl | rfl | rfl | rfl <;>
  (first | simp only [*] | skip) <;> (cases L <;> cases M <;> cases M' <;> rfl)
theorem b8_true (k m l a b r : Int) : b8 k m l a b r = true := by
  unfold b8
  have hw : IntKind.u64.wrap (a + r) = IntKind.u64.wrap (r + a) := by rw [Int.add_comm]
  rw [hw]
  generalize IntKind.u64.wrap (r + a) = W
  generalize (m == 3) = M3
  generalize (m == 4) = M4
  generalize (m == 5) = M5
  have hr : (r != a) = !(r == a) := rfl
  rw [hr]
  generalize (r == a) = A
  rcases k8 k with ⟨h2, h3, h4, h5, h6, ⟨g2, g3, g4, g6, g7, g8⟩ | ⟨g2, g3, g4, g6, g7, g8⟩⟩ | rfl | rfl | rfl | rfl | rfl <;>
  (first | simp only [*] | skip) <;> (cases A <;> cases M3 <;> cases M4 <;> cases M5 <;> simp)
theorem law10_frz (k m l a b k' m' l' a' b' : Int) : FrzOk Tryz.prog 10 [acA k m l a b, acA k' m' l' a' b'] (.lit (.bool true)) :=
  frz_ev (cx := cxR [] UW) (cxR_ok .nil UW_ok) fitTry (ev10 k m l a b k' m' l' a' b') fun E v h => by
    rw [b10_true] at h
    cases h with
    | v _ h1 => exact .lit _ h1
theorem law8_frz (k m l a b r : Int) : FrzOk Tryz.prog 8 [acA k m l a b, .v (.int .u64 r)] (.lit (.bool true)) :=
  frz_ev (cx := cxR [] UW) (cxR_ok .nil UW_ok) fitTry (ev8 k m l a b r) fun E v h => by
    rw [b8_true] at h
    cases h with
    | v _ h1 => exact .lit _ h1
end
end Go.Proofs.YtamjnhpkmhbkcaaGreatDoor

/-
  PART: what package-level variables hold, by the condition: tables of strings, of numbers, of kinds; an error.
-/
namespace Go.Proofs.YtamjnhpkmhbkcaaGreatDoor
open Go.ChangeShapes Go.WideShapes Go.ChangeAt Go.WideMaps Go.WideElems Go.RowKit
theorem own : ownKnob Tryz.prog.godebug = none := by kernel_rfl
theorem gTexts : Tryz.prog.globalNamed "troth/num.texts" = some 3 := by kernel_rfl
theorem gPow10 : Tryz.prog.globalNamed "internal/strconv.uint64pow10" = some 1 := by kernel_rfl
theorem gModes : Tryz.prog.globalNamed "troth/prog.modes" = some 2 := by kernel_rfl
theorem gKinds : Tryz.prog.globalNamed "troth/check.kinds" = some 0 := by kernel_rfl
theorem gErrR : Tryz.prog.globalNamed "strconv.ErrRange" = some 6 := by kernel_rfl
theorem gErrS : Tryz.prog.globalNamed "strconv.ErrSyntax" = some 5 := by kernel_rfl
theorem gTy (g : Nat) (t : TypeId) (h : (Tryz.prog.globals[g]?).map (·.type) = some t) : (Tryz.prog.globals[g]?).map (·.type) = some t := h
theorem cStr : Tryz.prog.cellsOf 9 = 1 := by kernel_rfl
def laidQ : List (String × DataW Unit) := [("math/bits.deBruijn32tab", Rows.laid_math_bits_deBruijn32tab), ("math/bits.deBruijn64tab", Rows.laid_math_bits_deBruijn64tab), ("internal/strconv.uint64pow10", Rows.laid_internal_strconv_uint64pow10), ("strconv.ErrRange", Rows.laid_strconv_ErrRange), ("strconv.ErrSyntax", Rows.laid_strconv_ErrSyntax), ("troth/num.texts", Rows.laid_troth_num_texts), ("troth/prog.modes", Rows.laid_troth_prog_modes), ("troth/check.kinds", Rows.laid_troth_check_kinds)]
theorem cell_string (s : ByteArray) (l : List UInt8) (h : s.data.toList = l) : Value.string s = bytesV l := by
  subst h; rfl
section
variable {H : Type} {enc : TypeId × Value → H} {P : Program} {w : World} {base : Nat} {spare : Nat → Bool} {held : Bool}
/-- An array whose parts are of one cell. -/
theorem laid_arr {t e n : Nat} {α : Type} {L : List α} {dat : α → DataW H} {cell : α → Value} (ht : P.underlying t = some (.array n e)) (hc : P.cellsOf e = 1) (ht' : P.cellsOf t = n) (hn : L.length = n)
    (hone : ∀ m (cs : List Value) d q a, DataW.trod enc P w base spare held m e cs = some (d, q) → d = dat a → cs = [cell a])
    {fuel : Nat} {cs : Array Value} {p : List MemPlace} (hd : DataW.trod enc P w base spare held fuel t cs.toList = some (.agg (L.map dat), p)) : cs = (L.map cell).toArray := by
  obtain ⟨xs, m1, rfl, hx1, hl, hlen, hel⟩ := DataW.trod_array ht hd
  simp only [Prod.mk.injEq, DataW.agg.injEq] at hx1
  apply Array.ext'
  rw [List.toList_toArray]
  have hsz : cs.toList.length = n := by rw [hl, ht']
  apply List.ext_getElem
  · rw [hsz, List.length_map, hn]
  · intro i h1 h2
    have hi : i < n := by omega
    have h0 := hel i hi
    rw [hc] at h0
    rw [List.getElem?_eq_getElem (show i < xs.length by omega)] at h0
    have hL : i < L.length := by omega
    have e3 : (xs.map (·.1))[i]? = some (dat L[i]) := by
      rw [← hx1.1, List.getElem?_map, List.getElem?_eq_getElem hL]; rfl
    rw [List.getElem?_map, List.getElem?_eq_getElem (show i < xs.length by omega)] at e3
    have e4 := hone _ _ _ _ L[i] h0 (Option.some.inj e3)
    have h5 : cs.toList[i]? = some (cell L[i]) := by
      rw [Nat.mul_one] at e4
      have := congrArg (fun l => l[0]?) e4
      simpa [List.getElem?_take, List.getElem?_drop] using this
    rw [List.getElem?_eq_getElem h1] at h5
    rw [Option.some.inj h5, List.getElem_map]
theorem laid_strs {t e n : Nat} {L : List (List UInt8)} (ht : P.underlying t = some (.array n e)) (he : P.underlying e = some .string) (hc : P.cellsOf e = 1) (ht' : P.cellsOf t = n) (hn : L.length = n)
    {fuel : Nat} {cs : Array Value} {p : List MemPlace} (hd : DataW.trod enc P w base spare held fuel t cs.toList = some (.agg (L.map fun l => .lit (.string l)), p)) : cs = (L.map bytesV).toArray :=
  laid_arr ht hc ht' hn (fun m cs d q a h1 h2 => by
    obtain ⟨s, e1, e2, _⟩ := DataW.trod_string he h1
    simp only [Prod.mk.injEq] at e2
    rw [e2.1] at h2
    simp only [DataW.lit.injEq, Lit.string.injEq] at h2
    rw [e1, cell_string s _ h2]) hd
theorem laid_ints {t e n : Nat} {k : IntKind} {L : List Int} (ht : P.underlying t = some (.array n e)) (he : P.underlying e = some (.int k)) (hc : P.cellsOf e = 1) (ht' : P.cellsOf t = n) (hn : L.length = n)
    {fuel : Nat} {cs : Array Value} {p : List MemPlace} (hd : DataW.trod enc P w base spare held fuel t cs.toList = some (.agg (L.map fun l => .lit (.int k l)), p)) : cs = (L.map (Value.int k)).toArray :=
  laid_arr ht hc ht' hn (fun m cs d q a h1 h2 => by
    obtain ⟨s, e1, e2, _⟩ := DataW.trod_int he h1
    simp only [Prod.mk.injEq] at e2
    rw [e2.1] at h2
    simp only [DataW.lit.injEq, Lit.int.injEq, true_and] at h2
    rw [e1, h2]) hd
/-- A row of pieces of K cells. -/
theorem chunks {α : Type} {K : Nat} {cells : α → List Value} : ∀ (L : List α) (l : List Value), l.length = L.length * K → (∀ i a, L[i]? = some a → (l.drop (i * K)).take K = cells a) → l = L.flatMap cells
  | [], l, h, _ => by simpa using h
  | a :: L, l, h, hc => by
    have h0 := hc 0 a rfl
    have ih := chunks (K := K) (cells := cells) L (l.drop K) (by rw [List.length_drop, h, List.length_cons, Nat.succ_mul]; omega) (fun i b hb => by
      have := hc (i + 1) b (by simpa using hb)
      rw [List.drop_drop]
      rwa [show (i + 1) * K = K + i * K by rw [Nat.succ_mul]; omega] at this)
    rw [List.flatMap_cons, ← ih, ← h0, Nat.zero_mul, List.drop_zero, List.take_append_drop]
theorem laid_arrK {t e n K : Nat} {α : Type} {L : List α} {dat : α → DataW H} {cells : α → List Value} (ht : P.underlying t = some (.array n e)) (hc : P.cellsOf e = K) (ht' : P.cellsOf t = n * K) (hn : L.length = n)
    (hone : ∀ m (cs : List Value) d q a, DataW.trod enc P w base spare held m e cs = some (d, q) → d = dat a → cs = cells a)
    {fuel : Nat} {cs : Array Value} {p : List MemPlace} (hd : DataW.trod enc P w base spare held fuel t cs.toList = some (.agg (L.map dat), p)) : cs = (L.flatMap cells).toArray := by
  obtain ⟨xs, m1, rfl, hx1, hl, hlen, hel⟩ := DataW.trod_array ht hd
  simp only [Prod.mk.injEq, DataW.agg.injEq] at hx1
  apply Array.ext'
  rw [List.toList_toArray]
  refine chunks (K := K) L cs.toList (by rw [hl, ht', hn]) fun i a ha => ?_
  have hL : i < L.length := (List.getElem?_eq_some_iff.1 ha).1
  have h0 := hel i (by omega)
  rw [hc, List.getElem?_eq_getElem (show i < xs.length by omega)] at h0
  have e3 : (xs.map (·.1))[i]? = some (dat a) := by
    rw [← hx1.1, List.getElem?_map, ha]; rfl
  rw [List.getElem?_map, List.getElem?_eq_getElem (show i < xs.length by omega)] at e3
  exact hone _ _ _ _ a h0 (Option.some.inj e3)
theorem trod_ifc {t : TypeId} {ms} {fuel : Nat} {cs : List Value} {nm : String} {d : DataW H} {p : List MemPlace} (ht : P.underlying t = some (.interface ms)) (h : DataW.trod enc P w base spare held fuel t cs = some (.iface nm d, p)) : ∃ u v, cs = [.iface u v] := by
  cases fuel with
  | zero => simp [DataW.trod] at h
  | succ n =>
    unfold DataW.trod at h
    rw [ht] at h
    split at h <;> simp_all
theorem var_cells {name : String} {g : Nat} {cs : Array Value} (hg : P.globalNamed name = some g) (hv : w.var? P name = some cs) : ∃ ty fr, w.heap[g]? = some (.cells cs ty fr) := by
  unfold World.var? at hv
  rw [hg] at hv
  simp only [Option.bind_some] at hv
  split at hv
  · rename_i cs ty fr hq
    cases hv
    exact ⟨ty, fr, hq⟩
  · cases hv
end
def kindD {H : Type} (k : Bool × Bool × Int × Bool × Bool) : DataW H := .agg [.lit (.bool k.1), .lit (.bool k.2.1), .lit (.int .i64 k.2.2.1), .lit (.bool k.2.2.2.1), .lit (.bool k.2.2.2.2)]
theorem one_at {l : List Value} {o : Nat} {v : Value} (h : (l.drop o).take 1 = [v]) : l[o]? = some v := by
  have := congrArg (fun l => l[0]?) h
  simpa [List.getElem?_take, List.getElem?_drop] using this
set_option maxRecDepth 100000 in
theorem kind_one {H : Type} {enc : TypeId × Value → H} {w : World} {base : Nat} {spare : Nat → Bool} {held : Bool} (m : Nat) (cs : List Value) (d : DataW H) (q : List MemPlace) (a : Bool × Bool × Int × Bool × Bool) (h : DataW.trod enc Tryz.prog w base spare held m 280 cs = some (d, q)) (hd : d = kindD a) : cs = kindV a := by
  obtain ⟨xs, n, _, hx, hl, hlen, hel⟩ := DataW.trod_struct Tryz.underlying280 h
  simp only [Prod.mk.injEq] at hx
  rw [hx.1] at hd
  unfold kindD at hd
  simp only [DataW.agg.injEq] at hd
  have c4 : Tryz.prog.cellsOf 4 = 1 := by kernel_rfl
  have c3 : Tryz.prog.cellsOf 3 = 1 := by kernel_rfl
  have hl5 : cs.length = 5 := by rw [hl]; kernel_rfl
  have g0 := hel 0 _ rfl
  have g1 := hel 1 _ rfl
  have g2 := hel 2 _ rfl
  have g3 := hel 3 _ rfl
  have g4 := hel 4 _ rfl
  match xs, hd with
  | [x0, x1, x2, x3, x4], hd =>
    simp only [List.map_cons, List.map_nil, List.cons.injEq, and_true] at hd
    obtain ⟨d0, d1, d2, d3, d4⟩ := hd
    simp only [c4, c3, List.getElem?_cons_zero, List.getElem?_cons_succ] at g0 g1 g2 g3 g4
    obtain ⟨b0, e0, f0⟩ := DataW.trod_bool Tryz.underlying4 g0
    obtain ⟨b1, e1, f1⟩ := DataW.trod_bool Tryz.underlying4 g1
    obtain ⟨b2, e2, f2, _⟩ := DataW.trod_int Tryz.underlying3 g2
    obtain ⟨b3, e3, f3⟩ := DataW.trod_bool Tryz.underlying4 g3
    obtain ⟨b4, e4, f4⟩ := DataW.trod_bool Tryz.underlying4 g4
    rw [f0] at d0; rw [f1] at d1; rw [f2] at d2; rw [f3] at d3; rw [f4] at d4
    simp only [DataW.lit.injEq, Lit.bool.injEq, Lit.int.injEq, true_and] at d0 d1 d2 d3 d4
    have k0 := one_at (l := cs) (o := 0) e0
    have k1 := one_at (l := cs) (o := 1) e1
    have k2 := one_at (l := cs) (o := 2) e2
    have k3 := one_at (l := cs) (o := 3) e3
    have k4 := one_at (l := cs) (o := 4) e4
    match cs, hl5 with
    | [y0, y1, y2, y3, y4], _ =>
      simp at k0 k1 k2 k3 k4
      unfold kindV
      rw [k0, k1, k2, k3, k4, d0, d1, d2, d3, d4]
theorem door_met (os : Os) (args : Array Value) : laidMetH Tryz.prog laidQ ((World.doorLaid Tryz.prog 400 os).forCall (fun _ _ => 0) ⟨#[], args, []⟩).memory :=
  laidMetH_of_parts3 (fuel := 8) (laidMet_of_run' 8 (by kernel_rfl) (by kernel_rfl)) (by kernel_rfl) (by kernel_rfl)
theorem glob_at {w : World} {g : Nat} {cs : Array Value} (h : ∃ ty fr, w.heap[g]? = some (.cells cs ty fr)) : cellsAt w g = some cs := by
  obtain ⟨ty, fr, h⟩ := h
  unfold cellsAt
  rw [h]
theorem ifc_at {H : Type} {enc : TypeId × Value → H} {w : World} {base : Nat} {spare : Nat → Bool} {held : Bool} {g : Nat} {cs : Array Value} {fuel : Nat} {nm : String} {d : DataW H} {p : List MemPlace} (h : ∃ ty fr, w.heap[g]? = some (.cells cs ty fr)) (hd : DataW.trod enc Tryz.prog w base spare held fuel 221 cs.toList = some (.iface nm d, p)) : ∃ t p, cellsAt w g = some #[.iface t p] := by
  obtain ⟨u, v, hcs⟩ := trod_ifc Tryz.underlying221 hd
  exact ⟨u, v, (glob_at h).trans (congrArg some (Array.ext' hcs))⟩
theorem max_row : ((begin Tryz.prog (fun _ _ => 0) default).world.heap[4]?).bind Obj.row? = some (#[.int .i64 0], 3) := by kernel_rfl
theorem max_at {W : World} (hs : W.ShapedOpen Tryz.prog) : ∃ z, cellsAt W 4 = some #[.int .i64 z] := by
  obtain ⟨cs, hh, hsz, _⟩ := hs.1 4 _ _ (of_decide_eq_true (by kernel_rfl)) max_row
  obtain ⟨z, hz⟩ := Go.Proofs.cell_of_shapedOpen_int (k := .i64) hs (of_decide_eq_true (by kernel_rfl)) max_row rfl (by kernel_rfl) (by kernel_rfl) (by kernel_rfl)
  have hsz : cs.size = 1 := hsz
  have h1 : 0 < cs.size := by omega
  have hc : W.cell? ⟨4, 0, none⟩ = some cs[0] := by simp [World.cell?, hh, h1]
  rw [hc] at hz
  refine ⟨z, ?_⟩
  unfold cellsAt
  rw [hh]
  show some cs = _
  congr 1
  apply Array.ext
  · exact hsz
  · intro i hi hi'
    obtain rfl : i = 0 := by simp at hi'; omega
    exact Option.some.inj hz
theorem globQ {W : World} (h : laidMetH Tryz.prog laidQ W) (hs : W.ShapedOpen Tryz.prog) : GlobW W := by
  obtain ⟨z, hm⟩ := max_at hs
  rw [MakeChecks.laidMetH_plain _ _ _ (by kernel_rfl)] at h
  obtain ⟨ps, ⟨_, _, _, _, _, _, _, _, _, _, ⟨_, _, _, _, _, _, _, _, _, _, ⟨g1, t1, cs1, f1, p1, q1, hg1, ht1, hv1, hd1, ⟨g5, t5, cs5, f5, p5, q5, hg5, ht5, hv5, hd5, ⟨g6, t6, cs6, f6, p6, q6, hg6, ht6, hv6, hd6, ⟨g0, t0, cs0, f0, p0, q0, hg0, ht0, hv0, hd0, ⟨g2, t2, cs2, f2, p2, q2, hg2, ht2, hv2, hd2, ⟨g3, t3, cs3, f3, p3, q3, hg3, ht3, hv3, hd3, _, _⟩, _⟩, _⟩, _⟩, _⟩, _⟩, _⟩, _⟩, _⟩ := h
  obtain rfl := Option.some.inj (gTexts.symm.trans hg0)
  obtain rfl := Option.some.inj ((gTy 3 412 (by kernel_rfl)).symm.trans ht0)
  obtain rfl := Option.some.inj (gPow10.symm.trans hg1)
  obtain rfl := Option.some.inj ((gTy 1 408 (by kernel_rfl)).symm.trans ht1)
  obtain rfl := Option.some.inj (gModes.symm.trans hg2)
  obtain rfl := Option.some.inj ((gTy 2 411 (by kernel_rfl)).symm.trans ht2)
  obtain rfl := Option.some.inj (gKinds.symm.trans hg3)
  obtain rfl := Option.some.inj ((gTy 0 281 (by kernel_rfl)).symm.trans ht3)
  obtain rfl := Option.some.inj (gErrR.symm.trans hg5)
  obtain rfl := Option.some.inj ((gTy 6 221 (by kernel_rfl)).symm.trans ht5)
  obtain rfl := Option.some.inj (gErrS.symm.trans hg6)
  obtain rfl := Option.some.inj ((gTy 5 221 (by kernel_rfl)).symm.trans ht6)
  have h0 := laid_strs (L := txtsL) Tryz.underlying412 Tryz.underlying9 cStr (by kernel_rfl) rfl hd0
  have h1 := laid_ints (L := pow10L) (k := .u64) Tryz.underlying408 Tryz.underlying42 (by kernel_rfl) (by kernel_rfl) rfl hd1
  have h2 := laid_strs (L := modesL) Tryz.underlying411 Tryz.underlying9 cStr (by kernel_rfl) rfl hd2
  have h3 := laid_arrK (L := kindsL) (K := 5) (dat := kindD) (cells := kindV) Tryz.underlying281 (by kernel_rfl) (by kernel_rfl) rfl kind_one hd3
  have h5 := ifc_at (var_cells gErrR hv5) hd5
  have h6 := ifc_at (var_cells gErrS hv6) hd6
  intro g
  refine ⟨fun c hg => ?_, fun k hk => ?_⟩
  · unfold GM at hg
    split at hg
    · rename_i hb
      obtain rfl := Nat.eq_of_beq_eq_true hb
      cases hg
      rw [← h0]
      exact glob_at (var_cells gTexts hv0)
    · split at hg
      · rename_i hb
        obtain rfl := Nat.eq_of_beq_eq_true hb
        cases hg
        rw [← h1]
        exact glob_at (var_cells gPow10 hv1)
      · split at hg
        · rename_i hb
          obtain rfl := Nat.eq_of_beq_eq_true hb
          cases hg
          rw [← h2]
          exact glob_at (var_cells gModes hv2)
        · split at hg
          · rename_i hb
            obtain rfl := Nat.eq_of_beq_eq_true hb
            cases hg
            rw [← h3]
            exact glob_at (var_cells gKinds hv3)
          · cases hg
  · unfold GK at hk
    split at hk
    · rename_i hb
      obtain rfl := Nat.eq_of_beq_eq_true hb
      cases hk
      exact ⟨_, hm, z, rfl⟩
    · split at hk
      · rename_i hb
        cases hk
        rw [Bool.or_eq_true] at hb
        rcases hb with hb | hb
        · obtain rfl := Nat.eq_of_beq_eq_true hb
          obtain ⟨u, v, hc⟩ := h6
          exact ⟨_, hc, u, v, rfl⟩
        · obtain rfl := Nat.eq_of_beq_eq_true hb
          obtain ⟨u, v, hc⟩ := h5
          exact ⟨_, hc, u, v, rfl⟩
      · cases hk
/-- A law's run from what it answers. -/
theorem runs_of_frz {P : Program} {f : Nat} {fn : Func} {c : Code} (hfit : Fit P) (hfn : P.funcs[f]? = some fn) (hb : fn.body = some c) {ks : List (Bool × List Ck)} (h : ∀ al, ArgsOk ks al → ∃ args, (∀ E vs, Reps E al vs → Reps E args vs) ∧ FrzOk P f args (.lit (.bool true))) : LawRuns P f ks := by
  intro w hg vals al hok hargs
  obtain ⟨args, hA, hF⟩ := h al hok
  rcases hF none (frozenE w hg) w vals (fun v w' => v = .bool true ∧ Quiet w w') (fun _ h => h) (frozenE_ok w hg) (hA _ _ hargs) (fun v w' E' _ _ _ _ hr hq => ⟨by cases hr; rfl, hq⟩) with ⟨u, h1, _⟩ | ⟨_, h2⟩
  · have hname' : ¬ fn.name = "runtime.NumGoroutine" := by simpa using (fit_func hfit hfn hb).2
    have e : Sem.run P (callFunc f vals) w = .ok (.enter f vals) w := by simp [callFunc, hfn, hname', hb]
    rw [e] at h1
    cases h1
  · exact h2
theorem wf_u8 {z : Int} (h : (Lit.int .u8 z).wf = true) : 0 ≤ z ∧ z < 256 := by
  simp only [Lit.wf, Bool.and_eq_true, decide_eq_true_eq] at h
  have h1 : 0 ≤ z := h.1
  have h2 : z ≤ 255 := h.2
  omega
end Go.Proofs.YtamjnhpkmhbkcaaGreatDoor

/-
  PART: laws 8 and 10 from any arguments.
-/
namespace Go.Proofs.YtamjnhpkmhbkcaaGreatDoor
open Go.RowKit
noncomputable section
def ksA : Bool × List Ck := (true, [.int .u8, .int .u8, .int .i64, .int .u64, .int .u64])
theorem arg_A {a : AV} (h : ArgOk ksA a) : ∃ k m l x y : Int, a = acA k m l x y := by
  unfold ksA at h
  obtain ⟨l, rfl, h⟩ := h
  cases h with | cons h0 t => cases t with | cons h1 t => cases t with | cons h2 t => cases t with | cons h3 t => cases t with | cons h4 t => cases t with | nil =>
  cases h0 with | int _ k hk => cases h1 with | int _ m hm => cases h2 with | int _ l hl => cases h3 with | int _ x hx => cases h4 with | int _ y hy => exact ⟨k, m, l, x, y, rfl⟩
def ks8 : List (Bool × List Ck) := [ksA, (false, [.int .u64])]
def ks10 : List (Bool × List Ck) := [ksA, ksA]
theorem argsSh8 : argShs Tryz.prog 6 Tryz.f8.params.toList = some ks8 := by kernel_rfl
theorem argsSh10 : argShs Tryz.prog 6 Tryz.f10.params.toList = some ks10 := by kernel_rfl
theorem law8_runs : LawRuns Tryz.prog 8 ks8 := runs_of_frz fitTry Tryz.func8 (c := codeOf Tryz.f8) (by kernel_rfl) fun al hok => by
  cases hok with | cons h0 t => cases t with | cons h1 t => cases t with | nil =>
  obtain ⟨k, m, l, x, y, rfl⟩ := arg_A h0
  cases h1 with | cons h1 t1 => cases t1 with | nil =>
  cases h1 with
  | int _ z hz => exact ⟨_, fun _ _ h => h, law8_frz k m l x y z⟩
theorem law10_runs : LawRuns Tryz.prog 10 ks10 := runs_of_frz fitTry Tryz.func10 (c := codeOf Tryz.f10) (by kernel_rfl) fun al hok => by
  cases hok with | cons h0 t => cases t with | cons h1 t => cases t with | nil =>
  obtain ⟨k, m, l, x, y, rfl⟩ := arg_A h0
  obtain ⟨k', m', l', x', y', rfl⟩ := arg_A h1
  exact ⟨_, fun _ _ h => h, law10_frz k m l x y k' m' l' x' y'⟩
end
end Go.Proofs.YtamjnhpkmhbkcaaGreatDoor

/-
  PART: RaceAccesses: closed facts of its row, one by one.
-/
namespace Go.Proofs.YtamjnhpkmhbkcaaGreatDoor
open Go
theorem factRc0 : (Rows.raceAccessesRow.wf (OpenSpec.ofChange Rows.raceAccessesSpec)) = true := by kernel_rfl
theorem factRc3 : (Tryz.f10.params.all (Tryz.prog.readableRec ·)) = true := by kernel_rfl
theorem factRc4 : (namedTie Tryz.prog Rows.raceAccessesRow.named Rows.raceAccessesSpec.vars) = true := by kernel_rfl
theorem factRc5 : ((Rows.raceAccessesRow.stops == [])) = true := by kernel_rfl
theorem factRc6 : ((Tryz.prog.stops == [])) = true := by kernel_rfl
theorem factRc7 : ((Rows.raceAccessesRow.knobs == [])) = true := by kernel_rfl
theorem factRc8 : ((Tryz.prog.stopKnobs == [])) = true := by kernel_rfl
theorem factRc13 : ((Rows.raceAccessesRow.maps == (Tryz.f10.params.toList ++ Rows.raceAccessesSpec.plain.varTypes Tryz.prog).any (Tryz.prog.mapsRec ·))) = true := by kernel_rfl
theorem factRc14 : ((Rows.raceAccessesRow.ifaces == (Tryz.f10.params.toList ++ Rows.raceAccessesSpec.plain.varTypes Tryz.prog).any (Tryz.prog.ifacesRec ·))) = true := by kernel_rfl
theorem factRc15 : ((Rows.raceAccessesRow.mapsOut == Tryz.prog.mapsAmong Tryz.f10.resultTypes.toList)) = true := by kernel_rfl
theorem factRc16 : ((Rows.raceAccessesRow.loops == (Tryz.f10.params.toList ++ Rows.raceAccessesSpec.plain.varTypes Tryz.prog).any (Tryz.prog.loopsFrom ·))) = true := by kernel_rfl
theorem factRc17 : ((Rows.raceAccessesRow.wideKeys == (Tryz.f10.params.toList ++ Rows.raceAccessesSpec.plain.varTypes Tryz.prog ++ Tryz.f10.resultTypes.toList).any (Tryz.prog.wideKeysFrom ·))) = true := by kernel_rfl
theorem factRc18 : (Rows.raceAccessesSpec.vars.all (Tryz.prog.varReadable ·)) = true := by kernel_rfl
theorem factRc19 : (Tryz.f10.resultTypes.all (fun t => Tryz.prog.readableRec t && decide (t < Tryz.prog.types.size))) = true := by kernel_rfl
theorem factRc20 : ((Rows.raceAccessesRow.ifacesOut == Tryz.f10.resultTypes.toList.any (Tryz.prog.ifacesRec ·))) = true := by kernel_rfl
theorem factRc21 : ((Rows.raceAccessesRow.loopsOut == Tryz.f10.resultTypes.toList.any (Tryz.prog.loopsFrom ·))) = true := by kernel_rfl
theorem factRc22 : ((Rows.raceAccessesRow.plainKeys == Tryz.prog.plainKeys)) = true := by kernel_rfl
theorem factRc23 : (Rows.raceAccessesRow.shortTexts.isNone) = true := by kernel_rfl
theorem factRc24 : (Tryz.prog.stopsHeard) = true := by kernel_rfl
theorem factRc28 : ((Rows.raceAccessesRow.kinds == (if Rows.raceAccessesRow.domain.isEmpty then [] else Tryz.f10.params.toList.map fun t => match Tryz.prog.underlying t with | some (.int k) => some k | _ => none))) = true := by kernel_rfl
theorem factRc29 : ((Rows.raceAccessesRow.pinned == Rows.raceAccessesRow.pinnedBy)) = true := by kernel_rfl
theorem factRc30 : ((Rows.raceAccessesRow.veiled == (Tryz.f10.params.toList ++ Rows.raceAccessesSpec.plain.varTypes Tryz.prog ++ Tryz.f10.resultTypes.toList).any (Tryz.prog.veiledRec ·))) = true := by kernel_rfl
theorem factRc31 : (Rows.raceAccessesRow.veiledFits Tryz.prog Tryz.f10.params.toList (Tryz.f10.params.toList ++ Rows.raceAccessesSpec.plain.varTypes Tryz.prog ++ Tryz.f10.resultTypes.toList)) = true := by kernel_rfl
end Go.Proofs.YtamjnhpkmhbkcaaGreatDoor
