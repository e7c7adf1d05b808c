/-
  PARTS, one behind the other: P3.
-/
import Derived.Test.YtdlghljhgbakjaaDoorWp8
import Derived.Test.YtdlghljhgbakjaaDoorRows
/-
  PART: what package-level variables hold, by the condition: tables of strings, of numbers; the law ProgModes from any arguments.
-/
namespace Go.Proofs.YtdlghljhgbakjaaDoor
open Go.ChangeShapes Go.WideShapes Go.ChangeAt Go.WideMaps Go.WideElems Go.RowKit
theorem own : ownKnob Tryd.prog.godebug = none := by kernel_rfl
theorem gTexts : Tryd.prog.globalNamed "troth/num.texts" = some 1 := by kernel_rfl
theorem tTexts : (Tryd.prog.globals[1]?).map (·.type) = some 152 := by kernel_rfl
theorem gPow10 : Tryd.prog.globalNamed "internal/strconv.uint64pow10" = some 4 := by kernel_rfl
theorem gModes : Tryd.prog.globalNamed "troth/prog.modes" = some 0 := by kernel_rfl
theorem tModes : (Tryd.prog.globals[0]?).map (·.type) = some 110 := by kernel_rfl
theorem cStr : Tryd.prog.cellsOf 9 = 1 := by kernel_rfl
def laidP : List (String × DataW Unit) := [("math/bits.deBruijn32tab", Rows.laid_math_bits_deBruijn32tab), ("math/bits.deBruijn64tab", Rows.laid_math_bits_deBruijn64tab), ("internal/strconv.uint64pow10", Rows.laid_internal_strconv_uint64pow10), ("troth/num.texts", Rows.laid_troth_num_texts), ("troth/prog.modes", Rows.laid_troth_prog_modes)]
theorem cell_string (s : ByteArray) (l : List UInt8) (h : s.data.toList = l) : Value.string s = bytesV l := by
  subst h; rfl
section
variable {H : Type} {enc : TypeId × Value → H} {P : Program} {w : World} {base : Nat} {spare : Nat → Bool} {held : Bool}
/-- An array whose parts are of one cell. -/
theorem laid_arr {t e n : Nat} {α : Type} {L : List α} {dat : α → DataW H} {cell : α → Value} (ht : P.underlying t = some (.array n e)) (hc : P.cellsOf e = 1) (ht' : P.cellsOf t = n) (hn : L.length = n)
    (hone : ∀ m (cs : List Value) d q a, DataW.trod enc P w base spare held m e cs = some (d, q) → d = dat a → cs = [cell a])
    {fuel : Nat} {cs : Array Value} {p : List MemPlace} (hd : DataW.trod enc P w base spare held fuel t cs.toList = some (.agg (L.map dat), p)) : cs = (L.map cell).toArray := by
  obtain ⟨xs, m1, rfl, hx1, hl, hlen, hel⟩ := DataW.trod_array ht hd
  simp only [Prod.mk.injEq, DataW.agg.injEq] at hx1
  apply Array.ext'
  rw [List.toList_toArray]
  have hsz : cs.toList.length = n := by rw [hl, ht']
  apply List.ext_getElem
  · rw [hsz, List.length_map, hn]
  · intro i h1 h2
    have hi : i < n := by omega
    have h0 := hel i hi
    rw [hc] at h0
    rw [List.getElem?_eq_getElem (show i < xs.length by omega)] at h0
    have hL : i < L.length := by omega
    have e3 : (xs.map (·.1))[i]? = some (dat L[i]) := by
      rw [← hx1.1, List.getElem?_map, List.getElem?_eq_getElem hL]; rfl
    rw [List.getElem?_map, List.getElem?_eq_getElem (show i < xs.length by omega)] at e3
    have e4 := hone _ _ _ _ L[i] h0 (Option.some.inj e3)
    have h5 : cs.toList[i]? = some (cell L[i]) := by
      rw [Nat.mul_one] at e4
      have := congrArg (fun l => l[0]?) e4
      simpa [List.getElem?_take, List.getElem?_drop] using this
    rw [List.getElem?_eq_getElem h1] at h5
    rw [Option.some.inj h5, List.getElem_map]
theorem laid_strs {t e n : Nat} {L : List (List UInt8)} (ht : P.underlying t = some (.array n e)) (he : P.underlying e = some .string) (hc : P.cellsOf e = 1) (ht' : P.cellsOf t = n) (hn : L.length = n)
    {fuel : Nat} {cs : Array Value} {p : List MemPlace} (hd : DataW.trod enc P w base spare held fuel t cs.toList = some (.agg (L.map fun l => .lit (.string l)), p)) : cs = (L.map bytesV).toArray :=
  laid_arr ht hc ht' hn (fun m cs d q a h1 h2 => by
    obtain ⟨s, e1, e2, _⟩ := DataW.trod_string he h1
    simp only [Prod.mk.injEq] at e2
    rw [e2.1] at h2
    simp only [DataW.lit.injEq, Lit.string.injEq] at h2
    rw [e1, cell_string s _ h2]) hd
theorem laid_ints {t e n : Nat} {k : IntKind} {L : List Int} (ht : P.underlying t = some (.array n e)) (he : P.underlying e = some (.int k)) (hc : P.cellsOf e = 1) (ht' : P.cellsOf t = n) (hn : L.length = n)
    {fuel : Nat} {cs : Array Value} {p : List MemPlace} (hd : DataW.trod enc P w base spare held fuel t cs.toList = some (.agg (L.map fun l => .lit (.int k l)), p)) : cs = (L.map (Value.int k)).toArray :=
  laid_arr ht hc ht' hn (fun m cs d q a h1 h2 => by
    obtain ⟨s, e1, e2, _⟩ := DataW.trod_int he h1
    simp only [Prod.mk.injEq] at e2
    rw [e2.1] at h2
    simp only [DataW.lit.injEq, Lit.int.injEq, true_and] at h2
    rw [e1, h2]) hd
theorem var_cells {name : String} {g : Nat} {cs : Array Value} (hg : P.globalNamed name = some g) (hv : w.var? P name = some cs) : ∃ ty fr, w.heap[g]? = some (.cells cs ty fr) := by
  unfold World.var? at hv
  rw [hg] at hv
  simp only [Option.bind_some] at hv
  split at hv
  · rename_i cs ty fr hq
    cases hv
    exact ⟨ty, fr, hq⟩
  · cases hv
end
theorem door_met (os : Os) (args : Array Value) : laidMetH Tryd.prog laidP ((World.doorLaid Tryd.prog 400 os).forCall (fun _ _ => 0) ⟨#[], args, []⟩).memory :=
  laidMetH_of_parts3 (fuel := 8) (laidMet_of_run' 8 (by kernel_rfl) (by kernel_rfl)) (by kernel_rfl) (by kernel_rfl)
theorem glob_at {w : World} {g : Nat} {cs : Array Value} (h : ∃ ty fr, w.heap[g]? = some (.cells cs ty fr)) : cellsAt w g = some cs := by
  obtain ⟨ty, fr, h⟩ := h
  unfold cellsAt
  rw [h]
theorem globP {W : World} (h : laidMetH Tryd.prog laidP W) : GlobW W := by
  rw [MakeChecks.laidMetH_plain _ _ _ (by kernel_rfl)] at h
  obtain ⟨ps, ⟨_, _, _, _, _, _, _, _, _, _, ⟨_, _, _, _, _, _, _, _, _, _, ⟨g1, t1, cs1, f1, p1, q1, hg1, ht1, hv1, hd1, ⟨g0, t0, cs0, f0, p0, q0, hg0, ht0, hv0, hd0, ⟨g2, t2, cs2, f2, p2, q2, hg2, ht2, hv2, hd2, _, _⟩, _⟩, _⟩, _⟩, _⟩, _⟩ := h
  obtain rfl := Option.some.inj (gTexts.symm.trans hg0)
  obtain rfl := Option.some.inj (tTexts.symm.trans ht0)
  obtain rfl := Option.some.inj (gPow10.symm.trans hg1)
  obtain rfl := Option.some.inj ((show (Tryd.prog.globals[4]?).map (·.type) = some 179 by kernel_rfl).symm.trans ht1)
  obtain rfl := Option.some.inj (gModes.symm.trans hg2)
  obtain rfl := Option.some.inj (tModes.symm.trans ht2)
  have h0 := laid_strs (L := txtsL) Tryd.underlying152 Tryd.underlying9 cStr (by kernel_rfl) rfl hd0
  have h1 := laid_ints (L := pow10L) (k := .u64) Tryd.underlying179 Tryd.underlying30 (by kernel_rfl) (by kernel_rfl) rfl hd1
  have h2 := laid_strs (L := modesL) Tryd.underlying110 Tryd.underlying9 cStr (by kernel_rfl) rfl hd2
  intro g
  refine ⟨fun c hg => ?_, fun k hk => (by cases hk)⟩
  unfold GM at hg
  split at hg
  · rename_i hb
    obtain rfl := Nat.eq_of_beq_eq_true hb
    cases hg
    rw [← h0]
    exact glob_at (var_cells gTexts hv0)
  · split at hg
    · rename_i hb
      obtain rfl := Nat.eq_of_beq_eq_true hb
      cases hg
      rw [← h1]
      exact glob_at (var_cells gPow10 hv1)
    · split at hg
      · rename_i hb
        obtain rfl := Nat.eq_of_beq_eq_true hb
        cases hg
        rw [← h2]
        exact glob_at (var_cells gModes hv2)
      · cases hg
/-- A law's run from what it answers. -/
theorem runs_of_frz {P : Program} {f : Nat} {fn : Func} {c : Code} (hfit : Fit P) (hfn : P.funcs[f]? = some fn) (hb : fn.body = some c) {ks : List (Bool × List Ck)} (h : ∀ al, ArgsOk ks al → ∃ args, (∀ E vs, Reps E al vs → Reps E args vs) ∧ FrzOk P f args (.lit (.bool true))) : LawRuns P f ks := by
  intro w hg vals al hok hargs
  obtain ⟨args, hA, hF⟩ := h al hok
  rcases hF none (frozenE w hg) w vals (fun v w' => v = .bool true ∧ Quiet w w') (fun _ h => h) (frozenE_ok w hg) (hA _ _ hargs) (fun v w' E' _ _ _ _ hr hq => ⟨by cases hr; rfl, hq⟩) with ⟨u, h1, _⟩ | ⟨_, h2⟩
  · have hname' : ¬ fn.name = "runtime.NumGoroutine" := by simpa using (fit_func hfit hfn hb).2
    have e : Sem.run P (callFunc f vals) w = .ok (.enter f vals) w := by simp [callFunc, hfn, hname', hb]
    rw [e] at h1
    cases h1
  · exact h2
theorem wf_u8 {z : Int} (h : (Lit.int .u8 z).wf = true) : 0 ≤ z ∧ z < 256 := by
  simp only [Lit.wf, Bool.and_eq_true, decide_eq_true_eq] at h
  have h1 : 0 ≤ z := h.1
  have h2 : z ≤ 255 := h.2
  omega
noncomputable section
def ks9 : List (Bool × List Ck) := [(false, [.int .u8]), (false, [.int .u8]), (false, [.int .u8])]
theorem args_9 {al : List AV} (h : ArgsOk ks9 al) : ∃ (m k z : Int), (0 ≤ m ∧ m < 256) ∧ (0 ≤ z ∧ z < 256) ∧ al = [.v (.int .u8 m), .v (.int .u8 k), .v (.int .u8 z)] := by
  unfold ks9 at h
  cases h with | cons h0 t => cases t with | cons h1 t => cases t with | cons h2 t => cases t with | nil =>
  cases h0 with | cons h0 t0 => cases t0 with | nil =>
  cases h1 with | cons h1 t1 => cases t1 with | nil =>
  cases h2 with | cons h2 t2 => cases t2 with | nil =>
  cases h0 with
  | int _ m hm =>
    cases h1 with
    | int _ k hk =>
      cases h2 with
      | int _ z hz => exact ⟨m, k, z, wf_u8 hm, wf_u8 hz, rfl⟩
theorem argsSh9 : argShs Tryd.prog 6 Tryd.f9.params.toList = some ks9 := by kernel_rfl
theorem law9_runs : LawRuns Tryd.prog 9 ks9 := runs_of_frz fitTry Tryd.func9 (c := c9) (by kernel_rfl) fun al hok => by
  obtain ⟨m, k, z, hm, hz, rfl⟩ := args_9 hok
  exact ⟨_, fun _ _ h => h, law9_frz hm hz⟩
end
end Go.Proofs.YtdlghljhgbakjaaDoor
