/-
  PART: law 3: what the package-level variables hold, by the condition.
-/
import Derived.Test.YtdlghljhgbakjaaDoorEE2
import Derived.Test.YtdlghljhgbakjaaDoorRows
namespace Go.Proofs.YtdlghljhgbakjaaDoor
open Go.ChangeShapes Go.WideShapes Go.ChangeAt Go.WideMaps Go.WideElems Go.RowKit
theorem own : ownKnob Tryd.prog.godebug = none := by kernel_rfl
theorem gTexts : Tryd.prog.globalNamed "troth/num.texts" = some 1 := by kernel_rfl
theorem tTexts : (Tryd.prog.globals[1]?).map (·.type) = some 152 := by kernel_rfl
theorem cStr : Tryd.prog.cellsOf 9 = 1 := by kernel_rfl
def laidE : List (String × DataW Unit) := [("math/bits.deBruijn32tab", Rows.laid_math_bits_deBruijn32tab), ("math/bits.deBruijn64tab", Rows.laid_math_bits_deBruijn64tab), ("internal/strconv.uint64pow10", Rows.laid_internal_strconv_uint64pow10), ("troth/num.texts", Rows.laid_troth_num_texts)]
theorem texts_data : (Rows.laid_troth_num_texts : DataW Unit) = .agg (txtsL.map fun l => .lit (.string l)) := rfl
theorem cell_string (s : ByteArray) (l : List UInt8) (h : s.data.toList = l) : Value.string s = bytesV l := by
  subst h; rfl
theorem door_met (os : Os) (args : Array Value) : laidMetH Tryd.prog laidE ((World.doorLaid Tryd.prog 400 os).forCall (fun _ _ => 0) ⟨#[], args, []⟩).memory :=
  laidMetH_of_parts3 (fuel := 8) (laidMet_of_run' 8 (by kernel_rfl) (by kernel_rfl)) (by kernel_rfl) (by kernel_rfl)
theorem globE {W : World} (h : laidMetH Tryd.prog laidE W) : GlobW W := by
  rw [MakeChecks.laidMetH_plain _ _ _ (by kernel_rfl)] at h
  obtain ⟨ps, ⟨_, _, _, _, _, _, _, _, _, _, ⟨_, _, _, _, _, _, _, _, _, _, ⟨_, _, _, _, _, _, _, _, _, _, ⟨g0, t0, cs0, f0, p0, q0, hg0, ht0, hv0, hd0, _, _⟩, _⟩, _⟩, _⟩, _⟩ := h
  obtain rfl := Option.some.inj (gTexts.symm.trans hg0)
  obtain rfl := Option.some.inj (tTexts.symm.trans ht0)
  obtain ⟨xs, m1, rfl, hx1, hl, hlen, hel⟩ := DataW.trod_array Tryd.underlying152 hd0
  simp only [Prod.mk.injEq, texts_data, DataW.agg.injEq] at hx1
  have hxl : xs.length = 15 := by
    have := congrArg List.length hx1.1
    simpa [txtsL] using this.symm
  have hcs : cs0 = (txtsL.map bytesV).toArray := by
    apply Array.ext'
    rw [List.toList_toArray]
    have hsz : cs0.toList.length = 15 := by rw [hl]; kernel_rfl
    apply List.ext_getElem
    · rw [hsz]; rfl
    · intro i h1 h2
      have hi : i < 15 := by omega
      have h0 := hel i (by omega)
      rw [cStr] at h0
      rw [List.getElem?_eq_getElem (show i < xs.length by omega)] at h0
      obtain ⟨s, e1, e2, _⟩ := DataW.trod_string Tryd.underlying9 h0
      have e3 : (xs.map (·.1))[i]? = some (.lit (.string s.data.toList)) := by
        rw [List.getElem?_map, List.getElem?_eq_getElem (by omega), e2]; rfl
      have hi2 : i < txtsL.length := hi
      rw [← hx1.1, List.getElem?_map, List.getElem?_eq_getElem hi2] at e3
      simp only [Option.map_some, Option.some.injEq, DataW.lit.injEq, Lit.string.injEq] at e3
      have h5 : cs0.toList[i]? = some (.string s) := by
        have : (cs0.toList.drop (i * 1)).take 1 = [.string s] := e1
        rw [Nat.mul_one] at this
        have := congrArg (fun l => l[0]?) this
        simpa [List.getElem?_take, List.getElem?_drop] using this
      rw [List.getElem?_eq_getElem h1] at h5
      rw [Option.some.inj h5, cell_string s _ e3.symm, List.getElem_map]
  intro g c hg
  unfold GM at hg
  split at hg
  · rename_i hb
    obtain rfl := Nat.eq_of_beq_eq_true hb
    cases hg
    unfold World.var? at hv0
    rw [gTexts] at hv0
    simp only [Option.bind_some] at hv0
    split at hv0
    · rename_i cs ty fr hq
      cases hv0
      exact ⟨ty, fr, by rw [hq, hcs]⟩
    · cases hv0
  · cases hg
end Go.Proofs.YtdlghljhgbakjaaDoor
