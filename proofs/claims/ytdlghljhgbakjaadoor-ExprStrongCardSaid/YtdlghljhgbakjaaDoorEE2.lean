/-
  PART: law 3 (ExprStrong): the law's run.
-/
import Derived.Test.YtdlghljhgbakjaaDoorEE1
import Derived.IntWalk
namespace Go.Proofs.YtdlghljhgbakjaaDoor
open Go.RowKit
/-- A byte with its highest bit. -/
def hiX (x : Int) : Int := IntKind.u8.wrap (((BitVec.ofInt IntKind.u8.bits x ||| BitVec.ofInt IntKind.u8.bits 128).toNat : Nat) : Int)
def lowB (z : Int) : Bool := if decide (z ≥ 97) = true then (if decide (z ≤ 122) = true then z != 114 else false) else false
def sidesE (op : Int) : Int := if (if decide (op < 1) = true then true else decide (op > 14)) = true then 0 else if decide (op ≥ 13) = true then 1 else 2
def strengthE (op : Int) : Int := if (sidesE op == 0) = true then 0 else if (sidesE op == 1) = true then 4 else if decide (op ≤ 4) = true then 1 else if decide (op ≤ 8) = true then 2 else 3
def wantE (op : Int) : Int := if (if decide (op ≥ 1) = true then decide (op ≤ 4) else false) = true then 1 else if (if decide (op ≥ 5) = true then decide (op ≤ 8) else false) = true then 2 else
  if (if decide (op ≥ 9) = true then decide (op ≤ 12) else false) = true then 3 else if (if (op == 13) = true then true else op == 14) = true then 4 else 0
def tree4 (op x : Int) : Tree AV := .side (lowB (hiX x) = false → (!((if (!lowB (hiX x)) = true then (⟨#[]⟩ : ByteArray) else Utf8.encode (IntKind.i32.wrap (hiX x))).toList == (⟨#[]⟩ : ByteArray).toList)) = false)
  (.ret (.v (.bool (if lowB (hiX x) = true then false else strengthE op == wantE op))))
theorem eval4 (op n x : Int) : ((evs (cxE (decL [(93, false)])) 60).call 4 [.v (.int .u8 op), .v (.int .u64 n), .v (.int .u8 x)] .nil).ans = tree4 op x := by kernel_rfl
theorem hiX_ge (x : Int) : 128 ≤ hiX x := by
  unfold hiX
  have h1 : 128 ≤ (BitVec.ofInt IntKind.u8.bits x ||| BitVec.ofInt IntKind.u8.bits 128).toNat := by
    rw [BitVec.toNat_or]
    exact Nat.right_le_or
  have h2 : (BitVec.ofInt IntKind.u8.bits x ||| BitVec.ofInt IntKind.u8.bits 128).toNat < 2 ^ IntKind.u8.bits := BitVec.isLt _
  have h5 : (BitVec.ofInt IntKind.u8.bits x ||| BitVec.ofInt IntKind.u8.bits 128).toNat < 256 := h2
  have h4 : IntKind.u8.wrap (((BitVec.ofInt IntKind.u8.bits x ||| BitVec.ofInt IntKind.u8.bits 128).toNat : Nat) : Int) = ((BitVec.ofInt IntKind.u8.bits x ||| BitVec.ofInt IntKind.u8.bits 128).toNat : Nat) := IntWalk.u8_in _ (by omega)
  rw [h4]; omega
theorem lowB_hi (x : Int) : lowB (hiX x) = false := by
  have := hiX_ge x
  unfold lowB
  rw [if_pos (by simp; omega), if_neg (by simp; omega)]
theorem strong_eq (op : Int) : (strengthE op == wantE op) = true := by
  rw [beq_iff_eq]
  unfold strengthE wantE sidesE
  by_cases h1 : op < 1
  · have a1 : ¬ op ≥ 1 := by omega
    have a2 : ¬ op ≥ 5 := by omega
    have a3 : ¬ op ≥ 9 := by omega
    have a4 : ¬ op = 13 := by omega
    have a5 : ¬ op = 14 := by omega
    simp [h1, a1, a2, a3, a4, a5]
  · by_cases h2 : op > 14
    · have a1 : op ≥ 1 := by omega
      have a2 : op ≥ 5 := by omega
      have a3 : op ≥ 9 := by omega
      have b1 : ¬ op ≤ 4 := by omega
      have b2 : ¬ op ≤ 8 := by omega
      have b3 : ¬ op ≤ 12 := by omega
      have a4 : ¬ op = 13 := by omega
      have a5 : ¬ op = 14 := by omega
      simp [h2, a1, a2, a3, b1, b2, b3, a4, a5]
    · have : op = 1 ∨ op = 2 ∨ op = 3 ∨ op = 4 ∨ op = 5 ∨ op = 6 ∨ op = 7 ∨ op = 8 ∨ op = 9 ∨ op = 10 ∨ op = 11 ∨ op = 12 ∨ op = 13 ∨ op = 14 := by omega
      rcases this with rfl | rfl | rfl | rfl | rfl | rfl | rfl | rfl | rfl | rfl | rfl | rfl | rfl | rfl <;> decide
theorem law4_pure (op n x : Int) : ∃ b, PureOk Tryd.prog 4 [.v (.int .u8 op), .v (.int .u64 n), .v (.int .u8 x)] b ∧ IsTrue b := by
  refine ⟨_, pure_hitX (cx := cxE _) (cxE_ok _) rfl (eval4 op n x) ⟨fun _ => ?_, rfl⟩ (by kernel_rfl), isTrue_v ?_⟩
  · rw [lowB_hi]; simp
  · rw [lowB_hi, strong_eq]; rfl
theorem args4 : argShs Tryd.prog 6 Tryd.f4.params.toList = some [(false, [.int .u8]), (false, [.int .u64]), (false, [.int .u8])] := by kernel_rfl
theorem law4_runs : LawRuns Tryd.prog 4 [(false, [.int .u8]), (false, [.int .u64]), (false, [.int .u8])] :=
  lawRuns_of_pure Tryd.func4 (c := codeOf Tryd.f4) (by kernel_rfl) fun al hok => by
    cases hok with | cons h1 t => cases t with | cons h2 t => cases t with | cons h3 t => cases t with | nil =>
    cases h1 with | cons h1 t => cases t with | nil =>
    cases h2 with | cons h2 t => cases t with | nil =>
    cases h3 with | cons h3 t => cases t with | nil =>
    cases h1; cases h2; cases h3
    rename_i op _ n _ x _
    obtain ⟨b, h5, h6⟩ := law4_pure op n x
    exact ⟨_, b, fun E vs h => h, h5, h6⟩
end Go.Proofs.YtdlghljhgbakjaaDoor
