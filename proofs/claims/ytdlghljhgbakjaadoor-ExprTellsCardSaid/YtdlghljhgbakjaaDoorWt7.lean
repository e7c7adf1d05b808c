/-
  PARTS, one behind the other: EF.
-/
import Derived.Test.YtdlghljhgbakjaaDoorWt6
/-
  PART: numbers of three to twenty digits as they are written.
-/
namespace Go.Proofs.YtdlghljhgbakjaaDoor
open Go.RowKit
def smL : List UInt8 := [48, 48, 48, 49, 48, 50, 48, 51, 48, 52, 48, 53, 48, 54, 48, 55, 48, 56, 48, 57, 49, 48, 49, 49, 49, 50, 49, 51, 49, 52, 49, 53, 49, 54, 49, 55, 49, 56, 49, 57, 50, 48, 50, 49, 50, 50, 50, 51, 50, 52, 50, 53, 50, 54, 50, 55, 50, 56, 50, 57, 51, 48, 51, 49, 51, 50, 51, 51, 51, 52, 51, 53, 51, 54, 51, 55, 51, 56, 51, 57, 52, 48, 52, 49, 52, 50, 52, 51, 52, 52, 52, 53, 52, 54, 52, 55, 52, 56, 52, 57, 53, 48, 53, 49, 53, 50, 53, 51, 53, 52, 53, 53, 53, 54, 53, 55, 53, 56, 53, 57, 54, 48, 54, 49, 54, 50, 54, 51, 54, 52, 54, 53, 54, 54, 54, 55, 54, 56, 54, 57, 55, 48, 55, 49, 55, 50, 55, 51, 55, 52, 55, 53, 55, 54, 55, 55, 55, 56, 55, 57, 56, 48, 56, 49, 56, 50, 56, 51, 56, 52, 56, 53, 56, 54, 56, 55, 56, 56, 56, 57, 57, 48, 57, 49, 57, 50, 57, 51, 57, 52, 57, 53, 57, 54, 57, 55, 57, 56, 57, 57]
def SM : ByteArray := ⟨smL.toArray⟩
abbrev W (x : Int) : Int := IntKind.u32.wrap x
def smI (x : Int) : Int := ((SM.data.getD x.toNat 0).toNat : Nat)
def okI (x : Int) : Prop := 0 ≤ x ∧ x < (SM.size : Int)
def E8 (u : Int) : Int := W (u.tmod 100000000)
def Q8 (u : Int) : Int := IntKind.u64.wrap (u.tdiv 100000000)
def H4 (e : Int) : Int := W (e.tdiv 10000)
def L4 (e : Int) : Int := e.tmod 10000
def H2 (e : Int) : Int := W (e.tdiv 100)
def hi2 (e : Int) : Int := W (H2 e * 2)
def lo2 (e : Int) : Int := W (e.tmod 100 * 2)
def lst (m : Int) : Int := IntKind.u8.wrap (W (48 + m))
def up1 (x : Int) : Int := W (x + 1)
theorem W_in {x : Int} (h : 0 ≤ x) (h2 : x ≤ 4294967295) : W x = x := IntWalk.u32_in _ ⟨h, h2⟩
theorem E8_eq {u : Int} (h : 0 ≤ u) : E8 u = u % 100000000 := by
  unfold E8; rw [Int.tmod_eq_emod_of_nonneg h, W_in (by omega) (by omega)]
theorem Q8_eq {u : Int} (h : 0 ≤ u) (h2 : u ≤ 18446744073709551615) : Q8 u = u / 100000000 := by
  unfold Q8; rw [Int.tdiv_eq_ediv_of_nonneg h, IntWalk.u64_in _ ⟨by omega, by omega⟩]
theorem H4_eq {e : Int} (h : 0 ≤ e) (h2 : e ≤ 4294967295) : H4 e = e / 10000 := by
  unfold H4; rw [Int.tdiv_eq_ediv_of_nonneg h, W_in (by omega) (by omega)]
theorem L4_eq {e : Int} (h : 0 ≤ e) : L4 e = e % 10000 := Int.tmod_eq_emod_of_nonneg h
theorem H2_eq {e : Int} (h : 0 ≤ e) (h2 : e ≤ 4294967295) : H2 e = e / 100 := by
  unfold H2; rw [Int.tdiv_eq_ediv_of_nonneg h, W_in (by omega) (by omega)]
theorem hi2_eq {e : Int} (h : 0 ≤ e) (h2 : e < 10000) : hi2 e = 2 * (e / 100) := by
  unfold hi2; rw [H2_eq h (by omega), W_in (by omega) (by omega)]; omega
theorem lo2_eq {e : Int} (h : 0 ≤ e) : lo2 e = 2 * (e % 100) := by
  unfold lo2; rw [Int.tmod_eq_emod_of_nonneg h, W_in (by omega) (by omega)]; omega
theorem lst_eq {m : Int} (h : 0 ≤ m) (h2 : m < 10) : UInt8.ofNat (lst m).toNat = dch m.toNat := by
  unfold lst; rw [W_in (by omega) (by omega), IntWalk.u8_in _ ⟨by omega, by omega⟩]
  unfold dch
  congr 1
  omega
theorem pair_fin : ∀ v : Fin 100, okI (2 * (v.val : Int)) ∧ okI (up1 (2 * (v.val : Int))) ∧ UInt8.ofNat (smI (2 * (v.val : Int))).toNat = dch (v.val / 10) ∧ UInt8.ofNat (smI (up1 (2 * (v.val : Int)))).toNat = dch (v.val % 10) := by
  unfold okI; decide +kernel
theorem pair_ok {x : Int} (v : Int) (h0 : 0 ≤ v) (h1 : v < 100) (hx : x = 2 * v) : okI x ∧ okI (up1 x) ∧ UInt8.ofNat (smI x).toNat = dch (v / 10).toNat ∧ UInt8.ofNat (smI (up1 x)).toNat = dch (v % 10).toNat := by
  have := pair_fin ⟨v.toNat, by omega⟩
  have e : ((v.toNat : Nat) : Int) = v := by omega
  simp only [e] at this
  rw [hx]
  refine ⟨this.1, this.2.1, this.2.2.1.trans ?_, this.2.2.2.trans ?_⟩
  · congr 1; omega
  · congr 1; omega
theorem dch_eq {a b : Nat} (h : a = b) : dch a = dch b := by rw [h]
end Go.Proofs.YtdlghljhgbakjaaDoor
