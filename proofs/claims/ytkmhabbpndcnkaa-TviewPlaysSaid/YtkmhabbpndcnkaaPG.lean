/-
  PART: law 13 (TviewPlays): the law's run, from any acts.
-/
import Derived.Test.YtkmhabbpndcnkaaPF
namespace Go.Proofs.Ytkmhabbpndcnkaa
open Go.RowKit
section
variable (n : Nat) (d md lo to : Nat → Int) (M : Nat → Nat → Int)
def start6 : St :=
  { sl := [(0, .sl n 12 (acts d md lo to M) false false), (3, .ptr 0 0), (4, .ptr 1 0), (5, .ptr 2 0), (6, .ptr 3 0)],
    hp := [(0, some (.fix 37 (ivs 48 (fun _ => 0)))), (1, some (.fix 51 (ivs 48 (fun _ => 0)))), (2, some (.fix 22 (ivs 4 (fun _ => 0)))), (3, some (.fix 22 (ivs 4 (fun _ => 0))))], nx := 4, rd := [], wr := [], ws := [], wb := [] }
def ds6a : List (Nat × Bool) := [(0, false), (3, false), (4, false), (5, false), (6, false)]
theorem pre6 : (codeE cx0 (evs cx0 60) (joins (firsts 5 c6)) (entry [.sl n 12 (acts d md lo to M) false false])).map (lfOf 0 ds6a true 2) =
    .br (decide ((n : Int) > 100)) (.ret (.out (.lit (.bool true)))) (.ret (.go .norm (some (start6 n d md lo to M)))) := by kernel_rfl
theorem init6 : (codeE (cxU decU) (evs (cxU decU) 60) (cl (cl (behind 5 c6))) (start6 n d md lo to M)).map (lfOf 0 ds6 true 2) =
    .ret (.go .norm (some (inv6 n d md lo to M (fun _ => 0) (fun _ => 0) 0))) := by kernel_rfl
def xo (x : Int) : Int := IntKind.i64.wrap (((BitVec.ofInt IntKind.i64.bits x ^^^ BitVec.ofInt IntKind.i64.bits 5).toNat : Nat) : Int)
theorem tail6 (f s : Nat → Int) (i : Nat) : (codeE cx0 (evs cx0 60) (cr (behind 5 c6)) (inv6 n d md lo to M f s i)).map (lfOf 0 [] true 2) =
    .ret (.out (.v (.bool (if (xo (f 5) == xo (f 5)) = true then (if (xo (f 10) == xo (f 10)) = true then xo (f 44) == xo (f 44) else false) else false)))) := by kernel_rfl
structure K6 where
  f : Nat → Int
  s : Nat → Int
  i : Nat
structure J6 (k : K6) : Prop where
  pos : ∀ j, j < 48 → 0 ≤ k.f j
  le : k.i ≤ n
def Inv6 (k : K6) : St := inv6 n d md lo to M k.f k.s k.i
theorem nF_le (f s : Nat → Int) (d md l t : Int) (m : Nat → Int) (j : Nat) (hj : j < 48) : f j ≤ nF f s d md l t m j := by
  unfold nF
  split
  · exact fence_le j hj
  · split
    · exact write_le j hj
    · exact read_le j hj
theorem round6_ok (hn : n ≤ 100) (k : K6) (hk : J6 n k) : ((codeE (cxU decU) (evs (cxU decU) 60) body6 (Inv6 n d md lo to M k)).map (lfOf 0 ds6 true 2)).wp
    (LfQ (RoundQ (Inv6 n d md lo to M) (J6 n) (fun k => n - k.i) 0 k fun s => ∃ k, s = Inv6 n d md lo to M k) IsTrue) := by
  unfold Inv6
  rw [round6]
  obtain ⟨f, s, i⟩ := k
  obtain ⟨hf, hle⟩ := hk
  dsimp only at hf hle ⊢
  have hL : ∀ j, j < 48 → 0 ≤ LL 48 f j := fun j hj => by rw [LL_eq f hj]; exact hf j hj
  refine ⟨fun h => ⟨⟨by omega, by simpa using h⟩, fun _ => ⟨fun _ => ⟨hL, by simp [eqv, eq4]⟩, fun _ => hL⟩, ?_, ?_⟩, fun h => ?_⟩
  · unfold sideB
    rw [eqvs_self, eq4_self]
    simp
  · have hi : i < n := by simpa using h
    refine ⟨⟨nF f s (d i) (md i) (lo i) (to i) (M i), nS f s (d i) (md i), i + 1⟩, ?_, ⟨fun j hj => ?_, hi⟩, by dsimp only; omega⟩
    · rw [wrap_small (by omega)]
    · have := hf j hj
      have := nF_le f s (d i) (md i) (lo i) (to i) (M i) j hj
      dsimp only
      omega
  · exact ⟨rfl, ⟨f, s, i⟩, rfl⟩
theorem args6 : argShs Try.prog 6 Try.f6.params.toList = some [(false, [.row ks12])] := by kernel_rfl
set_option maxRecDepth 100000 in
theorem law6_runs : LawRuns Try.prog 6 [(false, [.row ks12])] := by
  intro w vals al hok hargs
  obtain ⟨n, d, md, lo, to, M, hA⟩ := arg_acts hok
  have hR := hA _ _ hargs
  refine (calls_of_wpc (P := Try.prog) (E := frozenE w) (hd := fun _ h => h) (hf := frozenE_ok w) (args := [.sl n 12 (acts d md lo to M) false false]) (R := fun x s => x = .ret ∧ IsTrue (look s.sl 2)) (V := fun v => v = .bool true) Try.func6 (c := c6) (by kernel_rfl) hR (Nat.le_of_ble_eq_true (by kernel_rfl)) ?_ ?_).mono fun e w' h => h
  · have e : c6 = seqs (firsts 5 c6) (behind 5 c6) := by kernel_rfl
    rw [e]
    refine wpc_stage (cx := cx0) (n := 60) (ds := ds6a) (gb := true) (r := 2) (O := IsTrue) cx0_ok fitTry (by simp [firsts]) (by kernel_rfl) ?_ fun s h => ⟨rfl, h⟩
    show ((codeE cx0 (evs cx0 60) (joins (firsts 5 c6)) (entry [.sl n 12 (acts d md lo to M) false false])).map (lfOf 0 ds6a true 2)).wp _
    rw [pre6]
    refine ⟨fun _ => isTrue_lit, fun hn => ?_⟩
    have hn : n ≤ 100 := by have := of_decide_eq_false hn; omega
    have e2 : behind 5 c6 = .seq (.seq (cl (cl (behind 5 c6))) (.block 0 (.loop body6))) (cr (behind 5 c6)) := by kernel_rfl
    show WpC _ _ (behind 5 c6) _ _
    rw [e2]
    refine wpc_iloop (cx := cxU decU) (n := 60) (Inv := Inv6 n d md lo to M) (J := J6 n) (m := fun k => n - k.i) (Out := fun s => ∃ k, s = Inv6 n d md lo to M k) (ds := ds6) (gb := true) (r := 2) (O := IsTrue) (cxU_ok decU) fitTry (by kernel_rfl) (fun k hk => round6_ok n d md lo to M hn k hk) (fun s h => ⟨rfl, h⟩) (by kernel_rfl) ?_ fun s ⟨k, hs⟩ => ?_
    · show ((codeE (cxU decU) (evs (cxU decU) 60) (cl (cl (behind 5 c6))) (start6 n d md lo to M)).map (lfOf 0 ds6 true 2)).wp _
      rw [init6]
      exact ⟨rfl, ⟨fun _ => 0, fun _ => 0, 0⟩, rfl, ⟨fun _ _ => Int.le_refl _, Nat.zero_le _⟩⟩
    · subst hs
      refine wpc_of_lf (cx := cx0) (n := 60) (ds := []) (gb := true) (r := 2) (O := IsTrue) cx0_ok fitTry (by kernel_rfl) ?_ fun s h => ⟨rfl, h⟩
      show ((codeE cx0 (evs cx0 60) (cr (behind 5 c6)) (inv6 n d md lo to M k.f k.s k.i)).map (lfOf 0 [] true 2)).wp _
      rw [tail6]
      exact isTrue_v (by simp)
  · rintro x s ⟨rfl, h⟩
    exact ⟨.inr rfl, h⟩
end
end Go.Proofs.Ytkmhabbpndcnkaa
