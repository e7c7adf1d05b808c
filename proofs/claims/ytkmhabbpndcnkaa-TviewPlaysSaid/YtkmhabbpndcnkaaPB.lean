/-
  PART: law 13 (TviewGrows): the law's run, from any acts.
-/
import Derived.Test.YtkmhabbpndcnkaaPA
namespace Go.Proofs.Ytkmhabbpndcnkaa
open Go.RowKit
theorem Rep.sl_congr {E : Env} {n k : Nat} {get get' : Nat → List AV} {nl full : Bool} {v : Value} (h : ∀ i, i < n → get i = get' i) (hv : Rep E (.sl n k get nl full) v) : Rep E (.sl n k get' nl full) v := by
  cases hv with
  | slNil hn => exact .slNil hn
  | slEmp hn hf => exact .slEmp hn hf
  | sl q1 q2 q3 q4 q5 q6 => exact .sl q1 q2 q3 q4 (fun i hi => h i hi ▸ q5 i hi) q6
def zAt (l : List AV) (j : Nat) : Int := match l[j]? with
  | some (.v (.int _ z)) => z
  | _ => 0
def ks12 : List Ck := [.int .u8, .int .u8, .int .i64, .int .i64, .int .i64, .int .i64, .int .i64, .int .i64, .int .i64, .int .i64, .int .i64, .int .i64]
theorem acts_of {l : List AV} (h : Shps ks12 l) : l = [.v (.int .u8 (zAt l 0)), .v (.int .u8 (zAt l 1)), iv (zAt l 2), iv (zAt l 3)] ++ ivs 8 (fun j => zAt l (4 + j)) := by
  unfold ks12 at h
  cases h with | cons h0 t => cases t with | cons h1 t => cases t with | cons h2 t => cases t with | cons h3 t => cases t with | cons h4 t => cases t with | cons h5 t => cases t with | cons h6 t => cases t with | cons h7 t =>
  cases t with | cons h8 t => cases t with | cons h9 t => cases t with | cons h10 t => cases t with | cons h11 t => cases t with | nil =>
  cases h0; cases h1; cases h2; cases h3; cases h4; cases h5; cases h6; cases h7; cases h8; cases h9; cases h10; cases h11
  rfl
/-- An argument that is a row of acts. -/
theorem arg_acts {al : List AV} (h : ArgsOk [(false, [.row ks12])] al) : ∃ (n : Nat) (d md lo to : Nat → Int) (M : Nat → Nat → Int), ∀ E vs, Reps E al vs → Reps E [.sl n 12 (acts d md lo to M) false false] vs := by
  cases h with | cons h t => cases t with | nil =>
  cases h with | cons h t => cases t with | nil =>
  cases h with
  | row _ n get hn hs =>
    refine ⟨n, fun i => zAt (get i) 0, fun i => zAt (get i) 1, fun i => zAt (get i) 2, fun i => zAt (get i) 3, fun i j => zAt (get i) (4 + j), fun E vs hv => ?_⟩
    cases hv with
    | cons h t => exact .cons (h.sl_congr fun i hi => acts_of (hs i hi)) t
theorem cxZ_ok : CtrOk cx0 := cx0_ok
section
variable (n : Nat) (d md lo to : Nat → Int) (M : Nat → Nat → Int)
def ds5a : List (Nat × Bool) := [(0, false), (3, false), (4, false), (5, false)]
def start5 : St := { sl := [(0, .sl n 12 (acts d md lo to M) false false), (3, .ptr 0 0), (4, .ptr 1 0), (5, .ptr 2 0)], hp := [(0, some (.fix 37 (ivs 48 (fun _ => 0)))), (1, some (.fix 22 (ivs 4 (fun _ => 0)))), (2, some (.fix 22 (ivs 4 (fun _ => 0))))], nx := 3, rd := [], wr := [], ws := [], wb := [] }
theorem pre5 : (codeE cx0 (evs cx0 60) (joins (firsts 5 c5)) (entry [.sl n 12 (acts d md lo to M) false false])).map (lfOf 0 ds5a true 2) =
    .br (decide ((n : Int) > 100)) (.ret (.out (.lit (.bool true)))) (.ret (.go .norm (some (start5 n d md lo to M)))) := by kernel_rfl
theorem init5 : (codeE cxT (evs cxT 60) (cl (cl (behind 5 c5))) (start5 n d md lo to M)).map (lfOf 0 ds5 true 2) =
    .ret (.go .norm (some (inv5 n d md lo to M (fun _ => 0) (fun _ => 0) (fun _ => 0) 0))) := by kernel_rfl
theorem tail5 (f s kn : Nat → Int) (i : Nat) : (codeE cx0 (evs cx0 60) (cr (behind 5 c5)) (inv5 n d md lo to M f s kn i)).map (lfOf 0 [] true 2) = .ret (.out (.lit (.bool true))) := by kernel_rfl
theorem args5 : argShs Try.prog 6 Try.f5.params.toList = some [(false, [.row ks12])] := by kernel_rfl
set_option maxRecDepth 100000 in
theorem law5_runs : LawRuns Try.prog 5 [(false, [.row ks12])] := by
  intro w vals al hok hargs
  obtain ⟨n, d, md, lo, to, M, hA⟩ := arg_acts hok
  have hR := hA _ _ hargs
  refine (calls_of_wpc (P := Try.prog) (E := frozenE w) (hd := fun _ h => h) (hf := frozenE_ok w) (args := [.sl n 12 (acts d md lo to M) false false]) (R := fun x s => x = .ret ∧ IsTrue (look s.sl 2)) (V := fun v => v = .bool true) Try.func5 (c := c5) (by kernel_rfl) hR (Nat.le_of_ble_eq_true (by kernel_rfl)) ?_ ?_).mono fun e w' h => h
  · have e : c5 = seqs (firsts 5 c5) (behind 5 c5) := by kernel_rfl
    rw [e]
    refine wpc_stage (cx := cx0) (n := 60) (ds := ds5a) (gb := true) (r := 2) (O := IsTrue) cx0_ok fitTry (by simp [firsts]) (by kernel_rfl) ?_ fun s h => ⟨rfl, h⟩
    show ((codeE cx0 (evs cx0 60) (joins (firsts 5 c5)) (entry [.sl n 12 (acts d md lo to M) false false])).map (lfOf 0 ds5a true 2)).wp _
    rw [pre5]
    refine ⟨fun _ => isTrue_lit, fun hn => ?_⟩
    have hn : n ≤ 100 := by have := of_decide_eq_false hn; omega
    have e2 : behind 5 c5 = .seq (.seq (cl (cl (behind 5 c5))) (.block 0 (.loop body5))) (cr (behind 5 c5)) := by kernel_rfl
    show WpC _ _ (behind 5 c5) _ _
    rw [e2]
    refine wpc_iloop (cx := cxT) (n := 60) (Inv := Inv5 n d md lo to M) (J := J5 n) (m := fun k => n - k.i) (Out := fun s => ∃ k, s = Inv5 n d md lo to M k) (ds := ds5) (gb := true) (r := 2) (O := IsTrue) cxT_ok fitTry (by kernel_rfl) (fun k hk => round5_ok n d md lo to M hn k hk) (fun s h => ⟨rfl, h⟩) (by kernel_rfl) ?_ fun s ⟨k, hs⟩ => ?_
    · show ((codeE cxT (evs cxT 60) (cl (cl (behind 5 c5))) (start5 n d md lo to M)).map (lfOf 0 ds5 true 2)).wp _
      rw [init5]
      refine ⟨rfl, ⟨fun _ => 0, fun _ => 0, fun _ => 0, 0⟩, rfl, ⟨?_, fun _ _ => Int.le_refl _, Nat.zero_le _⟩⟩
      exact ⟨fun _ _ => ⟨Int.le_refl _, Int.le_refl _⟩, fun _ _ => ⟨Int.le_refl _, Int.le_refl _⟩, fun _ _ => Int.le_refl _, fun _ _ => ⟨fun _ _ => ⟨Int.le_refl _, Int.le_refl _⟩, fun _ _ => Int.le_refl _⟩⟩
    · subst hs
      refine wpc_of_lf (cx := cx0) (n := 60) (ds := []) (gb := true) (r := 2) (O := IsTrue) cx0_ok fitTry (by kernel_rfl) ?_ fun s h => ⟨rfl, h⟩
      show ((codeE cx0 (evs cx0 60) (cr (behind 5 c5)) (inv5 n d md lo to M k.f k.s k.kn k.i)).map (lfOf 0 [] true 2)).wp _
      rw [tail5]
      exact isTrue_lit
  · rintro x s ⟨rfl, h⟩
    exact ⟨.inr rfl, h⟩
end
end Go.Proofs.Ytkmhabbpndcnkaa
