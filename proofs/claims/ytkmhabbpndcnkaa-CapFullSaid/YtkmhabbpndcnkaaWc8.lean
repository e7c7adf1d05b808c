/-
  PARTS, one behind the other: MY MZ S0 S1 S2 S3 S4 S5 S6 S7 S8 S9 SA SB SC SD.
-/
import Derived.Test.YtkmhabbpndcnkaaWc7
/-
  PART: memory: the law MemoryPlays, its run.
-/
namespace Go.Proofs.Ytkmhabbpndcnkaa
open Go.RowKit
noncomputable section
theorem mixM (c : Bool) (x y : PM) : mixC 5 c (memCells x) (memCells y) = if c = true then memCells x else memCells y := by
  cases c <;> kernel_rfl
theorem mixL (c : Bool) (N : Int) (x y : List RIt) : mixC 2 c [iv N, rowR x] [iv N, rowR y] = if c = true then [iv N, rowR x] else [iv N, rowR y] := by
  cases c <;> kernel_rfl
theorem appM_eq {Ms : List PM} {m : PM} {a : Nat} (ha : a = Ms.length) : ∀ i, i < a + 1 → appM a Ms m i = getM (Ms ++ [m]) i := fun i hi => by
  subst ha
  unfold appM getM
  rw [mixM]
  by_cases h : i < Ms.length
  · rw [if_pos (by simpa using h)]
    simp [List.getD, List.getElem?_append_left h]
  · have : i = Ms.length := by omega
    subst this
    rw [if_neg (by simp)]
    simp [List.getD]
theorem appL_eq {N : Int} {Ls : List (List RIt)} {L : List RIt} {b : Nat} (hb : b = Ls.length) : ∀ i, i < b + 1 → appL b N Ls L i = getL N (Ls ++ [L]) i := fun i hi => by
  subst hb
  unfold appL getL
  rw [mixL]
  by_cases h : i < Ls.length
  · rw [if_pos (by simpa using h)]
    simp [List.getD, List.getElem?_append_left h]
  · have : i = Ls.length := by omega
    subst this
    rw [if_neg (by simp)]
    simp [List.getD]
theorem sizeM_of {n : Nat} (h : n ≤ 200) : sizeM n := by
  have e : Try.prog.bytesOf 81 ≤ 1000000 := Nat.le_of_ble_eq_true (by kernel_rfl)
  have : n * Try.prog.bytesOf 81 ≤ 200 * 1000000 := Nat.mul_le_mul h e
  have : (200 * 1000000 : Nat) ≤ maxAppend := by decide
  have : (200 : Nat) ≤ maxAppend := by decide
  exact ⟨by omega, by omega⟩
theorem sizeL_of {n : Nat} (h : n ≤ 200) : sizeL n := by
  have e : Try.prog.bytesOf 83 ≤ 1000000 := Nat.le_of_ble_eq_true (by kernel_rfl)
  have : n * Try.prog.bytesOf 83 ≤ 200 * 1000000 := Nat.mul_le_mul h e
  have : (200 * 1000000 : Nat) ≤ maxAppend := by decide
  have : (200 : Nat) ≤ maxAppend := by decide
  exact ⟨by omega, by omega⟩
structure K12 where
  i : Nat
  m : PM
  L : List RIt
  a : Nat
  b : Nat
  Ms : List PM
  Ls : List (List RIt)
structure J12 (n N : Nat) (k : K12) : Prop where
  i : k.i ≤ n
  both : Both k.m N k.L (4 + k.i)
  a : k.a = k.Ms.length
  b : k.b = k.Ls.length
  ab : k.a = k.b
  le : k.a ≤ k.i
  all : ∀ j, j < k.a → Both (k.Ms.getD j mz) N (k.Ls.getD j []) 200
section
variable {n : Nat} {d : Nat → Int} {X : Nat → RIt} {p q : Int} {v : Nat → Int} {N : Nat} {B : Start}
def Inv12 (n : Nat) (d : Nat → Int) (X : Nat → RIt) (p q : Int) (v : Nat → Int) (N : Nat) (k : K12) : St := inv12 n d X p q v k.m N k.L k.a k.b k.Ms k.Ls k.i
theorem all_app {Ms : List PM} {Ls : List (List RIt)} {m : PM} {L : List RIt} {a b : Nat} (ha : a = Ms.length) (hb : b = Ls.length) (hab : a = b) (h : ∀ j, j < a → Both (Ms.getD j mz) N (Ls.getD j []) 200) (hm : Both m N L 200) :
    ∀ j, j < a + 1 → Both ((Ms ++ [m]).getD j mz) N ((Ls ++ [L]).getD j []) 200 := fun j hj => by
  by_cases h1 : j < a
  · have h2 := h j h1
    have e1 : (Ms ++ [m]).getD j mz = Ms.getD j mz := by simp [List.getD, List.getElem?_append_left (show j < Ms.length by omega)]
    have e2 : (Ls ++ [L]).getD j [] = Ls.getD j [] := by simp [List.getD, List.getElem?_append_left (show j < Ls.length by omega)]
    rw [e1, e2]; exact h2
  · have h2 : j = Ms.length := by omega
    have h3 : j = Ls.length := by omega
    have e1 : (Ms ++ [m]).getD j mz = m := by subst h2; simp [List.getD]
    have e2 : (Ls ++ [L]).getD j [] = L := by subst h3; simp [List.getD]
    rw [e1, e2]; exact hm
/-- A round that keeps nothing. -/
theorem next12a (hn : n ≤ 150) {k : K12} (hk : J12 n N k) (hlt : k.i < n) {m' : PM} {L' : List RIt} (h : Both m' N L' (4 + k.i + 1)) (Out : St → Prop) :
    RoundH B (Inv12 n d X p q v N) (J12 n N) (fun k => n - k.i) 0 k Out .norm (inv12 n d X p q v m' N L' k.a k.b k.Ms k.Ls (IntKind.i64.wrap ((k.i : Int) + 1))) := by
  have hw : IntKind.i64.wrap ((k.i : Int) + 1) = ((k.i + 1 : Nat) : Int) := by rw [IntWalk.i64_in _ (by omega)]; rfl
  rw [hw]
  exact ⟨⟨k.i + 1, m', L', k.a, k.b, k.Ms, k.Ls⟩, .refl _, ⟨hlt, h, hk.a, hk.b, hk.ab, Nat.le_succ_of_le hk.le, hk.all⟩, by show n - (k.i + 1) < n - k.i; omega⟩
/-- A round that keeps both. -/
theorem next12b (hn : n ≤ 150) {k : K12} (hk : J12 n N k) (hlt : k.i < n) {m' : PM} {L' : List RIt} (h : Both m' N L' (4 + k.i + 1)) (Out : St → Prop) :
    RoundH B (Inv12 n d X p q v N) (J12 n N) (fun k => n - k.i) 0 k Out .norm (app12 n d X p q v m' N L' k.a k.b k.Ms k.Ls (IntKind.i64.wrap ((k.i : Int) + 1))) := by
  have hw : IntKind.i64.wrap ((k.i : Int) + 1) = ((k.i + 1 : Nat) : Int) := by rw [IntWalk.i64_in _ (by omega)]; rfl
  rw [hw]
  refine ⟨⟨k.i + 1, m', L', k.a + 1, k.b + 1, k.Ms ++ [m'], k.Ls ++ [L']⟩, ?_, ⟨hlt, h, by simp [hk.a], by simp [hk.b], by rw [hk.ab], Nat.succ_le_succ hk.le, all_app hk.a hk.b hk.ab hk.all (h.le (by omega))⟩, by show n - (k.i + 1) < n - k.i; omega⟩
  exact hold_rows rfl rfl (.same (.same (.same (.row (appM_eq hk.a) (.row (appL_eq hk.b) .nil)))))
theorem ne_false {x y : Int} (h : x = y) : (x != y) = false := by rw [h]; simp
end
end
end Go.Proofs.Ytkmhabbpndcnkaa

/-
  PART: memory: the law MemoryPlays, its rounds and its run.
-/
namespace Go.Proofs.Ytkmhabbpndcnkaa
open Go.RowKit
noncomputable section
section
variable {n : Nat} {d : Nat → Int} {X : Nat → RIt} {p q : Int} {v : Nat → Int} {N : Nat} {B : Start}
def Out12 (n : Nat) (d : Nat → Int) (X : Nat → RIt) (p q : Int) (v : Nat → Int) (N : Nat) (s : St) : Prop := ∃ k : K12, J12 n N k ∧ s = Inv12 n d X p q v N k
set_option maxRecDepth 100000 in
theorem round12 (hB : B.nx0 = 0) (hN : codeOk B.N body12 = true) (hX : ∀ i, RVz (X i)) (hn : n ≤ 150) {O : AV → Prop} (k : K12) (hk : J12 n N k) :
    WpC Try.prog B body12 (Inv12 n d X p q v N k) (Round B res12 (Inv12 n d X p q v N) (J12 n N) (fun k => n - k.i) 0 k (Out12 n d X p q v N) O) := by
  have hki := hk.i
  have hm : PmFit k.m := hk.both.fit (by omega)
  have hR : OkR k.L := hk.both.okR (by omega)
  have hin : PmInR k.m := pmInR hm
  have hok : okRR k.L := rowRk_getR hR
  have hab := hk.ab
  have hle := hk.le
  by_cases hlt : k.i < n
  · have hi : decide ((k.i : Int) < (n : Int)) = true := decide_eq_true (by omega)
    have hix : ixA n (k.i : Int) := ⟨by omega, by omega⟩
    have hsM : sizeM (k.a + 1) := sizeM_of (by omega)
    have hsL : sizeL (k.b + 1) := sizeL_of (by omega)
    have hx : xOf X (k.i : Int) = X k.i := by unfold xOf; rw [Int.toNat_natCast]; exact ritOf_cells (hX _)
    have hxc : IsR (X (k.i : Int).toNat).cells := isR (hX _)
    cases h0 : d (k.i : Int).toNat == 0 with
    | true =>
      obtain ⟨h1, h2⟩ := hk.both.ful (X (k.i : Int).toNat).loc (X (k.i : Int).toNat).q (X (k.i : Int).toNat).own
      have hS : fulS (X (k.i : Int).toNat) k.m N k.L := by unfold fulS; rw [pmR_eq hm, lsRR_eq hR]; exact ne_false h1
      cases hmod : (k.i : Int).tmod 16 == 0 with
      | false =>
        refine wpc_endH (cx := cxG [(59,true),(85,true),(139,false),(142,false)]) (n := 60) (ds := ds12b) (gb := true) (cxG_ok _) fitTry hN ?_
        rw [hB]
        show (rndOf (cxG [(59,true),(85,true),(139,false),(142,false)]) n d X p q v k.m N k.L k.a k.b k.Ms k.Ls k.i).wp _
        rw [ful12a, pmR_eq hm, lsRR_eq hR]
        exact ⟨hi, hix, hix, h0, hin, hok, hS, by decide, hmod, next12a hn hk hlt h2 (Out12 n d X p q v N)⟩
      | true =>
        refine wpc_endH (cx := cxG [(59,true),(85,true),(139,false),(142,true)]) (n := 60) (ds := ds12b) (gb := true) (cxG_ok _) fitTry hN ?_
        rw [hB]
        show (rndOf (cxG [(59,true),(85,true),(139,false),(142,true)]) n d X p q v k.m N k.L k.a k.b k.Ms k.Ls k.i).wp _
        rw [ful12b, pmR_eq hm, lsRR_eq hR]
        exact ⟨hi, hix, hix, h0, hin, hok, hS, by decide, hmod, hsM, hsL, next12b hn hk hlt h2 (Out12 n d X p q v N)⟩
    | false =>
      cases h3 : d (k.i : Int).toNat == 1 with
      | true =>
        obtain ⟨h1, h2⟩ := hk.both.can (X (k.i : Int).toNat).loc (X (k.i : Int).toNat).q (X (k.i : Int).toNat).own
        have hS : canS (X (k.i : Int).toNat) k.m N k.L := by unfold canS; rw [pmR_eq hm, lsRR_eq hR]; exact ne_false h1
        cases hmod : (k.i : Int).tmod 16 == 0 with
        | false =>
          refine wpc_endH (cx := cxG [(59,true),(85,false),(111,true),(139,false),(142,false)]) (n := 60) (ds := ds12b) (gb := true) (cxG_ok _) fitTry hN ?_
          rw [hB]
          show (rndOf (cxG [(59,true),(85,false),(111,true),(139,false),(142,false)]) n d X p q v k.m N k.L k.a k.b k.Ms k.Ls k.i).wp _
          rw [can12a, pmR_eq hm, lsRR_eq hR]
          exact ⟨hi, hix, hix, h0, h3, hin, hok, hS, by decide, hmod, next12a hn hk hlt h2 (Out12 n d X p q v N)⟩
        | true =>
          refine wpc_endH (cx := cxG [(59,true),(85,false),(111,true),(139,false),(142,true)]) (n := 60) (ds := ds12b) (gb := true) (cxG_ok _) fitTry hN ?_
          rw [hB]
          show (rndOf (cxG [(59,true),(85,false),(111,true),(139,false),(142,true)]) n d X p q v k.m N k.L k.a k.b k.Ms k.Ls k.i).wp _
          rw [can12b, pmR_eq hm, lsRR_eq hR]
          exact ⟨hi, hix, hix, h0, h3, hin, hok, hS, by decide, hmod, hsM, hsL, next12b hn hk hlt h2 (Out12 n d X p q v N)⟩
      | false =>
        cases hs : okS (X k.i).p (X k.i).q with
        | true =>
          have hit := toIt_ok hs (hX k.i)
          obtain ⟨h1, h2⟩ := hk.both.add (x := X k.i) hs (hX k.i)
          have hS : goodS (X k.i) k.m N k.L := by unfold goodS; rw [pmR_eq hm, lsRR_eq hR, itOf_cells hit]; exact ne_false h1
          have hsp : okS (xOf X (k.i : Int)).p (xOf X (k.i : Int)).q = true := by rw [hx]; exact hs
          have hitc : IsIt (toIt (xOf X (k.i : Int))).cells := by rw [hx]; exact isIt hit
          cases hmod : (k.i : Int).tmod 16 == 0 with
          | false =>
            refine wpc_endH (cx := cxG [(59,true),(85,false),(111,false),(139,false),(142,false)]) (n := 60) (ds := ds12b) (gb := true) (cxG_ok _) fitTry hN ?_
            rw [hB]
            show (rndOf (cxG [(59,true),(85,false),(111,false),(139,false),(142,false)]) n d X p q v k.m N k.L k.a k.b k.Ms k.Ls k.i).wp _
            rw [good12a, pmR_eq hm, lsRR_eq hR]
            refine ⟨hi, hix, hix, h0, h3, ⟨hxc, hsp⟩, hin, hitc, hok, hxc, by rw [hx]; exact hS, by decide, hmod, ?_⟩
            rw [hx, itOf_cells hit]
            exact next12a hn hk hlt h2 (Out12 n d X p q v N)
          | true =>
            refine wpc_endH (cx := cxG [(59,true),(85,false),(111,false),(139,false),(142,true)]) (n := 60) (ds := ds12b) (gb := true) (cxG_ok _) fitTry hN ?_
            rw [hB]
            show (rndOf (cxG [(59,true),(85,false),(111,false),(139,false),(142,true)]) n d X p q v k.m N k.L k.a k.b k.Ms k.Ls k.i).wp _
            rw [good12b, pmR_eq hm, lsRR_eq hR]
            refine ⟨hi, hix, hix, h0, h3, ⟨hxc, hsp⟩, hin, hitc, hok, hxc, by rw [hx]; exact hS, by decide, hmod, hsM, hsL, ?_⟩
            rw [hx, itOf_cells hit]
            exact next12b hn hk hlt h2 (Out12 n d X p q v N)
        | false =>
          have hsp : okS (xOf X (k.i : Int)).p (xOf X (k.i : Int)).q = false := by rw [hx]; exact hs
          have hra : refAdd N k.L (X k.i) = (k.L, 1) := refAdd_bad hs
          have h2 : Both k.m N k.L (4 + k.i + 1) := hk.both.le (Nat.le_succ _)
          have hS : badS (X k.i) N k.L := by unfold badS; rw [lsRR_eq hR, hra]; rfl
          have hbc : badR (X k.i) = badC (rawIt (badR (X k.i))) := by rfl
          cases hmod : (k.i : Int).tmod 16 == 0 with
          | false =>
            refine wpc_endH (cx := cxB [(59,true),(85,false),(111,false),(139,false),(142,false)]) (n := 60) (ds := ds12b) (gb := true) (cxB_ok _) fitTry hN ?_
            rw [hB]
            show (rndOf (cxB [(59,true),(85,false),(111,false),(139,false),(142,false)]) n d X p q v k.m N k.L k.a k.b k.Ms k.Ls k.i).wp _
            rw [bad12a, pmR_eq hm, lsRR_eq hR]
            refine ⟨hi, hix, hix, h0, h3, ⟨hxc, hsp⟩, hin, by rw [hx]; exact hbc, hok, hxc, by rw [hx]; exact hS, by decide, hmod, ?_⟩
            rw [hx, hra]
            exact next12a hn hk hlt h2 (Out12 n d X p q v N)
          | true =>
            refine wpc_endH (cx := cxB [(59,true),(85,false),(111,false),(139,false),(142,true)]) (n := 60) (ds := ds12b) (gb := true) (cxB_ok _) fitTry hN ?_
            rw [hB]
            show (rndOf (cxB [(59,true),(85,false),(111,false),(139,false),(142,true)]) n d X p q v k.m N k.L k.a k.b k.Ms k.Ls k.i).wp _
            rw [bad12b, pmR_eq hm, lsRR_eq hR]
            refine ⟨hi, hix, hix, h0, h3, ⟨hxc, hsp⟩, hin, by rw [hx]; exact hbc, hok, hxc, by rw [hx]; exact hS, by decide, hmod, hsM, hsL, ?_⟩
            rw [hx, hra]
            exact next12b hn hk hlt h2 (Out12 n d X p q v N)
  · refine wpc_endH (cx := cxG [(59,false)]) (n := 60) (ds := ds12b) (gb := true) (cxG_ok _) fitTry hN ?_
    rw [hB]
    show (rndOf (cxG [(59,false)]) n d X p q v k.m N k.L k.a k.b k.Ms k.Ls k.i).wp _
    rw [stop12]
    exact ⟨decide_eq_false (by omega), rfl, _, .refl _, k, hk, rfl⟩
end
end
end Go.Proofs.Ytkmhabbpndcnkaa

/-
  PART: memory: the law MemoryPlays, its run.
-/
namespace Go.Proofs.Ytkmhabbpndcnkaa
open Go.RowKit
noncomputable section
section
variable {n : Nat} {d : Nat → Int} {X : Nat → RIt} {p q : Int} {v : Nat → Int} {N : Nat} {B : Start}
theorem lit_v {E : Env} {x : Bool} {u : Value} (hx : x = true) (h : Rep E (.v (.bool x)) u) : Rep E (.lit (.bool true)) u := by
  subst hx; cases h; exact .lit _ rfl
theorem fin12_ok (hv : ∀ j, 8 ≤ j → v j = 0) {m : PM} {L : List RIt} (h : Both m N L 200) : 
    finS v m N L (atM m p q) (refAt L p q) ∧ finB (atM m p q) (refAt L p q) (finC v m N L) = true := by
  have hm : PmFit m := h.fit (by omega)
  have hR : OkR L := h.okR (by omega)
  have hat := atM_rel h.rel p q
  have hlo := h.rel.lo
  have hhi := h.rel.hi
  have hvo : viewOf (ivs 8 v) = v := viewOf_ivs hv
  have hA : finA v m N L := by
    unfold finA
    rw [hvo]
    exact ⟨rfl, pmInR hm, by rw [hvo], rowRk_getR hR, by omega, by omega, rfl⟩
  have hC : finC v m N L = true := by
    unfold finC
    rw [hvo, hvo, pmR_eq hm, lsRR_eq hR, closedM_rel h.rel v, Int.toNat_natCast]
    simp
  cases hr : refAt L p q with
  | none =>
    rw [hr] at hat
    rw [hat]
    refine ⟨fun _ => ⟨fun _ => hA, fun h => by cases h⟩, ?_⟩
    rw [hC]; rfl
  | some x =>
    rw [hr] at hat
    have hx : x ∈ L := List.mem_of_find?_eq_some hr
    have hmay := h.rel.good.may x hx
    have hvz : RVz x := rel_vz h.rel x hx
    have he : eqAt (some (toIt x)) (some x) = true := by
      show eqI (toIt x) (toIt (ritOf x.cells)) = true
      rw [ritOf_cells hvz]
      exact eqI_self (toIt_ok hmay.2.2.1 hvz)
    have hat : atM m p q = some (toIt x) := hat
    rw [hat]
    refine ⟨fun _ => ⟨fun h => (by cases h), fun _ => ⟨⟨isR hvz, ?_⟩, fun _ => hA⟩⟩, ?_⟩
    · show okS (ritOf x.cells).p (ritOf x.cells).q = true
      rw [ritOf_cells hvz]; exact hmay.2.2.1
    · unfold finB
      rw [he, hC]; rfl
end
theorem uU_eq (U : List Int) : uU U = U := by
  unfold uU uOf
  apply List.ext_getElem
  · simp
  · intro i h1 h2
    rw [List.getElem_map, List.getElem_range]
    show U.getD i 0 = U[i]
    simp [List.getD, h2]
theorem badLen_R (n : Nat) : badLenR (n : Int) = badLen (n : Int) := by
  unfold badLenR badLen
  by_cases h : n = 0
  · subst h; rfl
  · have h1 : ((n : Int) == 0) = false := by simp [h]
    have h2 : decide ((n : Int) < 1) = false := decide_eq_false (by omega)
    rw [h1, h2]
end
end Go.Proofs.Ytkmhabbpndcnkaa

/-
  PART: memory: the law MemoryPlays answers true.
-/
namespace Go.Proofs.Ytkmhabbpndcnkaa
open Go.RowKit
noncomputable section
set_option maxRecDepth 100000 in
theorem tail12_ok {n : Nat} {d : Nat → Int} {X : Nat → RIt} {p q : Int} {v : Nat → Int} {N : Nat} (hv : ∀ j, 8 ≤ j → v j = 0) (hn : n ≤ 150) {E : Env} {w : World} {hd : ∀ x, ¬ E.dom x} {hf : FzOk E w} (k : K12) (hk : J12 n N k) :
    WpC Try.prog (begins Try.f12.ntmps E w hd hf) tail12 (Inv12 n d X p q v N k) (Ends Try.prog Try.f12.results.toList (fun a' => ∀ E v, Rep E a' v → Rep E (.lit (.bool true)) v)) := by
  let O : AV → Prop := fun a' => ∀ E v, Rep E a' v → Rep E (.lit (.bool true)) v
  have hki := hk.i
  have hab := hk.ab
  have hle := hk.le
  have hb200 : Both k.m N k.L 200 := hk.both.le (by omega)
  rw [codeT12]
  refine wpc_stageR (cx := cxG []) (n := 60) (ds := ds12c) (gb := true) (res := res12) (O := O) (cxG_ok _) fitTry (by simp [firsts]) (by kernel_rfl) ?_ ends_ret
  show ((codeE (cxG []) (evs (cxG []) 60) (joins (firsts 2 tail12)) (inv12 n d X p q v k.m N k.L k.a k.b k.Ms k.Ls k.i)).map (lfR 0 ds12c true res12)).wp _
  rw [apl12_eq]
  refine ⟨sizeM_of (by omega), sizeL_of (by omega), ?_⟩
  show WpC _ _ _ _ _
  have hall := all_app hk.a hk.b hk.ab hk.all hb200
  have hold : HoldLe (begins Try.f12.ntmps E w hd hf) (apl12 p q v k.m N k.L k.a k.b k.Ms k.Ls) (mid12 p q v k.m N k.L (k.a + 1) (k.b + 1) (k.Ms ++ [k.m]) (k.Ls ++ [k.L])) :=
    hold_rows rfl rfl (.same (.same (.same (.row (appM_eq hk.a) (.row (appL_eq hk.b) .nil)))))
  refine wpc_pre hold ?_
  generalize hMs : k.Ms ++ [k.m] = Ms at hall ⊢
  generalize hLs : k.Ls ++ [k.L] = Ls at hall ⊢
  refine wpc_ioloop (cx := cxG []) (n := 60) (ds := ds12d) (gb := true) (res := res12) (O := O) (cxG_ok _) fitTry (fun i : Nat => inw12 p q v k.m N k.L (k.a + 1) (k.b + 1) Ms Ls i) (fun i => i ≤ k.a + 1) (fun i => k.a + 1 - i) (fun s => ∃ i : Int, s = inw12 p q v k.m N k.L (k.a + 1) (k.b + 1) Ms Ls i) (by kernel_rfl) ?_ ?_ ends_ret ?_
  · show ((codeE (cxG []) (evs (cxG []) 60) b12 (mid12 p q v k.m N k.L (k.a + 1) (k.b + 1) Ms Ls)).map (lfR 0 ds12d true res12)).wp _
    rw [init12b]
    exact ⟨rfl, 0, .refl _, Nat.zero_le _⟩
  · intro i hi
    have hi : i ≤ k.a + 1 := hi
    refine wpc_endH (cx := cxG []) (n := 60) (ds := ds12d) (gb := true) (cxG_ok _) fitTry (by kernel_rfl) ?_
    show (rnd12b p q v k.m N k.L (k.a + 1) (k.b + 1) Ms Ls i).wp _
    rw [rnd12b_eq]
    refine ⟨fun hlt => ?_, fun _ => ⟨rfl, _, .refl _, _, rfl⟩⟩
    have hlt := of_decide_eq_true hlt
    have hB := hall i (by omega)
    have hm : PmFit (Ms.getD i mz) := hB.fit (by omega)
    have hR : OkR (Ls.getD i []) := hB.okR (by omega)
    have hS : sameS (Ms.getD (i : Int).toNat mz) N (Ls.getD (i : Int).toNat []) := by
      rw [Int.toNat_natCast]
      unfold sameS sideSame
      rw [pmR_eq hm, lsRR_eq hR]
      exact ⟨⟨pmInR hm, rowRk_getR hR⟩, ⟨N, rfl, hB.rel⟩, Nat.le_trans hB.len (by omega)⟩
    refine ⟨⟨by omega, hlt⟩, by omega, ⟨by omega, by omega⟩, by omega, hS, ?_⟩
    have hw : IntKind.i64.wrap ((i : Int) + 1) = ((i + 1 : Nat) : Int) := by rw [IntWalk.i64_in _ (by omega)]; rfl
    rw [hw]
    exact ⟨i + 1, .refl _, by show i + 1 ≤ k.a + 1; omega, by show k.a + 1 - (i + 1) < k.a + 1 - i; omega⟩
  · rintro s ⟨i, rfl⟩
    refine wpc_of_lfR (cx := cxG []) (n := 60) (ds := []) (gb := false) (res := res12) (O := O) (cxG_ok _) fitTry (by kernel_rfl) ?_ ends_ret
    show (fin12 p q v k.m N k.L (k.a + 1) (k.b + 1) Ms Ls i).wp _
    rw [fin12_eq]
    have hm : PmFit k.m := hb200.fit (by omega)
    have hR : OkR k.L := hb200.okR (by omega)
    obtain ⟨h1, h2⟩ := fin12_ok (p := p) (q := q) hv hb200
    rw [pmR_eq hm, lsRR_eq hR]
    exact ⟨pmInR hm, rowRk_getR hR, h1, fun E v hv => lit_v h2 hv⟩
set_option maxRecDepth 100000 in
theorem plays_frz (U : List Int) (n : Nat) (d : Nat → Int) {X : Nat → RIt} (p q : Int) {v : Nat → Int} (hX : ∀ i, RVz (X i)) (hv : ∀ j, 8 ≤ j → v j = 0) : FrzOk Try.prog 12 (args12 U n d X p q v) (.lit (.bool true)) := by
  let O : AV → Prop := fun a' => ∀ E v, Rep E a' v → Rep E (.lit (.bool true)) v
  refine frz_of_ends fitTry Try.func12 (c := c12) (by kernel_rfl) (Nat.le_of_ble_eq_true (by kernel_rfl)) (O := O) (fun E w hd hf => ?_) fun a' h => h
  rw [code12]
  refine wpc_stageR (cx := cx12) (n := 60) (ds := ds12a) (gb := true) (res := res12) (O := O) (cx8_ok _) fitTry (by simp [firsts]) (by kernel_rfl) ?_ ends_ret
  show ((codeE cx12 (evs cx12 60) (joins (firsts 8 c12)) (entry (args12 U n d X p q v))).map (lfR 0 ds12a true res12)).wp _
  rw [pre12, uU_eq]
  have hU : sideU U := fun i hi => rfl
  refine ⟨fun _ E v hv => hv, fun hmany => ⟨hU, hU, ?_, ?_⟩⟩
  · apply ne_false
    unfold beginR refBegR
    rw [badLen_R]
    cases badLen (U.length : Int) <;> rfl
  have hn : n ≤ 150 := by
    unfold manyU at hmany
    by_cases h : (n : Int) > 150
    · rw [if_pos (decide_eq_true h)] at hmany; cases hmany
    · omega
  refine ⟨fun hbad => fun E v hv => lit_v ?_ hv, fun hgood => ?_⟩
  · unfold refBegR at hbad
    unfold beginR
    rw [badLen_R] at hbad
    cases hb : badLen (U.length : Int) with
    | true => rfl
    | false => rw [hb] at hbad; cases hbad
  have hb : badLen (U.length : Int) = false := by
    cases hb : badLen (U.length : Int) with
    | false => rfl
    | true =>
      unfold refBegR at hgood
      rw [badLen_R, hb] at hgood
      cases hgood
  have e1 : beginR U = (beginM U, 0) := by unfold beginR; rw [hb]; rfl
  have e2 : refBegR U = ((U.length : Int), refBegin U, 0) := by unfold refBegR; rw [badLen_R, hb]; rfl
  have hlen : 1 ≤ U.length ∧ U.length ≤ 4 := by
    unfold badLen at hb
    split at hb
    · cases hb
    · rename_i h1
      have h2 := of_decide_eq_false hb
      simp at h1
      omega
  have hboth := both_begin hlen.1 hlen.2
  rw [e1, e2]
  show WpC _ _ _ _ _
  refine wpc_ioloop (cx := cx12) (n := 60) (ds := ds12b) (gb := true) (res := res12) (O := O) (cx8_ok _) fitTry (Inv12 n d X p q v U.length) (J12 n U.length) (fun k => n - k.i) (Out12 n d X p q v U.length) (by kernel_rfl) ?_ (fun k hk => round12 rfl (by kernel_rfl) hX hn k hk) ends_ret ?_
  · show ((codeE cx12 (evs cx12 60) a12 (st12 n d X p q v (beginM U) U.length (refBegin U))).map (lfR 0 ds12b true res12)).wp _
    rw [init12]
    refine ⟨rfl, ⟨0, beginM U, refBegin U, 0, 0, [], []⟩, ?_, ⟨Nat.zero_le _, hboth, rfl, rfl, rfl, Nat.le_refl _, fun j hj => absurd hj (Nat.not_lt_zero j)⟩⟩
    have h0 : HoldLe (begins Try.f12.ntmps E w hd hf) (st12i n d X p q v (beginM U) U.length (refBegin U)) _ := nilOwn_le (nil12a n d X p q v (beginM U) U.length (refBegin U))
    have h1 : HoldLe (begins Try.f12.ntmps E w hd hf) (st12j n d X p q v (beginM U) U.length (refBegin U)) _ := nilOwn_le (nil12b n d X p q v (beginM U) U.length (refBegin U))
    exact (h0.trans h1).trans (hold_rows rfl rfl (.same (.same (.same (.row (fun j hj => absurd hj (Nat.not_lt_zero j)) (.row (fun j hj => absurd hj (Nat.not_lt_zero j)) .nil))))))
  · rintro s ⟨k, hk, rfl⟩
    exact tail12_ok hv hn k hk
end
end Go.Proofs.Ytkmhabbpndcnkaa

/-
  PART: memory: the law MemoryPlays, from any arguments.
-/
namespace Go.Proofs.Ytkmhabbpndcnkaa
open Go.RowKit
noncomputable section
/-- The cells' kinds of an item, of an act. -/
def ksItem : List Ck := [.int .i64, .int .i64, .int .i64, .int .u64, .int .i64, .int .i64, .int .i64, .int .i64, .int .i64, .int .i64, .int .i64, .int .i64, .bool, .int .i64]
def ksV8 : List Ck := [.int .i64, .int .i64, .int .i64, .int .i64, .int .i64, .int .i64, .int .i64, .int .i64]
theorem item_of {l : List AV} (h : Shps ksItem l) : l = (ritOf l).cells := by
  unfold ksItem at h
  cases h with | cons h0 t => cases t with | cons h1 t => cases t with | cons h2 t => cases t with | cons h3 t => cases t with | cons h4 t => cases t with | cons h5 t => cases t with | cons h6 t => cases t with | cons h7 t => cases t with | cons h8 t => cases t with | cons h9 t => cases t with | cons h10 t => cases t with | cons h11 t => cases t with | cons h12 t => cases t with | cons h13 t => cases t with | nil =>
  cases h0; cases h1; cases h2; cases h3; cases h4; cases h5; cases h6; cases h7; cases h8; cases h9; cases h10; cases h11; cases h12; cases h13
  rfl
theorem act_of {l : List AV} (h : Shps (.int .u8 :: ksItem) l) : l = .v (.int .u8 (zA l 0)) :: (ritOf (l.drop 1)).cells := by
  cases h with | cons h0 t =>
  cases h0
  rename_i l z hz
  have := item_of t
  show AV.v (.int .u8 z) :: l = .v (.int .u8 z) :: (ritOf l).cells
  rw [← this]
theorem v8_of {l : List AV} (h : Shps ksV8 l) : l = ivs 8 (viewOf l) := by
  unfold ksV8 at h
  cases h with | cons h0 t => cases t with | cons h1 t => cases t with | cons h2 t => cases t with | cons h3 t => cases t with | cons h4 t => cases t with | cons h5 t => cases t with | cons h6 t => cases t with | cons h7 t => cases t with | nil =>
  cases h0; cases h1; cases h2; cases h3; cases h4; cases h5; cases h6; cases h7
  rfl
theorem u1_of {l : List AV} (h : Shps [.int .u64] l) : l = [.v (.int .u64 (zA l 0))] := by
  cases h with | cons h0 t => cases t with | nil =>
  cases h0; rfl
theorem int_of {l : List AV} {a : AV} (h : Shps [.int .i64] [a]) : ∃ z, a = iv z := by
  cases h with | cons h0 t =>
  cases h0; exact ⟨_, rfl⟩
def ksMem : List (Bool × List Ck) := [(false, [.row [.int .u64]]), (false, [.row (.int .u8 :: ksItem)]), (false, [.int .i64]), (false, [.int .i64]), (true, ksV8)]
theorem args_mem {al : List AV} (h : ArgsOk ksMem al) : ∃ (U : List Int) (n : Nat) (d : Nat → Int) (X : Nat → RIt) (p q : Int) (v : Nat → Int), (∀ i, RVz (X i)) ∧ (∀ j, 8 ≤ j → v j = 0) ∧ ∀ E vs, Reps E al vs → Reps E (args12 U n d X p q v) vs := by
  unfold ksMem at h
  cases h with | cons h0 t => cases t with | cons h1 t => cases t with | cons h2 t => cases t with | cons h3 t => cases t with | cons h4 t => cases t with | nil =>
  obtain ⟨l4, rfl, h4⟩ := h4
  obtain ⟨p, rfl⟩ := int_of (l := []) h2
  obtain ⟨q, rfl⟩ := int_of (l := []) h3
  cases h0 with | cons h0 t0 => cases t0 with | nil =>
  cases h1 with | cons h1 t1 => cases t1 with | nil =>
  cases h0 with
  | row _ n0 g0 hn0 hs0 =>
    cases h1 with
    | row _ n1 g1 hn1 hs1 =>
      refine ⟨uOf n0 g0, n1, fun i => zA (g1 i) 0, fun i => ritOf ((g1 i).drop 1), p, q, viewOf l4, fun i => rvz_ritOf _, fun j hj => by unfold viewOf; rw [if_neg (by omega)], fun E vs hv => ?_⟩
      cases hv with | cons r0 t => cases t with | cons r1 t => cases t with | cons r2 t => cases t with | cons r3 t => cases t with | cons r4 t =>
      refine .cons (rowU_of (fun i hi => u1_of (hs0 i hi)) r0) (.cons (r1.sl_congr fun i hi => act_of (hs1 i hi)) (.cons r2 (.cons r3 (.cons ?_ t))))
      rw [← v8_of h4]; exact r4
theorem args12_eq : argShs Try.prog 6 Try.f12.params.toList = some ksMem := by kernel_rfl
set_option maxRecDepth 100000 in
theorem law12_runs : LawRuns Try.prog 12 ksMem := by
  intro w hg vals al hok hargs
  obtain ⟨U, n, d, X, p, q, v, hX, hv, hA⟩ := args_mem hok
  rcases plays_frz U n d p q hX hv none (frozenE w hg) w vals (fun v w' => v = .bool true ∧ Quiet w w') (fun _ h => h) (frozenE_ok w hg) (hA _ _ hargs) (fun v w' E' _ _ _ _ hr hq => ⟨by cases hr; rfl, hq⟩) with ⟨u, h1, _⟩ | ⟨_, h2⟩
  · have hb : Try.f12.body = some c12 := by kernel_rfl
    have hname' : ¬ Try.f12.name = "runtime.NumGoroutine" := by simpa using (fit_func fitTry Try.func12 hb).2
    have e : Sem.run Try.prog (callFunc 12 vals) w = .ok (.enter 12 vals) w := by simp [callFunc, Try.func12, hname', hb]
    rw [e] at h1
    cases h1
  · exact h2
end
end Go.Proofs.Ytkmhabbpndcnkaa

/-
  PART: memory: rows that are alike (the law's alike), of one and the same row.
-/
namespace Go.Proofs.Ytkmhabbpndcnkaa
open Go.RowKit
noncomputable section
noncomputable def c75 : Code := codeOf Try.f75
noncomputable def a75 : Code := cl (cl (behind 2 c75))
noncomputable def body75 : Code := cin (cin (cr (cl (behind 2 c75))))
noncomputable def tail75 : Code := cr (behind 2 c75)
theorem code75 : c75 = seqs (firsts 2 c75) (.seq (.seq a75 (.block 0 (.loop body75))) tail75) := by kernel_rfl
noncomputable def res75 : St → Option AV := resF Try.prog Try.f75.results.toList
def st75 (a : List It) : St := { sl := [(0, rowI a), (1, rowI a)], hp := [], nx := 0, rd := [], wr := [], ws := [], wb := [] }
def inv75 (a : List It) (i : Int) : St := { sl := [(0, rowI a), (1, rowI a), (5, iv i)], hp := [], nx := 0, rd := [], wr := [], ws := [], wb := [] }
def ds75 : List (Nat × Bool) := [(0, false), (1, false), (5, true)]
noncomputable def cx75 : Cx := cxD (decM [(10, false), (25, false)])
theorem pre75 (a : List It) : ((codeE cx75 (evs cx75 60) (joins (firsts 2 c75)) (entry [rowI a, rowI a])).map (lfR 0 [(0, false), (1, false)] true res75)) = .side ((lenI a != lenI a) = false) (.ret (.go .norm (some (st75 a)))) := by kernel_rfl
theorem init75 (a : List It) : ((codeE cx75 (evs cx75 60) a75 (st75 a)).map (lfR 0 ds75 true res75)) = .ret (.go .norm (some (inv75 a 0))) := by kernel_rfl
theorem rnd75 (a : List It) (i : Int) : ((codeE cx75 (evs cx75 60) body75 (inv75 a i)).map (lfR 0 ds75 true res75)) =
    .br (decide (i < lenI a)) (.side (0 ≤ i ∧ i < lenI a) (.side (0 ≤ i ∧ i < lenI a) (.side ((!eqI (a.getD i.toNat itz) (a.getD i.toNat itz)) = false) (.ret (.go .norm (some (inv75 a (IntKind.i64.wrap (i + 1)))))))))
      (.ret (.go (.exit 0) (some (inv75 a i)))) := by kernel_rfl
theorem end75 (a : List It) (i : Int) : ((codeE cx75 (evs cx75 60) tail75 (inv75 a i)).map (lfR 0 [] false res75)) = .ret (.out (.lit (.bool true))) := by kernel_rfl
set_option maxRecDepth 100000 in
theorem alike_true {a : List It} (ha : OkL a) (hl : a.length ≤ 100000) : FrzOk Try.prog 75 [rowI a, rowI a] (.lit (.bool true)) := by
  refine frz_loop fitTry Try.func75 (c := c75) (by kernel_rfl) (by kernel_rfl) (O := fun a => ∀ E v, Rep E a v → Rep E (.lit (.bool true)) v) (cx := cx75) (cxD_ok _) rfl (n := 60) code75 (by kernel_rfl) (by kernel_rfl) (ds0 := [(0, false), (1, false)]) (gb0 := true) (s1 := st75 a) (ds := ds75) (gb := true)
    (fun i : Nat => inv75 a i) (fun i => i ≤ a.length) (fun i => a.length - i) (fun s => ∃ i : Int, s = inv75 a i) ?_ ?_ ?_ ?_ fun a h => h
  · refine Eq.mpr (congrArg (Tree.wp _) (pre75 a)) ?_
    exact ⟨ne_false rfl, rfl, rfl⟩
  · refine Eq.mpr (congrArg (Tree.wp _) (init75 a)) ?_
    exact ⟨rfl, 0, fun _ _ => .refl _, Nat.zero_le _⟩
  · intro B hB i hJ
    have h1 : i ≤ a.length := hJ
    refine Eq.mpr (congrArg (Tree.wp _) (rnd75 a i)) ?_
    refine ⟨fun hlt => ?_, fun _ => ⟨rfl, _, .refl _, _, rfl⟩⟩
    have hlt : (i : Int) < (a.length : Int) := of_decide_eq_true hlt
    have hi : i < a.length := by omega
    have hw : 0 ≤ (i : Int) ∧ (i : Int) < lenI a := ⟨by omega, hlt⟩
    have hok : (a.getD i itz).Ok := ha.get hi
    refine ⟨hw, hw, ?_, ?_⟩
    · rw [Int.toNat_natCast, eqI_self hok]; rfl
    · rw [IntWalk.i64_in _ (by omega)]
      exact ⟨i + 1, .refl _, by show i + 1 ≤ a.length; omega, by show a.length - (i + 1) < a.length - i; omega⟩
  · rintro s ⟨i, rfl⟩
    refine Eq.mpr (congrArg (Tree.wp _) (end75 a i)) ?_
    exact fun E v hv => hv
end
end Go.Proofs.Ytkmhabbpndcnkaa

/-
  PART: memory: the law MemoryApart, plainly.
-/
namespace Go.Proofs.Ytkmhabbpndcnkaa
open Go.RowKit
noncomputable section
theorem findI_last {α : Type} {f : α → Bool} {x : α} (hx : f x = true) : ∀ {L : List α}, (∀ y ∈ L, f y = false) → findI f (L ++ [x]) = (L.length : Int)
  | [], _ => by show findI f [x] = 0; unfold findI; rw [if_pos hx]
  | y :: L, h => by
    have ih := findI_last hx (L := L) fun z hz => h z (List.mem_cons_of_mem _ hz)
    have hy := h y (List.mem_cons_self ..)
    show findI f (y :: (L ++ [x])) = _
    unfold findI
    rw [if_neg (by rw [hy]; simp), ih, if_neg (by omega), List.length_cons]
    omega
/-- What was added as reserved is taken back by Cancel. -/
theorem cancel_back {N : Nat} {L : List RIt} {x : RIt} (h : GoodL N (L ++ [x])) (hr : x.res = true) (ho : 0 ≤ x.own) : refCancel N (L ++ [x]) x.loc x.q x.own = (L, 0) := by
  have hm := h.may x (List.mem_append.2 (.inr (List.mem_singleton.2 rfl)))
  have hx : ownedB x.loc x.q x.own true x = true := by simp [ownedB, hr, ho]
  have hu := List.pairwise_append.1 (owned_uniq h x.loc x.q x.own true)
  have hall : ∀ y ∈ L, ownedB x.loc x.q x.own true y = false := fun y hy => by
    cases hf : ownedB x.loc x.q x.own true y with
    | false => rfl
    | true => exact absurd ⟨hf, hx⟩ (hu.2.2 y hy x (List.mem_singleton.2 rfl))
  have hf := findI_last hx hall
  have h1 := hm.1
  have h2 := hm.2.1
  unfold refCancel
  rw [if_neg (by omega), hf, if_neg (by omega)]
  simp
/-- What an Add that worked has done. -/
theorem refAdd_ok {N : Int} {L : List RIt} {x : RIt} (h : (refAdd N L x).2 = 0) : (refAdd N L x).1 = L ++ [x] := by
  unfold refAdd at h ⊢
  split
  · rename_i h1; rw [if_pos h1] at h; cases h
  · rename_i h1
    rw [if_neg h1] at h
    split
    · rename_i h2; rw [if_pos h2] at h; cases h
    · rename_i h2
      rw [if_neg h2] at h
      split
      · rename_i h3; rw [if_pos h3] at h; cases h
      · rfl
theorem refAdd_no {N : Int} {L : List RIt} {x : RIt} (h : (refAdd N L x).2 ≠ 0) : (refAdd N L x).1 = L := by
  unfold refAdd at h ⊢
  split
  · rfl
  · rename_i h1
    rw [if_neg h1] at h
    split
    · rfl
    · rename_i h2
      rw [if_neg h2] at h
      split
      · rfl
      · rename_i h3; rw [if_neg h3] at h; exact absurd rfl h
theorem refFul_no {N : Int} {L : List RIt} {loc to owner : Int} (h : (refFulfil N L loc to owner).2 ≠ 0) : (refFulfil N L loc to owner).1 = L := by
  unfold refFulfil at h ⊢
  split
  · rfl
  · rename_i h1
    rw [if_neg h1] at h
    split
    · rfl
    · rename_i h2; rw [if_neg h2] at h; exact absurd rfl h
theorem refCan_no {N : Int} {L : List RIt} {loc to owner : Int} (h : (refCancel N L loc to owner).2 ≠ 0) : (refCancel N L loc to owner).1 = L := by
  unfold refCancel at h ⊢
  split
  · rfl
  · rename_i h1
    rw [if_neg h1] at h
    split
    · rfl
    · rename_i h2; rw [if_neg h2] at h; exact absurd rfl h
end
end Go.Proofs.Ytkmhabbpndcnkaa

/-
  PART: memory: the law MemoryApart, plainly: Fulfil takes one of an owner's.
-/
namespace Go.Proofs.Ytkmhabbpndcnkaa
open Go.RowKit
noncomputable section
theorem filter_modify_same {α : Type} {p : α → Bool} {g : α → α} (h : ∀ x, p (g x) = p x) : ∀ (L : List α) (k : Nat), ((L.modify k g).filter p).length = (L.filter p).length
  | [], k => by simp
  | x :: L, 0 => by
    show ((g x :: L).filter p).length = _
    rw [List.filter_cons, List.filter_cons, h]
    split <;> rfl
  | x :: L, k + 1 => by
    show ((x :: L.modify k g).filter p).length = _
    rw [List.filter_cons, List.filter_cons]
    split
    · rw [List.length_cons, List.length_cons, filter_modify_same h L k]
    · exact filter_modify_same h L k
theorem filter_modify_less {α : Type} {p : α → Bool} {g : α → α} : ∀ (A : List α) (x : α) (B : List α), p x = true → p (g x) = false → (((A ++ x :: B).modify A.length g).filter p).length + 1 = ((A ++ x :: B).filter p).length := fun A x B h1 h2 => by
  rw [modify_at]
  simp [h1, h2]
  omega
theorem filter_or {α : Type} {p q r : α → Bool} (h : ∀ x, r x = (p x || q x)) (h2 : ∀ x, (p x && q x) = false) : ∀ L : List α, (L.filter p).length + (L.filter q).length = (L.filter r).length
  | [] => rfl
  | x :: L => by
    have ih := filter_or h h2 L
    have a := h x
    have b := h2 x
    simp only [List.filter_cons]
    cases hp : p x <;> cases hq : q x <;> simp only [hp, hq] at a b <;> simp [a] <;> first | omega | cases b
theorem owned_len (L : List RIt) (o : Int) : ∀ N : Nat, (refOwned N L o).length = (L.filter fun x => decide (0 ≤ x.loc ∧ x.loc < (N : Int)) && (x.own == o)).length
  | 0 => by
    have : (L.filter fun x => decide (0 ≤ x.loc ∧ x.loc < ((0 : Nat) : Int)) && (x.own == o)) = [] := by
      rw [List.filter_eq_nil_iff]
      intro x _
      have h0 : ¬ (0 ≤ x.loc ∧ x.loc < ((0 : Nat) : Int)) := by omega
      rw [decide_eq_false h0]; simp
    rw [this]; rfl
  | N + 1 => by
    have ih := owned_len L o N
    unfold refOwned at ih ⊢
    rw [List.range_succ, List.flatMap_append, List.length_append, ih]
    have e : (List.flatMap (fun i : Nat => (rlist L i).filter fun x => x.own == o) [N]) = (rlist L N).filter fun x => x.own == o := by simp
    rw [e, ((rlist_perm N L).filter _).length_eq]
    unfold at_
    rw [List.filter_filter]
    refine filter_or (fun x => ?_) (fun x => ?_) L
    · by_cases ho : x.own = o
      · by_cases h1 : x.loc = N
        · have h2 : ¬ (0 ≤ x.loc ∧ x.loc < (N : Int)) := by omega
          have h3 : 0 ≤ x.loc ∧ x.loc < ((N + 1 : Nat) : Int) := by omega
          rw [decide_eq_false h2, decide_eq_true h3, decide_eq_true h1, ho]; simp
        · by_cases h2 : 0 ≤ x.loc ∧ x.loc < (N : Int)
          · have h3 : 0 ≤ x.loc ∧ x.loc < ((N + 1 : Nat) : Int) := by omega
            rw [decide_eq_true h2, decide_eq_true h3, decide_eq_false h1, ho]; simp
          · have h3 : ¬ (0 ≤ x.loc ∧ x.loc < ((N + 1 : Nat) : Int)) := by omega
            rw [decide_eq_false h2, decide_eq_false h3, decide_eq_false h1]; simp
      · have : (x.own == o) = false := by simpa using ho
        rw [this]; simp
    · by_cases h1 : x.loc = N
      · have h2 : ¬ (0 ≤ x.loc ∧ x.loc < (N : Int)) := by omega
        rw [decide_eq_false h2]; simp
      · rw [decide_eq_false h1]; simp
end
end Go.Proofs.Ytkmhabbpndcnkaa

/-
  PART: memory: the law MemoryApart, plainly: what Fulfil leaves.
-/
namespace Go.Proofs.Ytkmhabbpndcnkaa
open Go.RowKit
noncomputable section
theorem ful_list_len {N : Int} {L : List RIt} {loc to owner : Int} (l : Int) : (rlist (refFulfil N L loc to owner).1 l).length = (rlist L l).length := by
  rw [length_rlist, length_rlist]
  unfold refFulfil
  split
  · rfl
  · split
    · rfl
    · exact filter_modify_same (p := fun x => decide (x.loc = l)) (g := fun x => { x with own := -1 }) (fun x => rfl) L _
theorem ful_owned {N : Nat} {L : List RIt} {loc to owner : Int} (hL : GoodL N L) (h : (refFulfil N L loc to owner).2 = 0) : (refOwned N (refFulfil N L loc to owner).1 owner).length + 1 = (refOwned N L owner).length := by
  rw [owned_len, owned_len]
  unfold refFulfil at h ⊢
  split
  · rename_i h1; rw [if_pos h1] at h; cases h
  · rename_i h1
    rw [if_neg h1] at h
    split
    · rename_i h2; rw [if_pos h2] at h; cases h
    · rename_i h2
      obtain ⟨A, x, B, rfl, hx, hA, hk⟩ := findI_split (Int.not_lt.1 h2)
      rw [hk, Int.toNat_natCast]
      have hx' := hx
      simp only [ownedB, Bool.and_eq_true, beq_iff_eq, decide_eq_true_eq] at hx'
      have hm := hL.may x (by simp)
      refine filter_modify_less A x B ?_ ?_
      · have h3 : 0 ≤ x.loc ∧ x.loc < (N : Int) := ⟨hm.1, hm.2.1⟩
        rw [decide_eq_true h3, hx'.1.2]; simp
      · have h4 := hx'.1.1.1.1
        have : ((-1 : Int) == owner) = false := by simp; omega
        show (_ && ((-1 : Int) == owner)) = false
        rw [this]; simp
end
end Go.Proofs.Ytkmhabbpndcnkaa

/-
  PART: memory: the law MemoryApart, plainly: neighbours at one location.
-/
namespace Go.Proofs.Ytkmhabbpndcnkaa
open Go.RowKit
noncomputable section
theorem near {N : Nat} {L : List RIt} (h : GoodL N L) (loc : Int) {i : Nat} (hi : i + 1 < (rlist L loc).length) :
    apartR ((rlist L loc).getD i rz) ((rlist L loc).getD (i + 1) rz) = true ∧ ((rlist L loc).getD i rz).q ≤ ((rlist L loc).getD (i + 1) rz).p ∧ ((rlist L loc).getD (i + 1) rz).p < ((rlist L loc).getD (i + 1) rz).q := by
  have hx : (rlist L loc).getD i rz ∈ rlist L loc := getD_mem (by omega)
  have hy : (rlist L loc).getD (i + 1) rz ∈ rlist L loc := getD_mem hi
  have hp : (rlist L loc).Pairwise Fits := (List.Perm.pairwise_iff (fun h => Fits.symm h) (rlist_perm loc L)).2 (h.fits.sublist List.filter_sublist)
  have hu := up_rlist loc h
  have e1 : (rlist L loc).getD i rz = (rlist L loc)[i]'(by omega) := by simp [List.getD, show i < (rlist L loc).length by omega]
  have e2 : (rlist L loc).getD (i + 1) rz = (rlist L loc)[i + 1] := by simp [List.getD, hi]
  have hf : Fits ((rlist L loc).getD i rz) ((rlist L loc).getD (i + 1) rz) := by
    rw [e1, e2]; exact List.pairwise_iff_getElem.1 hp i (i + 1) (by omega) hi (by omega)
  have hq : ((rlist L loc).getD i rz).q < ((rlist L loc).getD (i + 1) rz).q := by
    rw [e1, e2]; exact List.pairwise_iff_getElem.1 hu i (i + 1) (by omega) hi (by omega)
  generalize (rlist L loc).getD i rz = x at *
  generalize (rlist L loc).getD (i + 1) rz = y at *
  obtain ⟨mx, lx⟩ := mem_rlist.1 hx
  obtain ⟨my, ly⟩ := mem_rlist.1 hy
  have hxo := (okS_iff _ _).1 (h.may x mx).2.2.1
  have hyo := (okS_iff _ _).1 (h.may y my).2.2.1
  have ha := (hf (by rw [lx, ly])).2
  refine ⟨ha, ?_, by omega⟩
  simp only [apartR, rapartB, decide_eq_true_eq] at ha
  omega
end
end Go.Proofs.Ytkmhabbpndcnkaa

/-
  PART: memory: the law MemoryApart, its table and its run ahead of the loop.
-/
namespace Go.Proofs.Ytkmhabbpndcnkaa
open Go.RowKit
noncomputable section
def tabR5' (f : Nat) (args : List AV) : Option (Tree AV) := match f, args with
  | 75, [.sl n 13 g _ _, .sl k 13 h _ _] => some (.side ((RowOk n g ∧ RowOk k h) ∧ n ≤ 100000 ∧ lstOf n g = lstOf k h) (.ret (.lit (.bool true))))
  | _, _ => none
theorem tabR5'_ok : TabFOk Try.prog tabR5' := by
  intro f args t a ht hh
  unfold tabR5' at ht
  split at ht
  · rename_i n g _ _ k h' _ _
    cases ht
    obtain ⟨⟨⟨h1, h2⟩, h3, h4⟩, hh⟩ := hh
    cases hh
    refine (alike_true (a := lstOf n g) (lstOf_ok h1) (by unfold lstOf; simpa using h3)).pre fun E vs h => ?_
    cases h with | cons q1 h => cases h with | cons q2 h =>
    exact .cons (rowI_of h1 q1) (.cons (by rw [h4]; exact rowI_of h2 q2) h)
  · cases ht
def tabR5 (f : Nat) (args : List AV) : Option (Tree AV) := match opened tabR5' f args with
  | some t => some t
  | none => tabR4 f args
theorem tabR5_ok : TabFOk Try.prog tabR5 := by
  intro f args t a ht hh
  unfold tabR5 at ht
  split at ht
  · rename_i u hu
    cases ht
    exact opened_okF tabR5'_ok _ _ _ _ hu hh
  · exact tabR4_ok _ _ _ _ ht hh
noncomputable def cxH (dec : List (Nat × Bool)) : Cx := ⟨Try.prog, ctrOf2 (opened tabM5) tabR5, decM dec⟩
theorem cxH_ok (dec : List (Nat × Bool)) : CtrOk (cxH dec) := ctrOf2_ok (opened_ok tabM5_ok) tabR5_ok _
noncomputable def cxI (dec : List (Nat × Bool)) : Cx := ⟨Try.prog, ctrOf2 (opened tabM6) tabR5, decM dec⟩
theorem cxI_ok (dec : List (Nat × Bool)) : CtrOk (cxI dec) := ctrOf2_ok (opened_ok tabM6_ok) tabR5_ok _
noncomputable def c13 : Code := codeOf Try.f13
noncomputable def res13 : St → Option AV := resF Try.prog Try.f13.results.toList
def args13 (U : List Int) (n : Nat) (d : Nat → Int) (X : Nat → RIt) : List AV := [rowU U, rowAct n d X]
noncomputable def body13 : Code := cin (cin (cr (cl (behind 4 c13))))
noncomputable def a13 : Code := cl (cl (behind 4 c13))
noncomputable def tail13 : Code := cr (behind 4 c13)
theorem code13 : c13 = seqs (firsts 4 c13) (.seq (.seq a13 (.block 0 (.loop body13))) tail13) := by kernel_rfl
noncomputable def top13 : Code := cl body13
noncomputable def blk13 : Code := cin (cl (cr body13))
noncomputable def nxt13 : Code := cr (cr body13)
noncomputable def ib13 : Code := cin (cin (behind 7 blk13))
theorem body13_eq : body13 = .seq top13 (.seq (.block 1 (seqs (firsts 7 blk13) (.block 3 (.loop ib13)))) nxt13) := by kernel_rfl
def ds13a : List (Nat × Bool) := [(1, false), (4, false), (5, false)]
def ds13b : List (Nat × Bool) := [(1, false), (4, false), (5, false), (7, true)]
def ds13c : List (Nat × Bool) := [(1, false), (4, false), (5, false), (7, true), (14, false), (15, true)]
def st13 (n : Nat) (d : Nat → Int) (X : Nat → RIt) (m : PM) : St := { sl := [(1, rowAct n d X), (4, .lit (.bool false)), (5, .ptr 0 0)], hp := [(0, some (.fix 81 (memCells m)))], nx := 1, rd := [], wr := [], ws := [], wb := [] }
def inv13 (n : Nat) (d : Nat → Int) (X : Nat → RIt) (m : PM) (i : Int) : St := { sl := [(1, rowAct n d X), (4, .lit (.bool false)), (5, .ptr 0 0), (7, iv i)], hp := [(0, some (.fix 81 (memCells m)))], nx := 1, rd := [], wr := [], ws := [], wb := [] }
def inn13 (n : Nat) (d : Nat → Int) (X : Nat → RIt) (m : PM) (i : Int) (l : List It) (j : Int) : St := { sl := [(1, rowAct n d X), (4, .lit (.bool false)), (5, .ptr 0 0), (7, iv i), (14, rowI l), (15, iv j)], hp := [(0, some (.fix 81 (memCells m)))], nx := 1, rd := [], wr := [], ws := [], wb := [] }
def badU (n : Nat) (U : List Int) : Bool := if decide ((n : Int) > 150) = true then true else if decide ((U.length : Int) < 1) = true then true else decide ((U.length : Int) > 4)
section
variable (U : List Int) (n : Nat) (d : Nat → Int) (X : Nat → RIt) (m : PM) (i j : Int) (l : List It)
theorem pre13 : (codeE (cxH [(38,false)]) (evs (cxH [(38,false)]) 60) (joins (firsts 4 c13)) (entry (args13 U n d X))).map (lfR 0 ds13a true res13) =
    .br (badU n U) (.ret (.out (.lit (.bool true)))) (.side (sideU U) (.side (((beginR (uU U)).2 != 0) = false) (.ret (.go .norm (some (st13 n d X (beginR (uU U)).1)))))) := by kernel_rfl
theorem init13 : (codeE (cxH []) (evs (cxH []) 60) a13 (st13 n d X m)).map (lfR 0 ds13b true res13) = .ret (.go .norm (some (inv13 n d X m 0))) := by kernel_rfl
theorem top13_eq : (codeE (cxH []) (evs (cxH []) 60) top13 (inv13 n d X m i)).map (lfR 0 ds13b true res13) = .br (decide (i < (n : Int))) (.ret (.go .norm (some (inv13 n d X m i)))) (.ret (.go (.exit 0) (some (inv13 n d X m i)))) := by kernel_rfl
theorem nxt13_eq : (codeE (cxH []) (evs (cxH []) 60) nxt13 (inn13 n d X m i l j)).map (lfR 0 ds13b true res13) = .ret (.go .norm (some (inv13 n d X m (IntKind.i64.wrap (i + 1))))) := by kernel_rfl
theorem end13 : (codeE (cxH []) (evs (cxH []) 60) tail13 (inv13 n d X m i)).map (lfR 0 [] false res13) = .ret (.out (.lit (.bool true))) := by kernel_rfl
end
noncomputable def actOf (cx : Cx) (n : Nat) (d : Nat → Int) (X : Nat → RIt) (m : PM) (i : Int) : Tree Lf := (codeE cx (evs cx 60) (joins (firsts 7 blk13)) (inv13 n d X m i)).map (lfR 0 ds13c true res13)
noncomputable def inOf (cx : Cx) (n : Nat) (d : Nat → Int) (X : Nat → RIt) (m : PM) (i : Int) (l : List It) (j : Int) : Tree Lf := (codeE cx (evs cx 60) ib13 (inn13 n d X m i l j)).map (lfR 0 ds13c true res13)
end
end Go.Proofs.Ytkmhabbpndcnkaa

/-
  PART: memory: the law MemoryApart, its rounds.
-/
namespace Go.Proofs.Ytkmhabbpndcnkaa
open Go.RowKit
noncomputable section
def lenNe (a b : List It) : Prop := (((a.length : Int)) != ((b.length : Int))) = false
def ownNe (a b : List It) : Prop := (((a.length : Int)) != IntKind.i64.wrap ((b.length : Int) + 1)) = false
def listSame (a b : List It) : Prop := (RowOk a.length (fun i => (a.getD i itz).cells) ∧ RowOk b.length (fun i => (b.getD i itz).cells)) ∧ a.length ≤ 100000 ∧ lstOf a.length (fun i => (a.getD i itz).cells) = lstOf b.length (fun i => (b.getD i itz).cells)
section
variable (n : Nat) (d : Nat → Int) (X : Nat → RIt) (m : PM) (i : Int)
def fu (X : Nat → RIt) (m : PM) (i : Int) : PM × Int := fulM (pmR m) (X i.toNat).loc (X i.toNat).q (X i.toNat).own
def ca (X : Nat → RIt) (m : PM) (i : Int) : PM × Int := canM (pmR m) (X i.toNat).loc (X i.toNat).q (X i.toNat).own
def ad (X : Nat → RIt) (m : PM) (i : Int) : PM × Int := addM (pmR m) (itOf (toIt (xOf X i)).cells)
def bk (X : Nat → RIt) (m : PM) (i : Int) : PM × Int := canM (pmR (ad X m i).1) (X i.toNat).loc (X i.toNat).q (X i.toNat).own
theorem fulOk13 : actOf (cxH [(100,true),(138,false),(147,true),(155,true),(161,false),(176,false)]) n d X m i =
    .side (ixA n i) ( .side (ixA n i) ( .side ((d i.toNat == 0) = true) ( .side (PmInR m) ( .side (PmInR m) ( .side (PmInR (fu X m i).1) ( .side (((fu X m i).2 != 0) = false) ( .side (((fu X m i).2 == 0) = true) ( .side (ixA n i) ( .side ((d i.toNat == 0) = true) ( .side (lenNe (listM (pmR m) (X i.toNat).loc) (listM (pmR (fu X m i).1) (X i.toNat).loc)) ( .side (PmInR m) ( .side (PmInR (fu X m i).1) ( .side (ownNe (ownedM (pmR m) (X i.toNat).own) (ownedM (pmR (fu X m i).1) (X i.toNat).own)) ((.ret (.go .norm (some (inn13 n d X (fu X m i).1 i (listM (pmR (fu X m i).1) (X i.toNat).loc) 1)))))))))))))))))) := by kernel_rfl
theorem fulNo13 : actOf (cxH [(100,true),(138,true),(147,false)]) n d X m i =
    .side (ixA n i) ( .side (ixA n i) ( .side ((d i.toNat == 0) = true) ( .side (PmInR m) ( .side (PmInR m) ( .side (PmInR (fu X m i).1) ( .side (((fu X m i).2 != 0) = true) ( .side (listSame (listM (pmR m) (X i.toNat).loc) (listM (pmR (fu X m i).1) (X i.toNat).loc)) ( .side (((fu X m i).2 == 0) = false) ((.ret (.go .norm (some (inn13 n d X (fu X m i).1 i (listM (pmR (fu X m i).1) (X i.toNat).loc) 1))))))))))))) := by kernel_rfl
theorem canOk13 : actOf (cxH [(100,false),(114,true),(138,false),(147,true),(155,false)]) n d X m i =
    .side (ixA n i) ( .side (ixA n i) ( .side ((d i.toNat == 0) = false) ( .side ((d i.toNat == 1) = true) ( .side (PmInR m) ( .side (PmInR m) ( .side (PmInR (ca X m i).1) ( .side (((ca X m i).2 != 0) = false) ( .side (((ca X m i).2 == 0) = true) ( .side (ixA n i) ( .side ((d i.toNat == 0) = false) ((.ret (.go .norm (some (inn13 n d X (ca X m i).1 i (listM (pmR (ca X m i).1) (X i.toNat).loc) 1))))))))))))))) := by kernel_rfl
theorem canNo13 : actOf (cxH [(100,false),(114,true),(138,true),(147,false)]) n d X m i =
    .side (ixA n i) ( .side (ixA n i) ( .side ((d i.toNat == 0) = false) ( .side ((d i.toNat == 1) = true) ( .side (PmInR m) ( .side (PmInR m) ( .side (PmInR (ca X m i).1) ( .side (((ca X m i).2 != 0) = true) ( .side (listSame (listM (pmR m) (X i.toNat).loc) (listM (pmR (ca X m i).1) (X i.toNat).loc)) ( .side (((ca X m i).2 == 0) = false) ((.ret (.go .norm (some (inn13 n d X (ca X m i).1 i (listM (pmR (ca X m i).1) (X i.toNat).loc) 1)))))))))))))) := by kernel_rfl
theorem addNo13 : actOf (cxH [(100,false),(114,false),(65,false),(138,true),(147,false)]) n d X m i =
    .side (ixA n i) ( .side (ixA n i) ( .side ((d i.toNat == 0) = false) ( .side ((d i.toNat == 1) = false) ( .side (IsR (X i.toNat).cells ∧ okS (xOf X i).p (xOf X i).q = true) ( .side (PmInR m) ( .side (IsIt (toIt (xOf X i)).cells) ( .side (((ad X m i).2 == 0) = false) ( .side (PmInR m) ( .side (PmInR (ad X m i).1) ( .side (((ad X m i).2 != 0) = true) ( .side (listSame (listM (pmR m) (X i.toNat).loc) (listM (pmR (ad X m i).1) (X i.toNat).loc)) ( .side (((ad X m i).2 == 0) = false) ((.ret (.go .norm (some (inn13 n d X (ad X m i).1 i (listM (pmR (ad X m i).1) (X i.toNat).loc) 1))))))))))))))))) := by kernel_rfl
theorem addOkA13 : actOf (cxH [(100,false),(114,false),(65,true),(69,false),(138,false),(147,true),(155,false)]) n d X m i =
    .side (ixA n i) ( .side (ixA n i) ( .side ((d i.toNat == 0) = false) ( .side ((d i.toNat == 1) = false) ( .side (IsR (X i.toNat).cells ∧ okS (xOf X i).p (xOf X i).q = true) ( .side (PmInR m) ( .side (IsIt (toIt (xOf X i)).cells) ( .side (((ad X m i).2 == 0) = true) ( .side ((X i.toNat).res = false) ( .side (PmInR m) ( .side (PmInR (ad X m i).1) ( .side (((ad X m i).2 != 0) = false) ( .side (((ad X m i).2 == 0) = true) ( .side (ixA n i) ( .side ((d i.toNat == 0) = false) ((.ret (.go .norm (some (inn13 n d X (ad X m i).1 i (listM (pmR (ad X m i).1) (X i.toNat).loc) 1))))))))))))))))))) := by kernel_rfl
theorem addOkB13 : actOf (cxH [(100,false),(114,false),(65,true),(69,true),(73,false),(138,false),(147,true),(155,false)]) n d X m i =
    .side (ixA n i) ( .side (ixA n i) ( .side ((d i.toNat == 0) = false) ( .side ((d i.toNat == 1) = false) ( .side (IsR (X i.toNat).cells ∧ okS (xOf X i).p (xOf X i).q = true) ( .side (PmInR m) ( .side (IsIt (toIt (xOf X i)).cells) ( .side (((ad X m i).2 == 0) = true) ( .side ((X i.toNat).res = true) ( .side (decide ((X i.toNat).own ≥ 0) = false) ( .side (PmInR m) ( .side (PmInR (ad X m i).1) ( .side (((ad X m i).2 != 0) = false) ( .side (((ad X m i).2 == 0) = true) ( .side (ixA n i) ( .side ((d i.toNat == 0) = false) ((.ret (.go .norm (some (inn13 n d X (ad X m i).1 i (listM (pmR (ad X m i).1) (X i.toNat).loc) 1)))))))))))))))))))) := by kernel_rfl
theorem addOkC13 : actOf (cxH [(100,false),(114,false),(65,true),(69,true),(73,true),(88,false),(138,false),(147,true),(155,false)]) n d X m i =
    .side (ixA n i) ( .side (ixA n i) ( .side ((d i.toNat == 0) = false) ( .side ((d i.toNat == 1) = false) ( .side (IsR (X i.toNat).cells ∧ okS (xOf X i).p (xOf X i).q = true) ( .side (PmInR m) ( .side (IsIt (toIt (xOf X i)).cells) ( .side (((ad X m i).2 == 0) = true) ( .side ((X i.toNat).res = true) ( .side (decide ((X i.toNat).own ≥ 0) = true) ( .side (PmInR (ad X m i).1) ( .side (((bk X m i).2 != 0) = false) ( .side (PmInR (bk X m i).1) ( .side (PmInR m) ( .side (listSame (listM (pmR (bk X m i).1) (X i.toNat).loc) (listM (pmR m) (X i.toNat).loc)) ( .side (PmInR m) ( .side (PmInR (ad X m i).1) ( .side (((ad X m i).2 != 0) = false) ( .side (((ad X m i).2 == 0) = true) ( .side (ixA n i) ( .side ((d i.toNat == 0) = false) ((.ret (.go .norm (some (inn13 n d X (ad X m i).1 i (listM (pmR (ad X m i).1) (X i.toNat).loc) 1))))))))))))))))))))))))) := by kernel_rfl
theorem addBad13 : actOf (cxI [(100,false),(114,false),(65,false),(138,true),(147,false)]) n d X m i =
    .side (ixA n i) ( .side (ixA n i) ( .side ((d i.toNat == 0) = false) ( .side ((d i.toNat == 1) = false) ( .side (IsR (X i.toNat).cells ∧ okS (xOf X i).p (xOf X i).q = false) ( .side (PmInR m) ( .side (badR (xOf X i) = badC (rawIt (badR (xOf X i)))) ( .side (((1 : Int) == 0) = false) ( .side (PmInR m) ( .side (PmInR (pmR m)) ( .side (((1 : Int) != 0) = true) ( .side (listSame (listM (pmR m) (X i.toNat).loc) (listM (pmR (pmR m)) (X i.toNat).loc)) ( .side (((1 : Int) == 0) = false) ((.ret (.go .norm (some (inn13 n d X (pmR m) i (listM (pmR (pmR m)) (X i.toNat).loc) 1))))))))))))))))) := by kernel_rfl
end
end
end Go.Proofs.Ytkmhabbpndcnkaa

/-
  PART: memory: the law MemoryApart, its inner rounds; what lists are.
-/
namespace Go.Proofs.Ytkmhabbpndcnkaa
open Go.RowKit
noncomputable section
def itA (l : List It) (k : Int) : It := l.getD k.toNat itz
def frU (x : It) : Int := endS (unF (F x.a)) (unF (F x.b)) (unF (F x.a))
def toU (x : It) : Int := endS (unF (F x.a)) (unF (F x.b)) (unF (F x.b))
def fOk (x : It) : Prop := IsF (F x.a) ∧ IsF (F x.b)
def ixL (l : List It) (k : Int) : Prop := 0 ≤ k ∧ k < (l.length : Int)
section
variable (n : Nat) (d : Nat → Int) (X : Nat → RIt) (m : PM) (i : Int) (l : List It) (j : Int)
theorem in13 : inOf (cxH [(180,true),(215,false),(222,false),(228,false)]) n d X m i l j =
    .side (decide (j < (l.length : Int)) = true) (.side (ixL l (IntKind.i64.wrap (j - 1))) (.side (fOk (itA l (IntKind.i64.wrap (j - 1)))) (.side (ixL l (IntKind.i64.wrap (j - 1))) (.side (fOk (itA l (IntKind.i64.wrap (j - 1)))) (.side (ixL l j) (.side (fOk (itA l j)) (.side (ixL l j) (.side (fOk (itA l j))
    (.side ((!rapartB (frU (itA l (IntKind.i64.wrap (j - 1)))) (toU (itA l (IntKind.i64.wrap (j - 1)))) (frU (itA l j)) (toU (itA l j))) = false)
    (.side (decide (frU (itA l j) < toU (itA l (IntKind.i64.wrap (j - 1)))) = false)
    (.side (decide (toU (itA l j) ≤ frU (itA l j)) = false) (.ret (.go .norm (some (inn13 n d X m i l (IntKind.i64.wrap (j + 1))))))))))))))))) := by kernel_rfl
theorem stop13i : inOf (cxH [(180,false)]) n d X m i l j = .side (decide (j < (l.length : Int)) = false) (.ret (.go (.exit 3) (some (inn13 n d X m i l j)))) := by kernel_rfl
end
theorem it_fOk {x : It} (h : x.Ok) : fOk x := ⟨⟨x.a, h.1, rfl⟩, ⟨x.b, h.2.1, rfl⟩⟩
theorem frU_eq {x : It} (h : x.Ok) : frU x = endS x.a x.b x.a := by
  unfold frU; rw [unF_F (by have := h.1; omega), unF_F (by have := h.2.1; omega)]
theorem toU_eq {x : It} (h : x.Ok) : toU x = endS x.a x.b x.b := by
  unfold toU; rw [unF_F (by have := h.1; omega), unF_F (by have := h.2.1; omega)]
theorem listSame_of {a b : List It} (ha : OkL a) (h : a = b) (hl : a.length ≤ 100000) : listSame a b := by
  subst h
  exact ⟨⟨rowOk_getI ha, rowOk_getI ha⟩, hl, rfl⟩
theorem lenNe_of {a b : List It} (h : a.length = b.length) : lenNe a b := by unfold lenNe; rw [h]; simp
theorem ownNe_of {a b : List It} (h : b.length + 1 = a.length) (hl : a.length ≤ 100000) : ownNe a b := by
  unfold ownNe
  rw [IntWalk.i64_in _ (by omega), ← h]
  simp
end
end Go.Proofs.Ytkmhabbpndcnkaa

/-
  PART: memory: the law MemoryApart, a round.
-/
namespace Go.Proofs.Ytkmhabbpndcnkaa
open Go.RowKit
noncomputable section
structure K13 where
  i : Nat
  m : PM
  L : List RIt
structure J13 (n N : Nat) (k : K13) : Prop where
  i : k.i ≤ n
  both : Both k.m N k.L (4 + k.i)
structure I13 where
  m : PM
  L : List RIt
  j : Nat
structure JI13 (N K : Nat) (loc : Int) (k : I13) : Prop where
  both : Both k.m N k.L K
  j : 1 ≤ k.j
  top : k.j ≤ max 1 (listM k.m loc).length
def Inv13 (n : Nat) (d : Nat → Int) (X : Nat → RIt) (k : K13) : St := inv13 n d X k.m k.i
def Inn13 (n : Nat) (d : Nat → Int) (X : Nat → RIt) (i : Nat) (k : I13) : St := inn13 n d X k.m i (listM k.m (X i).loc) k.j
def Out13 (n : Nat) (d : Nat → Int) (X : Nat → RIt) (s : St) : Prop := ∃ k : K13, s = Inv13 n d X k
theorem Both.list {m : PM} {N : Nat} {L : List RIt} {k : Nat} (h : Both m N L k) (loc : Int) : listM m loc = (rlist L loc).map toIt := listM_rel h.rel loc
theorem Both.listOk {m : PM} {N : Nat} {L : List RIt} {k : Nat} (h : Both m N L k) (hk : k ≤ 500) (loc : Int) : OkL (listM m loc) ∧ (listM m loc).length ≤ 100000 := by
  have hl : (listM m loc).length ≤ L.length := by
    rw [h.list, List.length_map, length_rlist]
    exact List.length_filter_le _ _
  have := h.len
  refine ⟨⟨by omega, fun y hy => ?_⟩, by omega⟩
  rw [h.list] at hy
  obtain ⟨x, hx, rfl⟩ := List.mem_map.1 hy
  have hx := (mem_rlist.1 hx).1
  exact toIt_ok (h.rel.good.may x hx).2.2.1 (rel_vz h.rel x hx)
section
variable {n : Nat} {d : Nat → Int} {X : Nat → RIt} {N : Nat} {B : Start}
theorem toIt_getD {l : List RIt} {k : Nat} (h : k < l.length) : (l.map toIt).getD k itz = toIt (l.getD k rz) := by
  simp [List.getD, h]
/-- The inner loop's rounds. -/
theorem inner13 {ctr : Nat → List AV → St → Option (Tree (AV × St))} {dec : Nat → St → Option Bool} (hB : B.nx0 = 0) (hN : codeOk B.N ib13 = true) (i K : Nat) (hK : K ≤ 500) {O : AV → Prop} (k : I13) (hk : JI13 N K (X i).loc k) :
    WpC (Cx.mk Try.prog ctr dec).P B ib13 (Inn13 n d X i k) (Round B res13 (Inn13 n d X i) (JI13 N K (X i).loc) (fun k => (listM k.m (X i).loc).length - k.j) 3 k (fun s => ∃ k, JI13 N K (X i).loc k ∧ s = Inn13 n d X i k) O) := by
  have hj := hk.j
  have ht := hk.top
  obtain ⟨hO, hl⟩ := hk.both.listOk hK (X i).loc
  by_cases hlt : k.j < (listM k.m (X i).loc).length
  · refine wpc_endH (cx := cxH [(180,true),(215,false),(222,false),(228,false)]) (n := 60) (ds := ds13c) (gb := true) (cxH_ok _) fitTry hN ?_
    rw [hB]
    show (inOf (cxH [(180,true),(215,false),(222,false),(228,false)]) n d X k.m i (listM k.m (X i).loc) k.j).wp _
    rw [in13]
    have e1 : IntKind.i64.wrap ((k.j : Int) - 1) = ((k.j - 1 : Nat) : Int) := by rw [IntWalk.i64_in _ (by omega)]; omega
    have e2 : IntKind.i64.wrap ((k.j : Int) + 1) = ((k.j + 1 : Nat) : Int) := by rw [IntWalk.i64_in _ (by omega)]; rfl
    rw [e1, e2]
    have eL := hk.both.list (X i).loc
    have hlr : (listM k.m (X i).loc).length = (rlist k.L (X i).loc).length := by rw [eL, List.length_map]
    have hn := near hk.both.rel.good (X i).loc (i := k.j - 1) (by omega)
    have e3 : k.j - 1 + 1 = k.j := by omega
    rw [e3] at hn
    have a1 : itA (listM k.m (X i).loc) ((k.j - 1 : Nat) : Int) = toIt ((rlist k.L (X i).loc).getD (k.j - 1) rz) := by
      unfold itA; rw [Int.toNat_natCast, eL, toIt_getD (by omega)]
    have a2 : itA (listM k.m (X i).loc) (k.j : Int) = toIt ((rlist k.L (X i).loc).getD k.j rz) := by
      unfold itA; rw [Int.toNat_natCast, eL, toIt_getD (by omega)]
    have m1 := (mem_rlist.1 (getD_mem (show k.j - 1 < (rlist k.L (X i).loc).length by omega))).1
    have m2 := (mem_rlist.1 (getD_mem (show k.j < (rlist k.L (X i).loc).length by omega))).1
    rw [a1, a2]
    generalize (rlist k.L (X i).loc).getD (k.j - 1) rz = x at *
    generalize (rlist k.L (X i).loc).getD k.j rz = y at *
    have ox := (hk.both.rel.good.may x m1).2.2.1
    have oy := (hk.both.rel.good.may y m2).2.2.1
    have tx := toIt_ok ox (rel_vz hk.both.rel x m1)
    have ty := toIt_ok oy (rel_vz hk.both.rel y m2)
    have f1 : frU (toIt x) = x.p := by rw [frU_eq tx, from_toIt ox]
    have f2 : toU (toIt x) = x.q := by rw [toU_eq tx, end_toIt ox]
    have f3 : frU (toIt y) = y.p := by rw [frU_eq ty, from_toIt oy]
    have f4 : toU (toIt y) = y.q := by rw [toU_eq ty, end_toIt oy]
    rw [f1, f2, f3, f4]
    have hx1 : ixL (listM k.m (X i).loc) ((k.j - 1 : Nat) : Int) := ⟨by omega, by omega⟩
    have hx2 : ixL (listM k.m (X i).loc) (k.j : Int) := ⟨by omega, by omega⟩
    have hap : rapartB x.p x.q y.p y.q = true := hn.1
    refine ⟨decide_eq_true (by omega), hx1, it_fOk tx, hx1, it_fOk tx, hx2, it_fOk ty, hx2, it_fOk ty, by rw [hap]; rfl, decide_eq_false (by omega), decide_eq_false (by omega), ?_⟩
    exact ⟨⟨k.m, k.L, k.j + 1⟩, .refl _, ⟨hk.both, by show 1 ≤ k.j + 1; omega, by show k.j + 1 ≤ max 1 (listM k.m (X i).loc).length; omega⟩, by show (listM k.m (X i).loc).length - (k.j + 1) < (listM k.m (X i).loc).length - k.j; omega⟩
  · refine wpc_endH (cx := cxH [(180,false)]) (n := 60) (ds := ds13c) (gb := true) (cxH_ok _) fitTry hN ?_
    rw [hB]
    show (inOf (cxH [(180,false)]) n d X k.m i (listM k.m (X i).loc) k.j).wp _
    rw [stop13i]
    exact ⟨decide_eq_false (by omega), rfl, _, .refl _, k, hk, rfl⟩
set_option maxRecDepth 100000 in
/-- Behind an act: neighbours, and on. -/
theorem mid13 {ctr : Nat → List AV → St → Option (Tree (AV × St))} {dec : Nat → St → Option Bool} (hc : CtrOk ⟨Try.prog, ctr, dec⟩) (hB : B.nx0 = 0) (hN1 : codeOk B.N ib13 = true ∧ codeOk B.N nxt13 = true ∧ ((firsts 7 blk13).all fun a => codeOk B.N a) = true) (hn : n ≤ 150) {O : AV → Prop} {k : K13} (hk : J13 n N k) (hlt : k.i < n) {m' : PM} {L' : List RIt} (h : Both m' N L' (4 + k.i + 1))
    (ha : (actOf ⟨Try.prog, ctr, dec⟩ n d X k.m k.i).wp (LfQ (fun x s => x = .norm ∧ s = inn13 n d X m' k.i (listM m' (X k.i).loc) 1) fun _ => False)) :
    WpC Try.prog B (.seq (.block 1 (seqs (firsts 7 blk13) (.block 3 (.loop ib13)))) nxt13) (inv13 n d X k.m k.i) (Round B res13 (Inv13 n d X) (J13 n N) (fun k => n - k.i) 0 k (Out13 n d X) O) := by
  refine wpc_nestH (cx := ⟨Try.prog, ctr, dec⟩) (n := 60) (ds := ds13c) (gb := true) (res := res13) (O := O) hc fitTry (Inn13 n d X k.i) (JI13 N (4 + k.i + 1) (X k.i).loc) (fun q => (listM q.m (X k.i).loc).length - q.j) (fun s => ∃ q, JI13 N (4 + k.i + 1) (X k.i).loc q ∧ s = Inn13 n d X k.i q) (by simp [firsts]) hN1.2.2 ?_ (fun q hq => inner13 hB hN1.1 k.i _ (by omega) q hq) (fun s a h1 h2 => .inr (.inr ⟨rfl, a, h1, h2⟩)) ?_
  · rw [hB]
    refine Tree.wp_imp (fun q hq => ?_) ha
    cases q with
    | out a => exact hq
    | go x m0 =>
      cases m0 with
      | none => exact hq
      | some m0 =>
        obtain ⟨rfl, rfl⟩ := hq
        exact ⟨rfl, ⟨m', L', 1⟩, .refl _, ⟨h, Nat.le_refl _, Nat.le_max_left _ _⟩⟩
  · rintro s ⟨q, hq, rfl⟩
    refine wpc_endH (cx := cxH []) (n := 60) (ds := ds13b) (gb := true) (cxH_ok _) fitTry hN1.2.1 ?_
    rw [hB]
    show ((codeE (cxH []) (evs (cxH []) 60) nxt13 (inn13 n d X q.m k.i (listM q.m (X k.i).loc) q.j)).map (lfR 0 ds13b true res13)).wp _
    rw [nxt13_eq]
    have hw : IntKind.i64.wrap ((k.i : Int) + 1) = ((k.i + 1 : Nat) : Int) := by rw [IntWalk.i64_in _ (by omega)]; rfl
    rw [hw]
    exact ⟨⟨k.i + 1, q.m, q.L⟩, .refl _, ⟨hlt, hq.both⟩, by show n - (k.i + 1) < n - k.i; omega⟩
end
end
end Go.Proofs.Ytkmhabbpndcnkaa

/-
  PART: memory: the law MemoryApart, a round's ways.
-/
namespace Go.Proofs.Ytkmhabbpndcnkaa
open Go.RowKit
noncomputable section
section
variable {n : Nat} {d : Nat → Int} {X : Nat → RIt} {N : Nat}
theorem eq0_of {x : Int} (h : x = 0) : (x != 0) = false ∧ (x == 0) = true := by subst h; exact ⟨rfl, rfl⟩
theorem ne0_of {x : Int} (h : x ≠ 0) : (x != 0) = true ∧ (x == 0) = false := by simp [h]
def End13 (n : Nat) (d : Nat → Int) (X : Nat → RIt) (m' : PM) (i : Nat) : Ex → St → Prop := fun x s => x = .norm ∧ s = inn13 n d X m' i (listM m' (X i).loc) 1
theorem ix13 {i : Nat} (h : i < n) : ixA n (i : Int) := ⟨by omega, by omega⟩
theorem okOf {m : PM} {L : List RIt} {k : Nat} (h : Both m N L k) (hk : k ≤ 200) : PmFit m ∧ PmInR m := ⟨h.fit (by omega), pmInR (h.fit (by omega))⟩
theorem ful13 {k : K13} (hk : J13 n N k) (hn : n ≤ 150) (hlt : k.i < n) (h0 : (d k.i == 0) = true) : ∃ dec m' L', Both m' N L' (4 + k.i + 1) ∧ (actOf (cxH dec) n d X k.m k.i).wp (LfQ (End13 n d X m' k.i) fun _ => False) := by
  have hb := hk.both
  obtain ⟨hm, hi⟩ := okOf hb (by omega)
  obtain ⟨h1, h2⟩ := hb.ful (X k.i).loc (X k.i).q (X k.i).own
  obtain ⟨hm', hi'⟩ := okOf h2 (by omega)
  have ef : fu X k.m k.i = fulM k.m (X k.i).loc (X k.i).q (X k.i).own := by unfold fu; rw [pmR_eq hm, Int.toNat_natCast]
  have hix : ixA n (k.i : Int) := ix13 hlt
  by_cases hc : (refFulfil N k.L (X k.i).loc (X k.i).q (X k.i).own).2 = 0
  · refine ⟨[(100,true),(138,false),(147,true),(155,true),(161,false),(176,false)], _, _, h2, ?_⟩
    rw [fulOk13, ef, pmR_eq hm, pmR_eq hm', Int.toNat_natCast]
    obtain ⟨c1, c2⟩ := eq0_of (h1.trans hc)
    refine ⟨hix, hix, h0, hi, hi, hi', c1, c2, hix, h0, lenNe_of ?_, hi, hi', ownNe_of ?_ ?_, rfl, rfl⟩
    · rw [hb.list, h2.list, List.length_map, List.length_map, ful_list_len]
    · rw [ownedM_rel hb.rel, ownedM_rel h2.rel, List.length_map, List.length_map]
      exact ful_owned hb.rel.good hc
    · rw [ownedM_rel hb.rel, List.length_map, owned_len]
      have := hb.len
      have := List.length_filter_le (fun x => decide (0 ≤ x.loc ∧ x.loc < (N : Int)) && (x.own == (X k.i).own)) k.L
      omega
  · refine ⟨[(100,true),(138,true),(147,false)], _, _, h2, ?_⟩
    rw [fulNo13, ef, pmR_eq hm, pmR_eq hm', Int.toNat_natCast]
    obtain ⟨c1, c2⟩ := ne0_of (x := (fulM k.m (X k.i).loc (X k.i).q (X k.i).own).2) (by rw [h1]; exact hc)
    obtain ⟨q1, q2⟩ := hb.listOk (by omega) (X k.i).loc
    refine ⟨hix, hix, h0, hi, hi, hi', c1, listSame_of q1 ?_ q2, c2, rfl, rfl⟩
    rw [hb.list, h2.list, refFul_no hc]
theorem can13 {k : K13} (hk : J13 n N k) (hn : n ≤ 150) (hlt : k.i < n) (h0 : (d k.i == 0) = false) (h3 : (d k.i == 1) = true) : ∃ dec m' L', Both m' N L' (4 + k.i + 1) ∧ (actOf (cxH dec) n d X k.m k.i).wp (LfQ (End13 n d X m' k.i) fun _ => False) := by
  have hb := hk.both
  obtain ⟨hm, hi⟩ := okOf hb (by omega)
  obtain ⟨h1, h2⟩ := hb.can (X k.i).loc (X k.i).q (X k.i).own
  obtain ⟨hm', hi'⟩ := okOf h2 (by omega)
  have ef : ca X k.m k.i = canM k.m (X k.i).loc (X k.i).q (X k.i).own := by unfold ca; rw [pmR_eq hm, Int.toNat_natCast]
  have hix : ixA n (k.i : Int) := ix13 hlt
  by_cases hc : (refCancel N k.L (X k.i).loc (X k.i).q (X k.i).own).2 = 0
  · refine ⟨[(100,false),(114,true),(138,false),(147,true),(155,false)], _, _, h2, ?_⟩
    rw [canOk13, ef, pmR_eq hm', Int.toNat_natCast]
    obtain ⟨c1, c2⟩ := eq0_of (h1.trans hc)
    exact ⟨hix, hix, h0, h3, hi, hi, hi', c1, c2, hix, h0, rfl, rfl⟩
  · refine ⟨[(100,false),(114,true),(138,true),(147,false)], _, _, h2, ?_⟩
    rw [canNo13, ef, pmR_eq hm, pmR_eq hm', Int.toNat_natCast]
    obtain ⟨c1, c2⟩ := ne0_of (x := (canM k.m (X k.i).loc (X k.i).q (X k.i).own).2) (by rw [h1]; exact hc)
    obtain ⟨q1, q2⟩ := hb.listOk (by omega) (X k.i).loc
    refine ⟨hix, hix, h0, h3, hi, hi, hi', c1, listSame_of q1 ?_ q2, c2, rfl, rfl⟩
    rw [hb.list, h2.list, refCan_no hc]
set_option maxRecDepth 100000 in
theorem add13 {k : K13} (hk : J13 n N k) (hn : n ≤ 150) (hlt : k.i < n) (h0 : (d k.i == 0) = false) (h3 : (d k.i == 1) = false) (hX : RVz (X k.i)) (hs : okS (X k.i).p (X k.i).q = true) :
    ∃ dec m' L', Both m' N L' (4 + k.i + 1) ∧ (actOf (cxH dec) n d X k.m k.i).wp (LfQ (End13 n d X m' k.i) fun _ => False) := by
  have hb := hk.both
  obtain ⟨hm, hi⟩ := okOf hb (by omega)
  obtain ⟨h1, h2⟩ := hb.add (x := X k.i) hs hX
  obtain ⟨hm', hi'⟩ := okOf h2 (by omega)
  have hit := toIt_ok hs hX
  have hx : xOf X (k.i : Int) = X k.i := by unfold xOf; rw [Int.toNat_natCast]; exact ritOf_cells hX
  have hxc : IsR (X k.i).cells := isR hX
  have ef : ad X k.m k.i = addM k.m (toIt (X k.i)) := by unfold ad; rw [pmR_eq hm, hx, itOf_cells hit]
  have hix : ixA n (k.i : Int) := ix13 hlt
  by_cases hc : (refAdd N k.L (X k.i)).2 = 0
  · obtain ⟨c1, c2⟩ := eq0_of (h1.trans hc)
    cases hr : (X k.i).res with
    | false =>
      refine ⟨[(100,false),(114,false),(65,true),(69,false),(138,false),(147,true),(155,false)], _, _, h2, ?_⟩
      rw [addOkA13, ef, pmR_eq hm', Int.toNat_natCast, hx]
      exact ⟨hix, hix, h0, h3, ⟨hxc, hs⟩, hi, isIt hit, c2, hr, hi, hi', c1, c2, hix, h0, rfl, rfl⟩
    | true =>
      by_cases ho : (X k.i).own ≥ 0
      · refine ⟨[(100,false),(114,false),(65,true),(69,true),(73,true),(88,false),(138,false),(147,true),(155,false)], _, _, h2, ?_⟩
        obtain ⟨g1, g2⟩ := h2.can (X k.i).loc (X k.i).q (X k.i).own
        obtain ⟨hm2, hi2⟩ := okOf g2 (by omega)
        have eb : bk X k.m k.i = canM (addM k.m (toIt (X k.i))).1 (X k.i).loc (X k.i).q (X k.i).own := by unfold bk; rw [ef, pmR_eq hm', Int.toNat_natCast]
        have hL : (refAdd N k.L (X k.i)).1 = k.L ++ [X k.i] := refAdd_ok hc
        have hback : refCancel N (refAdd N k.L (X k.i)).1 (X k.i).loc (X k.i).q (X k.i).own = (k.L, 0) := by
          have hg := h2.rel.good
          rw [hL] at hg ⊢
          exact cancel_back hg hr ho
        rw [addOkC13, eb, ef, pmR_eq hm, pmR_eq hm', pmR_eq hm2, Int.toNat_natCast, hx]
        obtain ⟨b1, b2⟩ := eq0_of (g1.trans (by rw [hback]))
        obtain ⟨q1, q2⟩ := g2.listOk (by omega) (X k.i).loc
        refine ⟨hix, hix, h0, h3, ⟨hxc, hs⟩, hi, isIt hit, c2, hr, decide_eq_true ho, hi', b1, hi2, hi, listSame_of q1 ?_ q2, hi, hi', c1, c2, hix, h0, rfl, rfl⟩
        rw [g2.list, hb.list, hback]
      · refine ⟨[(100,false),(114,false),(65,true),(69,true),(73,false),(138,false),(147,true),(155,false)], _, _, h2, ?_⟩
        rw [addOkB13, ef, pmR_eq hm', Int.toNat_natCast, hx]
        exact ⟨hix, hix, h0, h3, ⟨hxc, hs⟩, hi, isIt hit, c2, hr, decide_eq_false ho, hi, hi', c1, c2, hix, h0, rfl, rfl⟩
  · refine ⟨[(100,false),(114,false),(65,false),(138,true),(147,false)], _, _, h2, ?_⟩
    rw [addNo13, ef, pmR_eq hm, pmR_eq hm', Int.toNat_natCast, hx]
    obtain ⟨c1, c2⟩ := ne0_of (x := (addM k.m (toIt (X k.i))).2) (by rw [h1]; exact hc)
    obtain ⟨q1, q2⟩ := hb.listOk (by omega) (X k.i).loc
    refine ⟨hix, hix, h0, h3, ⟨hxc, hs⟩, hi, isIt hit, c2, hi, hi', c1, listSame_of q1 ?_ q2, c2, rfl, rfl⟩
    rw [hb.list, h2.list, refAdd_no hc]
theorem bad13 {k : K13} (hk : J13 n N k) (hn : n ≤ 150) (hlt : k.i < n) (h0 : (d k.i == 0) = false) (h3 : (d k.i == 1) = false) (hX : RVz (X k.i)) (hs : okS (X k.i).p (X k.i).q = false) :
    ∃ dec m' L', Both m' N L' (4 + k.i + 1) ∧ (actOf (cxI dec) n d X k.m k.i).wp (LfQ (End13 n d X m' k.i) fun _ => False) := by
  have hb := hk.both
  obtain ⟨hm, hi⟩ := okOf hb (by omega)
  have hx : xOf X (k.i : Int) = X k.i := by unfold xOf; rw [Int.toNat_natCast]; exact ritOf_cells hX
  have hix : ixA n (k.i : Int) := ix13 hlt
  refine ⟨[(100,false),(114,false),(65,false),(138,true),(147,false)], k.m, k.L, hb.le (Nat.le_succ _), ?_⟩
  rw [addBad13, pmR_eq hm, pmR_eq hm, Int.toNat_natCast, hx]
  obtain ⟨q1, q2⟩ := hb.listOk (by omega) (X k.i).loc
  exact ⟨hix, hix, h0, h3, ⟨isR hX, hs⟩, hi, rfl, rfl, hi, hi, rfl, listSame_of q1 rfl q2, rfl, rfl, rfl⟩
end
end
end Go.Proofs.Ytkmhabbpndcnkaa

/-
  PART: memory: the law MemoryApart answers true.
-/
namespace Go.Proofs.Ytkmhabbpndcnkaa
open Go.RowKit
noncomputable section
section
variable {n : Nat} {d : Nat → Int} {X : Nat → RIt} {N : Nat} {B : Start}
set_option maxRecDepth 100000 in
theorem round13 (hB : B.nx0 = 0) (hT : codeOk B.N top13 = true) (hN1 : codeOk B.N ib13 = true ∧ codeOk B.N nxt13 = true ∧ ((firsts 7 blk13).all fun a => codeOk B.N a) = true) (hX : ∀ i, RVz (X i)) (hn : n ≤ 150) {O : AV → Prop} (k : K13) (hk : J13 n N k) :
    WpC Try.prog B body13 (Inv13 n d X k) (Round B res13 (Inv13 n d X) (J13 n N) (fun k => n - k.i) 0 k (Out13 n d X) O) := by
  rw [body13_eq]
  refine wpc_stageR (cx := cxH []) (n := 60) (ds := ds13b) (gb := true) (res := res13) (O := O) (l := [top13]) (c := .seq (.block 1 (seqs (firsts 7 blk13) (.block 3 (.loop ib13)))) nxt13) (cxH_ok _) fitTry (by simp) (by simp [hT]) ?_ (fun s a h1 h2 => .inr (.inr ⟨rfl, a, h1, h2⟩))
  rw [hB]
  show ((codeE (cxH []) (evs (cxH []) 60) top13 (inv13 n d X k.m k.i)).map (lfR 0 ds13b true res13)).wp _
  rw [top13_eq]
  refine ⟨fun hlt => ?_, fun _ => .inr (.inl ⟨rfl, _, .refl _, k, rfl⟩)⟩
  have hlt := of_decide_eq_true hlt
  have hlt : k.i < n := by omega
  show WpC Try.prog B _ (inv13 n d X k.m k.i) _
  cases h0 : d k.i == 0 with
  | true =>
    obtain ⟨dec, m', L', h1, h2⟩ := ful13 hk hn hlt h0
    exact mid13 (cxH_ok dec) hB hN1 hn hk hlt h1 h2
  | false =>
    cases h3 : d k.i == 1 with
    | true =>
      obtain ⟨dec, m', L', h1, h2⟩ := can13 hk hn hlt h0 h3
      exact mid13 (cxH_ok dec) hB hN1 hn hk hlt h1 h2
    | false =>
      cases hs : okS (X k.i).p (X k.i).q with
      | true =>
        obtain ⟨dec, m', L', h1, h2⟩ := add13 hk hn hlt h0 h3 (hX _) hs
        exact mid13 (cxH_ok dec) hB hN1 hn hk hlt h1 h2
      | false =>
        obtain ⟨dec, m', L', h1, h2⟩ := bad13 hk hn hlt h0 h3 (hX _) hs
        exact mid13 (cxI_ok dec) hB hN1 hn hk hlt h1 h2
end
set_option maxRecDepth 100000 in
theorem apart_frz (U : List Int) (n : Nat) (d : Nat → Int) {X : Nat → RIt} (hX : ∀ i, RVz (X i)) : FrzOk Try.prog 13 (args13 U n d X) (.lit (.bool true)) := by
  let O : AV → Prop := fun a' => ∀ E v, Rep E a' v → Rep E (.lit (.bool true)) v
  refine frz_of_ends fitTry Try.func13 (c := c13) (by kernel_rfl) (Nat.le_of_ble_eq_true (by kernel_rfl)) (O := O) (fun E w hd hf => ?_) fun a' h => h
  rw [code13]
  refine wpc_stageR (cx := cxH [(38,false)]) (n := 60) (ds := ds13a) (gb := true) (res := res13) (O := O) (cxH_ok _) fitTry (by simp [firsts]) (by kernel_rfl) ?_ ends_ret
  show ((codeE (cxH [(38,false)]) (evs (cxH [(38,false)]) 60) (joins (firsts 4 c13)) (entry (args13 U n d X))).map (lfR 0 ds13a true res13)).wp _
  rw [pre13, uU_eq]
  refine ⟨fun _ E v hv => hv, fun hbad => ⟨fun i hi => rfl, ?_⟩⟩
  have hlen : n ≤ 150 ∧ 1 ≤ U.length ∧ U.length ≤ 4 := by
    unfold badU at hbad
    split at hbad
    · cases hbad
    · rename_i h1
      split at hbad
      · cases hbad
      · rename_i h2
        have h3 := of_decide_eq_false hbad
        simp at h1 h2
        omega
  have hb : badLen (U.length : Int) = false := by
    unfold badLen
    have h1 : decide ((U.length : Int) < 1) = false := decide_eq_false (by omega)
    have h2 : decide ((U.length : Int) > 4) = false := decide_eq_false (by omega)
    rw [h1, h2]; rfl
  have e1 : beginR U = (beginM U, 0) := by unfold beginR; rw [hb]; rfl
  have hboth := both_begin hlen.2.1 hlen.2.2
  rw [e1]
  refine ⟨rfl, ?_⟩
  show WpC _ _ _ _ _
  refine wpc_ioloop (cx := cxH []) (n := 60) (ds := ds13b) (gb := true) (res := res13) (O := O) (cxH_ok _) fitTry (Inv13 n d X) (J13 n U.length) (fun k => n - k.i) (Out13 n d X) (by kernel_rfl) ?_ (fun k hk => round13 rfl (by kernel_rfl) ⟨by kernel_rfl, by kernel_rfl, by kernel_rfl⟩ hX hlen.1 k hk) ends_ret ?_
  · show ((codeE (cxH []) (evs (cxH []) 60) a13 (st13 n d X (beginM U))).map (lfR 0 ds13b true res13)).wp _
    rw [init13]
    exact ⟨rfl, ⟨0, beginM U, refBegin U⟩, .refl _, ⟨Nat.zero_le _, hboth⟩⟩
  · rintro s ⟨k, rfl⟩
    refine wpc_of_lfR (cx := cxH []) (n := 60) (ds := []) (gb := false) (res := res13) (O := O) (cxH_ok _) fitTry (by kernel_rfl) ?_ ends_ret
    show ((codeE (cxH []) (evs (cxH []) 60) tail13 (inv13 n d X k.m k.i)).map (lfR 0 [] false res13)).wp _
    rw [end13]
    exact fun E v hv => hv
def ksApart : List (Bool × List Ck) := [(false, [.row [.int .u64]]), (false, [.row (.int .u8 :: ksItem)])]
theorem args_apart {al : List AV} (h : ArgsOk ksApart al) : ∃ (U : List Int) (n : Nat) (d : Nat → Int) (X : Nat → RIt), (∀ i, RVz (X i)) ∧ ∀ E vs, Reps E al vs → Reps E (args13 U n d X) vs := by
  unfold ksApart at h
  cases h with | cons h0 t => cases t with | cons h1 t => cases t with | nil =>
  cases h0 with | cons h0 t0 => cases t0 with | nil =>
  cases h1 with | cons h1 t1 => cases t1 with | nil =>
  cases h0 with
  | row _ n0 g0 hn0 hs0 =>
    cases h1 with
    | row _ n1 g1 hn1 hs1 =>
      refine ⟨uOf n0 g0, n1, fun i => zA (g1 i) 0, fun i => ritOf ((g1 i).drop 1), fun i => rvz_ritOf _, fun E vs hv => ?_⟩
      cases hv with | cons r0 t => cases t with | cons r1 t =>
      exact .cons (rowU_of (fun i hi => u1_of (hs0 i hi)) r0) (.cons (r1.sl_congr fun i hi => act_of (hs1 i hi)) t)
theorem args13_eq : argShs Try.prog 6 Try.f13.params.toList = some ksApart := by kernel_rfl
set_option maxRecDepth 100000 in
theorem law13_runs : LawRuns Try.prog 13 ksApart := by
  intro w hg vals al hok hargs
  obtain ⟨U, n, d, X, hX, hA⟩ := args_apart hok
  rcases apart_frz U n d hX none (frozenE w hg) w vals (fun v w' => v = .bool true ∧ Quiet w w') (fun _ h => h) (frozenE_ok w hg) (hA _ _ hargs) (fun v w' E' _ _ _ _ hr hq => ⟨by cases hr; rfl, hq⟩) with ⟨u, h1, _⟩ | ⟨_, h2⟩
  · have hb : Try.f13.body = some c13 := by kernel_rfl
    have hname' : ¬ Try.f13.name = "runtime.NumGoroutine" := by simpa using (fit_func fitTry Try.func13 hb).2
    have e : Sem.run Try.prog (callFunc 13 vals) w = .ok (.enter 13 vals) w := by simp [callFunc, Try.func13, hname', hb]
    rw [e] at h1
    cases h1
  · exact h2
end
end Go.Proofs.Ytkmhabbpndcnkaa
