/-
  PARTS, one behind the other: MZ S0 S1 S2.
-/
import Derived.Test.YtkmhabbpndcnkaaWm7
/-
  PART: memory: the law MemoryPlays, its rounds and its run.
-/
namespace Go.Proofs.Ytkmhabbpndcnkaa
open Go.RowKit
noncomputable section
section
variable {n : Nat} {d : Nat → Int} {X : Nat → RIt} {p q : Int} {v : Nat → Int} {N : Nat} {B : Start}
def Out12 (n : Nat) (d : Nat → Int) (X : Nat → RIt) (p q : Int) (v : Nat → Int) (N : Nat) (s : St) : Prop := ∃ k : K12, J12 n N k ∧ s = Inv12 n d X p q v N k
set_option maxRecDepth 100000 in
theorem round12 (hB : B.nx0 = 0) (hN : codeOk B.N body12 = true) (hX : ∀ i, RVz (X i)) (hn : n ≤ 150) {O : AV → Prop} (k : K12) (hk : J12 n N k) :
    WpC Try.prog B body12 (Inv12 n d X p q v N k) (Round B res12 (Inv12 n d X p q v N) (J12 n N) (fun k => n - k.i) 0 k (Out12 n d X p q v N) O) := by
  have hki := hk.i
  have hm : PmFit k.m := hk.both.fit (by omega)
  have hR : OkR k.L := hk.both.okR (by omega)
  have hin : PmInR k.m := pmInR hm
  have hok : okRR k.L := rowRk_getR hR
  have hab := hk.ab
  have hle := hk.le
  by_cases hlt : k.i < n
  · have hi : decide ((k.i : Int) < (n : Int)) = true := decide_eq_true (by omega)
    have hix : ixA n (k.i : Int) := ⟨by omega, by omega⟩
    have hsM : sizeM (k.a + 1) := sizeM_of (by omega)
    have hsL : sizeL (k.b + 1) := sizeL_of (by omega)
    have hx : xOf X (k.i : Int) = X k.i := by unfold xOf; rw [Int.toNat_natCast]; exact ritOf_cells (hX _)
    have hxc : IsR (X (k.i : Int).toNat).cells := isR (hX _)
    cases h0 : d (k.i : Int).toNat == 0 with
    | true =>
      obtain ⟨h1, h2⟩ := hk.both.ful (X (k.i : Int).toNat).loc (X (k.i : Int).toNat).q (X (k.i : Int).toNat).own
      have hS : fulS (X (k.i : Int).toNat) k.m N k.L := by unfold fulS; rw [pmR_eq hm, lsRR_eq hR]; exact ne_false h1
      cases hmod : (k.i : Int).tmod 16 == 0 with
      | false =>
        refine wpc_endH (cx := cxG [(59,true),(85,true),(139,false),(142,false)]) (n := 60) (ds := ds12b) (gb := true) (cxG_ok _) fitTry hN ?_
        rw [hB]
        show (rndOf (cxG [(59,true),(85,true),(139,false),(142,false)]) n d X p q v k.m N k.L k.a k.b k.Ms k.Ls k.i).wp _
        rw [ful12a, pmR_eq hm, lsRR_eq hR]
        exact ⟨hi, hix, hix, h0, hin, hok, hS, by decide, hmod, next12a hn hk hlt h2 (Out12 n d X p q v N)⟩
      | true =>
        refine wpc_endH (cx := cxG [(59,true),(85,true),(139,false),(142,true)]) (n := 60) (ds := ds12b) (gb := true) (cxG_ok _) fitTry hN ?_
        rw [hB]
        show (rndOf (cxG [(59,true),(85,true),(139,false),(142,true)]) n d X p q v k.m N k.L k.a k.b k.Ms k.Ls k.i).wp _
        rw [ful12b, pmR_eq hm, lsRR_eq hR]
        exact ⟨hi, hix, hix, h0, hin, hok, hS, by decide, hmod, hsM, hsL, next12b hn hk hlt h2 (Out12 n d X p q v N)⟩
    | false =>
      cases h3 : d (k.i : Int).toNat == 1 with
      | true =>
        obtain ⟨h1, h2⟩ := hk.both.can (X (k.i : Int).toNat).loc (X (k.i : Int).toNat).q (X (k.i : Int).toNat).own
        have hS : canS (X (k.i : Int).toNat) k.m N k.L := by unfold canS; rw [pmR_eq hm, lsRR_eq hR]; exact ne_false h1
        cases hmod : (k.i : Int).tmod 16 == 0 with
        | false =>
          refine wpc_endH (cx := cxG [(59,true),(85,false),(111,true),(139,false),(142,false)]) (n := 60) (ds := ds12b) (gb := true) (cxG_ok _) fitTry hN ?_
          rw [hB]
          show (rndOf (cxG [(59,true),(85,false),(111,true),(139,false),(142,false)]) n d X p q v k.m N k.L k.a k.b k.Ms k.Ls k.i).wp _
          rw [can12a, pmR_eq hm, lsRR_eq hR]
          exact ⟨hi, hix, hix, h0, h3, hin, hok, hS, by decide, hmod, next12a hn hk hlt h2 (Out12 n d X p q v N)⟩
        | true =>
          refine wpc_endH (cx := cxG [(59,true),(85,false),(111,true),(139,false),(142,true)]) (n := 60) (ds := ds12b) (gb := true) (cxG_ok _) fitTry hN ?_
          rw [hB]
          show (rndOf (cxG [(59,true),(85,false),(111,true),(139,false),(142,true)]) n d X p q v k.m N k.L k.a k.b k.Ms k.Ls k.i).wp _
          rw [can12b, pmR_eq hm, lsRR_eq hR]
          exact ⟨hi, hix, hix, h0, h3, hin, hok, hS, by decide, hmod, hsM, hsL, next12b hn hk hlt h2 (Out12 n d X p q v N)⟩
      | false =>
        cases hs : okS (X k.i).p (X k.i).q with
        | true =>
          have hit := toIt_ok hs (hX k.i)
          obtain ⟨h1, h2⟩ := hk.both.add (x := X k.i) hs (hX k.i)
          have hS : goodS (X k.i) k.m N k.L := by unfold goodS; rw [pmR_eq hm, lsRR_eq hR, itOf_cells hit]; exact ne_false h1
          have hsp : okS (xOf X (k.i : Int)).p (xOf X (k.i : Int)).q = true := by rw [hx]; exact hs
          have hitc : IsIt (toIt (xOf X (k.i : Int))).cells := by rw [hx]; exact isIt hit
          cases hmod : (k.i : Int).tmod 16 == 0 with
          | false =>
            refine wpc_endH (cx := cxG [(59,true),(85,false),(111,false),(139,false),(142,false)]) (n := 60) (ds := ds12b) (gb := true) (cxG_ok _) fitTry hN ?_
            rw [hB]
            show (rndOf (cxG [(59,true),(85,false),(111,false),(139,false),(142,false)]) n d X p q v k.m N k.L k.a k.b k.Ms k.Ls k.i).wp _
            rw [good12a, pmR_eq hm, lsRR_eq hR]
            refine ⟨hi, hix, hix, h0, h3, ⟨hxc, hsp⟩, hin, hitc, hok, hxc, by rw [hx]; exact hS, by decide, hmod, ?_⟩
            rw [hx, itOf_cells hit]
            exact next12a hn hk hlt h2 (Out12 n d X p q v N)
          | true =>
            refine wpc_endH (cx := cxG [(59,true),(85,false),(111,false),(139,false),(142,true)]) (n := 60) (ds := ds12b) (gb := true) (cxG_ok _) fitTry hN ?_
            rw [hB]
            show (rndOf (cxG [(59,true),(85,false),(111,false),(139,false),(142,true)]) n d X p q v k.m N k.L k.a k.b k.Ms k.Ls k.i).wp _
            rw [good12b, pmR_eq hm, lsRR_eq hR]
            refine ⟨hi, hix, hix, h0, h3, ⟨hxc, hsp⟩, hin, hitc, hok, hxc, by rw [hx]; exact hS, by decide, hmod, hsM, hsL, ?_⟩
            rw [hx, itOf_cells hit]
            exact next12b hn hk hlt h2 (Out12 n d X p q v N)
        | false =>
          have hsp : okS (xOf X (k.i : Int)).p (xOf X (k.i : Int)).q = false := by rw [hx]; exact hs
          have hra : refAdd N k.L (X k.i) = (k.L, 1) := refAdd_bad hs
          have h2 : Both k.m N k.L (4 + k.i + 1) := hk.both.le (Nat.le_succ _)
          have hS : badS (X k.i) N k.L := by unfold badS; rw [lsRR_eq hR, hra]; rfl
          have hbc : badR (X k.i) = badC (rawIt (badR (X k.i))) := by rfl
          cases hmod : (k.i : Int).tmod 16 == 0 with
          | false =>
            refine wpc_endH (cx := cxB [(59,true),(85,false),(111,false),(139,false),(142,false)]) (n := 60) (ds := ds12b) (gb := true) (cxB_ok _) fitTry hN ?_
            rw [hB]
            show (rndOf (cxB [(59,true),(85,false),(111,false),(139,false),(142,false)]) n d X p q v k.m N k.L k.a k.b k.Ms k.Ls k.i).wp _
            rw [bad12a, pmR_eq hm, lsRR_eq hR]
            refine ⟨hi, hix, hix, h0, h3, ⟨hxc, hsp⟩, hin, by rw [hx]; exact hbc, hok, hxc, by rw [hx]; exact hS, by decide, hmod, ?_⟩
            rw [hx, hra]
            exact next12a hn hk hlt h2 (Out12 n d X p q v N)
          | true =>
            refine wpc_endH (cx := cxB [(59,true),(85,false),(111,false),(139,false),(142,true)]) (n := 60) (ds := ds12b) (gb := true) (cxB_ok _) fitTry hN ?_
            rw [hB]
            show (rndOf (cxB [(59,true),(85,false),(111,false),(139,false),(142,true)]) n d X p q v k.m N k.L k.a k.b k.Ms k.Ls k.i).wp _
            rw [bad12b, pmR_eq hm, lsRR_eq hR]
            refine ⟨hi, hix, hix, h0, h3, ⟨hxc, hsp⟩, hin, by rw [hx]; exact hbc, hok, hxc, by rw [hx]; exact hS, by decide, hmod, hsM, hsL, ?_⟩
            rw [hx, hra]
            exact next12b hn hk hlt h2 (Out12 n d X p q v N)
  · refine wpc_endH (cx := cxG [(59,false)]) (n := 60) (ds := ds12b) (gb := true) (cxG_ok _) fitTry hN ?_
    rw [hB]
    show (rndOf (cxG [(59,false)]) n d X p q v k.m N k.L k.a k.b k.Ms k.Ls k.i).wp _
    rw [stop12]
    exact ⟨decide_eq_false (by omega), rfl, _, .refl _, k, hk, rfl⟩
end
end
end Go.Proofs.Ytkmhabbpndcnkaa

/-
  PART: memory: the law MemoryPlays, its run.
-/
namespace Go.Proofs.Ytkmhabbpndcnkaa
open Go.RowKit
noncomputable section
section
variable {n : Nat} {d : Nat → Int} {X : Nat → RIt} {p q : Int} {v : Nat → Int} {N : Nat} {B : Start}
theorem lit_v {E : Env} {x : Bool} {u : Value} (hx : x = true) (h : Rep E (.v (.bool x)) u) : Rep E (.lit (.bool true)) u := by
  subst hx; cases h; exact .lit _ rfl
theorem fin12_ok (hv : ∀ j, 8 ≤ j → v j = 0) {m : PM} {L : List RIt} (h : Both m N L 200) : 
    finS v m N L (atM m p q) (refAt L p q) ∧ finB (atM m p q) (refAt L p q) (finC v m N L) = true := by
  have hm : PmFit m := h.fit (by omega)
  have hR : OkR L := h.okR (by omega)
  have hat := atM_rel h.rel p q
  have hlo := h.rel.lo
  have hhi := h.rel.hi
  have hvo : viewOf (ivs 8 v) = v := viewOf_ivs hv
  have hA : finA v m N L := by
    unfold finA
    rw [hvo]
    exact ⟨rfl, pmInR hm, by rw [hvo], rowRk_getR hR, by omega, by omega, rfl⟩
  have hC : finC v m N L = true := by
    unfold finC
    rw [hvo, hvo, pmR_eq hm, lsRR_eq hR, closedM_rel h.rel v, Int.toNat_natCast]
    simp
  cases hr : refAt L p q with
  | none =>
    rw [hr] at hat
    rw [hat]
    refine ⟨fun _ => ⟨fun _ => hA, fun h => by cases h⟩, ?_⟩
    rw [hC]; rfl
  | some x =>
    rw [hr] at hat
    have hx : x ∈ L := List.mem_of_find?_eq_some hr
    have hmay := h.rel.good.may x hx
    have hvz : RVz x := rel_vz h.rel x hx
    have he : eqAt (some (toIt x)) (some x) = true := by
      show eqI (toIt x) (toIt (ritOf x.cells)) = true
      rw [ritOf_cells hvz]
      exact eqI_self (toIt_ok hmay.2.2.1 hvz)
    have hat : atM m p q = some (toIt x) := hat
    rw [hat]
    refine ⟨fun _ => ⟨fun h => (by cases h), fun _ => ⟨⟨isR hvz, ?_⟩, fun _ => hA⟩⟩, ?_⟩
    · show okS (ritOf x.cells).p (ritOf x.cells).q = true
      rw [ritOf_cells hvz]; exact hmay.2.2.1
    · unfold finB
      rw [he, hC]; rfl
end
theorem uU_eq (U : List Int) : uU U = U := by
  unfold uU uOf
  apply List.ext_getElem
  · simp
  · intro i h1 h2
    rw [List.getElem_map, List.getElem_range]
    show U.getD i 0 = U[i]
    simp [List.getD, h2]
theorem badLen_R (n : Nat) : badLenR (n : Int) = badLen (n : Int) := by
  unfold badLenR badLen
  by_cases h : n = 0
  · subst h; rfl
  · have h1 : ((n : Int) == 0) = false := by simp [h]
    have h2 : decide ((n : Int) < 1) = false := decide_eq_false (by omega)
    rw [h1, h2]
end
end Go.Proofs.Ytkmhabbpndcnkaa

/-
  PART: memory: the law MemoryPlays answers true.
-/
namespace Go.Proofs.Ytkmhabbpndcnkaa
open Go.RowKit
noncomputable section
set_option maxRecDepth 100000 in
theorem tail12_ok {n : Nat} {d : Nat → Int} {X : Nat → RIt} {p q : Int} {v : Nat → Int} {N : Nat} (hv : ∀ j, 8 ≤ j → v j = 0) (hn : n ≤ 150) {E : Env} {w : World} {hd : ∀ x, ¬ E.dom x} {hf : FzOk E w} (k : K12) (hk : J12 n N k) :
    WpC Try.prog (begins Try.f12.ntmps E w hd hf) tail12 (Inv12 n d X p q v N k) (Ends Try.prog Try.f12.results.toList (fun a' => ∀ E v, Rep E a' v → Rep E (.lit (.bool true)) v)) := by
  let O : AV → Prop := fun a' => ∀ E v, Rep E a' v → Rep E (.lit (.bool true)) v
  have hki := hk.i
  have hab := hk.ab
  have hle := hk.le
  have hb200 : Both k.m N k.L 200 := hk.both.le (by omega)
  rw [codeT12]
  refine wpc_stageR (cx := cxG []) (n := 60) (ds := ds12c) (gb := true) (res := res12) (O := O) (cxG_ok _) fitTry (by simp [firsts]) (by kernel_rfl) ?_ ends_ret
  show ((codeE (cxG []) (evs (cxG []) 60) (joins (firsts 2 tail12)) (inv12 n d X p q v k.m N k.L k.a k.b k.Ms k.Ls k.i)).map (lfR 0 ds12c true res12)).wp _
  rw [apl12_eq]
  refine ⟨sizeM_of (by omega), sizeL_of (by omega), ?_⟩
  show WpC _ _ _ _ _
  have hall := all_app hk.a hk.b hk.ab hk.all hb200
  have hold : HoldLe (begins Try.f12.ntmps E w hd hf) (apl12 p q v k.m N k.L k.a k.b k.Ms k.Ls) (mid12 p q v k.m N k.L (k.a + 1) (k.b + 1) (k.Ms ++ [k.m]) (k.Ls ++ [k.L])) :=
    hold_rows rfl rfl (.same (.same (.same (.row (appM_eq hk.a) (.row (appL_eq hk.b) .nil)))))
  refine wpc_pre hold ?_
  generalize hMs : k.Ms ++ [k.m] = Ms at hall ⊢
  generalize hLs : k.Ls ++ [k.L] = Ls at hall ⊢
  refine wpc_ioloop (cx := cxG []) (n := 60) (ds := ds12d) (gb := true) (res := res12) (O := O) (cxG_ok _) fitTry (fun i : Nat => inw12 p q v k.m N k.L (k.a + 1) (k.b + 1) Ms Ls i) (fun i => i ≤ k.a + 1) (fun i => k.a + 1 - i) (fun s => ∃ i : Int, s = inw12 p q v k.m N k.L (k.a + 1) (k.b + 1) Ms Ls i) (by kernel_rfl) ?_ ?_ ends_ret ?_
  · show ((codeE (cxG []) (evs (cxG []) 60) b12 (mid12 p q v k.m N k.L (k.a + 1) (k.b + 1) Ms Ls)).map (lfR 0 ds12d true res12)).wp _
    rw [init12b]
    exact ⟨rfl, 0, .refl _, Nat.zero_le _⟩
  · intro i hi
    have hi : i ≤ k.a + 1 := hi
    refine wpc_endH (cx := cxG []) (n := 60) (ds := ds12d) (gb := true) (cxG_ok _) fitTry (by kernel_rfl) ?_
    show (rnd12b p q v k.m N k.L (k.a + 1) (k.b + 1) Ms Ls i).wp _
    rw [rnd12b_eq]
    refine ⟨fun hlt => ?_, fun _ => ⟨rfl, _, .refl _, _, rfl⟩⟩
    have hlt := of_decide_eq_true hlt
    have hB := hall i (by omega)
    have hm : PmFit (Ms.getD i mz) := hB.fit (by omega)
    have hR : OkR (Ls.getD i []) := hB.okR (by omega)
    have hS : sameS (Ms.getD (i : Int).toNat mz) N (Ls.getD (i : Int).toNat []) := by
      rw [Int.toNat_natCast]
      unfold sameS sideSame
      rw [pmR_eq hm, lsRR_eq hR]
      exact ⟨⟨pmInR hm, rowRk_getR hR⟩, ⟨N, rfl, hB.rel⟩, Nat.le_trans hB.len (by omega)⟩
    refine ⟨⟨by omega, hlt⟩, by omega, ⟨by omega, by omega⟩, by omega, hS, ?_⟩
    have hw : IntKind.i64.wrap ((i : Int) + 1) = ((i + 1 : Nat) : Int) := by rw [IntWalk.i64_in _ (by omega)]; rfl
    rw [hw]
    exact ⟨i + 1, .refl _, by show i + 1 ≤ k.a + 1; omega, by show k.a + 1 - (i + 1) < k.a + 1 - i; omega⟩
  · rintro s ⟨i, rfl⟩
    refine wpc_of_lfR (cx := cxG []) (n := 60) (ds := []) (gb := false) (res := res12) (O := O) (cxG_ok _) fitTry (by kernel_rfl) ?_ ends_ret
    show (fin12 p q v k.m N k.L (k.a + 1) (k.b + 1) Ms Ls i).wp _
    rw [fin12_eq]
    have hm : PmFit k.m := hb200.fit (by omega)
    have hR : OkR k.L := hb200.okR (by omega)
    obtain ⟨h1, h2⟩ := fin12_ok (p := p) (q := q) hv hb200
    rw [pmR_eq hm, lsRR_eq hR]
    exact ⟨pmInR hm, rowRk_getR hR, h1, fun E v hv => lit_v h2 hv⟩
set_option maxRecDepth 100000 in
theorem plays_frz (U : List Int) (n : Nat) (d : Nat → Int) {X : Nat → RIt} (p q : Int) {v : Nat → Int} (hX : ∀ i, RVz (X i)) (hv : ∀ j, 8 ≤ j → v j = 0) : FrzOk Try.prog 12 (args12 U n d X p q v) (.lit (.bool true)) := by
  let O : AV → Prop := fun a' => ∀ E v, Rep E a' v → Rep E (.lit (.bool true)) v
  refine frz_of_ends fitTry Try.func12 (c := c12) (by kernel_rfl) (Nat.le_of_ble_eq_true (by kernel_rfl)) (O := O) (fun E w hd hf => ?_) fun a' h => h
  rw [code12]
  refine wpc_stageR (cx := cx12) (n := 60) (ds := ds12a) (gb := true) (res := res12) (O := O) (cx8_ok _) fitTry (by simp [firsts]) (by kernel_rfl) ?_ ends_ret
  show ((codeE cx12 (evs cx12 60) (joins (firsts 8 c12)) (entry (args12 U n d X p q v))).map (lfR 0 ds12a true res12)).wp _
  rw [pre12, uU_eq]
  have hU : sideU U := fun i hi => rfl
  refine ⟨fun _ E v hv => hv, fun hmany => ⟨hU, hU, ?_, ?_⟩⟩
  · apply ne_false
    unfold beginR refBegR
    rw [badLen_R]
    cases badLen (U.length : Int) <;> rfl
  have hn : n ≤ 150 := by
    unfold manyU at hmany
    by_cases h : (n : Int) > 150
    · rw [if_pos (decide_eq_true h)] at hmany; cases hmany
    · omega
  refine ⟨fun hbad => fun E v hv => lit_v ?_ hv, fun hgood => ?_⟩
  · unfold refBegR at hbad
    unfold beginR
    rw [badLen_R] at hbad
    cases hb : badLen (U.length : Int) with
    | true => rfl
    | false => rw [hb] at hbad; cases hbad
  have hb : badLen (U.length : Int) = false := by
    cases hb : badLen (U.length : Int) with
    | false => rfl
    | true =>
      unfold refBegR at hgood
      rw [badLen_R, hb] at hgood
      cases hgood
  have e1 : beginR U = (beginM U, 0) := by unfold beginR; rw [hb]; rfl
  have e2 : refBegR U = ((U.length : Int), refBegin U, 0) := by unfold refBegR; rw [badLen_R, hb]; rfl
  have hlen : 1 ≤ U.length ∧ U.length ≤ 4 := by
    unfold badLen at hb
    split at hb
    · cases hb
    · rename_i h1
      have h2 := of_decide_eq_false hb
      simp at h1
      omega
  have hboth := both_begin hlen.1 hlen.2
  rw [e1, e2]
  show WpC _ _ _ _ _
  refine wpc_ioloop (cx := cx12) (n := 60) (ds := ds12b) (gb := true) (res := res12) (O := O) (cx8_ok _) fitTry (Inv12 n d X p q v U.length) (J12 n U.length) (fun k => n - k.i) (Out12 n d X p q v U.length) (by kernel_rfl) ?_ (fun k hk => round12 rfl (by kernel_rfl) hX hn k hk) ends_ret ?_
  · show ((codeE cx12 (evs cx12 60) a12 (st12 n d X p q v (beginM U) U.length (refBegin U))).map (lfR 0 ds12b true res12)).wp _
    rw [init12]
    refine ⟨rfl, ⟨0, beginM U, refBegin U, 0, 0, [], []⟩, ?_, ⟨Nat.zero_le _, hboth, rfl, rfl, rfl, Nat.le_refl _, fun j hj => absurd hj (Nat.not_lt_zero j)⟩⟩
    have h0 : HoldLe (begins Try.f12.ntmps E w hd hf) (st12i n d X p q v (beginM U) U.length (refBegin U)) _ := nilOwn_le (nil12a n d X p q v (beginM U) U.length (refBegin U))
    have h1 : HoldLe (begins Try.f12.ntmps E w hd hf) (st12j n d X p q v (beginM U) U.length (refBegin U)) _ := nilOwn_le (nil12b n d X p q v (beginM U) U.length (refBegin U))
    exact (h0.trans h1).trans (hold_rows rfl rfl (.same (.same (.same (.row (fun j hj => absurd hj (Nat.not_lt_zero j)) (.row (fun j hj => absurd hj (Nat.not_lt_zero j)) .nil))))))
  · rintro s ⟨k, hk, rfl⟩
    exact tail12_ok hv hn k hk
end
end Go.Proofs.Ytkmhabbpndcnkaa

/-
  PART: memory: the law MemoryPlays, from any arguments.
-/
namespace Go.Proofs.Ytkmhabbpndcnkaa
open Go.RowKit
noncomputable section
/-- The cells' kinds of an item, of an act. -/
def ksItem : List Ck := [.int .i64, .int .i64, .int .i64, .int .u64, .int .i64, .int .i64, .int .i64, .int .i64, .int .i64, .int .i64, .int .i64, .int .i64, .bool, .int .i64]
def ksV8 : List Ck := [.int .i64, .int .i64, .int .i64, .int .i64, .int .i64, .int .i64, .int .i64, .int .i64]
theorem item_of {l : List AV} (h : Shps ksItem l) : l = (ritOf l).cells := by
  unfold ksItem at h
  cases h with | cons h0 t => cases t with | cons h1 t => cases t with | cons h2 t => cases t with | cons h3 t => cases t with | cons h4 t => cases t with | cons h5 t => cases t with | cons h6 t => cases t with | cons h7 t => cases t with | cons h8 t => cases t with | cons h9 t => cases t with | cons h10 t => cases t with | cons h11 t => cases t with | cons h12 t => cases t with | cons h13 t => cases t with | nil =>
  cases h0; cases h1; cases h2; cases h3; cases h4; cases h5; cases h6; cases h7; cases h8; cases h9; cases h10; cases h11; cases h12; cases h13
  rfl
theorem act_of {l : List AV} (h : Shps (.int .u8 :: ksItem) l) : l = .v (.int .u8 (zA l 0)) :: (ritOf (l.drop 1)).cells := by
  cases h with | cons h0 t =>
  cases h0
  rename_i l z hz
  have := item_of t
  show AV.v (.int .u8 z) :: l = .v (.int .u8 z) :: (ritOf l).cells
  rw [← this]
theorem v8_of {l : List AV} (h : Shps ksV8 l) : l = ivs 8 (viewOf l) := by
  unfold ksV8 at h
  cases h with | cons h0 t => cases t with | cons h1 t => cases t with | cons h2 t => cases t with | cons h3 t => cases t with | cons h4 t => cases t with | cons h5 t => cases t with | cons h6 t => cases t with | cons h7 t => cases t with | nil =>
  cases h0; cases h1; cases h2; cases h3; cases h4; cases h5; cases h6; cases h7
  rfl
theorem u1_of {l : List AV} (h : Shps [.int .u64] l) : l = [.v (.int .u64 (zA l 0))] := by
  cases h with | cons h0 t => cases t with | nil =>
  cases h0; rfl
theorem int_of {l : List AV} {a : AV} (h : Shps [.int .i64] [a]) : ∃ z, a = iv z := by
  cases h with | cons h0 t =>
  cases h0; exact ⟨_, rfl⟩
def ksMem : List (Bool × List Ck) := [(false, [.row [.int .u64]]), (false, [.row (.int .u8 :: ksItem)]), (false, [.int .i64]), (false, [.int .i64]), (true, ksV8)]
theorem args_mem {al : List AV} (h : ArgsOk ksMem al) : ∃ (U : List Int) (n : Nat) (d : Nat → Int) (X : Nat → RIt) (p q : Int) (v : Nat → Int), (∀ i, RVz (X i)) ∧ (∀ j, 8 ≤ j → v j = 0) ∧ ∀ E vs, Reps E al vs → Reps E (args12 U n d X p q v) vs := by
  unfold ksMem at h
  cases h with | cons h0 t => cases t with | cons h1 t => cases t with | cons h2 t => cases t with | cons h3 t => cases t with | cons h4 t => cases t with | nil =>
  obtain ⟨l4, rfl, h4⟩ := h4
  obtain ⟨p, rfl⟩ := int_of (l := []) h2
  obtain ⟨q, rfl⟩ := int_of (l := []) h3
  cases h0 with | cons h0 t0 => cases t0 with | nil =>
  cases h1 with | cons h1 t1 => cases t1 with | nil =>
  cases h0 with
  | row _ n0 g0 hn0 hs0 =>
    cases h1 with
    | row _ n1 g1 hn1 hs1 =>
      refine ⟨uOf n0 g0, n1, fun i => zA (g1 i) 0, fun i => ritOf ((g1 i).drop 1), p, q, viewOf l4, fun i => rvz_ritOf _, fun j hj => by unfold viewOf; rw [if_neg (by omega)], fun E vs hv => ?_⟩
      cases hv with | cons r0 t => cases t with | cons r1 t => cases t with | cons r2 t => cases t with | cons r3 t => cases t with | cons r4 t =>
      refine .cons (rowU_of (fun i hi => u1_of (hs0 i hi)) r0) (.cons (r1.sl_congr fun i hi => act_of (hs1 i hi)) (.cons r2 (.cons r3 (.cons ?_ t))))
      rw [← v8_of h4]; exact r4
theorem args12_eq : argShs Try.prog 6 Try.f12.params.toList = some ksMem := by kernel_rfl
set_option maxRecDepth 100000 in
theorem law12_runs : LawRuns Try.prog 12 ksMem := by
  intro w hg vals al hok hargs
  obtain ⟨U, n, d, X, p, q, v, hX, hv, hA⟩ := args_mem hok
  rcases plays_frz U n d p q hX hv none (frozenE w hg) w vals (fun v w' => v = .bool true ∧ Quiet w w') (fun _ h => h) (frozenE_ok w hg) (hA _ _ hargs) (fun v w' E' _ _ _ _ hr hq => ⟨by cases hr; rfl, hq⟩) with ⟨u, h1, _⟩ | ⟨_, h2⟩
  · have hb : Try.f12.body = some c12 := by kernel_rfl
    have hname' : ¬ Try.f12.name = "runtime.NumGoroutine" := by simpa using (fit_func fitTry Try.func12 hb).2
    have e : Sem.run Try.prog (callFunc 12 vals) w = .ok (.enter 12 vals) w := by simp [callFunc, Try.func12, hname', hb]
    rw [e] at h1
    cases h1
  · exact h2
end
end Go.Proofs.Ytkmhabbpndcnkaa
