/-
  PARTS, one behind the other: MI MJ MK ML MM MN MO MP MQ MR MS MT MU MV MW MX.
-/
import Derived.Test.YtkmhabbpndcnkaaWc6
/-
  PART: memory: the table of what leaves all as it was, with the document's functions; At of the document's.
-/
namespace Go.Proofs.Ytkmhabbpndcnkaa
open Go.RowKit
noncomputable section
def viewOf (l : List AV) : Nat → Int := fun j => if j < 8 then zA l j else 0
def tabM4 (f : Nat) (args : List AV) : Option (Tree AV) := match f, args with
  | 104, [.agg l] => some (.side (l = ivs 8 (viewOf l)) (.ret (.v (.bool (rightB (viewOf l))))))
  | 23, [.agg l] => some (.side (l = ivs 8 (viewOf l)) (.ret (.agg (ivs 8 (viewOf l)))))
  | 56, [.agg l] => some (.side (IsR l) (.br (okS (ritOf l).p (ritOf l).q) (.ret (.agg (toIt (ritOf l)).cells)) (.ret (.agg (badR (ritOf l))))))
  | 65, [.agg [.v (.int .i64 n), _, _, _, _]] => some (.ret (iv n))
  | f, args => match tabM2 f args with
    | some t => some t
    | none => tabS7 f args
theorem tabM4_ok : TabOk Try.prog tabM4 := by
  intro f args t a ht hh
  unfold tabM4 at ht
  split at ht
  · rename_i l
    cases ht
    obtain ⟨h1, hh⟩ := hh
    cases hh
    refine (right_pure (viewOf l)).pre fun E vs h => ?_
    cases h with | cons q1 h => exact .cons (by rw [← h1]; exact q1) h
  · rename_i l
    cases ht
    obtain ⟨h1, hh⟩ := hh
    cases hh
    refine (view_pure (viewOf l)).pre fun E vs h => ?_
    cases h with | cons q1 h => exact .cons (by rw [← h1]; exact q1) h
  · rename_i l
    cases ht
    obtain ⟨h1, hh⟩ := hh
    have hp : ∀ E vs, Reps E [.agg l] vs → Reps E [.agg (ritOf l).cells] vs := fun E vs h => by
      cases h with | cons q1 h => exact .cons (by rw [← h1]; exact q1) h
    rcases hh with ⟨h2, hh⟩ | ⟨h2, hh⟩
    · cases hh; exact (item_good h2).pre hp
    · cases hh; exact (item_bad h2).pre hp
  · cases ht; cases hh
    refine (locs_pure _ .unk .unk .unk .unk).pre fun E vs h => ?_
    cases h with | cons q1 h => cases h with | nil =>
    refine .cons ?_ .nil
    obtain ⟨vs, rfl, hr, ho⟩ := Rep.agg_inv q1
    refine Rep.agg_mk ?_ ho
    cases hr with | cons r1 h => cases h with | cons _ h => cases h with | cons _ h => cases h with | cons _ h => cases h with | cons _ h => cases h with | nil =>
    exact .cons r1 (.cons (.unk _) (.cons (.unk _) (.cons (.unk _) (.cons (.unk _) .nil))))
  · split at ht
    · rename_i u hu
      cases ht
      exact tabM2_ok _ _ _ _ hu hh
    · exact tabS7_ok _ _ _ _ ht hh
noncomputable def cx4 (dec : Nat → St → Option Bool) : Cx := ⟨Try.prog, ctrOf2 (opened tabM4) tabM3, dec⟩
theorem cx4_ok (dec : Nat → St → Option Bool) : CtrOk (cx4 dec) := ctrOf2_ok (opened_ok tabM4_ok) tabM3_ok dec
theorem viewOf_ivs {v : Nat → Int} (h : ∀ j, 8 ≤ j → v j = 0) : viewOf (ivs 8 v) = v := by
  funext j
  unfold viewOf
  by_cases hj : j < 8
  · rw [if_pos hj]
    have : j = 0 ∨ j = 1 ∨ j = 2 ∨ j = 3 ∨ j = 4 ∨ j = 5 ∨ j = 6 ∨ j = 7 := by omega
    rcases this with rfl | rfl | rfl | rfl | rfl | rfl | rfl | rfl <;> rfl
  · rw [if_neg hj, h j (by omega)]
def optR (o : Option RIt) : AV := .tup [.agg (o.getD rz).cells, .v (.bool o.isSome)]
theorem rnd72 (N : Int) (L : List RIt) (loc to : Int) (i : Int) : ((codeE (cxM2 fun _ _ => none) (evs (cxM2 fun _ _ => none) 60) body72 (inv72 N L loc to i)).map (lfR 0 ds72 true (resF Try.prog Try.f72.results.toList))) =
    .br (decide (i < lenR L)) (.side (0 ≤ i ∧ i < lenR L) (.side (((L.getD i.toNat rz).loc == loc) = true → (0 ≤ i ∧ i < lenR L) ∧ (((L.getD i.toNat rz).q == to) = true → 0 ≤ i ∧ i < lenR L)) (.side (atER loc to (L.getD i.toNat rz) = true → 0 ≤ i ∧ i < lenR L)
      (.br (atER loc to (L.getD i.toNat rz)) (.ret (.out (.tup [.agg (L.getD i.toNat rz).cells, .lit (.bool true)]))) (.ret (.go .norm (some (inv72 N L loc to (IntKind.i64.wrap (i + 1)))))))))) (.ret (.go (.exit 0) (some (inv72 N L loc to i)))) := by kernel_rfl
theorem end72 (N : Int) (L : List RIt) (loc to : Int) (i : Int) : ((codeE (cxM2 fun _ _ => none) (evs (cxM2 fun _ _ => none) 60) tail72 (inv72 N L loc to i)).map (lfR 0 [] false (resF Try.prog Try.f72.results.toList))) = .ret (.out (.tup [zR, .lit (.bool false)])) := by kernel_rfl
theorem zR_rep {E : Env} {v : Value} (h : Rep E (.tup [zR, .lit (.bool false)]) v) : Rep E (optR none) v := by
  obtain ⟨vs, rfl, hr⟩ := Rep.tup_inv h
  cases hr with | cons r0 t => cases t with | cons r1 t => cases t with | nil =>
  refine Rep.tup_mk (.cons ?_ (.cons (rep_open r1) .nil))
  obtain ⟨vs, rfl, hr, ho⟩ := Rep.agg_inv r0
  exact Rep.agg_mk (genD_all 1 hr) ho
theorem someR_rep {E : Env} {x : RIt} {v : Value} (h : Rep E (.tup [.agg x.cells, .lit (.bool true)]) v) : Rep E (optR (some x)) v := by
  obtain ⟨vs, rfl, hr⟩ := Rep.tup_inv h
  cases hr with | cons r0 t => cases t with | cons r1 t => cases t with | nil =>
  exact Rep.tup_mk (.cons r0 (.cons (rep_open r1) .nil))
theorem atER_eq (loc to : Int) (x : RIt) : atER loc to x = atB loc to x := by
  unfold atER atB
  cases (x.loc == loc) <;> cases (x.q == to) <;> cases x.res <;> simp
theorem find_from {f : RIt → Bool} : ∀ {L : List RIt} {i : Nat}, i < L.length → (∀ j, j < i → f (L.getD j rz) = false) → f (L.getD i rz) = true → L.find? f = some (L.getD i rz)
  | x :: L, 0, _, _, h => by
    have h : f x = true := h
    rw [List.find?_cons, h]; rfl
  | x :: L, i + 1, hi, h0, h => by
    have hx : f x = false := h0 0 (Nat.succ_pos _)
    rw [List.find?_cons, hx]
    exact find_from (f := f) (L := L) (i := i) (by simpa using hi) (fun j hj => h0 (j + 1) (by omega)) h
theorem find_none {f : RIt → Bool} {L : List RIt} (h : ∀ j, j < L.length → f (L.getD j rz) = false) : L.find? f = none := by
  rw [List.find?_eq_none]
  intro x hx
  obtain ⟨i, hi, rfl⟩ := List.getElem_of_mem hx
  have := h i hi
  simpa [List.getD, hi] using this
set_option maxRecDepth 100000 in
theorem at_ref (N : Int) {L : List RIt} (hL : L.length ≤ 1000) (loc to : Int) : FrzOk Try.prog 72 [refA N L, iv loc, iv to] (optR (refAt L loc to)) := by
  refine frz_loop fitTry Try.func72 (c := c72) (by kernel_rfl) (by kernel_rfl) (O := fun a => ∀ E v, Rep E a v → Rep E (optR (refAt L loc to)) v) (cx := cxM2 fun _ _ => none) (cxM2_ok _) rfl (n := 60) code72 (by kernel_rfl) (by kernel_rfl) (ds0 := [(1, false), (2, false), (3, false), (6, false)]) (gb0 := true) (s1 := st72 N L loc to) (ds := ds72) (gb := true)
    (fun i : Nat => inv72 N L loc to i) (fun i => i ≤ L.length ∧ ∀ j, j < i → atB loc to (L.getD j rz) = false) (fun i => L.length - i) (fun s => ∃ i : Nat, s = inv72 N L loc to i ∧ refAt L loc to = none) ?_ ?_ ?_ ?_ fun a h => h
  · rw [pre72]; exact ⟨rfl, rfl⟩
  · rw [init72]; exact ⟨rfl, 0, fun _ _ => .refl _, Nat.zero_le _, fun j hj => absurd hj (Nat.not_lt_zero j)⟩
  · intro B hB i hJ
    have h1 := hJ.1
    have h2 := hJ.2
    rw [rnd72 N L loc to i]
    have hl : lenR L = (L.length : Int) := rfl
    refine ⟨fun hlt => ?_, fun hge => ?_⟩
    · have hlt := of_decide_eq_true hlt
      have hw : 0 ≤ (i : Int) ∧ (i : Int) < lenR L := ⟨by omega, hlt⟩
      refine ⟨hw, fun _ => ⟨hw, fun _ => hw⟩, fun _ => hw, fun hp => ?_, fun hp => ?_⟩
      · rw [atER_eq, Int.toNat_natCast] at hp
        intro E v hv
        have e : refAt L loc to = some (L.getD i rz) := find_from (by omega) h2 hp
        rw [e]; exact someR_rep hv
      · rw [atER_eq, Int.toNat_natCast] at hp
        rw [IntWalk.i64_in _ (by omega)]
        refine ⟨i + 1, .refl _, ⟨by omega, fun j hj => ?_⟩, by show L.length - (i + 1) < L.length - i; omega⟩
        by_cases e : j = i
        · subst e; exact hp
        · exact h2 j (by omega)
    · have hge := of_decide_eq_false hge
      exact ⟨rfl, _, .refl _, i, rfl, find_none fun j hj => h2 j (by omega)⟩
  · rintro s ⟨i, rfl, h⟩
    rw [end72]
    intro E v hv
    rw [h]; exact zR_rep hv
end
end Go.Proofs.Ytkmhabbpndcnkaa

/-
  PART: memory: Add of the document's.
-/
namespace Go.Proofs.Ytkmhabbpndcnkaa
open Go.RowKit
noncomputable section
noncomputable def c70 : Code := codeOf Try.f70
noncomputable def a70 : Code := cl (cl (behind 3 c70))
noncomputable def body70 : Code := cin (cin (cr (cl (behind 3 c70))))
noncomputable def tail70 : Code := cr (behind 3 c70)
theorem code70 : c70 = seqs (firsts 3 c70) (.seq (.seq a70 (.block 0 (.loop body70))) tail70) := by kernel_rfl
def hp70 (N : Int) (L : List RIt) (x : RIt) : List (Nat × Option Blk) := [(0, some (.fix 83 [iv N, rowR L])), (1, some (.fix 96 x.cells)), (2, some (.fix 83 [iv 0, .v (.slice none 0 0)]))]
def st70 (N : Int) (L : List RIt) (x : RIt) : St := { sl := [(2, .ptr 0 0), (3, .ptr 1 0), (4, .ptr 2 0), (6, iv 0)], hp := hp70 N L x, nx := 3, rd := [], wr := [], ws := [], wb := [] }
def inv70 (N : Int) (L : List RIt) (x : RIt) (n i : Int) : St := { sl := [(2, .ptr 0 0), (3, .ptr 1 0), (4, .ptr 2 0), (6, iv n), (7, iv i)], hp := hp70 N L x, nx := 3, rd := [], wr := [], ws := [], wb := [] }
def ds70 : List (Nat × Bool) := [(2, false), (3, false), (4, false), (6, true), (7, true)]
def vSide (x : RIt) : Prop := ivs 8 x.v = ivs 8 (viewOf (ivs 8 x.v))
def badE (N : Int) (x : RIt) : Bool := if decide (x.loc < 0) = true then true else if decide (x.loc ≥ N) = true then true else if decide (x.own < -1) = true then true else if decide (x.own > 3) = true then true else if (!okS x.p x.q) = true then true else if (x.q == 0) = true then true else if (!rightB (viewOf (ivs 8 x.v))) = true then true else if x.res = true then (if (x.n != 0) = true then true else !zer8 x.v) else false
def sBad (N : Int) (x : RIt) (b : Bool) {α : Type} (t : Tree α) : Tree α := .side (decide (x.loc < 0) = false → decide (x.loc ≥ N) = false → decide (x.own < -1) = false → decide (x.own > 3) = false → (!okS x.p x.q) = false → (x.q == 0) = false → vSide x) (.side (badE N x = b) t)
theorem pre70 (N : Int) (L : List RIt) (x : RIt) : ((codeE (cx4 (decM [(60,false)])) (evs (cx4 (decM [(60,false)])) 60) (joins (firsts 3 c70)) (entry [refA N L, .agg x.cells])).map (lfR 0 [(2, false), (3, false), (4, false), (6, true)] true (resF Try.prog Try.f70.results.toList))) = sBad N x false (.ret (.go .norm (some (st70 N L x)))) := by kernel_rfl
theorem add_bad_r (N : Int) (L : List RIt) (x : RIt) : ((evs (cx4 (decM [(60,true)])) 60).call 70 [refA N L, .agg x.cells] .nil).frz = sBad N x true (.ret (.tup [refA N L, .lit (.int .i64 1)])) := by kernel_rfl
theorem init70 (N : Int) (L : List RIt) (x : RIt) : ((codeE (cx4 (decM [(60,false)])) (evs (cx4 (decM [(60,false)])) 60) a70 (st70 N L x)).map (lfR 0 ds70 true (resF Try.prog Try.f70.results.toList))) = .ret (.go .norm (some (inv70 N L x 0 0))) := by kernel_rfl
theorem rnd70 (N : Int) (L : List RIt) (x : RIt) (n i : Int) : ((codeE (cx4 (decM [(60,false)])) (evs (cx4 (decM [(60,false)])) 60) body70 (inv70 N L x n i)).map (lfR 0 ds70 true (resF Try.prog Try.f70.results.toList))) =
    .br (decide (i < lenR L)) (.side (0 ≤ i ∧ i < lenR L) (.br ((L.getD i.toNat rz).loc != x.loc) (.ret (.go .norm (some (inv70 N L x n (IntKind.i64.wrap (i + 1)))))) (.side (0 ≤ i ∧ i < lenR L)
      (.br (!rapartB (L.getD i.toNat rz).p (L.getD i.toNat rz).q x.p x.q) (.ret (.out (.tup [refA N L, .lit (.int .i64 5)]))) (.ret (.go .norm (some (inv70 N L x (IntKind.i64.wrap (n + 1)) (IntKind.i64.wrap (i + 1))))))))))
      (.ret (.go (.exit 0) (some (inv70 N L x n i)))) := by kernel_rfl
/-- A row of the document's with one more. -/
def apR (n : Nat) (L : List RIt) (x : RIt) : AV := .sl (n + 1) 14 (fun i => mixC 14 (decide (i < n)) (getR L i) x.cells) false false
def sizeR (n : Nat) : Prop := n * Try.prog.bytesOf 96 ≤ maxAppend ∧ n ≤ maxAppend
theorem end70 (N : Int) (L : List RIt) (x : RIt) (n i : Int) : ((codeE (cx4 (decM [(60,false)])) (evs (cx4 (decM [(60,false)])) 60) tail70 (inv70 N L x n i)).map (lfR 0 [] false (resF Try.prog Try.f70.results.toList))) =
    .br (decide (n ≥ 40)) (.ret (.out (.tup [refA N L, .lit (.int .i64 4)]))) (.side (sizeR (0 + L.length)) (.side (sizeR (0 + L.length + 1)) (.ret (.out (.tup [.agg [iv N, apR (0 + L.length) L x], .lit (.int .i64 0)]))))) := by kernel_rfl
theorem bytes96 : Try.prog.bytesOf 96 ≤ 200 := Nat.le_of_ble_eq_true (by kernel_rfl)
theorem sizeR_of {n : Nat} (h : n ≤ 1000000) : sizeR n := by
  have h2 : n * Try.prog.bytesOf 96 ≤ 1000000 * 200 := Nat.mul_le_mul h bytes96
  have h3 : maxAppend = 1099511627776 := by decide
  unfold sizeR
  omega
theorem mixR_cells (c : Bool) (x y : RIt) : mixC 14 c x.cells y.cells = (if c = true then x else y).cells := by
  cases c <;> kernel_rfl
theorem getD_appR {A B : List RIt} {i : Nat} : (A ++ B).getD i rz = if i < A.length then A.getD i rz else B.getD (i - A.length) rz := by
  by_cases h1 : i < A.length
  · rw [if_pos h1]; simp [List.getD, List.getElem?_append_left h1]
  · rw [if_neg h1]; simp [List.getD, List.getElem?_append_right (Nat.not_lt.1 h1)]
theorem apR_rep {E : Env} {L : List RIt} {x : RIt} {v : Value} (h : Rep E (apR (0 + L.length) L x) v) : Rep E (rowR (L ++ [x])) v := by
  unfold apR at h
  rw [Nat.zero_add] at h
  show Rep E (.sl (L ++ [x]).length 14 (fun i => ((L ++ [x]).getD i rz).cells) false false) v
  rw [List.length_append, List.length_singleton]
  refine h.sl_congr fun i hi => ?_
  unfold getR
  rw [mixR_cells, getD_appR]
  congr 1
  by_cases c : i < L.length
  · rw [if_pos (by simpa using c), if_pos c]
  · rw [if_neg (by simpa using c), if_neg c]
    have : i - L.length = 0 := by omega
    rw [this]; rfl
theorem refA_rep {E : Env} {N : Int} {s : AV} {L : List RIt} (h : ∀ v, Rep E s v → Rep E (rowR L) v) {v : Value} (hv : Rep E (.agg [iv N, s]) v) : Rep E (refA N L) v := by
  obtain ⟨vs, rfl, hr, ho⟩ := Rep.agg_inv hv
  refine Rep.agg_mk ?_ ho
  cases hr with | cons r0 t => cases t with | cons r1 t => cases t with | nil =>
  exact .cons r0 (.cons (h _ r1) .nil)
theorem tup_rep {E : Env} {a b : AV} {e : Int} (h : ∀ v, Rep E a v → Rep E b v) {v : Value} (hv : Rep E (.tup [a, .lit (.int .i64 e)]) v) : Rep E (.tup [b, iv e]) v := rep_okRes h hv
theorem badE_eq (N : Int) {x : RIt} (hx : RVz x) : badE N x = refBad N x := by
  unfold badE refBad
  rw [viewOf_ivs hx]
  cases decide (x.loc < 0) <;> cases decide (x.loc ≥ N) <;> cases decide (x.own < -1) <;> cases decide (x.own > 3) <;> cases okS x.p x.q <;> cases (x.q == 0) <;> cases rightB x.v <;> cases x.res <;> cases (x.n != 0) <;> cases zer8 x.v <;> rfl
theorem sBad_wp {N : Int} {x : RIt} (hx : RVz x) {b : Bool} {α : Type} {t : Tree α} {Q : α → Prop} (h : refBad N x = b) (ht : t.wp Q) : (sBad N x b t).wp Q :=
  ⟨fun _ _ _ _ _ _ => by unfold vSide; rw [viewOf_ivs hx], by rw [badE_eq N hx]; exact h, ht⟩
set_option maxRecDepth 100000 in
theorem add_ref (N : Int) {L : List RIt} (hL : L.length ≤ 1000) {x : RIt} (hx : RVz x) : FrzOk Try.prog 70 [refA N L, .agg x.cells] (.tup [refA N (refAdd N L x).1, iv (refAdd N L x).2]) := by
  by_cases hb : refBad N x = true
  · have e : refAdd N L x = (L, 1) := by unfold refAdd; rw [if_pos hb]
    rw [e]
    exact frz_ev (cx4_ok _) fitTry (add_bad_r N L x) (sBad_wp hx hb fun E v hv => tup_rep (fun _ h => h) hv)
  · have hb : refBad N x = false := by simpa using hb
    have e0 : refAdd N L x = if (at_ L x.loc).any (fun y => !apartR y x) = true then (L, 5) else if 40 ≤ (at_ L x.loc).length then (L, 4) else (L ++ [x], 0) := by unfold refAdd; rw [if_neg (by rw [hb]; simp)]
    have hl : lenR L = (L.length : Int) := rfl
    refine frz_loop fitTry Try.func70 (c := c70) (by kernel_rfl) (by kernel_rfl) (O := fun a => ∀ E v, Rep E a v → Rep E (.tup [refA N (refAdd N L x).1, iv (refAdd N L x).2]) v) (cx := cx4 (decM [(60,false)])) (cx4_ok _) rfl (n := 60) code70 (by kernel_rfl) (by kernel_rfl) (ds0 := [(2, false), (3, false), (4, false), (6, true)]) (gb0 := true) (s1 := st70 N L x) (ds := ds70) (gb := true)
      (fun q : Nat × Nat => inv70 N L x q.2 q.1) (fun q => q.1 ≤ L.length ∧ q.2 = (at_ (L.take q.1) x.loc).length ∧ ∀ y ∈ at_ (L.take q.1) x.loc, apartR y x = true) (fun q => L.length - q.1) (fun s => ∃ i : Int, s = inv70 N L x (at_ L x.loc).length i ∧ ∀ y ∈ at_ L x.loc, apartR y x = true) ?_ ?_ ?_ ?_ fun a h => h
    · rw [pre70]; exact sBad_wp hx hb ⟨rfl, rfl⟩
    · rw [init70]; exact ⟨rfl, (0, 0), fun _ _ => .refl _, Nat.zero_le _, rfl, fun y hy => by cases hy⟩
    · intro B hB q hJ
      have h1 := hJ.1
      have h2 := hJ.2.1
      have h3 := hJ.2.2
      have hn : q.2 ≤ q.1 := by
        rw [h2]
        refine Nat.le_trans (List.length_filter_le _ _) ?_
        rw [List.length_take]; omega
      rw [rnd70 N L x q.2 q.1]
      refine ⟨fun hlt => ?_, fun hge => ?_⟩
      · have hlt := of_decide_eq_true hlt
        have hw : 0 ≤ (q.1 : Int) ∧ (q.1 : Int) < lenR L := ⟨by omega, hlt⟩
        have hq : q.1 < L.length := by omega
        have ht : L.take (q.1 + 1) = L.take q.1 ++ [L.getD q.1 rz] := by
          rw [List.take_add_one]; simp [List.getD, hq]
        have hws : IntKind.i64.wrap ((q.1 : Int) + 1) = ((q.1 + 1 : Nat) : Int) := by rw [IntWalk.i64_in _ (by omega)]; rfl
        have hwn : IntKind.i64.wrap ((q.2 : Int) + 1) = ((q.2 + 1 : Nat) : Int) := by rw [IntWalk.i64_in _ (by omega)]; rfl
        refine ⟨hw, fun hne => ?_, fun heq => ⟨hw, fun hap => ?_, fun hap => ?_⟩⟩
        · rw [hws]
          have e : at_ (L.take (q.1 + 1)) x.loc = at_ (L.take q.1) x.loc := by
            rw [ht]
            unfold at_
            rw [List.filter_append, List.filter_cons, if_neg (by simpa using hne), List.filter_nil, List.append_nil]
          exact ⟨(q.1 + 1, q.2), .refl _, ⟨by show q.1 + 1 ≤ _; omega, by show q.2 = _; rw [e]; exact h2, by show ∀ y ∈ at_ (L.take (q.1 + 1)) x.loc, _; rw [e]; exact h3⟩, by show L.length - (q.1 + 1) < L.length - q.1; omega⟩
        · have e : refAdd N L x = (L, 5) := by
            rw [e0, if_pos]
            rw [List.any_eq_true]
            exact ⟨L.getD q.1 rz, List.mem_filter.2 ⟨getD_mem hq, by simpa using heq⟩, hap⟩
          rw [e]
          exact fun E v hv => tup_rep (fun _ h => h) hv
        · rw [hws, hwn]
          have e : at_ (L.take (q.1 + 1)) x.loc = at_ (L.take q.1) x.loc ++ [L.getD q.1 rz] := by
            rw [ht]
            unfold at_
            rw [List.filter_append, List.filter_cons, if_pos (by simpa using heq), List.filter_nil]
          refine ⟨(q.1 + 1, q.2 + 1), .refl _, ⟨by show q.1 + 1 ≤ _; omega, by show q.2 + 1 = _; rw [e, List.length_append, h2]; rfl, ?_⟩, by show L.length - (q.1 + 1) < L.length - q.1; omega⟩
          show ∀ y ∈ at_ (L.take (q.1 + 1)) x.loc, _
          rw [e]
          intro y hy
          rcases List.mem_append.1 hy with hy | hy
          · exact h3 y hy
          · obtain rfl := List.mem_singleton.1 hy
            have hap : (!apartR (L.getD q.1 rz) x) = false := hap
            simpa using hap
      · have hge := of_decide_eq_false hge
        have hq : q.1 = L.length := by omega
        rw [hq, List.take_length] at h2 h3
        refine ⟨rfl, _, .refl _, q.1, ?_, h3⟩
        rw [h2]
    · rintro s ⟨i, rfl, h⟩
      rw [end70]
      have hna : ¬ (at_ L x.loc).any (fun y => !apartR y x) = true := fun ha => by
        obtain ⟨y, hy, hf⟩ := List.any_eq_true.1 ha
        rw [h y hy] at hf
        cases hf
      rw [if_neg hna] at e0
      refine ⟨fun hc => ?_, fun hc => ⟨sizeR_of (by omega), sizeR_of (by omega), ?_⟩⟩
      · have hc := of_decide_eq_true hc
        rw [if_pos (by omega)] at e0
        rw [e0]
        exact fun E v hv => tup_rep (fun _ h => h) hv
      · have hc := of_decide_eq_false hc
        rw [if_neg (by omega)] at e0
        rw [e0]
        exact fun E v hv => tup_rep (fun v hv => refA_rep (fun v hv => apR_rep hv) hv) hv
end
end Go.Proofs.Ytkmhabbpndcnkaa

/-
  PART: memory: the table of the document's functions; Fulfil, Cancel of the document's.
-/
namespace Go.Proofs.Ytkmhabbpndcnkaa
open Go.RowKit
noncomputable section
def withRef (a : AV) (f : Int → List RIt → Tree AV) : Option (Tree AV) := match a with
  | .agg [.v (.int .i64 n), .sl m 14 get _ _] => some (.side (RowRk m get) (f n (rlstOf m get)))
  | _ => none
theorem withRef_ok {a : AV} {f : Int → List RIt → Tree AV} {t : Tree AV} {r : AV} (h : withRef a f = some t) (hh : t.hit r) : ∃ N L, OkR L ∧ (f N L).hit r ∧ ∀ E v, Rep E a v → Rep E (refA N L) v := by
  unfold withRef at h
  split at h
  · cases h
    obtain ⟨h1, h2⟩ := hh
    exact ⟨_, _, rlstOf_ok h1, h2, fun E v hv => refA_rep (fun v hv => rowR_of h1 hv) hv⟩
  · cases h
def tabR1' (f : Nat) (args : List AV) : Option (Tree AV) := match f, args with
  | 103, [m, .v (.int .i64 loc), .v (.int .i64 to), .v (.int .i64 o), .v (.bool res)] => withRef m fun _ L => .ret (iv (findI (ownedB loc to o res) L))
  | 72, [m, .v (.int .i64 loc), .v (.int .i64 to)] => withRef m fun _ L => .ret (optR (refAt L loc to))
  | 70, [m, .agg cs] => withRef m fun N L => .side (IsR cs) (.ret (.tup [refA N (refAdd N L (ritOf cs)).1, iv (refAdd N L (ritOf cs)).2]))
  | _, _ => none
theorem tabR1'_ok : TabFOk Try.prog tabR1' := by
  intro f args t a ht hh
  unfold tabR1' at ht
  split at ht
  · obtain ⟨N, L, hL, h1, h2⟩ := withRef_ok ht hh
    cases h1
    exact (owned_ref N hL.1 _ _ _ _).pre fun E vs h => by cases h with | cons q1 h => exact .cons (h2 _ _ q1) h
  · obtain ⟨N, L, hL, h1, h2⟩ := withRef_ok ht hh
    cases h1
    exact (at_ref N hL.1 _ _).pre fun E vs h => by cases h with | cons q1 h => exact .cons (h2 _ _ q1) h
  · obtain ⟨N, L, hL, ⟨h3, h1⟩, h2⟩ := withRef_ok ht hh
    cases h1
    refine (add_ref N hL.1 (rvz_ritOf _)).pre fun E vs h => ?_
    cases h with | cons q1 h => cases h with | cons q2 h => exact .cons (h2 _ _ q1) (.cons (by rw [← h3]; exact q2) h)
  · cases ht
def tabR1 (f : Nat) (args : List AV) : Option (Tree AV) := match opened tabR1' f args with
  | some t => some t
  | none => tabM3 f args
theorem tabR1_ok : TabFOk Try.prog tabR1 := by
  intro f args t a ht hh
  unfold tabR1 at ht
  split at ht
  · rename_i u hu
    cases ht
    exact opened_okF tabR1'_ok _ _ _ _ hu hh
  · exact tabM3_ok _ _ _ _ ht hh
noncomputable def cx5 (dec : Nat → St → Option Bool) : Cx := ⟨Try.prog, ctrOf2 (opened tabM4) tabR1, dec⟩
theorem cx5_ok (dec : Nat → St → Option Bool) : CtrOk (cx5 dec) := ctrOf2_ok (opened_ok tabM4_ok) tabR1_ok dec
def okRR (L : List RIt) : Prop := RowRk L.length (getR L)
def lsRR (L : List RIt) : List RIt := rlstOf L.length (getR L)
def outE (N loc : Int) : Bool := if decide (loc < 0) = true then true else decide (loc ≥ N)
def rOwn (L : List RIt) (loc to o : Int) (res : Bool) : Int := findI (ownedB loc to o res) (lsRR L)
def sOut (N loc : Int) (b : Bool) (t : Tree AV) : Tree AV := .side (outE N loc = b) t
def sOwn (L : List RIt) (loc to o : Int) (res b : Bool) (t : Tree AV) : Tree AV := .side (okRR L) (.side (decide (rOwn L loc to o res < 0) = b) t)
def rfulG (L : List RIt) (a : Int) : Nat → List AV := fun j => mixC 14 (decide (j = a.toNat)) (splice (getR L a.toNat) 13 [.lit (.int .i64 (-1))]) (getR L j)
theorem rful_a (N : Int) (L : List RIt) (loc to o : Int) : ((evs (cx5 (decM [(18,true)])) 60).call 67 [refA N L, iv loc, iv to, iv o] .nil).frz = sOut N loc true (.ret (.tup [refA N L, .lit (.int .i64 1)])) := by kernel_rfl
theorem rful_b (N : Int) (L : List RIt) (loc to o : Int) : ((evs (cx5 (decM [(18,false),(26,true)])) 60).call 67 [refA N L, iv loc, iv to, iv o] .nil).frz = sOut N loc false (sOwn L loc to o false true (.ret (.tup [refA N L, .lit (.int .i64 6)]))) := by kernel_rfl
theorem rful_c (N : Int) (L : List RIt) (loc to o : Int) : ((evs (cx5 (decM [(18,false),(26,false)])) 60).call 67 [refA N L, iv loc, iv to, iv o] .nil).frz = sOut N loc false (sOwn L loc to o false false
    (.side (sizeR (0 + L.length)) (.side (0 ≤ rOwn L loc to o false ∧ rOwn L loc to o false < ((0 + L.length : Nat) : Int)) (.side ((rOwn L loc to o false).toNat < 0 + L.length) (.ret (.tup [.agg [iv N, .sl (0 + L.length) 14 (rfulG L (rOwn L loc to o false)) false false], .lit (.int .i64 0)])))))) := by kernel_rfl
theorem rcan_a (N : Int) (L : List RIt) (loc to o : Int) : ((evs (cx5 (decM [(18,true)])) 60).call 69 [refA N L, iv loc, iv to, iv o] .nil).frz = sOut N loc true (.ret (.tup [refA N L, .lit (.int .i64 1)])) := by kernel_rfl
theorem rcan_b (N : Int) (L : List RIt) (loc to o : Int) : ((evs (cx5 (decM [(18,false),(26,true)])) 60).call 69 [refA N L, iv loc, iv to, iv o] .nil).frz = sOut N loc false (sOwn L loc to o true true (.ret (.tup [refA N L, .lit (.int .i64 6)]))) := by kernel_rfl
def restR (L : List RIt) (a : Int) : Nat := (lenR L).toNat - (wr1 a).toNat
def rcanG (L : List RIt) (a : Int) : Nat → List AV := fun i => mixC 14 (decide (i < 0 + (a.toNat - 0))) (getR L (0 + i)) (getR L ((wr1 a).toNat + (i - (0 + (a.toNat - 0)))))
def rcanT (L : List RIt) (a : Int) (t : Tree AV) : Tree AV := .side (0 ≤ (0 : Int) ∧ (0 : Int) ≤ a ∧ a ≤ lenR L ∧ (false = true → (0 : Int) = a)) <| .side (sizeR (0 + (a.toNat - 0))) <| .side (0 ≤ wr1 a ∧ wr1 a ≤ lenR L ∧ lenR L ≤ lenR L ∧ (false = true → (0 : Int) = lenR L)) <| .side (sizeR (0 + (a.toNat - 0) + restR L a)) t
theorem rcan_c (N : Int) (L : List RIt) (loc to o : Int) : ((evs (cx5 (decM [(18,false),(26,false)])) 60).call 69 [refA N L, iv loc, iv to, iv o] .nil).frz = sOut N loc false (sOwn L loc to o true false
    (rcanT L (rOwn L loc to o true) (.ret (.tup [.agg [iv N, .sl (0 + ((rOwn L loc to o true).toNat - 0) + restR L (rOwn L loc to o true)) 14 (rcanG L (rOwn L loc to o true)) false false], .lit (.int .i64 0)])))) := by kernel_rfl
end
end Go.Proofs.Ytkmhabbpndcnkaa

/-
  PART: memory: contracts of Fulfil, Cancel of the document's.
-/
namespace Go.Proofs.Ytkmhabbpndcnkaa
open Go.RowKit
noncomputable section
theorem lsRR_eq {L : List RIt} (h : OkR L) : lsRR L = L := rlstOf_getR h
theorem outE_iff (N loc : Int) : outE N loc = true ↔ loc < 0 ∨ loc ≥ N := by
  unfold outE
  by_cases h1 : loc < 0 <;> simp [h1]
section
variable {N : Int} {L : List RIt} (hL : OkR L) (loc to o : Int)
include hL
theorem sOwn_wp {res b : Bool} {t : Tree AV} {Q : AV → Prop} (h : decide (findI (ownedB loc to o res) L < 0) = b) (ht : t.wp Q) : (sOwn L loc to o res b t).wp Q :=
  ⟨rowRk_getR hL, by unfold rOwn; rw [lsRR_eq hL]; exact h, ht⟩
theorem findR_lt {f : RIt → Bool} (h : 0 ≤ findI f L) : findI f L < L.length := by
  obtain ⟨A, x, B, rfl, hx, hA, he⟩ := findI_split h
  rw [he]; simp; omega
theorem rfulG_eq (c : Bool) (x y : RIt) : mixC 14 c (splice x.cells 13 [.lit (.int .i64 (-1))]) y.cells = (if c = true then { x with own := -1 } else y : RIt).cells := by
  refine (fun (_ : OkR L) => ?_) hL
  cases c
  · kernel_rfl
  · kernel_rfl
theorem rful_rep {a : Int} (h0 : 0 ≤ a) (h1 : a < L.length) {E : Env} {v : Value} (h : Rep E (.sl (0 + L.length) 14 (rfulG L a) false false) v) : Rep E (rowR (L.modify a.toNat fun y => { y with own := -1 })) v := by
  show Rep E (.sl (L.modify a.toNat fun y => { y with own := -1 }).length 14 (fun i => ((L.modify a.toNat fun y => { y with own := -1 }).getD i rz).cells) false false) v
  rw [List.length_modify]
  rw [Nat.zero_add] at h
  refine h.sl_congr fun i hi => ?_
  unfold rfulG getR
  rw [rfulG_eq hL]
  congr 1
  simp only [List.getD, List.getElem?_modify]
  by_cases c : i = a.toNat
  · subst c
    simp [hi]
  · rw [if_neg (by simpa using c)]
    have : ¬ a.toNat = i := fun e => c e.symm
    simp [this]
theorem ful_ref : FrzOk Try.prog 67 [refA N L, iv loc, iv to, iv o] (.tup [refA N (refFulfil N L loc to o).1, iv (refFulfil N L loc to o).2]) := by
  by_cases hl : loc < 0 ∨ loc ≥ N
  · have e : refFulfil N L loc to o = (L, 1) := by unfold refFulfil; rw [if_pos hl]
    rw [e]
    exact frz_ev (cx5_ok _) fitTry (rful_a N L loc to o) ⟨(outE_iff N loc).2 hl, fun E v hv => tup_rep (fun _ h => h) hv⟩
  · have hl' : outE N loc = false := by
      cases h : outE N loc with
      | false => rfl
      | true => exact absurd ((outE_iff N loc).1 h) hl
    by_cases hf : findI (ownedB loc to o false) L < 0
    · have e : refFulfil N L loc to o = (L, 6) := by unfold refFulfil; rw [if_neg hl, if_pos hf]
      rw [e]
      exact frz_ev (cx5_ok _) fitTry (rful_b N L loc to o) ⟨hl', sOwn_wp hL loc to o (decide_eq_true hf) fun E v hv => tup_rep (fun _ h => h) hv⟩
    · have e : refFulfil N L loc to o = (L.modify (findI (ownedB loc to o false) L).toNat fun x => { x with own := -1 }, 0) := by unfold refFulfil; rw [if_neg hl, if_neg hf]
      rw [e]
      have h0 := Int.not_lt.1 hf
      have h1 := findR_lt hL h0
      have h2 := hL.1
      have hb := rful_c N L loc to o
      have ho : rOwn L loc to o false = findI (ownedB loc to o false) L := by unfold rOwn; rw [lsRR_eq hL]
      rw [ho] at hb
      exact frz_ev (cx5_ok _) fitTry hb ⟨hl', sOwn_wp hL loc to o (decide_eq_false hf) ⟨sizeR_of (by omega), ⟨h0, by omega⟩, by omega, fun E v hv => tup_rep (fun v hv => refA_rep (fun v hv => rful_rep hL h0 h1 hv) hv) hv⟩⟩
theorem rcan_rep {a : Int} (h0 : 0 ≤ a) (h1 : a < L.length) {E : Env} {v : Value} (h : Rep E (.sl (0 + (a.toNat - 0) + restR L a) 14 (rcanG L a) false false) v) : Rep E (rowR (L.take a.toNat ++ L.drop (a.toNat + 1))) v := by
  have hs := hL.1
  have hw : wr1 a = a + 1 := IntWalk.i64_in _ (by omega)
  have hl : (L.take a.toNat).length = a.toNat := by rw [List.length_take]; omega
  have e : (L.take a.toNat ++ L.drop (a.toNat + 1)).length = 0 + (a.toNat - 0) + restR L a := by
    unfold restR lenR
    rw [hw, List.length_append, hl, List.length_drop]; omega
  show Rep E (.sl (L.take a.toNat ++ L.drop (a.toNat + 1)).length 14 (fun i => ((L.take a.toNat ++ L.drop (a.toNat + 1)).getD i rz).cells) false false) v
  rw [e]
  refine h.sl_congr fun i hi => ?_
  unfold rcanG getR
  rw [mixR_cells, getD_appR, hl, hw]
  congr 1
  by_cases c : i < a.toNat
  · rw [if_pos (by simpa using c), if_pos c]
    simp [List.getD, c]
  · rw [if_neg (by simpa using c), if_neg c]
    have e2 : (a + 1).toNat = a.toNat + 1 := by omega
    rw [e2]
    simp [List.getD, List.getElem?_drop]
theorem can_ref : FrzOk Try.prog 69 [refA N L, iv loc, iv to, iv o] (.tup [refA N (refCancel N L loc to o).1, iv (refCancel N L loc to o).2]) := by
  by_cases hl : loc < 0 ∨ loc ≥ N
  · have e : refCancel N L loc to o = (L, 1) := by unfold refCancel; rw [if_pos hl]
    rw [e]
    exact frz_ev (cx5_ok _) fitTry (rcan_a N L loc to o) ⟨(outE_iff N loc).2 hl, fun E v hv => tup_rep (fun _ h => h) hv⟩
  · have hl' : outE N loc = false := by
      cases h : outE N loc with
      | false => rfl
      | true => exact absurd ((outE_iff N loc).1 h) hl
    by_cases hf : findI (ownedB loc to o true) L < 0
    · have e : refCancel N L loc to o = (L, 6) := by unfold refCancel; rw [if_neg hl, if_pos hf]
      rw [e]
      exact frz_ev (cx5_ok _) fitTry (rcan_b N L loc to o) ⟨hl', sOwn_wp hL loc to o (decide_eq_true hf) fun E v hv => tup_rep (fun _ h => h) hv⟩
    · have e : refCancel N L loc to o = (L.take (findI (ownedB loc to o true) L).toNat ++ L.drop ((findI (ownedB loc to o true) L).toNat + 1), 0) := by unfold refCancel; rw [if_neg hl, if_neg hf]
      rw [e]
      have h0 := Int.not_lt.1 hf
      have h1 := findR_lt hL h0
      have h2 := hL.1
      have hb := rcan_c N L loc to o
      have ho : rOwn L loc to o true = findI (ownedB loc to o true) L := by unfold rOwn; rw [lsRR_eq hL]
      rw [ho] at hb
      have hw : wr1 (findI (ownedB loc to o true) L) = findI (ownedB loc to o true) L + 1 := IntWalk.i64_in _ (by omega)
      have hl3 : lenR L = (L.length : Int) := rfl
      exact frz_ev (cx5_ok _) fitTry hb ⟨hl', sOwn_wp hL loc to o (decide_eq_false hf) ⟨⟨by decide, h0, by rw [hl3]; omega, fun h => by cases h⟩, sizeR_of (by omega), ⟨by rw [hw]; omega, by rw [hw, hl3]; omega, Int.le_refl _, fun h => by cases h⟩, sizeR_of (by unfold restR; rw [hl3]; omega), fun E v hv => tup_rep (fun v hv => refA_rep (fun v hv => rcan_rep hL h0 h1 hv) hv) hv⟩⟩
end
end
end Go.Proofs.Ytkmhabbpndcnkaa

/-
  PART: memory: List of the document's, the parts of its run.
-/
namespace Go.Proofs.Ytkmhabbpndcnkaa
open Go.RowKit
noncomputable section
noncomputable def c88 : Code := codeOf Try.f88
noncomputable def a88 : Code := cl (cl (behind 2 c88))
noncomputable def ob88 : Code := cin (cin (cr (cl (behind 2 c88))))
noncomputable def tail88 : Code := cr (behind 2 c88)
noncomputable def X88 : Code := cin (cl (cr ob88))
noncomputable def ib88 : Code := cin (cin (cl (behind 2 X88)))
noncomputable def tl88 : Code := cr (behind 2 X88)
theorem code88 : c88 = seqs (firsts 2 c88) (.seq (.seq a88 (.block 0 (.loop ob88))) tail88) := by kernel_rfl
theorem obody88 : ob88 = seqs [cl ob88] (.seq (.block 1 X88) (cr (cr ob88))) := by kernel_rfl
theorem X88_eq : X88 = seqs (firsts 2 X88) (.seq (.block 2 (.loop ib88)) tl88) := by kernel_rfl
noncomputable def res88 : St → Option AV := resF Try.prog Try.f88.results.toList
def mB (N : Int) (L : List RIt) : Nat × Option Blk := (0, some (.fix 83 [iv N, rowR L]))
def ds88 : List (Nat × Bool) := [(1, false), (2, false), (5, false), (6, true)]
def st88 (N : Int) (L : List RIt) (loc : Int) : St := { sl := [(1, iv loc), (2, .ptr 0 0), (5, .lit (.slice none 0 0))], hp := [mB N L], nx := 1, rd := [], wr := [], ws := [], wb := [] }
def inv88 (N : Int) (L : List RIt) (loc : Int) (n : Nat) (out : List RIt) (i : Int) : St := { sl := [(1, iv loc), (2, .ptr 0 0), (5, .own 1 n 14 false), (6, iv i)], hp := [mB N L, (1, some (.arr 96 n 14 (getR out)))], nx := 2, rd := [], wr := [], ws := [], wb := [] }
def ds88i : List (Nat × Bool) := [(1, false), (2, false), (5, false), (6, true), (7, true)]
def inn88 (N : Int) (L : List RIt) (loc : Int) (n : Nat) (out : List RIt) (i a : Int) : St := { sl := [(1, iv loc), (2, .ptr 0 0), (5, .own 1 n 14 false), (6, iv i), (7, iv a)], hp := [mB N L, (1, some (.arr 96 n 14 (getR out)))], nx := 2, rd := [], wr := [], ws := [], wb := [] }
theorem pre88 (N : Int) (L : List RIt) (loc : Int) : ((codeE (cx5 fun _ _ => none) (evs (cx5 fun _ _ => none) 60) (joins (firsts 2 c88)) (entry [refA N L, iv loc])).map (lfR 0 [(1, false), (2, false), (5, false)] true res88)) = .ret (.go .norm (some (st88 N L loc))) := by kernel_rfl
def st88b (N : Int) (L : List RIt) (loc : Int) : St := { sl := [(1, iv loc), (2, .ptr 0 0), (5, .lit (.slice none 0 0)), (6, iv 0)], hp := [mB N L], nx := 1, rd := [], wr := [], ws := [], wb := [] }
theorem init88 (N : Int) (L : List RIt) (loc : Int) : ((codeE (cx5 fun _ _ => none) (evs (cx5 fun _ _ => none) 60) a88 (st88 N L loc)).map (lfR 0 ds88 true res88)) = .ret (.go .norm (some (st88b N L loc))) := by kernel_rfl
theorem nil88 (N : Int) (L : List RIt) (loc : Int) : St.nilOwn? 0 ds88 5 96 14 (st88b N L loc) = some { sl := [(1, iv loc), (2, .ptr 0 0), (5, .own 1 0 14 false), (6, iv 0)], hp := [mB N L, (1, some (.arr 96 0 14 fun _ => fit 14 []))], nx := 2, rd := [], wr := [], ws := [], wb := [] } := by kernel_rfl
theorem top88 (N : Int) (L : List RIt) (loc : Int) (n : Nat) (out : List RIt) (i : Int) : ((codeE (cx5 fun _ _ => none) (evs (cx5 fun _ _ => none) 60) (joins [cl ob88]) (inv88 N L loc n out i)).map (lfR 0 ds88 true res88)) =
    .br (decide (i < lenR L)) (.ret (.go .norm (some (inv88 N L loc n out i)))) (.ret (.go (.exit 0) (some (inv88 N L loc n out i)))) := by kernel_rfl
theorem x88 (N : Int) (L : List RIt) (loc : Int) (n : Nat) (out : List RIt) (i : Int) : ((codeE (cx5 fun _ _ => none) (evs (cx5 fun _ _ => none) 60) (joins (firsts 2 X88)) (inv88 N L loc n out i)).map (lfR 0 ds88i true res88)) =
    .side (0 ≤ i ∧ i < lenR L) (.br ((L.getD i.toNat rz).loc != loc) (.ret (.go (.exit 1) (some { inv88 N L loc n out i with sl := [(1, iv loc), (2, .ptr 0 0), (5, .own 1 n 14 false), (6, iv i), (7, .unk)] }))) (.ret (.go .norm (some (inn88 N L loc n out i 0))))) := by kernel_rfl
theorem rnd88 (N : Int) (L : List RIt) (loc : Int) (n : Nat) (out : List RIt) (i a : Int) : ((codeE (cx5 fun _ _ => none) (evs (cx5 fun _ _ => none) 60) ib88 (inn88 N L loc n out i a)).map (lfR 0 ds88i true res88)) =
    .side (decide (a < (n : Int)) = true → (0 ≤ a ∧ a < (n : Int)) ∧ a.toNat < n ∧ 0 ≤ i ∧ i < lenR L) (.br (decide (a < (n : Int))) (.br (lessR (out.getD a.toNat rz) (L.getD i.toNat rz)) (.ret (.go .norm (some (inn88 N L loc n out i (IntKind.i64.wrap (a + 1)))))) (.ret (.go (.exit 2) (some (inn88 N L loc n out i a))))) (.ret (.go (.exit 2) (some (inn88 N L loc n out i a))))) := by kernel_rfl
def fro88 (N : Int) (L : List RIt) (loc : Int) (n : Nat) (out : List RIt) (i a : Int) : St := { sl := [(1, iv loc), (2, .ptr 0 0), (5, .sl n 14 (getR out) false false), (6, iv i), (7, iv a)], hp := [mB N L], nx := 1, rd := [], wr := [], ws := [], wb := [] }
theorem frz88 (N : Int) (L : List RIt) (loc : Int) (n : Nat) (out : List RIt) (i a : Int) : St.freeze? 0 ds88i true 1 (inn88 N L loc n out i a) = some (fro88 N L loc n out i a) := by kernel_rfl
def insG (out : List RIt) (x : RIt) (a : Nat) : Nat → List AV := fun j => mixC 14 (decide (j < 0 + (a - 0) + 1)) (mixC 14 (decide (j < 0 + (a - 0))) (getR out (0 + j)) x.cells) (getR out (a + (j - (0 + (a - 0) + 1))))
def insN (n a : Nat) : Nat := 0 + (a - 0) + 1 + ((n : Int).toNat - a)
def ins88 (N : Int) (L : List RIt) (loc : Int) (n : Nat) (out : List RIt) (i : Int) (a : Nat) : St := { sl := [(1, iv loc), (2, .ptr 0 0), (5, .own 1 (insN n a) 14 false), (6, iv i)], hp := [mB N L, (1, some (.arr 96 (insN n a) 14 (insG out (L.getD i.toNat rz) a)))], nx := 2, rd := [], wr := [], ws := [], wb := [] }
theorem tl88_eq (N : Int) (L : List RIt) (loc : Int) (n : Nat) (out : List RIt) (i a : Int) : ((codeE (cx5 fun _ _ => none) (evs (cx5 fun _ _ => none) 60) tl88 (fro88 N L loc n out i a)).map (lfR 0 ds88 true res88)) =
    .side (0 ≤ (0 : Int) ∧ (0 : Int) ≤ a ∧ a ≤ (n : Int) ∧ (false = true → (0 : Int) = a)) (.side (sizeR (0 + (a.toNat - 0))) (.side (0 ≤ i ∧ i < lenR L) (.side (sizeR (0 + (a.toNat - 0) + 1)) (.side (0 ≤ a ∧ a ≤ (n : Int) ∧ (n : Int) ≤ (n : Int) ∧ (false = true → (0 : Int) = (n : Int)))
      (.side (sizeR (insN n a.toNat)) (.ret (.go .norm (some (ins88 N L loc n out i a.toNat))))))))) := by kernel_rfl
theorem nxt88 (N : Int) (L : List RIt) (loc : Int) (n : Nat) (out : List RIt) (i : Int) : ((codeE (cx5 fun _ _ => none) (evs (cx5 fun _ _ => none) 60) (cr (cr ob88)) (inv88 N L loc n out i)).map (lfR 0 ds88 true res88)) = .ret (.go .norm (some (inv88 N L loc n out (IntKind.i64.wrap (i + 1))))) := by kernel_rfl
theorem end88 (N : Int) (L : List RIt) (loc : Int) (n : Nat) (out : List RIt) (i : Int) : ((codeE (cx5 fun _ _ => none) (evs (cx5 fun _ _ => none) 60) tail88 (inv88 N L loc n out i)).map (lfR 0 [] false res88)) = .ret (.out (.sl n 14 (getR out) false false)) := by kernel_rfl
theorem insR_at {x : RIt} : ∀ {out : List RIt} {a : Nat}, a ≤ out.length → (∀ j, j < a → lessR (out.getD j rz) x = true) → (a < out.length → lessR (out.getD a rz) x = false) → insR x out = out.take a ++ x :: out.drop a
  | [], a, h, _, _ => by
    have : a = 0 := by simpa using h
    subst this; rfl
  | y :: l, 0, _, _, h2 => by
    have h2 : lessR y x = false := h2 (Nat.succ_pos _)
    rw [insR_cons, if_neg (by rw [h2]; simp)]; rfl
  | y :: l, a + 1, h, h1, h2 => by
    have h3 : lessR y x = true := h1 0 (Nat.succ_pos _)
    rw [insR_cons, if_pos h3, insR_at (out := l) (a := a) (by simpa using h) (fun j hj => h1 (j + 1) (by omega)) (fun hj => h2 (by simpa using hj))]
    rfl
theorem getD_midR {A B : List RIt} {x : RIt} {i : Nat} : (A ++ x :: B).getD i rz = if i < A.length then A.getD i rz else if i < A.length + 1 then x else B.getD (i - (A.length + 1)) rz := by
  rw [getD_appR]
  by_cases h1 : i < A.length
  · rw [if_pos h1, if_pos h1]
  · rw [if_neg h1, if_neg h1]
    by_cases h2 : i < A.length + 1
    · have : i - A.length = 0 := by omega
      rw [if_pos h2, this]; rfl
    · rw [if_neg h2]
      obtain ⟨j, hj⟩ : ∃ j, i - A.length = j + 1 := ⟨i - A.length - 1, by omega⟩
      rw [hj, show i - (A.length + 1) = j by omega]; rfl
theorem insG_eq {out : List RIt} {x : RIt} {a : Nat} (h : a ≤ out.length) : ∀ i, i < insN out.length a → insG out x a i = getR (out.take a ++ x :: out.drop a) i := fun i hi => by
  have hl : (out.take a).length = a := by rw [List.length_take]; omega
  unfold insG getR
  rw [mixR_cells, mixR_cells, getD_midR, hl]
  congr 1
  by_cases c1 : i < a
  · rw [if_pos (by simpa using (show i < 0 + (a - 0) + 1 by omega)), if_pos (by simpa using (show i < 0 + (a - 0) by omega)), if_pos c1]
    simp [List.getD, c1]
  · rw [if_neg c1]
    by_cases c2 : i < a + 1
    · rw [if_pos (by simpa using (show i < 0 + (a - 0) + 1 by omega)), if_neg (by simpa using (show ¬ i < 0 + (a - 0) by omega)), if_pos c2]
    · rw [if_neg (by simpa using (show ¬ i < 0 + (a - 0) + 1 by omega)), if_neg c2]
      have : 0 + (a - 0) + 1 = a + 1 := by omega
      rw [this]
      simp [List.getD, List.getElem?_drop]
theorem insN_eq {out : List RIt} {x : RIt} {a : Nat} (h : a ≤ out.length) : insN out.length a = (out.take a ++ x :: out.drop a).length := by
  unfold insN
  rw [List.length_append, List.length_cons, List.length_take, List.length_drop]; omega
end
end Go.Proofs.Ytkmhabbpndcnkaa

/-
  PART: memory: the contract of List of the document's.
-/
namespace Go.Proofs.Ytkmhabbpndcnkaa
open Go.RowKit
noncomputable section
theorem getR_rep {E : Env} {n : Nat} {out : List RIt} (hn : n = out.length) {v : Value} (h : Rep E (.sl n 14 (getR out) false false) v) : Rep E (rowR out) v := by
  subst hn; exact h
theorem rlist_take_len (L : List RIt) (loc : Int) (i : Nat) : (rlist (L.take i) loc).length ≤ L.length := by
  rw [length_rlist]
  refine Nat.le_trans (List.length_filter_le _ _) ?_
  rw [List.length_take]; omega
set_option maxRecDepth 100000 in
theorem list_ref (N : Int) {L : List RIt} (hL : L.length ≤ 1000) (loc : Int) : FrzOk Try.prog 88 [refA N L, iv loc] (rowR (rlist L loc)) := by
  let O : AV → Prop := fun a' => ∀ E v, Rep E a' v → Rep E (rowR (rlist L loc)) v
  have hl : lenR L = (L.length : Int) := rfl
  refine frz_of_ends fitTry Try.func88 (c := c88) (by kernel_rfl) (Nat.le_of_ble_eq_true (by kernel_rfl)) (O := O) (fun E w hd hf => ?_) fun a' h => h
  rw [code88]
  refine wpc_stageR (cx := cx5 fun _ _ => none) (n := 60) (ds := [(1, false), (2, false), (5, false)]) (gb := true) (res := res88) (O := O) (cx5_ok _) fitTry (by simp [firsts]) (by kernel_rfl) ?_ ends_ret
  show ((codeE (cx5 fun _ _ => none) (evs (cx5 fun _ _ => none) 60) (joins (firsts 2 c88)) (entry [refA N L, iv loc])).map (lfR 0 [(1, false), (2, false), (5, false)] true res88)).wp _
  rw [pre88]
  show WpC _ _ _ _ _
  refine wpc_ioloop (cx := cx5 fun _ _ => none) (n := 60) (ds := ds88) (gb := true) (res := res88) (O := O) (cx5_ok _) fitTry (fun q : Nat × Nat × List RIt => inv88 N L loc q.2.1 q.2.2 q.1) (fun q => q.1 ≤ L.length ∧ q.2.1 = q.2.2.length ∧ q.2.2 = rlist (L.take q.1) loc) (fun q => L.length - q.1) (fun s => ∃ i : Int, s = inv88 N L loc (rlist L loc).length (rlist L loc) i) (by kernel_rfl) ?_ ?_ ends_ret ?_
  · show ((codeE (cx5 fun _ _ => none) (evs (cx5 fun _ _ => none) 60) a88 (st88 N L loc)).map (lfR 0 ds88 true res88)).wp _
    rw [init88]
    refine ⟨rfl, (0, 0, []), ?_, Nat.zero_le _, rfl, rfl⟩
    have h0 : HoldLe (begins Try.f88.ntmps E w hd hf) (st88b N L loc) _ := nilOwn_le (nil88 N L loc)
    exact h0.trans (hold_rows rfl rfl (.same (.row (fun i hi => absurd hi (Nat.not_lt_zero i)) .nil)))
  · rintro ⟨i, n, out⟩ hJ
    have h1 : i ≤ L.length := hJ.1
    have h2 : n = out.length := hJ.2.1
    have h3 : out = rlist (L.take i) loc := hJ.2.2
    subst h2
    have hlen : out.length ≤ L.length := by rw [h3]; exact rlist_take_len L loc i
    rw [obody88]
    refine wpc_stageR (cx := cx5 fun _ _ => none) (n := 60) (ds := ds88) (gb := true) (res := res88) (O := O) (cx5_ok _) fitTry (by simp) (by kernel_rfl) ?_ fun s a h1 h2 => .inr (.inr ⟨rfl, a, h1, h2⟩)
    show ((codeE (cx5 fun _ _ => none) (evs (cx5 fun _ _ => none) 60) (joins [cl ob88]) (inv88 N L loc out.length out i)).map (lfR 0 ds88 true res88)).wp _
    rw [top88]
    refine ⟨fun hlt => ?_, fun hge => ?_⟩
    · have hlt := of_decide_eq_true hlt
      have hw : 0 ≤ (i : Int) ∧ (i : Int) < lenR L := ⟨by omega, hlt⟩
      have hi : i < L.length := by omega
      have ht : L.take (i + 1) = L.take i ++ [L.getD i rz] := by
        rw [List.take_add_one]; simp [List.getD, hi]
      have hws : IntKind.i64.wrap ((i : Int) + 1) = ((i + 1 : Nat) : Int) := by rw [IntWalk.i64_in _ (by omega)]; rfl
      show WpC _ _ _ _ _
      refine wpc_blk (res := res88) (O := O) (Mid := fun m => ∃ n, m = inv88 N L loc n (rlist (L.take (i + 1)) loc) i ∧ n = (rlist (L.take (i + 1)) loc).length) ?_ (fun s a h1 h2 => .inr (.inr ⟨rfl, a, h1, h2⟩)) ?_
      · rw [X88_eq]
        refine wpc_stageR (cx := cx5 fun _ _ => none) (n := 60) (ds := ds88i) (gb := true) (res := res88) (O := O) (cx5_ok _) fitTry (by simp [firsts]) (by kernel_rfl) ?_ fun s a h1 h2 => .inr ⟨rfl, a, h1, h2⟩
        show ((codeE (cx5 fun _ _ => none) (evs (cx5 fun _ _ => none) 60) (joins (firsts 2 X88)) (inv88 N L loc out.length out i)).map (lfR 0 ds88i true res88)).wp _
        rw [x88]
        refine ⟨hw, fun hne => ?_, fun heq => ?_⟩
        · have e : rlist (L.take (i + 1)) loc = out := by
            rw [ht, rlist_snoc, if_neg (by simpa using hne), h3]
          refine .inl ⟨.inr rfl, _, ?_, out.length, rfl, by rw [e]⟩
          rw [e]
          intro act w hh
          have hc : canon 0 ds88 true { inv88 N L loc out.length out i with sl := [(1, iv loc), (2, .ptr 0 0), (5, .own 1 out.length 14 false), (6, iv i), (7, .unk)] } = some (inv88 N L loc out.length out i) := by kernel_rfl
          exact canon_ok hc act w hh
        · have e : rlist (L.take (i + 1)) loc = insR (L.getD i rz) out := by
            rw [ht, rlist_snoc, if_pos (by simpa using heq), h3]
          show WpC _ _ _ _ _
          refine wpc_oloop (res := res88) (O := O) (fun a : Nat => inn88 N L loc out.length out i a) (fun a => a ≤ out.length ∧ ∀ j, j < a → lessR (out.getD j rz) (L.getD i rz) = true) (fun a => out.length - a) (fun s => ∃ a : Nat, s = inn88 N L loc out.length out i a ∧ a ≤ out.length ∧ insR (L.getD i rz) out = out.take a ++ L.getD i rz :: out.drop a) ?_ (fun s a h1 h2 => .inr ⟨rfl, a, h1, h2⟩) 0 ⟨Nat.zero_le _, fun j hj => absurd hj (Nat.not_lt_zero j)⟩ rfl ?_
          · intro a hJa
            have g1 : a ≤ out.length := hJa.1
            have g2 : ∀ j, j < a → lessR (out.getD j rz) (L.getD i rz) = true := hJa.2
            refine wpc_endH (cx := cx5 fun _ _ => none) (n := 60) (ds := ds88i) (gb := true) (cx5_ok _) fitTry (by kernel_rfl) ?_
            show ((codeE (cx5 fun _ _ => none) (evs (cx5 fun _ _ => none) 60) ib88 (inn88 N L loc out.length out i a)).map (lfR 0 ds88i true res88)).wp _
            rw [rnd88]
            refine ⟨fun hx => ?_, fun hx => ⟨fun hp => ?_, fun hp => ?_⟩, fun hx => ?_⟩
            · have hx := of_decide_eq_true hx
              exact ⟨⟨by omega, hx⟩, by omega, hw⟩
            · have hx := of_decide_eq_true hx
              rw [Int.toNat_natCast, Int.toNat_natCast] at hp
              rw [IntWalk.i64_in _ (by omega)]
              refine ⟨a + 1, .refl _, ⟨by omega, fun j hj => ?_⟩, by show out.length - (a + 1) < out.length - a; omega⟩
              by_cases ej : j = a
              · subst ej; exact hp
              · exact g2 j (by omega)
            · have hx := of_decide_eq_true hx
              rw [Int.toNat_natCast, Int.toNat_natCast] at hp
              exact ⟨rfl, _, .refl _, a, rfl, g1, insR_at g1 g2 fun _ => hp⟩
            · have hx := of_decide_eq_false hx
              exact ⟨rfl, _, .refl _, a, rfl, g1, insR_at g1 g2 fun h => by omega⟩
          · rintro s ⟨a, rfl, g1, g2⟩
            refine wpc_pre (freeze_le rfl (frz88 N L loc out.length out i a)) ?_
            refine wpc_of_lfR (cx := cx5 fun _ _ => none) (n := 60) (ds := ds88) (gb := true) (res := res88) (O := O) (cx5_ok _) fitTry (by kernel_rfl) ?_ fun s a h1 h2 => .inr ⟨rfl, a, h1, h2⟩
            show ((codeE (cx5 fun _ _ => none) (evs (cx5 fun _ _ => none) 60) tl88 (fro88 N L loc out.length out i a)).map (lfR 0 ds88 true res88)).wp _
            rw [tl88_eq]
            have hn := insN_eq (x := L.getD i rz) g1
            have hn2 : insN out.length a ≤ 2000 := by rw [hn, List.length_append, List.length_cons, List.length_take, List.length_drop]; omega
            refine ⟨⟨by decide, by omega, by omega, fun h => by cases h⟩, sizeR_of (by omega), hw, sizeR_of (by omega), ⟨by omega, by omega, Int.le_refl _, fun h => by cases h⟩, sizeR_of (by rw [Int.toNat_natCast]; omega), .inl ⟨.inl rfl, _, ?_, insN out.length a, rfl, ?_⟩⟩
            · rw [e, g2, Int.toNat_natCast]
              refine hold_rows rfl rfl (.same (.row (fun j hj => ?_) .nil))
              have := insG_eq (x := L.getD i rz) g1 j hj
              rw [Int.toNat_natCast]; exact this
            · rw [e, g2]; exact hn
      · rintro m ⟨n, rfl, hn⟩
        refine wpc_endH (cx := cx5 fun _ _ => none) (n := 60) (ds := ds88) (gb := true) (cx5_ok _) fitTry (by kernel_rfl) ?_
        show ((codeE (cx5 fun _ _ => none) (evs (cx5 fun _ _ => none) 60) (cr (cr ob88)) (inv88 N L loc n (rlist (L.take (i + 1)) loc) i)).map (lfR 0 ds88 true res88)).wp _
        rw [nxt88, hws]
        exact ⟨(i + 1, n, rlist (L.take (i + 1)) loc), .refl _, ⟨by show i + 1 ≤ _; omega, hn, rfl⟩, by show L.length - (i + 1) < L.length - i; omega⟩
    · have hge := of_decide_eq_false hge
      have hi : i = L.length := by omega
      have e : out = rlist L loc := by rw [h3, hi, List.take_length]
      refine .inr (.inl ⟨rfl, _, .refl _, i, ?_⟩)
      rw [e]
  · rintro s ⟨i, rfl⟩
    refine wpc_of_lfR (cx := cx5 fun _ _ => none) (n := 60) (ds := []) (gb := false) (res := res88) (O := O) (cx5_ok _) fitTry (by kernel_rfl) ?_ ends_ret
    show ((codeE (cx5 fun _ _ => none) (evs (cx5 fun _ _ => none) 60) tail88 (inv88 N L loc (rlist L loc).length (rlist L loc) i)).map (lfR 0 [] false res88)).wp _
    rw [end88]
    exact fun E v hv => getR_rep rfl hv
end
end Go.Proofs.Ytkmhabbpndcnkaa

/-
  PART: memory: Last, Begin of the document's.
-/
namespace Go.Proofs.Ytkmhabbpndcnkaa
open Go.RowKit
noncomputable section
def tabR2' (f : Nat) (args : List AV) : Option (Tree AV) := match f, args with
  | 88, [m, .v (.int .i64 loc)] => withRef m fun _ L => .ret (rowR (rlist L loc))
  | 67, [m, .v (.int .i64 loc), .v (.int .i64 to), .v (.int .i64 o)] => withRef m fun N L => .ret (.tup [refA N (refFulfil N L loc to o).1, iv (refFulfil N L loc to o).2])
  | 69, [m, .v (.int .i64 loc), .v (.int .i64 to), .v (.int .i64 o)] => withRef m fun N L => .ret (.tup [refA N (refCancel N L loc to o).1, iv (refCancel N L loc to o).2])
  | _, _ => none
theorem tabR2'_ok : TabFOk Try.prog tabR2' := by
  intro f args t a ht hh
  unfold tabR2' at ht
  split at ht
  · obtain ⟨N, L, hL, h1, h2⟩ := withRef_ok ht hh
    cases h1
    exact (list_ref N hL.1 _).pre fun E vs h => by cases h with | cons q1 h => exact .cons (h2 _ _ q1) h
  · obtain ⟨N, L, hL, h1, h2⟩ := withRef_ok ht hh
    cases h1
    exact (ful_ref hL _ _ _).pre fun E vs h => by cases h with | cons q1 h => exact .cons (h2 _ _ q1) h
  · obtain ⟨N, L, hL, h1, h2⟩ := withRef_ok ht hh
    cases h1
    exact (can_ref hL _ _ _).pre fun E vs h => by cases h with | cons q1 h => exact .cons (h2 _ _ q1) h
  · cases ht
def tabR2 (f : Nat) (args : List AV) : Option (Tree AV) := match opened tabR2' f args with
  | some t => some t
  | none => tabR1 f args
theorem tabR2_ok : TabFOk Try.prog tabR2 := by
  intro f args t a ht hh
  unfold tabR2 at ht
  split at ht
  · rename_i u hu
    cases ht
    exact opened_okF tabR2'_ok _ _ _ _ hu hh
  · exact tabR1_ok _ _ _ _ ht hh
noncomputable def cx6 (dec : Nat → St → Option Bool) : Cx := ⟨Try.prog, ctrOf2 (opened tabM4) tabR2, dec⟩
theorem cx6_ok (dec : Nat → St → Option Bool) : CtrOk (cx6 dec) := ctrOf2_ok (opened_ok tabM4_ok) tabR2_ok dec
/-! Last -/
noncomputable def c99 : Code := codeOf Try.f99
noncomputable def a99 : Code := cl (cl (behind 2 c99))
noncomputable def body99 : Code := cin (cin (cr (cl (behind 2 c99))))
noncomputable def tail99 : Code := cr (behind 2 c99)
theorem code99 : c99 = seqs (firsts 2 c99) (.seq (.seq a99 (.block 0 (.loop body99))) tail99) := by kernel_rfl
noncomputable def res99 : St → Option AV := resF Try.prog Try.f99.results.toList
def st99 (R : List RIt) : St := { sl := [(4, .ptr 0 0), (6, rowR R)], hp := [(0, some (.fix 96 rz.cells))], nx := 1, rd := [], wr := [], ws := [], wb := [] }
def inv99 (R : List RIt) (i : Int) : St := { sl := [(4, .ptr 0 0), (6, rowR R), (7, iv i)], hp := [(0, some (.fix 96 rz.cells))], nx := 1, rd := [], wr := [], ws := [], wb := [] }
def ds99 : List (Nat × Bool) := [(4, false), (6, false), (7, true)]
theorem pre99 (N : Int) (L : List RIt) (loc : Int) : ((codeE (cx6 fun _ _ => none) (evs (cx6 fun _ _ => none) 60) (joins (firsts 2 c99)) (entry [refA N L, iv loc])).map (lfR 0 [(4, false), (6, false)] true res99)) = .side (okRR L) (.ret (.go .norm (some (st99 (rlist (lsRR L) loc))))) := by kernel_rfl
theorem init99 (R : List RIt) : ((codeE (cx6 fun _ _ => none) (evs (cx6 fun _ _ => none) 60) a99 (st99 R)).map (lfR 0 ds99 true res99)) = .ret (.go .norm (some (inv99 R (IntKind.i64.wrap (lenR R - 1))))) := by kernel_rfl
theorem rnd99 (R : List RIt) (i : Int) : ((codeE (cx6 fun _ _ => none) (evs (cx6 fun _ _ => none) 60) body99 (inv99 R i)).map (lfR 0 ds99 true res99)) =
    .br (decide (i ≥ 0)) (.side (0 ≤ i ∧ i < lenR R) (.side ((!(R.getD i.toNat rz).res) = true → 0 ≤ i ∧ i < lenR R) (.br (!(R.getD i.toNat rz).res) (.ret (.out (.tup [.agg (R.getD i.toNat rz).cells, .lit (.bool true)]))) (.ret (.go .norm (some (inv99 R (IntKind.i64.wrap (i - 1)))))))))
      (.ret (.go (.exit 0) (some (inv99 R i)))) := by kernel_rfl
theorem end99 (R : List RIt) (i : Int) : ((codeE (cx6 fun _ _ => none) (evs (cx6 fun _ _ => none) 60) tail99 (inv99 R i)).map (lfR 0 [] false res99)) = .ret (.out (.tup [zR, .lit (.bool false)])) := by kernel_rfl
theorem lastR_at {l : List RIt} {a : Nat} (h : a < l.length) (hn : (l.getD a rz).res = false) (hr : ∀ j, a < j → j < l.length → (l.getD j rz).res = true) : l.reverse.find? (fun x => !x.res) = some (l.getD a rz) := by
  have e : l = l.take a ++ l.getD a rz :: l.drop (a + 1) := by
    rw [show l.getD a rz = l[a] by simp [List.getD, h], List.getElem_cons_drop h, List.take_append_drop]
  rw [e, List.reverse_append, List.find?_append, List.reverse_cons, List.find?_append, List.find?_eq_none.2]
  · rw [getD_midR, if_neg (by rw [List.length_take]; omega), if_pos (by rw [List.length_take]; omega)]
    simp
    exact .inl hn
  · intro y hy
    rw [List.mem_reverse] at hy
    obtain ⟨i, hi, rfl⟩ := List.getElem_of_mem hy
    rw [List.length_drop] at hi
    have := hr (a + 1 + i) (by omega) (by omega)
    rw [List.getElem_drop]
    simpa [List.getD, show a + 1 + i < l.length by omega] using this
theorem rlist_len (L : List RIt) (loc : Int) : (rlist L loc).length ≤ L.length := by
  rw [length_rlist]; exact List.length_filter_le _ _
set_option maxRecDepth 100000 in
theorem last_ref (N : Int) {L : List RIt} (hL : OkR L) (loc : Int) : FrzOk Try.prog 99 [refA N L, iv loc] (optR (refLast L loc)) := by
  have hlen := rlist_len L loc
  have h1000 := hL.1
  refine frz_loop fitTry Try.func99 (c := c99) (by kernel_rfl) (by kernel_rfl) (O := fun a => ∀ E v, Rep E a v → Rep E (optR (refLast L loc)) v) (cx := cx6 fun _ _ => none) (cx6_ok _) rfl (n := 60) code99 (by kernel_rfl) (by kernel_rfl) (ds0 := [(4, false), (6, false)]) (gb0 := true) (s1 := st99 (rlist L loc)) (ds := ds99) (gb := true)
    (fun i : Nat => inv99 (rlist L loc) ((i : Int) - 1)) (fun i => i ≤ (rlist L loc).length ∧ ∀ j, i ≤ j → j < (rlist L loc).length → ((rlist L loc).getD j rz).res = true) (fun i => i) (fun s => ∃ i : Int, s = inv99 (rlist L loc) i ∧ refLast L loc = none) ?_ ?_ ?_ ?_ fun a h => h
  · refine Eq.mpr (congrArg (Tree.wp _) (pre99 N L loc)) ?_
    refine ⟨rowRk_getR hL, rfl, ?_⟩
    rw [lsRR_eq hL]
  · refine Eq.mpr (congrArg (Tree.wp _) (init99 (rlist L loc))) ?_
    refine ⟨rfl, (rlist L loc).length, fun B hB => ?_, Nat.le_refl _, fun j h1 h2 => by omega⟩
    have e : IntKind.i64.wrap (lenR (rlist L loc) - 1) = ((rlist L loc).length : Int) - 1 := IntWalk.i64_in _ (by unfold lenR; omega)
    rw [e]
    exact .refl _
  · intro B hB i hJ
    have h1 : i ≤ (rlist L loc).length := hJ.1
    have h2 : ∀ j, i ≤ j → j < (rlist L loc).length → ((rlist L loc).getD j rz).res = true := hJ.2
    refine Eq.mpr (congrArg (Tree.wp _) (rnd99 (rlist L loc) ((i : Int) - 1))) ?_
    have hl : lenR (rlist L loc) = ((rlist L loc).length : Int) := rfl
    refine ⟨fun hlt => ?_, fun hge => ?_⟩
    · have hlt := of_decide_eq_true hlt
      obtain ⟨a, rfl⟩ : ∃ a, i = a + 1 := ⟨i - 1, by omega⟩
      have e : ((a + 1 : Nat) : Int) - 1 = a := by omega
      rw [e]
      have hw : 0 ≤ (a : Int) ∧ (a : Int) < lenR (rlist L loc) := ⟨by omega, by omega⟩
      refine ⟨hw, fun _ => hw, fun hp => ?_, fun hp => ?_⟩
      · rw [Int.toNat_natCast] at hp
        have e2 : refLast L loc = some ((rlist L loc).getD a rz) := lastR_at (by omega) (by simpa using hp) fun j h3 h4 => h2 j (by omega) h4
        rw [e2, Int.toNat_natCast]
        exact fun E v hv => someR_rep hv
      · rw [Int.toNat_natCast] at hp
        rw [IntWalk.i64_in _ (by omega)]
        refine ⟨a, .refl _, ⟨by omega, fun j h3 h4 => ?_⟩, Nat.lt_succ_self a⟩
        by_cases ej : j = a
        · subst ej; simpa using hp
        · exact h2 j (by omega) h4
    · have hge := of_decide_eq_false hge
      have hi : i = 0 := by omega
      subst hi
      refine ⟨rfl, _, .refl _, _, rfl, ?_⟩
      unfold refLast
      rw [List.find?_eq_none]
      intro x hx
      obtain ⟨j, hj, rfl⟩ := List.getElem_of_mem (List.mem_reverse.1 hx)
      have := h2 j (Nat.zero_le _) hj
      simpa [List.getD, hj] using this
  · rintro s ⟨i, rfl, h⟩
    refine Eq.mpr (congrArg (Tree.wp _) (end99 (rlist L loc) i)) ?_
    intro E v hv
    rw [h]; exact zR_rep hv
/-! Begin -/
def exGet : Tree AV → Nat → List AV
  | .ret (.tup [.agg [_, .sl _ _ g _ _], _]) => g
  | .side _ t => exGet t
  | _ => fun _ => []
noncomputable def T64 (l : List Int) : Tree AV := ((evs (cx6 fun _ _ => none) 60).call 64 [rowUc l] .nil).frz
def begR (k : Nat) (a : Int) : List AV := [.lit (.int .i64 k), .lit (.int .i64 0), .lit (.int .i64 0), .v (.int .u64 a), .lit (.int .i64 0), .lit (.int .i64 0), .lit (.int .i64 0), .lit (.int .i64 0), .lit (.int .i64 0), .lit (.int .i64 0), .lit (.int .i64 0), .lit (.int .i64 0), .lit (.bool false), .lit (.int .i64 (-1))]
def rbegRes (l : List Int) : Tree AV := .ret (.tup [.agg [.lit (.int .i64 l.length), .sl l.length 14 (exGet (T64 l)) true false], .lit (.int .i64 0)])
theorem rbeg1 (a : Int) : T64 [a] = .side (sizeR (0 + 1)) (rbegRes [a]) ∧ exGet (T64 [a]) 0 = begR 0 a := ⟨by kernel_rfl, by kernel_rfl⟩
theorem rbeg2 (a b : Int) : T64 [a, b] = .side (sizeR (0 + 1)) (.side (sizeR (0 + 1 + 1)) (rbegRes [a, b])) ∧ exGet (T64 [a, b]) 0 = begR 0 a ∧ exGet (T64 [a, b]) 1 = begR 1 b := ⟨by kernel_rfl, by kernel_rfl, by kernel_rfl⟩
theorem rbeg3 (a b c : Int) : T64 [a, b, c] = .side (sizeR (0 + 1)) (.side (sizeR (0 + 1 + 1)) (.side (sizeR (0 + 1 + 1 + 1)) (rbegRes [a, b, c]))) ∧ exGet (T64 [a, b, c]) 0 = begR 0 a ∧ exGet (T64 [a, b, c]) 1 = begR 1 b ∧ exGet (T64 [a, b, c]) 2 = begR 2 c := ⟨by kernel_rfl, by kernel_rfl, by kernel_rfl, by kernel_rfl⟩
theorem rbeg4 (a b c d : Int) : T64 [a, b, c, d] = .side (sizeR (0 + 1)) (.side (sizeR (0 + 1 + 1)) (.side (sizeR (0 + 1 + 1 + 1)) (.side (sizeR (0 + 1 + 1 + 1 + 1)) (rbegRes [a, b, c, d])))) ∧ exGet (T64 [a, b, c, d]) 0 = begR 0 a ∧ exGet (T64 [a, b, c, d]) 1 = begR 1 b ∧ exGet (T64 [a, b, c, d]) 2 = begR 2 c ∧ exGet (T64 [a, b, c, d]) 3 = begR 3 d := ⟨by kernel_rfl, by kernel_rfl, by kernel_rfl, by kernel_rfl, by kernel_rfl⟩
def badLenR (n : Int) : Bool := if (n == 0) = true then true else decide (n > 4)
theorem rbeg_no (l : List Int) : ((evs (cx6 (decM [(13,true)])) 60).call 64 [rowU l] .nil).frz = .side (badLenR (l.length : Int) = true) (.ret (.tup [.agg [.lit (.int .i64 0), nilA], .lit (.int .i64 1)])) := by kernel_rfl
def startR (k : Nat) (a : Int) : RIt := ⟨k, 0, 0, a, fun _ => 0, false, -1⟩
theorem begR_rep {E : Env} {k : Nat} {a : Int} {vs : List Value} (h : Reps E (begR k a) vs) : Reps E (startR k a).cells vs := genD_all 1 h
def refBegR (l : List Int) : Int × List RIt × Int := if badLenR (l.length : Int) = true then (0, [], 1) else (l.length, refBegin l, 0)
theorem rbegRes_rep {E : Env} {l : List Int} {L : List RIt} (hl : L.length = l.length) (hg : ∀ i, i < l.length → ∃ k a, exGet (T64 l) i = begR k a ∧ L.getD i rz = startR k a) {v : Value} (h : Rep E (.tup [.agg [.lit (.int .i64 l.length), .sl l.length 14 (exGet (T64 l)) true false], .lit (.int .i64 0)]) v) : Rep E (.tup [refA l.length L, iv 0]) v := by
  refine rep_okRes (a := .agg [.lit (.int .i64 l.length), .sl l.length 14 (exGet (T64 l)) true false]) (fun v h => ?_) h
  obtain ⟨vs, rfl, hr, ho⟩ := Rep.agg_inv h
  refine Rep.agg_mk ?_ ho
  cases hr with | cons r0 t => cases t with | cons r1 t => cases t with | nil =>
  refine .cons (rep_lit r0) (.cons ?_ .nil)
  show Rep E (.sl L.length 14 (getR L) false false) _
  rw [hl]
  refine r1.sl_imp fun i hi vs hr => ?_
  obtain ⟨k, a, h1, h2⟩ := hg i hi
  rw [h1] at hr
  show Reps E (L.getD i rz).cells vs
  rw [h2]; exact begR_rep hr
theorem rbegin_frz (l : List Int) : FrzOk Try.prog 64 [rowU l] (.tup [refA (refBegR l).1 (refBegR l).2.1, iv (refBegR l).2.2]) := by
  unfold refBegR
  by_cases hb : badLenR (l.length : Int) = true
  · rw [if_pos hb]
    refine frz_ev (cx6_ok _) fitTry (rbeg_no l) ⟨hb, fun E v hv => rep_okRes (fun v h => ?_) hv⟩
    obtain ⟨vs, rfl, hr, ho⟩ := Rep.agg_inv h
    refine Rep.agg_mk ?_ ho
    cases hr with | cons r0 t => cases t with | cons r1 t => cases t with | nil =>
    exact .cons (rep_lit r0) (.cons (by cases r1; exact .slNil rfl) .nil)
  · rw [if_neg hb]
    have hp : ∀ E vs, Reps E [rowU l] vs → Reps E [rowUc l] vs := fun E vs h => by
      cases h with | cons q1 h => exact .cons (rowUc_rep q1) h
    have hl : 1 ≤ l.length ∧ l.length ≤ 4 := by
      unfold badLenR at hb
      by_cases h1 : (l.length : Int) = 0
      · rw [if_pos (by simpa using h1)] at hb; exact absurd rfl hb
      · rw [if_neg (by simpa using h1)] at hb
        have := of_decide_eq_false (by simpa using hb : decide ((l.length : Int) > 4) = false)
        omega
    have sz : ∀ n, n ≤ 10 → sizeR n := fun n h => sizeR_of (by omega)
    match l, hl, hp with
    | [a], _, hp =>
      obtain ⟨h1, g0⟩ := rbeg1 a
      exact (frz_ev (cx6_ok _) fitTry h1 ⟨sz _ (by decide), fun E v hv => rbegRes_rep (L := refBegin [a]) rfl (fun i hi => by
        match i, hi with
        | 0, _ => exact ⟨0, a, g0, rfl⟩) hv⟩).pre hp
    | [a, b], _, hp =>
      obtain ⟨h1, g0, g1⟩ := rbeg2 a b
      exact (frz_ev (cx6_ok _) fitTry h1 ⟨sz _ (by decide), sz _ (by decide), fun E v hv => rbegRes_rep (L := refBegin [a, b]) rfl (fun i hi => by
        match i, hi with
        | 0, _ => exact ⟨0, a, g0, rfl⟩
        | 1, _ => exact ⟨1, b, g1, rfl⟩) hv⟩).pre hp
    | [a, b, c], _, hp =>
      obtain ⟨h1, g0, g1, g2⟩ := rbeg3 a b c
      exact (frz_ev (cx6_ok _) fitTry h1 ⟨sz _ (by decide), sz _ (by decide), sz _ (by decide), fun E v hv => rbegRes_rep (L := refBegin [a, b, c]) rfl (fun i hi => by
        match i, hi with
        | 0, _ => exact ⟨0, a, g0, rfl⟩
        | 1, _ => exact ⟨1, b, g1, rfl⟩
        | 2, _ => exact ⟨2, c, g2, rfl⟩) hv⟩).pre hp
    | [a, b, c, d], _, hp =>
      obtain ⟨h1, g0, g1, g2, g3⟩ := rbeg4 a b c d
      exact (frz_ev (cx6_ok _) fitTry h1 ⟨sz _ (by decide), sz _ (by decide), sz _ (by decide), sz _ (by decide), fun E v hv => rbegRes_rep (L := refBegin [a, b, c, d]) rfl (fun i hi => by
        match i, hi with
        | 0, _ => exact ⟨0, a, g0, rfl⟩
        | 1, _ => exact ⟨1, b, g1, rfl⟩
        | 2, _ => exact ⟨2, c, g2, rfl⟩
        | 3, _ => exact ⟨3, d, g3, rfl⟩) hv⟩).pre hp
end
end Go.Proofs.Ytkmhabbpndcnkaa

/-
  PART: memory: Owned of the document's.
-/
namespace Go.Proofs.Ytkmhabbpndcnkaa
open Go.RowKit
noncomputable section
noncomputable def c101 : Code := codeOf Try.f101
noncomputable def a101 : Code := cl (cl (behind 2 c101))
noncomputable def ob101 : Code := cin (cin (cr (cl (behind 2 c101))))
noncomputable def tail101 : Code := cr (behind 2 c101)
noncomputable def X101 : Code := cin (cl (cr ob101))
noncomputable def ib101 : Code := cin (cin (behind 2 X101))
theorem code101 : c101 = seqs (firsts 2 c101) (.seq (.seq a101 (.block 0 (.loop ob101))) tail101) := by kernel_rfl
theorem obody101 : ob101 = seqs [cl ob101] (.seq (.block 1 (seqs (firsts 2 X101) (.block 2 (.loop ib101)))) (cr (cr ob101))) := by kernel_rfl
noncomputable def res101 : St → Option AV := resF Try.prog Try.f101.results.toList
def ds101 : List (Nat × Bool) := [(1, false), (2, false), (5, false), (6, true)]
def st101 (N : Int) (L : List RIt) (o : Int) : St := { sl := [(1, iv o), (2, .ptr 0 0), (5, .lit (.slice none 0 0))], hp := [mB N L], nx := 1, rd := [], wr := [], ws := [], wb := [] }
def st101b (N : Int) (L : List RIt) (o : Int) : St := { sl := [(1, iv o), (2, .ptr 0 0), (5, .lit (.slice none 0 0)), (6, iv 0)], hp := [mB N L], nx := 1, rd := [], wr := [], ws := [], wb := [] }
def inv101 (N : Int) (L : List RIt) (o : Int) (n : Nat) (out : List RIt) (i : Int) : St := { sl := [(1, iv o), (2, .ptr 0 0), (5, .own 1 n 14 false), (6, iv i)], hp := [mB N L, (1, some (.arr 96 n 14 (getR out)))], nx := 2, rd := [], wr := [], ws := [], wb := [] }
def ds101i : List (Nat × Bool) := [(1, false), (2, false), (5, false), (6, true), (7, false), (8, true)]
def inn101 (N : Int) (L : List RIt) (o : Int) (n : Nat) (out : List RIt) (i : Int) (R : List RIt) (j : Int) : St := { sl := [(1, iv o), (2, .ptr 0 0), (5, .own 1 n 14 false), (6, iv i), (7, rowR R), (8, iv j)], hp := [mB N L, (1, some (.arr 96 n 14 (getR out)))], nx := 2, rd := [], wr := [], ws := [], wb := [] }
def appR (n : Nat) (out : List RIt) (x : RIt) : Nat → List AV := fun i => mixC 14 (decide (i < n)) (getR out i) x.cells
def inn101A (N : Int) (L : List RIt) (o : Int) (n : Nat) (out : List RIt) (i : Int) (R : List RIt) (j : Int) (x : RIt) : St := { sl := [(1, iv o), (2, .ptr 0 0), (5, .own 1 (n + 1) 14 false), (6, iv i), (7, rowR R), (8, iv j)], hp := [mB N L, (1, some (.arr 96 (n + 1) 14 (appR n out x)))], nx := 2, rd := [], wr := [], ws := [], wb := [] }
theorem pre101 (N : Int) (L : List RIt) (o : Int) : ((codeE (cx6 fun _ _ => none) (evs (cx6 fun _ _ => none) 60) (joins (firsts 2 c101)) (entry [refA N L, iv o])).map (lfR 0 [(1, false), (2, false), (5, false)] true res101)) = .ret (.go .norm (some (st101 N L o))) := by kernel_rfl
theorem init101 (N : Int) (L : List RIt) (o : Int) : ((codeE (cx6 fun _ _ => none) (evs (cx6 fun _ _ => none) 60) a101 (st101 N L o)).map (lfR 0 ds101 true res101)) = .ret (.go .norm (some (st101b N L o))) := by kernel_rfl
theorem nil101 (N : Int) (L : List RIt) (o : Int) : St.nilOwn? 0 ds101 5 96 14 (st101b N L o) = some { sl := [(1, iv o), (2, .ptr 0 0), (5, .own 1 0 14 false), (6, iv 0)], hp := [mB N L, (1, some (.arr 96 0 14 fun _ => fit 14 []))], nx := 2, rd := [], wr := [], ws := [], wb := [] } := by kernel_rfl
theorem top101 (N : Int) (L : List RIt) (o : Int) (n : Nat) (out : List RIt) (i : Int) : ((codeE (cx6 fun _ _ => none) (evs (cx6 fun _ _ => none) 60) (joins [cl ob101]) (inv101 N L o n out i)).map (lfR 0 ds101 true res101)) =
    .br (decide (i < N)) (.ret (.go .norm (some (inv101 N L o n out i)))) (.ret (.go (.exit 0) (some (inv101 N L o n out i)))) := by kernel_rfl
theorem x101 (N : Int) (L : List RIt) (o : Int) (n : Nat) (out : List RIt) (i : Int) : ((codeE (cx6 fun _ _ => none) (evs (cx6 fun _ _ => none) 60) (joins (firsts 2 X101)) (inv101 N L o n out i)).map (lfR 0 ds101i true res101)) =
    .side (okRR L) (.ret (.go .norm (some (inn101 N L o n out i (rlist (lsRR L) i) 0)))) := by kernel_rfl
theorem rnd101 (N : Int) (L : List RIt) (o : Int) (n : Nat) (out : List RIt) (i : Int) (R : List RIt) (j : Int) : ((codeE (cx6 fun _ _ => none) (evs (cx6 fun _ _ => none) 60) ib101 (inn101 N L o n out i R j)).map (lfR 0 ds101i true res101)) =
    .br (decide (j < lenR R)) (.side (0 ≤ j ∧ j < lenR R) (.side (((R.getD j.toNat rz).own == o) = true → (0 ≤ j ∧ j < lenR R) ∧ sizeR (n + 1)) (.br ((R.getD j.toNat rz).own == o) (.ret (.go .norm (some (inn101A N L o n out i R (IntKind.i64.wrap (j + 1)) (R.getD j.toNat rz))))) (.ret (.go .norm (some (inn101 N L o n out i R (IntKind.i64.wrap (j + 1)))))))))
      (.ret (.go (.exit 2) (some (inn101 N L o n out i R j)))) := by kernel_rfl
theorem nxt101 (N : Int) (L : List RIt) (o : Int) (n : Nat) (out : List RIt) (i : Int) (R : List RIt) (j : Int) : ((codeE (cx6 fun _ _ => none) (evs (cx6 fun _ _ => none) 60) (cr (cr ob101)) (inn101 N L o n out i R j)).map (lfR 0 ds101 true res101)) = .ret (.go .norm (some (inv101 N L o n out (IntKind.i64.wrap (i + 1))))) := by kernel_rfl
theorem end101 (N : Int) (L : List RIt) (o : Int) (n : Nat) (out : List RIt) (i : Int) : ((codeE (cx6 fun _ _ => none) (evs (cx6 fun _ _ => none) 60) tail101 (inv101 N L o n out i)).map (lfR 0 [] false res101)) = .ret (.out (.sl n 14 (getR out) false false)) := by kernel_rfl
theorem appR_get {n : Nat} {out : List RIt} {x : RIt} (hn : n = out.length) : ∀ i, i < n + 1 → appR n out x i = getR (out ++ [x]) i := fun i hi => by
  unfold appR getR
  rw [mixR_cells, getD_appR, ← hn]
  congr 1
  by_cases c : i < n
  · rw [if_pos (by simpa using c), if_pos c]
  · rw [if_neg (by simpa using c), if_neg c]
    have : i - n = 0 := by omega
    rw [this]; rfl
theorem refOwned_succ (L : List RIt) (o : Int) (i : Nat) : refOwned (i + 1) L o = refOwned i L o ++ (rlist L i).filter fun x => x.own == o := by
  unfold refOwned
  rw [List.range_succ, List.flatMap_append]
  simp
theorem refOwned_len (L : List RIt) (o : Int) : ∀ i, (refOwned i L o).length ≤ L.length * i
  | 0 => by simp [refOwned]
  | i + 1 => by
    have := refOwned_len L o i
    have h2 := rlist_len L i
    have h3 := List.length_filter_le (fun x : RIt => x.own == o) (rlist L i)
    rw [refOwned_succ, List.length_append, Nat.mul_succ]
    omega
theorem take_succ_getDR {l : List RIt} {j : Nat} (h : j < l.length) : l.take (j + 1) = l.take j ++ [l.getD j rz] := by
  rw [List.take_add_one]
  simp [List.getD, h]
set_option maxRecDepth 100000 in
theorem owned_refd {N : Nat} (hN : N ≤ 4) {L : List RIt} (hL : OkR L) (o : Int) : FrzOk Try.prog 101 [refA N L, iv o] (rowR (refOwned N L o)) := by
  let O : AV → Prop := fun a' => ∀ E v, Rep E a' v → Rep E (rowR (refOwned N L o)) v
  have hs := hL.1
  refine frz_of_ends fitTry Try.func101 (c := c101) (by kernel_rfl) (Nat.le_of_ble_eq_true (by kernel_rfl)) (O := O) (fun E w hd hf => ?_) fun a' h => h
  rw [code101]
  refine wpc_stageR (cx := cx6 fun _ _ => none) (n := 60) (ds := [(1, false), (2, false), (5, false)]) (gb := true) (res := res101) (O := O) (cx6_ok _) fitTry (by simp [firsts]) (by kernel_rfl) ?_ ends_ret
  show ((codeE (cx6 fun _ _ => none) (evs (cx6 fun _ _ => none) 60) (joins (firsts 2 c101)) (entry [refA N L, iv o])).map (lfR 0 [(1, false), (2, false), (5, false)] true res101)).wp _
  rw [pre101]
  show WpC _ _ _ _ _
  refine wpc_ioloop (cx := cx6 fun _ _ => none) (n := 60) (ds := ds101) (gb := true) (res := res101) (O := O) (cx6_ok _) fitTry (fun q : Nat × Nat × List RIt => inv101 N L o q.2.1 q.2.2 q.1) (fun q => q.1 ≤ N ∧ q.2.1 = q.2.2.length ∧ q.2.2 = refOwned q.1 L o) (fun q => N - q.1) (fun s => ∃ i : Int, s = inv101 N L o (refOwned N L o).length (refOwned N L o) i) (by kernel_rfl) ?_ ?_ ends_ret ?_
  · show ((codeE (cx6 fun _ _ => none) (evs (cx6 fun _ _ => none) 60) a101 (st101 N L o)).map (lfR 0 ds101 true res101)).wp _
    rw [init101]
    refine ⟨rfl, (0, 0, []), ?_, Nat.zero_le _, rfl, rfl⟩
    have h0 : HoldLe (begins Try.f101.ntmps E w hd hf) (st101b N L o) _ := nilOwn_le (nil101 N L o)
    exact h0.trans (hold_rows rfl rfl (.same (.row (fun i hi => absurd hi (Nat.not_lt_zero i)) .nil)))
  · rintro ⟨i, n, out⟩ hJ
    have h1 : i ≤ N := hJ.1
    have h2 : n = out.length := hJ.2.1
    have h3 : out = refOwned i L o := hJ.2.2
    subst h2
    have hlen : out.length ≤ L.length * i := by rw [h3]; exact refOwned_len L o i
    have hlen4 : L.length * i ≤ L.length * 4 := Nat.mul_le_mul_left _ (by omega)
    rw [obody101]
    refine wpc_stageR (cx := cx6 fun _ _ => none) (n := 60) (ds := ds101) (gb := true) (res := res101) (O := O) (cx6_ok _) fitTry (by simp) (by kernel_rfl) ?_ fun s a h1 h2 => .inr (.inr ⟨rfl, a, h1, h2⟩)
    show ((codeE (cx6 fun _ _ => none) (evs (cx6 fun _ _ => none) 60) (joins [cl ob101]) (inv101 N L o out.length out i)).map (lfR 0 ds101 true res101)).wp _
    rw [top101]
    refine ⟨fun hlt => ?_, fun hge => ?_⟩
    · have hlt := of_decide_eq_true hlt
      have hi : i < N := by omega
      have hws : IntKind.i64.wrap ((i : Int) + 1) = ((i + 1 : Nat) : Int) := by rw [IntWalk.i64_in _ (by omega)]; rfl
      show WpC _ _ _ _ _
      refine wpc_nestH (cx := cx6 fun _ _ => none) (n := 60) (ds := ds101i) (gb := true) (res := res101) (O := O) (cx6_ok _) fitTry (fun q : Nat × Nat × List RIt => inn101 N L o q.2.1 q.2.2 i (rlist L i) q.1) (fun q => q.1 ≤ (rlist L i).length ∧ q.2.1 = q.2.2.length ∧ q.2.2 = refOwned i L o ++ ((rlist L i).take q.1).filter fun x => x.own == o) (fun q => (rlist L i).length - q.1) (fun s => ∃ j : Int, s = inn101 N L o (refOwned (i + 1) L o).length (refOwned (i + 1) L o) i (rlist L i) j) (by simp [firsts]) (by kernel_rfl) ?_ ?_ (fun s a h1 h2 => .inr (.inr ⟨rfl, a, h1, h2⟩)) ?_
      · show ((codeE (cx6 fun _ _ => none) (evs (cx6 fun _ _ => none) 60) (joins (firsts 2 X101)) (inv101 N L o out.length out i)).map (lfR 0 ds101i true res101)).wp _
        rw [x101]
        refine ⟨rowRk_getR hL, rfl, (0, out.length, out), ?_, Nat.zero_le _, rfl, by simpa using h3⟩
        rw [lsRR_eq hL]
        exact .refl _
      · rintro ⟨j, n, out2⟩ hJ2
        have g1 : j ≤ (rlist L i).length := hJ2.1
        have g2 : n = out2.length := hJ2.2.1
        have g3 : out2 = refOwned i L o ++ ((rlist L i).take j).filter fun x => x.own == o := hJ2.2.2
        subst g2
        have hr := rlist_len L i
        have hlen2 : out2.length ≤ L.length * 5 := by
          rw [g3, List.length_append]
          have h4 := List.length_filter_le (fun x : RIt => x.own == o) ((rlist L i).take j)
          rw [List.length_take] at h4
          have h5 := refOwned_len L o i
          omega
        refine wpc_endH (cx := cx6 fun _ _ => none) (n := 60) (ds := ds101i) (gb := true) (cx6_ok _) fitTry (by kernel_rfl) ?_
        show ((codeE (cx6 fun _ _ => none) (evs (cx6 fun _ _ => none) 60) ib101 (inn101 N L o out2.length out2 i (rlist L i) j)).map (lfR 0 ds101i true res101)).wp _
        rw [rnd101]
        have hl : lenR (rlist L i) = ((rlist L i).length : Int) := rfl
        refine ⟨fun hlt => ?_, fun hge => ?_⟩
        · have hlt := of_decide_eq_true hlt
          have hw : IntKind.i64.wrap ((j : Int) + 1) = ((j + 1 : Nat) : Int) := by rw [IntWalk.i64_in _ (by omega)]; rfl
          have hjl : j < (rlist L i).length := by omega
          have hb : 0 ≤ (j : Int) ∧ (j : Int) < lenR (rlist L i) := ⟨by omega, hlt⟩
          refine ⟨hb, fun _ => ⟨hb, sizeR_of (by omega)⟩, fun hp => ?_, fun hp => ?_⟩
          · rw [hw]
            rw [Int.toNat_natCast] at hp
            have e : refOwned i L o ++ ((rlist L i).take (j + 1)).filter (fun x => x.own == o) = out2 ++ [(rlist L i).getD j rz] := by
              rw [take_succ_getDR hjl, List.filter_append, ← List.append_assoc, ← g3]
              congr 1
              rw [List.filter_cons, if_pos hp, List.filter_nil]
            exact ⟨(j + 1, out2.length + 1, out2 ++ [(rlist L i).getD j rz]), hold_rows rfl rfl (.same (.row (appR_get rfl) .nil)), ⟨hjl, by simp, e.symm⟩, by show (rlist L i).length - (j + 1) < (rlist L i).length - j; omega⟩
          · rw [hw]
            rw [Int.toNat_natCast] at hp
            have e : refOwned i L o ++ ((rlist L i).take (j + 1)).filter (fun x => x.own == o) = out2 := by
              rw [take_succ_getDR hjl, List.filter_append, ← List.append_assoc, ← g3]
              rw [List.filter_cons, if_neg (by rw [hp]; simp), List.filter_nil, List.append_nil]
            exact ⟨(j + 1, out2.length, out2), .refl _, ⟨hjl, rfl, e.symm⟩, by show (rlist L i).length - (j + 1) < (rlist L i).length - j; omega⟩
        · have hge := of_decide_eq_false hge
          have hj : j = (rlist L i).length := by omega
          refine ⟨rfl, _, .refl _, j, ?_⟩
          have e : out2 = refOwned (i + 1) L o := by rw [g3, hj, List.take_length, refOwned_succ]
          rw [e]
      · rintro s ⟨j, rfl⟩
        refine wpc_endH (cx := cx6 fun _ _ => none) (n := 60) (ds := ds101) (gb := true) (cx6_ok _) fitTry (by kernel_rfl) ?_
        show ((codeE (cx6 fun _ _ => none) (evs (cx6 fun _ _ => none) 60) (cr (cr ob101)) (inn101 N L o (refOwned (i + 1) L o).length (refOwned (i + 1) L o) i (rlist L i) j)).map (lfR 0 ds101 true res101)).wp _
        rw [nxt101, hws]
        exact ⟨(i + 1, (refOwned (i + 1) L o).length, refOwned (i + 1) L o), .refl _, ⟨by show i + 1 ≤ N; omega, rfl, rfl⟩, by show N - (i + 1) < N - i; omega⟩
    · have hge := of_decide_eq_false hge
      have hi : i = N := by omega
      refine .inr (.inl ⟨rfl, _, .refl _, i, ?_⟩)
      rw [h3, hi]
  · rintro s ⟨i, rfl⟩
    refine wpc_of_lfR (cx := cx6 fun _ _ => none) (n := 60) (ds := []) (gb := false) (res := res101) (O := O) (cx6_ok _) fitTry (by kernel_rfl) ?_ ends_ret
    show ((codeE (cx6 fun _ _ => none) (evs (cx6 fun _ _ => none) 60) tail101 (inv101 N L o (refOwned N L o).length (refOwned N L o) i)).map (lfR 0 [] false res101)).wp _
    rw [end101]
    exact fun E v hv => getR_rep rfl hv
end
end Go.Proofs.Ytkmhabbpndcnkaa

/-
  PART: memory: Closed of the document's; items.
-/
namespace Go.Proofs.Ytkmhabbpndcnkaa
open Go.RowKit
noncomputable section
def refK (k : Nat) (L : List RIt) : AV := .agg [.lit (.int .i64 k), rowR L]
def noE (L : List RIt) (v : Nat → Int) (i : Nat) : Bool := if (!(refAt (lsRR L) (wz i) (v i)).isSome) = true then true else !(refAt (lsRR L) (wz i) (v (i + 4))).isSome
def znE (v : Nat → Int) (i : Nat) : Bool := if (v i != 0) = true then true else v (i + 4) != 0
def clE (c0 c1 c2 c3 : Bool) : Bool := if c0 = true then false else if c1 = true then false else if c2 = true then false else !c3
theorem rcl1 (L : List RIt) (v : Nat → Int) : ((evs (cx6 fun _ _ => none) 60).call 74 [refK 1 L, .agg (ivs 8 v)] .nil).frz = .side (okRR L) (.side (okRR L) (.ret (.v (.bool (clE (noE L v 0) (znE v 1) (znE v 2) (znE v 3)))))) := by kernel_rfl
theorem rcl2 (L : List RIt) (v : Nat → Int) : ((evs (cx6 fun _ _ => none) 60).call 74 [refK 2 L, .agg (ivs 8 v)] .nil).frz = .side (okRR L) (.side (okRR L) (.side (noE L v 0 = false → okRR L ∧ okRR L) (.ret (.v (.bool (clE (noE L v 0) (noE L v 1) (znE v 2) (znE v 3))))))) := by kernel_rfl
theorem rcl3 (L : List RIt) (v : Nat → Int) : ((evs (cx6 fun _ _ => none) 60).call 74 [refK 3 L, .agg (ivs 8 v)] .nil).frz = .side (okRR L) (.side (okRR L) (.side (noE L v 0 = false → okRR L ∧ okRR L ∧ (noE L v 1 = false → okRR L ∧ okRR L)) (.ret (.v (.bool (clE (noE L v 0) (noE L v 1) (noE L v 2) (znE v 3))))))) := by kernel_rfl
theorem rcl4 (L : List RIt) (v : Nat → Int) : ((evs (cx6 fun _ _ => none) 60).call 74 [refK 4 L, .agg (ivs 8 v)] .nil).frz = .side (okRR L) (.side (okRR L) (.side (noE L v 0 = false → okRR L ∧ okRR L ∧ (noE L v 1 = false → okRR L ∧ okRR L ∧ (noE L v 2 = false → okRR L ∧ okRR L))) (.ret (.v (.bool (clE (noE L v 0) (noE L v 1) (noE L v 2) (noE L v 3))))))) := by kernel_rfl
theorem clE_eq (c0 c1 c2 c3 : Bool) : clE c0 c1 c2 c3 = (!c0 && (!c1 && (!c2 && (!c3 && true)))) := by
  unfold clE
  cases c0 <;> cases c1 <;> cases c2 <;> cases c3 <;> rfl
theorem closed_ref {N : Nat} (h1 : 1 ≤ N) (h4 : N ≤ 4) {L : List RIt} (hL : OkR L) (v : Nat → Int) : FrzOk Try.prog 74 [refA N L, .agg (ivs 8 v)] (.v (.bool (refClosed N L v))) := by
  have hk := rowRk_getR hL
  have hp : ∀ E vs, Reps E [refA N L, .agg (ivs 8 v)] vs → Reps E [refK N L, .agg (ivs 8 v)] vs := fun E vs h => by
    cases h with | cons q1 h =>
    refine .cons ?_ h
    obtain ⟨vs, rfl, hr, ho⟩ := Rep.agg_inv q1
    refine Rep.agg_mk ?_ ho
    cases hr with | cons r0 t => exact .cons (rep_lit_of r0) t
  have hw : ∀ i, i < 4 → wz i = i := fun i hi => by
    obtain ⟨h0, h1, h2, h3⟩ := wz_eq
    have : i = 0 ∨ i = 1 ∨ i = 2 ∨ i = 3 := by omega
    rcases this with rfl | rfl | rfl | rfl
    · exact h0
    · exact h1
    · exact h2
    · exact h3
  have hno : ∀ i, i < 4 → (!noE L v i) = ((refAt L i (v i)).isSome && (refAt L i (v (i + 4))).isSome) := fun i hi => by
    unfold noE
    rw [lsRR_eq hL, hw i hi]
    cases (refAt L i (v i)).isSome <;> cases (refAt L i (v (i + 4))).isSome <;> rfl
  have hzn : ∀ i, (!znE v i) = (v i == 0 && v (i + 4) == 0) := fun i => by
    unfold znE
    simp only [bne]
    cases (v i == 0) <;> cases (v (i + 4) == 0) <;> rfl
  have e : N = 1 ∨ N = 2 ∨ N = 3 ∨ N = 4 := by omega
  have hr : refClosed N L v = (List.range 4).all fun i => !(if N ≤ i then znE v i else noE L v i) := by
    unfold refClosed
    rw [Bool.eq_iff_iff, List.all_eq_true, List.all_eq_true]
    constructor
    · intro h i hi
      have h2 := h i hi
      have hi4 := List.mem_range.1 hi
      by_cases c : N ≤ i
      · rw [if_pos c] at h2 ⊢; rw [hzn]; exact h2
      · rw [if_neg c] at h2 ⊢; rw [hno i hi4]; exact h2
    · intro h i hi
      have h2 := h i hi
      have hi4 := List.mem_range.1 hi
      by_cases c : N ≤ i
      · rw [if_pos c] at h2 ⊢; rw [hzn] at h2; exact h2
      · rw [if_neg c] at h2 ⊢; rw [hno i hi4] at h2; exact h2
  rw [hr]
  rcases e with rfl | rfl | rfl | rfl
  · refine (frz_ev (cx6_ok _) fitTry (rcl1 L v) ⟨hk, hk, fun E v' hv => ?_⟩).pre hp
    rw [clE_eq] at hv; exact hv
  · refine (frz_ev (cx6_ok _) fitTry (rcl2 L v) ⟨hk, hk, fun _ => ⟨hk, hk⟩, fun E v' hv => ?_⟩).pre hp
    rw [clE_eq] at hv; exact hv
  · refine (frz_ev (cx6_ok _) fitTry (rcl3 L v) ⟨hk, hk, fun _ => ⟨hk, hk, fun _ => ⟨hk, hk⟩⟩, fun E v' hv => ?_⟩).pre hp
    rw [clE_eq] at hv; exact hv
  · refine (frz_ev (cx6_ok _) fitTry (rcl4 L v) ⟨hk, hk, fun _ => ⟨hk, hk, fun _ => ⟨hk, hk, fun _ => ⟨hk, hk⟩⟩⟩, fun E v' hv => ?_⟩).pre hp
    rw [clE_eq] at hv; exact hv
noncomputable def c100 : Code := codeOf Try.f100
noncomputable def a100 : Code := cl (cl (behind 2 c100))
noncomputable def body100 : Code := cin (cin (cr (cl (behind 2 c100))))
noncomputable def tail100 : Code := cr (behind 2 c100)
theorem code100 : c100 = seqs (firsts 2 c100) (.seq (.seq a100 (.block 0 (.loop body100))) tail100) := by kernel_rfl
noncomputable def res100 : St → Option AV := resF Try.prog Try.f100.results.toList
def st100 (a : List It) (b : List RIt) : St := { sl := [(0, rowI a), (1, rowR b)], hp := [], nx := 0, rd := [], wr := [], ws := [], wb := [] }
def inv100 (a : List It) (b : List RIt) (i : Int) : St := { sl := [(0, rowI a), (1, rowR b), (5, iv i)], hp := [], nx := 0, rd := [], wr := [], ws := [], wb := [] }
def ds100 : List (Nat × Bool) := [(0, false), (1, false), (5, true)]
theorem pre100 (a : List It) (b : List RIt) : ((codeE (cx6 fun _ _ => none) (evs (cx6 fun _ _ => none) 60) (joins (firsts 2 c100)) (entry [rowI a, rowR b])).map (lfR 0 [(0, false), (1, false)] true res100)) =
    .br (lenI a != lenR b) (.ret (.out (.lit (.bool false)))) (.ret (.go .norm (some (st100 a b)))) := by kernel_rfl
theorem init100 (a : List It) (b : List RIt) : ((codeE (cx6 fun _ _ => none) (evs (cx6 fun _ _ => none) 60) a100 (st100 a b)).map (lfR 0 ds100 true res100)) = .ret (.go .norm (some (inv100 a b 0))) := by kernel_rfl
def eqI (x y : It) : Bool := x.loc == y.loc && (Op.floatEq .f64 (F x.a) (F y.a) && Op.floatEq .f64 (F x.b) (F y.b) && (x.n == y.n && (x.v 0 == y.v 0 && x.v 1 == y.v 1 && x.v 2 == y.v 2 && x.v 3 == y.v 3 && (x.v 4 == y.v 4 && x.v 5 == y.v 5 && x.v 6 == y.v 6 && x.v 7 == y.v 7) && (x.res == y.res && x.own == y.own))))
theorem eqI_self {x : It} (h : x.Ok) : eqI x x = true := by
  have e : ∀ a, a ≤ 2 ^ 40 → Op.floatEq .f64 (F a) (F a) = true := fun a ha => by
    have := eqF_eq ha ha
    rw [decide_eq_true rfl] at this
    exact this
  unfold eqI
  rw [e _ h.1, e _ h.2.1]
  simp
noncomputable def badT (b : List RIt) (a : List It) (i : Int) : Tree Lf := match ((codeE (cx6 fun _ _ => none) (evs (cx6 fun _ _ => none) 60) body100 (inv100 a b i)).map (lfR 0 ds100 true res100)) with
  | .br _ (.side _ (.side _ (.side _ (.br _ _ t)))) _ => t
  | _ => .fail
theorem rnd100 (a : List It) (b : List RIt) (i : Int) : ((codeE (cx6 fun _ _ => none) (evs (cx6 fun _ _ => none) 60) body100 (inv100 a b i)).map (lfR 0 ds100 true res100)) =
    .br (decide (i < lenI a)) (.side (0 ≤ i ∧ i < lenI a) (.side (0 ≤ i ∧ i < lenR b) (.side (IsR (b.getD i.toNat rz).cells) (.br (okS (ritOf (b.getD i.toNat rz).cells).p (ritOf (b.getD i.toNat rz).cells).q)
      (.br (!eqI (a.getD i.toNat itz) (toIt (ritOf (b.getD i.toNat rz).cells))) (.ret (.out (.lit (.bool false)))) (.ret (.go .norm (some (inv100 a b (IntKind.i64.wrap (i + 1)))))))
      (badT b a i))))) (.ret (.go (.exit 0) (some (inv100 a b i)))) := by kernel_rfl
theorem end100 (a : List It) (b : List RIt) (i : Int) : ((codeE (cx6 fun _ _ => none) (evs (cx6 fun _ _ => none) 60) tail100 (inv100 a b i)).map (lfR 0 [] false res100)) = .ret (.out (.lit (.bool true))) := by kernel_rfl
set_option maxRecDepth 100000 in
theorem items_true {b : List RIt} (hb : b.length ≤ 100000) (hr : ∀ y ∈ b, RVz y ∧ okS y.p y.q = true) : FrzOk Try.prog 100 [rowI (b.map toIt), rowR b] (.lit (.bool true)) := by
  have hla : lenI (b.map toIt) = (b.length : Int) := by show ((b.map toIt).length : Int) = _; rw [List.length_map]
  have hlb : lenR b = (b.length : Int) := rfl
  refine frz_loop fitTry Try.func100 (c := c100) (by kernel_rfl) (by kernel_rfl) (O := fun a => ∀ E v, Rep E a v → Rep E (.lit (.bool true)) v) (cx := cx6 fun _ _ => none) (cx6_ok _) rfl (n := 60) code100 (by kernel_rfl) (by kernel_rfl) (ds0 := [(0, false), (1, false)]) (gb0 := true) (s1 := st100 (b.map toIt) b) (ds := ds100) (gb := true)
    (fun i : Nat => inv100 (b.map toIt) b i) (fun i => i ≤ b.length) (fun i => b.length - i) (fun s => ∃ i : Int, s = inv100 (b.map toIt) b i) ?_ ?_ ?_ ?_ fun a h => h
  · refine Eq.mpr (congrArg (Tree.wp _) (pre100 (b.map toIt) b)) ?_
    rw [hla, hlb]
    refine ⟨fun h => ?_, fun _ => ⟨rfl, rfl⟩⟩
    simp at h
  · refine Eq.mpr (congrArg (Tree.wp _) (init100 (b.map toIt) b)) ?_
    exact ⟨rfl, 0, fun _ _ => .refl _, Nat.zero_le _⟩
  · intro B hB i hJ
    have h1 : i ≤ b.length := hJ
    refine Eq.mpr (congrArg (Tree.wp _) (rnd100 (b.map toIt) b i)) ?_
    rw [hla, hlb]
    refine ⟨fun hlt => ?_, fun hge => ⟨rfl, _, .refl _, i, rfl⟩⟩
    have hlt := of_decide_eq_true hlt
    have hw : 0 ≤ (i : Int) ∧ (i : Int) < (b.length : Int) := ⟨by omega, hlt⟩
    have hi : i < b.length := by omega
    have hmem : b.getD i rz ∈ b := getD_mem hi
    obtain ⟨hv, hk⟩ := hr _ hmem
    refine ⟨hw, hw, isR hv, fun _ => ⟨fun hne => ?_, fun _ => ?_⟩, fun hbad => ?_⟩
    · rw [Int.toNat_natCast, ritOf_cells hv] at hne
      have e : (b.map toIt).getD i itz = toIt (b.getD i rz) := by simp [List.getD, hi]
      rw [e, eqI_self (toIt_ok hk hv)] at hne
      cases hne
    · rw [IntWalk.i64_in _ (by omega)]
      exact ⟨i + 1, .refl _, hi, by show b.length - (i + 1) < b.length - i; omega⟩
    · rw [Int.toNat_natCast, ritOf_cells hv, hk] at hbad
      cases hbad
  · rintro s ⟨i, rfl⟩
    refine Eq.mpr (congrArg (Tree.wp _) (end100 (b.map toIt) b i)) ?_
    exact fun E v hv => hv
end
end Go.Proofs.Ytkmhabbpndcnkaa

/-
  PART: memory: Same, the parts of its run.
-/
namespace Go.Proofs.Ytkmhabbpndcnkaa
open Go.RowKit
noncomputable section
def lstOk (b : List RIt) : Prop := ∀ y ∈ b, okS y.p y.q = true
def tabR3' (f : Nat) (args : List AV) : Option (Tree AV) := match f, args with
  | 99, [m, .v (.int .i64 loc)] => withRef m fun _ L => .ret (optR (refLast L loc))
  | 101, [m, .v (.int .i64 o)] => withRef m fun N L => .side (0 ≤ N ∧ N ≤ 4) (.ret (rowR (refOwned N.toNat L o)))
  | 74, [m, .agg l] => withRef m fun N L => .side (1 ≤ N ∧ N ≤ 4 ∧ l = ivs 8 (viewOf l)) (.ret (.v (.bool (refClosed N.toNat L (viewOf l)))))
  | 100, [.sl n 13 g _ _, .sl k 14 h _ _] => some (.side (RowOk n g ∧ (k ≤ 100000 ∧ ∀ i, i < k → IsR (h i)) ∧ lstOf n g = (rlstOf k h).map toIt ∧ lstOk (rlstOf k h)) (.ret (.lit (.bool true))))
  | 64, [.sl n 1 g _ _] => some (.side (∀ i, i < n → g i = [.v (.int .u64 (zA (g i) 0))]) (.ret (.tup [refA (refBegR (uOf n g)).1 (refBegR (uOf n g)).2.1, iv (refBegR (uOf n g)).2.2])))
  | 63, [.sl n 1 g _ _] => some (.side (∀ i, i < n → g i = [.v (.int .u64 (zA (g i) 0))]) (.ret (.tup [memA (beginR (uOf n g)).1, iv (beginR (uOf n g)).2])))
  | 73, [m, .agg l] => withPm m fun m => .side (l = ivs 8 (viewOf l)) (.ret (.v (.bool (closedM m (viewOf l)))))
  | _, _ => none
theorem rowU_of {E : Env} {n : Nat} {g : Nat → List AV} {nl full : Bool} {v : Value} (h : ∀ i, i < n → g i = [.v (.int .u64 (zA (g i) 0))]) (hv : Rep E (.sl n 1 g nl full) v) : Rep E (rowU (uOf n g)) v := by
  have e : (uOf n g).length = n := by simp [uOf]
  show Rep E (.sl (uOf n g).length 1 (fun i => [.v (.int .u64 ((uOf n g).getD i 0))]) false false) v
  rw [e]
  refine hv.sl_congr fun i hi => ?_
  have : (uOf n g).getD i 0 = zA (g i) 0 := by unfold uOf; simp [List.getD, hi]
  rw [this]; exact h i hi
theorem rowR_of' {E : Env} {n : Nat} {get : Nat → List AV} {nl full : Bool} {v : Value} (h : ∀ i, i < n → IsR (get i)) (hv : Rep E (.sl n 14 get nl full) v) : Rep E (rowR (rlstOf n get)) v := by
  have e : (rlstOf n get).length = n := by simp [rlstOf]
  show Rep E (.sl (rlstOf n get).length 14 (fun i => ((rlstOf n get).getD i rz).cells) false false) v
  rw [e]
  refine hv.sl_congr fun i hi => ?_
  rw [rlstOf_get hi]
  exact h i hi
theorem tabR3'_ok : TabFOk Try.prog tabR3' := by
  intro f args t a ht hh
  unfold tabR3' at ht
  split at ht
  · obtain ⟨N, L, hL, h1, h2⟩ := withRef_ok ht hh
    cases h1
    exact (last_ref N hL _).pre fun E vs h => by cases h with | cons q1 h => exact .cons (h2 _ _ q1) h
  · obtain ⟨N, L, hL, ⟨h3, h1⟩, h2⟩ := withRef_ok ht hh
    cases h1
    have e : N = (N.toNat : Int) := by omega
    refine (owned_refd (N := N.toNat) (by omega) hL _).pre fun E vs h => ?_
    cases h with | cons q1 h => exact .cons (by rw [← e]; exact h2 _ _ q1) h
  · obtain ⟨N, L, hL, ⟨h3, h1⟩, h2⟩ := withRef_ok ht hh
    cases h1
    have e : N = (N.toNat : Int) := by omega
    refine (closed_ref (N := N.toNat) (by omega) (by omega) hL _).pre fun E vs h => ?_
    cases h with | cons q1 h => cases h with | cons q2 h => exact .cons (by rw [← e]; exact h2 _ _ q1) (.cons (by rw [← h3.2.2]; exact q2) h)
  · rename_i n g _ _ k h' _ _
    cases ht
    obtain ⟨⟨h1, h2, h3, h4⟩, hh⟩ := hh
    cases hh
    have hrv : ∀ y ∈ rlstOf k h', RVz y ∧ okS y.p y.q = true := fun y hy => by
      obtain ⟨i, hi, rfl⟩ := List.mem_map.1 hy
      exact ⟨rvz_ritOf _, h4 _ hy⟩
    refine (items_true (b := rlstOf k h') (by unfold rlstOf; simpa using h2.1) hrv).pre fun E vs h => ?_
    cases h with | cons q1 h => cases h with | cons q2 h =>
    exact .cons (by rw [← h3]; exact rowI_of h1 q1) (.cons (rowR_of' h2.2 q2) h)
  · cases ht
    obtain ⟨h1, hh⟩ := hh
    cases hh
    refine (rbegin_frz _).pre fun E vs h => ?_
    cases h with | cons q1 h => exact .cons (rowU_of h1 q1) h
  · cases ht
    obtain ⟨h1, hh⟩ := hh
    cases hh
    refine (begin_frz _).pre fun E vs h => ?_
    cases h with | cons q1 h => exact .cons (rowU_of h1 q1) h
  · obtain ⟨m, hm, ⟨h3, h1⟩, h2⟩ := withPm_ok ht hh
    cases h1
    refine (closed_frz hm _).pre fun E vs h => ?_
    cases h with | cons q1 h => cases h with | cons q2 h => exact .cons (h2 _ _ q1) (.cons (by rw [← h3]; exact q2) h)
  · cases ht
def tabR3 (f : Nat) (args : List AV) : Option (Tree AV) := match opened tabR3' f args with
  | some t => some t
  | none => tabR2 f args
theorem tabR3_ok : TabFOk Try.prog tabR3 := by
  intro f args t a ht hh
  unfold tabR3 at ht
  split at ht
  · rename_i u hu
    cases ht
    exact opened_okF tabR3'_ok _ _ _ _ hu hh
  · exact tabR2_ok _ _ _ _ ht hh
def tabM5 (f : Nat) (args : List AV) : Option (Tree AV) := match f, args with
  | 56, [.agg l] => some (.side (IsR l ∧ okS (ritOf l).p (ritOf l).q = true) (.ret (.agg (toIt (ritOf l)).cells)))
  | f, args => tabM4 f args
theorem tabM5_ok : TabOk Try.prog tabM5 := by
  intro f args t a ht hh
  unfold tabM5 at ht
  split at ht
  · rename_i l
    cases ht
    obtain ⟨⟨h1, h2⟩, hh⟩ := hh
    cases hh
    refine (item_good h2).pre fun E vs h => ?_
    cases h with | cons q1 h => exact .cons (by rw [← h1]; exact q1) h
  · exact tabM4_ok _ _ _ _ ht hh
noncomputable def cx7 (dec : Nat → St → Option Bool) : Cx := ⟨Try.prog, ctrOf2 (opened tabM5) tabR3, dec⟩
theorem cx7_ok (dec : Nat → St → Option Bool) : CtrOk (cx7 dec) := ctrOf2_ok (opened_ok tabM5_ok) tabR3_ok dec
noncomputable def c59 : Code := codeOf Try.f59
noncomputable def a59 : Code := cl (cl (behind 2 c59))
noncomputable def body59 : Code := cin (cin (cr (cl (behind 2 c59))))
noncomputable def tail59 : Code := cr (behind 2 c59)
theorem code59 : c59 = seqs (firsts 2 c59) (.seq (.seq a59 (.block 0 (.loop body59))) tail59) := by kernel_rfl
noncomputable def res59 : St → Option AV := resF Try.prog Try.f59.results.toList
def mP (m : PM) : Nat × Option Blk := (0, some (.fix 81 [iv m.n, rowI (m.l 0), rowI (m.l 1), rowI (m.l 2), rowI (m.l 3)]))
def mR1 (N : Int) (L : List RIt) : Nat × Option Blk := (1, some (.fix 83 [iv N, rowR L]))
def st59 (m : PM) (N : Int) (L : List RIt) : St := { sl := [(2, .ptr 0 0), (3, .ptr 1 0)], hp := [mP m, mR1 N L], nx := 2, rd := [], wr := [], ws := [], wb := [] }
def inv59 (m : PM) (N : Int) (L : List RIt) (i : Int) : St := { sl := [(2, .ptr 0 0), (3, .ptr 1 0), (5, iv i)], hp := [mP m, mR1 N L], nx := 2, rd := [], wr := [], ws := [], wb := [] }
def ds59 : List (Nat × Bool) := [(2, false), (3, false), (5, true)]
noncomputable def cxS59 : Cx := cx7 (decM [(14, false), (62, false)])
theorem pre59 (m : PM) (N : Int) (L : List RIt) : ((codeE cxS59 (evs cxS59 60) (joins (firsts 2 c59)) (entry [memA m, refA N L])).map (lfR 0 [(2, false), (3, false)] true res59)) = .side ((m.n != N) = false) (.ret (.go .norm (some (st59 m N L)))) := by kernel_rfl
theorem init59 (m : PM) (N : Int) (L : List RIt) : ((codeE cxS59 (evs cxS59 60) a59 (st59 m N L)).map (lfR 0 ds59 true res59)) = .ret (.go .norm (some (inv59 m N L (-1)))) := by kernel_rfl
theorem end59 (m : PM) (N : Int) (L : List RIt) (i : Int) : ((codeE cxS59 (evs cxS59 60) tail59 (inv59 m N L i)).map (lfR 0 [] false res59)) = .ret (.out (.lit (.bool true))) := by kernel_rfl
end
end Go.Proofs.Ytkmhabbpndcnkaa

/-
  PART: memory: Same is true of memories that are related.
-/
namespace Go.Proofs.Ytkmhabbpndcnkaa
open Go.RowKit
noncomputable section
def itemsSide (a : List It) (b : List RIt) : Prop := RowOk a.length (getI a) ∧ (b.length ≤ 100000 ∧ ∀ i, i < b.length → IsR (getR b i)) ∧ lsR a = (lsRR b).map toIt ∧ lstOk (lsRR b)
def lastE (LM : Option It) (LR : Option RIt) : Bool := if (!(LM.isSome == LR.isSome)) = true then true else if LM.isSome = true then !eqI (LM.getD itz) (toIt (ritOf (LR.getD rz).cells)) else false
theorem rnd59 (m : PM) (N : Int) (L : List RIt) (i : Int) : ((codeE cxS59 (evs cxS59 60) body59 (inv59 m N L i)).map (lfR 0 ds59 true res59)) =
    .br (decide (i < 5)) (.side (PmInR m) (.side (okRR L) (.side (PmInR m) (.side (okRR L) (.side (itemsSide (listM (pmR m) i) (rlist (lsRR L) i)) (.side (PmInR m) (.side (okRR L) (.side (0 ≤ N ∧ N ≤ 4) (.side (itemsSide (ownedM (pmR m) i) (refOwned N.toNat (lsRR L) i)) (.side ((!((lastM (pmR m) i).isSome == (refLast (lsRR L) i).isSome)) = false → (lastM (pmR m) i).isSome = true → IsR ((refLast (lsRR L) i).getD rz).cells ∧ okS (ritOf ((refLast (lsRR L) i).getD rz).cells).p (ritOf ((refLast (lsRR L) i).getD rz).cells).q = true) (.side (lastE (lastM (pmR m) i) (refLast (lsRR L) i) = false) (.ret (.go .norm (some (inv59 m N L (IntKind.i64.wrap (i + 1))))))))))))))))) (.ret (.go (.exit 0) (some (inv59 m N L i)))) := by kernel_rfl
theorem rel_vz {m : PM} {N : Nat} {L : List RIt} (h : Rel m N L) : ∀ x ∈ L, RVz x := fun x hx => (h.good.may x hx).2.2.2.2.2.2.2
theorem pmFit_of {m : PM} {N : Nat} {L : List RIt} (h : Rel m N L) (hL : L.length ≤ 500) (ho : ∀ i, 4 ≤ i → m.l i = []) : PmFit m := by
  have hhi := h.hi
  have hlen : ∀ i, i < 4 → (m.l i).length ≤ 500 := fun i hi => by
    rw [h.l i hi, List.length_map]
    exact Nat.le_trans (rlist_len L i) hL
  have hnon : ∀ i : Nat, (i : Int) < m.n → ∃ y ∈ m.l i, y.res = false := fun i hi => by
    rw [h.n] at hi
    obtain ⟨x, hx, h1, h2, h3⟩ := h.good.start i (by omega)
    refine ⟨toIt x, ?_, h3⟩
    rw [h.l i (by omega)]
    exact List.mem_map.2 ⟨x, mem_rlist.2 ⟨hx, h1⟩, rfl⟩
  refine ⟨by rw [h.n]; omega, fun i hi => ⟨Nat.le_trans (hlen i hi) (by decide), fun y hy => ?_⟩, fun i hi => ?_, hlen, hnon, ho⟩
  · rw [h.l i hi] at hy
    obtain ⟨x, hx, rfl⟩ := List.mem_map.1 hy
    have hm := h.good.may x (mem_rlist.1 hx).1
    exact toIt_ok hm.2.2.1 (rel_vz h x (mem_rlist.1 hx).1)
  · obtain ⟨y, hy, _⟩ := hnon i hi
    exact List.length_pos_of_mem hy
theorem okR_of {m : PM} {N : Nat} {L : List RIt} (h : Rel m N L) (hL : L.length ≤ 500) : OkR L := ⟨by omega, rel_vz h⟩
theorem itemsSide_of {b : List RIt} (hb : b.length ≤ 100000) (h : ∀ y ∈ b, RVz y ∧ okS y.p y.q = true) : itemsSide (b.map toIt) b := by
  have hok : OkL (b.map toIt) := by
    have h1 : (100000 : Nat) ≤ 2 ^ 40 := by decide
    refine ⟨by rw [List.length_map]; omega, fun y hy => ?_⟩
    obtain ⟨x, hx, rfl⟩ := List.mem_map.1 hy
    exact toIt_ok (h x hx).2 (h x hx).1
  have e : lsRR b = b := by
    unfold lsRR rlstOf getR
    apply List.ext_getElem
    · simp
    · intro i h1 h2
      rw [List.getElem_map, List.getElem_range]
      have : b.getD i rz = b[i] := by simp [List.getD, h2]
      rw [this, ritOf_cells (h _ (List.getElem_mem h2)).1]
  refine ⟨rowOk_getI hok, ⟨hb, fun i hi => isR (h _ (getD_mem hi)).1⟩, by rw [e, lsR_eq hok], ?_⟩
  rw [e]
  exact fun y hy => (h y hy).2
set_option maxRecDepth 100000 in
theorem same_true {m : PM} {N : Nat} {L : List RIt} (h : Rel m N L) (hL : L.length ≤ 500) (ho : ∀ i, 4 ≤ i → m.l i = []) : FrzOk Try.prog 59 [memA m, refA N L] (.lit (.bool true)) := by
  have hm := pmFit_of h hL ho
  have hR := okR_of h hL
  have hi1 := pmInR hm
  have hk := rowRk_getR hR
  have hall : ∀ y ∈ L, RVz y ∧ okS y.p y.q = true := fun y hy => ⟨hR.2 y hy, (h.good.may y hy).2.2.1⟩
  have hlo := h.lo
  have hhi := h.hi
  refine frz_loop fitTry Try.func59 (c := c59) (by kernel_rfl) (by kernel_rfl) (O := fun a => ∀ E v, Rep E a v → Rep E (.lit (.bool true)) v) (cx := cxS59) (cx7_ok _) rfl (n := 60) code59 (by kernel_rfl) (by kernel_rfl) (ds0 := [(2, false), (3, false)]) (gb0 := true) (s1 := st59 m N L) (ds := ds59) (gb := true)
    (fun k : Nat => inv59 m N L ((k : Int) - 1)) (fun k => k ≤ 6) (fun k => 6 - k) (fun s => ∃ i : Int, s = inv59 m N L i) ?_ ?_ ?_ ?_ fun a h => h
  · refine Eq.mpr (congrArg (Tree.wp _) (pre59 m N L)) ?_
    exact ⟨by rw [h.n]; simp, rfl, rfl⟩
  · refine Eq.mpr (congrArg (Tree.wp _) (init59 m N L)) ?_
    exact ⟨rfl, 0, fun _ _ => .refl _, Nat.zero_le _⟩
  · intro B hB k hJ
    have h1 : k ≤ 6 := hJ
    refine Eq.mpr (congrArg (Tree.wp _) (rnd59 m N L ((k : Int) - 1))) ?_
    rw [pmR_eq hm, lsRR_eq hR]
    refine ⟨fun hlt => ?_, fun _ => ⟨rfl, _, .refl _, _, rfl⟩⟩
    have hlt := of_decide_eq_true hlt
    have hNt : ((N : Int)).toNat = N := Int.toNat_natCast N
    have hlast := lastM_rel h ((k : Int) - 1)
    refine ⟨hi1, hk, hi1, hk, ?_, hi1, hk, ⟨by omega, by omega⟩, ?_, fun _ hs => ?_, ?_, ?_⟩
    · rw [listM_rel h]
      exact itemsSide_of (Nat.le_trans (rlist_len L _) (by omega)) fun y hy => hall y (mem_rlist.1 hy).1
    · rw [hNt, ownedM_rel h]
      refine itemsSide_of (Nat.le_trans (refOwned_len L _ N) ?_) fun y hy => ?_
      · have := Nat.mul_le_mul hL hhi; omega
      · obtain ⟨i, _, hy⟩ := List.mem_flatMap.1 hy
        exact hall y (mem_rlist.1 (List.mem_filter.1 hy).1).1
    · rw [hlast] at hs
      cases hr : refLast L ((k : Int) - 1) with
      | none => rw [hr] at hs; cases hs
      | some x =>
        have hx : x ∈ L := (mem_rlist.1 (List.mem_reverse.1 (List.mem_of_find?_eq_some hr))).1
        refine ⟨isR (hall x hx).1, ?_⟩
        show okS (ritOf x.cells).p (ritOf x.cells).q = true
        rw [ritOf_cells (hall x hx).1]; exact (hall x hx).2
    · unfold lastE
      rw [hlast]
      cases hr : refLast L ((k : Int) - 1) with
      | none => rfl
      | some x =>
        have hx : x ∈ L := (mem_rlist.1 (List.mem_reverse.1 (List.mem_of_find?_eq_some hr))).1
        show (if (!((some (toIt x)).isSome == (some x).isSome)) = true then true else if (some (toIt x)).isSome = true then !eqI (toIt x) (toIt (ritOf x.cells)) else false) = false
        rw [ritOf_cells (hall x hx).1, eqI_self (toIt_ok (hall x hx).2 (hall x hx).1)]
        rfl
    · rw [IntWalk.i64_in _ (by omega)]
      have e : (k : Int) - 1 + 1 = ((k + 1 : Nat) : Int) - 1 := by omega
      rw [e]
      exact ⟨k + 1, .refl _, by omega, by show 6 - (k + 1) < 6 - k; omega⟩
  · rintro s ⟨i, rfl⟩
    refine Eq.mpr (congrArg (Tree.wp _) (end59 m N L i)) ?_
    exact fun E v hv => hv
end
end Go.Proofs.Ytkmhabbpndcnkaa

/-
  PART: memory: wakes.
-/
namespace Go.Proofs.Ytkmhabbpndcnkaa
open Go.RowKit
noncomputable section
def z8 : Nat → Int := fun _ => 0
def wx0 : It := ⟨0, 0, 0, 7, z8, false, -1⟩
def wx1 : It := ⟨0, 0, 1, 5, z8, false, 1⟩
def wx2 : It := ⟨0, 0, 2, 6, z8, false, -1⟩
def wx3 : It := ⟨0, 2, 3, 0, z8, true, 1⟩
def wx4 : It := ⟨0, 0, 1, 5, z8, false, -1⟩
def wL (l : List It) : PM := ⟨1, fun i => if i = 0 then l else []⟩
def W0 : PM := wL [wx0]
def W1 : PM := wL [wx0, wx1]
def W2 : PM := wL [wx0, wx1, wx3]
def W4 : PM := wL [wx0, wx4, wx3]
theorem wx_ok {loc : Int} {a b : Nat} {n : Int} {res : Bool} {own : Int} (ha : a ≤ 3) (hb : b ≤ 3) : (It.mk loc a b n z8 res own).Ok := ⟨Nat.le_trans ha (by decide), Nat.le_trans hb (by decide), fun _ _ => rfl⟩
theorem wfit {l : List It} (h : ∀ y ∈ l, y.Ok) (h0 : ∃ y ∈ l, y.res = false) (h5 : l.length ≤ 500) : PmFit (wL l) := by
  have e : ∀ i : Nat, (wL l).l i = if i = 0 then l else [] := fun _ => rfl
  refine ⟨by show (1 : Int) ≤ 4; decide, fun i hi => ?_, fun i hi => ?_, fun i hi => ?_, fun i hi => ?_, fun i hi => ?_⟩
  · rw [e]; split
    · exact ⟨Nat.le_trans h5 (by decide), h⟩
    · exact ⟨Nat.zero_le _, fun y hy => by cases hy⟩
  · have : i = 0 := by have : (i : Int) < 1 := hi; omega
    subst this
    rw [e]
    obtain ⟨y, hy, _⟩ := h0
    exact List.length_pos_of_mem hy
  · rw [e]; split
    · exact h5
    · exact Nat.zero_le _
  · have : i = 0 := by have : (i : Int) < 1 := hi; omega
    subst this
    exact h0
  · rw [e, if_neg (by omega)]
theorem wfit0 : PmFit W0 := wfit (by intro y hy; simp at hy; subst hy; exact wx_ok (by decide) (by decide)) ⟨wx0, by simp, rfl⟩ (by decide)
theorem wfit1 : PmFit W1 := wfit (by intro y hy; simp at hy; rcases hy with rfl | rfl <;> exact wx_ok (by decide) (by decide)) ⟨wx0, by simp, rfl⟩ (by decide)
theorem wfit2 : PmFit W2 := wfit (by intro y hy; simp at hy; rcases hy with rfl | rfl | rfl <;> exact wx_ok (by decide) (by decide)) ⟨wx0, by simp, rfl⟩ (by decide)
theorem wfit4 : PmFit W4 := wfit (by intro y hy; simp at hy; rcases hy with rfl | rfl | rfl <;> exact wx_ok (by decide) (by decide)) ⟨wx0, by simp, rfl⟩ (by decide)
theorem wbits : F 0 = 0 ∧ F 1 = 4607182418800017408 ∧ F 2 = 4611686018427387904 ∧ F 3 = 4613937818241073152 := by
  refine ⟨F_zero, ?_, ?_, ?_⟩ <;> rw [F_eq] <;> decide
theorem wcode {E : Env} {m : AV} {k : Int} {v : Value} (h : Rep E (.tup [m, iv k]) v) : Rep E (.tup [m, .lit (.int .i64 k)]) v := by
  obtain ⟨vs, rfl, hr⟩ := Rep.tup_inv h
  cases hr with | cons r0 t => cases t with | cons r1 t => cases t with | nil =>
  exact Rep.tup_mk (.cons r0 (.cons (rep_lit_of r1) .nil))
theorem FrzOk.post' {P : Program} {f : Nat} {args : List AV} {a a' a'' : AV} (h : FrzOk P f args a') (e : a' = a'') (ha : ∀ E v, Rep E a'' v → Rep E a v) : FrzOk P f args a := by
  subst e
  intro r E w vals K hd hf hr hK
  exact h r E w vals K hd hf hr fun v w' E' p q s t u => hK v w' E' p q s t (ha E' v u)
theorem w_add1 : FrzOk Try.prog 57 [memA W0, .agg wx1.cells] (.tup [memA W1, .lit (.int .i64 0)]) := by
  have e : AV.tup [memA (addM W0 wx1).1, iv (addM W0 wx1).2] = .tup [memA W1, iv 0] := by kernel_rfl
  exact FrzOk.post' (add_frz wfit0 (wx_ok (by decide) (by decide))) e fun E v h => wcode h
theorem w_add2 : FrzOk Try.prog 57 [memA W1, .agg wx2.cells] (.tup [memA W1, .lit (.int .i64 5)]) := by
  have e : AV.tup [memA (addM W1 wx2).1, iv (addM W1 wx2).2] = .tup [memA W1, iv 5] := by kernel_rfl
  exact FrzOk.post' (add_frz wfit1 (wx_ok (by decide) (by decide))) e fun E v h => wcode h
theorem w_add3 : FrzOk Try.prog 57 [memA W1, .agg wx3.cells] (.tup [memA W2, .lit (.int .i64 0)]) := by
  have e : AV.tup [memA (addM W1 wx3).1, iv (addM W1 wx3).2] = .tup [memA W2, iv 0] := by kernel_rfl
  exact FrzOk.post' (add_frz wfit1 (wx_ok (by decide) (by decide))) e fun E v h => wcode h
theorem w_can0 : FrzOk Try.prog 68 [memA W2, iv 0, iv 3, iv 0] (.tup [memA W2, .lit (.int .i64 6)]) := by
  have e : AV.tup [memA (canM W2 0 3 0).1, iv (canM W2 0 3 0).2] = .tup [memA W2, iv 6] := by kernel_rfl
  exact FrzOk.post' (can_frz wfit2 0 3 0) e fun E v h => wcode h
theorem w_can1 : FrzOk Try.prog 68 [memA W2, iv 0, iv 3, iv 1] (.tup [memA W1, .lit (.int .i64 0)]) := by
  have e : AV.tup [memA (canM W2 0 3 1).1, iv (canM W2 0 3 1).2] = .tup [memA W1, iv 0] := by kernel_rfl
  exact FrzOk.post' (can_frz wfit2 0 3 1) e fun E v h => wcode h
theorem w_ful : FrzOk Try.prog 66 [memA W2, iv 0, iv 1, iv 1] (.tup [memA W4, .lit (.int .i64 0)]) := by
  have e : AV.tup [memA (fulM W2 0 1 1).1, iv (fulM W2 0 1 1).2] = .tup [memA W4, iv 0] := by kernel_rfl
  exact FrzOk.post' (ful_frz wfit2 0 1 1) e fun E v h => wcode h
theorem w_last : FrzOk Try.prog 98 [memA W2, iv 0] (.tup [.agg wx1.cells, .v (.bool true)]) := by
  have e : optA (lastM W2 0) = .tup [.agg wx1.cells, .v (.bool true)] := by kernel_rfl
  exact FrzOk.post' (last_frz wfit2 wfit2.non 0) e fun E v h => h
theorem w_list2 : FrzOk Try.prog 55 [memA W2, iv 0] (rowI [wx0, wx1, wx3]) := by
  have e : rowI (listM W2 0) = rowI [wx0, wx1, wx3] := by kernel_rfl
  exact FrzOk.post' (list_frz wfit2 0) e fun E v h => h
theorem w_list1 : FrzOk Try.prog 55 [memA W1, iv 0] (rowI [wx0, wx1]) := by
  have e : rowI (listM W1 0) = rowI [wx0, wx1] := by kernel_rfl
  exact FrzOk.post' (list_frz wfit1 0) e fun E v h => h
theorem w_own2 : FrzOk Try.prog 76 [memA W2, iv 1] (rowI [wx1, wx3]) := by
  have e : rowI (ownedM W2 1) = rowI [wx1, wx3] := by kernel_rfl
  exact FrzOk.post' (owned_frz wfit2 1) e fun E v h => h
theorem w_own4 : FrzOk Try.prog 76 [memA W4, iv 1] (rowI [wx3]) := by
  have e : rowI (ownedM W4 1) = rowI [wx3] := by kernel_rfl
  exact FrzOk.post' (owned_frz wfit4 1) e fun E v h => h
def nilV : AV := .v (.slice none 0 0)
theorem nil_row {E : Env} {v : Value} (h : Rep E nilV v) : Rep E (rowI []) v := by
  cases h; exact .slNil rfl
def wl0 : List AV := [.lit (.int .i64 0), .lit (.complex .f64 0 0), .lit (.int .u64 7), .lit (.int .i64 0), .lit (.int .i64 0), .lit (.int .i64 0), .lit (.int .i64 0), .lit (.int .i64 0), .lit (.int .i64 0), .lit (.int .i64 0), .lit (.int .i64 0), .lit (.bool false), .lit (.int .i64 (-1))]
theorem wl0_eq : wl0.map (genD 1) = wx0.cells := by
  have e : wx0.cells = [iv 0, .v (.complex .f64 (F 0) (F 0)), .v (.int .u64 7), iv 0, iv 0, iv 0, iv 0, iv 0, iv 0, iv 0, iv 0, .v (.bool false), iv (-1)] := rfl
  rw [e, F_zero]; rfl
theorem wrow {E : Env} {g : Nat → List AV} {nl full : Bool} {v : Value} (hg : g 0 = wl0) (h : Rep E (.sl 1 13 g nl full) v) : Rep E (rowI (W0.l 0)) v := by
  show Rep E (.sl 1 13 (getI (W0.l 0)) false false) v
  have key : ∀ i, i < 1 → ∀ vs, Reps E (g i) vs → Reps E (getI (W0.l 0) i) vs := fun i hi vs hr => by
    have : i = 0 := by omega
    subst this
    rw [hg] at hr
    have e : getI (W0.l 0) 0 = wx0.cells := rfl
    rw [e, ← wl0_eq]
    exact genD_all 1 hr
  cases h with
  | slNil hn => exact .slNil hn
  | slEmp hn hf => exact .slEmp hn fun h => by cases h
  | sl h hs hf hc hr ho => exact .sl h hs (fun h => by cases h) hc (fun i hi => key i hi _ (hr i hi)) ho
theorem wx_cells : wx1.cells = [iv 0, .v (.complex .f64 0 4607182418800017408), .v (.int .u64 5), iv 0, iv 0, iv 0, iv 0, iv 0, iv 0, iv 0, iv 0, .v (.bool false), iv 1] ∧ wx2.cells = [iv 0, .v (.complex .f64 0 4611686018427387904), .v (.int .u64 6), iv 0, iv 0, iv 0, iv 0, iv 0, iv 0, iv 0, iv 0, .v (.bool false), iv (-1)] ∧ wx3.cells = [iv 0, .v (.complex .f64 4611686018427387904 4613937818241073152), .v (.int .u64 0), iv 0, iv 0, iv 0, iv 0, iv 0, iv 0, iv 0, iv 0, .v (.bool true), iv 1] := by
  obtain ⟨h0, h1, h2, h3⟩ := wbits
  have e1 : wx1.cells = [iv 0, .v (.complex .f64 (F 0) (F 1)), .v (.int .u64 5), iv 0, iv 0, iv 0, iv 0, iv 0, iv 0, iv 0, iv 0, .v (.bool false), iv 1] := rfl
  have e2 : wx2.cells = [iv 0, .v (.complex .f64 (F 0) (F 2)), .v (.int .u64 6), iv 0, iv 0, iv 0, iv 0, iv 0, iv 0, iv 0, iv 0, .v (.bool false), iv (-1)] := rfl
  have e3 : wx3.cells = [iv 0, .v (.complex .f64 (F 2) (F 3)), .v (.int .u64 0), iv 0, iv 0, iv 0, iv 0, iv 0, iv 0, iv 0, iv 0, .v (.bool true), iv 1] := rfl
  rw [e1, e2, e3, h0, h1, h2, h3]
  exact ⟨rfl, rfl, rfl⟩
def tabW' (f : Nat) (args : List AV) : Option (Tree AV) := match f, args with
  | 57, [.agg [n, .sl 1 13 g a b, r1, r2, r3], .agg cs] => some (.side ((n = iv 1 ∧ g 0 = wl0 ∧ r1 = nilV ∧ r2 = nilV ∧ r3 = nilV) ∧ cs = wx1.cells) (.ret (.tup [memA W1, .lit (.int .i64 0)])))
  | 57, [m, .agg cs] => match zA cs 2 with
    | 6 => some (.side (m = memA W1 ∧ cs = wx2.cells) (.ret (.tup [memA W1, .lit (.int .i64 5)])))
    | _ => some (.side (m = memA W1 ∧ cs = wx3.cells) (.ret (.tup [memA W2, .lit (.int .i64 0)])))
  | 68, [m, l, t, .v (.int .i64 o)] => match o with
    | 0 => some (.side (m = memA W2 ∧ l = iv 0 ∧ t = iv 3) (.ret (.tup [memA W2, .lit (.int .i64 6)])))
    | 1 => some (.side (m = memA W2 ∧ l = iv 0 ∧ t = iv 3) (.ret (.tup [memA W1, .lit (.int .i64 0)])))
    | _ => none
  | 66, [m, l, t, o] => some (.side (m = memA W2 ∧ l = iv 0 ∧ t = iv 1 ∧ o = iv 1) (.ret (.tup [memA W4, .lit (.int .i64 0)])))
  | 98, [m, l] => some (.side (m = memA W2 ∧ l = iv 0) (.ret (.tup [.agg wx1.cells, .v (.bool true)])))
  | 55, [.agg [n, .sl k 13 g a b, r1, r2, r3], l] => match k with
    | 3 => some (.side (AV.agg [n, .sl 3 13 g a b, r1, r2, r3] = memA W2 ∧ l = iv 0) (.ret (rowI [wx0, wx1, wx3])))
    | 2 => some (.side (AV.agg [n, .sl 2 13 g a b, r1, r2, r3] = memA W1 ∧ l = iv 0) (.ret (rowI [wx0, wx1])))
    | _ => none
  | 76, [.agg [n, .sl k 13 g a b, r1, r2, r3], l] => match zA (g 1) 12 with
    | 1 => some (.side (AV.agg [n, .sl k 13 g a b, r1, r2, r3] = memA W2 ∧ l = iv 1) (.ret (rowI [wx1, wx3])))
    | _ => some (.side (AV.agg [n, .sl k 13 g a b, r1, r2, r3] = memA W4 ∧ l = iv 1) (.ret (rowI [wx3])))
  | 73, [m, .agg l] => some (.side (m = memA W2 ∧ l = ivs 8 (viewOf l)) (.ret (.v (.bool (closedM W2 (viewOf l))))))
  | _, _ => none
theorem tabW'_ok : TabFOk Try.prog tabW' := by
  intro f args t a ht hh
  unfold tabW' at ht
  split at ht
  · cases ht
    obtain ⟨⟨⟨h1, h2, h3, h4, h5⟩, h6⟩, hh⟩ := hh
    cases hh; subst h1; subst h3; subst h4; subst h5; subst h6
    refine w_add1.pre fun E vs h => ?_
    cases h with | cons q1 h =>
    refine .cons ?_ h
    obtain ⟨vs, rfl, hr, ho⟩ := Rep.agg_inv q1
    refine Rep.agg_mk ?_ ho
    cases hr with | cons r0 t => cases t with | cons r1 t => cases t with | cons r2 t => cases t with | cons r3 t => cases t with | cons r4 t => cases t with | nil =>
    refine .cons r0 (.cons ?_ (.cons (nil_row r2) (.cons (nil_row r3) (.cons (nil_row r4) .nil))))
    exact wrow h2 r1
  · split at ht
    · cases ht
      obtain ⟨⟨h1, h2⟩, hh⟩ := hh
      cases hh; subst h1; subst h2; exact w_add2
    · cases ht
      obtain ⟨⟨h1, h2⟩, hh⟩ := hh
      cases hh; subst h1; subst h2; exact w_add3
  · split at ht
    · cases ht
      obtain ⟨⟨h1, h2, h3⟩, hh⟩ := hh
      cases hh; subst h1; subst h2; subst h3; exact w_can0
    · cases ht
      obtain ⟨⟨h1, h2, h3⟩, hh⟩ := hh
      cases hh; subst h1; subst h2; subst h3; exact w_can1
    · cases ht
  · cases ht
    obtain ⟨⟨h1, h2, h3, h4⟩, hh⟩ := hh
    cases hh; subst h1; subst h2; subst h3; subst h4; exact w_ful
  · cases ht
    obtain ⟨⟨h1, h2⟩, hh⟩ := hh
    cases hh; subst h1; subst h2; exact w_last
  · split at ht
    · cases ht
      obtain ⟨⟨h1, h2⟩, hh⟩ := hh
      cases hh; rw [h1, h2]; exact w_list2
    · cases ht
      obtain ⟨⟨h1, h2⟩, hh⟩ := hh
      cases hh; rw [h1, h2]; exact w_list1
    · cases ht
  · split at ht
    · cases ht
      obtain ⟨⟨h1, h2⟩, hh⟩ := hh
      cases hh; rw [h1, h2]; exact w_own2
    · cases ht
      obtain ⟨⟨h1, h2⟩, hh⟩ := hh
      cases hh; rw [h1, h2]; exact w_own4
  · cases ht
    obtain ⟨⟨h1, h2⟩, hh⟩ := hh
    cases hh; exact (closed_frz wfit2 _).pre fun E vs h => by rw [← h2, ← h1]; exact h
  · cases ht
def tabW0 (f : Nat) (args : List AV) : Option (Tree AV) := match f with
  | 65 => opened tabM4 65 args
  | _ => none
theorem tabW0_ok : TabOk Try.prog tabW0 := by
  intro f args t a ht hh
  unfold tabW0 at ht
  split at ht
  · exact opened_ok tabM4_ok _ _ _ _ ht hh
  · cases ht
noncomputable def cxW : Cx := ⟨Try.prog, ctrOf2 tabW0 (opened tabW'), decM [(27, false)]⟩
set_option maxRecDepth 100000 in
theorem cxW_ok : CtrOk cxW := ctrOf2_ok tabW0_ok (opened_okF tabW'_ok) _
noncomputable def c62 : Code := codeOf Try.f62
noncomputable def res62 : St → Option AV := resF Try.prog Try.f62.results.toList
def ds62 : List (Nat × Bool) := [(0, false), (1, false), (2, false)]
noncomputable def go62 : Tree Lf := (codeE (cxD fun _ _ => none) (evs (cxD fun _ _ => none) 60) (joins (firsts 2 c62)) (entry [])).map (lfR 0 ds62 true res62)
def getOf : Tree Lf → Nat → List AV
  | .ret (.go _ (some s)) => match hget s.hp 1 with
    | some (.arr _ _ _ g) => g
    | _ => fun _ => []
  | _ => fun _ => []
noncomputable def g62 : Nat → List AV := getOf go62
def st62 (g : Nat → List AV) : St := { sl := [(0, .lit (.bool false)), (1, .ptr 0 0), (2, .lit (.int .i64 0))], hp := [(0, some (.fix 81 [iv 1, .own 1 1 13 false, nilV, nilV, nilV])), (1, some (.arr 102 1 13 g))], nx := 2, rd := [], wr := [], ws := [], wb := [] }
set_option maxRecDepth 100000 in
theorem go62_eq : go62 = .ret (.go .norm (some (st62 g62))) := by kernel_rfl
noncomputable def fz62 : St := (St.freezeB? ds62 true 1 (st62 g62)).getD .nil
def getF (s : St) : Nat → List AV := match hget s.hp 0 with
  | some (.fix _ [_, .sl _ _ g _ _, _, _, _]) => g
  | _ => fun _ => []
noncomputable def h62 : Nat → List AV := getF fz62
def fr62 (g : Nat → List AV) : St := { sl := [(0, .lit (.bool false)), (1, .ptr 0 0), (2, .lit (.int .i64 0))], hp := [(0, some (.fix 81 [iv 1, .sl 1 13 g false false, nilV, nilV, nilV]))], nx := 1, rd := [], wr := [], ws := [], wb := [] }
set_option maxRecDepth 100000 in
theorem fr62_eq : St.freezeB? ds62 true 1 (st62 g62) = some (fr62 h62) := by kernel_rfl
noncomputable def rest62 (g : Nat → List AV) : Tree Lf := (codeE cxW (evs cxW 60) (behind 2 c62) (fr62 g)).map (lfR 0 [] false res62)
def wE (a b : AV) (p : Prop) : Prop := a = b ∧ p
def i5 : List AV := [iv 0, .v (.complex .f64 0 4607182418800017408), .v (.int .u64 5), iv 0, iv 0, iv 0, iv 0, iv 0, iv 0, iv 0, iv 0, .v (.bool false), iv 1]
def i6 : List AV := [iv 0, .v (.complex .f64 0 4611686018427387904), .v (.int .u64 6), iv 0, iv 0, iv 0, iv 0, iv 0, iv 0, iv 0, iv 0, .v (.bool false), iv (-1)]
def i0 : List AV := [iv 0, .v (.complex .f64 4611686018427387904 4613937818241073152), .v (.int .u64 0), iv 0, iv 0, iv 0, iv 0, iv 0, iv 0, iv 0, iv 0, .v (.bool true), iv 1]
def vw (k : Int) : List AV := [iv k, iv 0, iv 0, iv 0, iv k, iv 0, iv 0, iv 0]
def T62 (g0 : List AV) : Tree Lf :=
  .side (((1 : Int) != 1) = false) (.side ((iv 1 = iv 1 ∧ g0 = wl0 ∧ nilV = nilV ∧ nilV = nilV ∧ nilV = nilV) ∧ i5 = wx1.cells) (.side (memA W1 = memA W1 ∧ i6 = wx2.cells) (.side (memA W1 = memA W1 ∧ i0 = wx3.cells)
    (.side (memA W2 = memA W2 ∧ iv 0 = iv 0 ∧ iv 3 = iv 3) (.side (memA W2 = memA W2 ∧ iv 0 = iv 0 ∧ iv 3 = iv 3) (.side (memA W2 = memA W2 ∧ iv 0 = iv 0) (.side (memA W2 = memA W2 ∧ iv 0 = iv 0 ∧ iv 1 = iv 1 ∧ iv 1 = iv 1) (.side (memA W2 = memA W2 ∧ iv 0 = iv 0)
    (.side ((((3 : Nat) : Int) == 3) = true → (memA W1 = memA W1 ∧ iv 0 = iv 0) ∧ ((((2 : Nat) : Int) == 2) = true → true = true → ((5 : Int) == 5) = true → (memA W2 = memA W2 ∧ iv 1 = iv 1) ∧ ((((2 : Nat) : Int) == 2) = true → (memA W4 = memA W4 ∧ iv 1 = iv 1) ∧ ((((1 : Nat) : Int) == 1) = true → (memA W2 = memA W2 ∧ vw 1 = ivs 8 (viewOf (vw 1))) ∧ (closedM W2 (viewOf (vw 1)) = true → memA W2 = memA W2 ∧ vw 3 = ivs 8 (viewOf (vw 3)))))))
    (.ret (.out (.v (.bool true)))))))))))))
set_option maxRecDepth 100000 in
theorem rest62_eq : rest62 h62 = T62 wl0 := by kernel_rfl
theorem code62 : c62 = seqs (firsts 2 c62) (behind 2 c62) := by kernel_rfl
set_option maxRecDepth 100000 in
theorem wakes_frz : FrzOk Try.prog 62 [] (.lit (.bool true)) := by
  let O : AV → Prop := fun a' => ∀ E v, Rep E a' v → Rep E (.lit (.bool true)) v
  refine frz_of_ends fitTry Try.func62 (c := c62) (by kernel_rfl) (Nat.le_of_ble_eq_true (by kernel_rfl)) (O := O) (fun E w hd hf => ?_) fun a' h => h
  rw [code62]
  refine wpc_stageR (cx := cxD fun _ _ => none) (n := 60) (ds := ds62) (gb := true) (res := res62) (O := O) (cxD_ok _) fitTry (by simp [firsts]) (by kernel_rfl) ?_ ends_ret
  show go62.wp _
  rw [go62_eq]
  show WpC _ _ _ _ _
  refine wpc_pre (freezeB_le rfl fr62_eq) ?_
  refine wpc_of_lfR (cx := cxW) (n := 60) (ds := []) (gb := false) (res := res62) (O := O) cxW_ok fitTry (by kernel_rfl) ?_ ends_ret
  show (rest62 h62).wp _
  rw [rest62_eq]
  refine ⟨rfl, ⟨⟨rfl, rfl, rfl, rfl, rfl⟩, wx_cells.1.symm⟩, ⟨rfl, wx_cells.2.1.symm⟩, ⟨rfl, wx_cells.2.2.symm⟩, ⟨rfl, rfl, rfl⟩, ⟨rfl, rfl, rfl⟩, ⟨rfl, rfl⟩, ⟨rfl, rfl, rfl, rfl⟩, ⟨rfl, rfl⟩, fun _ => ⟨⟨rfl, rfl⟩, fun _ _ _ => ⟨⟨rfl, rfl⟩, fun _ => ⟨⟨rfl, rfl⟩, fun _ => ⟨⟨rfl, rfl⟩, fun _ => ⟨rfl, rfl⟩⟩⟩⟩⟩, ?_⟩
  intro E v hv
  cases hv; exact .lit _ rfl
end
end Go.Proofs.Ytkmhabbpndcnkaa

/-
  PART: memory: the law MemoryPlays, its table and its run ahead of the loop.
-/
namespace Go.Proofs.Ytkmhabbpndcnkaa
open Go.RowKit
noncomputable section
/-- Same, of memories that are related. -/
def sideSame (m : PM) (N : Int) (L : List RIt) : Prop := (∃ k : Nat, N = k ∧ Rel m k L) ∧ L.length ≤ 500
def tabR4' (f : Nat) (args : List AV) : Option (Tree AV) := match f, args with
  | 62, [] => some (.ret (.lit (.bool true)))
  | 59, [.agg [.v (.int .i64 n), .sl n0 13 g0 _ _, .sl n1 13 g1 _ _, .sl n2 13 g2 _ _, .sl n3 13 g3 _ _], .agg [.v (.int .i64 N), .sl k 14 h _ _]] => some (.side ((PmIn n n0 n1 n2 n3 g0 g1 g2 g3 ∧ RowRk k h) ∧ sideSame (pmD n n0 n1 n2 n3 g0 g1 g2 g3) N (rlstOf k h)) (.ret (.lit (.bool true))))
  | _, _ => none
theorem tabR4'_ok : TabFOk Try.prog tabR4' := by
  intro f args t a ht hh
  unfold tabR4' at ht
  split at ht
  · cases ht; cases hh; exact wakes_frz
  · cases ht
    obtain ⟨⟨⟨h1, h2⟩, ⟨k', e, h3⟩, h4⟩, hh⟩ := hh
    cases hh
    subst e
    refine (same_true h3 h4 h1.2.2.2.2.out).pre fun E vs h => ?_
    cases h with | cons q1 h => cases h with | cons q2 h =>
    exact .cons (pmD_rep h1 q1) (.cons (refA_rep (fun v hv => rowR_of h2 hv) q2) h)
  · cases ht
def tabR4 (f : Nat) (args : List AV) : Option (Tree AV) := match opened tabR4' f args with
  | some t => some t
  | none => tabR3 f args
theorem tabR4_ok : TabFOk Try.prog tabR4 := by
  intro f args t a ht hh
  unfold tabR4 at ht
  split at ht
  · rename_i u hu
    cases ht
    exact opened_okF tabR4'_ok _ _ _ _ hu hh
  · exact tabR3_ok _ _ _ _ ht hh
noncomputable def cx8 (dec : Nat → St → Option Bool) : Cx := ⟨Try.prog, ctrOf2 (opened tabM4) tabR4, dec⟩
theorem cx8_ok (dec : Nat → St → Option Bool) : CtrOk (cx8 dec) := ctrOf2_ok (opened_ok tabM4_ok) tabR4_ok dec
noncomputable def c12 : Code := codeOf Try.f12
noncomputable def res12 : St → Option AV := resF Try.prog Try.f12.results.toList
/-- A row of acts. -/
def rowAct (n : Nat) (d : Nat → Int) (X : Nat → RIt) : AV := .sl n 15 (fun i => .v (.int .u8 (d i)) :: (X i).cells) false false
def args12 (U : List Int) (n : Nat) (d : Nat → Int) (X : Nat → RIt) (p q : Int) (v : Nat → Int) : List AV := [rowU U, rowAct n d X, iv p, iv q, .agg (ivs 8 v)]
def ds12a : List (Nat × Bool) := [(1, false), (2, false), (3, false), (9, false), (10, false), (11, false), (13, false), (15, false), (16, false)]
noncomputable def cx12 : Cx := cx8 (decM [(47, false)])
def uU (U : List Int) : List Int := uOf U.length fun i => [.v (.int .u64 (U.getD i 0))]
def memCells (m : PM) : List AV := [iv m.n, rowI (m.l 0), rowI (m.l 1), rowI (m.l 2), rowI (m.l 3)]
def st12 (n : Nat) (d : Nat → Int) (X : Nat → RIt) (p q : Int) (v : Nat → Int) (m : PM) (N : Int) (L : List RIt) : St :=
  { sl := [(1, rowAct n d X), (2, iv p), (3, iv q), (9, .ptr 0 0), (10, .lit (.bool false)), (11, .ptr 1 0), (13, .ptr 2 0), (15, .lit (.slice none 0 0)), (16, .lit (.slice none 0 0))],
    hp := [(0, some (.fix 38 (ivs 8 v))), (1, some (.fix 81 (memCells m))), (2, some (.fix 83 [iv N, rowR L]))], nx := 3, rd := [], wr := [], ws := [], wb := [] }
def manyU (n : Nat) (U : List Int) : Bool := if decide ((n : Int) > 150) = true then true else decide ((U.length : Int) > 10)
def sideU (U : List Int) : Prop := ∀ i, i < U.length → [AV.v (.int .u64 (U.getD i 0))] = [.v (.int .u64 (zA [AV.v (.int .u64 (U.getD i 0))] 0))]
theorem pre12 (U : List Int) (n : Nat) (d : Nat → Int) (X : Nat → RIt) (p q : Int) (v : Nat → Int) : (codeE cx12 (evs cx12 60) (joins (firsts 8 c12)) (entry (args12 U n d X p q v))).map (lfR 0 ds12a true res12) =
    .br (manyU n U) (.ret (.out (.lit (.bool true)))) (.side (sideU U) (.side (sideU U) (.side (((beginR (uU U)).2 != (refBegR (uU U)).2.2) = false) (.br ((refBegR (uU U)).2.2 != 0) (.ret (.out (.v (.bool ((beginR (uU U)).1.n == 0))))) (.ret (.go .norm (some (st12 n d X p q v (beginR (uU U)).1 (refBegR (uU U)).1 (refBegR (uU U)).2.1)))))))) := by kernel_rfl
def mz : PM := ⟨0, fun _ => []⟩
def getM (Ms : List PM) : Nat → List AV := fun j => memCells (Ms.getD j mz)
def getL (N : Int) (Ls : List (List RIt)) : Nat → List AV := fun j => [iv N, rowR (Ls.getD j [])]
/-- The loop's states. -/
def inv12 (n : Nat) (d : Nat → Int) (X : Nat → RIt) (p q : Int) (v : Nat → Int) (m : PM) (N : Int) (L : List RIt) (a b : Nat) (Ms : List PM) (Ls : List (List RIt)) (i : Int) : St :=
  { sl := [(1, rowAct n d X), (2, iv p), (3, iv q), (9, .ptr 0 0), (10, .lit (.bool false)), (11, .ptr 1 0), (13, .ptr 2 0), (15, .own 3 a 5 false), (16, .own 4 b 2 false), (17, iv i)],
    hp := [(0, some (.fix 38 (ivs 8 v))), (1, some (.fix 81 (memCells m))), (2, some (.fix 83 [iv N, rowR L])), (3, some (.arr 81 a 5 (getM Ms))), (4, some (.arr 83 b 2 (getL N Ls)))], nx := 5, rd := [], wr := [], ws := [], wb := [] }
def ds12b : List (Nat × Bool) := [(1, false), (2, false), (3, false), (9, false), (10, false), (11, false), (13, false), (15, false), (16, false), (17, true)]
noncomputable def body12 : Code := cin (cin (cr (cl (behind 8 c12))))
noncomputable def a12 : Code := cl (cl (behind 8 c12))
noncomputable def tail12 : Code := cr (behind 8 c12)
theorem code12 : c12 = seqs (firsts 8 c12) (.seq (.seq a12 (.block 0 (.loop body12))) tail12) := by kernel_rfl
def st12i (n : Nat) (d : Nat → Int) (X : Nat → RIt) (p q : Int) (v : Nat → Int) (m : PM) (N : Int) (L : List RIt) : St :=
  { sl := [(1, rowAct n d X), (2, iv p), (3, iv q), (9, .ptr 0 0), (10, .lit (.bool false)), (11, .ptr 1 0), (13, .ptr 2 0), (15, .lit (.slice none 0 0)), (16, .lit (.slice none 0 0)), (17, iv 0)],
    hp := [(0, some (.fix 38 (ivs 8 v))), (1, some (.fix 81 (memCells m))), (2, some (.fix 83 [iv N, rowR L]))], nx := 3, rd := [], wr := [], ws := [], wb := [] }
def st12j (n : Nat) (d : Nat → Int) (X : Nat → RIt) (p q : Int) (v : Nat → Int) (m : PM) (N : Int) (L : List RIt) : St :=
  { sl := [(1, rowAct n d X), (2, iv p), (3, iv q), (9, .ptr 0 0), (10, .lit (.bool false)), (11, .ptr 1 0), (13, .ptr 2 0), (15, .own 3 0 5 false), (16, .lit (.slice none 0 0)), (17, iv 0)],
    hp := [(0, some (.fix 38 (ivs 8 v))), (1, some (.fix 81 (memCells m))), (2, some (.fix 83 [iv N, rowR L])), (3, some (.arr 81 0 5 fun _ => fit 5 []))], nx := 4, rd := [], wr := [], ws := [], wb := [] }
def st12k (n : Nat) (d : Nat → Int) (X : Nat → RIt) (p q : Int) (v : Nat → Int) (m : PM) (N : Int) (L : List RIt) : St :=
  { sl := [(1, rowAct n d X), (2, iv p), (3, iv q), (9, .ptr 0 0), (10, .lit (.bool false)), (11, .ptr 1 0), (13, .ptr 2 0), (15, .own 3 0 5 false), (16, .own 4 0 2 false), (17, iv 0)],
    hp := [(0, some (.fix 38 (ivs 8 v))), (1, some (.fix 81 (memCells m))), (2, some (.fix 83 [iv N, rowR L])), (3, some (.arr 81 0 5 fun _ => fit 5 [])), (4, some (.arr 83 0 2 fun _ => fit 2 []))], nx := 5, rd := [], wr := [], ws := [], wb := [] }
section
variable (n : Nat) (d : Nat → Int) (X : Nat → RIt) (p q : Int) (v : Nat → Int) (m : PM) (N : Int) (L : List RIt) (a b : Nat) (Ms : List PM) (Ls : List (List RIt)) (i : Int)
theorem init12 : (codeE cx12 (evs cx12 60) a12 (st12 n d X p q v m N L)).map (lfR 0 ds12b true res12) = .ret (.go .norm (some (st12i n d X p q v m N L))) := by kernel_rfl
theorem nil12a : St.nilOwn? 0 ds12b 15 81 5 (st12i n d X p q v m N L) = some (st12j n d X p q v m N L) := by kernel_rfl
theorem nil12b : St.nilOwn? 0 ds12b 16 83 2 (st12j n d X p q v m N L) = some (st12k n d X p q v m N L) := by kernel_rfl
end
def tabM6 (f : Nat) (args : List AV) : Option (Tree AV) := match f, args with
  | 56, [.agg l] => some (.side (IsR l ∧ okS (ritOf l).p (ritOf l).q = false) (.ret (.agg (badR (ritOf l)))))
  | f, args => tabM4 f args
theorem tabM6_ok : TabOk Try.prog tabM6 := by
  intro f args t a ht hh
  unfold tabM6 at ht
  split at ht
  · rename_i l
    cases ht
    obtain ⟨⟨h1, h2⟩, hh⟩ := hh
    cases hh
    refine (item_bad h2).pre fun E vs h => ?_
    cases h with | cons q1 h => exact .cons (by rw [← h1]; exact q1) h
  · exact tabM4_ok _ _ _ _ ht hh
noncomputable def cxG (dec : List (Nat × Bool)) : Cx := ⟨Try.prog, ctrOf2 (opened tabM5) tabR4, decM dec⟩
theorem cxG_ok (dec : List (Nat × Bool)) : CtrOk (cxG dec) := ctrOf2_ok (opened_ok tabM5_ok) tabR4_ok _
noncomputable def cxB (dec : List (Nat × Bool)) : Cx := ⟨Try.prog, ctrOf2 (opened tabM6) tabR4, decM dec⟩
theorem cxB_ok (dec : List (Nat × Bool)) : CtrOk (cxB dec) := ctrOf2_ok (opened_ok tabM6_ok) tabR4_ok _
noncomputable def rndOf (cx : Cx) (n : Nat) (d : Nat → Int) (X : Nat → RIt) (p q : Int) (v : Nat → Int) (m : PM) (N : Int) (L : List RIt) (a b : Nat) (Ms : List PM) (Ls : List (List RIt)) (i : Int) : Tree Lf :=
  (codeE cx (evs cx 60) body12 (inv12 n d X p q v m N L a b Ms Ls i)).map (lfR 0 ds12b true res12)
def sizeM (n : Nat) : Prop := n * Try.prog.bytesOf 81 ≤ maxAppend ∧ n ≤ maxAppend
def sizeL (n : Nat) : Prop := n * Try.prog.bytesOf 83 ≤ maxAppend ∧ n ≤ maxAppend
def appM (a : Nat) (Ms : List PM) (m : PM) : Nat → List AV := fun i => mixC 5 (decide (i < a)) (getM Ms i) (memCells m)
def appL (b : Nat) (N : Int) (Ls : List (List RIt)) (L : List RIt) : Nat → List AV := fun i => mixC 2 (decide (i < b)) (getL N Ls i) [iv N, rowR L]
def app12 (n : Nat) (d : Nat → Int) (X : Nat → RIt) (p q : Int) (v : Nat → Int) (m : PM) (N : Int) (L : List RIt) (a b : Nat) (Ms : List PM) (Ls : List (List RIt)) (i : Int) : St :=
  { sl := [(1, rowAct n d X), (2, iv p), (3, iv q), (9, .ptr 0 0), (10, .lit (.bool false)), (11, .ptr 1 0), (13, .ptr 2 0), (15, .own 3 (a + 1) 5 false), (16, .own 4 (b + 1) 2 false), (17, iv i)],
    hp := [(0, some (.fix 38 (ivs 8 v))), (1, some (.fix 81 (memCells m))), (2, some (.fix 83 [iv N, rowR L])), (3, some (.arr 81 (a + 1) 5 (appM a Ms m))), (4, some (.arr 83 (b + 1) 2 (appL b N Ls L)))], nx := 5, rd := [], wr := [], ws := [], wb := [] }
def ixA (n : Nat) (i : Int) : Prop := 0 ≤ i ∧ i < (n : Int)
section
variable (n : Nat) (d : Nat → Int) (X : Nat → RIt) (p q : Int) (v : Nat → Int) (m : PM) (N : Int) (L : List RIt) (a b : Nat) (Ms : List PM) (Ls : List (List RIt)) (i : Int)
theorem stop12 : rndOf (cxG [(59,false)]) n d X p q v m N L a b Ms Ls i = .side (decide (i < (n : Int)) = false) (.ret (.go (.exit 0) (some (inv12 n d X p q v m N L a b Ms Ls i)))) := by kernel_rfl
def fulS (x : RIt) (m : PM) (N : Int) (L : List RIt) : Prop := ((fulM (pmR m) x.loc x.q x.own).2 != (refFulfil N (lsRR L) x.loc x.q x.own).2) = false
theorem ful12a : rndOf (cxG [(59,true),(85,true),(139,false),(142,false)]) n d X p q v m N L a b Ms Ls i =
    .side (decide (i < (n : Int)) = true) (.side (ixA n i) (.side (ixA n i) (.side ((d i.toNat == 0) = true) (.side (PmInR m) (.side (okRR L) (.side (fulS (X i.toNat) m N L) (.side ((16 : Int) ≠ 0) (.side ((i.tmod 16 == 0) = false)
      (.ret (.go .norm (some (inv12 n d X p q v (fulM (pmR m) (X i.toNat).loc (X i.toNat).q (X i.toNat).own).1 N (refFulfil N (lsRR L) (X i.toNat).loc (X i.toNat).q (X i.toNat).own).1 a b Ms Ls (IntKind.i64.wrap (i + 1)))))))))))))) := by kernel_rfl
theorem ful12b : rndOf (cxG [(59,true),(85,true),(139,false),(142,true)]) n d X p q v m N L a b Ms Ls i =
    .side (decide (i < (n : Int)) = true) (.side (ixA n i) (.side (ixA n i) (.side ((d i.toNat == 0) = true) (.side (PmInR m) (.side (okRR L) (.side (fulS (X i.toNat) m N L) (.side ((16 : Int) ≠ 0) (.side ((i.tmod 16 == 0) = true) (.side (sizeM (a + 1)) (.side (sizeL (b + 1))
      (.ret (.go .norm (some (app12 n d X p q v (fulM (pmR m) (X i.toNat).loc (X i.toNat).q (X i.toNat).own).1 N (refFulfil N (lsRR L) (X i.toNat).loc (X i.toNat).q (X i.toNat).own).1 a b Ms Ls (IntKind.i64.wrap (i + 1)))))))))))))))) := by kernel_rfl
end
end
end Go.Proofs.Ytkmhabbpndcnkaa

/-
  PART: memory: the law MemoryPlays, a round's ways.
-/
namespace Go.Proofs.Ytkmhabbpndcnkaa
open Go.RowKit
noncomputable section
def xOf (X : Nat → RIt) (i : Int) : RIt := ritOf (X i.toNat).cells
def canS (x : RIt) (m : PM) (N : Int) (L : List RIt) : Prop := ((canM (pmR m) x.loc x.q x.own).2 != (refCancel N (lsRR L) x.loc x.q x.own).2) = false
def goodS (x : RIt) (m : PM) (N : Int) (L : List RIt) : Prop := ((addM (pmR m) (itOf (toIt x).cells)).2 != (refAdd N (lsRR L) x).2) = false
def badS (x : RIt) (N : Int) (L : List RIt) : Prop := ((1 : Int) != (refAdd N (lsRR L) x).2) = false
section
variable (n : Nat) (d : Nat → Int) (X : Nat → RIt) (p q : Int) (v : Nat → Int) (m : PM) (N : Int) (L : List RIt) (a b : Nat) (Ms : List PM) (Ls : List (List RIt)) (i : Int)
theorem can12a : rndOf (cxG [(59,true),(85,false),(111,true),(139,false),(142,false)]) n d X p q v m N L a b Ms Ls i =
    .side (decide (i < (n : Int)) = true) (.side (ixA n i) (.side (ixA n i) (.side ((d i.toNat == 0) = false) (.side ((d i.toNat == 1) = true) (.side (PmInR m) (.side (okRR L) (.side (canS (X i.toNat) m N L) (.side ((16 : Int) ≠ 0) (.side ((i.tmod 16 == 0) = false) (.ret (.go .norm (some (inv12 n d X p q v (canM (pmR m) (X i.toNat).loc (X i.toNat).q (X i.toNat).own).1 N (refCancel N (lsRR L) (X i.toNat).loc (X i.toNat).q (X i.toNat).own).1 a b Ms Ls (IntKind.i64.wrap (i + 1))))))))))))))) := by kernel_rfl
theorem can12b : rndOf (cxG [(59,true),(85,false),(111,true),(139,false),(142,true)]) n d X p q v m N L a b Ms Ls i =
    .side (decide (i < (n : Int)) = true) (.side (ixA n i) (.side (ixA n i) (.side ((d i.toNat == 0) = false) (.side ((d i.toNat == 1) = true) (.side (PmInR m) (.side (okRR L) (.side (canS (X i.toNat) m N L) (.side ((16 : Int) ≠ 0) (.side ((i.tmod 16 == 0) = true) (.side (sizeM (a + 1)) (.side (sizeL (b + 1)) (.ret (.go .norm (some (app12 n d X p q v (canM (pmR m) (X i.toNat).loc (X i.toNat).q (X i.toNat).own).1 N (refCancel N (lsRR L) (X i.toNat).loc (X i.toNat).q (X i.toNat).own).1 a b Ms Ls (IntKind.i64.wrap (i + 1))))))))))))))))) := by kernel_rfl
theorem good12a : rndOf (cxG [(59,true),(85,false),(111,false),(139,false),(142,false)]) n d X p q v m N L a b Ms Ls i =
    .side (decide (i < (n : Int)) = true) (.side (ixA n i) (.side (ixA n i) (.side ((d i.toNat == 0) = false) (.side ((d i.toNat == 1) = false) (.side (IsR (X i.toNat).cells ∧ okS (xOf X i).p (xOf X i).q = true) (.side (PmInR m) (.side (IsIt (toIt (xOf X i)).cells) (.side (okRR L) (.side (IsR (X i.toNat).cells) (.side (goodS (xOf X i) m N L) (.side ((16 : Int) ≠ 0) (.side ((i.tmod 16 == 0) = false) (.ret (.go .norm (some (inv12 n d X p q v (addM (pmR m) (itOf (toIt (xOf X i)).cells)).1 N (refAdd N (lsRR L) (xOf X i)).1 a b Ms Ls (IntKind.i64.wrap (i + 1)))))))))))))))))) := by kernel_rfl
theorem good12b : rndOf (cxG [(59,true),(85,false),(111,false),(139,false),(142,true)]) n d X p q v m N L a b Ms Ls i =
    .side (decide (i < (n : Int)) = true) (.side (ixA n i) (.side (ixA n i) (.side ((d i.toNat == 0) = false) (.side ((d i.toNat == 1) = false) (.side (IsR (X i.toNat).cells ∧ okS (xOf X i).p (xOf X i).q = true) (.side (PmInR m) (.side (IsIt (toIt (xOf X i)).cells) (.side (okRR L) (.side (IsR (X i.toNat).cells) (.side (goodS (xOf X i) m N L) (.side ((16 : Int) ≠ 0) (.side ((i.tmod 16 == 0) = true) (.side (sizeM (a + 1)) (.side (sizeL (b + 1)) (.ret (.go .norm (some (app12 n d X p q v (addM (pmR m) (itOf (toIt (xOf X i)).cells)).1 N (refAdd N (lsRR L) (xOf X i)).1 a b Ms Ls (IntKind.i64.wrap (i + 1)))))))))))))))))))) := by kernel_rfl
theorem bad12a : rndOf (cxB [(59,true),(85,false),(111,false),(139,false),(142,false)]) n d X p q v m N L a b Ms Ls i =
    .side (decide (i < (n : Int)) = true) (.side (ixA n i) (.side (ixA n i) (.side ((d i.toNat == 0) = false) (.side ((d i.toNat == 1) = false) (.side (IsR (X i.toNat).cells ∧ okS (xOf X i).p (xOf X i).q = false) (.side (PmInR m) (.side (badR (xOf X i) = badC (rawIt (badR (xOf X i)))) (.side (okRR L) (.side (IsR (X i.toNat).cells) (.side (badS (xOf X i) N L) (.side ((16 : Int) ≠ 0) (.side ((i.tmod 16 == 0) = false) (.ret (.go .norm (some (inv12 n d X p q v (pmR m) N (refAdd N (lsRR L) (xOf X i)).1 a b Ms Ls (IntKind.i64.wrap (i + 1)))))))))))))))))) := by kernel_rfl
theorem bad12b : rndOf (cxB [(59,true),(85,false),(111,false),(139,false),(142,true)]) n d X p q v m N L a b Ms Ls i =
    .side (decide (i < (n : Int)) = true) (.side (ixA n i) (.side (ixA n i) (.side ((d i.toNat == 0) = false) (.side ((d i.toNat == 1) = false) (.side (IsR (X i.toNat).cells ∧ okS (xOf X i).p (xOf X i).q = false) (.side (PmInR m) (.side (badR (xOf X i) = badC (rawIt (badR (xOf X i)))) (.side (okRR L) (.side (IsR (X i.toNat).cells) (.side (badS (xOf X i) N L) (.side ((16 : Int) ≠ 0) (.side ((i.tmod 16 == 0) = true) (.side (sizeM (a + 1)) (.side (sizeL (b + 1)) (.ret (.go .norm (some (app12 n d X p q v (pmR m) N (refAdd N (lsRR L) (xOf X i)).1 a b Ms Ls (IntKind.i64.wrap (i + 1)))))))))))))))))))) := by kernel_rfl
end
end
end Go.Proofs.Ytkmhabbpndcnkaa

/-
  PART: memory: the law MemoryPlays, behind its first loop.
-/
namespace Go.Proofs.Ytkmhabbpndcnkaa
open Go.RowKit
noncomputable section
def ds12c : List (Nat × Bool) := [(2, false), (3, false), (9, false), (10, false), (11, false), (13, false), (15, false), (16, false)]
def ds12d : List (Nat × Bool) := [(2, false), (3, false), (9, false), (10, false), (11, false), (13, false), (15, false), (16, false), (21, true)]
def base12 (v : Nat → Int) (m : PM) (N : Int) (L : List RIt) : List (Nat × Option Blk) := [(0, some (.fix 38 (ivs 8 v))), (1, some (.fix 81 (memCells m))), (2, some (.fix 83 [iv N, rowR L]))]
def sl12 (p q : Int) (a b : Nat) : List (Nat × AV) := [(2, iv p), (3, iv q), (9, .ptr 0 0), (10, .lit (.bool false)), (11, .ptr 1 0), (13, .ptr 2 0), (15, .own 3 a 5 false), (16, .own 4 b 2 false)]
def apl12 (p q : Int) (v : Nat → Int) (m : PM) (N : Int) (L : List RIt) (a b : Nat) (Ms : List PM) (Ls : List (List RIt)) : St :=
  { sl := sl12 p q (a + 1) (b + 1), hp := base12 v m N L ++ [(3, some (.arr 81 (a + 1) 5 (appM a Ms m))), (4, some (.arr 83 (b + 1) 2 (appL b N Ls L)))], nx := 5, rd := [], wr := [], ws := [], wb := [] }
def mid12 (p q : Int) (v : Nat → Int) (m : PM) (N : Int) (L : List RIt) (a b : Nat) (Ms : List PM) (Ls : List (List RIt)) : St :=
  { sl := sl12 p q a b, hp := base12 v m N L ++ [(3, some (.arr 81 a 5 (getM Ms))), (4, some (.arr 83 b 2 (getL N Ls)))], nx := 5, rd := [], wr := [], ws := [], wb := [] }
def inw12 (p q : Int) (v : Nat → Int) (m : PM) (N : Int) (L : List RIt) (a b : Nat) (Ms : List PM) (Ls : List (List RIt)) (i : Int) : St :=
  { sl := sl12 p q a b ++ [(21, iv i)], hp := base12 v m N L ++ [(3, some (.arr 81 a 5 (getM Ms))), (4, some (.arr 83 b 2 (getL N Ls)))], nx := 5, rd := [], wr := [], ws := [], wb := [] }
noncomputable def rest12 : Code := behind 2 tail12
noncomputable def b12 : Code := cl (cl rest12)
noncomputable def body12b : Code := cin (cin (cr (cl rest12)))
noncomputable def end12 : Code := cr rest12
theorem codeT12 : tail12 = seqs (firsts 2 tail12) (.seq (.seq b12 (.block 3 (.loop body12b))) end12) := by kernel_rfl
section
variable (n : Nat) (d : Nat → Int) (X : Nat → RIt) (p q : Int) (v : Nat → Int) (m : PM) (N : Int) (L : List RIt) (a b : Nat) (Ms : List PM) (Ls : List (List RIt)) (i : Int)
theorem apl12_eq : (codeE (cxG []) (evs (cxG []) 60) (joins (firsts 2 tail12)) (inv12 n d X p q v m N L a b Ms Ls i)).map (lfR 0 ds12c true res12) =
    .side (sizeM (a + 1)) (.side (sizeL (b + 1)) (.ret (.go .norm (some (apl12 p q v m N L a b Ms Ls))))) := by kernel_rfl
theorem init12b : (codeE (cxG []) (evs (cxG []) 60) b12 (mid12 p q v m N L a b Ms Ls)).map (lfR 0 ds12d true res12) = .ret (.go .norm (some (inw12 p q v m N L a b Ms Ls 0))) := by kernel_rfl
def ixO (a : Nat) (i : Int) : Prop := 0 ≤ i ∧ i < (a : Int)
end
noncomputable def rnd12b (p q : Int) (v : Nat → Int) (m : PM) (N : Int) (L : List RIt) (a b : Nat) (Ms : List PM) (Ls : List (List RIt)) (i : Int) : Tree Lf := (codeE (cxG []) (evs (cxG []) 60) body12b (inw12 p q v m N L a b Ms Ls i)).map (lfR 0 ds12d true res12)
noncomputable def fin12 (p q : Int) (v : Nat → Int) (m : PM) (N : Int) (L : List RIt) (a b : Nat) (Ms : List PM) (Ls : List (List RIt)) (i : Int) : Tree Lf := (codeE (cxG []) (evs (cxG []) 60) end12 (inw12 p q v m N L a b Ms Ls i)).map (lfR 0 [] false res12)
def sameS (m : PM) (N : Int) (L : List RIt) : Prop := (PmInR m ∧ okRR L) ∧ sideSame (pmR m) N (lsRR L)
section
variable (p q : Int) (v : Nat → Int) (m : PM) (N : Int) (L : List RIt) (a b : Nat) (Ms : List PM) (Ls : List (List RIt)) (i : Int)
theorem rnd12b_eq : rnd12b p q v m N L a b Ms Ls i =
    .br (decide (i < (a : Int))) (.side (ixO a i) (.side (i.toNat < a) (.side (ixO b i) (.side (i.toNat < b) (.side (sameS (Ms.getD i.toNat mz) N (Ls.getD i.toNat [])) (.ret (.go .norm (some (inw12 p q v m N L a b Ms Ls (IntKind.i64.wrap (i + 1))))))))))) (.ret (.go (.exit 3) (some (inw12 p q v m N L a b Ms Ls i)))) := by kernel_rfl
def eqAt (AT : Option It) (RA : Option RIt) : Bool := eqI (AT.getD itz) (toIt (ritOf (RA.getD rz).cells))
def finA (v : Nat → Int) (m : PM) (N : Int) (L : List RIt) : Prop := ivs 8 v = ivs 8 (viewOf (ivs 8 v)) ∧ PmInR m ∧ ivs 8 (viewOf (ivs 8 v)) = ivs 8 (viewOf (ivs 8 (viewOf (ivs 8 v)))) ∧ okRR L ∧ (1 ≤ N ∧ N ≤ 4 ∧ ivs 8 v = ivs 8 (viewOf (ivs 8 v)))
def finS (v : Nat → Int) (m : PM) (N : Int) (L : List RIt) (AT : Option It) (RA : Option RIt) : Prop :=
  (AT.isSome == RA.isSome) = true → ((!AT.isSome) = true → finA v m N L) ∧ ((!AT.isSome) = false → (IsR (RA.getD rz).cells ∧ okS (ritOf (RA.getD rz).cells).p (ritOf (RA.getD rz).cells).q = true) ∧ (eqAt AT RA = true → finA v m N L))
def finC (v : Nat → Int) (m : PM) (N : Int) (L : List RIt) : Bool := closedM (pmR m) (viewOf (ivs 8 (viewOf (ivs 8 v)))) == refClosed N.toNat (lsRR L) (viewOf (ivs 8 v))
def finB (AT : Option It) (RA : Option RIt) (C : Bool) : Bool := if (AT.isSome == RA.isSome) = true then (if (!AT.isSome) = true then C else if eqAt AT RA = true then C else false) else false
theorem fin12_eq : fin12 p q v m N L a b Ms Ls i =
    .side (PmInR m) (.side (okRR L) (.side (finS v m N L (atM (pmR m) p q) (refAt (lsRR L) p q)) (.ret (.out (.v (.bool (finB (atM (pmR m) p q) (refAt (lsRR L) p q) (finC v m N L)))))))) := by kernel_rfl
end
end
end Go.Proofs.Ytkmhabbpndcnkaa

/-
  PART: memory: the law MemoryPlays, plainly.
-/
namespace Go.Proofs.Ytkmhabbpndcnkaa
open Go.RowKit
noncomputable section
/-- What a memory and the document's hold together. -/
structure Both (m : PM) (N : Nat) (L : List RIt) (k : Nat) : Prop where
  rel : Rel m N L
  len : L.length ≤ k
  out : ∀ i, 4 ≤ i → m.l i = []
theorem Both.le {m : PM} {N : Nat} {L : List RIt} {k k' : Nat} (h : Both m N L k) (hk : k ≤ k') : Both m N L k' := ⟨h.rel, Nat.le_trans h.len hk, h.out⟩
theorem Both.fit {m : PM} {N : Nat} {L : List RIt} {k : Nat} (h : Both m N L k) (hk : k ≤ 500) : PmFit m := pmFit_of h.rel (Nat.le_trans h.len hk) h.out
theorem Both.okR {m : PM} {N : Nat} {L : List RIt} {k : Nat} (h : Both m N L k) (hk : k ≤ 500) : OkR L := okR_of h.rel (Nat.le_trans h.len hk)
theorem mayI_loc {n loc n' own : Int} {a b : Nat} {v : Nat → Int} {res : Bool} (h : mayI n loc n' own a b v res ≠ false) : 0 ≤ loc ∧ loc < n := by
  unfold mayI at h
  cases hl : locE n loc with
  | false => rw [hl] at h; simp at h
  | true =>
    unfold locE at hl
    split at hl
    · rename_i h0
      exact ⟨of_decide_eq_true h0, of_decide_eq_true hl⟩
    · cases hl
theorem Both.ful {m : PM} {N : Nat} {L : List RIt} {k : Nat} (h : Both m N L k) (loc to owner : Int) : (fulM m loc to owner).2 = (refFulfil N L loc to owner).2 ∧ Both (fulM m loc to owner).1 N (refFulfil N L loc to owner).1 (k + 1) := by
  obtain ⟨h1, h2⟩ := fulM_rel h.rel loc to owner
  refine ⟨h1, h2, ?_, fun i hi => ?_⟩
  · have := h.len
    unfold refFulfil
    split
    · show L.length ≤ _; omega
    · split
      · show L.length ≤ _; omega
      · show (List.modify _ _ _).length ≤ _
        rw [List.length_modify]; omega
  · have := h.out i hi
    unfold fulM
    split
    · exact this
    · split
      · exact this
      · show (if i = loc.toNat then (m.l i).modify _ _ else m.l i) = []
        rw [this]; simp
theorem Both.can {m : PM} {N : Nat} {L : List RIt} {k : Nat} (h : Both m N L k) (loc to owner : Int) : (canM m loc to owner).2 = (refCancel N L loc to owner).2 ∧ Both (canM m loc to owner).1 N (refCancel N L loc to owner).1 (k + 1) := by
  obtain ⟨h1, h2⟩ := canM_rel h.rel loc to owner
  refine ⟨h1, h2, ?_, fun i hi => ?_⟩
  · have := h.len
    unfold refCancel
    split
    · show L.length ≤ _; omega
    · split
      · show L.length ≤ _; omega
      · show (List.take _ _ ++ List.drop _ _).length ≤ _
        rw [List.length_append, List.length_take, List.length_drop]; omega
  · have := h.out i hi
    unfold canM
    split
    · exact this
    · split
      · exact this
      · show (if i = loc.toNat then (m.l i).take _ ++ (m.l i).drop _ else m.l i) = []
        rw [this]; simp
theorem refAdd_len (N : Int) (L : List RIt) (x : RIt) : (refAdd N L x).1.length ≤ L.length + 1 := by
  unfold refAdd
  split
  · exact Nat.le_succ _
  · split
    · exact Nat.le_succ _
    · split
      · exact Nat.le_succ _
      · show (L ++ [x]).length ≤ _
        simp
theorem Both.add {m : PM} {N : Nat} {L : List RIt} {k : Nat} (h : Both m N L k) {x : RIt} (hx : okS x.p x.q = true) (hv : ∀ j, 8 ≤ j → x.v j = 0) : (addM m (toIt x)).2 = (refAdd N L x).2 ∧ Both (addM m (toIt x)).1 N (refAdd N L x).1 (k + 1) := by
  obtain ⟨h1, h2⟩ := addM_rel h.rel hx hv
  refine ⟨h1, h2, ?_, fun i hi => ?_⟩
  · have := refAdd_len N L x
    have := h.len
    omega
  · have hl := h.out i hi
    unfold addM
    split
    · exact hl
    · rename_i hm
      split
      · exact hl
      · split
        · exact hl
        · show (if i = (toIt x).loc.toNat then _ else m.l i) = []
          have := mayI_loc hm
          have := h.rel.n
          have := h.rel.hi
          rw [if_neg (by omega)]
          exact hl
/-- An item with a span that may not be is refused. -/
theorem refAdd_bad {N : Int} {L : List RIt} {x : RIt} (hx : okS x.p x.q = false) : refAdd N L x = (L, 1) := by
  unfold refAdd
  have : refBad N x = true := by unfold refBad; rw [hx]; simp
  rw [if_pos this]
theorem both_begin {s : List Int} (h1 : 1 ≤ s.length) (h2 : s.length ≤ 4) : Both (beginM s) s.length (refBegin s) 4 := by
  refine ⟨begin_rel h1 h2, ?_, fun i hi => ?_⟩
  · have h : ∀ i, (beginL s i).length ≤ 1 := fun i => by unfold beginL; split <;> simp
    unfold refBegin
    have key : ∀ l : List Nat, (l.flatMap (beginL s)).length ≤ l.length := by
      intro l
      induction l with
      | nil => simp
      | cons a l ih => rw [List.flatMap_cons, List.length_append, List.length_cons]; have := h a; omega
    have := key (List.range s.length)
    rw [List.length_range] at this
    omega
  · show (beginL s i).map toIt = []
    unfold beginL
    have : s[i]? = none := by simp; omega
    rw [this]; rfl
end
end Go.Proofs.Ytkmhabbpndcnkaa
