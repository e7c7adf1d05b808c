/-
  PARTS, one behind the other: M7 M8 M9 MA MB MC MD ME MF MG MH.
-/
import Derived.Test.YtkmhabbpndcnkaaWc5
/-
  PART: memory: Add.
-/
namespace Go.Proofs.Ytkmhabbpndcnkaa
open Go.RowKit
noncomputable section
/-- One of two rows of cells. -/
def mixC (k : Nat) (c : Bool) (l m : List AV) : List AV := fit k (zipU (mux muxD c) l m)
theorem mixC_cells (c : Bool) (x y : It) : mixC 13 c x.cells y.cells = (if c = true then x else y).cells := by
  cases c <;> kernel_rfl
def lsR (l : List It) : List It := lstOf l.length (getI l)
def okR (l : List It) : Prop := RowOk l.length (getI l)
/-- An item, elsewhere. -/
def It.at (x : It) (k : Nat) : It := { x with loc := k }
def sizeOk (b n : Nat) : Prop := n * b ≤ maxAppend ∧ n ≤ maxAppend
/-- The row behind an Add: the cells. -/
def addG (l : List It) (x : It) (a : Int) : Nat → List AV := fun i =>
  mixC 13 (decide (i < a.toNat - 0 + 1)) (mixC 13 (decide (i < a.toNat - 0)) (getI l (0 + i)) x.cells) (getI l (a.toNat + (i - (a.toNat - 0 + 1))))
def addAt (l : List It) (x : It) : Int := findI (aheadI (itOf x.cells)) (lsR l)
def memS (m : PM) (s0 s1 s2 s3 : AV) : AV := .agg [iv m.n, s0, s1, s2, s3]
def newRow (l : List It) (x : It) (a : Int) : AV := .sl (a.toNat - 0 + 1 + ((l.length : Int).toNat - a.toNat)) 13 (addG l x a) false false
def lenI (l : List It) : Int := (l.length : Int)
def sMay (m : PM) (x : It) (b : Bool) (t : Tree AV) : Tree AV := .side (IsIt x.cells) <| .side ((!mayI m.n (itOf x.cells).loc (itOf x.cells).n (itOf x.cells).own (itOf x.cells).a (itOf x.cells).b (itOf x.cells).v (itOf x.cells).res) = b) t
def sMeet (l : List It) (x : It) (b : Bool) (t : Tree AV) : Tree AV := .side (okR l ∧ IsIt x.cells) <| .side (decide (findI (meetsI (itOf x.cells)) (lsR l) ≥ 0) = b) t
def sLen (l : List It) (b : Bool) (t : Tree AV) : Tree AV := .side (decide (lenI l ≥ 40) = b) t
def sAt (l : List It) (x : It) (b : Bool) (t : Tree AV) : Tree AV := .side (okR l ∧ IsIt x.cells) <| .side (decide (addAt l x < 0) = b) t
def sIn (l : List It) (x : It) (a : Int) (r : AV) : Tree AV :=
  .side (0 ≤ (0 : Int) ∧ (0 : Int) ≤ a ∧ a ≤ lenI l ∧ (true = true → a = a)) <| .side (sizeOk (Try.prog.bytesOf 102) (a.toNat - 0 + 1)) <|
  .side (0 ≤ a ∧ a ≤ lenI l ∧ lenI l ≤ lenI l ∧ (false = true → (0 : Int) = lenI l)) <| .side (sizeOk (Try.prog.bytesOf 102) (a.toNat - 0 + 1 + ((lenI l).toNat - a.toNat))) <| .ret r
def okRes (a : AV) (e : Int) : AV := .tup [a, .lit (.int .i64 e)]
theorem add0a (m : PM) (x : It) : ((evs (cxM2 (decM [(12,true)])) 60).call 57 [memA m, .agg (atC 0 (x.at 0))] .nil).frz = sMay m (x.at 0) true (.ret (okRes (memS m (rowI (m.l 0)) (rowI (m.l 1)) (rowI (m.l 2)) (rowI (m.l 3))) 1)) := by kernel_rfl
theorem add0b (m : PM) (x : It) : ((evs (cxM2 (decM [(12,false),(20,true)])) 60).call 57 [memA m, .agg (atC 0 (x.at 0))] .nil).frz = sMay m (x.at 0) false (sMeet (m.l 0) (x.at 0) true (.ret (okRes (memS m (rowI (m.l 0)) (rowI (m.l 1)) (rowI (m.l 2)) (rowI (m.l 3))) 5))) := by kernel_rfl
theorem add0c (m : PM) (x : It) : ((evs (cxM2 (decM [(12,false),(20,false),(25,true)])) 60).call 57 [memA m, .agg (atC 0 (x.at 0))] .nil).frz = sMay m (x.at 0) false (sMeet (m.l 0) (x.at 0) false (sLen (m.l 0) true (.ret (okRes (memS m (rowI (m.l 0)) (rowI (m.l 1)) (rowI (m.l 2)) (rowI (m.l 3))) 4)))) := by kernel_rfl
theorem add0d (m : PM) (x : It) : ((evs (cxM2 (decM [(12,false),(20,false),(25,false),(34,true)])) 60).call 57 [memA m, .agg (atC 0 (x.at 0))] .nil).frz = sMay m (x.at 0) false (sMeet (m.l 0) (x.at 0) false (sLen (m.l 0) false (sAt (m.l 0) (x.at 0) true (sIn (m.l 0) (x.at 0) (lenI (m.l 0)) (okRes (memS m (newRow (m.l 0) (x.at 0) (lenI (m.l 0))) (rowI (m.l 1)) (rowI (m.l 2)) (rowI (m.l 3))) 0))))) := by kernel_rfl
theorem add0e (m : PM) (x : It) : ((evs (cxM2 (decM [(12,false),(20,false),(25,false),(34,false)])) 60).call 57 [memA m, .agg (atC 0 (x.at 0))] .nil).frz = sMay m (x.at 0) false (sMeet (m.l 0) (x.at 0) false (sLen (m.l 0) false (sAt (m.l 0) (x.at 0) false (sIn (m.l 0) (x.at 0) (addAt (m.l 0) (x.at 0)) (okRes (memS m (newRow (m.l 0) (x.at 0) (addAt (m.l 0) (x.at 0))) (rowI (m.l 1)) (rowI (m.l 2)) (rowI (m.l 3))) 0))))) := by kernel_rfl
theorem add1a (m : PM) (x : It) : ((evs (cxM2 (decM [(12,true)])) 60).call 57 [memA m, .agg (atC 1 (x.at 1))] .nil).frz = sMay m (x.at 1) true (.ret (okRes (memS m (rowI (m.l 0)) (rowI (m.l 1)) (rowI (m.l 2)) (rowI (m.l 3))) 1)) := by kernel_rfl
theorem add1b (m : PM) (x : It) : ((evs (cxM2 (decM [(12,false),(20,true)])) 60).call 57 [memA m, .agg (atC 1 (x.at 1))] .nil).frz = sMay m (x.at 1) false (sMeet (m.l 1) (x.at 1) true (.ret (okRes (memS m (rowI (m.l 0)) (rowI (m.l 1)) (rowI (m.l 2)) (rowI (m.l 3))) 5))) := by kernel_rfl
theorem add1c (m : PM) (x : It) : ((evs (cxM2 (decM [(12,false),(20,false),(25,true)])) 60).call 57 [memA m, .agg (atC 1 (x.at 1))] .nil).frz = sMay m (x.at 1) false (sMeet (m.l 1) (x.at 1) false (sLen (m.l 1) true (.ret (okRes (memS m (rowI (m.l 0)) (rowI (m.l 1)) (rowI (m.l 2)) (rowI (m.l 3))) 4)))) := by kernel_rfl
theorem add1d (m : PM) (x : It) : ((evs (cxM2 (decM [(12,false),(20,false),(25,false),(34,true)])) 60).call 57 [memA m, .agg (atC 1 (x.at 1))] .nil).frz = sMay m (x.at 1) false (sMeet (m.l 1) (x.at 1) false (sLen (m.l 1) false (sAt (m.l 1) (x.at 1) true (sIn (m.l 1) (x.at 1) (lenI (m.l 1)) (okRes (memS m (rowI (m.l 0)) (newRow (m.l 1) (x.at 1) (lenI (m.l 1))) (rowI (m.l 2)) (rowI (m.l 3))) 0))))) := by kernel_rfl
theorem add1e (m : PM) (x : It) : ((evs (cxM2 (decM [(12,false),(20,false),(25,false),(34,false)])) 60).call 57 [memA m, .agg (atC 1 (x.at 1))] .nil).frz = sMay m (x.at 1) false (sMeet (m.l 1) (x.at 1) false (sLen (m.l 1) false (sAt (m.l 1) (x.at 1) false (sIn (m.l 1) (x.at 1) (addAt (m.l 1) (x.at 1)) (okRes (memS m (rowI (m.l 0)) (newRow (m.l 1) (x.at 1) (addAt (m.l 1) (x.at 1))) (rowI (m.l 2)) (rowI (m.l 3))) 0))))) := by kernel_rfl
theorem add2a (m : PM) (x : It) : ((evs (cxM2 (decM [(12,true)])) 60).call 57 [memA m, .agg (atC 2 (x.at 2))] .nil).frz = sMay m (x.at 2) true (.ret (okRes (memS m (rowI (m.l 0)) (rowI (m.l 1)) (rowI (m.l 2)) (rowI (m.l 3))) 1)) := by kernel_rfl
theorem add2b (m : PM) (x : It) : ((evs (cxM2 (decM [(12,false),(20,true)])) 60).call 57 [memA m, .agg (atC 2 (x.at 2))] .nil).frz = sMay m (x.at 2) false (sMeet (m.l 2) (x.at 2) true (.ret (okRes (memS m (rowI (m.l 0)) (rowI (m.l 1)) (rowI (m.l 2)) (rowI (m.l 3))) 5))) := by kernel_rfl
theorem add2c (m : PM) (x : It) : ((evs (cxM2 (decM [(12,false),(20,false),(25,true)])) 60).call 57 [memA m, .agg (atC 2 (x.at 2))] .nil).frz = sMay m (x.at 2) false (sMeet (m.l 2) (x.at 2) false (sLen (m.l 2) true (.ret (okRes (memS m (rowI (m.l 0)) (rowI (m.l 1)) (rowI (m.l 2)) (rowI (m.l 3))) 4)))) := by kernel_rfl
theorem add2d (m : PM) (x : It) : ((evs (cxM2 (decM [(12,false),(20,false),(25,false),(34,true)])) 60).call 57 [memA m, .agg (atC 2 (x.at 2))] .nil).frz = sMay m (x.at 2) false (sMeet (m.l 2) (x.at 2) false (sLen (m.l 2) false (sAt (m.l 2) (x.at 2) true (sIn (m.l 2) (x.at 2) (lenI (m.l 2)) (okRes (memS m (rowI (m.l 0)) (rowI (m.l 1)) (newRow (m.l 2) (x.at 2) (lenI (m.l 2))) (rowI (m.l 3))) 0))))) := by kernel_rfl
theorem add2e (m : PM) (x : It) : ((evs (cxM2 (decM [(12,false),(20,false),(25,false),(34,false)])) 60).call 57 [memA m, .agg (atC 2 (x.at 2))] .nil).frz = sMay m (x.at 2) false (sMeet (m.l 2) (x.at 2) false (sLen (m.l 2) false (sAt (m.l 2) (x.at 2) false (sIn (m.l 2) (x.at 2) (addAt (m.l 2) (x.at 2)) (okRes (memS m (rowI (m.l 0)) (rowI (m.l 1)) (newRow (m.l 2) (x.at 2) (addAt (m.l 2) (x.at 2))) (rowI (m.l 3))) 0))))) := by kernel_rfl
theorem add3a (m : PM) (x : It) : ((evs (cxM2 (decM [(12,true)])) 60).call 57 [memA m, .agg (atC 3 (x.at 3))] .nil).frz = sMay m (x.at 3) true (.ret (okRes (memS m (rowI (m.l 0)) (rowI (m.l 1)) (rowI (m.l 2)) (rowI (m.l 3))) 1)) := by kernel_rfl
theorem add3b (m : PM) (x : It) : ((evs (cxM2 (decM [(12,false),(20,true)])) 60).call 57 [memA m, .agg (atC 3 (x.at 3))] .nil).frz = sMay m (x.at 3) false (sMeet (m.l 3) (x.at 3) true (.ret (okRes (memS m (rowI (m.l 0)) (rowI (m.l 1)) (rowI (m.l 2)) (rowI (m.l 3))) 5))) := by kernel_rfl
theorem add3c (m : PM) (x : It) : ((evs (cxM2 (decM [(12,false),(20,false),(25,true)])) 60).call 57 [memA m, .agg (atC 3 (x.at 3))] .nil).frz = sMay m (x.at 3) false (sMeet (m.l 3) (x.at 3) false (sLen (m.l 3) true (.ret (okRes (memS m (rowI (m.l 0)) (rowI (m.l 1)) (rowI (m.l 2)) (rowI (m.l 3))) 4)))) := by kernel_rfl
theorem add3d (m : PM) (x : It) : ((evs (cxM2 (decM [(12,false),(20,false),(25,false),(34,true)])) 60).call 57 [memA m, .agg (atC 3 (x.at 3))] .nil).frz = sMay m (x.at 3) false (sMeet (m.l 3) (x.at 3) false (sLen (m.l 3) false (sAt (m.l 3) (x.at 3) true (sIn (m.l 3) (x.at 3) (lenI (m.l 3)) (okRes (memS m (rowI (m.l 0)) (rowI (m.l 1)) (rowI (m.l 2)) (newRow (m.l 3) (x.at 3) (lenI (m.l 3)))) 0))))) := by kernel_rfl
theorem add3e (m : PM) (x : It) : ((evs (cxM2 (decM [(12,false),(20,false),(25,false),(34,false)])) 60).call 57 [memA m, .agg (atC 3 (x.at 3))] .nil).frz = sMay m (x.at 3) false (sMeet (m.l 3) (x.at 3) false (sLen (m.l 3) false (sAt (m.l 3) (x.at 3) false (sIn (m.l 3) (x.at 3) (addAt (m.l 3) (x.at 3)) (okRes (memS m (rowI (m.l 0)) (rowI (m.l 1)) (rowI (m.l 2)) (newRow (m.l 3) (x.at 3) (addAt (m.l 3) (x.at 3)))) 0))))) := by kernel_rfl

theorem it_at {x : It} {k : Nat} (h : x.loc = k) : x.at k = x := by cases x; simp only [It.at] at *; rw [h]
theorem lsR_eq {l : List It} (h : OkL l) : lsR l = l := lstOf_getI h
theorem rep_lit {E : Env} {e : Int} {v : Value} (h : Rep E (.lit (.int .i64 e)) v) : Rep E (iv e) v := by cases h; exact .v _ rfl
/-- A memory read back. -/
theorem rep_memS {E : Env} {m m' : PM} {s0 s1 s2 s3 : AV} (hn : m.n = m'.n) (h0 : ∀ v, Rep E s0 v → Rep E (rowI (m'.l 0)) v) (h1 : ∀ v, Rep E s1 v → Rep E (rowI (m'.l 1)) v) (h2 : ∀ v, Rep E s2 v → Rep E (rowI (m'.l 2)) v) (h3 : ∀ v, Rep E s3 v → Rep E (rowI (m'.l 3)) v) {v : Value} (h : Rep E (memS m s0 s1 s2 s3) v) : Rep E (memA m') v := by
  obtain ⟨vs, rfl, hr, ho⟩ := Rep.agg_inv h
  refine Rep.agg_mk ?_ ho
  cases hr with | cons r0 t => cases t with | cons r1 t => cases t with | cons r2 t => cases t with | cons r3 t => cases t with | cons r4 t => cases t with | nil =>
  rw [hn] at r0
  exact .cons r0 (.cons (h0 _ r1) (.cons (h1 _ r2) (.cons (h2 _ r3) (.cons (h3 _ r4) .nil))))
theorem rep_okRes {E : Env} {a b : AV} {e : Int} (h : ∀ v, Rep E a v → Rep E b v) {v : Value} (hv : Rep E (okRes a e) v) : Rep E (.tup [b, iv e]) v := by
  obtain ⟨vs, rfl, hr⟩ := Rep.tup_inv hv
  cases hr with | cons r0 h' => cases h' with | cons r1 h' => cases h' with | nil =>
  exact Rep.tup_mk (.cons (h _ r0) (.cons (rep_lit r1) .nil))
theorem rep_old {E : Env} {m : PM} {v : Value} (h : Rep E (memS m (rowI (m.l 0)) (rowI (m.l 1)) (rowI (m.l 2)) (rowI (m.l 3))) v) : Rep E (memA m) v := h
theorem getD_mid {A B : List It} {x : It} {i : Nat} : (A ++ x :: B).getD i itz = if i < A.length then A.getD i itz else if i < A.length + 1 then x else B.getD (i - (A.length + 1)) itz := by
  by_cases h1 : i < A.length
  · rw [if_pos h1]; simp [List.getD, h1, List.getElem?_append_left h1]
  · rw [if_neg h1]
    by_cases h2 : i < A.length + 1
    · have : i = A.length := by omega
      subst this
      rw [if_pos h2]; simp [List.getD]
    · rw [if_neg h2]
      obtain ⟨j, rfl⟩ : ∃ j, i = A.length + 1 + j := ⟨i - (A.length + 1), by omega⟩
      have e1 : A.length + 1 + j = A.length + (j + 1) := by omega
      rw [show A.length + 1 + j - (A.length + 1) = j by omega, e1]
      simp [List.getD, List.getElem?_append_right]
theorem newRow_rep {l : List It} {x : It} {a : Int} (h0 : 0 ≤ a) (h1 : a ≤ l.length) {E : Env} {v : Value} (h : Rep E (newRow l x a) v) : Rep E (rowI (l.take a.toNat ++ x :: l.drop a.toNat)) v := by
  have hl : (l.take a.toNat).length = a.toNat := by rw [List.length_take]; omega
  have e : (l.take a.toNat ++ x :: l.drop a.toNat).length = a.toNat - 0 + 1 + ((l.length : Int).toNat - a.toNat) := by
    rw [List.length_append, List.length_cons, hl, List.length_drop]; omega
  show Rep E (.sl (l.take a.toNat ++ x :: l.drop a.toNat).length 13 (fun i => ((l.take a.toNat ++ x :: l.drop a.toNat).getD i itz).cells) false false) v
  rw [e]
  refine h.sl_congr fun i hi => ?_
  unfold addG getI
  rw [mixC_cells, mixC_cells, getD_mid, hl]
  congr 1
  by_cases c1 : i < a.toNat
  · rw [if_pos (by simpa using (show i < a.toNat - 0 + 1 by omega)), if_pos (by simpa using c1), if_pos c1]
    simp [List.getD, c1, List.getElem?_take]
  · rw [if_neg c1]
    by_cases c2 : i < a.toNat + 1
    · rw [if_pos (by simpa using c2), if_neg (by simpa using c1), if_pos c2]
    · rw [if_neg (by simpa using c2), if_neg c2]
      simp [List.getD, List.getElem?_drop]
/-- A memory in bounds. -/
def PmOk (m : PM) : Prop := ∀ i, i < 4 → OkL (m.l i)
theorem bytes102 : Try.prog.bytesOf 102 ≤ 200 := Nat.le_of_ble_eq_true (by kernel_rfl)
theorem sizeOk_of {n : Nat} (h : n ≤ 1000) : sizeOk (Try.prog.bytesOf 102) n := by
  have h2 : n * Try.prog.bytesOf 102 ≤ 1000 * 200 := Nat.mul_le_mul h bytes102
  have h3 : maxAppend = 1099511627776 := by decide
  unfold sizeOk
  omega
section
variable {m : PM} (hm : PmOk m) {x : It} (hx : x.Ok)
include hm hx
theorem sMay_wp {b : Bool} {t : Tree AV} {Q : AV → Prop} (h : mayI m.n x.loc x.n x.own x.a x.b x.v x.res = !b) (ht : t.wp Q) : (sMay m x b t).wp Q := by
  have _ := hm
  have _ := hx
  refine ⟨isIt hx, ?_, ht⟩
  rw [itOf_cells hx, h, Bool.not_not]
theorem sMeet_wp {k : Nat} (hk : k < 4) {b : Bool} {t : Tree AV} {Q : AV → Prop} (h : decide (0 ≤ findI (meetsI x) (m.l k)) = b) (ht : t.wp Q) : (sMeet (m.l k) x b t).wp Q := by
  refine ⟨⟨rowOk_getI (hm k hk), isIt hx⟩, ?_, ht⟩
  rw [itOf_cells hx, lsR_eq (hm k hk)]; exact h
theorem addAt_eq {k : Nat} (hk : k < 4) : addAt (m.l k) x = findI (aheadI x) (m.l k) := by
  unfold addAt
  rw [itOf_cells hx, lsR_eq (hm k hk)]
theorem sAt_wp {k : Nat} (hk : k < 4) {b : Bool} {t : Tree AV} {Q : AV → Prop} (h : decide (findI (aheadI x) (m.l k) < 0) = b) (ht : t.wp Q) : (sAt (m.l k) x b t).wp Q := by
  refine ⟨⟨rowOk_getI (hm k hk), isIt hx⟩, ?_, ht⟩
  rw [addAt_eq hm hx hk]; exact h
theorem sIn_wp {k : Nat} (hl : ¬ 40 ≤ (m.l k).length) {a : Int} (h0 : 0 ≤ a) (h1 : a ≤ (m.l k).length) {r : AV} {Q : AV → Prop} (hr : Q r) : (sIn (m.l k) x a r).wp Q := by
  have _ := hm
  have _ := hx
  have e : lenI (m.l k) = ((m.l k).length : Int) := rfl
  refine ⟨⟨by decide, h0, h1, fun _ => rfl⟩, sizeOk_of (by omega), ⟨h0, h1, Int.le_refl _, fun h => by cases h⟩, sizeOk_of (by rw [e]; omega), hr⟩
theorem add_frz0 (hk : x.loc = (0 : Nat)) : FrzOk Try.prog 57 [memA m, .agg (atC 0 x)] (.tup [memA (addM m x).1, iv (addM m x).2]) := by
  have hat := it_at hk
  have hkl : x.loc.toNat = 0 := by omega
  unfold addM
  rw [hkl]
  by_cases h1 : mayI m.n x.loc x.n x.own x.a x.b x.v x.res = false
  · rw [if_pos h1]
    have := add0a m x
    rw [hat] at this
    exact frz_ev (cxM2_ok _) fitTry this (sMay_wp hm hx h1 fun E v hv => rep_okRes (fun _ h => h) hv)
  · rw [if_neg h1]
    have h1 : mayI m.n x.loc x.n x.own x.a x.b x.v x.res = !false := by simpa using h1
    by_cases h2 : 0 ≤ findI (meetsI x) (m.l 0)
    · rw [if_pos h2]
      have := add0b m x
      rw [hat] at this
      exact frz_ev (cxM2_ok _) fitTry this (sMay_wp hm hx h1 (sMeet_wp hm hx (by decide) (decide_eq_true h2) fun E v hv => rep_okRes (fun _ h => h) hv))
    · rw [if_neg h2]
      by_cases h3 : 40 ≤ (m.l 0).length
      · rw [if_pos h3]
        have := add0c m x
        rw [hat] at this
        exact frz_ev (cxM2_ok _) fitTry this (sMay_wp hm hx h1 (sMeet_wp hm hx (by decide) (decide_eq_false h2) ⟨decide_eq_true (by show (40 : Int) ≤ ((m.l 0).length : Int); omega), fun E v hv => rep_okRes (fun _ h => h) hv⟩))
      · rw [if_neg h3]
        have h3' : decide (lenI (m.l 0) ≥ 40) = false := decide_eq_false (by show ¬ (40 : Int) ≤ ((m.l 0).length : Int); omega)
        by_cases h4 : findI (aheadI x) (m.l 0) < 0
        · have := add0d m x
          rw [hat] at this
          refine frz_ev (cxM2_ok _) fitTry this (sMay_wp hm hx h1 (sMeet_wp hm hx (by decide) (decide_eq_false h2) ⟨h3', sAt_wp hm hx (by decide) (decide_eq_true h4) (sIn_wp hm hx h3 (Int.natCast_nonneg _) (Int.le_refl _) fun E v hv => rep_okRes (b := memA ⟨m.n, fun i => if i = 0 then addP (m.l i) x else m.l i⟩) (fun v hv => rep_memS (m := m) (m' := ⟨m.n, fun i => if i = 0 then addP (m.l i) x else m.l i⟩) rfl ?_ ?_ ?_ ?_ hv) hv)⟩))
          all_goals intro v hv
          all_goals first
            | exact hv
            | (have h5 := newRow_rep (Int.natCast_nonneg _) (Int.le_refl _) hv
               have e : addP (m.l 0) x = (m.l 0).take ((m.l 0).length : Int).toNat ++ x :: (m.l 0).drop ((m.l 0).length : Int).toNat := by unfold addP; rw [if_pos h4, Int.toNat_natCast, List.take_length, List.drop_length]
               show Rep E (rowI (addP (m.l 0) x)) v
               rw [e]; exact h5)
        · have := add0e m x
          rw [hat, addAt_eq hm hx (by decide)] at this
          obtain ⟨A, y, B, q1, _, _, q2⟩ := findI_split (Int.not_lt.1 h4)
          have hle : findI (aheadI x) (m.l 0) ≤ (m.l 0).length := by rw [q2, q1]; simp; omega
          refine frz_ev (cxM2_ok _) fitTry this (sMay_wp hm hx h1 (sMeet_wp hm hx (by decide) (decide_eq_false h2) ⟨h3', sAt_wp hm hx (by decide) (decide_eq_false h4) (sIn_wp hm hx h3 (Int.not_lt.1 h4) hle fun E v hv => rep_okRes (b := memA ⟨m.n, fun i => if i = 0 then addP (m.l i) x else m.l i⟩) (fun v hv => rep_memS (m := m) (m' := ⟨m.n, fun i => if i = 0 then addP (m.l i) x else m.l i⟩) rfl ?_ ?_ ?_ ?_ hv) hv)⟩))
          all_goals intro v hv
          all_goals first
            | exact hv
            | (have h5 := newRow_rep (Int.not_lt.1 h4) hle hv
               have e : addP (m.l 0) x = (m.l 0).take (findI (aheadI x) (m.l 0)).toNat ++ x :: (m.l 0).drop (findI (aheadI x) (m.l 0)).toNat := by unfold addP; rw [if_neg h4]
               show Rep E (rowI (addP (m.l 0) x)) v
               rw [e]; exact h5)
theorem add_frz1 (hk : x.loc = (1 : Nat)) : FrzOk Try.prog 57 [memA m, .agg (atC 1 x)] (.tup [memA (addM m x).1, iv (addM m x).2]) := by
  have hat := it_at hk
  have hkl : x.loc.toNat = 1 := by omega
  unfold addM
  rw [hkl]
  by_cases h1 : mayI m.n x.loc x.n x.own x.a x.b x.v x.res = false
  · rw [if_pos h1]
    have := add1a m x
    rw [hat] at this
    exact frz_ev (cxM2_ok _) fitTry this (sMay_wp hm hx h1 fun E v hv => rep_okRes (fun _ h => h) hv)
  · rw [if_neg h1]
    have h1 : mayI m.n x.loc x.n x.own x.a x.b x.v x.res = !false := by simpa using h1
    by_cases h2 : 0 ≤ findI (meetsI x) (m.l 1)
    · rw [if_pos h2]
      have := add1b m x
      rw [hat] at this
      exact frz_ev (cxM2_ok _) fitTry this (sMay_wp hm hx h1 (sMeet_wp hm hx (by decide) (decide_eq_true h2) fun E v hv => rep_okRes (fun _ h => h) hv))
    · rw [if_neg h2]
      by_cases h3 : 40 ≤ (m.l 1).length
      · rw [if_pos h3]
        have := add1c m x
        rw [hat] at this
        exact frz_ev (cxM2_ok _) fitTry this (sMay_wp hm hx h1 (sMeet_wp hm hx (by decide) (decide_eq_false h2) ⟨decide_eq_true (by show (40 : Int) ≤ ((m.l 1).length : Int); omega), fun E v hv => rep_okRes (fun _ h => h) hv⟩))
      · rw [if_neg h3]
        have h3' : decide (lenI (m.l 1) ≥ 40) = false := decide_eq_false (by show ¬ (40 : Int) ≤ ((m.l 1).length : Int); omega)
        by_cases h4 : findI (aheadI x) (m.l 1) < 0
        · have := add1d m x
          rw [hat] at this
          refine frz_ev (cxM2_ok _) fitTry this (sMay_wp hm hx h1 (sMeet_wp hm hx (by decide) (decide_eq_false h2) ⟨h3', sAt_wp hm hx (by decide) (decide_eq_true h4) (sIn_wp hm hx h3 (Int.natCast_nonneg _) (Int.le_refl _) fun E v hv => rep_okRes (b := memA ⟨m.n, fun i => if i = 1 then addP (m.l i) x else m.l i⟩) (fun v hv => rep_memS (m := m) (m' := ⟨m.n, fun i => if i = 1 then addP (m.l i) x else m.l i⟩) rfl ?_ ?_ ?_ ?_ hv) hv)⟩))
          all_goals intro v hv
          all_goals first
            | exact hv
            | (have h5 := newRow_rep (Int.natCast_nonneg _) (Int.le_refl _) hv
               have e : addP (m.l 1) x = (m.l 1).take ((m.l 1).length : Int).toNat ++ x :: (m.l 1).drop ((m.l 1).length : Int).toNat := by unfold addP; rw [if_pos h4, Int.toNat_natCast, List.take_length, List.drop_length]
               show Rep E (rowI (addP (m.l 1) x)) v
               rw [e]; exact h5)
        · have := add1e m x
          rw [hat, addAt_eq hm hx (by decide)] at this
          obtain ⟨A, y, B, q1, _, _, q2⟩ := findI_split (Int.not_lt.1 h4)
          have hle : findI (aheadI x) (m.l 1) ≤ (m.l 1).length := by rw [q2, q1]; simp; omega
          refine frz_ev (cxM2_ok _) fitTry this (sMay_wp hm hx h1 (sMeet_wp hm hx (by decide) (decide_eq_false h2) ⟨h3', sAt_wp hm hx (by decide) (decide_eq_false h4) (sIn_wp hm hx h3 (Int.not_lt.1 h4) hle fun E v hv => rep_okRes (b := memA ⟨m.n, fun i => if i = 1 then addP (m.l i) x else m.l i⟩) (fun v hv => rep_memS (m := m) (m' := ⟨m.n, fun i => if i = 1 then addP (m.l i) x else m.l i⟩) rfl ?_ ?_ ?_ ?_ hv) hv)⟩))
          all_goals intro v hv
          all_goals first
            | exact hv
            | (have h5 := newRow_rep (Int.not_lt.1 h4) hle hv
               have e : addP (m.l 1) x = (m.l 1).take (findI (aheadI x) (m.l 1)).toNat ++ x :: (m.l 1).drop (findI (aheadI x) (m.l 1)).toNat := by unfold addP; rw [if_neg h4]
               show Rep E (rowI (addP (m.l 1) x)) v
               rw [e]; exact h5)
theorem add_frz2 (hk : x.loc = (2 : Nat)) : FrzOk Try.prog 57 [memA m, .agg (atC 2 x)] (.tup [memA (addM m x).1, iv (addM m x).2]) := by
  have hat := it_at hk
  have hkl : x.loc.toNat = 2 := by omega
  unfold addM
  rw [hkl]
  by_cases h1 : mayI m.n x.loc x.n x.own x.a x.b x.v x.res = false
  · rw [if_pos h1]
    have := add2a m x
    rw [hat] at this
    exact frz_ev (cxM2_ok _) fitTry this (sMay_wp hm hx h1 fun E v hv => rep_okRes (fun _ h => h) hv)
  · rw [if_neg h1]
    have h1 : mayI m.n x.loc x.n x.own x.a x.b x.v x.res = !false := by simpa using h1
    by_cases h2 : 0 ≤ findI (meetsI x) (m.l 2)
    · rw [if_pos h2]
      have := add2b m x
      rw [hat] at this
      exact frz_ev (cxM2_ok _) fitTry this (sMay_wp hm hx h1 (sMeet_wp hm hx (by decide) (decide_eq_true h2) fun E v hv => rep_okRes (fun _ h => h) hv))
    · rw [if_neg h2]
      by_cases h3 : 40 ≤ (m.l 2).length
      · rw [if_pos h3]
        have := add2c m x
        rw [hat] at this
        exact frz_ev (cxM2_ok _) fitTry this (sMay_wp hm hx h1 (sMeet_wp hm hx (by decide) (decide_eq_false h2) ⟨decide_eq_true (by show (40 : Int) ≤ ((m.l 2).length : Int); omega), fun E v hv => rep_okRes (fun _ h => h) hv⟩))
      · rw [if_neg h3]
        have h3' : decide (lenI (m.l 2) ≥ 40) = false := decide_eq_false (by show ¬ (40 : Int) ≤ ((m.l 2).length : Int); omega)
        by_cases h4 : findI (aheadI x) (m.l 2) < 0
        · have := add2d m x
          rw [hat] at this
          refine frz_ev (cxM2_ok _) fitTry this (sMay_wp hm hx h1 (sMeet_wp hm hx (by decide) (decide_eq_false h2) ⟨h3', sAt_wp hm hx (by decide) (decide_eq_true h4) (sIn_wp hm hx h3 (Int.natCast_nonneg _) (Int.le_refl _) fun E v hv => rep_okRes (b := memA ⟨m.n, fun i => if i = 2 then addP (m.l i) x else m.l i⟩) (fun v hv => rep_memS (m := m) (m' := ⟨m.n, fun i => if i = 2 then addP (m.l i) x else m.l i⟩) rfl ?_ ?_ ?_ ?_ hv) hv)⟩))
          all_goals intro v hv
          all_goals first
            | exact hv
            | (have h5 := newRow_rep (Int.natCast_nonneg _) (Int.le_refl _) hv
               have e : addP (m.l 2) x = (m.l 2).take ((m.l 2).length : Int).toNat ++ x :: (m.l 2).drop ((m.l 2).length : Int).toNat := by unfold addP; rw [if_pos h4, Int.toNat_natCast, List.take_length, List.drop_length]
               show Rep E (rowI (addP (m.l 2) x)) v
               rw [e]; exact h5)
        · have := add2e m x
          rw [hat, addAt_eq hm hx (by decide)] at this
          obtain ⟨A, y, B, q1, _, _, q2⟩ := findI_split (Int.not_lt.1 h4)
          have hle : findI (aheadI x) (m.l 2) ≤ (m.l 2).length := by rw [q2, q1]; simp; omega
          refine frz_ev (cxM2_ok _) fitTry this (sMay_wp hm hx h1 (sMeet_wp hm hx (by decide) (decide_eq_false h2) ⟨h3', sAt_wp hm hx (by decide) (decide_eq_false h4) (sIn_wp hm hx h3 (Int.not_lt.1 h4) hle fun E v hv => rep_okRes (b := memA ⟨m.n, fun i => if i = 2 then addP (m.l i) x else m.l i⟩) (fun v hv => rep_memS (m := m) (m' := ⟨m.n, fun i => if i = 2 then addP (m.l i) x else m.l i⟩) rfl ?_ ?_ ?_ ?_ hv) hv)⟩))
          all_goals intro v hv
          all_goals first
            | exact hv
            | (have h5 := newRow_rep (Int.not_lt.1 h4) hle hv
               have e : addP (m.l 2) x = (m.l 2).take (findI (aheadI x) (m.l 2)).toNat ++ x :: (m.l 2).drop (findI (aheadI x) (m.l 2)).toNat := by unfold addP; rw [if_neg h4]
               show Rep E (rowI (addP (m.l 2) x)) v
               rw [e]; exact h5)
theorem add_frz3 (hk : x.loc = (3 : Nat)) : FrzOk Try.prog 57 [memA m, .agg (atC 3 x)] (.tup [memA (addM m x).1, iv (addM m x).2]) := by
  have hat := it_at hk
  have hkl : x.loc.toNat = 3 := by omega
  unfold addM
  rw [hkl]
  by_cases h1 : mayI m.n x.loc x.n x.own x.a x.b x.v x.res = false
  · rw [if_pos h1]
    have := add3a m x
    rw [hat] at this
    exact frz_ev (cxM2_ok _) fitTry this (sMay_wp hm hx h1 fun E v hv => rep_okRes (fun _ h => h) hv)
  · rw [if_neg h1]
    have h1 : mayI m.n x.loc x.n x.own x.a x.b x.v x.res = !false := by simpa using h1
    by_cases h2 : 0 ≤ findI (meetsI x) (m.l 3)
    · rw [if_pos h2]
      have := add3b m x
      rw [hat] at this
      exact frz_ev (cxM2_ok _) fitTry this (sMay_wp hm hx h1 (sMeet_wp hm hx (by decide) (decide_eq_true h2) fun E v hv => rep_okRes (fun _ h => h) hv))
    · rw [if_neg h2]
      by_cases h3 : 40 ≤ (m.l 3).length
      · rw [if_pos h3]
        have := add3c m x
        rw [hat] at this
        exact frz_ev (cxM2_ok _) fitTry this (sMay_wp hm hx h1 (sMeet_wp hm hx (by decide) (decide_eq_false h2) ⟨decide_eq_true (by show (40 : Int) ≤ ((m.l 3).length : Int); omega), fun E v hv => rep_okRes (fun _ h => h) hv⟩))
      · rw [if_neg h3]
        have h3' : decide (lenI (m.l 3) ≥ 40) = false := decide_eq_false (by show ¬ (40 : Int) ≤ ((m.l 3).length : Int); omega)
        by_cases h4 : findI (aheadI x) (m.l 3) < 0
        · have := add3d m x
          rw [hat] at this
          refine frz_ev (cxM2_ok _) fitTry this (sMay_wp hm hx h1 (sMeet_wp hm hx (by decide) (decide_eq_false h2) ⟨h3', sAt_wp hm hx (by decide) (decide_eq_true h4) (sIn_wp hm hx h3 (Int.natCast_nonneg _) (Int.le_refl _) fun E v hv => rep_okRes (b := memA ⟨m.n, fun i => if i = 3 then addP (m.l i) x else m.l i⟩) (fun v hv => rep_memS (m := m) (m' := ⟨m.n, fun i => if i = 3 then addP (m.l i) x else m.l i⟩) rfl ?_ ?_ ?_ ?_ hv) hv)⟩))
          all_goals intro v hv
          all_goals first
            | exact hv
            | (have h5 := newRow_rep (Int.natCast_nonneg _) (Int.le_refl _) hv
               have e : addP (m.l 3) x = (m.l 3).take ((m.l 3).length : Int).toNat ++ x :: (m.l 3).drop ((m.l 3).length : Int).toNat := by unfold addP; rw [if_pos h4, Int.toNat_natCast, List.take_length, List.drop_length]
               show Rep E (rowI (addP (m.l 3) x)) v
               rw [e]; exact h5)
        · have := add3e m x
          rw [hat, addAt_eq hm hx (by decide)] at this
          obtain ⟨A, y, B, q1, _, _, q2⟩ := findI_split (Int.not_lt.1 h4)
          have hle : findI (aheadI x) (m.l 3) ≤ (m.l 3).length := by rw [q2, q1]; simp; omega
          refine frz_ev (cxM2_ok _) fitTry this (sMay_wp hm hx h1 (sMeet_wp hm hx (by decide) (decide_eq_false h2) ⟨h3', sAt_wp hm hx (by decide) (decide_eq_false h4) (sIn_wp hm hx h3 (Int.not_lt.1 h4) hle fun E v hv => rep_okRes (b := memA ⟨m.n, fun i => if i = 3 then addP (m.l i) x else m.l i⟩) (fun v hv => rep_memS (m := m) (m' := ⟨m.n, fun i => if i = 3 then addP (m.l i) x else m.l i⟩) rfl ?_ ?_ ?_ ?_ hv) hv)⟩))
          all_goals intro v hv
          all_goals first
            | exact hv
            | (have h5 := newRow_rep (Int.not_lt.1 h4) hle hv
               have e : addP (m.l 3) x = (m.l 3).take (findI (aheadI x) (m.l 3)).toNat ++ x :: (m.l 3).drop (findI (aheadI x) (m.l 3)).toNat := by unfold addP; rw [if_neg h4]
               show Rep E (rowI (addP (m.l 3) x)) v
               rw [e]; exact h5)
end
end
end Go.Proofs.Ytkmhabbpndcnkaa

/-
  PART: memory: Fulfil, Cancel, List, At.
-/
namespace Go.Proofs.Ytkmhabbpndcnkaa
open Go.RowKit
noncomputable section
def sLoc (m : PM) (loc : Int) (b : Bool) (t : Tree AV) : Tree AV := .side ((!locE m.n loc) = b) t
def oldM (m : PM) : AV := memS m (rowI (m.l 0)) (rowI (m.l 1)) (rowI (m.l 2)) (rowI (m.l 3))
def fAt (l : List It) (to owner : Int) (res : Bool) : Int := findI (findB to owner res) (lsR l)
def noneB (l : List It) (to owner : Int) (res : Bool) : Bool := if decide (fAt l to owner res < 0) = true then true else owner == -1
def sFind (l : List It) (to owner : Int) (res b : Bool) (t : Tree AV) : Tree AV := .side (okR l) <| .side (noneB l to owner res = b) t
def sClone (l : List It) (t : Tree AV) : Tree AV := .side (1 ≤ l.length) <| .side (sizeOk (Try.prog.bytesOf 102) (0 + l.length)) t
def fulG (l : List It) (a : Int) : Nat → List AV := fun j => mixC 13 (decide (j = a.toNat)) (splice (getI l a.toNat) 12 [.lit (.int .i64 (-1))]) (getI l j)
def fulRow (l : List It) (a : Int) : AV := .sl (0 + l.length) 13 (fulG l a) false false
def wr1 (a : Int) : Int := IntKind.i64.wrap (a + 1)
def restN (l : List It) (a : Int) : Nat := (lenI l).toNat - (wr1 a).toNat
def cutRow (l : List It) (a : Int) : AV := .sl (a.toNat - 0) 13 (fun i => getI l (0 + i)) false true
def canG (l : List It) (a : Int) : Nat → List AV := fun i => mixC 13 (decide (i < a.toNat - 0)) (getI l (0 + i)) (getI l ((wr1 a).toNat + (i - (a.toNat - 0))))
def canRow (l : List It) (a : Int) : AV := .sl (a.toNat - 0 + restN l a) 13 (canG l a) false false
def sCan (l : List It) (a : Int) (r1 r2 : AV) : Tree AV :=
  .side (0 ≤ (0 : Int) ∧ (0 : Int) ≤ a ∧ a ≤ lenI l ∧ (true = true → a = a)) <| .side (0 ≤ wr1 a ∧ wr1 a ≤ lenI l ∧ lenI l ≤ lenI l ∧ (false = true → (0 : Int) = lenI l)) <|
  .side (decide (restN l a = 0) = false → sizeOk (Try.prog.bytesOf 102) (a.toNat - 0 + restN l a)) <| .br (decide (restN l a = 0)) (.ret r1) (.ret r2)
def zItem : AV := .agg [.lit (.int .i64 0), .lit (.complex .f64 0 0), .lit (.int .u64 0), .lit (.int .i64 0), .lit (.int .i64 0), .lit (.int .i64 0), .lit (.int .i64 0), .lit (.int .i64 0), .lit (.int .i64 0), .lit (.int .i64 0), .lit (.int .i64 0), .lit (.bool false), .lit (.int .i64 0)]
def aAt (l : List It) (to : Int) : Int := findI (atP to) (lsR l)
def sAtI (l : List It) (to : Int) (b : Bool) (t : Tree AV) : Tree AV := .side (okR l) <| .side (decide (aAt l to < 0) = b) t
theorem ful_a (m : PM) (loc to owner : Int) : ((evs (cxM2 (decM [(15,true)])) 60).call 66 [memA m, iv loc, iv to, iv owner] .nil).frz = sLoc m loc true (.ret (okRes (oldM m) 1)) := by kernel_rfl
theorem can_a (m : PM) (loc to owner : Int) : ((evs (cxM2 (decM [(15,true)])) 60).call 68 [memA m, iv loc, iv to, iv owner] .nil).frz = sLoc m loc true (.ret (okRes (oldM m) 1)) := by kernel_rfl
theorem list_a (m : PM) (loc : Int) : ((evs (cxM2 (decM [(8,true)])) 60).call 55 [memA m, iv loc] .nil).frz = sLoc m loc true (.ret (.lit (.slice none 0 0))) := by kernel_rfl
theorem at_a (m : PM) (loc to : Int) : ((evs (cxM2 (decM [(12,true)])) 60).call 71 [memA m, iv loc, iv to] .nil).frz = sLoc m loc true (.ret (.tup [zItem, .lit (.bool false)])) := by kernel_rfl
theorem ful_b0 (m : PM) (to owner : Int) : ((evs (cxM2 (decM [(15,false),(27,true)])) 60).call 66 [memA m, (.lit (.int .i64 (0 : Nat))), iv to, iv owner] .nil).frz = sLoc m (0 : Nat) false (sFind (m.l 0) to owner false true (.ret (okRes (oldM m) 6))) := by kernel_rfl
theorem ful_c0 (m : PM) (to owner : Int) : ((evs (cxM2 (decM [(15,false),(27,false)])) 60).call 66 [memA m, (.lit (.int .i64 (0 : Nat))), iv to, iv owner] .nil).frz = sLoc m (0 : Nat) false (sFind (m.l 0) to owner false false (sClone (m.l 0) (.side (0 ≤ fAt (m.l 0) to owner false ∧ fAt (m.l 0) to owner false < ((0 + (m.l 0).length : Nat) : Int)) (.side ((fAt (m.l 0) to owner false).toNat < 0 + (m.l 0).length) (.ret (okRes (memS m (fulRow (m.l 0) (fAt (m.l 0) to owner false)) (rowI (m.l 1)) (rowI (m.l 2)) (rowI (m.l 3))) 0)))))) := by kernel_rfl
theorem can_b0 (m : PM) (to owner : Int) : ((evs (cxM2 (decM [(15,false),(27,true)])) 60).call 68 [memA m, (.lit (.int .i64 (0 : Nat))), iv to, iv owner] .nil).frz = sLoc m (0 : Nat) false (sFind (m.l 0) to owner true true (.ret (okRes (oldM m) 6))) := by kernel_rfl
theorem can_c0 (m : PM) (to owner : Int) : ((evs (cxM2 (decM [(15,false),(27,false)])) 60).call 68 [memA m, (.lit (.int .i64 (0 : Nat))), iv to, iv owner] .nil).frz = sLoc m (0 : Nat) false (sFind (m.l 0) to owner true false (sCan (m.l 0) (fAt (m.l 0) to owner true) (okRes (memS m (cutRow (m.l 0) (fAt (m.l 0) to owner true)) (rowI (m.l 1)) (rowI (m.l 2)) (rowI (m.l 3))) 0) (okRes (memS m (canRow (m.l 0) (fAt (m.l 0) to owner true)) (rowI (m.l 1)) (rowI (m.l 2)) (rowI (m.l 3))) 0))) := by kernel_rfl
theorem list_b0 (m : PM) : ((evs (cxM2 (decM [(8,false)])) 60).call 55 [memA m, (.lit (.int .i64 (0 : Nat)))] .nil).frz = sLoc m (0 : Nat) false (sClone (m.l 0) (.ret (.sl (0 + (m.l 0).length) 13 (getI (m.l 0)) false false))) := by kernel_rfl
theorem at_b0 (m : PM) (to : Int) : ((evs (cxM2 (decM [(12,false),(21,true)])) 60).call 71 [memA m, (.lit (.int .i64 (0 : Nat))), iv to] .nil).frz = sLoc m (0 : Nat) false (sAtI (m.l 0) to true (.ret (.tup [zItem, .lit (.bool false)]))) := by kernel_rfl
theorem at_c0 (m : PM) (to : Int) : ((evs (cxM2 (decM [(12,false),(21,false)])) 60).call 71 [memA m, (.lit (.int .i64 (0 : Nat))), iv to] .nil).frz = sLoc m (0 : Nat) false (sAtI (m.l 0) to false (.side (0 ≤ aAt (m.l 0) to ∧ aAt (m.l 0) to < lenI (m.l 0)) (.ret (.tup [.agg (getI (m.l 0) (aAt (m.l 0) to).toNat), .lit (.bool true)])))) := by kernel_rfl
theorem ful_b1 (m : PM) (to owner : Int) : ((evs (cxM2 (decM [(15,false),(27,true)])) 60).call 66 [memA m, (.lit (.int .i64 (1 : Nat))), iv to, iv owner] .nil).frz = sLoc m (1 : Nat) false (sFind (m.l 1) to owner false true (.ret (okRes (oldM m) 6))) := by kernel_rfl
theorem ful_c1 (m : PM) (to owner : Int) : ((evs (cxM2 (decM [(15,false),(27,false)])) 60).call 66 [memA m, (.lit (.int .i64 (1 : Nat))), iv to, iv owner] .nil).frz = sLoc m (1 : Nat) false (sFind (m.l 1) to owner false false (sClone (m.l 1) (.side (0 ≤ fAt (m.l 1) to owner false ∧ fAt (m.l 1) to owner false < ((0 + (m.l 1).length : Nat) : Int)) (.side ((fAt (m.l 1) to owner false).toNat < 0 + (m.l 1).length) (.ret (okRes (memS m (rowI (m.l 0)) (fulRow (m.l 1) (fAt (m.l 1) to owner false)) (rowI (m.l 2)) (rowI (m.l 3))) 0)))))) := by kernel_rfl
theorem can_b1 (m : PM) (to owner : Int) : ((evs (cxM2 (decM [(15,false),(27,true)])) 60).call 68 [memA m, (.lit (.int .i64 (1 : Nat))), iv to, iv owner] .nil).frz = sLoc m (1 : Nat) false (sFind (m.l 1) to owner true true (.ret (okRes (oldM m) 6))) := by kernel_rfl
theorem can_c1 (m : PM) (to owner : Int) : ((evs (cxM2 (decM [(15,false),(27,false)])) 60).call 68 [memA m, (.lit (.int .i64 (1 : Nat))), iv to, iv owner] .nil).frz = sLoc m (1 : Nat) false (sFind (m.l 1) to owner true false (sCan (m.l 1) (fAt (m.l 1) to owner true) (okRes (memS m (rowI (m.l 0)) (cutRow (m.l 1) (fAt (m.l 1) to owner true)) (rowI (m.l 2)) (rowI (m.l 3))) 0) (okRes (memS m (rowI (m.l 0)) (canRow (m.l 1) (fAt (m.l 1) to owner true)) (rowI (m.l 2)) (rowI (m.l 3))) 0))) := by kernel_rfl
theorem list_b1 (m : PM) : ((evs (cxM2 (decM [(8,false)])) 60).call 55 [memA m, (.lit (.int .i64 (1 : Nat)))] .nil).frz = sLoc m (1 : Nat) false (sClone (m.l 1) (.ret (.sl (0 + (m.l 1).length) 13 (getI (m.l 1)) false false))) := by kernel_rfl
theorem at_b1 (m : PM) (to : Int) : ((evs (cxM2 (decM [(12,false),(21,true)])) 60).call 71 [memA m, (.lit (.int .i64 (1 : Nat))), iv to] .nil).frz = sLoc m (1 : Nat) false (sAtI (m.l 1) to true (.ret (.tup [zItem, .lit (.bool false)]))) := by kernel_rfl
theorem at_c1 (m : PM) (to : Int) : ((evs (cxM2 (decM [(12,false),(21,false)])) 60).call 71 [memA m, (.lit (.int .i64 (1 : Nat))), iv to] .nil).frz = sLoc m (1 : Nat) false (sAtI (m.l 1) to false (.side (0 ≤ aAt (m.l 1) to ∧ aAt (m.l 1) to < lenI (m.l 1)) (.ret (.tup [.agg (getI (m.l 1) (aAt (m.l 1) to).toNat), .lit (.bool true)])))) := by kernel_rfl
theorem ful_b2 (m : PM) (to owner : Int) : ((evs (cxM2 (decM [(15,false),(27,true)])) 60).call 66 [memA m, (.lit (.int .i64 (2 : Nat))), iv to, iv owner] .nil).frz = sLoc m (2 : Nat) false (sFind (m.l 2) to owner false true (.ret (okRes (oldM m) 6))) := by kernel_rfl
theorem ful_c2 (m : PM) (to owner : Int) : ((evs (cxM2 (decM [(15,false),(27,false)])) 60).call 66 [memA m, (.lit (.int .i64 (2 : Nat))), iv to, iv owner] .nil).frz = sLoc m (2 : Nat) false (sFind (m.l 2) to owner false false (sClone (m.l 2) (.side (0 ≤ fAt (m.l 2) to owner false ∧ fAt (m.l 2) to owner false < ((0 + (m.l 2).length : Nat) : Int)) (.side ((fAt (m.l 2) to owner false).toNat < 0 + (m.l 2).length) (.ret (okRes (memS m (rowI (m.l 0)) (rowI (m.l 1)) (fulRow (m.l 2) (fAt (m.l 2) to owner false)) (rowI (m.l 3))) 0)))))) := by kernel_rfl
theorem can_b2 (m : PM) (to owner : Int) : ((evs (cxM2 (decM [(15,false),(27,true)])) 60).call 68 [memA m, (.lit (.int .i64 (2 : Nat))), iv to, iv owner] .nil).frz = sLoc m (2 : Nat) false (sFind (m.l 2) to owner true true (.ret (okRes (oldM m) 6))) := by kernel_rfl
theorem can_c2 (m : PM) (to owner : Int) : ((evs (cxM2 (decM [(15,false),(27,false)])) 60).call 68 [memA m, (.lit (.int .i64 (2 : Nat))), iv to, iv owner] .nil).frz = sLoc m (2 : Nat) false (sFind (m.l 2) to owner true false (sCan (m.l 2) (fAt (m.l 2) to owner true) (okRes (memS m (rowI (m.l 0)) (rowI (m.l 1)) (cutRow (m.l 2) (fAt (m.l 2) to owner true)) (rowI (m.l 3))) 0) (okRes (memS m (rowI (m.l 0)) (rowI (m.l 1)) (canRow (m.l 2) (fAt (m.l 2) to owner true)) (rowI (m.l 3))) 0))) := by kernel_rfl
theorem list_b2 (m : PM) : ((evs (cxM2 (decM [(8,false)])) 60).call 55 [memA m, (.lit (.int .i64 (2 : Nat)))] .nil).frz = sLoc m (2 : Nat) false (sClone (m.l 2) (.ret (.sl (0 + (m.l 2).length) 13 (getI (m.l 2)) false false))) := by kernel_rfl
theorem at_b2 (m : PM) (to : Int) : ((evs (cxM2 (decM [(12,false),(21,true)])) 60).call 71 [memA m, (.lit (.int .i64 (2 : Nat))), iv to] .nil).frz = sLoc m (2 : Nat) false (sAtI (m.l 2) to true (.ret (.tup [zItem, .lit (.bool false)]))) := by kernel_rfl
theorem at_c2 (m : PM) (to : Int) : ((evs (cxM2 (decM [(12,false),(21,false)])) 60).call 71 [memA m, (.lit (.int .i64 (2 : Nat))), iv to] .nil).frz = sLoc m (2 : Nat) false (sAtI (m.l 2) to false (.side (0 ≤ aAt (m.l 2) to ∧ aAt (m.l 2) to < lenI (m.l 2)) (.ret (.tup [.agg (getI (m.l 2) (aAt (m.l 2) to).toNat), .lit (.bool true)])))) := by kernel_rfl
theorem ful_b3 (m : PM) (to owner : Int) : ((evs (cxM2 (decM [(15,false),(27,true)])) 60).call 66 [memA m, (.lit (.int .i64 (3 : Nat))), iv to, iv owner] .nil).frz = sLoc m (3 : Nat) false (sFind (m.l 3) to owner false true (.ret (okRes (oldM m) 6))) := by kernel_rfl
theorem ful_c3 (m : PM) (to owner : Int) : ((evs (cxM2 (decM [(15,false),(27,false)])) 60).call 66 [memA m, (.lit (.int .i64 (3 : Nat))), iv to, iv owner] .nil).frz = sLoc m (3 : Nat) false (sFind (m.l 3) to owner false false (sClone (m.l 3) (.side (0 ≤ fAt (m.l 3) to owner false ∧ fAt (m.l 3) to owner false < ((0 + (m.l 3).length : Nat) : Int)) (.side ((fAt (m.l 3) to owner false).toNat < 0 + (m.l 3).length) (.ret (okRes (memS m (rowI (m.l 0)) (rowI (m.l 1)) (rowI (m.l 2)) (fulRow (m.l 3) (fAt (m.l 3) to owner false))) 0)))))) := by kernel_rfl
theorem can_b3 (m : PM) (to owner : Int) : ((evs (cxM2 (decM [(15,false),(27,true)])) 60).call 68 [memA m, (.lit (.int .i64 (3 : Nat))), iv to, iv owner] .nil).frz = sLoc m (3 : Nat) false (sFind (m.l 3) to owner true true (.ret (okRes (oldM m) 6))) := by kernel_rfl
theorem can_c3 (m : PM) (to owner : Int) : ((evs (cxM2 (decM [(15,false),(27,false)])) 60).call 68 [memA m, (.lit (.int .i64 (3 : Nat))), iv to, iv owner] .nil).frz = sLoc m (3 : Nat) false (sFind (m.l 3) to owner true false (sCan (m.l 3) (fAt (m.l 3) to owner true) (okRes (memS m (rowI (m.l 0)) (rowI (m.l 1)) (rowI (m.l 2)) (cutRow (m.l 3) (fAt (m.l 3) to owner true))) 0) (okRes (memS m (rowI (m.l 0)) (rowI (m.l 1)) (rowI (m.l 2)) (canRow (m.l 3) (fAt (m.l 3) to owner true))) 0))) := by kernel_rfl
theorem list_b3 (m : PM) : ((evs (cxM2 (decM [(8,false)])) 60).call 55 [memA m, (.lit (.int .i64 (3 : Nat)))] .nil).frz = sLoc m (3 : Nat) false (sClone (m.l 3) (.ret (.sl (0 + (m.l 3).length) 13 (getI (m.l 3)) false false))) := by kernel_rfl
theorem at_b3 (m : PM) (to : Int) : ((evs (cxM2 (decM [(12,false),(21,true)])) 60).call 71 [memA m, (.lit (.int .i64 (3 : Nat))), iv to] .nil).frz = sLoc m (3 : Nat) false (sAtI (m.l 3) to true (.ret (.tup [zItem, .lit (.bool false)]))) := by kernel_rfl
theorem at_c3 (m : PM) (to : Int) : ((evs (cxM2 (decM [(12,false),(21,false)])) 60).call 71 [memA m, (.lit (.int .i64 (3 : Nat))), iv to] .nil).frz = sLoc m (3 : Nat) false (sAtI (m.l 3) to false (.side (0 ≤ aAt (m.l 3) to ∧ aAt (m.l 3) to < lenI (m.l 3)) (.ret (.tup [.agg (getI (m.l 3) (aAt (m.l 3) to).toNat), .lit (.bool true)])))) := by kernel_rfl
end
end Go.Proofs.Ytkmhabbpndcnkaa

/-
  PART: memory: contracts of Fulfil, Cancel, List, At.
-/
namespace Go.Proofs.Ytkmhabbpndcnkaa
open Go.RowKit
noncomputable section
structure PmFit (m : PM) : Prop where
  n4 : m.n ≤ 4
  ok : PmOk m
  pos : ∀ i : Nat, (i : Int) < m.n → 1 ≤ (m.l i).length
  small : ∀ i, i < 4 → (m.l i).length ≤ 500
  non : ∀ i : Nat, (i : Int) < m.n → ∃ y ∈ m.l i, y.res = false
  out : ∀ i, 4 ≤ i → m.l i = []
theorem rep_lit_of {E : Env} {e : Int} {v : Value} (h : Rep E (iv e) v) : Rep E (.lit (.int .i64 e)) v := by cases h; exact .lit _ rfl
theorem rep_row0 {E : Env} {l : List It} {v : Value} (h : Rep E (.sl (0 + l.length) 13 (getI l) false false) v) : Rep E (rowI l) v := by
  rw [Nat.zero_add] at h; exact h
theorem rep_nilI {E : Env} {v : Value} (h : Rep E (.lit (.slice none 0 0)) v) : Rep E (rowI []) v := by
  cases h; exact .slNil rfl
theorem itz_ok : itz.Ok := ⟨Nat.zero_le _, Nat.zero_le _, fun _ _ => rfl⟩
theorem rep_open {E : Env} {x : Value} {v : Value} (h : Rep E (.lit x) v) : Rep E (.v x) v := by
  cases h with | lit _ ho => exact .v _ ho
theorem rep_zItem {E : Env} {v : Value} (h : Rep E zItem v) : Rep E (.agg itz.cells) v := by
  obtain ⟨vs, rfl, hr, ho⟩ := Rep.agg_inv h
  refine Rep.agg_mk ?_ ho
  have e : itz.cells = [iv 0, .v (.complex .f64 0 0), .v (.int .u64 0), iv 0, iv 0, iv 0, iv 0, iv 0, iv 0, iv 0, iv 0, .v (.bool false), iv 0] := by
    show itv 0 (.v (.complex .f64 (F 0) (F 0))) 0 (fun _ => 0) false 0 = _
    rw [F_zero]; rfl
  rw [e]
  exact genD_all 1 hr
theorem splice_own (x : It) : splice x.cells 12 [.lit (.int .i64 (-1))] = x.cells.take 12 ++ [.lit (.int .i64 (-1))] := rfl
theorem fulG_eq (c : Bool) (x y : It) : mixC 13 c (splice x.cells 12 [.lit (.int .i64 (-1))]) y.cells = (if c = true then { x with own := -1 } else y : It).cells := by
  cases c
  · kernel_rfl
  · kernel_rfl
theorem fulRow_rep {l : List It} {a : Int} (h0 : 0 ≤ a) (h1 : a < l.length) {E : Env} {v : Value} (h : Rep E (fulRow l a) v) : Rep E (rowI (l.modify a.toNat fun y => { y with own := -1 })) v := by
  show Rep E (.sl (l.modify a.toNat fun y => { y with own := -1 }).length 13 (fun i => ((l.modify a.toNat fun y => { y with own := -1 }).getD i itz).cells) false false) v
  rw [List.length_modify]
  have h' : Rep E (.sl (0 + l.length) 13 (fulG l a) false false) v := h
  rw [Nat.zero_add] at h'
  refine h'.sl_congr fun i hi => ?_
  unfold fulG getI
  rw [fulG_eq]
  congr 1
  simp only [List.getD, List.getElem?_modify]
  by_cases c : i = a.toNat
  · subst c
    simp [hi]
  · rw [if_neg (by simpa using c)]
    have : ¬ a.toNat = i := fun e => c e.symm
    simp [this]
theorem getD_app {A B : List It} {i : Nat} : (A ++ B).getD i itz = if i < A.length then A.getD i itz else B.getD (i - A.length) itz := by
  by_cases h1 : i < A.length
  · rw [if_pos h1]; simp [List.getD, List.getElem?_append_left h1]
  · rw [if_neg h1]; simp [List.getD, List.getElem?_append_right (Nat.not_lt.1 h1)]
theorem wr1_eq {l : List It} {a : Int} (h0 : 0 ≤ a) (h1 : a < l.length) (h2 : l.length ≤ 500) : wr1 a = a + 1 := IntWalk.i64_in _ (by omega)
theorem cutRow_rep {l : List It} {a : Int} (h0 : 0 ≤ a) (h1 : a < l.length) (h2 : l.length ≤ 500) (hr : restN l a = 0) {E : Env} {v : Value} (h : Rep E (cutRow l a) v) : Rep E (rowI (l.take a.toNat ++ l.drop (a.toNat + 1))) v := by
  have e1 : l.drop (a.toNat + 1) = [] := by
    apply List.drop_eq_nil_of_le
    unfold restN lenI at hr
    rw [wr1_eq h0 h1 h2] at hr
    omega
  rw [e1, List.append_nil]
  have e : (l.take a.toNat).length = a.toNat - 0 := by rw [List.length_take]; omega
  show Rep E (.sl (l.take a.toNat).length 13 (fun i => ((l.take a.toNat).getD i itz).cells) false false) v
  rw [e]
  refine h.sl_congr fun i hi => ?_
  unfold getI
  have : i < a.toNat := by omega
  simp [List.getD, List.getElem?_take, this]
theorem canRow_rep {l : List It} {a : Int} (h0 : 0 ≤ a) (h1 : a < l.length) (h2 : l.length ≤ 500) {E : Env} {v : Value} (h : Rep E (canRow l a) v) : Rep E (rowI (l.take a.toNat ++ l.drop (a.toNat + 1))) v := by
  have hw := wr1_eq h0 h1 h2
  have hl : (l.take a.toNat).length = a.toNat := by rw [List.length_take]; omega
  have e : (l.take a.toNat ++ l.drop (a.toNat + 1)).length = a.toNat - 0 + restN l a := by
    unfold restN lenI
    rw [hw, List.length_append, hl, List.length_drop]; omega
  show Rep E (.sl (l.take a.toNat ++ l.drop (a.toNat + 1)).length 13 (fun i => ((l.take a.toNat ++ l.drop (a.toNat + 1)).getD i itz).cells) false false) v
  rw [e]
  refine h.sl_congr fun i hi => ?_
  unfold canG getI
  rw [mixC_cells, getD_app, hl, hw]
  congr 1
  by_cases c : i < a.toNat
  · rw [if_pos (by simpa using c), if_pos c]
    simp [List.getD, c, List.getElem?_take]
  · rw [if_neg (by simpa using c), if_neg c]
    have e2 : (a + 1).toNat = a.toNat + 1 := by omega
    rw [e2]
    simp [List.getD, List.getElem?_drop]
theorem find_eq {l : List It} {f : It → Bool} (h : 0 ≤ findI f l) : l.find? f = some (l.getD (findI f l).toNat itz) := by
  obtain ⟨A, x, B, rfl, hx, hA, he⟩ := findI_split h
  rw [he, Int.toNat_natCast, getD_mid, if_neg (Nat.lt_irrefl _), if_pos (Nat.lt_succ_self _), List.find?_append, List.find?_cons, hx]
  rw [List.find?_eq_none.2 fun y hy => by simp [hA y hy]]
  rfl
theorem findI_lt {l : List It} {f : It → Bool} (h : 0 ≤ findI f l) : findI f l < l.length := by
  obtain ⟨A, x, B, rfl, hx, hA, he⟩ := findI_split h
  rw [he]; simp; omega
def optA (o : Option It) : AV := .tup [.agg (o.getD itz).cells, .v (.bool o.isSome)]
theorem rep_none {E : Env} {v : Value} (h : Rep E (.tup [zItem, .lit (.bool false)]) v) : Rep E (optA none) v := by
  obtain ⟨vs, rfl, hr⟩ := Rep.tup_inv h
  cases hr with | cons r0 t => cases t with | cons r1 t => cases t with | nil =>
  exact Rep.tup_mk (.cons (rep_zItem r0) (.cons (rep_open r1) .nil))
theorem rep_some {E : Env} {x : It} {v : Value} (h : Rep E (.tup [.agg x.cells, .lit (.bool true)]) v) : Rep E (optA (some x)) v := by
  obtain ⟨vs, rfl, hr⟩ := Rep.tup_inv h
  cases hr with | cons r0 t => cases t with | cons r1 t => cases t with | nil =>
  exact Rep.tup_mk (.cons r0 (.cons (rep_open r1) .nil))
section
variable {m : PM} (hm : PmFit m)
include hm
theorem sLoc_wp {loc : Int} {b : Bool} {t : Tree AV} {Q : AV → Prop} (h : locE m.n loc = !b) (ht : t.wp Q) : (sLoc m loc b t).wp Q := by
  have _ := hm
  exact ⟨by rw [h, Bool.not_not], ht⟩
theorem fAt_eq {k : Nat} (hk : k < 4) (to owner : Int) (res : Bool) : fAt (m.l k) to owner res = findI (findB to owner res) (m.l k) := by
  unfold fAt; rw [lsR_eq (hm.ok k hk)]
theorem sFind_wp {k : Nat} (hk : k < 4) {to owner : Int} {res b : Bool} {t : Tree AV} {Q : AV → Prop} (h : (findI (findB to owner res) (m.l k) < 0 ∨ owner = -1) ↔ b = true) (ht : t.wp Q) : (sFind (m.l k) to owner res b t).wp Q := by
  refine ⟨rowOk_getI (hm.ok k hk), ?_, ht⟩
  unfold noneB
  rw [fAt_eq hm hk]
  by_cases h1 : findI (findB to owner res) (m.l k) < 0
  · rw [if_pos (by simpa using h1)]; exact (h.1 (.inl h1)).symm
  · rw [if_neg (by simpa using h1)]
    cases b with
    | true =>
      rcases h.2 rfl with h2 | h2
      · exact absurd h2 h1
      · simpa using h2
    | false =>
      have : ¬ owner = -1 := fun e => by have := h.1 (.inr e); cases this
      simpa using this
theorem sClone_wp {k : Nat} (hk : k < 4) (hkn : (k : Int) < m.n) {t : Tree AV} {Q : AV → Prop} (ht : t.wp Q) : (sClone (m.l k) t).wp Q :=
  ⟨hm.pos k hkn, sizeOk_of (by have := hm.small k hk; omega), ht⟩
theorem aAt_eq {k : Nat} (hk : k < 4) (to : Int) : aAt (m.l k) to = findI (atP to) (m.l k) := by
  unfold aAt; rw [lsR_eq (hm.ok k hk)]
theorem sAtI_wp {k : Nat} (hk : k < 4) {to : Int} {b : Bool} {t : Tree AV} {Q : AV → Prop} (h : decide (findI (atP to) (m.l k) < 0) = b) (ht : t.wp Q) : (sAtI (m.l k) to b t).wp Q :=
  ⟨rowOk_getI (hm.ok k hk), by rw [aAt_eq hm hk]; exact h, ht⟩
theorem loc_cases {loc : Int} (h : locE m.n loc = true) : ∃ k : Nat, k < 4 ∧ loc = k ∧ (k : Int) < m.n := by
  unfold locE at h
  have hn := hm.n4
  split at h
  · rename_i h1
    have h1 := of_decide_eq_true h1
    have h2 := of_decide_eq_true h
    exact ⟨loc.toNat, by omega, by omega, by omega⟩
  · cases h
theorem ful_frz (loc to owner : Int) : FrzOk Try.prog 66 [memA m, iv loc, iv to, iv owner] (.tup [memA (fulM m loc to owner).1, iv (fulM m loc to owner).2]) := by
  cases hl : locE m.n loc with
  | false =>
    have e : fulM m loc to owner = (m, 1) := by unfold fulM; rw [if_pos hl]
    rw [e]
    exact frz_ev (cxM2_ok _) fitTry (ful_a m loc to owner) (sLoc_wp hm hl fun E v hv => rep_okRes (fun _ h => h) hv)
  | true =>
    obtain ⟨k, hk, rfl, hkn⟩ := loc_cases hm hl
    have : k = 0 ∨ k = 1 ∨ k = 2 ∨ k = 3 := by omega
    rcases this with rfl | rfl | rfl | rfl
    · by_cases h : findI (findB to owner false) (m.l 0) < 0 ∨ owner = -1
      · have e : fulM m ((0 : Nat) : Int) to owner = (m, 6) := by unfold fulM; rw [if_neg (by rw [hl]; simp)]; exact if_pos h
        rw [e]
        exact FrzOk.pre (frz_ev (cxM2_ok _) fitTry (ful_b0 m to owner) (sLoc_wp hm hl (sFind_wp hm hk ⟨fun _ => rfl, fun _ => h⟩ fun E v hv => rep_okRes (fun _ h => h) hv))) (fun E vs h => by cases h with | cons q1 h => cases h with | cons q2 h => exact .cons q1 (.cons (rep_lit_of q2) h))
      · have e : fulM m ((0 : Nat) : Int) to owner = (⟨m.n, fun i => if i = 0 then (m.l i).modify (findI (findB to owner false) (m.l 0)).toNat fun y => { y with own := -1 } else m.l i⟩, 0) := by unfold fulM; rw [if_neg (by rw [hl]; simp)]; exact if_neg h
        rw [e]
        have h0 : 0 ≤ findI (findB to owner false) (m.l 0) := by have : ¬ findI (findB to owner false) (m.l 0) < 0 := fun x => h (.inl x); omega
        have h1 := findI_lt h0
        have hb := ful_c0 m to owner
        rw [fAt_eq hm (by decide)] at hb
        refine FrzOk.pre (frz_ev (cxM2_ok _) fitTry hb (sLoc_wp hm hl (sFind_wp hm hk ⟨fun x => absurd x h, fun x => by cases x⟩ (sClone_wp hm hk hkn ⟨⟨h0, by omega⟩, by omega, fun E v hv => rep_okRes (b := memA ⟨m.n, fun i => if i = 0 then (m.l i).modify (findI (findB to owner false) (m.l 0)).toNat fun y => { y with own := -1 } else m.l i⟩) (fun v hv => rep_memS (m := m) (m' := ⟨m.n, fun i => if i = 0 then (m.l i).modify (findI (findB to owner false) (m.l 0)).toNat fun y => { y with own := -1 } else m.l i⟩) rfl ?_ ?_ ?_ ?_ hv) hv⟩)))) (fun E vs h => by cases h with | cons q1 h => cases h with | cons q2 h => exact .cons q1 (.cons (rep_lit_of q2) h))
        all_goals intro v hv
        all_goals first
          | exact hv
          | exact fulRow_rep h0 h1 hv
    · by_cases h : findI (findB to owner false) (m.l 1) < 0 ∨ owner = -1
      · have e : fulM m ((1 : Nat) : Int) to owner = (m, 6) := by unfold fulM; rw [if_neg (by rw [hl]; simp)]; exact if_pos h
        rw [e]
        exact FrzOk.pre (frz_ev (cxM2_ok _) fitTry (ful_b1 m to owner) (sLoc_wp hm hl (sFind_wp hm hk ⟨fun _ => rfl, fun _ => h⟩ fun E v hv => rep_okRes (fun _ h => h) hv))) (fun E vs h => by cases h with | cons q1 h => cases h with | cons q2 h => exact .cons q1 (.cons (rep_lit_of q2) h))
      · have e : fulM m ((1 : Nat) : Int) to owner = (⟨m.n, fun i => if i = 1 then (m.l i).modify (findI (findB to owner false) (m.l 1)).toNat fun y => { y with own := -1 } else m.l i⟩, 0) := by unfold fulM; rw [if_neg (by rw [hl]; simp)]; exact if_neg h
        rw [e]
        have h0 : 0 ≤ findI (findB to owner false) (m.l 1) := by have : ¬ findI (findB to owner false) (m.l 1) < 0 := fun x => h (.inl x); omega
        have h1 := findI_lt h0
        have hb := ful_c1 m to owner
        rw [fAt_eq hm (by decide)] at hb
        refine FrzOk.pre (frz_ev (cxM2_ok _) fitTry hb (sLoc_wp hm hl (sFind_wp hm hk ⟨fun x => absurd x h, fun x => by cases x⟩ (sClone_wp hm hk hkn ⟨⟨h0, by omega⟩, by omega, fun E v hv => rep_okRes (b := memA ⟨m.n, fun i => if i = 1 then (m.l i).modify (findI (findB to owner false) (m.l 1)).toNat fun y => { y with own := -1 } else m.l i⟩) (fun v hv => rep_memS (m := m) (m' := ⟨m.n, fun i => if i = 1 then (m.l i).modify (findI (findB to owner false) (m.l 1)).toNat fun y => { y with own := -1 } else m.l i⟩) rfl ?_ ?_ ?_ ?_ hv) hv⟩)))) (fun E vs h => by cases h with | cons q1 h => cases h with | cons q2 h => exact .cons q1 (.cons (rep_lit_of q2) h))
        all_goals intro v hv
        all_goals first
          | exact hv
          | exact fulRow_rep h0 h1 hv
    · by_cases h : findI (findB to owner false) (m.l 2) < 0 ∨ owner = -1
      · have e : fulM m ((2 : Nat) : Int) to owner = (m, 6) := by unfold fulM; rw [if_neg (by rw [hl]; simp)]; exact if_pos h
        rw [e]
        exact FrzOk.pre (frz_ev (cxM2_ok _) fitTry (ful_b2 m to owner) (sLoc_wp hm hl (sFind_wp hm hk ⟨fun _ => rfl, fun _ => h⟩ fun E v hv => rep_okRes (fun _ h => h) hv))) (fun E vs h => by cases h with | cons q1 h => cases h with | cons q2 h => exact .cons q1 (.cons (rep_lit_of q2) h))
      · have e : fulM m ((2 : Nat) : Int) to owner = (⟨m.n, fun i => if i = 2 then (m.l i).modify (findI (findB to owner false) (m.l 2)).toNat fun y => { y with own := -1 } else m.l i⟩, 0) := by unfold fulM; rw [if_neg (by rw [hl]; simp)]; exact if_neg h
        rw [e]
        have h0 : 0 ≤ findI (findB to owner false) (m.l 2) := by have : ¬ findI (findB to owner false) (m.l 2) < 0 := fun x => h (.inl x); omega
        have h1 := findI_lt h0
        have hb := ful_c2 m to owner
        rw [fAt_eq hm (by decide)] at hb
        refine FrzOk.pre (frz_ev (cxM2_ok _) fitTry hb (sLoc_wp hm hl (sFind_wp hm hk ⟨fun x => absurd x h, fun x => by cases x⟩ (sClone_wp hm hk hkn ⟨⟨h0, by omega⟩, by omega, fun E v hv => rep_okRes (b := memA ⟨m.n, fun i => if i = 2 then (m.l i).modify (findI (findB to owner false) (m.l 2)).toNat fun y => { y with own := -1 } else m.l i⟩) (fun v hv => rep_memS (m := m) (m' := ⟨m.n, fun i => if i = 2 then (m.l i).modify (findI (findB to owner false) (m.l 2)).toNat fun y => { y with own := -1 } else m.l i⟩) rfl ?_ ?_ ?_ ?_ hv) hv⟩)))) (fun E vs h => by cases h with | cons q1 h => cases h with | cons q2 h => exact .cons q1 (.cons (rep_lit_of q2) h))
        all_goals intro v hv
        all_goals first
          | exact hv
          | exact fulRow_rep h0 h1 hv
    · by_cases h : findI (findB to owner false) (m.l 3) < 0 ∨ owner = -1
      · have e : fulM m ((3 : Nat) : Int) to owner = (m, 6) := by unfold fulM; rw [if_neg (by rw [hl]; simp)]; exact if_pos h
        rw [e]
        exact FrzOk.pre (frz_ev (cxM2_ok _) fitTry (ful_b3 m to owner) (sLoc_wp hm hl (sFind_wp hm hk ⟨fun _ => rfl, fun _ => h⟩ fun E v hv => rep_okRes (fun _ h => h) hv))) (fun E vs h => by cases h with | cons q1 h => cases h with | cons q2 h => exact .cons q1 (.cons (rep_lit_of q2) h))
      · have e : fulM m ((3 : Nat) : Int) to owner = (⟨m.n, fun i => if i = 3 then (m.l i).modify (findI (findB to owner false) (m.l 3)).toNat fun y => { y with own := -1 } else m.l i⟩, 0) := by unfold fulM; rw [if_neg (by rw [hl]; simp)]; exact if_neg h
        rw [e]
        have h0 : 0 ≤ findI (findB to owner false) (m.l 3) := by have : ¬ findI (findB to owner false) (m.l 3) < 0 := fun x => h (.inl x); omega
        have h1 := findI_lt h0
        have hb := ful_c3 m to owner
        rw [fAt_eq hm (by decide)] at hb
        refine FrzOk.pre (frz_ev (cxM2_ok _) fitTry hb (sLoc_wp hm hl (sFind_wp hm hk ⟨fun x => absurd x h, fun x => by cases x⟩ (sClone_wp hm hk hkn ⟨⟨h0, by omega⟩, by omega, fun E v hv => rep_okRes (b := memA ⟨m.n, fun i => if i = 3 then (m.l i).modify (findI (findB to owner false) (m.l 3)).toNat fun y => { y with own := -1 } else m.l i⟩) (fun v hv => rep_memS (m := m) (m' := ⟨m.n, fun i => if i = 3 then (m.l i).modify (findI (findB to owner false) (m.l 3)).toNat fun y => { y with own := -1 } else m.l i⟩) rfl ?_ ?_ ?_ ?_ hv) hv⟩)))) (fun E vs h => by cases h with | cons q1 h => cases h with | cons q2 h => exact .cons q1 (.cons (rep_lit_of q2) h))
        all_goals intro v hv
        all_goals first
          | exact hv
          | exact fulRow_rep h0 h1 hv
theorem can_frz (loc to owner : Int) : FrzOk Try.prog 68 [memA m, iv loc, iv to, iv owner] (.tup [memA (canM m loc to owner).1, iv (canM m loc to owner).2]) := by
  cases hl : locE m.n loc with
  | false =>
    have e : canM m loc to owner = (m, 1) := by unfold canM; rw [if_pos hl]
    rw [e]
    exact frz_ev (cxM2_ok _) fitTry (can_a m loc to owner) (sLoc_wp hm hl fun E v hv => rep_okRes (fun _ h => h) hv)
  | true =>
    obtain ⟨k, hk, rfl, hkn⟩ := loc_cases hm hl
    have : k = 0 ∨ k = 1 ∨ k = 2 ∨ k = 3 := by omega
    rcases this with rfl | rfl | rfl | rfl
    · by_cases h : findI (findB to owner true) (m.l 0) < 0 ∨ owner = -1
      · have e : canM m ((0 : Nat) : Int) to owner = (m, 6) := by unfold canM; rw [if_neg (by rw [hl]; simp)]; exact if_pos h
        rw [e]
        exact FrzOk.pre (frz_ev (cxM2_ok _) fitTry (can_b0 m to owner) (sLoc_wp hm hl (sFind_wp hm hk ⟨fun _ => rfl, fun _ => h⟩ fun E v hv => rep_okRes (fun _ h => h) hv))) (fun E vs h => by cases h with | cons q1 h => cases h with | cons q2 h => exact .cons q1 (.cons (rep_lit_of q2) h))
      · have e : canM m ((0 : Nat) : Int) to owner = (⟨m.n, fun i => if i = 0 then (m.l i).take (findI (findB to owner true) (m.l 0)).toNat ++ (m.l i).drop ((findI (findB to owner true) (m.l 0)).toNat + 1) else m.l i⟩, 0) := by unfold canM; rw [if_neg (by rw [hl]; simp)]; exact if_neg h
        rw [e]
        have h0 : 0 ≤ findI (findB to owner true) (m.l 0) := by have : ¬ findI (findB to owner true) (m.l 0) < 0 := fun x => h (.inl x); omega
        have h1 := findI_lt h0
        have h2 := hm.small 0 (by decide)
        have hb := can_c0 m to owner
        rw [fAt_eq hm (by decide)] at hb
        have hw := wr1_eq h0 h1 h2
        refine FrzOk.pre (frz_ev (cxM2_ok _) fitTry hb (sLoc_wp hm hl (sFind_wp hm hk ⟨fun x => absurd x h, fun x => by cases x⟩ ⟨⟨by decide, h0, by unfold lenI; omega, fun _ => rfl⟩, ⟨by rw [hw]; omega, by rw [hw]; unfold lenI; omega, Int.le_refl _, fun x => by cases x⟩, fun _ => sizeOk_of (by unfold restN lenI; omega), fun hr => fun E v hv => rep_okRes (b := memA ⟨m.n, fun i => if i = 0 then (m.l i).take (findI (findB to owner true) (m.l 0)).toNat ++ (m.l i).drop ((findI (findB to owner true) (m.l 0)).toNat + 1) else m.l i⟩) (fun v hv => rep_memS (m := m) (m' := ⟨m.n, fun i => if i = 0 then (m.l i).take (findI (findB to owner true) (m.l 0)).toNat ++ (m.l i).drop ((findI (findB to owner true) (m.l 0)).toNat + 1) else m.l i⟩) rfl ?_ ?_ ?_ ?_ hv) hv, fun _ => fun E v hv => rep_okRes (b := memA ⟨m.n, fun i => if i = 0 then (m.l i).take (findI (findB to owner true) (m.l 0)).toNat ++ (m.l i).drop ((findI (findB to owner true) (m.l 0)).toNat + 1) else m.l i⟩) (fun v hv => rep_memS (m := m) (m' := ⟨m.n, fun i => if i = 0 then (m.l i).take (findI (findB to owner true) (m.l 0)).toNat ++ (m.l i).drop ((findI (findB to owner true) (m.l 0)).toNat + 1) else m.l i⟩) rfl ?_ ?_ ?_ ?_ hv) hv⟩))) (fun E vs h => by cases h with | cons q1 h => cases h with | cons q2 h => exact .cons q1 (.cons (rep_lit_of q2) h))
        all_goals intro v hv
        all_goals first
          | exact hv
          | exact cutRow_rep h0 h1 h2 (of_decide_eq_true hr) hv
          | exact canRow_rep h0 h1 h2 hv
    · by_cases h : findI (findB to owner true) (m.l 1) < 0 ∨ owner = -1
      · have e : canM m ((1 : Nat) : Int) to owner = (m, 6) := by unfold canM; rw [if_neg (by rw [hl]; simp)]; exact if_pos h
        rw [e]
        exact FrzOk.pre (frz_ev (cxM2_ok _) fitTry (can_b1 m to owner) (sLoc_wp hm hl (sFind_wp hm hk ⟨fun _ => rfl, fun _ => h⟩ fun E v hv => rep_okRes (fun _ h => h) hv))) (fun E vs h => by cases h with | cons q1 h => cases h with | cons q2 h => exact .cons q1 (.cons (rep_lit_of q2) h))
      · have e : canM m ((1 : Nat) : Int) to owner = (⟨m.n, fun i => if i = 1 then (m.l i).take (findI (findB to owner true) (m.l 1)).toNat ++ (m.l i).drop ((findI (findB to owner true) (m.l 1)).toNat + 1) else m.l i⟩, 0) := by unfold canM; rw [if_neg (by rw [hl]; simp)]; exact if_neg h
        rw [e]
        have h0 : 0 ≤ findI (findB to owner true) (m.l 1) := by have : ¬ findI (findB to owner true) (m.l 1) < 0 := fun x => h (.inl x); omega
        have h1 := findI_lt h0
        have h2 := hm.small 1 (by decide)
        have hb := can_c1 m to owner
        rw [fAt_eq hm (by decide)] at hb
        have hw := wr1_eq h0 h1 h2
        refine FrzOk.pre (frz_ev (cxM2_ok _) fitTry hb (sLoc_wp hm hl (sFind_wp hm hk ⟨fun x => absurd x h, fun x => by cases x⟩ ⟨⟨by decide, h0, by unfold lenI; omega, fun _ => rfl⟩, ⟨by rw [hw]; omega, by rw [hw]; unfold lenI; omega, Int.le_refl _, fun x => by cases x⟩, fun _ => sizeOk_of (by unfold restN lenI; omega), fun hr => fun E v hv => rep_okRes (b := memA ⟨m.n, fun i => if i = 1 then (m.l i).take (findI (findB to owner true) (m.l 1)).toNat ++ (m.l i).drop ((findI (findB to owner true) (m.l 1)).toNat + 1) else m.l i⟩) (fun v hv => rep_memS (m := m) (m' := ⟨m.n, fun i => if i = 1 then (m.l i).take (findI (findB to owner true) (m.l 1)).toNat ++ (m.l i).drop ((findI (findB to owner true) (m.l 1)).toNat + 1) else m.l i⟩) rfl ?_ ?_ ?_ ?_ hv) hv, fun _ => fun E v hv => rep_okRes (b := memA ⟨m.n, fun i => if i = 1 then (m.l i).take (findI (findB to owner true) (m.l 1)).toNat ++ (m.l i).drop ((findI (findB to owner true) (m.l 1)).toNat + 1) else m.l i⟩) (fun v hv => rep_memS (m := m) (m' := ⟨m.n, fun i => if i = 1 then (m.l i).take (findI (findB to owner true) (m.l 1)).toNat ++ (m.l i).drop ((findI (findB to owner true) (m.l 1)).toNat + 1) else m.l i⟩) rfl ?_ ?_ ?_ ?_ hv) hv⟩))) (fun E vs h => by cases h with | cons q1 h => cases h with | cons q2 h => exact .cons q1 (.cons (rep_lit_of q2) h))
        all_goals intro v hv
        all_goals first
          | exact hv
          | exact cutRow_rep h0 h1 h2 (of_decide_eq_true hr) hv
          | exact canRow_rep h0 h1 h2 hv
    · by_cases h : findI (findB to owner true) (m.l 2) < 0 ∨ owner = -1
      · have e : canM m ((2 : Nat) : Int) to owner = (m, 6) := by unfold canM; rw [if_neg (by rw [hl]; simp)]; exact if_pos h
        rw [e]
        exact FrzOk.pre (frz_ev (cxM2_ok _) fitTry (can_b2 m to owner) (sLoc_wp hm hl (sFind_wp hm hk ⟨fun _ => rfl, fun _ => h⟩ fun E v hv => rep_okRes (fun _ h => h) hv))) (fun E vs h => by cases h with | cons q1 h => cases h with | cons q2 h => exact .cons q1 (.cons (rep_lit_of q2) h))
      · have e : canM m ((2 : Nat) : Int) to owner = (⟨m.n, fun i => if i = 2 then (m.l i).take (findI (findB to owner true) (m.l 2)).toNat ++ (m.l i).drop ((findI (findB to owner true) (m.l 2)).toNat + 1) else m.l i⟩, 0) := by unfold canM; rw [if_neg (by rw [hl]; simp)]; exact if_neg h
        rw [e]
        have h0 : 0 ≤ findI (findB to owner true) (m.l 2) := by have : ¬ findI (findB to owner true) (m.l 2) < 0 := fun x => h (.inl x); omega
        have h1 := findI_lt h0
        have h2 := hm.small 2 (by decide)
        have hb := can_c2 m to owner
        rw [fAt_eq hm (by decide)] at hb
        have hw := wr1_eq h0 h1 h2
        refine FrzOk.pre (frz_ev (cxM2_ok _) fitTry hb (sLoc_wp hm hl (sFind_wp hm hk ⟨fun x => absurd x h, fun x => by cases x⟩ ⟨⟨by decide, h0, by unfold lenI; omega, fun _ => rfl⟩, ⟨by rw [hw]; omega, by rw [hw]; unfold lenI; omega, Int.le_refl _, fun x => by cases x⟩, fun _ => sizeOk_of (by unfold restN lenI; omega), fun hr => fun E v hv => rep_okRes (b := memA ⟨m.n, fun i => if i = 2 then (m.l i).take (findI (findB to owner true) (m.l 2)).toNat ++ (m.l i).drop ((findI (findB to owner true) (m.l 2)).toNat + 1) else m.l i⟩) (fun v hv => rep_memS (m := m) (m' := ⟨m.n, fun i => if i = 2 then (m.l i).take (findI (findB to owner true) (m.l 2)).toNat ++ (m.l i).drop ((findI (findB to owner true) (m.l 2)).toNat + 1) else m.l i⟩) rfl ?_ ?_ ?_ ?_ hv) hv, fun _ => fun E v hv => rep_okRes (b := memA ⟨m.n, fun i => if i = 2 then (m.l i).take (findI (findB to owner true) (m.l 2)).toNat ++ (m.l i).drop ((findI (findB to owner true) (m.l 2)).toNat + 1) else m.l i⟩) (fun v hv => rep_memS (m := m) (m' := ⟨m.n, fun i => if i = 2 then (m.l i).take (findI (findB to owner true) (m.l 2)).toNat ++ (m.l i).drop ((findI (findB to owner true) (m.l 2)).toNat + 1) else m.l i⟩) rfl ?_ ?_ ?_ ?_ hv) hv⟩))) (fun E vs h => by cases h with | cons q1 h => cases h with | cons q2 h => exact .cons q1 (.cons (rep_lit_of q2) h))
        all_goals intro v hv
        all_goals first
          | exact hv
          | exact cutRow_rep h0 h1 h2 (of_decide_eq_true hr) hv
          | exact canRow_rep h0 h1 h2 hv
    · by_cases h : findI (findB to owner true) (m.l 3) < 0 ∨ owner = -1
      · have e : canM m ((3 : Nat) : Int) to owner = (m, 6) := by unfold canM; rw [if_neg (by rw [hl]; simp)]; exact if_pos h
        rw [e]
        exact FrzOk.pre (frz_ev (cxM2_ok _) fitTry (can_b3 m to owner) (sLoc_wp hm hl (sFind_wp hm hk ⟨fun _ => rfl, fun _ => h⟩ fun E v hv => rep_okRes (fun _ h => h) hv))) (fun E vs h => by cases h with | cons q1 h => cases h with | cons q2 h => exact .cons q1 (.cons (rep_lit_of q2) h))
      · have e : canM m ((3 : Nat) : Int) to owner = (⟨m.n, fun i => if i = 3 then (m.l i).take (findI (findB to owner true) (m.l 3)).toNat ++ (m.l i).drop ((findI (findB to owner true) (m.l 3)).toNat + 1) else m.l i⟩, 0) := by unfold canM; rw [if_neg (by rw [hl]; simp)]; exact if_neg h
        rw [e]
        have h0 : 0 ≤ findI (findB to owner true) (m.l 3) := by have : ¬ findI (findB to owner true) (m.l 3) < 0 := fun x => h (.inl x); omega
        have h1 := findI_lt h0
        have h2 := hm.small 3 (by decide)
        have hb := can_c3 m to owner
        rw [fAt_eq hm (by decide)] at hb
        have hw := wr1_eq h0 h1 h2
        refine FrzOk.pre (frz_ev (cxM2_ok _) fitTry hb (sLoc_wp hm hl (sFind_wp hm hk ⟨fun x => absurd x h, fun x => by cases x⟩ ⟨⟨by decide, h0, by unfold lenI; omega, fun _ => rfl⟩, ⟨by rw [hw]; omega, by rw [hw]; unfold lenI; omega, Int.le_refl _, fun x => by cases x⟩, fun _ => sizeOk_of (by unfold restN lenI; omega), fun hr => fun E v hv => rep_okRes (b := memA ⟨m.n, fun i => if i = 3 then (m.l i).take (findI (findB to owner true) (m.l 3)).toNat ++ (m.l i).drop ((findI (findB to owner true) (m.l 3)).toNat + 1) else m.l i⟩) (fun v hv => rep_memS (m := m) (m' := ⟨m.n, fun i => if i = 3 then (m.l i).take (findI (findB to owner true) (m.l 3)).toNat ++ (m.l i).drop ((findI (findB to owner true) (m.l 3)).toNat + 1) else m.l i⟩) rfl ?_ ?_ ?_ ?_ hv) hv, fun _ => fun E v hv => rep_okRes (b := memA ⟨m.n, fun i => if i = 3 then (m.l i).take (findI (findB to owner true) (m.l 3)).toNat ++ (m.l i).drop ((findI (findB to owner true) (m.l 3)).toNat + 1) else m.l i⟩) (fun v hv => rep_memS (m := m) (m' := ⟨m.n, fun i => if i = 3 then (m.l i).take (findI (findB to owner true) (m.l 3)).toNat ++ (m.l i).drop ((findI (findB to owner true) (m.l 3)).toNat + 1) else m.l i⟩) rfl ?_ ?_ ?_ ?_ hv) hv⟩))) (fun E vs h => by cases h with | cons q1 h => cases h with | cons q2 h => exact .cons q1 (.cons (rep_lit_of q2) h))
        all_goals intro v hv
        all_goals first
          | exact hv
          | exact cutRow_rep h0 h1 h2 (of_decide_eq_true hr) hv
          | exact canRow_rep h0 h1 h2 hv
theorem list_frz (loc : Int) : FrzOk Try.prog 55 [memA m, iv loc] (rowI (listM m loc)) := by
  cases hl : locE m.n loc with
  | false =>
    have e : listM m loc = [] := by unfold listM; rw [if_neg (by rw [hl]; simp)]
    rw [e]
    exact frz_ev (cxM2_ok _) fitTry (list_a m loc) (sLoc_wp hm hl fun E v hv => rep_nilI hv)
  | true =>
    obtain ⟨k, hk, rfl, hkn⟩ := loc_cases hm hl
    have : k = 0 ∨ k = 1 ∨ k = 2 ∨ k = 3 := by omega
    rcases this with rfl | rfl | rfl | rfl
    · have e : listM m ((0 : Nat) : Int) = m.l 0 := by unfold listM; rw [if_pos hl]; rfl
      rw [e]
      exact FrzOk.pre (frz_ev (cxM2_ok _) fitTry (list_b0 m) (sLoc_wp hm hl (sClone_wp hm hk hkn fun E v hv => rep_row0 hv))) (fun E vs h => by cases h with | cons q1 h => cases h with | cons q2 h => exact .cons q1 (.cons (rep_lit_of q2) h))
    · have e : listM m ((1 : Nat) : Int) = m.l 1 := by unfold listM; rw [if_pos hl]; rfl
      rw [e]
      exact FrzOk.pre (frz_ev (cxM2_ok _) fitTry (list_b1 m) (sLoc_wp hm hl (sClone_wp hm hk hkn fun E v hv => rep_row0 hv))) (fun E vs h => by cases h with | cons q1 h => cases h with | cons q2 h => exact .cons q1 (.cons (rep_lit_of q2) h))
    · have e : listM m ((2 : Nat) : Int) = m.l 2 := by unfold listM; rw [if_pos hl]; rfl
      rw [e]
      exact FrzOk.pre (frz_ev (cxM2_ok _) fitTry (list_b2 m) (sLoc_wp hm hl (sClone_wp hm hk hkn fun E v hv => rep_row0 hv))) (fun E vs h => by cases h with | cons q1 h => cases h with | cons q2 h => exact .cons q1 (.cons (rep_lit_of q2) h))
    · have e : listM m ((3 : Nat) : Int) = m.l 3 := by unfold listM; rw [if_pos hl]; rfl
      rw [e]
      exact FrzOk.pre (frz_ev (cxM2_ok _) fitTry (list_b3 m) (sLoc_wp hm hl (sClone_wp hm hk hkn fun E v hv => rep_row0 hv))) (fun E vs h => by cases h with | cons q1 h => cases h with | cons q2 h => exact .cons q1 (.cons (rep_lit_of q2) h))
theorem at_frz (loc to : Int) : FrzOk Try.prog 71 [memA m, iv loc, iv to] (optA (atM m loc to)) := by
  cases hl : locE m.n loc with
  | false =>
    have e : atM m loc to = none := by unfold atM; rw [if_neg (by rw [hl]; simp)]
    rw [e]
    exact frz_ev (cxM2_ok _) fitTry (at_a m loc to) (sLoc_wp hm hl fun E v hv => rep_none hv)
  | true =>
    obtain ⟨k, hk, rfl, hkn⟩ := loc_cases hm hl
    have : k = 0 ∨ k = 1 ∨ k = 2 ∨ k = 3 := by omega
    rcases this with rfl | rfl | rfl | rfl
    · have e : atM m ((0 : Nat) : Int) to = (m.l 0).find? (atP to) := by unfold atM; rw [if_pos hl]; rfl
      rw [e]
      by_cases h : findI (atP to) (m.l 0) < 0
      · have e2 : (m.l 0).find? (atP to) = none := List.find?_eq_none.2 fun y hy => by simp [findI_neg.1 h y hy]
        rw [e2]
        exact FrzOk.pre (frz_ev (cxM2_ok _) fitTry (at_b0 m to) (sLoc_wp hm hl (sAtI_wp hm hk (decide_eq_true h) fun E v hv => rep_none hv))) (fun E vs h => by cases h with | cons q1 h => cases h with | cons q2 h => exact .cons q1 (.cons (rep_lit_of q2) h))
      · rw [find_eq (Int.not_lt.1 h)]
        have hb := at_c0 m to
        rw [aAt_eq hm (by decide)] at hb
        exact FrzOk.pre (frz_ev (cxM2_ok _) fitTry hb (sLoc_wp hm hl (sAtI_wp hm hk (decide_eq_false h) ⟨⟨Int.not_lt.1 h, findI_lt (Int.not_lt.1 h)⟩, fun E v hv => rep_some hv⟩))) (fun E vs h => by cases h with | cons q1 h => cases h with | cons q2 h => exact .cons q1 (.cons (rep_lit_of q2) h))
    · have e : atM m ((1 : Nat) : Int) to = (m.l 1).find? (atP to) := by unfold atM; rw [if_pos hl]; rfl
      rw [e]
      by_cases h : findI (atP to) (m.l 1) < 0
      · have e2 : (m.l 1).find? (atP to) = none := List.find?_eq_none.2 fun y hy => by simp [findI_neg.1 h y hy]
        rw [e2]
        exact FrzOk.pre (frz_ev (cxM2_ok _) fitTry (at_b1 m to) (sLoc_wp hm hl (sAtI_wp hm hk (decide_eq_true h) fun E v hv => rep_none hv))) (fun E vs h => by cases h with | cons q1 h => cases h with | cons q2 h => exact .cons q1 (.cons (rep_lit_of q2) h))
      · rw [find_eq (Int.not_lt.1 h)]
        have hb := at_c1 m to
        rw [aAt_eq hm (by decide)] at hb
        exact FrzOk.pre (frz_ev (cxM2_ok _) fitTry hb (sLoc_wp hm hl (sAtI_wp hm hk (decide_eq_false h) ⟨⟨Int.not_lt.1 h, findI_lt (Int.not_lt.1 h)⟩, fun E v hv => rep_some hv⟩))) (fun E vs h => by cases h with | cons q1 h => cases h with | cons q2 h => exact .cons q1 (.cons (rep_lit_of q2) h))
    · have e : atM m ((2 : Nat) : Int) to = (m.l 2).find? (atP to) := by unfold atM; rw [if_pos hl]; rfl
      rw [e]
      by_cases h : findI (atP to) (m.l 2) < 0
      · have e2 : (m.l 2).find? (atP to) = none := List.find?_eq_none.2 fun y hy => by simp [findI_neg.1 h y hy]
        rw [e2]
        exact FrzOk.pre (frz_ev (cxM2_ok _) fitTry (at_b2 m to) (sLoc_wp hm hl (sAtI_wp hm hk (decide_eq_true h) fun E v hv => rep_none hv))) (fun E vs h => by cases h with | cons q1 h => cases h with | cons q2 h => exact .cons q1 (.cons (rep_lit_of q2) h))
      · rw [find_eq (Int.not_lt.1 h)]
        have hb := at_c2 m to
        rw [aAt_eq hm (by decide)] at hb
        exact FrzOk.pre (frz_ev (cxM2_ok _) fitTry hb (sLoc_wp hm hl (sAtI_wp hm hk (decide_eq_false h) ⟨⟨Int.not_lt.1 h, findI_lt (Int.not_lt.1 h)⟩, fun E v hv => rep_some hv⟩))) (fun E vs h => by cases h with | cons q1 h => cases h with | cons q2 h => exact .cons q1 (.cons (rep_lit_of q2) h))
    · have e : atM m ((3 : Nat) : Int) to = (m.l 3).find? (atP to) := by unfold atM; rw [if_pos hl]; rfl
      rw [e]
      by_cases h : findI (atP to) (m.l 3) < 0
      · have e2 : (m.l 3).find? (atP to) = none := List.find?_eq_none.2 fun y hy => by simp [findI_neg.1 h y hy]
        rw [e2]
        exact FrzOk.pre (frz_ev (cxM2_ok _) fitTry (at_b3 m to) (sLoc_wp hm hl (sAtI_wp hm hk (decide_eq_true h) fun E v hv => rep_none hv))) (fun E vs h => by cases h with | cons q1 h => cases h with | cons q2 h => exact .cons q1 (.cons (rep_lit_of q2) h))
      · rw [find_eq (Int.not_lt.1 h)]
        have hb := at_c3 m to
        rw [aAt_eq hm (by decide)] at hb
        exact FrzOk.pre (frz_ev (cxM2_ok _) fitTry hb (sLoc_wp hm hl (sAtI_wp hm hk (decide_eq_false h) ⟨⟨Int.not_lt.1 h, findI_lt (Int.not_lt.1 h)⟩, fun E v hv => rep_some hv⟩))) (fun E vs h => by cases h with | cons q1 h => cases h with | cons q2 h => exact .cons q1 (.cons (rep_lit_of q2) h))
end
end
end Go.Proofs.Ytkmhabbpndcnkaa

/-
  PART: memory: Add of any item; Last, the parts of its run.
-/
namespace Go.Proofs.Ytkmhabbpndcnkaa
open Go.RowKit
noncomputable section
noncomputable def cxD (dec : Nat → St → Option Bool) : Cx := ⟨Try.prog, fun _ _ _ => none, dec⟩
theorem cxD_ok (dec : Nat → St → Option Bool) : CtrOk (cxD dec) := ⟨fun _ _ _ _ h => (by cases h), fun _ _ _ _ _ _ h => (by cases h)⟩
/-- An item with a span that may not be. -/
def badC (x : It) : List AV := [iv x.loc, .lit (.complex .f64 13830554455654793216 0), .v (.int .u64 x.n)] ++ ivs 8 x.v ++ [.v (.bool x.res), iv x.own]
theorem add_bad0 (m : PM) (x : It) : ((evs (cxD fun _ _ => none) 60).call 57 [memA m, .agg (badC x)] .nil).frz = .ret (okRes (oldM m) 1) := by kernel_rfl
theorem add_bad (m : PM) (x : It) : FrzOk Try.prog 57 [memA m, .agg (badC x)] (.tup [memA m, iv 1]) :=
  frz_ev (cxD_ok _) fitTry (add_bad0 m x) fun E v hv => rep_okRes (fun _ h => h) hv
theorem add_no (m : PM) (x : It) : ((evs (cxM2 (decM [(12,true)])) 60).call 57 [memA m, .agg x.cells] .nil).frz = sMay m x true (.ret (okRes (oldM m) 1)) := by kernel_rfl
theorem atC_rep {x : It} {k : Nat} (h : x.loc = k) {E : Env} {v : Value} (hv : Rep E (.agg x.cells) v) : Rep E (.agg (atC k x)) v := by
  obtain ⟨vs, rfl, hr, ho⟩ := Rep.agg_inv hv
  refine Rep.agg_mk ?_ ho
  have e : x.cells = iv x.loc :: x.cells.tail := rfl
  rw [e] at hr
  cases hr with | cons q1 t =>
  rw [h] at q1
  exact .cons (rep_lit_of q1) t
theorem add_frz {m : PM} (hm : PmFit m) {x : It} (hx : x.Ok) : FrzOk Try.prog 57 [memA m, .agg x.cells] (.tup [memA (addM m x).1, iv (addM m x).2]) := by
  by_cases h1 : mayI m.n x.loc x.n x.own x.a x.b x.v x.res = false
  · have e : addM m x = (m, 1) := by unfold addM; rw [if_pos h1]
    rw [e]
    exact frz_ev (cxM2_ok _) fitTry (add_no m x) (sMay_wp hm.ok hx h1 fun E v hv => rep_okRes (fun _ h => h) hv)
  · have hl : locE m.n x.loc = true := by
      cases e : locE m.n x.loc with
      | true => rfl
      | false => exact absurd (by unfold mayI; rw [e]; simp) h1
    obtain ⟨k, hk, hkl, _⟩ := loc_cases hm hl
    have hp : ∀ {k : Nat}, x.loc = k → ∀ E vs, Reps E [memA m, .agg x.cells] vs → Reps E [memA m, .agg (atC k x)] vs := fun hkl E vs h => by
      cases h with | cons q1 h => cases h with | cons q2 h => exact .cons q1 (.cons (atC_rep hkl q2) h)
    have : k = 0 ∨ k = 1 ∨ k = 2 ∨ k = 3 := by omega
    rcases this with rfl | rfl | rfl | rfl
    · exact (add_frz0 hm.ok hx hkl).pre (hp hkl)
    · exact (add_frz1 hm.ok hx hkl).pre (hp hkl)
    · exact (add_frz2 hm.ok hx hkl).pre (hp hkl)
    · exact (add_frz3 hm.ok hx hkl).pre (hp hkl)
noncomputable def c98 : Code := codeOf Try.f98
noncomputable def body98 : Code := cin (cin (cl (behind 4 c98)))
noncomputable def tail98 : Code := cr (behind 4 c98)
noncomputable def res98 : St → Option AV := resF Try.prog Try.f98.results.toList
def zCells : List AV := [iv 0, .v (.complex .f64 0 0), .v (.int .u64 0), iv 0, iv 0, iv 0, iv 0, iv 0, iv 0, iv 0, iv 0, .v (.bool false), iv 0]
def inv98 (l : List It) (a : Int) : St := { sl := [(4, .ptr 0 0), (6, rowI l), (7, iv a)], hp := [(0, some (.fix 102 zCells))], nx := 1, rd := [], wr := [], ws := [], wb := [] }
def ds98 : List (Nat × Bool) := [(4, false), (6, false), (7, true)]
theorem last_no (m : PM) (loc : Int) : ((evs (cxM2 (decM [(11,true)])) 60).call 98 [memA m, iv loc] .nil).frz = sLoc m loc true (.ret (.tup [zItem, .lit (.bool false)])) := by kernel_rfl
theorem code98 : c98 = seqs (firsts 4 c98) (.seq (.block 0 (.loop body98)) tail98) := by kernel_rfl
theorem pre98_0 (m : PM) : ((codeE (cxM2 (decM [(11,false)])) (evs (cxM2 (decM [(11,false)])) 60) (joins (firsts 4 c98)) (entry [memA m, .lit (.int .i64 (0 : Nat))])).map (lfR 0 ds98 true res98)) = .side ((!locE m.n (0 : Nat)) = false) (.ret (.go .norm (some (inv98 (m.l 0) (IntKind.i64.wrap (lenI (m.l 0) - 1)))))) := by kernel_rfl
theorem pre98_1 (m : PM) : ((codeE (cxM2 (decM [(11,false)])) (evs (cxM2 (decM [(11,false)])) 60) (joins (firsts 4 c98)) (entry [memA m, .lit (.int .i64 (1 : Nat))])).map (lfR 0 ds98 true res98)) = .side ((!locE m.n (1 : Nat)) = false) (.ret (.go .norm (some (inv98 (m.l 1) (IntKind.i64.wrap (lenI (m.l 1) - 1)))))) := by kernel_rfl
theorem pre98_2 (m : PM) : ((codeE (cxM2 (decM [(11,false)])) (evs (cxM2 (decM [(11,false)])) 60) (joins (firsts 4 c98)) (entry [memA m, .lit (.int .i64 (2 : Nat))])).map (lfR 0 ds98 true res98)) = .side ((!locE m.n (2 : Nat)) = false) (.ret (.go .norm (some (inv98 (m.l 2) (IntKind.i64.wrap (lenI (m.l 2) - 1)))))) := by kernel_rfl
theorem pre98_3 (m : PM) : ((codeE (cxM2 (decM [(11,false)])) (evs (cxM2 (decM [(11,false)])) 60) (joins (firsts 4 c98)) (entry [memA m, .lit (.int .i64 (3 : Nat))])).map (lfR 0 ds98 true res98)) = .side ((!locE m.n (3 : Nat)) = false) (.ret (.go .norm (some (inv98 (m.l 3) (IntKind.i64.wrap (lenI (m.l 3) - 1)))))) := by kernel_rfl
theorem round98 (l : List It) (a : Int) : ((codeE (cxM2 fun _ _ => none) (evs (cxM2 fun _ _ => none) 60) body98 (inv98 l a)).map (lfR 0 ds98 true res98)) =
    .side (0 ≤ a ∧ a < lenI l) (.br (l.getD a.toNat itz).res (.ret (.go .norm (some (inv98 l (IntKind.i64.wrap (a - 1)))))) (.ret (.go (.exit 0) (some (inv98 l a))))) := by kernel_rfl
theorem end98 (l : List It) (a : Int) : ((codeE (cxM2 fun _ _ => none) (evs (cxM2 fun _ _ => none) 60) tail98 (inv98 l a)).map (lfR 0 [] true res98)) =
    .side (0 ≤ a ∧ a < lenI l) (.ret (.out (.tup [.agg (l.getD a.toNat itz).cells, .lit (.bool true)]))) := by kernel_rfl
end
end Go.Proofs.Ytkmhabbpndcnkaa

/-
  PART: memory: the contract of Last.
-/
namespace Go.Proofs.Ytkmhabbpndcnkaa
open Go.RowKit
noncomputable section
theorem last_at {l : List It} {a : Nat} (h : a < l.length) (hn : (l.getD a itz).res = false) (hr : ∀ j, a < j → j < l.length → (l.getD j itz).res = true) : l.reverse.find? (fun x => !x.res) = some (l.getD a itz) := by
  have e : l = l.take a ++ l.getD a itz :: l.drop (a + 1) := by
    rw [show l.getD a itz = l[a] by simp [List.getD, h], List.getElem_cons_drop h, List.take_append_drop]
  rw [e, List.reverse_append, List.find?_append, List.reverse_cons, List.find?_append, List.find?_eq_none.2]
  · rw [getD_mid, if_neg (by rw [List.length_take]; omega), if_pos (by rw [List.length_take]; omega)]
    simp
    exact .inl hn
  · intro y hy
    rw [List.mem_reverse] at hy
    obtain ⟨i, hi, rfl⟩ := List.getElem_of_mem hy
    rw [List.length_drop] at hi
    have := hr (a + 1 + i) (by omega) (by omega)
    rw [List.getElem_drop]
    simpa [List.getD, show a + 1 + i < l.length by omega] using this
section
variable {m : PM} (hm : PmFit m) (hnon : ∀ i : Nat, (i : Int) < m.n → ∃ y ∈ m.l i, y.res = false)
include hm hnon
theorem last_in0 (hkn : ((0 : Nat) : Int) < m.n) : FrzOk Try.prog 98 [memA m, .lit (.int .i64 (0 : Nat))] (optA ((m.l 0).reverse.find? fun x => !x.res)) := by
  have hl : locE m.n ((0 : Nat) : Int) = true := by unfold locE; rw [if_pos (by decide)]; exact decide_eq_true hkn
  have hp := hm.pos 0 hkn
  have hs := hm.small 0 (by decide)
  obtain ⟨y, hy, hyr⟩ := hnon 0 hkn
  obtain ⟨q, hq, rfl⟩ := List.getElem_of_mem hy
  have hlen : lenI (m.l 0) = ((m.l 0).length : Int) := rfl
  let O : AV → Prop := fun a' => ∀ E v, Rep E a' v → Rep E (optA ((m.l 0).reverse.find? fun x => !x.res)) v
  refine frz_of_ends fitTry Try.func98 (c := c98) (by kernel_rfl) (Nat.le_of_ble_eq_true (by kernel_rfl)) (O := O) (fun E w hd hf => ?_) fun a' h => h
  rw [code98]
  refine wpc_stageR (cx := cxM2 (decM [(11,false)])) (n := 60) (ds := ds98) (gb := true) (res := res98) (O := O) (cxM2_ok _) fitTry (by simp [firsts]) (by kernel_rfl) ?_ ends_ret
  show ((codeE (cxM2 (decM [(11,false)])) (evs (cxM2 (decM [(11,false)])) 60) (joins (firsts 4 c98)) (entry [memA m, .lit (.int .i64 (0 : Nat))])).map (lfR 0 ds98 true res98)).wp _
  rw [pre98_0]
  refine ⟨by rw [hl]; rfl, ?_⟩
  refine wpc_bloopR (cx := cxM2 fun _ _ => none) (n := 60) (ds := ds98) (gb := true) (res := res98) (O := O) (cxM2_ok _) fitTry (fun a : Nat => inv98 (m.l 0) a) (fun a => a < (m.l 0).length ∧ ∀ j, a < j → j < (m.l 0).length → ((m.l 0).getD j itz).res = true) id (fun s => ∃ a : Nat, s = inv98 (m.l 0) a ∧ a < (m.l 0).length ∧ ((m.l 0).getD a itz).res = false ∧ ∀ j, a < j → j < (m.l 0).length → ((m.l 0).getD j itz).res = true) (by kernel_rfl) (fun a ha => ?_) ends_ret ((m.l 0).length - 1) ⟨by omega, fun j h1 h2 => by omega⟩ ?_ fun s hs => ?_
  · show ((codeE (cxM2 fun _ _ => none) (evs (cxM2 fun _ _ => none) 60) body98 (inv98 (m.l 0) a)).map (lfR 0 ds98 true res98)).wp _
    rw [round98]
    refine ⟨⟨by omega, by rw [hlen]; omega⟩, fun hr => ?_, fun hr => ⟨rfl, a, rfl, ha.1, by simpa using hr, ha.2⟩⟩
    have hr : ((m.l 0).getD a itz).res = true := by simpa using hr
    have ha0 : a ≠ 0 := by
      rintro rfl
      have : ((m.l 0).getD q itz).res = false := by simpa [List.getD, hq] using hyr
      by_cases e : q = 0
      · subst e; rw [hr] at this; cases this
      · rw [ha.2 q (by omega) hq] at this; cases this
    refine ⟨a - 1, ?_, ⟨by omega, fun j h1 h2 => ?_⟩, by show a - 1 < a; omega⟩
    · rw [IntWalk.i64_in _ (by omega)]
      congr 1; omega
    · by_cases e : j = a
      · subst e; exact hr
      · exact ha.2 j (by omega) h2
  · rw [IntWalk.i64_in _ (by rw [hlen]; omega)]
    congr 1; rw [hlen]; omega
  · obtain ⟨a, rfl, h1, h2, h3⟩ := hs
    refine wpc_of_lfR (cx := cxM2 fun _ _ => none) (n := 60) (ds := []) (gb := true) (res := res98) (O := O) (cxM2_ok _) fitTry (by kernel_rfl) ?_ ends_ret
    show ((codeE (cxM2 fun _ _ => none) (evs (cxM2 fun _ _ => none) 60) tail98 (inv98 (m.l 0) a)).map (lfR 0 [] true res98)).wp _
    rw [end98]
    refine ⟨⟨by omega, by rw [hlen]; omega⟩, fun E v hv => ?_⟩
    rw [last_at h1 h2 h3]
    exact rep_some hv
theorem last_in1 (hkn : ((1 : Nat) : Int) < m.n) : FrzOk Try.prog 98 [memA m, .lit (.int .i64 (1 : Nat))] (optA ((m.l 1).reverse.find? fun x => !x.res)) := by
  have hl : locE m.n ((1 : Nat) : Int) = true := by unfold locE; rw [if_pos (by decide)]; exact decide_eq_true hkn
  have hp := hm.pos 1 hkn
  have hs := hm.small 1 (by decide)
  obtain ⟨y, hy, hyr⟩ := hnon 1 hkn
  obtain ⟨q, hq, rfl⟩ := List.getElem_of_mem hy
  have hlen : lenI (m.l 1) = ((m.l 1).length : Int) := rfl
  let O : AV → Prop := fun a' => ∀ E v, Rep E a' v → Rep E (optA ((m.l 1).reverse.find? fun x => !x.res)) v
  refine frz_of_ends fitTry Try.func98 (c := c98) (by kernel_rfl) (Nat.le_of_ble_eq_true (by kernel_rfl)) (O := O) (fun E w hd hf => ?_) fun a' h => h
  rw [code98]
  refine wpc_stageR (cx := cxM2 (decM [(11,false)])) (n := 60) (ds := ds98) (gb := true) (res := res98) (O := O) (cxM2_ok _) fitTry (by simp [firsts]) (by kernel_rfl) ?_ ends_ret
  show ((codeE (cxM2 (decM [(11,false)])) (evs (cxM2 (decM [(11,false)])) 60) (joins (firsts 4 c98)) (entry [memA m, .lit (.int .i64 (1 : Nat))])).map (lfR 0 ds98 true res98)).wp _
  rw [pre98_1]
  refine ⟨by rw [hl]; rfl, ?_⟩
  refine wpc_bloopR (cx := cxM2 fun _ _ => none) (n := 60) (ds := ds98) (gb := true) (res := res98) (O := O) (cxM2_ok _) fitTry (fun a : Nat => inv98 (m.l 1) a) (fun a => a < (m.l 1).length ∧ ∀ j, a < j → j < (m.l 1).length → ((m.l 1).getD j itz).res = true) id (fun s => ∃ a : Nat, s = inv98 (m.l 1) a ∧ a < (m.l 1).length ∧ ((m.l 1).getD a itz).res = false ∧ ∀ j, a < j → j < (m.l 1).length → ((m.l 1).getD j itz).res = true) (by kernel_rfl) (fun a ha => ?_) ends_ret ((m.l 1).length - 1) ⟨by omega, fun j h1 h2 => by omega⟩ ?_ fun s hs => ?_
  · show ((codeE (cxM2 fun _ _ => none) (evs (cxM2 fun _ _ => none) 60) body98 (inv98 (m.l 1) a)).map (lfR 0 ds98 true res98)).wp _
    rw [round98]
    refine ⟨⟨by omega, by rw [hlen]; omega⟩, fun hr => ?_, fun hr => ⟨rfl, a, rfl, ha.1, by simpa using hr, ha.2⟩⟩
    have hr : ((m.l 1).getD a itz).res = true := by simpa using hr
    have ha0 : a ≠ 0 := by
      rintro rfl
      have : ((m.l 1).getD q itz).res = false := by simpa [List.getD, hq] using hyr
      by_cases e : q = 0
      · subst e; rw [hr] at this; cases this
      · rw [ha.2 q (by omega) hq] at this; cases this
    refine ⟨a - 1, ?_, ⟨by omega, fun j h1 h2 => ?_⟩, by show a - 1 < a; omega⟩
    · rw [IntWalk.i64_in _ (by omega)]
      congr 1; omega
    · by_cases e : j = a
      · subst e; exact hr
      · exact ha.2 j (by omega) h2
  · rw [IntWalk.i64_in _ (by rw [hlen]; omega)]
    congr 1; rw [hlen]; omega
  · obtain ⟨a, rfl, h1, h2, h3⟩ := hs
    refine wpc_of_lfR (cx := cxM2 fun _ _ => none) (n := 60) (ds := []) (gb := true) (res := res98) (O := O) (cxM2_ok _) fitTry (by kernel_rfl) ?_ ends_ret
    show ((codeE (cxM2 fun _ _ => none) (evs (cxM2 fun _ _ => none) 60) tail98 (inv98 (m.l 1) a)).map (lfR 0 [] true res98)).wp _
    rw [end98]
    refine ⟨⟨by omega, by rw [hlen]; omega⟩, fun E v hv => ?_⟩
    rw [last_at h1 h2 h3]
    exact rep_some hv
theorem last_in2 (hkn : ((2 : Nat) : Int) < m.n) : FrzOk Try.prog 98 [memA m, .lit (.int .i64 (2 : Nat))] (optA ((m.l 2).reverse.find? fun x => !x.res)) := by
  have hl : locE m.n ((2 : Nat) : Int) = true := by unfold locE; rw [if_pos (by decide)]; exact decide_eq_true hkn
  have hp := hm.pos 2 hkn
  have hs := hm.small 2 (by decide)
  obtain ⟨y, hy, hyr⟩ := hnon 2 hkn
  obtain ⟨q, hq, rfl⟩ := List.getElem_of_mem hy
  have hlen : lenI (m.l 2) = ((m.l 2).length : Int) := rfl
  let O : AV → Prop := fun a' => ∀ E v, Rep E a' v → Rep E (optA ((m.l 2).reverse.find? fun x => !x.res)) v
  refine frz_of_ends fitTry Try.func98 (c := c98) (by kernel_rfl) (Nat.le_of_ble_eq_true (by kernel_rfl)) (O := O) (fun E w hd hf => ?_) fun a' h => h
  rw [code98]
  refine wpc_stageR (cx := cxM2 (decM [(11,false)])) (n := 60) (ds := ds98) (gb := true) (res := res98) (O := O) (cxM2_ok _) fitTry (by simp [firsts]) (by kernel_rfl) ?_ ends_ret
  show ((codeE (cxM2 (decM [(11,false)])) (evs (cxM2 (decM [(11,false)])) 60) (joins (firsts 4 c98)) (entry [memA m, .lit (.int .i64 (2 : Nat))])).map (lfR 0 ds98 true res98)).wp _
  rw [pre98_2]
  refine ⟨by rw [hl]; rfl, ?_⟩
  refine wpc_bloopR (cx := cxM2 fun _ _ => none) (n := 60) (ds := ds98) (gb := true) (res := res98) (O := O) (cxM2_ok _) fitTry (fun a : Nat => inv98 (m.l 2) a) (fun a => a < (m.l 2).length ∧ ∀ j, a < j → j < (m.l 2).length → ((m.l 2).getD j itz).res = true) id (fun s => ∃ a : Nat, s = inv98 (m.l 2) a ∧ a < (m.l 2).length ∧ ((m.l 2).getD a itz).res = false ∧ ∀ j, a < j → j < (m.l 2).length → ((m.l 2).getD j itz).res = true) (by kernel_rfl) (fun a ha => ?_) ends_ret ((m.l 2).length - 1) ⟨by omega, fun j h1 h2 => by omega⟩ ?_ fun s hs => ?_
  · show ((codeE (cxM2 fun _ _ => none) (evs (cxM2 fun _ _ => none) 60) body98 (inv98 (m.l 2) a)).map (lfR 0 ds98 true res98)).wp _
    rw [round98]
    refine ⟨⟨by omega, by rw [hlen]; omega⟩, fun hr => ?_, fun hr => ⟨rfl, a, rfl, ha.1, by simpa using hr, ha.2⟩⟩
    have hr : ((m.l 2).getD a itz).res = true := by simpa using hr
    have ha0 : a ≠ 0 := by
      rintro rfl
      have : ((m.l 2).getD q itz).res = false := by simpa [List.getD, hq] using hyr
      by_cases e : q = 0
      · subst e; rw [hr] at this; cases this
      · rw [ha.2 q (by omega) hq] at this; cases this
    refine ⟨a - 1, ?_, ⟨by omega, fun j h1 h2 => ?_⟩, by show a - 1 < a; omega⟩
    · rw [IntWalk.i64_in _ (by omega)]
      congr 1; omega
    · by_cases e : j = a
      · subst e; exact hr
      · exact ha.2 j (by omega) h2
  · rw [IntWalk.i64_in _ (by rw [hlen]; omega)]
    congr 1; rw [hlen]; omega
  · obtain ⟨a, rfl, h1, h2, h3⟩ := hs
    refine wpc_of_lfR (cx := cxM2 fun _ _ => none) (n := 60) (ds := []) (gb := true) (res := res98) (O := O) (cxM2_ok _) fitTry (by kernel_rfl) ?_ ends_ret
    show ((codeE (cxM2 fun _ _ => none) (evs (cxM2 fun _ _ => none) 60) tail98 (inv98 (m.l 2) a)).map (lfR 0 [] true res98)).wp _
    rw [end98]
    refine ⟨⟨by omega, by rw [hlen]; omega⟩, fun E v hv => ?_⟩
    rw [last_at h1 h2 h3]
    exact rep_some hv
theorem last_in3 (hkn : ((3 : Nat) : Int) < m.n) : FrzOk Try.prog 98 [memA m, .lit (.int .i64 (3 : Nat))] (optA ((m.l 3).reverse.find? fun x => !x.res)) := by
  have hl : locE m.n ((3 : Nat) : Int) = true := by unfold locE; rw [if_pos (by decide)]; exact decide_eq_true hkn
  have hp := hm.pos 3 hkn
  have hs := hm.small 3 (by decide)
  obtain ⟨y, hy, hyr⟩ := hnon 3 hkn
  obtain ⟨q, hq, rfl⟩ := List.getElem_of_mem hy
  have hlen : lenI (m.l 3) = ((m.l 3).length : Int) := rfl
  let O : AV → Prop := fun a' => ∀ E v, Rep E a' v → Rep E (optA ((m.l 3).reverse.find? fun x => !x.res)) v
  refine frz_of_ends fitTry Try.func98 (c := c98) (by kernel_rfl) (Nat.le_of_ble_eq_true (by kernel_rfl)) (O := O) (fun E w hd hf => ?_) fun a' h => h
  rw [code98]
  refine wpc_stageR (cx := cxM2 (decM [(11,false)])) (n := 60) (ds := ds98) (gb := true) (res := res98) (O := O) (cxM2_ok _) fitTry (by simp [firsts]) (by kernel_rfl) ?_ ends_ret
  show ((codeE (cxM2 (decM [(11,false)])) (evs (cxM2 (decM [(11,false)])) 60) (joins (firsts 4 c98)) (entry [memA m, .lit (.int .i64 (3 : Nat))])).map (lfR 0 ds98 true res98)).wp _
  rw [pre98_3]
  refine ⟨by rw [hl]; rfl, ?_⟩
  refine wpc_bloopR (cx := cxM2 fun _ _ => none) (n := 60) (ds := ds98) (gb := true) (res := res98) (O := O) (cxM2_ok _) fitTry (fun a : Nat => inv98 (m.l 3) a) (fun a => a < (m.l 3).length ∧ ∀ j, a < j → j < (m.l 3).length → ((m.l 3).getD j itz).res = true) id (fun s => ∃ a : Nat, s = inv98 (m.l 3) a ∧ a < (m.l 3).length ∧ ((m.l 3).getD a itz).res = false ∧ ∀ j, a < j → j < (m.l 3).length → ((m.l 3).getD j itz).res = true) (by kernel_rfl) (fun a ha => ?_) ends_ret ((m.l 3).length - 1) ⟨by omega, fun j h1 h2 => by omega⟩ ?_ fun s hs => ?_
  · show ((codeE (cxM2 fun _ _ => none) (evs (cxM2 fun _ _ => none) 60) body98 (inv98 (m.l 3) a)).map (lfR 0 ds98 true res98)).wp _
    rw [round98]
    refine ⟨⟨by omega, by rw [hlen]; omega⟩, fun hr => ?_, fun hr => ⟨rfl, a, rfl, ha.1, by simpa using hr, ha.2⟩⟩
    have hr : ((m.l 3).getD a itz).res = true := by simpa using hr
    have ha0 : a ≠ 0 := by
      rintro rfl
      have : ((m.l 3).getD q itz).res = false := by simpa [List.getD, hq] using hyr
      by_cases e : q = 0
      · subst e; rw [hr] at this; cases this
      · rw [ha.2 q (by omega) hq] at this; cases this
    refine ⟨a - 1, ?_, ⟨by omega, fun j h1 h2 => ?_⟩, by show a - 1 < a; omega⟩
    · rw [IntWalk.i64_in _ (by omega)]
      congr 1; omega
    · by_cases e : j = a
      · subst e; exact hr
      · exact ha.2 j (by omega) h2
  · rw [IntWalk.i64_in _ (by rw [hlen]; omega)]
    congr 1; rw [hlen]; omega
  · obtain ⟨a, rfl, h1, h2, h3⟩ := hs
    refine wpc_of_lfR (cx := cxM2 fun _ _ => none) (n := 60) (ds := []) (gb := true) (res := res98) (O := O) (cxM2_ok _) fitTry (by kernel_rfl) ?_ ends_ret
    show ((codeE (cxM2 fun _ _ => none) (evs (cxM2 fun _ _ => none) 60) tail98 (inv98 (m.l 3) a)).map (lfR 0 [] true res98)).wp _
    rw [end98]
    refine ⟨⟨by omega, by rw [hlen]; omega⟩, fun E v hv => ?_⟩
    rw [last_at h1 h2 h3]
    exact rep_some hv
theorem last_frz (loc : Int) : FrzOk Try.prog 98 [memA m, iv loc] (optA (lastM m loc)) := by
  cases hl : locE m.n loc with
  | false =>
    have e : lastM m loc = none := by unfold lastM; rw [if_neg (by rw [hl]; simp)]
    rw [e]
    exact frz_ev (cxM2_ok _) fitTry (last_no m loc) (sLoc_wp hm hl fun E v hv => rep_none hv)
  | true =>
    obtain ⟨k, hk, rfl, hkn⟩ := loc_cases hm hl
    have e : lastM m (k : Int) = (m.l k).reverse.find? fun x => !x.res := by unfold lastM; rw [if_pos hl]; rfl
    rw [e]
    have hp : ∀ E vs, Reps E [memA m, iv (k : Int)] vs → Reps E [memA m, .lit (.int .i64 k)] vs := fun E vs h => by
      cases h with | cons q1 h => cases h with | cons q2 h => exact .cons q1 (.cons (rep_lit_of q2) h)
    have : k = 0 ∨ k = 1 ∨ k = 2 ∨ k = 3 := by omega
    rcases this with rfl | rfl | rfl | rfl
    · exact (last_in0 hm hnon hkn).pre hp
    · exact (last_in1 hm hnon hkn).pre hp
    · exact (last_in2 hm hnon hkn).pre hp
    · exact (last_in3 hm hnon hkn).pre hp
end
end
end Go.Proofs.Ytkmhabbpndcnkaa

/-
  PART: memory: Owned, the parts of its run.
-/
namespace Go.Proofs.Ytkmhabbpndcnkaa
open Go.RowKit
noncomputable section
noncomputable def c76 : Code := codeOf Try.f76
noncomputable def a76 : Code := cl (cl (behind 2 c76))
noncomputable def ob76 : Code := cin (cin (cr (cl (behind 2 c76))))
noncomputable def tail76 : Code := cr (behind 2 c76)
noncomputable def ib76 : Code := cin (cin (cr (cr (cin (cl (behind 2 ob76))))))
noncomputable def res76 : St → Option AV := resF Try.prog Try.f76.results.toList
theorem code76 : c76 = seqs (firsts 2 c76) (.seq (.seq a76 (.block 0 (.loop ob76))) tail76) := by kernel_rfl
theorem obody76 : ob76 = seqs (firsts 2 ob76) (.seq (.block 1 (seqs (firsts 2 (cin (cl (behind 2 ob76)))) (.block 2 (.loop ib76)))) (cr (behind 2 ob76))) := by kernel_rfl
def rowsA (m : PM) : AV := .agg [rowI (m.l 0), rowI (m.l 1), rowI (m.l 2), rowI (m.l 3)]
def ds76 : List (Nat × Bool) := [(1, false), (5, false), (11, false), (12, false)]
/-- Ahead of a round of the outer loop. -/
def inv76 (m : PM) (o : Int) (i : AV) (n : Nat) (out : List It) : St := { sl := [(1, iv o), (5, .own 0 n 13 false), (11, rowsA m), (12, i)], hp := [(0, some (.arr 102 n 13 (getI out)))], nx := 1, rd := [], wr := [], ws := [], wb := [] }
def dsi76 : List (Nat × Bool) := [(1, false), (5, false), (11, false), (12, false), (15, false), (16, false), (17, true)]
def inni76 (m : PM) (o : Int) (i : AV) (l : List It) (j : Int) (n : Nat) (out : List It) : St := { sl := [(1, iv o), (5, .own 0 n 13 false), (11, rowsA m), (12, i), (15, rowI l), (16, iv (lenI l)), (17, iv j)], hp := [(0, some (.arr 102 n 13 (getI out)))], nx := 1, rd := [], wr := [], ws := [], wb := [] }
def li (i : Nat) : AV := .lit (.int .i64 i)
def startS76 (m : PM) (o : Int) : St := { sl := [(1, iv o), (5, .lit (.slice none 0 0)), (2, .ptr 0 0)], hp := [(0, some (.fix 81 [iv m.n, rowI (m.l 0), rowI (m.l 1), rowI (m.l 2), rowI (m.l 3)]))], nx := 1, rd := [], wr := [], ws := [], wb := [] }
theorem pre76 (m : PM) (o : Int) : ((codeE (cxM2 fun _ _ => none) (evs (cxM2 fun _ _ => none) 60) (joins (firsts 2 c76)) (entry [memA m, iv o])).map (lfR 0 [(1, false), (5, false), (2, false)] true res76)) = .ret (.go .norm (some (startS76 m o))) := by kernel_rfl
def start76 (m : PM) (o : Int) : St := { sl := [(1, iv o), (5, .lit (.slice none 0 0)), (11, rowsA m), (12, li 0)], hp := [], nx := 0, rd := [], wr := [], ws := [], wb := [] }
theorem init76 (m : PM) (o : Int) : ((codeE (cxM2 fun _ _ => none) (evs (cxM2 fun _ _ => none) 60) a76 (startS76 m o)).map (lfR 0 ds76 false res76)) = .ret (.go .norm (some (start76 m o))) := by kernel_rfl
theorem nil76 (m : PM) (o : Int) : St.nilOwn? 0 ds76 5 102 13 (start76 m o) = some { sl := [(1, iv o), (5, .own 0 0 13 false), (11, rowsA m), (12, li 0)], hp := [(0, some (.arr 102 0 13 fun _ => fit 13 []))], nx := 1, rd := [], wr := [], ws := [], wb := [] } := by kernel_rfl
/-- A row with one more. -/
def appG (n : Nat) (out : List It) (x : It) : Nat → List AV := fun i => mixC 13 (decide (i < n)) (getI out i) x.cells
def inniA (m : PM) (o : Int) (i : AV) (l : List It) (j : Int) (n : Nat) (out : List It) (x : It) : St := { sl := [(1, iv o), (5, .own 0 (n + 1) 13 false), (11, rowsA m), (12, i), (15, rowI l), (16, iv (lenI l)), (17, iv j)], hp := [(0, some (.arr 102 (n + 1) 13 (appG n out x)))], nx := 1, rd := [], wr := [], ws := [], wb := [] }
def rnd76 (m : PM) (o : Int) (i : AV) (l : List It) (j : Int) (n : Nat) (out : List It) : Tree Lf := .br (decide (j < lenI l))
  (.side (0 ≤ j ∧ j < lenI l) (.side (((l.getD j.toNat itz).own == o) = true → sizeOk (Try.prog.bytesOf 102) (n + 1)) (.br ((l.getD j.toNat itz).own == o) (.ret (.go .norm (some (inniA m o i l (IntKind.i64.wrap (j + 1)) n out (l.getD j.toNat itz))))) (.ret (.go .norm (some (inni76 m o i l (IntKind.i64.wrap (j + 1)) n out)))))))
  (.ret (.go (.exit 2) (some (inni76 m o i l j n out))))
theorem top76_0 (m : PM) (o : Int) (n : Nat) (out : List It) : ((codeE (cxM2 fun _ _ => none) (evs (cxM2 fun _ _ => none) 60) (joins (firsts 2 ob76)) (inv76 m o (li 0) n out)).map (lfR 0 ds76 false res76)) = .ret (.go .norm (some (inv76 m o (li 0) n out))) := by kernel_rfl
theorem in76_0 (m : PM) (o : Int) (n : Nat) (out : List It) : ((codeE (cxM2 fun _ _ => none) (evs (cxM2 fun _ _ => none) 60) (joins (firsts 2 (cin (cl (behind 2 ob76))))) (inv76 m o (li 0) n out)).map (lfR 0 dsi76 false res76)) = .ret (.go .norm (some (inni76 m o (li 0) (m.l 0) 0 n out))) := by kernel_rfl
theorem rnd76_0 (m : PM) (o : Int) (j : Int) (n : Nat) (out : List It) : ((codeE (cxM2 fun _ _ => none) (evs (cxM2 fun _ _ => none) 60) ib76 (inni76 m o (li 0) (m.l 0) j n out)).map (lfR 0 dsi76 false res76)) = rnd76 m o (li 0) (m.l 0) j n out := by kernel_rfl
theorem nxt76_0 (m : PM) (o : Int) (j : Int) (n : Nat) (out : List It) : ((codeE (cxM2 fun _ _ => none) (evs (cxM2 fun _ _ => none) 60) (cr (behind 2 ob76)) (inni76 m o (li 0) (m.l 0) j n out)).map (lfR 0 ds76 false res76)) = .ret (.go .norm (some (inv76 m o (li 1) n out))) := by kernel_rfl
theorem top76_1 (m : PM) (o : Int) (n : Nat) (out : List It) : ((codeE (cxM2 fun _ _ => none) (evs (cxM2 fun _ _ => none) 60) (joins (firsts 2 ob76)) (inv76 m o (li 1) n out)).map (lfR 0 ds76 false res76)) = .ret (.go .norm (some (inv76 m o (li 1) n out))) := by kernel_rfl
theorem in76_1 (m : PM) (o : Int) (n : Nat) (out : List It) : ((codeE (cxM2 fun _ _ => none) (evs (cxM2 fun _ _ => none) 60) (joins (firsts 2 (cin (cl (behind 2 ob76))))) (inv76 m o (li 1) n out)).map (lfR 0 dsi76 false res76)) = .ret (.go .norm (some (inni76 m o (li 1) (m.l 1) 0 n out))) := by kernel_rfl
theorem rnd76_1 (m : PM) (o : Int) (j : Int) (n : Nat) (out : List It) : ((codeE (cxM2 fun _ _ => none) (evs (cxM2 fun _ _ => none) 60) ib76 (inni76 m o (li 1) (m.l 1) j n out)).map (lfR 0 dsi76 false res76)) = rnd76 m o (li 1) (m.l 1) j n out := by kernel_rfl
theorem nxt76_1 (m : PM) (o : Int) (j : Int) (n : Nat) (out : List It) : ((codeE (cxM2 fun _ _ => none) (evs (cxM2 fun _ _ => none) 60) (cr (behind 2 ob76)) (inni76 m o (li 1) (m.l 1) j n out)).map (lfR 0 ds76 false res76)) = .ret (.go .norm (some (inv76 m o (li 2) n out))) := by kernel_rfl
theorem top76_2 (m : PM) (o : Int) (n : Nat) (out : List It) : ((codeE (cxM2 fun _ _ => none) (evs (cxM2 fun _ _ => none) 60) (joins (firsts 2 ob76)) (inv76 m o (li 2) n out)).map (lfR 0 ds76 false res76)) = .ret (.go .norm (some (inv76 m o (li 2) n out))) := by kernel_rfl
theorem in76_2 (m : PM) (o : Int) (n : Nat) (out : List It) : ((codeE (cxM2 fun _ _ => none) (evs (cxM2 fun _ _ => none) 60) (joins (firsts 2 (cin (cl (behind 2 ob76))))) (inv76 m o (li 2) n out)).map (lfR 0 dsi76 false res76)) = .ret (.go .norm (some (inni76 m o (li 2) (m.l 2) 0 n out))) := by kernel_rfl
theorem rnd76_2 (m : PM) (o : Int) (j : Int) (n : Nat) (out : List It) : ((codeE (cxM2 fun _ _ => none) (evs (cxM2 fun _ _ => none) 60) ib76 (inni76 m o (li 2) (m.l 2) j n out)).map (lfR 0 dsi76 false res76)) = rnd76 m o (li 2) (m.l 2) j n out := by kernel_rfl
theorem nxt76_2 (m : PM) (o : Int) (j : Int) (n : Nat) (out : List It) : ((codeE (cxM2 fun _ _ => none) (evs (cxM2 fun _ _ => none) 60) (cr (behind 2 ob76)) (inni76 m o (li 2) (m.l 2) j n out)).map (lfR 0 ds76 false res76)) = .ret (.go .norm (some (inv76 m o (li 3) n out))) := by kernel_rfl
theorem top76_3 (m : PM) (o : Int) (n : Nat) (out : List It) : ((codeE (cxM2 fun _ _ => none) (evs (cxM2 fun _ _ => none) 60) (joins (firsts 2 ob76)) (inv76 m o (li 3) n out)).map (lfR 0 ds76 false res76)) = .ret (.go .norm (some (inv76 m o (li 3) n out))) := by kernel_rfl
theorem in76_3 (m : PM) (o : Int) (n : Nat) (out : List It) : ((codeE (cxM2 fun _ _ => none) (evs (cxM2 fun _ _ => none) 60) (joins (firsts 2 (cin (cl (behind 2 ob76))))) (inv76 m o (li 3) n out)).map (lfR 0 dsi76 false res76)) = .ret (.go .norm (some (inni76 m o (li 3) (m.l 3) 0 n out))) := by kernel_rfl
theorem rnd76_3 (m : PM) (o : Int) (j : Int) (n : Nat) (out : List It) : ((codeE (cxM2 fun _ _ => none) (evs (cxM2 fun _ _ => none) 60) ib76 (inni76 m o (li 3) (m.l 3) j n out)).map (lfR 0 dsi76 false res76)) = rnd76 m o (li 3) (m.l 3) j n out := by kernel_rfl
theorem nxt76_3 (m : PM) (o : Int) (j : Int) (n : Nat) (out : List It) : ((codeE (cxM2 fun _ _ => none) (evs (cxM2 fun _ _ => none) 60) (cr (behind 2 ob76)) (inni76 m o (li 3) (m.l 3) j n out)).map (lfR 0 ds76 false res76)) = .ret (.go .norm (some (inv76 m o (li 4) n out))) := by kernel_rfl
theorem top76_4 (m : PM) (o : Int) (n : Nat) (out : List It) : ((codeE (cxM2 fun _ _ => none) (evs (cxM2 fun _ _ => none) 60) (joins (firsts 2 ob76)) (inv76 m o (li 4) n out)).map (lfR 0 ds76 false res76)) = .ret (.go (.exit 0) (some (inv76 m o (li 4) n out))) := by kernel_rfl
theorem end76 (m : PM) (o : Int) (n : Nat) (out : List It) : ((codeE (cxM2 fun _ _ => none) (evs (cxM2 fun _ _ => none) 60) tail76 (inv76 m o (li 4) n out)).map (lfR 0 [] false res76)) = .ret (.out (.sl n 13 (getI out) false false)) := by kernel_rfl
end
end Go.Proofs.Ytkmhabbpndcnkaa

/-
  PART: memory: the contract of Owned.
-/
namespace Go.Proofs.Ytkmhabbpndcnkaa
open Go.RowKit
noncomputable section
theorem sizeOk_big {n : Nat} (h : n ≤ 1000000) : sizeOk (Try.prog.bytesOf 102) n := by
  have h2 : n * Try.prog.bytesOf 102 ≤ 1000000 * 200 := Nat.mul_le_mul h bytes102
  have h3 : maxAppend = 1099511627776 := by decide
  unfold sizeOk
  omega
def ownTo (m : PM) (o : Int) (i : Nat) : List It := (List.range i).flatMap fun i => (m.l i).filter fun x => x.own == o
theorem ownTo_succ (m : PM) (o : Int) (i : Nat) : ownTo m o (i + 1) = ownTo m o i ++ (m.l i).filter fun x => x.own == o := by
  unfold ownTo
  rw [List.range_succ, List.flatMap_append]
  simp
theorem take_succ_getD {l : List It} {j : Nat} (h : j < l.length) : l.take (j + 1) = l.take j ++ [l.getD j itz] := by
  rw [List.take_add_one]
  simp [List.getD, h]
theorem appG_get {n : Nat} {out : List It} {x : It} (hn : n = out.length) : ∀ i, i < n + 1 → appG n out x i = getI (out ++ [x]) i := fun i hi => by
  unfold appG getI
  rw [mixC_cells, getD_app, ← hn]
  congr 1
  by_cases c : i < n
  · rw [if_pos (by simpa using c), if_pos c]
  · rw [if_neg (by simpa using c), if_neg c]
    have : i - n = 0 := by omega
    rw [this]; rfl
theorem getI_rep {E : Env} {n : Nat} {out : List It} (hn : n = out.length) {v : Value} (h : Rep E (.sl n 13 (getI out) false false) v) : Rep E (rowI out) v := by
  subst hn; exact h
section
variable {m : PM} (hm : PmFit m) (o : Int)
include hm
theorem ownTo_len : ∀ i, i ≤ 4 → (ownTo m o i).length ≤ 500 * i
  | 0, _ => by simp [ownTo]
  | i + 1, h => by
    have := ownTo_len i (by omega)
    have h2 := hm.small i (by omega)
    have h3 := List.length_filter_le (fun x : It => x.own == o) (m.l i)
    rw [ownTo_succ, List.length_append]
    omega
theorem owned_frz : FrzOk Try.prog 76 [memA m, iv o] (rowI (ownedM m o)) := by
  let O : AV → Prop := fun a' => ∀ E v, Rep E a' v → Rep E (rowI (ownedM m o)) v
  refine frz_of_ends fitTry Try.func76 (c := c76) (by kernel_rfl) (Nat.le_of_ble_eq_true (by kernel_rfl)) (O := O) (fun E w hd hf => ?_) fun a' h => h
  rw [code76]
  refine wpc_stageR (cx := cxM2 fun _ _ => none) (n := 60) (ds := [(1, false), (5, false), (2, false)]) (gb := true) (res := res76) (O := O) (cxM2_ok _) fitTry (by simp [firsts]) (by kernel_rfl) ?_ ends_ret
  show ((codeE (cxM2 fun _ _ => none) (evs (cxM2 fun _ _ => none) 60) (joins (firsts 2 c76)) (entry [memA m, iv o])).map (lfR 0 [(1, false), (5, false), (2, false)] true res76)).wp _
  rw [pre76]
  show WpC _ _ _ _ _
  refine wpc_ioloop (cx := cxM2 fun _ _ => none) (n := 60) (ds := ds76) (gb := false) (res := res76) (O := O) (cxM2_ok _) fitTry (fun q : Nat × Nat × List It => inv76 m o (li q.1) q.2.1 q.2.2) (fun q => q.1 ≤ 4 ∧ q.2.1 = q.2.2.length ∧ q.2.2 = ownTo m o q.1) (fun q => 4 - q.1) (fun s => s = inv76 m o (li 4) (ownTo m o 4).length (ownTo m o 4)) (by kernel_rfl) ?_ ?_ ends_ret ?_
  · show ((codeE (cxM2 fun _ _ => none) (evs (cxM2 fun _ _ => none) 60) a76 (startS76 m o)).map (lfR 0 ds76 false res76)).wp _
    rw [init76]
    refine ⟨rfl, (0, 0, []), ?_, by decide, rfl, rfl⟩
    have h0 : HoldLe (begins Try.f76.ntmps E w hd hf) (start76 m o) _ := nilOwn_le (nil76 m o)
    exact h0.trans (hold_rows rfl rfl (.row (fun i hi => absurd hi (Nat.not_lt_zero i)) .nil))
  · rintro ⟨i, n, out⟩ ⟨h1, h2, h3⟩
    dsimp only at h1 h2 h3
    subst h2
    have hlen := ownTo_len hm o i h1
    rw [← h3] at hlen
    rw [obody76]
    have hi : i = 0 ∨ i = 1 ∨ i = 2 ∨ i = 3 ∨ i = 4 := by omega
    rcases hi with rfl | rfl | rfl | rfl | rfl
    · refine wpc_stageR (cx := cxM2 fun _ _ => none) (n := 60) (ds := ds76) (gb := false) (res := res76) (O := O) (cxM2_ok _) fitTry (by simp [firsts]) (by kernel_rfl) ?_ fun s a h1 h2 => .inr (.inr ⟨rfl, a, h1, h2⟩)
      show ((codeE (cxM2 fun _ _ => none) (evs (cxM2 fun _ _ => none) 60) (joins (firsts 2 ob76)) (inv76 m o (li 0) out.length out)).map (lfR 0 ds76 false res76)).wp _
      rw [top76_0]
      show WpC _ _ _ _ _
      refine wpc_nestH (cx := cxM2 fun _ _ => none) (n := 60) (ds := dsi76) (gb := false) (res := res76) (O := O) (cxM2_ok _) fitTry (fun q : Nat × Nat × List It => inni76 m o (li 0) (m.l 0) q.1 q.2.1 q.2.2) (fun q => q.1 ≤ (m.l 0).length ∧ q.2.1 = q.2.2.length ∧ q.2.2 = ownTo m o 0 ++ ((m.l 0).take q.1).filter fun x => x.own == o) (fun q => (m.l 0).length - q.1) (fun s => ∃ j : Int, s = inni76 m o (li 0) (m.l 0) j (ownTo m o 1).length (ownTo m o 1)) (by simp [firsts]) (by kernel_rfl) ?_ ?_ (fun s a h1 h2 => .inr (.inr ⟨rfl, a, h1, h2⟩)) ?_
      · show ((codeE (cxM2 fun _ _ => none) (evs (cxM2 fun _ _ => none) 60) (joins (firsts 2 (cin (cl (behind 2 ob76))))) (inv76 m o (li 0) out.length out)).map (lfR 0 dsi76 false res76)).wp _
        rw [in76_0]
        exact ⟨rfl, (0, out.length, out), .refl _, Nat.zero_le _, rfl, by simpa using h3⟩
      · rintro ⟨j, n, out2⟩ ⟨g1, g2, g3⟩
        dsimp only at g1 g2 g3
        subst g2
        have hs := hm.small 0 (by decide)
        have hlen2 : out2.length ≤ 500 * 0 + 500 := by
          rw [g3, List.length_append]
          have := List.length_filter_le (fun x : It => x.own == o) ((m.l 0).take j)
          rw [List.length_take] at this
          have := ownTo_len hm o 0 (by decide)
          omega
        refine wpc_endH (cx := cxM2 fun _ _ => none) (n := 60) (ds := dsi76) (gb := false) (cxM2_ok _) fitTry (by kernel_rfl) ?_
        show ((codeE (cxM2 fun _ _ => none) (evs (cxM2 fun _ _ => none) 60) ib76 (inni76 m o (li 0) (m.l 0) j out2.length out2)).map (lfR 0 dsi76 false res76)).wp _
        rw [rnd76_0]
        have hl : lenI (m.l 0) = ((m.l 0).length : Int) := rfl
        refine ⟨fun hlt => ?_, fun hge => ?_⟩
        · have hlt := of_decide_eq_true hlt
          have hw : IntKind.i64.wrap ((j : Int) + 1) = ((j + 1 : Nat) : Int) := by rw [IntWalk.i64_in _ (by omega)]; rfl
          have hjl : j < (m.l 0).length := by omega
          refine ⟨⟨by omega, hlt⟩, fun _ => sizeOk_big (by omega), fun hp => ?_, fun hp => ?_⟩
          · rw [hw]
            have e : ownTo m o 0 ++ ((m.l 0).take (j + 1)).filter (fun x => x.own == o) = out2 ++ [(m.l 0).getD j itz] := by
              rw [take_succ_getD hjl, List.filter_append, ← List.append_assoc, ← g3]
              congr 1
              have hp' : ((m.l 0).getD j itz).own == o := by simpa using hp
              rw [List.filter_cons, if_pos (by simpa using hp'), List.filter_nil]
            refine ⟨(j + 1, out2.length + 1, out2 ++ [(m.l 0).getD j itz]), hold_rows rfl rfl (.row (appG_get rfl) .nil), ⟨hjl, by simp, e.symm⟩, by show (m.l 0).length - (j + 1) < (m.l 0).length - j; omega⟩
          · rw [hw]
            have e : ownTo m o 0 ++ ((m.l 0).take (j + 1)).filter (fun x => x.own == o) = out2 := by
              rw [take_succ_getD hjl, List.filter_append, ← List.append_assoc, ← g3]
              have hp' : ¬ (((m.l 0).getD j itz).own == o) = true := by simpa using hp
              rw [List.filter_cons, if_neg hp', List.filter_nil, List.append_nil]
            exact ⟨(j + 1, out2.length, out2), .refl _, ⟨hjl, rfl, e.symm⟩, by show (m.l 0).length - (j + 1) < (m.l 0).length - j; omega⟩
        · have hge := of_decide_eq_false hge
          have hj : j = (m.l 0).length := by omega
          refine ⟨rfl, _, .refl _, j, ?_⟩
          have e : out2 = ownTo m o 1 := by rw [g3, hj, List.take_length]; exact (ownTo_succ m o 0).symm
          rw [e]
      · rintro s ⟨j, rfl⟩
        refine wpc_endH (cx := cxM2 fun _ _ => none) (n := 60) (ds := ds76) (gb := false) (cxM2_ok _) fitTry (by kernel_rfl) ?_
        show ((codeE (cxM2 fun _ _ => none) (evs (cxM2 fun _ _ => none) 60) (cr (behind 2 ob76)) (inni76 m o (li 0) (m.l 0) j (ownTo m o 1).length (ownTo m o 1))).map (lfR 0 ds76 false res76)).wp _
        rw [nxt76_0]
        exact ⟨(1, (ownTo m o 1).length, ownTo m o 1), .refl _, ⟨by show 1 ≤ 4; decide, rfl, rfl⟩, by show 4 - 1 < 4 - 0; decide⟩
    · refine wpc_stageR (cx := cxM2 fun _ _ => none) (n := 60) (ds := ds76) (gb := false) (res := res76) (O := O) (cxM2_ok _) fitTry (by simp [firsts]) (by kernel_rfl) ?_ fun s a h1 h2 => .inr (.inr ⟨rfl, a, h1, h2⟩)
      show ((codeE (cxM2 fun _ _ => none) (evs (cxM2 fun _ _ => none) 60) (joins (firsts 2 ob76)) (inv76 m o (li 1) out.length out)).map (lfR 0 ds76 false res76)).wp _
      rw [top76_1]
      show WpC _ _ _ _ _
      refine wpc_nestH (cx := cxM2 fun _ _ => none) (n := 60) (ds := dsi76) (gb := false) (res := res76) (O := O) (cxM2_ok _) fitTry (fun q : Nat × Nat × List It => inni76 m o (li 1) (m.l 1) q.1 q.2.1 q.2.2) (fun q => q.1 ≤ (m.l 1).length ∧ q.2.1 = q.2.2.length ∧ q.2.2 = ownTo m o 1 ++ ((m.l 1).take q.1).filter fun x => x.own == o) (fun q => (m.l 1).length - q.1) (fun s => ∃ j : Int, s = inni76 m o (li 1) (m.l 1) j (ownTo m o 2).length (ownTo m o 2)) (by simp [firsts]) (by kernel_rfl) ?_ ?_ (fun s a h1 h2 => .inr (.inr ⟨rfl, a, h1, h2⟩)) ?_
      · show ((codeE (cxM2 fun _ _ => none) (evs (cxM2 fun _ _ => none) 60) (joins (firsts 2 (cin (cl (behind 2 ob76))))) (inv76 m o (li 1) out.length out)).map (lfR 0 dsi76 false res76)).wp _
        rw [in76_1]
        exact ⟨rfl, (0, out.length, out), .refl _, Nat.zero_le _, rfl, by simpa using h3⟩
      · rintro ⟨j, n, out2⟩ ⟨g1, g2, g3⟩
        dsimp only at g1 g2 g3
        subst g2
        have hs := hm.small 1 (by decide)
        have hlen2 : out2.length ≤ 500 * 1 + 500 := by
          rw [g3, List.length_append]
          have := List.length_filter_le (fun x : It => x.own == o) ((m.l 1).take j)
          rw [List.length_take] at this
          have := ownTo_len hm o 1 (by decide)
          omega
        refine wpc_endH (cx := cxM2 fun _ _ => none) (n := 60) (ds := dsi76) (gb := false) (cxM2_ok _) fitTry (by kernel_rfl) ?_
        show ((codeE (cxM2 fun _ _ => none) (evs (cxM2 fun _ _ => none) 60) ib76 (inni76 m o (li 1) (m.l 1) j out2.length out2)).map (lfR 0 dsi76 false res76)).wp _
        rw [rnd76_1]
        have hl : lenI (m.l 1) = ((m.l 1).length : Int) := rfl
        refine ⟨fun hlt => ?_, fun hge => ?_⟩
        · have hlt := of_decide_eq_true hlt
          have hw : IntKind.i64.wrap ((j : Int) + 1) = ((j + 1 : Nat) : Int) := by rw [IntWalk.i64_in _ (by omega)]; rfl
          have hjl : j < (m.l 1).length := by omega
          refine ⟨⟨by omega, hlt⟩, fun _ => sizeOk_big (by omega), fun hp => ?_, fun hp => ?_⟩
          · rw [hw]
            have e : ownTo m o 1 ++ ((m.l 1).take (j + 1)).filter (fun x => x.own == o) = out2 ++ [(m.l 1).getD j itz] := by
              rw [take_succ_getD hjl, List.filter_append, ← List.append_assoc, ← g3]
              congr 1
              have hp' : ((m.l 1).getD j itz).own == o := by simpa using hp
              rw [List.filter_cons, if_pos (by simpa using hp'), List.filter_nil]
            refine ⟨(j + 1, out2.length + 1, out2 ++ [(m.l 1).getD j itz]), hold_rows rfl rfl (.row (appG_get rfl) .nil), ⟨hjl, by simp, e.symm⟩, by show (m.l 1).length - (j + 1) < (m.l 1).length - j; omega⟩
          · rw [hw]
            have e : ownTo m o 1 ++ ((m.l 1).take (j + 1)).filter (fun x => x.own == o) = out2 := by
              rw [take_succ_getD hjl, List.filter_append, ← List.append_assoc, ← g3]
              have hp' : ¬ (((m.l 1).getD j itz).own == o) = true := by simpa using hp
              rw [List.filter_cons, if_neg hp', List.filter_nil, List.append_nil]
            exact ⟨(j + 1, out2.length, out2), .refl _, ⟨hjl, rfl, e.symm⟩, by show (m.l 1).length - (j + 1) < (m.l 1).length - j; omega⟩
        · have hge := of_decide_eq_false hge
          have hj : j = (m.l 1).length := by omega
          refine ⟨rfl, _, .refl _, j, ?_⟩
          have e : out2 = ownTo m o 2 := by rw [g3, hj, List.take_length]; exact (ownTo_succ m o 1).symm
          rw [e]
      · rintro s ⟨j, rfl⟩
        refine wpc_endH (cx := cxM2 fun _ _ => none) (n := 60) (ds := ds76) (gb := false) (cxM2_ok _) fitTry (by kernel_rfl) ?_
        show ((codeE (cxM2 fun _ _ => none) (evs (cxM2 fun _ _ => none) 60) (cr (behind 2 ob76)) (inni76 m o (li 1) (m.l 1) j (ownTo m o 2).length (ownTo m o 2))).map (lfR 0 ds76 false res76)).wp _
        rw [nxt76_1]
        exact ⟨(2, (ownTo m o 2).length, ownTo m o 2), .refl _, ⟨by show 2 ≤ 4; decide, rfl, rfl⟩, by show 4 - 2 < 4 - 1; decide⟩
    · refine wpc_stageR (cx := cxM2 fun _ _ => none) (n := 60) (ds := ds76) (gb := false) (res := res76) (O := O) (cxM2_ok _) fitTry (by simp [firsts]) (by kernel_rfl) ?_ fun s a h1 h2 => .inr (.inr ⟨rfl, a, h1, h2⟩)
      show ((codeE (cxM2 fun _ _ => none) (evs (cxM2 fun _ _ => none) 60) (joins (firsts 2 ob76)) (inv76 m o (li 2) out.length out)).map (lfR 0 ds76 false res76)).wp _
      rw [top76_2]
      show WpC _ _ _ _ _
      refine wpc_nestH (cx := cxM2 fun _ _ => none) (n := 60) (ds := dsi76) (gb := false) (res := res76) (O := O) (cxM2_ok _) fitTry (fun q : Nat × Nat × List It => inni76 m o (li 2) (m.l 2) q.1 q.2.1 q.2.2) (fun q => q.1 ≤ (m.l 2).length ∧ q.2.1 = q.2.2.length ∧ q.2.2 = ownTo m o 2 ++ ((m.l 2).take q.1).filter fun x => x.own == o) (fun q => (m.l 2).length - q.1) (fun s => ∃ j : Int, s = inni76 m o (li 2) (m.l 2) j (ownTo m o 3).length (ownTo m o 3)) (by simp [firsts]) (by kernel_rfl) ?_ ?_ (fun s a h1 h2 => .inr (.inr ⟨rfl, a, h1, h2⟩)) ?_
      · show ((codeE (cxM2 fun _ _ => none) (evs (cxM2 fun _ _ => none) 60) (joins (firsts 2 (cin (cl (behind 2 ob76))))) (inv76 m o (li 2) out.length out)).map (lfR 0 dsi76 false res76)).wp _
        rw [in76_2]
        exact ⟨rfl, (0, out.length, out), .refl _, Nat.zero_le _, rfl, by simpa using h3⟩
      · rintro ⟨j, n, out2⟩ ⟨g1, g2, g3⟩
        dsimp only at g1 g2 g3
        subst g2
        have hs := hm.small 2 (by decide)
        have hlen2 : out2.length ≤ 500 * 2 + 500 := by
          rw [g3, List.length_append]
          have := List.length_filter_le (fun x : It => x.own == o) ((m.l 2).take j)
          rw [List.length_take] at this
          have := ownTo_len hm o 2 (by decide)
          omega
        refine wpc_endH (cx := cxM2 fun _ _ => none) (n := 60) (ds := dsi76) (gb := false) (cxM2_ok _) fitTry (by kernel_rfl) ?_
        show ((codeE (cxM2 fun _ _ => none) (evs (cxM2 fun _ _ => none) 60) ib76 (inni76 m o (li 2) (m.l 2) j out2.length out2)).map (lfR 0 dsi76 false res76)).wp _
        rw [rnd76_2]
        have hl : lenI (m.l 2) = ((m.l 2).length : Int) := rfl
        refine ⟨fun hlt => ?_, fun hge => ?_⟩
        · have hlt := of_decide_eq_true hlt
          have hw : IntKind.i64.wrap ((j : Int) + 1) = ((j + 1 : Nat) : Int) := by rw [IntWalk.i64_in _ (by omega)]; rfl
          have hjl : j < (m.l 2).length := by omega
          refine ⟨⟨by omega, hlt⟩, fun _ => sizeOk_big (by omega), fun hp => ?_, fun hp => ?_⟩
          · rw [hw]
            have e : ownTo m o 2 ++ ((m.l 2).take (j + 1)).filter (fun x => x.own == o) = out2 ++ [(m.l 2).getD j itz] := by
              rw [take_succ_getD hjl, List.filter_append, ← List.append_assoc, ← g3]
              congr 1
              have hp' : ((m.l 2).getD j itz).own == o := by simpa using hp
              rw [List.filter_cons, if_pos (by simpa using hp'), List.filter_nil]
            refine ⟨(j + 1, out2.length + 1, out2 ++ [(m.l 2).getD j itz]), hold_rows rfl rfl (.row (appG_get rfl) .nil), ⟨hjl, by simp, e.symm⟩, by show (m.l 2).length - (j + 1) < (m.l 2).length - j; omega⟩
          · rw [hw]
            have e : ownTo m o 2 ++ ((m.l 2).take (j + 1)).filter (fun x => x.own == o) = out2 := by
              rw [take_succ_getD hjl, List.filter_append, ← List.append_assoc, ← g3]
              have hp' : ¬ (((m.l 2).getD j itz).own == o) = true := by simpa using hp
              rw [List.filter_cons, if_neg hp', List.filter_nil, List.append_nil]
            exact ⟨(j + 1, out2.length, out2), .refl _, ⟨hjl, rfl, e.symm⟩, by show (m.l 2).length - (j + 1) < (m.l 2).length - j; omega⟩
        · have hge := of_decide_eq_false hge
          have hj : j = (m.l 2).length := by omega
          refine ⟨rfl, _, .refl _, j, ?_⟩
          have e : out2 = ownTo m o 3 := by rw [g3, hj, List.take_length]; exact (ownTo_succ m o 2).symm
          rw [e]
      · rintro s ⟨j, rfl⟩
        refine wpc_endH (cx := cxM2 fun _ _ => none) (n := 60) (ds := ds76) (gb := false) (cxM2_ok _) fitTry (by kernel_rfl) ?_
        show ((codeE (cxM2 fun _ _ => none) (evs (cxM2 fun _ _ => none) 60) (cr (behind 2 ob76)) (inni76 m o (li 2) (m.l 2) j (ownTo m o 3).length (ownTo m o 3))).map (lfR 0 ds76 false res76)).wp _
        rw [nxt76_2]
        exact ⟨(3, (ownTo m o 3).length, ownTo m o 3), .refl _, ⟨by show 3 ≤ 4; decide, rfl, rfl⟩, by show 4 - 3 < 4 - 2; decide⟩
    · refine wpc_stageR (cx := cxM2 fun _ _ => none) (n := 60) (ds := ds76) (gb := false) (res := res76) (O := O) (cxM2_ok _) fitTry (by simp [firsts]) (by kernel_rfl) ?_ fun s a h1 h2 => .inr (.inr ⟨rfl, a, h1, h2⟩)
      show ((codeE (cxM2 fun _ _ => none) (evs (cxM2 fun _ _ => none) 60) (joins (firsts 2 ob76)) (inv76 m o (li 3) out.length out)).map (lfR 0 ds76 false res76)).wp _
      rw [top76_3]
      show WpC _ _ _ _ _
      refine wpc_nestH (cx := cxM2 fun _ _ => none) (n := 60) (ds := dsi76) (gb := false) (res := res76) (O := O) (cxM2_ok _) fitTry (fun q : Nat × Nat × List It => inni76 m o (li 3) (m.l 3) q.1 q.2.1 q.2.2) (fun q => q.1 ≤ (m.l 3).length ∧ q.2.1 = q.2.2.length ∧ q.2.2 = ownTo m o 3 ++ ((m.l 3).take q.1).filter fun x => x.own == o) (fun q => (m.l 3).length - q.1) (fun s => ∃ j : Int, s = inni76 m o (li 3) (m.l 3) j (ownTo m o 4).length (ownTo m o 4)) (by simp [firsts]) (by kernel_rfl) ?_ ?_ (fun s a h1 h2 => .inr (.inr ⟨rfl, a, h1, h2⟩)) ?_
      · show ((codeE (cxM2 fun _ _ => none) (evs (cxM2 fun _ _ => none) 60) (joins (firsts 2 (cin (cl (behind 2 ob76))))) (inv76 m o (li 3) out.length out)).map (lfR 0 dsi76 false res76)).wp _
        rw [in76_3]
        exact ⟨rfl, (0, out.length, out), .refl _, Nat.zero_le _, rfl, by simpa using h3⟩
      · rintro ⟨j, n, out2⟩ ⟨g1, g2, g3⟩
        dsimp only at g1 g2 g3
        subst g2
        have hs := hm.small 3 (by decide)
        have hlen2 : out2.length ≤ 500 * 3 + 500 := by
          rw [g3, List.length_append]
          have := List.length_filter_le (fun x : It => x.own == o) ((m.l 3).take j)
          rw [List.length_take] at this
          have := ownTo_len hm o 3 (by decide)
          omega
        refine wpc_endH (cx := cxM2 fun _ _ => none) (n := 60) (ds := dsi76) (gb := false) (cxM2_ok _) fitTry (by kernel_rfl) ?_
        show ((codeE (cxM2 fun _ _ => none) (evs (cxM2 fun _ _ => none) 60) ib76 (inni76 m o (li 3) (m.l 3) j out2.length out2)).map (lfR 0 dsi76 false res76)).wp _
        rw [rnd76_3]
        have hl : lenI (m.l 3) = ((m.l 3).length : Int) := rfl
        refine ⟨fun hlt => ?_, fun hge => ?_⟩
        · have hlt := of_decide_eq_true hlt
          have hw : IntKind.i64.wrap ((j : Int) + 1) = ((j + 1 : Nat) : Int) := by rw [IntWalk.i64_in _ (by omega)]; rfl
          have hjl : j < (m.l 3).length := by omega
          refine ⟨⟨by omega, hlt⟩, fun _ => sizeOk_big (by omega), fun hp => ?_, fun hp => ?_⟩
          · rw [hw]
            have e : ownTo m o 3 ++ ((m.l 3).take (j + 1)).filter (fun x => x.own == o) = out2 ++ [(m.l 3).getD j itz] := by
              rw [take_succ_getD hjl, List.filter_append, ← List.append_assoc, ← g3]
              congr 1
              have hp' : ((m.l 3).getD j itz).own == o := by simpa using hp
              rw [List.filter_cons, if_pos (by simpa using hp'), List.filter_nil]
            refine ⟨(j + 1, out2.length + 1, out2 ++ [(m.l 3).getD j itz]), hold_rows rfl rfl (.row (appG_get rfl) .nil), ⟨hjl, by simp, e.symm⟩, by show (m.l 3).length - (j + 1) < (m.l 3).length - j; omega⟩
          · rw [hw]
            have e : ownTo m o 3 ++ ((m.l 3).take (j + 1)).filter (fun x => x.own == o) = out2 := by
              rw [take_succ_getD hjl, List.filter_append, ← List.append_assoc, ← g3]
              have hp' : ¬ (((m.l 3).getD j itz).own == o) = true := by simpa using hp
              rw [List.filter_cons, if_neg hp', List.filter_nil, List.append_nil]
            exact ⟨(j + 1, out2.length, out2), .refl _, ⟨hjl, rfl, e.symm⟩, by show (m.l 3).length - (j + 1) < (m.l 3).length - j; omega⟩
        · have hge := of_decide_eq_false hge
          have hj : j = (m.l 3).length := by omega
          refine ⟨rfl, _, .refl _, j, ?_⟩
          have e : out2 = ownTo m o 4 := by rw [g3, hj, List.take_length]; exact (ownTo_succ m o 3).symm
          rw [e]
      · rintro s ⟨j, rfl⟩
        refine wpc_endH (cx := cxM2 fun _ _ => none) (n := 60) (ds := ds76) (gb := false) (cxM2_ok _) fitTry (by kernel_rfl) ?_
        show ((codeE (cxM2 fun _ _ => none) (evs (cxM2 fun _ _ => none) 60) (cr (behind 2 ob76)) (inni76 m o (li 3) (m.l 3) j (ownTo m o 4).length (ownTo m o 4))).map (lfR 0 ds76 false res76)).wp _
        rw [nxt76_3]
        exact ⟨(4, (ownTo m o 4).length, ownTo m o 4), .refl _, ⟨by show 4 ≤ 4; decide, rfl, rfl⟩, by show 4 - 4 < 4 - 3; decide⟩
    · refine wpc_stageR (cx := cxM2 fun _ _ => none) (n := 60) (ds := ds76) (gb := false) (res := res76) (O := O) (cxM2_ok _) fitTry (by simp [firsts]) (by kernel_rfl) ?_ fun s a h1 h2 => .inr (.inr ⟨rfl, a, h1, h2⟩)
      show ((codeE (cxM2 fun _ _ => none) (evs (cxM2 fun _ _ => none) 60) (joins (firsts 2 ob76)) (inv76 m o (li 4) out.length out)).map (lfR 0 ds76 false res76)).wp _
      rw [top76_4]
      exact .inr (.inl ⟨rfl, _, .refl _, by rw [h3]⟩)
  · rintro s rfl
    refine wpc_of_lfR (cx := cxM2 fun _ _ => none) (n := 60) (ds := []) (gb := false) (res := res76) (O := O) (cxM2_ok _) fitTry (by kernel_rfl) ?_ ends_ret
    show ((codeE (cxM2 fun _ _ => none) (evs (cxM2 fun _ _ => none) 60) tail76 (inv76 m o (li 4) (ownTo m o 4).length (ownTo m o 4))).map (lfR 0 [] false res76)).wp _
    rw [end76]
    exact fun E v hv => getI_rep rfl hv
end
end
end Go.Proofs.Ytkmhabbpndcnkaa

/-
  PART: memory: Begin, Locs, Closed.
-/
namespace Go.Proofs.Ytkmhabbpndcnkaa
open Go.RowKit
noncomputable section
theorem Rep.sl_imp {E : Env} {n k : Nat} {get get' : Nat → List AV} {nl nl' full : Bool} {v : Value} (h : ∀ i, i < n → ∀ vs, Reps E (get i) vs → Reps E (get' i) vs) (hv : Rep E (.sl n k get nl full) v) : Rep E (.sl n k get' nl' false) v := by
  cases hv with
  | slNil hn => exact .slNil hn
  | slEmp hn hf => exact .slEmp hn fun e => by cases e
  | sl q1 q2 q3 q4 q5 q6 => exact .sl q1 q2 (fun e => by cases e) q4 (fun i hi => h i hi _ (q5 i hi)) q6
/-- A row of numbers. -/
def rowU (l : List Int) : AV := .sl l.length 1 (fun i => [.v (.int .u64 (l.getD i 0))]) false false
def rowUc (l : List Int) : AV := .sl l.length 1 (fun i => [.v (.int .u64 (l.getD i 0))]) true false
def begC (k : Nat) (a : Int) : List AV := [.lit (.int .i64 k), .lit (.complex .f64 0 0), .v (.int .u64 a), .lit (.int .i64 0), .lit (.int .i64 0), .lit (.int .i64 0), .lit (.int .i64 0), .lit (.int .i64 0), .lit (.int .i64 0), .lit (.int .i64 0), .lit (.int .i64 0), .lit (.bool false), .lit (.int .i64 (-1))]
def begRow (k : Nat) (a : Int) : AV := .sl 1 13 (fun _ => begC k a) true false
def nilA : AV := .lit (.slice none 0 0)
def badLen (n : Int) : Bool := if decide (n < 1) = true then true else decide (n > 4)
theorem beg_no (l : List Int) : ((evs (cxM2 (decM [(14,true)])) 60).call 63 [rowU l] .nil).frz = .side (badLen (l.length : Int) = true) (.ret (.tup [.agg [.lit (.int .i64 0), nilA, nilA, nilA, nilA], .lit (.int .i64 1)])) := by kernel_rfl
theorem beg1 (a : Int) : ((evs (cxM2 fun _ _ => none) 60).call 63 [rowUc [a]] .nil).frz = .ret (.tup [.agg [.lit (.int .i64 1), begRow 0 a, nilA, nilA, nilA], .lit (.int .i64 0)]) := by kernel_rfl
theorem beg2 (a b : Int) : ((evs (cxM2 fun _ _ => none) 60).call 63 [rowUc [a, b]] .nil).frz = .ret (.tup [.agg [.lit (.int .i64 2), begRow 0 a, begRow 1 b, nilA, nilA], .lit (.int .i64 0)]) := by kernel_rfl
theorem beg3 (a b c : Int) : ((evs (cxM2 fun _ _ => none) 60).call 63 [rowUc [a, b, c]] .nil).frz = .ret (.tup [.agg [.lit (.int .i64 3), begRow 0 a, begRow 1 b, begRow 2 c, nilA], .lit (.int .i64 0)]) := by kernel_rfl
theorem beg4 (a b c d : Int) : ((evs (cxM2 fun _ _ => none) 60).call 63 [rowUc [a, b, c, d]] .nil).frz = .ret (.tup [.agg [.lit (.int .i64 4), begRow 0 a, begRow 1 b, begRow 2 c, begRow 3 d], .lit (.int .i64 0)]) := by kernel_rfl
def startIt (k : Nat) (a : Int) : It := ⟨k, 0, 0, a, fun _ => 0, false, -1⟩
theorem begC_rep {E : Env} {k : Nat} {a : Int} {vs : List Value} (h : Reps E (begC k a) vs) : Reps E (startIt k a).cells vs := by
  have e : (startIt k a).cells = [iv k, .v (.complex .f64 0 0), .v (.int .u64 a), iv 0, iv 0, iv 0, iv 0, iv 0, iv 0, iv 0, iv 0, .v (.bool false), iv (-1)] := by
    show itv k (.v (.complex .f64 (F 0) (F 0))) a (fun _ => 0) false (-1) = _
    rw [F_zero]; rfl
  rw [e]
  exact genD_all 1 h
theorem begRow_rep {E : Env} {k : Nat} {a : Int} {v : Value} (h : Rep E (begRow k a) v) : Rep E (rowI [startIt k a]) v := by
  refine h.sl_imp (get' := fun i => ([startIt k a].getD i itz).cells) fun i hi vs hr => ?_
  obtain rfl : i = 0 := Nat.lt_one_iff.1 hi
  exact begC_rep hr
theorem nilA_rep {E : Env} {v : Value} (h : Rep E nilA v) : Rep E (rowI []) v := rep_nilI h
theorem rowUc_rep {E : Env} {l : List Int} {v : Value} (h : Rep E (rowU l) v) : Rep E (rowUc l) v := by
  cases h with
  | slNil hn => exact .slNil hn
  | slEmp hn hf => exact .slEmp hn hf
  | sl q1 q2 q3 q4 q5 q6 => exact .sl q1 q2 q3 q4 q5 q6
def beginR (l : List Int) : PM × Int := if badLen (l.length : Int) = true then (⟨0, fun _ => []⟩, 1) else (beginM l, 0)
theorem rep_mem5 {E : Env} {m' : PM} {n : Int} {s0 s1 s2 s3 : AV} {e : Int} (hn : n = m'.n) (h0 : ∀ v, Rep E s0 v → Rep E (rowI (m'.l 0)) v) (h1 : ∀ v, Rep E s1 v → Rep E (rowI (m'.l 1)) v) (h2 : ∀ v, Rep E s2 v → Rep E (rowI (m'.l 2)) v) (h3 : ∀ v, Rep E s3 v → Rep E (rowI (m'.l 3)) v) {v : Value} (h : Rep E (.tup [.agg [.lit (.int .i64 n), s0, s1, s2, s3], .lit (.int .i64 e)]) v) : Rep E (.tup [memA m', iv e]) v := by
  refine rep_okRes (a := .agg [.lit (.int .i64 n), s0, s1, s2, s3]) (b := memA m') (fun v h => ?_) h
  obtain ⟨vs, rfl, hr, ho⟩ := Rep.agg_inv h
  refine Rep.agg_mk ?_ ho
  cases hr with | cons r0 t => cases t with | cons r1 t => cases t with | cons r2 t => cases t with | cons r3 t => cases t with | cons r4 t => cases t with | nil =>
  rw [hn] at r0
  exact .cons (rep_lit r0) (.cons (h0 _ r1) (.cons (h1 _ r2) (.cons (h2 _ r3) (.cons (h3 _ r4) .nil))))
theorem begin_frz (l : List Int) : FrzOk Try.prog 63 [rowU l] (.tup [memA (beginR l).1, iv (beginR l).2]) := by
  unfold beginR
  by_cases hb : badLen (l.length : Int) = true
  · rw [if_pos hb]
    exact frz_ev (cxM2_ok _) fitTry (beg_no l) ⟨hb, fun E v hv => rep_mem5 (m' := ⟨0, fun _ => []⟩) rfl (fun _ => nilA_rep) (fun _ => nilA_rep) (fun _ => nilA_rep) (fun _ => nilA_rep) hv⟩
  · rw [if_neg hb]
    have hp : ∀ E vs, Reps E [rowU l] vs → Reps E [rowUc l] vs := fun E vs h => by
      cases h with | cons q1 h => exact .cons (rowUc_rep q1) h
    have hl : 1 ≤ l.length ∧ l.length ≤ 4 := by
      unfold badLen at hb
      by_cases h1 : (l.length : Int) < 1
      · rw [if_pos (decide_eq_true h1)] at hb; exact absurd rfl hb
      · rw [if_neg (by simpa using h1)] at hb
        have := of_decide_eq_false (by simpa using hb : decide ((l.length : Int) > 4) = false)
        omega
    match l, hl, hp with
    | [a], _, hp => exact (frz_ev (cxM2_ok _) fitTry (beg1 a) fun E v hv => rep_mem5 (m' := beginM [a]) rfl (fun _ => begRow_rep) (fun _ => nilA_rep) (fun _ => nilA_rep) (fun _ => nilA_rep) hv).pre hp
    | [a, b], _, hp => exact (frz_ev (cxM2_ok _) fitTry (beg2 a b) fun E v hv => rep_mem5 (m' := beginM [a, b]) rfl (fun _ => begRow_rep) (fun _ => begRow_rep) (fun _ => nilA_rep) (fun _ => nilA_rep) hv).pre hp
    | [a, b, c], _, hp => exact (frz_ev (cxM2_ok _) fitTry (beg3 a b c) fun E v hv => rep_mem5 (m' := beginM [a, b, c]) rfl (fun _ => begRow_rep) (fun _ => begRow_rep) (fun _ => begRow_rep) (fun _ => nilA_rep) hv).pre hp
    | [a, b, c, d], _, hp => exact (frz_ev (cxM2_ok _) fitTry (beg4 a b c d) fun E v hv => rep_mem5 (m' := beginM [a, b, c, d]) rfl (fun _ => begRow_rep) (fun _ => begRow_rep) (fun _ => begRow_rep) (fun _ => begRow_rep) hv).pre hp
theorem locs_pure (n : Int) (s0 s1 s2 s3 : AV) : PureOk Try.prog 65 [memv n .unk .unk .unk .unk] (iv n) :=
  pure_hitX (cx := cxM2 fun _ _ => none) (cxM2_ok _) rfl (f := 65) (t := .ret (iv n)) (by kernel_rfl) rfl (by kernel_rfl)
end
end Go.Proofs.Ytkmhabbpndcnkaa

/-
  PART: memory: the table of the program's functions; Closed; Item.
-/
namespace Go.Proofs.Ytkmhabbpndcnkaa
open Go.RowKit
noncomputable section
def pmD (n : Int) (n0 n1 n2 n3 : Nat) (g0 g1 g2 g3 : Nat → List AV) : PM := ⟨n, fun i => match i with
  | 0 => lstOf n0 g0
  | 1 => lstOf n1 g1
  | 2 => lstOf n2 g2
  | 3 => lstOf n3 g3
  | _ => []⟩
def PmIn (n : Int) (n0 n1 n2 n3 : Nat) (g0 g1 g2 g3 : Nat → List AV) : Prop := RowOk n0 g0 ∧ RowOk n1 g1 ∧ RowOk n2 g2 ∧ RowOk n3 g3 ∧ PmFit (pmD n n0 n1 n2 n3 g0 g1 g2 g3)
/-- A memory that is an argument. -/
def pmR (m : PM) : PM := pmD m.n (m.l 0).length (m.l 1).length (m.l 2).length (m.l 3).length (getI (m.l 0)) (getI (m.l 1)) (getI (m.l 2)) (getI (m.l 3))
def PmInR (m : PM) : Prop := PmIn m.n (m.l 0).length (m.l 1).length (m.l 2).length (m.l 3).length (getI (m.l 0)) (getI (m.l 1)) (getI (m.l 2)) (getI (m.l 3))
theorem pmR_eq {m : PM} (h : PmFit m) : pmR m = m := by
  obtain ⟨n, l⟩ := m
  unfold pmR pmD
  congr 1
  funext i
  match i with
  | 0 => exact lstOf_getI (h.ok 0 (by decide))
  | 1 => exact lstOf_getI (h.ok 1 (by decide))
  | 2 => exact lstOf_getI (h.ok 2 (by decide))
  | 3 => exact lstOf_getI (h.ok 3 (by decide))
  | i + 4 => exact (h.out (i + 4) (by omega)).symm
theorem pmInR {m : PM} (h : PmFit m) : PmInR m := by
  refine ⟨rowOk_getI (h.ok 0 (by decide)), rowOk_getI (h.ok 1 (by decide)), rowOk_getI (h.ok 2 (by decide)), rowOk_getI (h.ok 3 (by decide)), ?_⟩
  show PmFit (pmR m)
  rw [pmR_eq h]; exact h
theorem pmD_rep {E : Env} {n : Int} {n0 n1 n2 n3 : Nat} {g0 g1 g2 g3 : Nat → List AV} {l0 l1 l2 l3 f0 f1 f2 f3 : Bool} (h : PmIn n n0 n1 n2 n3 g0 g1 g2 g3) {v : Value} (hv : Rep E (.agg [iv n, .sl n0 13 g0 l0 f0, .sl n1 13 g1 l1 f1, .sl n2 13 g2 l2 f2, .sl n3 13 g3 l3 f3]) v) : Rep E (memA (pmD n n0 n1 n2 n3 g0 g1 g2 g3)) v := by
  obtain ⟨vs, rfl, hr, ho⟩ := Rep.agg_inv hv
  refine Rep.agg_mk ?_ ho
  cases hr with | cons r0 t => cases t with | cons r1 t => cases t with | cons r2 t => cases t with | cons r3 t => cases t with | cons r4 t => cases t with | nil =>
  exact .cons r0 (.cons (rowI_of h.1 r1) (.cons (rowI_of h.2.1 r2) (.cons (rowI_of h.2.2.1 r3) (.cons (rowI_of h.2.2.2.1 r4) .nil))))
def withPm (a : AV) (f : PM → Tree AV) : Option (Tree AV) := match a with
  | .agg [.v (.int .i64 n), .sl n0 13 g0 _ _, .sl n1 13 g1 _ _, .sl n2 13 g2 _ _, .sl n3 13 g3 _ _] => some (.side (PmIn n n0 n1 n2 n3 g0 g1 g2 g3) (f (pmD n n0 n1 n2 n3 g0 g1 g2 g3)))
  | _ => none
theorem withPm_ok {a : AV} {f : PM → Tree AV} {t : Tree AV} {r : AV} (h : withPm a f = some t) (hh : t.hit r) : ∃ m, PmFit m ∧ (f m).hit r ∧ ∀ E v, Rep E a v → Rep E (memA m) v := by
  unfold withPm at h
  split at h
  · cases h
    obtain ⟨h1, h2⟩ := hh
    exact ⟨_, h1.2.2.2.2, h2, fun E v hv => pmD_rep h1 hv⟩
  · cases h
/-- A row of numbers, read back. -/
def uOf (n : Nat) (get : Nat → List AV) : List Int := (List.range n).map fun i => zA (get i) 0
def tabM3' (f : Nat) (args : List AV) : Option (Tree AV) := match f, args with
  | 55, [m, .v (.int .i64 loc)] => withPm m fun m => .ret (rowI (listM m loc))
  | 66, [m, .v (.int .i64 loc), .v (.int .i64 to), .v (.int .i64 owner)] => withPm m fun m => .ret (.tup [memA (fulM m loc to owner).1, iv (fulM m loc to owner).2])
  | 68, [m, .v (.int .i64 loc), .v (.int .i64 to), .v (.int .i64 owner)] => withPm m fun m => .ret (.tup [memA (canM m loc to owner).1, iv (canM m loc to owner).2])
  | 71, [m, .v (.int .i64 loc), .v (.int .i64 to)] => withPm m fun m => .ret (optA (atM m loc to))
  | 76, [m, .v (.int .i64 o)] => withPm m fun m => .ret (rowI (ownedM m o))
  | 98, [m, .v (.int .i64 loc)] => withPm m fun m => .ret (optA (lastM m loc))
  | 57, [m, .agg cs] => withPm m fun m => .side (IsIt cs) (.ret (.tup [memA (addM m (itOf cs)).1, iv (addM m (itOf cs)).2]))
  | _, _ => none
theorem tabM3'_ok : TabFOk Try.prog tabM3' := by
  intro f args t a ht hh
  unfold tabM3' at ht
  split at ht
  · obtain ⟨m, hm, h1, h2⟩ := withPm_ok ht hh
    cases h1
    exact (list_frz hm _).pre fun E vs h => by cases h with | cons q1 h => exact .cons (h2 _ _ q1) h
  · obtain ⟨m, hm, h1, h2⟩ := withPm_ok ht hh
    cases h1
    exact (ful_frz hm _ _ _).pre fun E vs h => by cases h with | cons q1 h => exact .cons (h2 _ _ q1) h
  · obtain ⟨m, hm, h1, h2⟩ := withPm_ok ht hh
    cases h1
    exact (can_frz hm _ _ _).pre fun E vs h => by cases h with | cons q1 h => exact .cons (h2 _ _ q1) h
  · obtain ⟨m, hm, h1, h2⟩ := withPm_ok ht hh
    cases h1
    exact (at_frz hm _ _).pre fun E vs h => by cases h with | cons q1 h => exact .cons (h2 _ _ q1) h
  · obtain ⟨m, hm, h1, h2⟩ := withPm_ok ht hh
    cases h1
    exact (owned_frz hm _).pre fun E vs h => by cases h with | cons q1 h => exact .cons (h2 _ _ q1) h
  · obtain ⟨m, hm, h1, h2⟩ := withPm_ok ht hh
    cases h1
    exact (last_frz hm hm.non _).pre fun E vs h => by cases h with | cons q1 h => exact .cons (h2 _ _ q1) h
  · obtain ⟨m, hm, ⟨h3, h1⟩, h2⟩ := withPm_ok ht hh
    cases h1
    refine (add_frz hm h3.2).pre fun E vs h => ?_
    cases h with | cons q1 h => cases h with | cons q2 h =>
    exact .cons (h2 _ _ q1) (.cons (by rw [← h3.1]; exact q2) h)
  · cases ht
/-- Is an item's span one that may not be? -/
def isBad (cs : List AV) : Bool := match cs with
  | [_, .lit _, _, _, _, _, _, _, _, _, _, _, _] => true
  | _ => false
def rawIt (cs : List AV) : It := ⟨zA cs 0, 0, 0, zA cs 2, fun j => zA cs (3 + j), bA cs 11, zA cs 12⟩
def tabM3 (f : Nat) (args : List AV) : Option (Tree AV) := match f, args with
  | 57, [m, .agg cs] => match isBad cs with
    | true => match withPm (genD 4 m) fun m => .side (cs = badC (rawIt cs)) (.ret (.tup [memA m, iv 1])) with
      | some t => some t
      | none => none
    | false => tabM3' 57 [genD 4 m, genD 4 (.agg cs)]
  | f, args => tabM3' f (args.map (genD 4))
theorem tabM3_ok : TabFOk Try.prog tabM3 := by
  intro f args t a ht hh
  unfold tabM3 at ht
  split at ht
  · rename_i m cs
    split at ht
    · split at ht
      · rename_i u hu
        cases ht
        obtain ⟨m', hm, ⟨h3, h1⟩, h2⟩ := withPm_ok hu hh
        cases h1
        refine (add_bad m' (rawIt cs)).pre fun E vs h => ?_
        cases h with | cons q1 h => cases h with | cons q2 h =>
        exact .cons (h2 _ _ (genD_ok 4 _ _ q1)) (.cons (by rw [← h3]; exact q2) h)
      · cases ht
    · exact (tabM3'_ok _ _ _ _ ht hh).pre fun E vs h => by
        cases h with | cons q1 h => cases h with | cons q2 h => exact .cons (genD_ok 4 _ _ q1) (.cons (genD_ok 4 _ _ q2) h)
  · exact (tabM3'_ok _ _ _ _ ht hh).pre fun E vs h => genD_all 4 h
noncomputable def cxM3 (dec : Nat → St → Option Bool) : Cx := ⟨Try.prog, ctrOf2 (opened tabM2) tabM3, dec⟩
theorem cxM3_ok (dec : Nat → St → Option Bool) : CtrOk (cxM3 dec) := ctrOf2_ok (opened_ok tabM2_ok) tabM3_ok dec
end
end Go.Proofs.Ytkmhabbpndcnkaa

/-
  PART: memory: the document's items and memories; Item, View, Right.
-/
namespace Go.Proofs.Ytkmhabbpndcnkaa
open Go.RowKit
noncomputable section
def RIt.cells (x : RIt) : List AV := [iv x.loc, iv x.p, iv x.q, .v (.int .u64 x.n)] ++ ivs 8 x.v ++ [.v (.bool x.res), iv x.own]
def rz : RIt := ⟨0, 0, 0, 0, fun _ => 0, false, 0⟩
def RVz (x : RIt) : Prop := ∀ j, 8 ≤ j → x.v j = 0
def ritOf (l : List AV) : RIt := ⟨zA l 0, zA l 1, zA l 2, zA l 3, fun j => if j < 8 then zA l (4 + j) else 0, bA l 12, zA l 13⟩
def IsR (l : List AV) : Prop := l = (ritOf l).cells
theorem ritOf_cells {x : RIt} (h : RVz x) : ritOf x.cells = x := by
  have e3 : (ritOf x.cells).v = x.v := by
    funext j
    show (if j < 8 then zA x.cells (4 + j) else 0) = x.v j
    by_cases hj : j < 8
    · rw [if_pos hj]
      have : j = 0 ∨ j = 1 ∨ j = 2 ∨ j = 3 ∨ j = 4 ∨ j = 5 ∨ j = 6 ∨ j = 7 := by omega
      rcases this with rfl | rfl | rfl | rfl | rfl | rfl | rfl | rfl <;> rfl
    · rw [if_neg hj, h j (by omega)]
  have e4 : ritOf x.cells = ⟨x.loc, x.p, x.q, x.n, (ritOf x.cells).v, x.res, x.own⟩ := rfl
  rw [e4, e3]
theorem isR {x : RIt} (h : RVz x) : IsR x.cells := by
  unfold IsR; rw [ritOf_cells h]
theorem rvz_ritOf (l : List AV) : RVz (ritOf l) := fun j hj => by
  show (if j < 8 then zA l (4 + j) else 0) = 0
  rw [if_neg (by omega)]
def rightAt (v : Nat → Int) (i : Nat) : Bool := if decide (v i < 0) = true then true else decide (v (i + 4) < v i)
def rightE (v : Nat → Int) : Bool := if rightAt v 0 = true then false else if rightAt v 1 = true then false else if rightAt v 2 = true then false else !rightAt v 3
theorem right_pure0 (v : Nat → Int) : PureOk Try.prog 104 [.agg (ivs 8 v)] (.v (.bool (rightE v))) := pure_hitX (cx := cxM2 fun _ _ => none) (cxM2_ok _) rfl (t := .ret (.v (.bool (rightE v)))) (by kernel_rfl) rfl (by kernel_rfl)
theorem rightE_eq (v : Nat → Int) : rightE v = rightB v := by
  have e : rightB v = (!(rightAt v 0) && (!(rightAt v 1) && (!(rightAt v 2) && (!(rightAt v 3) && true)))) := by
    have h : ∀ i, (!(decide (v i < 0) || decide (v (i + 4) < v i))) = !rightAt v i := fun i => by
      unfold rightAt
      by_cases h1 : v i < 0 <;> simp [h1]
    unfold rightB
    simp only [h]
    rfl
  rw [e]
  unfold rightE
  cases rightAt v 0 <;> cases rightAt v 1 <;> cases rightAt v 2 <;> cases rightAt v 3 <;> rfl
theorem right_pure (v : Nat → Int) : PureOk Try.prog 104 [.agg (ivs 8 v)] (.v (.bool (rightB v))) := rightE_eq v ▸ right_pure0 v
theorem view_pure (v : Nat → Int) : PureOk Try.prog 23 [.agg (ivs 8 v)] (.agg (ivs 8 v)) := pure_hitX (cx := cxM2 fun _ _ => none) (cxM2_ok _) rfl (t := .ret (.agg (ivs 8 v))) (by kernel_rfl) rfl (by kernel_rfl)
def badR (x : RIt) : List AV := badC ⟨x.loc, 0, 0, x.n, x.v, x.res, x.own⟩
theorem item_good0 (x : RIt) : ((evs (cxM2 (decM [(16,false)])) 60).call 56 [.agg x.cells] .nil).ans = .side ((!okS x.p x.q) = false) (.ret (.agg (itv x.loc (spv (partS x.p x.q x.p) (partS x.p x.q x.q)) x.n x.v x.res x.own))) := by kernel_rfl
theorem item_bad0 (x : RIt) : ((evs (cxM2 (decM [(16,true)])) 60).call 56 [.agg x.cells] .nil).ans = .side ((!okS x.p x.q) = true) (.ret (.agg (badR x))) := by kernel_rfl
theorem item_good {x : RIt} (h : okS x.p x.q = true) : PureOk Try.prog 56 [.agg x.cells] (.agg (toIt x).cells) := by
  have e : (toIt x).cells = itv x.loc (spv (partS x.p x.q x.p) (partS x.p x.q x.q)) x.n x.v x.res x.own := by
    unfold partS
    rw [h]; rfl
  rw [e]
  exact pure_hitX (cx := cxM2 (decM [(16,false)])) (cxM2_ok _) rfl (item_good0 x) ⟨by rw [h]; rfl, rfl⟩ (by kernel_rfl)
theorem item_bad {x : RIt} (h : okS x.p x.q = false) : PureOk Try.prog 56 [.agg x.cells] (.agg (badR x)) :=
  pure_hitX (cx := cxM2 (decM [(16,true)])) (cxM2_ok _) rfl (item_bad0 x) ⟨by rw [h]; rfl, rfl⟩ (by kernel_rfl)
/-- The places that a loop of four comes to. -/
def wz : Nat → Int
  | 0 => 0
  | k + 1 => IntKind.i64.wrap (wz k + 1)
def okE (m : PM) (i : Nat) (t : Int) : Bool := if (atM (pmR m) (wz i) t).isSome = true then true else if (!locE m.n (wz i)) = true then t == 0 else false
def closedE (m : PM) (v : Nat → Int) : Bool :=
  if (if (if (if (if (if (if okE m 0 (v 0) = true then okE m 0 (v 4) else false) = true then okE m 1 (v 1) else false) = true then okE m 1 (v 5) else false) = true then okE m 2 (v 2) else false) = true then okE m 2 (v 6) else false) = true then okE m 3 (v 3) else false) = true then okE m 3 (v 7) else false
theorem closed0 (m : PM) (v : Nat → Int) : ((evs (cxM3 fun _ _ => none) 60).call 73 [memA m, .agg (ivs 8 v)] .nil).frz =
    (.side (PmInR m) <| .side (PmInR m) <| .side (PmInR m) <| .side (PmInR m) <| .side (PmInR m) <| .side (PmInR m) <| .side (PmInR m) <| .side (PmInR m) <| .ret (.v (.bool (closedE m v)))) := by kernel_rfl
theorem wz_eq : wz 0 = 0 ∧ wz 1 = 1 ∧ wz 2 = 2 ∧ wz 3 = 3 := by decide
theorem closedE_eq {m : PM} (h : PmFit m) (v : Nat → Int) : closedE m v = closedM m v := by
  have e : ∀ i t, i < 4 → okE m i t = okAt m i t := fun i t hi => by
    have hw : wz i = i := by
      obtain ⟨h0, h1, h2, h3⟩ := wz_eq
      have : i = 0 ∨ i = 1 ∨ i = 2 ∨ i = 3 := by omega
      rcases this with rfl | rfl | rfl | rfl
      · exact h0
      · exact h1
      · exact h2
      · exact h3
    unfold okE okAt
    rw [pmR_eq h, hw]
    cases (atM m i t).isSome <;> cases locE m.n i <;> simp
  unfold closedE
  rw [e 0 _ (by decide), e 0 _ (by decide), e 1 _ (by decide), e 1 _ (by decide), e 2 _ (by decide), e 2 _ (by decide), e 3 _ (by decide), e 3 _ (by decide)]
  have e2 : closedM m v = ((okAt m 0 (v 0) && okAt m 0 (v 4)) && ((okAt m 1 (v 1) && okAt m 1 (v 5)) && ((okAt m 2 (v 2) && okAt m 2 (v 6)) && ((okAt m 3 (v 3) && okAt m 3 (v 7)) && true)))) := rfl
  rw [e2]
  cases okAt m 0 (v 0) <;> cases okAt m 0 (v 4) <;> cases okAt m 1 (v 1) <;> cases okAt m 1 (v 5) <;> cases okAt m 2 (v 2) <;> cases okAt m 2 (v 6) <;> cases okAt m 3 (v 3) <;> cases okAt m 3 (v 7) <;> rfl
theorem closed_frz {m : PM} (h : PmFit m) (v : Nat → Int) : FrzOk Try.prog 73 [memA m, .agg (ivs 8 v)] (.v (.bool (closedM m v))) := by
  rw [← closedE_eq h]
  have hi := pmInR h
  exact frz_ev (cxM3_ok _) fitTry (closed0 m v) ⟨hi, hi, hi, hi, hi, hi, hi, hi, fun E v h => h⟩
/-! Rows of the document's items. -/
def getR (L : List RIt) : Nat → List AV := fun i => (L.getD i rz).cells
def rowR (L : List RIt) : AV := .sl L.length 14 (getR L) false false
def refA (N : Int) (L : List RIt) : AV := .agg [iv N, rowR L]
def rlstOf (n : Nat) (get : Nat → List AV) : List RIt := (List.range n).map fun i => ritOf (get i)
def RowRk (n : Nat) (get : Nat → List AV) : Prop := n ≤ 1000 ∧ ∀ i, i < n → IsR (get i)
def OkR (L : List RIt) : Prop := L.length ≤ 1000 ∧ ∀ x ∈ L, RVz x
theorem OkR.get {L : List RIt} (h : OkR L) {i : Nat} (hi : i < L.length) : RVz (L.getD i rz) := by
  have : L.getD i rz = L[i] := by simp [List.getD, hi]
  rw [this]; exact h.2 _ (List.getElem_mem hi)
theorem rlstOf_getR {L : List RIt} (h : OkR L) : rlstOf L.length (getR L) = L := by
  unfold rlstOf getR
  apply List.ext_getElem
  · simp
  · intro i h1 h2
    rw [List.getElem_map, List.getElem_range, ritOf_cells (h.get h2)]
    simp [List.getD, h2]
theorem rowRk_getR {L : List RIt} (h : OkR L) : RowRk L.length (getR L) := ⟨h.1, fun _ hi => isR (h.get hi)⟩
theorem rlstOf_get {n : Nat} {get : Nat → List AV} {i : Nat} (h : i < n) : (rlstOf n get).getD i rz = ritOf (get i) := by
  unfold rlstOf
  simp [List.getD, h]
theorem rlstOf_ok {n : Nat} {get : Nat → List AV} (h : RowRk n get) : OkR (rlstOf n get) := by
  refine ⟨by unfold rlstOf; simpa using h.1, fun y hy => ?_⟩
  obtain ⟨i, hi, rfl⟩ := List.mem_map.1 hy
  exact rvz_ritOf _
theorem rowR_of {E : Env} {n : Nat} {get : Nat → List AV} {nl full : Bool} {v : Value} (h : RowRk n get) (hv : Rep E (.sl n 14 get nl full) v) : Rep E (rowR (rlstOf n get)) v := by
  have e : (rlstOf n get).length = n := by simp [rlstOf]
  show Rep E (.sl (rlstOf n get).length 14 (fun i => ((rlstOf n get).getD i rz).cells) false false) v
  rw [e]
  refine hv.sl_congr fun i hi => ?_
  rw [rlstOf_get hi]
  exact h.2 i hi
end
end Go.Proofs.Ytkmhabbpndcnkaa

/-
  PART: memory, the document's: owned, At, Add (loops).
-/
namespace Go.Proofs.Ytkmhabbpndcnkaa
open Go.RowKit
noncomputable section
def lenR (L : List RIt) : Int := (L.length : Int)
/-! owned -/
noncomputable def c103 : Code := codeOf Try.f103
noncomputable def a103 : Code := cl (cl (behind 1 c103))
noncomputable def body103 : Code := cin (cin (cr (cl (behind 1 c103))))
noncomputable def tail103 : Code := cr (behind 1 c103)
def ds103 : List (Nat × Bool) := [(1, false), (2, false), (3, false), (4, false), (5, false), (11, true)]
def inv103 (N : Int) (L : List RIt) (loc to o : Int) (res : Bool) (i : AV) : St := { sl := [(1, iv loc), (2, iv to), (3, iv o), (4, .v (.bool res)), (5, .ptr 0 0), (11, i)], hp := [(0, some (.fix 83 [iv N, rowR L]))], nx := 1, rd := [], wr := [], ws := [], wb := [] }
def st103 (N : Int) (L : List RIt) (loc to o : Int) (res : Bool) : St := { sl := [(1, iv loc), (2, iv to), (3, iv o), (4, .v (.bool res)), (5, .ptr 0 0)], hp := [(0, some (.fix 83 [iv N, rowR L]))], nx := 1, rd := [], wr := [], ws := [], wb := [] }
theorem pre103 (N : Int) (L : List RIt) (loc to o : Int) (res : Bool) : ((codeE (cxM2 fun _ _ => none) (evs (cxM2 fun _ _ => none) 60) (joins (firsts 1 c103)) (entry [refA N L, iv loc, iv to, iv o, .v (.bool res)])).map (lfR 0 [(1, false), (2, false), (3, false), (4, false), (5, false)] true (resF Try.prog Try.f103.results.toList))) = .ret (.go .norm (some (st103 N L loc to o res))) := by kernel_rfl
theorem init103 (N : Int) (L : List RIt) (loc to o : Int) (res : Bool) : ((codeE (cxM2 fun _ _ => none) (evs (cxM2 fun _ _ => none) 60) a103 (st103 N L loc to o res)).map (lfR 0 ds103 true (resF Try.prog Try.f103.results.toList))) = .ret (.go .norm (some (inv103 N L loc to o res (iv 0)))) := by kernel_rfl
def ownE (loc to o : Int) (res : Bool) (x : RIt) : Bool := if decide (o ≥ 0) = true then (if (x.loc == loc) = true then (if (x.q == to) = true then (if (x.own == o) = true then x.res == res else false) else false) else false) else false
theorem rnd103 (N : Int) (L : List RIt) (loc to o : Int) (res : Bool) (i : Int) : ((codeE (cxM2 fun _ _ => none) (evs (cxM2 fun _ _ => none) 60) body103 (inv103 N L loc to o res (iv i))).map (lfR 0 ds103 true (resF Try.prog Try.f103.results.toList))) =
    .br (decide (i < lenR L)) (.side (0 ≤ i ∧ i < lenR L) (.br (ownE loc to o res (L.getD i.toNat rz)) (.ret (.out (iv i))) (.ret (.go .norm (some (inv103 N L loc to o res (iv (IntKind.i64.wrap (i + 1))))))))) (.ret (.go (.exit 0) (some (inv103 N L loc to o res (iv i))))) := by kernel_rfl
theorem end103 (N : Int) (L : List RIt) (loc to o : Int) (res : Bool) (i : Int) : ((codeE (cxM2 fun _ _ => none) (evs (cxM2 fun _ _ => none) 60) tail103 (inv103 N L loc to o res (iv i))).map (lfR 0 [] false (resF Try.prog Try.f103.results.toList))) = .ret (.out (.lit (.int .i64 (-1)))) := by kernel_rfl
theorem code103 : c103 = seqs (firsts 1 c103) (.seq (.seq a103 (.block 0 (.loop body103))) tail103) := by kernel_rfl
theorem ownE_eq (loc to o : Int) (res : Bool) (x : RIt) : ownE loc to o res x = ownedB loc to o res x := by
  unfold ownE ownedB
  cases decide (o ≥ 0) <;> cases (x.loc == loc) <;> cases (x.q == to) <;> cases (x.own == o) <;> simp
theorem getD_mem {L : List RIt} {i : Nat} (h : i < L.length) : L.getD i rz ∈ L := by
  have : L.getD i rz = L[i] := by simp [List.getD, h]
  rw [this]; exact List.getElem_mem h
/-- The first place, from a place on. -/
theorem findI_from {f : RIt → Bool} : ∀ {L : List RIt} {i : Nat}, i < L.length → (∀ j, j < i → f (L.getD j rz) = false) → f (L.getD i rz) = true → findI f L = i
  | x :: L, 0, _, _, h => by
    have h : f x = true := h
    rw [findI_cons, if_pos h]; rfl
  | x :: L, i + 1, hi, h0, h => by
    have hx : f x = false := h0 0 (Nat.succ_pos _)
    have ih := findI_from (f := f) (L := L) (i := i) (by simpa using hi) (fun j hj => h0 (j + 1) (by omega)) h
    rw [findI_cons, if_neg (by rw [hx]; simp), ih, if_neg (by omega)]; omega
theorem findI_none {f : RIt → Bool} {L : List RIt} (h : ∀ j, j < L.length → f (L.getD j rz) = false) : findI f L = -1 := by
  have h2 : findI f L < 0 := findI_neg.2 fun x hx => by
    obtain ⟨i, hi, rfl⟩ := List.getElem_of_mem hx
    have := h i hi
    simpa [List.getD, hi] using this
  have := findI_lo f L
  omega
theorem owned_ref (N : Int) {L : List RIt} (hL : L.length ≤ 1000) (loc to o : Int) (res : Bool) : FrzOk Try.prog 103 [refA N L, iv loc, iv to, iv o, .v (.bool res)] (iv (findI (ownedB loc to o res) L)) := by
  refine frz_loop fitTry Try.func103 (c := c103) (by kernel_rfl) (by kernel_rfl) (O := fun a => ∀ E v, Rep E a v → Rep E (iv (findI (ownedB loc to o res) L)) v) (cx := cxM2 fun _ _ => none) (cxM2_ok _) rfl (n := 60) code103 (by kernel_rfl) (by kernel_rfl) (ds0 := [(1, false), (2, false), (3, false), (4, false), (5, false)]) (gb0 := true) (s1 := st103 N L loc to o res) (ds := ds103) (gb := true)
    (fun i : Nat => inv103 N L loc to o res (iv i)) (fun i => i ≤ L.length ∧ ∀ j, j < i → ownedB loc to o res (L.getD j rz) = false) (fun i => L.length - i) (fun s => ∃ i : Nat, s = inv103 N L loc to o res (iv i) ∧ findI (ownedB loc to o res) L = -1) ?_ ?_ ?_ ?_ fun a h => h
  · rw [pre103]; exact ⟨rfl, rfl⟩
  · rw [init103]; exact ⟨rfl, 0, fun _ _ => .refl _, Nat.zero_le _, fun j hj => absurd hj (Nat.not_lt_zero j)⟩
  · intro B hB i hJ
    have h1 := hJ.1
    have h2 := hJ.2
    rw [rnd103 N L loc to o res i]
    have hl : lenR L = (L.length : Int) := rfl
    refine ⟨fun hlt => ?_, fun hge => ?_⟩
    · have hlt := of_decide_eq_true hlt
      refine ⟨⟨by omega, hlt⟩, fun hp => ?_, fun hp => ?_⟩
      · rw [ownE_eq, Int.toNat_natCast] at hp
        intro E v hv
        rw [findI_from (by omega) h2 hp]; exact hv
      · rw [ownE_eq, Int.toNat_natCast] at hp
        rw [IntWalk.i64_in _ (by omega)]
        refine ⟨i + 1, .refl _, ⟨by omega, fun j hj => ?_⟩, by show L.length - (i + 1) < L.length - i; omega⟩
        by_cases e : j = i
        · subst e; exact hp
        · exact h2 j (by omega)
    · have hge := of_decide_eq_false hge
      exact ⟨rfl, _, .refl _, i, rfl, findI_none fun j hj => h2 j (by omega)⟩
  · rintro s ⟨i, rfl, h⟩
    rw [end103]
    intro E v hv
    rw [h]; exact rep_lit hv
/-! At -/
noncomputable def c72 : Code := codeOf Try.f72
noncomputable def a72 : Code := cl (cl (behind 1 c72))
noncomputable def body72 : Code := cin (cin (cr (cl (behind 1 c72))))
noncomputable def tail72 : Code := cr (behind 1 c72)
theorem code72 : c72 = seqs (firsts 1 c72) (.seq (.seq a72 (.block 0 (.loop body72))) tail72) := by kernel_rfl
def zR : AV := .agg [.lit (.int .i64 0), .lit (.int .i64 0), .lit (.int .i64 0), .lit (.int .u64 0), .lit (.int .i64 0), .lit (.int .i64 0), .lit (.int .i64 0), .lit (.int .i64 0), .lit (.int .i64 0), .lit (.int .i64 0), .lit (.int .i64 0), .lit (.int .i64 0), .lit (.bool false), .lit (.int .i64 0)]
def ds72 : List (Nat × Bool) := [(1, false), (2, false), (3, false), (6, false), (8, true)]
def inv72 (N : Int) (L : List RIt) (loc to : Int) (i : Int) : St := { sl := [(1, iv loc), (2, iv to), (3, .ptr 0 0), (6, .ptr 1 0), (8, iv i)], hp := [(0, some (.fix 83 [iv N, rowR L])), (1, some (.fix 96 rz.cells))], nx := 2, rd := [], wr := [], ws := [], wb := [] }
def st72 (N : Int) (L : List RIt) (loc to : Int) : St := { sl := [(1, iv loc), (2, iv to), (3, .ptr 0 0), (6, .ptr 1 0)], hp := [(0, some (.fix 83 [iv N, rowR L])), (1, some (.fix 96 rz.cells))], nx := 2, rd := [], wr := [], ws := [], wb := [] }
theorem pre72 (N : Int) (L : List RIt) (loc to : Int) : ((codeE (cxM2 fun _ _ => none) (evs (cxM2 fun _ _ => none) 60) (joins (firsts 1 c72)) (entry [refA N L, iv loc, iv to])).map (lfR 0 [(1, false), (2, false), (3, false), (6, false)] true (resF Try.prog Try.f72.results.toList))) = .ret (.go .norm (some (st72 N L loc to))) := by kernel_rfl
theorem init72 (N : Int) (L : List RIt) (loc to : Int) : ((codeE (cxM2 fun _ _ => none) (evs (cxM2 fun _ _ => none) 60) a72 (st72 N L loc to)).map (lfR 0 ds72 true (resF Try.prog Try.f72.results.toList))) = .ret (.go .norm (some (inv72 N L loc to 0))) := by kernel_rfl
def atER (loc to : Int) (x : RIt) : Bool := if (x.loc == loc) = true then (if (x.q == to) = true then !x.res else false) else false
def atT (L : List RIt) (i : Int) (c1 c2 : Prop) (t : Tree Lf) : Tree Lf := .side (0 ≤ i ∧ i < lenR L) (.side (c1 → 0 ≤ i ∧ i < lenR L) (.side (c2 → 0 ≤ i ∧ i < lenR L) t))
end
end Go.Proofs.Ytkmhabbpndcnkaa
