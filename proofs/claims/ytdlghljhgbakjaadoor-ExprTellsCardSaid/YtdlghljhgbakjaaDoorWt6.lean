/-
  PARTS, one behind the other: EA EO ER EB.
-/
import Derived.Test.YtdlghljhgbakjaaDoorWt5
/-
  PART: how a tree is written: the contract.
-/
namespace Go.Proofs.YtdlghljhgbakjaaDoor
open Go.RowKit
theorem rep_cellO {E : Env} {k op n t i x : Int} {l r : Tr} {a b : AV} {v : Value} (ha : ∀ E u, Rep E (anyT l) u → Rep E a u) (hb : ∀ E u, Rep E (anyT r) u → Rep E b u)
    (h : Rep E (anyT (.nd k op n t i x l r)) v) : Rep E (cellO k op n t i x a b) v := by
  have h1 : Rep E (cellK (lkA k) op n t i x a b) v := rep_cell k_lit ha hb h
  refine rep_fz_map h1 rfl fun vs hr => ?_
  cases hr with | cons h0 hr => cases hr with | cons h1 hr =>
  exact .cons h0 (.cons (k_lit _ _ h1) hr)
theorem pre_cellO {f : Nat} {k op n t i x : Int} {l r : Tr} {a b : AV} {rest : List AV} {ans : AV} (ha : ∀ E u, Rep E (anyT l) u → Rep E a u) (hb : ∀ E u, Rep E (anyT r) u → Rep E b u)
    (h : PureOk Tryd.prog f (cellO k op n t i x a b :: rest) ans) : PureOk Tryd.prog f (anyT (.nd k op n t i x l r) :: rest) ans :=
  h.pre fun E vs hr => by cases hr with | cons h1 h2 => exact .cons (rep_cellO ha hb h1) h2
theorem s_ok {f : Nat} {args : List AV} {s : ByteArray} {l : Bs} (h : PureOk Tryd.prog f args (.v (.string s))) (e : s = B l) : PureOk Tryd.prog f args (.v (bytesV l)) := by
  subst e; exact h
theorem part_ok {t : Tr} (h : GT t) (hT : PureOk Tryd.prog 46 [anyT t] (.v (bytesV (text t)))) (hlen : (text t).length ≤ 2 ^ 62) (z : Int) (hz : 0 ≤ z) : PureOk Tryd.prog 92 [anyT t, .lit (.int .i64 z)] (.v (bytesV (paren (decide (str t < z.toNat)) (text t)))) := by
  cases t with
  | nil => cases h
  | nd k op n t i x l r =>
    have hs := strI_eq h
    have e1 : TX k op n t i x l r = text (.nd k op n t i x l r) := by rw [TX, dec1_op1]
    have hT' : PureOk Tryd.prog 46 [op1 (.nd k op n t i x l r)] (.v (bytesV (TX k op n t i x l r))) := by
      rw [e1]
      exact hT.pre fun E vs hr => by cases hr with | cons h1 h2 => exact .cons (rep_un1 h1) h2
    by_cases hc : strI k op < z
    · have hd : decide (str (.nd k op n t i x l r) < z.toNat) = true := decide_eq_true (by omega)
      rw [hd]
      refine s_ok (pre_op1 (pure_hitX (cxT_ok _) rfl (ev92t k op n t i x z l r) ⟨decide_eq_true hc, hT', ?_, ?_, rfl⟩ (by kernel_rfl))) ?_
      · rw [B_size, B_size, e1]; simp only [List.length_cons, List.length_nil]; unfold big; omega
      · rw [B_app, B_size, B_size, e1]; simp only [List.length_append, List.length_cons, List.length_nil]; unfold big; omega
      · rw [B_app, B_app, e1]; rfl
    · have hd : decide (str (.nd k op n t i x l r) < z.toNat) = false := decide_eq_false (by omega)
      rw [hd]
      have := pre_op1 (pure_hitX (cxT_ok _) rfl (ev92f k op n t i x z l r) ⟨decide_eq_false hc, hT', rfl⟩ (by kernel_rfl))
      rw [e1] at this
      exact this
theorem paren_len (b : Bool) (s : Bs) : s.length ≤ (paren b s).length ∧ (paren b s).length ≤ s.length + 2 := by
  unfold paren
  split
  · simp only [List.length_cons, List.length_append, List.length_nil]; omega
  · omega
/-- Numbers are written so. -/
def FmtOk : Prop := (∀ n : Int, 0 ≤ n → n ≤ 18446744073709551615 → PureOk Tryd.prog 87 [.v (.int .u64 n), .lit (.int .i64 10)] (.v (bytesV (dig n.toNat)))) ∧ (∀ i : Int, 0 ≤ i → i < 8 → PureOk Tryd.prog 90 [.v (.int .i64 i)] (.v (bytesV (dig i.toNat))))
theorem enc_ok {x : Int} (h1 : 97 ≤ x) (h2 : x ≤ 122) : Utf8.encode (IntKind.i32.wrap x) = B [UInt8.ofNat x.toNat] := by
  rw [IntWalk.i32_in _ ⟨by omega, by omega⟩]
  have key : ∀ k : Fin 26, Utf8.encode (97 + (k.val : Int)) = B [UInt8.ofNat (97 + (k.val : Int)).toNat] := by decide
  have := key ⟨(x - 97).toNat, by omega⟩
  have e : 97 + (((x - 97).toNat : Nat) : Int) = x := by omega
  have this : Utf8.encode (97 + (((x - 97).toNat : Nat) : Int)) = B [UInt8.ofNat (97 + (((x - 97).toNat : Nat) : Int)).toNat] := this
  rw [e] at this
  exact this
theorem text_ok (hF : FmtOk) {t : Tr} (h : GT t) : nOk t → (text t).length ≤ 2 ^ 62 → PureOk Tryd.prog 46 [anyT t] (.v (bytesV (text t))) := by
  induction h with
  | num n h =>
    intro hn _
    rw [text_num]
    exact pre_cell k_lit a_nil a_nil (pure_hitX (cxT_ok _) rfl (ev46_0 0 n 0 0 0) ⟨hF.1 n h hn.1, rfl⟩ (by kernel_rfl))
  | reg i h1 h2 =>
    intro _ hlen
    rw [text_reg] at hlen ⊢
    have hw : wr i = i := wr_in (by omega) (by omega)
    refine s_ok (pre_cell k_lit a_nil a_nil (pure_hitX (cxT_ok _) rfl (ev46_1 0 0 0 i 0) ⟨?_, ?_, rfl⟩ (by kernel_rfl))) ?_
    · rw [hw]; exact hF.2 i h1 h2
    · rw [B_size, B_size, hw]; simp only [DG, big, List.length_cons, List.length_nil] at hlen ⊢; omega
    · rw [B_app, hw]; rfl
  | of t i h1 h2 h3 h4 =>
    intro _ hlen
    rw [text_of] at hlen ⊢
    have hw : wr i = i := wr_in (by omega) (by omega)
    have hv : wr t = t := wr_in (by omega) (by omega)
    simp only [List.length_append, List.length_cons] at hlen
    refine s_ok (pre_cell k_lit a_nil a_nil (pure_hitX (cxT_ok _) rfl (ev46_2 0 0 t i 0) ⟨?_, ?_, ?_, ?_, rfl⟩ (by kernel_rfl))) ?_
    · rw [hv]; exact hF.2 t h1 (by omega)
    · rw [B_size, B_size, hv]; simp only [DG, big, List.length_cons, List.length_nil]; omega
    · rw [hw]; exact hF.2 i h3 h4
    · rw [B_app, B_size, B_size, hw, hv]; simp only [DG, big, List.length_append, List.length_cons, List.length_nil]; omega
    · rw [B_app, B_app, hw, hv]; simp
  | loc x h1 h2 h3 =>
    intro _ _
    rw [text_loc]
    exact s_ok (pre_cell k_lit a_nil a_nil (pure_hitX (cxT_ok _) rfl (ev46_3 0 0 0 0 x) rfl (by kernel_rfl))) (enc_ok h1 h2)
  | one op l h1 h2 hl ih =>
    intro hn hlen
    rw [text_one] at hlen ⊢
    have hp := paren_len (decide (str l < 4)) (text l)
    simp only [List.length_append] at hlen
    have hpart := part_ok hl (ih hn.2.1 (by omega)) (by omega) 4 (by omega)
    have ePT : PT l 4 = paren (decide (str l < 4)) (text l) := by rw [PT, treeOf_tr]; rfl
    have hPO : PO l 4 := by unfold PO; rw [ePT]; exact hpart
    have : op = 13 ∨ op = 14 := by omega
    rcases this with rfl | rfl
    · refine s_ok (pre_cellO a_any a_nil (pure_hitX (cxT_ok _) rfl (ev46_4_13 0 0 0 0 l) ⟨hPO, ?_, rfl⟩ (by kernel_rfl))) ?_
      · rw [B_size, B_size, ePT]; simp only [List.length_cons, List.length_nil]; unfold big; omega
      · rw [B_app, ePT]; rfl
    · refine s_ok (pre_cellO a_any a_nil (pure_hitX (cxT_ok _) rfl (ev46_4_14 0 0 0 0 l) ⟨hPO, ?_, rfl⟩ (by kernel_rfl))) ?_
      · rw [B_size, B_size, ePT]; simp only [List.length_cons, List.length_nil]; unfold big; omega
      · rw [B_app, ePT]; rfl
  | two op l r h1 h2 hl hr ihl ihr =>
    intro hn hlen
    have hlen' := hlen
    rw [text_two] at hlen'
    have hp := paren_len (decide (str l < strO op)) (text l)
    have hq := paren_len (decide (str r < strO op + 1)) (text r)
    simp only [List.length_append, List.length_cons] at hlen'
    have il := ihl hn.2.1 (by omega)
    have ir := ihr hn.2.2 (by omega)
    have hll : (text l).length ≤ 2 ^ 62 := by omega
    have hrr : (text r).length ≤ 2 ^ 62 := by omega
    clear ihl ihr
    rw [text_two]
    have h : op = 1 ∨ op = 2 ∨ op = 3 ∨ op = 4 ∨ op = 5 ∨ op = 6 ∨ op = 7 ∨ op = 8 ∨ op = 9 ∨ op = 10 ∨ op = 11 ∨ op = 12 := by omega
    rcases h with rfl | rfl | rfl | rfl | rfl | rfl | rfl | rfl | rfl | rfl | rfl | rfl
    · have eL : PT l 1 = paren (decide (str l < strO 1)) (text l) := by rw [PT, treeOf_tr]; rfl
      have eR : PT r 2 = paren (decide (str r < strO 1 + 1)) (text r) := by rw [PT, treeOf_tr]; rfl
      have pL : PO l 1 := by unfold PO; rw [eL]; exact part_ok hl il hll 1 (by omega)
      have pR : PO r 2 := by unfold PO; rw [eR]; exact part_ok hr ir hrr 2 (by omega)
      rw [← eL, ← eR] at hlen' ⊢
      refine s_ok (pre_cellO a_any a_any (pure_hitX (cxT_ok _) rfl (ev46_5_1 0 0 0 0 l r) ⟨pL, ?_, ?_, ?_, pR, ?_, rfl⟩ (by kernel_rfl))) ?_
      · simp only [B_app, B_size, List.length_append, List.length_cons, List.length_nil]; unfold big; omega
      · simp only [B_app, B_size, List.length_append, List.length_cons, List.length_nil]; unfold big; omega
      · simp only [B_app, B_size, List.length_append, List.length_cons, List.length_nil]; unfold big; omega
      · simp only [B_app, B_size, List.length_append, List.length_cons, List.length_nil]; unfold big; omega
      · simp only [B_app, List.append_assoc]; rfl
    · have eL : PT l 1 = paren (decide (str l < strO 2)) (text l) := by rw [PT, treeOf_tr]; rfl
      have eR : PT r 2 = paren (decide (str r < strO 2 + 1)) (text r) := by rw [PT, treeOf_tr]; rfl
      have pL : PO l 1 := by unfold PO; rw [eL]; exact part_ok hl il hll 1 (by omega)
      have pR : PO r 2 := by unfold PO; rw [eR]; exact part_ok hr ir hrr 2 (by omega)
      rw [← eL, ← eR] at hlen' ⊢
      refine s_ok (pre_cellO a_any a_any (pure_hitX (cxT_ok _) rfl (ev46_5_2 0 0 0 0 l r) ⟨pL, ?_, ?_, ?_, pR, ?_, rfl⟩ (by kernel_rfl))) ?_
      · simp only [B_app, B_size, List.length_append, List.length_cons, List.length_nil]; unfold big; omega
      · simp only [B_app, B_size, List.length_append, List.length_cons, List.length_nil]; unfold big; omega
      · simp only [B_app, B_size, List.length_append, List.length_cons, List.length_nil]; unfold big; omega
      · simp only [B_app, B_size, List.length_append, List.length_cons, List.length_nil]; unfold big; omega
      · simp only [B_app, List.append_assoc]; rfl
    · have eL : PT l 1 = paren (decide (str l < strO 3)) (text l) := by rw [PT, treeOf_tr]; rfl
      have eR : PT r 2 = paren (decide (str r < strO 3 + 1)) (text r) := by rw [PT, treeOf_tr]; rfl
      have pL : PO l 1 := by unfold PO; rw [eL]; exact part_ok hl il hll 1 (by omega)
      have pR : PO r 2 := by unfold PO; rw [eR]; exact part_ok hr ir hrr 2 (by omega)
      rw [← eL, ← eR] at hlen' ⊢
      refine s_ok (pre_cellO a_any a_any (pure_hitX (cxT_ok _) rfl (ev46_5_3 0 0 0 0 l r) ⟨pL, ?_, ?_, ?_, pR, ?_, rfl⟩ (by kernel_rfl))) ?_
      · simp only [B_app, B_size, List.length_append, List.length_cons, List.length_nil]; unfold big; omega
      · simp only [B_app, B_size, List.length_append, List.length_cons, List.length_nil]; unfold big; omega
      · simp only [B_app, B_size, List.length_append, List.length_cons, List.length_nil]; unfold big; omega
      · simp only [B_app, B_size, List.length_append, List.length_cons, List.length_nil]; unfold big; omega
      · simp only [B_app, List.append_assoc]; rfl
    · have eL : PT l 1 = paren (decide (str l < strO 4)) (text l) := by rw [PT, treeOf_tr]; rfl
      have eR : PT r 2 = paren (decide (str r < strO 4 + 1)) (text r) := by rw [PT, treeOf_tr]; rfl
      have pL : PO l 1 := by unfold PO; rw [eL]; exact part_ok hl il hll 1 (by omega)
      have pR : PO r 2 := by unfold PO; rw [eR]; exact part_ok hr ir hrr 2 (by omega)
      rw [← eL, ← eR] at hlen' ⊢
      refine s_ok (pre_cellO a_any a_any (pure_hitX (cxT_ok _) rfl (ev46_5_4 0 0 0 0 l r) ⟨pL, ?_, ?_, ?_, pR, ?_, rfl⟩ (by kernel_rfl))) ?_
      · simp only [B_app, B_size, List.length_append, List.length_cons, List.length_nil]; unfold big; omega
      · simp only [B_app, B_size, List.length_append, List.length_cons, List.length_nil]; unfold big; omega
      · simp only [B_app, B_size, List.length_append, List.length_cons, List.length_nil]; unfold big; omega
      · simp only [B_app, B_size, List.length_append, List.length_cons, List.length_nil]; unfold big; omega
      · simp only [B_app, List.append_assoc]; rfl
    · have eL : PT l 2 = paren (decide (str l < strO 5)) (text l) := by rw [PT, treeOf_tr]; rfl
      have eR : PT r 3 = paren (decide (str r < strO 5 + 1)) (text r) := by rw [PT, treeOf_tr]; rfl
      have pL : PO l 2 := by unfold PO; rw [eL]; exact part_ok hl il hll 2 (by omega)
      have pR : PO r 3 := by unfold PO; rw [eR]; exact part_ok hr ir hrr 3 (by omega)
      rw [← eL, ← eR] at hlen' ⊢
      refine s_ok (pre_cellO a_any a_any (pure_hitX (cxT_ok _) rfl (ev46_5_5 0 0 0 0 l r) ⟨pL, ?_, ?_, ?_, pR, ?_, rfl⟩ (by kernel_rfl))) ?_
      · simp only [B_app, B_size, List.length_append, List.length_cons, List.length_nil]; unfold big; omega
      · simp only [B_app, B_size, List.length_append, List.length_cons, List.length_nil]; unfold big; omega
      · simp only [B_app, B_size, List.length_append, List.length_cons, List.length_nil]; unfold big; omega
      · simp only [B_app, B_size, List.length_append, List.length_cons, List.length_nil]; unfold big; omega
      · simp only [B_app, List.append_assoc]; rfl
    · have eL : PT l 2 = paren (decide (str l < strO 6)) (text l) := by rw [PT, treeOf_tr]; rfl
      have eR : PT r 3 = paren (decide (str r < strO 6 + 1)) (text r) := by rw [PT, treeOf_tr]; rfl
      have pL : PO l 2 := by unfold PO; rw [eL]; exact part_ok hl il hll 2 (by omega)
      have pR : PO r 3 := by unfold PO; rw [eR]; exact part_ok hr ir hrr 3 (by omega)
      rw [← eL, ← eR] at hlen' ⊢
      refine s_ok (pre_cellO a_any a_any (pure_hitX (cxT_ok _) rfl (ev46_5_6 0 0 0 0 l r) ⟨pL, ?_, ?_, ?_, pR, ?_, rfl⟩ (by kernel_rfl))) ?_
      · simp only [B_app, B_size, List.length_append, List.length_cons, List.length_nil]; unfold big; omega
      · simp only [B_app, B_size, List.length_append, List.length_cons, List.length_nil]; unfold big; omega
      · simp only [B_app, B_size, List.length_append, List.length_cons, List.length_nil]; unfold big; omega
      · simp only [B_app, B_size, List.length_append, List.length_cons, List.length_nil]; unfold big; omega
      · simp only [B_app, List.append_assoc]; rfl
    · have eL : PT l 2 = paren (decide (str l < strO 7)) (text l) := by rw [PT, treeOf_tr]; rfl
      have eR : PT r 3 = paren (decide (str r < strO 7 + 1)) (text r) := by rw [PT, treeOf_tr]; rfl
      have pL : PO l 2 := by unfold PO; rw [eL]; exact part_ok hl il hll 2 (by omega)
      have pR : PO r 3 := by unfold PO; rw [eR]; exact part_ok hr ir hrr 3 (by omega)
      rw [← eL, ← eR] at hlen' ⊢
      refine s_ok (pre_cellO a_any a_any (pure_hitX (cxT_ok _) rfl (ev46_5_7 0 0 0 0 l r) ⟨pL, ?_, ?_, ?_, pR, ?_, rfl⟩ (by kernel_rfl))) ?_
      · simp only [B_app, B_size, List.length_append, List.length_cons, List.length_nil]; unfold big; omega
      · simp only [B_app, B_size, List.length_append, List.length_cons, List.length_nil]; unfold big; omega
      · simp only [B_app, B_size, List.length_append, List.length_cons, List.length_nil]; unfold big; omega
      · simp only [B_app, B_size, List.length_append, List.length_cons, List.length_nil]; unfold big; omega
      · simp only [B_app, List.append_assoc]; rfl
    · have eL : PT l 2 = paren (decide (str l < strO 8)) (text l) := by rw [PT, treeOf_tr]; rfl
      have eR : PT r 3 = paren (decide (str r < strO 8 + 1)) (text r) := by rw [PT, treeOf_tr]; rfl
      have pL : PO l 2 := by unfold PO; rw [eL]; exact part_ok hl il hll 2 (by omega)
      have pR : PO r 3 := by unfold PO; rw [eR]; exact part_ok hr ir hrr 3 (by omega)
      rw [← eL, ← eR] at hlen' ⊢
      refine s_ok (pre_cellO a_any a_any (pure_hitX (cxT_ok _) rfl (ev46_5_8 0 0 0 0 l r) ⟨pL, ?_, ?_, ?_, pR, ?_, rfl⟩ (by kernel_rfl))) ?_
      · simp only [B_app, B_size, List.length_append, List.length_cons, List.length_nil]; unfold big; omega
      · simp only [B_app, B_size, List.length_append, List.length_cons, List.length_nil]; unfold big; omega
      · simp only [B_app, B_size, List.length_append, List.length_cons, List.length_nil]; unfold big; omega
      · simp only [B_app, B_size, List.length_append, List.length_cons, List.length_nil]; unfold big; omega
      · simp only [B_app, List.append_assoc]; rfl
    · have eL : PT l 3 = paren (decide (str l < strO 9)) (text l) := by rw [PT, treeOf_tr]; rfl
      have eR : PT r 4 = paren (decide (str r < strO 9 + 1)) (text r) := by rw [PT, treeOf_tr]; rfl
      have pL : PO l 3 := by unfold PO; rw [eL]; exact part_ok hl il hll 3 (by omega)
      have pR : PO r 4 := by unfold PO; rw [eR]; exact part_ok hr ir hrr 4 (by omega)
      rw [← eL, ← eR] at hlen' ⊢
      refine s_ok (pre_cellO a_any a_any (pure_hitX (cxT_ok _) rfl (ev46_5_9 0 0 0 0 l r) ⟨pL, ?_, ?_, ?_, pR, ?_, rfl⟩ (by kernel_rfl))) ?_
      · simp only [B_app, B_size, List.length_append, List.length_cons, List.length_nil]; unfold big; omega
      · simp only [B_app, B_size, List.length_append, List.length_cons, List.length_nil]; unfold big; omega
      · simp only [B_app, B_size, List.length_append, List.length_cons, List.length_nil]; unfold big; omega
      · simp only [B_app, B_size, List.length_append, List.length_cons, List.length_nil]; unfold big; omega
      · simp only [B_app, List.append_assoc]; rfl
    · have eL : PT l 3 = paren (decide (str l < strO 10)) (text l) := by rw [PT, treeOf_tr]; rfl
      have eR : PT r 4 = paren (decide (str r < strO 10 + 1)) (text r) := by rw [PT, treeOf_tr]; rfl
      have pL : PO l 3 := by unfold PO; rw [eL]; exact part_ok hl il hll 3 (by omega)
      have pR : PO r 4 := by unfold PO; rw [eR]; exact part_ok hr ir hrr 4 (by omega)
      rw [← eL, ← eR] at hlen' ⊢
      refine s_ok (pre_cellO a_any a_any (pure_hitX (cxT_ok _) rfl (ev46_5_10 0 0 0 0 l r) ⟨pL, ?_, ?_, ?_, pR, ?_, rfl⟩ (by kernel_rfl))) ?_
      · simp only [B_app, B_size, List.length_append, List.length_cons, List.length_nil]; unfold big; omega
      · simp only [B_app, B_size, List.length_append, List.length_cons, List.length_nil]; unfold big; omega
      · simp only [B_app, B_size, List.length_append, List.length_cons, List.length_nil]; unfold big; omega
      · simp only [B_app, B_size, List.length_append, List.length_cons, List.length_nil]; unfold big; omega
      · simp only [B_app, List.append_assoc]; rfl
    · have eL : PT l 3 = paren (decide (str l < strO 11)) (text l) := by rw [PT, treeOf_tr]; rfl
      have eR : PT r 4 = paren (decide (str r < strO 11 + 1)) (text r) := by rw [PT, treeOf_tr]; rfl
      have pL : PO l 3 := by unfold PO; rw [eL]; exact part_ok hl il hll 3 (by omega)
      have pR : PO r 4 := by unfold PO; rw [eR]; exact part_ok hr ir hrr 4 (by omega)
      rw [← eL, ← eR] at hlen' ⊢
      refine s_ok (pre_cellO a_any a_any (pure_hitX (cxT_ok _) rfl (ev46_5_11 0 0 0 0 l r) ⟨pL, ?_, ?_, ?_, pR, ?_, rfl⟩ (by kernel_rfl))) ?_
      · simp only [B_app, B_size, List.length_append, List.length_cons, List.length_nil]; unfold big; omega
      · simp only [B_app, B_size, List.length_append, List.length_cons, List.length_nil]; unfold big; omega
      · simp only [B_app, B_size, List.length_append, List.length_cons, List.length_nil]; unfold big; omega
      · simp only [B_app, B_size, List.length_append, List.length_cons, List.length_nil]; unfold big; omega
      · simp only [B_app, List.append_assoc]; rfl
    · have eL : PT l 3 = paren (decide (str l < strO 12)) (text l) := by rw [PT, treeOf_tr]; rfl
      have eR : PT r 4 = paren (decide (str r < strO 12 + 1)) (text r) := by rw [PT, treeOf_tr]; rfl
      have pL : PO l 3 := by unfold PO; rw [eL]; exact part_ok hl il hll 3 (by omega)
      have pR : PO r 4 := by unfold PO; rw [eR]; exact part_ok hr ir hrr 4 (by omega)
      rw [← eL, ← eR] at hlen' ⊢
      refine s_ok (pre_cellO a_any a_any (pure_hitX (cxT_ok _) rfl (ev46_5_12 0 0 0 0 l r) ⟨pL, ?_, ?_, ?_, pR, ?_, rfl⟩ (by kernel_rfl))) ?_
      · simp only [B_app, B_size, List.length_append, List.length_cons, List.length_nil]; unfold big; omega
      · simp only [B_app, B_size, List.length_append, List.length_cons, List.length_nil]; unfold big; omega
      · simp only [B_app, B_size, List.length_append, List.length_cons, List.length_nil]; unfold big; omega
      · simp only [B_app, B_size, List.length_append, List.length_cons, List.length_nil]; unfold big; omega
      · simp only [B_app, List.append_assoc]; rfl
end Go.Proofs.YtdlghljhgbakjaaDoor

/-
  PART: the law's table: Good, alike, Same, Text.
-/
namespace Go.Proofs.YtdlghljhgbakjaaDoor
open Go.RowKit
def goodE (X : Nat → Itm) (N : Nat) : Bool := if decide ((endT X N N 0).1 ≥ 0) = true then decide ((endT X N N 0).2 ≤ 12) else false
def textB (t : Tr) : Bs := if mayT t = true then text t else []
def sameB (t u : Tr) : Bool := if (if mayT t = true then mayT u else false) = true then sameT t u else false
def alikeB (a b : Itm) : Bool := if a.k = b.k then (if a.k = 0 then a.n == b.n else if a.k = 1 then a.i == b.i else if a.k = 2 then a.t == b.t && a.i == b.i else if a.k = 3 then a.x == b.x else a.op == b.op) else false
noncomputable section
def tabG (X : Nat → Itm) (N : Nat) (f : Nat) (args : List AV) : Option (Tree AV) := match f, args with
  | 22, [r, p] => some (.side (PureOk Tryd.prog 22 [r, p] (ansE X N (intA p))) (.ret (ansE X N (intA p))))
  | 17, [.any φ] => some (ctrT 17 [.any φ] (.v (.bool (mayT (treeOf φ)))))
  | 45, [.any φ, .any ψ] => some (ctrT 45 [.any φ, .any ψ] (.v (.bool (sameT (treeOf φ) (treeOf ψ)))))
  | 46, [.any φ] => some (ctrT 46 [.any φ] (.v (bytesV (text (treeOf φ)))))
  | _, _ => none
theorem tabG_ok (X : Nat → Itm) (N : Nat) : TabOk Tryd.prog (tabG X N) := by
  intro f args t a ht hh
  unfold tabG at ht
  split at ht <;> cases ht
  all_goals
    obtain ⟨h1, h2⟩ := hh
    cases h2
    exact h1
noncomputable def cxG (X : Nat → Itm) (N : Nat) (dec : Nat → St → Option Bool) : Cx := ⟨Tryd.prog, ctrOf (tabG X N), dec⟩
theorem cxG_ok (X : Nat → Itm) (N : Nat) (dec : Nat → St → Option Bool) : CtrOk (cxG X N dec) := (ctrOf_ok (tabG_ok X N)).withDec dec
end
end Go.Proofs.YtdlghljhgbakjaaDoor

/-
  PART: trees that may be, plainly: how deep, how long they are written.
-/
namespace Go.Proofs.YtdlghljhgbakjaaDoor
open Go.RowKit
/-- Whose numbers are such as their types have. -/
def okT : Tr → Prop
  | .nil => True
  | .nd _ _ n t i _ l r => (0 ≤ n ∧ n ≤ 18446744073709551615) ∧ 0 ≤ t ∧ 0 ≤ i ∧ okT l ∧ okT r
theorem sides1 {op : Int} (h : (sidesE op == 1) = true) : 13 ≤ op ∧ op ≤ 14 := by
  rw [beq_iff_eq] at h
  unfold sidesE at h
  by_cases a : op < 1
  · simp [a] at h
  · by_cases b : op > 14
    · simp [b] at h
    · by_cases c : op ≥ 13
      · omega
      · simp [a, b, c] at h
theorem sides2 {op : Int} (h : (sidesE op == 2) = true) : 1 ≤ op ∧ op ≤ 12 := by
  rw [beq_iff_eq] at h
  unfold sidesE at h
  by_cases a : op < 1
  · simp [a] at h
  · by_cases b : op > 14
    · simp [b] at h
    · by_cases c : op ≥ 13
      · simp [a, b, c] at h
      · omega
theorem nil_of {t : Tr} (h : isNil t = true) : t = .nil := by cases t with | nil => rfl | nd => cases h
theorem good_GT : ∀ t : Tr, okT t → goodT t = true → GT t ∧ nOk t
  | .nil, _, h => by cases h
  | .nd k op n t i x l r, ⟨hn, ht, hi, hl, hr⟩, h => by
    have il := good_GT l hl
    have ir := good_GT r hr
    unfold goodT at h
    split at h
    · rename_i hk
      simp only [Bool.and_eq_true, beq_iff_eq] at h
      obtain ⟨⟨⟨⟨⟨rfl, rfl⟩, rfl⟩, rfl⟩, h1⟩, h2⟩ := h
      rw [hk, nil_of h1, nil_of h2]
      exact ⟨.num n hn.1, hn.2, trivial, trivial⟩
    split at h
    · rename_i _ hk
      simp only [Bool.and_eq_true, beq_iff_eq, decide_eq_true_eq] at h
      obtain ⟨⟨⟨⟨⟨⟨rfl, rfl⟩, rfl⟩, rfl⟩, h1⟩, h2⟩, h3⟩ := h
      rw [hk, nil_of h1, nil_of h2]
      exact ⟨.reg i hi h3, hn.2, trivial, trivial⟩
    split at h
    · rename_i _ _ hk
      simp only [Bool.and_eq_true, beq_iff_eq, decide_eq_true_eq] at h
      obtain ⟨⟨⟨⟨⟨rfl, rfl⟩, rfl⟩, h1⟩, h2⟩, h3, h4⟩ := h
      rw [hk, nil_of h1, nil_of h2]
      exact ⟨.of t i ht h3 hi h4, hn.2, trivial, trivial⟩
    split at h
    · rename_i _ _ _ hk
      simp only [Bool.and_eq_true, beq_iff_eq, decide_eq_true_eq, bne_iff_ne] at h
      obtain ⟨⟨⟨⟨⟨⟨rfl, rfl⟩, rfl⟩, rfl⟩, h1⟩, h2⟩, ⟨h3, h4⟩, h5⟩ := h
      rw [hk, nil_of h1, nil_of h2]
      exact ⟨.loc x h3 h4 h5, hn.2, trivial, trivial⟩
    split at h
    · rename_i _ _ _ _ hk
      simp only [Bool.and_eq_true] at h
      obtain ⟨⟨⟨⟨⟨h0, h1⟩, h2⟩, h3⟩, h4⟩, h5, h6⟩ := h
      simp only [beq_iff_eq] at h0 h1 h2 h3
      subst h0 h1 h2 h3
      obtain ⟨a, b⟩ := sides1 h5
      obtain ⟨g1, g2⟩ := il h6
      rw [hk, nil_of h4]
      exact ⟨.one op l a b g1, hn.2, g2, trivial⟩
    split at h
    · rename_i _ _ _ _ _ hk
      simp only [Bool.and_eq_true] at h
      obtain ⟨⟨⟨⟨h0, h1⟩, h2⟩, h3⟩, ⟨h5, h6⟩, h7⟩ := h
      simp only [beq_iff_eq] at h0 h1 h2 h3
      subst h0 h1 h2 h3
      obtain ⟨a, b⟩ := sides2 h5
      obtain ⟨g1, g2⟩ := il h6
      obtain ⟨g3, g4⟩ := ir h7
      rw [hk]
      exact ⟨.two op l r a b g1 g3, hn.2, g2, g4⟩
    · cases h
def dep : Tr → Nat
  | .nil => 0
  | .nd _ _ _ _ _ _ l r => max (dep l) (dep r) + 1
theorem depthT_dep : ∀ (t : Tr) (z : Nat), depthT t (z : Nat) = ((min (dep t) z : Nat) : Int)
  | .nil, z => by show (0 : Int) = _; simp [dep]
  | .nd _ _ _ _ _ _ l r, z => by
    unfold depthT
    cases z with
    | zero => rw [if_pos (by omega)]; simp
    | succ z =>
      rw [if_neg (by omega), show ((z + 1 : Nat) : Int) - 1 = (z : Nat) by omega, depthT_dep l z, depthT_dep r z]
      show _ = ((min (max (dep l) (dep r) + 1) (z + 1) : Nat) : Int)
      omega
theorem dep_of {t : Tr} (h : depthT t 13 ≤ 12) : dep t ≤ 12 := by
  have := depthT_dep t 13
  have e : depthT t ((13 : Nat) : Int) = depthT t 13 := rfl
  omega
theorem dig_len : ∀ (k n : Nat), n < 10 ^ (k + 1) → (dig n).length ≤ k + 1
  | 0, n, h => by rw [dig_lt (by omega)]; exact Nat.le_refl _
  | k + 1, n, h => by
    by_cases hn : n < 10
    · rw [dig_lt hn]; simp
    · rw [dig_ge hn, List.length_append]
      have := dig_len k (n / 10) (by rw [Nat.pow_succ] at h; omega)
      simp only [List.length_cons, List.length_nil]; omega
theorem dig20 {n : Int} (h0 : 0 ≤ n) (h : n ≤ 18446744073709551615) : (dig n.toNat).length ≤ 20 := dig_len 19 _ (by omega)
theorem opT_len (op : Int) (h1 : 1 ≤ op) (h2 : op ≤ 12) : (opT op).length ≤ 2 := ops_cases (P := fun op => (opT op).length ≤ 2) (by decide) op h1 h2
theorem text_len {t : Tr} (h : GT t) : nOk t → (text t).length + 8 ≤ 40 * 2 ^ dep t := by
  induction h with
  | num n h => intro hn; rw [text_num]; have := dig20 h hn.1; show _ ≤ 40 * 2 ^ 1; omega
  | reg i h1 h2 => intro _; rw [text_reg]; have := dig20 h1 (by omega : i ≤ 18446744073709551615); show _ ≤ 40 * 2 ^ 1; simp only [List.length_cons]; omega
  | of t i h1 h2 h3 h4 =>
    intro _; rw [text_of]
    have a := dig20 h1 (by omega : t ≤ 18446744073709551615)
    have b := dig20 h3 (by omega : i ≤ 18446744073709551615)
    show _ ≤ 40 * 2 ^ 1; simp only [List.length_append, List.length_cons]; omega
  | loc x h1 h2 h3 => intro _; rw [text_loc]; show 1 + 8 ≤ 40 * 2 ^ 1; omega
  | one op l h1 h2 hl ih =>
    intro hn
    have i := ih hn.2.1
    rw [text_one]
    have p := paren_len (decide (str l < 4)) (text l)
    have e : dep (.nd 4 op 0 0 0 0 l .nil) = dep l + 1 := by show max (dep l) 0 + 1 = _; omega
    have o : (opT op).length = 1 := by rcases opT_one h1 h2 with e | e <;> rw [e] <;> rfl
    rw [e, Nat.pow_succ, List.length_append, o]
    omega
  | two op l r h1 h2 hl hr ihl ihr =>
    intro hn
    have a := ihl hn.2.1
    have b := ihr hn.2.2
    rw [text_two]
    have p := paren_len (decide (str l < strO op)) (text l)
    have q := paren_len (decide (str r < strO op + 1)) (text r)
    have o := opT_len op h1 h2
    have e : dep (.nd 5 op 0 0 0 0 l r) = max (dep l) (dep r) + 1 := rfl
    have m1 : 2 ^ dep l ≤ 2 ^ max (dep l) (dep r) := Nat.pow_le_pow_right (by omega) (by omega)
    have m2 : 2 ^ dep r ≤ 2 ^ max (dep l) (dep r) := Nat.pow_le_pow_right (by omega) (by omega)
    rw [e, Nat.pow_succ]
    simp only [List.length_append, List.length_cons]
    omega
end Go.Proofs.YtdlghljhgbakjaaDoor

/-
  PART: how numbers are written: the table.
-/
namespace Go.Proofs.YtdlghljhgbakjaaDoor
open Go.RowKit
noncomputable section
def tabN (d : Int) (f : Nat) (args : List AV) : Option (Tree AV) := match f, args with
  | 128, [n] => some (ctrT 128 [n] (.lit (.int .i64 d)))
  | _, _ => none
theorem tabN_ok (d : Int) : TabOk Tryd.prog (tabN d) := by
  intro f args t a ht hh
  unfold tabN at ht
  split at ht
  · cases ht
    obtain ⟨h1, h2⟩ := hh
    cases h2
    exact h1
  · cases ht
def cxN (d : Int) (dec : Nat → St → Option Bool) : Cx := ⟨Tryd.prog, ctrOf (tabN d), dec⟩
theorem cxN_ok (d : Int) (dec : Nat → St → Option Bool) : CtrOk (cxN d dec) := (ctrOf_ok (tabN_ok d)).withDec dec
end
end Go.Proofs.YtdlghljhgbakjaaDoor
