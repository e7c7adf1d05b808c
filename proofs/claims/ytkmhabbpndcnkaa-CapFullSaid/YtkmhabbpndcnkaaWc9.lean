/-
  PARTS, one behind the other: T0 T1 T2 T3 T4 T5 T6 T7 T8 T9 TA TB TC TD TE TF TG TH TI.
-/
import Derived.Test.YtkmhabbpndcnkaaWc8
/-
  PART: caps: the gaps of a location: what is handed over.
-/
namespace Go.Proofs.Ytkmhabbpndcnkaa
open Go.RowKit
noncomputable section
def frI (x : It) : Int := endS x.a x.b x.a
def toI (x : It) : Int := endS x.a x.b x.b
/-- What the gaps of a row are, from a time on. -/
def gapsL (last : Int) : List It → List (List Int)
  | [] => [[last, IntKind.i64.wrap (last + 1)]]
  | x :: l => if decide (frI x > last) = true then [last, frI x] :: gapsL (toI x) l else gapsL (toI x) l
def yl (l : Nat) : AV := .fn (.yield l) [] []
def args110 (l : Nat) (m : PM) (loc : Int) : List AV := [yl l, .fz (memCells m) 0, .fz [iv loc] 0]
noncomputable def c110 : Code := codeOf Try.f110
noncomputable def body110 : Code := cin (cin (cr (cl (behind 1 c110))))
noncomputable def a110 : Code := cl (cl (behind 1 c110))
noncomputable def tail110 : Code := cr (behind 1 c110)
theorem code110 : c110 = .seq (cl c110) (.seq (.seq a110 (.block 0 (.loop body110))) tail110) := by kernel_rfl
noncomputable def bb110 : Code := cin (cl (behind 2 body110))   -- the block's
noncomputable def nx110 : Code := cr (behind 2 body110)
theorem cbody110 : body110 = seqs (firsts 2 body110) (.seq (.block 1 bb110) nx110) := by kernel_rfl
noncomputable def r3_110 : Code := cl bb110
noncomputable def r4_110 : Code := cl (cl (cr bb110))
noncomputable def r5_110 : Code := cr (cr bb110)
theorem cbb110 : bb110 = .seq r3_110 (.seq (.seq r4_110 (.cond (.tmp 28) .ret .skip)) r5_110) := by kernel_rfl
noncomputable def ops110 : Array Oper := opsOf r4_110
theorem cr4_110 : r4_110 = .region 4 ops110 false := by kernel_rfl
theorem ctail110 : tail110 = .region 7 (opsOf tail110) false := by kernel_rfl
def ds110a : List (Nat × Bool) := [(0, false), (1, false), (2, false), (4, false)]
def ds110 : List (Nat × Bool) := [(0, false), (4, true), (9, false), (10, false), (11, true)]
def ds110b : List (Nat × Bool) := [(0, false), (4, false), (6, false), (9, false), (10, false), (11, true)]
def mk110 (l : Nat) (last : Int) (L : List It) (i : Int) : List (Nat × AV) := [(0, yl l), (4, iv last), (9, rowI L), (10, iv L.length), (11, iv i)]
def stI (sl : List (Nat × AV)) : St := { sl := sl, hp := [], nx := 0, rd := [], wr := [], ws := [], wb := [] }
section
variable (l : Nat) (m : PM) (loc : Int) (last : Int) (L : List It) (i : Int)
theorem ev110a : (codeE (cxH []) (evs (cxH []) 60) (cl c110) (entry (args110 l m loc))).map (lfI ds110a true) = .ret (.norm, some (stI [(0, yl l), (1, .fz (memCells m) 0), (2, .fz [iv loc] 0), (4, .lit (.int .i64 0))])) := by kernel_rfl
theorem ev110b : (codeE (cxH []) (evs (cxH []) 60) a110 (stI [(0, yl l), (1, .fz (memCells m) 0), (2, .fz [iv loc] 0), (4, .lit (.int .i64 0))])).map (lfI ds110 true) = .side (PmInR m) (.ret (.norm, some (stI (mk110 l 0 (listM (pmR m) loc) 0)))) := by kernel_rfl
theorem ev110c : (codeE (cxH []) (evs (cxH []) 60) (joins (firsts 2 body110)) (stI (mk110 l last L i))).map (lfI ds110 true) = .br (decide (i < (L.length : Int))) (.ret (.norm, some (stI (mk110 l last L i)))) (.ret (.exit 0, some (stI (mk110 l last L i)))) := by kernel_rfl
end
end
end Go.Proofs.Ytkmhabbpndcnkaa

/-
  PART: caps: the gaps of a location: a round.
-/
namespace Go.Proofs.Ytkmhabbpndcnkaa
open Go.RowKit
noncomputable section
def md110 (l : Nat) (last : Int) (L : List It) (i : Int) (x : It) : St := stI [(0, yl l), (4, iv last), (6, .fz x.cells 0), (9, rowI L), (10, iv L.length), (11, iv i)]
def mdA110 (l : Nat) (last : Int) (L : List It) (i : Int) (x : It) : St := { sl := [(0, yl l), (4, iv last), (6, .ptr 0 0), (9, rowI L), (10, iv L.length), (11, iv i)], hp := [(0, some (.fix 102 x.cells))], nx := 1, rd := [], wr := [], ws := [], wb := [] }
def ds110c : List (Nat × Bool) := [(0, false), (4, false), (6, false), (9, false), (10, false), (11, true), (20, false), (21, false), (22, false), (25, false), (19, false)]
def ds110d : List (Nat × Bool) := [(0, false), (4, false), (6, false), (9, false), (10, false), (11, true), (28, false)]
def mdY110 (l : Nat) (last : Int) (L : List It) (i : Int) (x : It) : St := stI [(0, yl l), (4, iv last), (6, .fz x.cells 0), (9, rowI L), (10, iv L.length), (11, iv i), (20, .lit (.bool true)), (21, yl l), (22, iv last), (25, iv (frU x)), (19, .v (.bool (decide (frU x > last))))]
def mdN110 (l : Nat) (last : Int) (L : List It) (i : Int) (x : It) (b : Bool) : St := stI [(0, yl l), (4, iv last), (6, .fz x.cells 0), (9, rowI L), (10, iv L.length), (11, iv i), (28, .lit (.bool b))]
section
variable (l : Nat) (last : Int) (L : List It) (i : Int) (x : It) (b : Bool)
theorem ev110d : (codeE (cxH []) (evs (cxH []) 60) r3_110 (stI (mk110 l last L i))).map (lfI ds110b true) = .side (ixL L i) (.ret (.norm, some (mdA110 l last L i (itA L i)))) := by kernel_rfl
theorem fr110 : St.freezeP? ds110b true 0 (mdA110 l last L i x) = some (md110 l last L i x) := by kernel_rfl
theorem ev110y : (opsE (cxH [(20, true)]) (evs (cxH [(20, true)]) 60) ops110 false (ops110.toList.take 11) 0 [] (md110 l last L i x)).map (lfI ds110c true) = .side (fOk x) (.side (decide (frU x > last) = true) (.side (fOk x) (.ret (.norm, some (mdY110 l last L i x))))) := by kernel_rfl
theorem ev110yt : (opsE (cxH []) (evs (cxH []) 60) ops110 false (ops110.toList.drop 12) 12 [] ((mdY110 l last L i x).put (some 26) (.lit (.bool true)))).map (lfI ds110d true) = .ret (.norm, some (mdN110 l last L i x false)) := by kernel_rfl
theorem ev110yf : (opsE (cxH []) (evs (cxH []) 60) ops110 false (ops110.toList.drop 12) 12 [] ((mdY110 l last L i x).put (some 26) (.lit (.bool false)))).map (lfI ds110d true) = .ret (.norm, some (mdN110 l last L i x true)) := by kernel_rfl
theorem ev110n : (opsE (cxH [(20, false)]) (evs (cxH [(20, false)]) 60) ops110 false ops110.toList 0 [] (md110 l last L i x)).map (lfI ds110d true) = .side (fOk x) (.side (decide (frU x > last) = false) (.ret (.norm, some (mdN110 l last L i x false)))) := by kernel_rfl
theorem ev110e : (codeE (cxH []) (evs (cxH []) 60) r5_110 (mdN110 l last L i x false)).map (lfI ds110 true) = .side (fOk x) (.ret (.norm, some (stI (mk110 l (toU x) L i)))) := by kernel_rfl
theorem ev110f : (codeE (cxH []) (evs (cxH []) 60) nx110 (stI (mk110 l last L i))).map (lfI ds110 true) = .ret (.norm, some (stI (mk110 l last L (IntKind.i64.wrap (i + 1))))) := by kernel_rfl
def ds110t : List (Nat × Bool) := [(33, false), (34, false), (36, false)]
theorem ev110t : (opsE (cxH []) (evs (cxH []) 60) (opsOf tail110) false ((opsOf tail110).toList.take 4) 0 [] (stI (mk110 l last L i))).map (lfI ds110t true) = .ret (.norm, some (stI [(33, yl l), (34, iv last), (36, iv (IntKind.i64.wrap (last + 1)))])) := by kernel_rfl
end
theorem size110 : ops110.size = 14 ∧ (opsOf tail110).size = 5 := ⟨by kernel_rfl, by kernel_rfl⟩
theorem op110 : isYield ops110 11 26 21 [22, 25] (some (20, true)) = true := by kernel_rfl
theorem op110t : isYield (opsOf tail110) 4 37 33 [34, 36] none = true := by kernel_rfl
end
end Go.Proofs.Ytkmhabbpndcnkaa

/-
  PART: caps: the gaps of a location: all.
-/
namespace Go.Proofs.Ytkmhabbpndcnkaa
open Go.RowKit
noncomputable section
theorem wpi_ret {P : Program} {N : Nat} {G : Ghost} {s : St} {κ : Option Nat} {R : Ex → St → Option Nat → Prop} (h : R .ret s κ) : WpI P N G .ret s κ R := fun act w Q hs hQ => wpIn_ret (hQ .ret s κ act w h hs)
theorem wpi_skip {P : Program} {N : Nat} {G : Ghost} {s : St} {κ : Option Nat} {R : Ex → St → Option Nat → Prop} (h : R .norm s κ) : WpI P N G .skip s κ R := fun act w Q hs hQ => wpIn_skip (hQ .norm s κ act w h hs)
theorem drop_cons {α : Type} {l t : List α} {a : α} {k : Nat} (h : l.drop k = a :: t) : l[k]? = some a ∧ l.drop (k + 1) = t := by
  have h1 : (l.drop k)[0]? = some a := by rw [h]; rfl
  rw [List.getElem?_drop] at h1
  refine ⟨by simpa using h1, ?_⟩
  have h2 : (l.drop k).drop 1 = t := by rw [h]; rfl
  rw [List.drop_drop] at h2
  exact h2
theorem drop_len {α : Type} {l : List α} {a : α} {k : Nat} (h : l.drop k = [a]) : k + 1 = l.length := by
  have := congrArg List.length h
  rw [List.length_drop] at this
  simp at this
  omega
theorem range_split (n a b : Nat) (h : n = a + (b + 1)) : List.range' 0 n = List.range' 0 a ++ (a :: List.range' (a + 1) b) := by
  subst h
  rw [← List.range'_append_1, Nat.zero_add, List.range'_succ]
structure K110 where
  i : Nat
  k : Nat
  last : Int
section
variable {m : PM} {loc : Int} {l : Nat} {G : Ghost} {L : List It} {xs : List (List Int)}
def I110 (l : Nat) (L : List It) (q : K110) : St := stI (mk110 l q.last L q.i)
def J110 (L : List It) (xs : List (List Int)) (q : K110) : Prop := q.i ≤ L.length ∧ xs.drop q.k = gapsL q.last (L.drop q.i)
theorem drop_get {i : Nat} (h : i < L.length) : L.drop i = itA L (i : Int) :: L.drop (i + 1) := by
  unfold itA
  rw [Int.toNat_natCast, List.drop_eq_getElem_cons h]
  simp [List.getD, h]
set_option maxRecDepth 100000 in
theorem region110 (hG : GhostOk G) (hY : YieldsTo Try.prog l G xs) (hL : OkL L) {q : K110} (hq : J110 L xs q) (hlt : q.i < L.length) :
    WpI Try.prog Try.f110.ntmps G r4_110 (md110 l q.last L q.i (itA L q.i)) (some q.k) fun x s κ => x = .norm ∧ ((s = mdN110 l q.last L q.i (itA L q.i) false ∧ ∃ k', κ = some k' ∧ xs.drop k' = gapsL (toI (itA L q.i)) (L.drop (q.i + 1))) ∨ (s = mdN110 l q.last L q.i (itA L q.i) true ∧ κ = none)) := by
  have hx : (itA L q.i).Ok := by
    have := hL.2 (itA L q.i) (by unfold itA; rw [Int.toNat_natCast]; simp [List.getD, hlt])
    exact this
  have hf := it_fOk hx
  have hd := hq.2
  rw [drop_get hlt] at hd
  have e1 : frU (itA L q.i) = frI (itA L q.i) := frU_eq hx
  rw [cr4_110]
  refine wpi_region ?_
  rw [size110.1]
  cases hc : decide (frI (itA L q.i) > q.last) with
  | true =>
    have hd' : xs.drop q.k = [q.last, frI (itA L q.i)] :: gapsL (toI (itA L q.i)) (L.drop (q.i + 1)) := by
      rw [hd]; show (if _ then _ else _) = _; rw [if_pos hc]
    obtain ⟨h1, h2⟩ := drop_cons hd'
    rw [range_split 14 11 2 rfl]
    have l11 : (ops110.toList.take 11).length = 11 := by kernel_rfl
    have l12 : (ops110.toList.drop 12).length = 2 := by kernel_rfl
    refine wpis_app (R1 := fun s κ => s = mdY110 l q.last L q.i (itA L q.i) ∧ κ = some q.k) ?_ ?_
    · have := wpis_stage (G := G) (N := Try.f110.ntmps) (s := md110 l q.last L q.i (itA L q.i)) (κ := some q.k) (cx := cxH [(20, true)]) (n := 60) (cxH_ok _) fitTry (ops := ops110) (l := ops110.toList.take 11) (i := 0) (ds := ds110c) (gb := true) (by rw [l11]; simp) (by kernel_rfl) (R := fun s κ => s = mdY110 l q.last L q.i (itA L q.i) ∧ κ = some q.k) (by
        rw [ev110y, e1]
        exact ⟨hf, hc, hf, _, rfl, rfl, rfl⟩)
      rwa [l11] at this
    · rintro s κ ⟨rfl, rfl⟩
      refine wpis_y hG hY op110 (Nat.le_of_ble_eq_true (by kernel_rfl)) rfl rfl rfl (x := [q.last, frI (itA L q.i)]) h1 (by rw [← e1]; rfl) (fun p hp => by cases hp; rfl) ?_ ?_
      · have := wpis_stage (G := G) (N := Try.f110.ntmps) (s := (mdY110 l q.last L q.i (itA L q.i)).put (some 26) (.lit (.bool true))) (κ := some (q.k + 1)) (cx := cxH []) (n := 60) (cxH_ok _) fitTry (ops := ops110) (l := ops110.toList.drop 12) (i := 12) (ds := ds110d) (gb := true) (by rw [l12]; kernel_rfl) (by kernel_rfl) (R := fun s κ => Ex.norm = .norm ∧ ((s = mdN110 l q.last L q.i (itA L q.i) false ∧ ∃ k', κ = some k' ∧ xs.drop k' = gapsL (toI (itA L q.i)) (L.drop (q.i + 1))) ∨ (s = mdN110 l q.last L q.i (itA L q.i) true ∧ κ = none))) (by
          rw [ev110yt]
          exact ⟨_, rfl, rfl, .inl ⟨rfl, _, rfl, h2⟩⟩)
        rwa [l12] at this
      · have := wpis_stage (G := G) (N := Try.f110.ntmps) (s := (mdY110 l q.last L q.i (itA L q.i)).put (some 26) (.lit (.bool false))) (κ := none) (cx := cxH []) (n := 60) (cxH_ok _) fitTry (ops := ops110) (l := ops110.toList.drop 12) (i := 12) (ds := ds110d) (gb := true) (by rw [l12]; kernel_rfl) (by kernel_rfl) (R := fun s κ => Ex.norm = .norm ∧ ((s = mdN110 l q.last L q.i (itA L q.i) false ∧ ∃ k', κ = some k' ∧ xs.drop k' = gapsL (toI (itA L q.i)) (L.drop (q.i + 1))) ∨ (s = mdN110 l q.last L q.i (itA L q.i) true ∧ κ = none))) (by
          rw [ev110yf]
          exact ⟨_, rfl, rfl, .inr ⟨rfl, rfl⟩⟩)
        rwa [l12] at this
  | false =>
    have hd' : xs.drop q.k = gapsL (toI (itA L q.i)) (L.drop (q.i + 1)) := by
      rw [hd]; show (if _ then _ else _) = _; rw [if_neg (by rw [hc]; simp)]
    have l14 : ops110.toList.length = 14 := by kernel_rfl
    have := wpis_stage (G := G) (N := Try.f110.ntmps) (s := md110 l q.last L q.i (itA L q.i)) (κ := some q.k) (cx := cxH [(20, false)]) (n := 60) (cxH_ok _) fitTry (ops := ops110) (l := ops110.toList) (i := 0) (ds := ds110d) (gb := true) (by simp) (by kernel_rfl) (R := fun s κ => Ex.norm = .norm ∧ ((s = mdN110 l q.last L q.i (itA L q.i) false ∧ ∃ k', κ = some k' ∧ xs.drop k' = gapsL (toI (itA L q.i)) (L.drop (q.i + 1))) ∨ (s = mdN110 l q.last L q.i (itA L q.i) true ∧ κ = none))) (by
      rw [ev110n, e1]
      exact ⟨hf, hc, _, rfl, rfl, .inl ⟨rfl, _, rfl, hd'⟩⟩)
    rwa [l14] at this
end
end
end Go.Proofs.Ytkmhabbpndcnkaa

/-
  PART: caps: the gaps of a location: the contract.
-/
namespace Go.Proofs.Ytkmhabbpndcnkaa
open Go.RowKit
noncomputable section
section
variable {m : PM} {loc : Int} {l : Nat} {G : Ghost} {L : List It} {xs : List (List Int)}
set_option maxRecDepth 100000 in
theorem round110 (hG : GhostOk G) (hY : YieldsTo Try.prog l G xs) (hL : OkL L) {q : K110} (hq : J110 L xs q) :
    WpI Try.prog Try.f110.ntmps G body110 (I110 l L q) (some q.k) fun x s κ => (x = .norm ∧ ∃ q', J110 L xs q' ∧ L.length - q'.i < L.length - q.i ∧ s = I110 l L q' ∧ κ = some q'.k) ∨ (x ≠ .norm ∧ ((x = .exit 0 ∧ ∃ q', J110 L xs q' ∧ q'.i = L.length ∧ s = I110 l L q' ∧ κ = some q'.k) ∨ (x = .ret ∧ κ = none))) := by
  rw [cbody110]
  refine wpi_stages (cx := cxH []) (n := 60) (ds := ds110) (gb := true) (cxH_ok _) fitTry (by simp [firsts]) (by kernel_rfl) ?_
  show ((codeE (cxH []) (evs (cxH []) 60) (joins (firsts 2 body110)) (stI (mk110 l q.last L q.i))).map (lfI ds110 true)).wp _
  rw [ev110c]
  have hi := hq.1
  refine ⟨fun hc => ?_, fun hc => ?_⟩
  · have hlt : q.i < L.length := by have := of_decide_eq_true hc; omega
    refine ⟨_, rfl, ?_⟩
    show WpI _ _ _ _ _ _ _
    have hx : (itA L q.i).Ok := hL.2 (itA L q.i) (by unfold itA; rw [Int.toNat_natCast]; simp [List.getD, hlt])
    refine wpi_seq (R1 := fun x s κ => (x = .norm ∧ s = stI (mk110 l (toI (itA L q.i)) L q.i) ∧ ∃ k', κ = some k' ∧ xs.drop k' = gapsL (toI (itA L q.i)) (L.drop (q.i + 1))) ∨ (x = .ret ∧ κ = none)) (wpi_block (R1 := fun x s κ => (x = .norm ∧ s = stI (mk110 l (toI (itA L q.i)) L q.i) ∧ ∃ k', κ = some k' ∧ xs.drop k' = gapsL (toI (itA L q.i)) (L.drop (q.i + 1))) ∨ (x = .ret ∧ κ = none)) ?_ ?_ fun x s1 κ1 _ h => h) ?_ ?_
    · rw [cbb110]
      refine wpi_seq (R1 := fun x s κ => x = .norm ∧ s = mdA110 l q.last L q.i (itA L q.i) ∧ κ = some q.k) (wpi_stage (cx := cxH []) (n := 60) (ds := ds110b) (gb := true) (cxH_ok _) fitTry (by kernel_rfl) ?_) ?_ ?_
      · rw [ev110d]
        exact ⟨⟨by omega, by omega⟩, _, rfl, rfl, rfl, rfl⟩
      · rintro s1 κ1 ⟨_, rfl, rfl⟩
        refine wpi_pre (fun B hB => freezeP_le hB (fr110 l q.last L q.i (itA L q.i))) ?_
        refine wpi_seq (R1 := fun x s κ => (x = .norm ∧ s = mdN110 l q.last L q.i (itA L q.i) false ∧ ∃ k', κ = some k' ∧ xs.drop k' = gapsL (toI (itA L q.i)) (L.drop (q.i + 1))) ∨ (x = .ret ∧ κ = none)) (wpi_seq (region110 hG hY hL hq hlt) ?_ ?_) ?_ ?_
        · rintro s2 κ2 ⟨_, ⟨rfl, h⟩ | ⟨rfl, rfl⟩⟩
          · exact wpi_cond (e := false) (l := true) rfl (fun h => by cases h) fun _ => wpi_skip (.inl ⟨rfl, rfl, h⟩)
          · exact wpi_cond (e := true) (l := true) rfl (fun _ => wpi_ret (.inr ⟨rfl, rfl⟩)) (fun h => by cases h)
        · rintro x s2 κ2 hx ⟨rfl, _⟩; exact absurd rfl hx
        · rintro s2 κ2 (⟨_, rfl, k', rfl, h⟩ | ⟨h, _⟩)
          · refine wpi_stage (cx := cxH []) (n := 60) (ds := ds110) (gb := true) (cxH_ok _) fitTry (by kernel_rfl) ?_
            rw [ev110e]
            exact ⟨it_fOk hx, _, rfl, .inl ⟨rfl, by rw [toU_eq hx]; rfl, k', rfl, h⟩⟩
          · cases h
        · rintro x s2 κ2 hx (⟨h, _⟩ | h)
          · exact absurd h hx
          · exact .inr h
      · rintro x s1 κ1 hx ⟨rfl, _⟩; exact absurd rfl hx
    · rintro s1 κ1 (⟨h, _⟩ | ⟨h, _⟩) <;> cases h
    · rintro s1 κ1 (⟨_, rfl, k', rfl, h⟩ | ⟨h, _⟩)
      · refine wpi_stage (cx := cxH []) (n := 60) (ds := ds110) (gb := true) (cxH_ok _) fitTry (by kernel_rfl) ?_
        rw [ev110f]
        have hw : IntKind.i64.wrap ((q.i : Int) + 1) = ((q.i + 1 : Nat) : Int) := by have := hL.1; rw [IntWalk.i64_in _ (by omega)]; rfl
        refine ⟨_, rfl, .inl ⟨rfl, ⟨q.i + 1, k', toI (itA L q.i)⟩, ⟨hlt, h⟩, by show L.length - (q.i + 1) < _; omega, by rw [hw]; rfl, rfl⟩⟩
      · cases h
    · rintro x s1 κ1 hx (⟨h, _⟩ | ⟨rfl, rfl⟩)
      · exact absurd h hx
      · exact .inr ⟨by simp, .inr ⟨rfl, rfl⟩⟩
  · have hge : q.i = L.length := by have := of_decide_eq_false hc; omega
    exact ⟨_, rfl, .inr ⟨by simp, .inl ⟨rfl, q, hq, hge, rfl, rfl⟩⟩⟩
set_option maxRecDepth 100000 in
theorem gaps_seq (hm : PmFit m) (hL : OkL (listM m loc)) : SeqOk Try.prog 110 [.fz (memCells m) 0, .fz [iv loc] 0] (gapsL 0 (listM m loc)) := by
  refine seq_of_wpi fitTry Try.func110 (c := c110) (by kernel_rfl) (by kernel_rfl) (Nat.le_of_ble_eq_true (by kernel_rfl)) fun l G hG hY => ?_
  rw [code110]
  generalize hxs : gapsL 0 (listM m loc) = xs at hY ⊢
  refine wpi_seq (R1 := fun x s κ => x = .norm ∧ s = stI [(0, yl l), (1, .fz (memCells m) 0), (2, .fz [iv loc] 0), (4, .lit (.int .i64 0))] ∧ κ = some 0) (wpi_stage (cx := cxH []) (n := 60) (ds := ds110a) (gb := true) (cxH_ok _) fitTry (by kernel_rfl) ?_) ?_ ?_
  · show ((codeE (cxH []) (evs (cxH []) 60) (cl c110) (entry (args110 l m loc))).map (lfI ds110a true)).wp _
    rw [ev110a]
    exact ⟨_, rfl, rfl, rfl, rfl⟩
  · rintro s1 κ1 ⟨_, rfl, rfl⟩
    refine wpi_seq (R1 := fun x s κ => (x = .norm ∧ ∃ q, J110 (listM m loc) xs q ∧ q.i = (listM m loc).length ∧ s = I110 l (listM m loc) q ∧ κ = some q.k) ∨ (x = .ret ∧ κ = none)) (wpi_seq (R1 := fun x s κ => x = .norm ∧ s = stI (mk110 l 0 (listM m loc) 0) ∧ κ = some 0) (wpi_stage (cx := cxH []) (n := 60) (ds := ds110) (gb := true) (cxH_ok _) fitTry (by kernel_rfl) ?_) ?_ ?_) ?_ ?_
    · rw [ev110b, pmR_eq hm]
      exact ⟨pmInR hm, _, rfl, rfl, rfl, rfl⟩
    · rintro s2 κ2 ⟨_, rfl, rfl⟩
      refine wpi_block (R1 := fun x s κ => (x = .exit 0 ∧ ∃ q, J110 (listM m loc) xs q ∧ q.i = (listM m loc).length ∧ s = I110 l (listM m loc) q ∧ κ = some q.k) ∨ (x = .ret ∧ κ = none)) (wpi_loop (I110 l (listM m loc)) (fun q => some q.k) (J110 (listM m loc) xs) (fun q => (listM m loc).length - q.i) (fun q hq => round110 hG hY hL hq) ⟨0, 0, 0⟩ ⟨Nat.zero_le _, by rw [← hxs]; rfl⟩) ?_ ?_
      · rintro s3 κ3 (⟨_, h⟩ | ⟨h, _⟩)
        · exact .inl ⟨rfl, h⟩
        · cases h
      · rintro x s3 κ3 hx (⟨h, _⟩ | h)
        · exact absurd h hx
        · exact .inr h
    · rintro x s2 κ2 hx ⟨rfl, _⟩; exact absurd rfl hx
    · rintro s2 κ2 (⟨_, q, hq, hi, rfl, rfl⟩ | ⟨h, _⟩)
      · have hd := hq.2
        rw [hi, List.drop_length] at hd
        have h1 := (drop_cons hd).1
        have h2 := drop_len hd
        rw [ctail110]
        refine wpi_region ?_
        rw [size110.2, range_split 5 4 0 rfl]
        have l4 : ((opsOf tail110).toList.take 4).length = 4 := by kernel_rfl
        refine wpis_app (R1 := fun s κ => s = stI [(33, yl l), (34, iv q.last), (36, iv (IntKind.i64.wrap (q.last + 1)))] ∧ κ = some q.k) ?_ ?_
        · have := wpis_stage (G := G) (N := Try.f110.ntmps) (s := I110 l (listM m loc) q) (κ := some q.k) (cx := cxH []) (n := 60) (cxH_ok _) fitTry (ops := opsOf tail110) (l := (opsOf tail110).toList.take 4) (i := 0) (ds := ds110t) (gb := true) (by rw [l4]; simp) (by kernel_rfl) (R := fun s κ => s = stI [(33, yl l), (34, iv q.last), (36, iv (IntKind.i64.wrap (q.last + 1)))] ∧ κ = some q.k) (by
            unfold I110
            rw [ev110t]
            exact ⟨_, rfl, rfl, rfl⟩)
          rwa [l4] at this
        · rintro s3 κ3 ⟨rfl, rfl⟩
          refine wpis_y hG hY op110t (Nat.le_of_ble_eq_true (by kernel_rfl)) rfl rfl rfl (x := [q.last, IntKind.i64.wrap (q.last + 1)]) h1 rfl (fun p hp => by cases hp) (wpis_nil ⟨.inl rfl, .inl ?_⟩) (wpis_nil ⟨.inl rfl, .inr rfl⟩)
          rw [h2]
      · cases h
    · rintro x s2 κ2 hx (⟨h, _⟩ | ⟨rfl, rfl⟩)
      · exact absurd h hx
      · exact ⟨.inr rfl, .inr rfl⟩
  · rintro x s1 κ1 hx ⟨rfl, _⟩; exact absurd rfl hx
end
end
end Go.Proofs.Ytkmhabbpndcnkaa

/-
  PART: caps: the code of Capped, its table.
-/
namespace Go.Proofs.Ytkmhabbpndcnkaa
open Go.RowKit
noncomputable section
def gapsA (m : PM) (loc : Int) : AV := .fn (.func 110) [] [.fz (memCells m) 0, .fz [iv loc] 0]
theorem gaps_frz (m : PM) (loc : Int) : FrzOk Try.prog 90 [memA m, iv loc] (gapsA m loc) :=
  frz_ev (cx := cxD (decM [])) (cxD_ok _) fitTry (n := 60) (t := .ret (gapsA m loc)) (by kernel_rfl) fun E v h => h
def tabR6' (f : Nat) (args : List AV) : Option (Tree AV) := match f, args with
  | 90, [m, .v (.int .i64 loc)] => withPm m fun m => .ret (gapsA m loc)
  | _, _ => none
theorem tabR6'_ok : TabFOk Try.prog tabR6' := by
  intro f args t a ht hh
  unfold tabR6' at ht
  split at ht
  · obtain ⟨m, hm, h1, h2⟩ := withPm_ok ht hh
    cases h1
    exact (gaps_frz m _).pre fun E vs h => by cases h with | cons q1 h => exact .cons (h2 _ _ q1) h
  · cases ht
def tabR6 (f : Nat) (args : List AV) : Option (Tree AV) := match opened tabR6' f args with
  | some t => some t
  | none => tabR5 f args
theorem tabR6_ok : TabFOk Try.prog tabR6 := by
  intro f args t a ht hh
  unfold tabR6 at ht
  split at ht
  · rename_i u hu
    cases ht
    exact opened_okF tabR6'_ok _ _ _ _ hu hh
  · exact tabR5_ok _ _ _ _ ht hh
noncomputable def cxC (dec : List (Nat × Bool)) : Cx := ⟨Try.prog, ctrOf2 (opened tabM5) tabR6, decM dec⟩
theorem cxC_ok (dec : List (Nat × Bool)) : CtrOk (cxC dec) := ctrOf2_ok (opened_ok tabM5_ok) tabR6_ok _
noncomputable def c54 : Code := codeOf Try.f54
noncomputable def res54 : St → Option AV := resF Try.prog Try.f54.results.toList
noncomputable def sc54 : Code := cin (cr c54)
theorem code54 : c54 = .seq (cl c54) (.scope sc54) := by kernel_rfl
noncomputable def a54 : Code := cl (cl (behind 1 sc54))
noncomputable def body54 : Code := cin (cin (cr (cl (behind 1 sc54))))
noncomputable def tail54 : Code := cr (behind 1 sc54)
theorem csc54 : sc54 = seqs (firsts 1 sc54) (.seq (.seq a54 (.block 0 (.loop body54))) tail54) := by kernel_rfl
noncomputable def blk54 : Code := cin (cl (behind 2 body54))
noncomputable def nxt54 : Code := cr (behind 2 body54)
theorem cbody54 : body54 = seqs (firsts 2 body54) (.seq (.block 1 blk54) nxt54) := by kernel_rfl
def rfG : Code → Operand
  | .rangeFunc g _ _ _ => g
  | _ => .tmp 0
def rfP : Code → Array Nat
  | .rangeFunc _ p _ _ => p
  | _ => #[]
def rfA : Code → Code
  | .rangeFunc _ _ a _ => a
  | c => c
def rfB : Code → Code
  | .rangeFunc _ _ _ b => b
  | c => c
noncomputable def rf54 : Code := cin (behind 2 blk54)
theorem cblk54 : blk54 = seqs (firsts 2 blk54) (.block 2 (.rangeFunc (.tmp 20) #[21, 22] (rfA rf54) (rfB rf54))) := by kernel_rfl
noncomputable def err54 : Code := cr (cr tail54)
theorem ctail54 : findLabel sc54 0 = some (.seq .skip err54) ∨ findLabel sc54 0 = some err54 ∨ findLabel sc54 0 = some (cr tail54) := by
  first
    | exact .inl (by kernel_rfl)
    | exact .inr (.inl (by kernel_rfl))
    | exact .inr (.inr (by kernel_rfl))
end
end Go.Proofs.Ytkmhabbpndcnkaa

/-
  PART: caps: the code of Capped, its pieces.
-/
namespace Go.Proofs.Ytkmhabbpndcnkaa
open Go.RowKit
noncomputable section
theorem clab54 : findLabel sc54 0 = some (.seq .skip err54) := by kernel_rfl
def nilC : AV := .v (.slice none 0 0)
def zMem : List AV := [iv 0, nilC, nilC, nilC, nilC]
def hp54 (m out : PM) : List (Nat × Option Blk) := [(0, some (.fix 81 (memCells m))), (1, some (.fix 81 zMem)), (2, some (.fix 81 (memCells out)))]
def sl54 (i n : Int) : List (Nat × AV) := [(1, .ptr 0 0), (2, .ptr 1 0), (3, .lit (.int .i64 0)), (4, .ptr 2 0), (14, iv n), (15, iv i)]
def st54a (m : PM) : St := { sl := [(1, .ptr 0 0), (2, .ptr 1 0), (3, .lit (.int .i64 0))], hp := [(0, some (.fix 81 (memCells m))), (1, some (.fix 81 zMem))], nx := 2, rd := [], wr := [], ws := [], wb := [] }
def st54b (m : PM) : St := { sl := [(1, .ptr 0 0), (2, .ptr 1 0), (3, .lit (.int .i64 0)), (4, .ptr 2 0)], hp := hp54 m m, nx := 3, rd := [], wr := [], ws := [], wb := [] }
def inv54 (m out : PM) (i : Int) : St := { sl := sl54 i m.n, hp := hp54 m out, nx := 3, rd := [], wr := [], ws := [], wb := [] }
/-- At the range. -/
def slr54 (m g : PM) (i : Int) : List (Nat × AV) := sl54 i m.n ++ [(5, .ptr 3 0), (20, gapsA g i)]
def rng54 (m g out : PM) (i : Int) : St := { sl := slr54 m g i, hp := hp54 m out ++ [(3, some (.fix 3 [iv i]))], nx := 4, rd := [], wr := [], ws := [], wb := [] }
def rnd54 (m g out : PM) (i p q : Int) : St := { sl := slr54 m g i ++ [(6, iv p), (7, iv q)], hp := hp54 m out ++ [(3, some (.fix 3 [iv i]))], nx := 4, rd := [], wr := [], ws := [], wb := [] }
def ds54a : List (Nat × Bool) := [(1, false), (2, false), (3, false)]
def ds54b : List (Nat × Bool) := ds54a ++ [(4, false)]
def ds54c : List (Nat × Bool) := ds54b ++ [(14, false), (15, true)]
def ds54d : List (Nat × Bool) := ds54c ++ [(5, false), (20, false)]
def ds54e : List (Nat × Bool) := ds54d ++ [(6, false), (7, false)]
/-- What stands for a gap. -/
def capCs (i p q : Int) : List AV := [iv i, .v (.complex .f64 (F (partS p q p)) (F (partS p q q))), .v (.int .u64 0), iv 0, iv 0, iv 0, iv 0, iv 0, iv 0, iv 0, iv 0, .v (.bool true), iv (-1)]
def capA (out : PM) (i p q : Int) : PM × Int := addM (pmR out) (itOf (capCs i p q))
section
variable (m out : PM) (i p q : Int)
theorem ev54a : (codeE (cxC []) (evs (cxC []) 60) (cl c54) (entry [memA m])).map (lfR 0 ds54a true res54) = .ret (.go .norm (some (st54a m))) := by kernel_rfl
theorem ev54b : (codeE (cxC []) (evs (cxC []) 60) (joins (firsts 1 sc54)) (st54a m)).map (lfR 0 ds54b true res54) = .ret (.go .norm (some (st54b m))) := by kernel_rfl
theorem ev54c : (codeE (cxC []) (evs (cxC []) 60) a54 (st54b m)).map (lfR 0 ds54c true res54) = .ret (.go .norm (some (inv54 m m 0))) := by kernel_rfl
theorem ev54d : (codeE (cxC []) (evs (cxC []) 60) (joins (firsts 2 body54)) (inv54 m out i)).map (lfR 0 ds54c true res54) = .br (decide (i < m.n)) (.ret (.go .norm (some (inv54 m out i)))) (.ret (.go (.exit 0) (some (inv54 m out i)))) := by kernel_rfl
theorem ev54e : (codeE (cxC []) (evs (cxC []) 60) (joins (firsts 2 blk54)) (inv54 m out i)).map (lfR 0 ds54d true res54) = .side (PmInR m) (.ret (.go .norm (some (rng54 m (pmR m) out i)))) := by kernel_rfl
theorem ev54f : (codeE (cxC []) (evs (cxC []) 60) (rfA rf54) ((rng54 m m out i).withPs #[21, 22] [p, q])).map (lfR 4 ds54e true res54) = .ret (.go .norm (some (rnd54 m m out i p q))) := by kernel_rfl
theorem ev54g : (codeE (cxC [(30, true)]) (evs (cxC [(30, true)]) 60) (rfB rf54) (rnd54 m m out i p q)).map (lfR 4 ds54d true res54) = .side ((!okS p q) = true) (.ret (.go (.goto 0) (some (rng54 m m out i)))) := by kernel_rfl
theorem ev54h : (codeE (cxC [(30, false), (40, true)]) (evs (cxC [(30, false), (40, true)]) 60) (rfB rf54) (rnd54 m m out i p q)).map (lfR 4 ds54d true res54) = .side ((!okS p q) = false) (.side (PmInR out) (.side (IsIt (capCs i p q)) (.side (((capA out i p q).2 != 0) = true) (.ret (.go (.goto 0) (some (rng54 m m out i))))))) := by kernel_rfl
theorem ev54i : (codeE (cxC [(30, false), (40, false)]) (evs (cxC [(30, false), (40, false)]) 60) (rfB rf54) (rnd54 m m out i p q)).map (lfR 4 ds54d true res54) = .side ((!okS p q) = false) (.side (PmInR out) (.side (IsIt (capCs i p q)) (.side (((capA out i p q).2 != 0) = false) (.ret (.go .norm (some (rng54 m m (capA out i p q).1 i))))))) := by kernel_rfl
theorem ev54j : (codeE (cxC []) (evs (cxC []) 60) nxt54 (rng54 m m out i)).map (lfR 0 ds54c true res54) = .ret (.go .norm (some (inv54 m out (IntKind.i64.wrap (i + 1))))) := by kernel_rfl
theorem ev54k : (codeE (cxC []) (evs (cxC []) 60) tail54 (inv54 m out i)).map (lfR 0 [] false res54) = .ret (.out (.tup [memA out, .lit (.int .i64 0)])) := by kernel_rfl
theorem ev54l : (codeE (cxC []) (evs (cxC []) 60) (.seq .skip err54) (rng54 m m out i)).map (lfR 0 [] false res54) = .ret (.out (.tup [memA m, .lit (.int .i64 4)])) := by kernel_rfl
end
end
end Go.Proofs.Ytkmhabbpndcnkaa

/-
  PART: caps, plainly.
-/
namespace Go.Proofs.Ytkmhabbpndcnkaa
open Go.RowKit
noncomputable section
/-- The memory of the document's items. -/
def pmOf (N : Nat) (L : List RIt) : PM := ⟨N, fun i : Nat => if i < 4 then (rlist L i).map toIt else []⟩
theorem pmOf_of {m : PM} {N : Nat} {L : List RIt} (h : Rel m N L) (ho : ∀ i, 4 ≤ i → m.l i = []) : m = pmOf N L := by
  obtain ⟨n, l⟩ := m
  have h1 : n = N := h.n
  have h2 : l = fun i : Nat => if i < 4 then (rlist L i).map toIt else [] := by
    funext i
    by_cases hi : i < 4
    · rw [if_pos hi]; exact h.l i hi
    · rw [if_neg hi]; exact ho i (by omega)
  rw [h1, h2]; rfl
structure BS (N : Nat) (L : List RIt) : Prop where
  rel : Rel (pmOf N L) N L
  small : ∀ loc, (at_ L loc).length ≤ 40
theorem pmOf_out {N : Nat} {L : List RIt} {i : Nat} (h : 4 ≤ i) : (pmOf N L).l i = [] := by
  show (if i < 4 then _ else _) = _
  rw [if_neg (by omega)]
theorem count_at {n : Nat} : ∀ {L : List RIt}, (∀ x ∈ L, 0 ≤ x.loc ∧ x.loc < (n : Int)) → L.length = ((List.range n).map fun i : Nat => (at_ L i).length).sum
  | [], _ => by
    have key : ∀ k : Nat, ((List.range k).map fun i : Nat => (at_ [] i).length).sum = 0 := by
      intro k
      induction k with
      | zero => rfl
      | succ k ih => rw [List.range_succ, List.map_append, List.sum_append, ih]; rfl
    exact (key n).symm
  | x :: L, h => by
    have ih := count_at (L := L) (n := n) fun y hy => h y (List.mem_cons_of_mem _ hy)
    have hx := h x (List.mem_cons_self ..)
    have key : ∀ k : Nat, ((List.range k).map fun i : Nat => (at_ (x :: L) i).length).sum = ((List.range k).map fun i : Nat => (at_ L i).length).sum + if x.loc < (k : Int) then 1 else 0 := by
      intro k
      induction k with
      | zero => rw [if_neg (by omega)]; rfl
      | succ k ihk =>
        rw [List.range_succ, List.map_append, List.map_append, List.sum_append, List.sum_append, ihk]
        have e : (at_ (x :: L) (k : Int)).length = (at_ L (k : Int)).length + if x.loc = (k : Int) then 1 else 0 := by
          unfold at_
          rw [List.filter_cons]
          by_cases hk : x.loc = (k : Int)
          · rw [if_pos (by simpa using hk), if_pos hk]; rfl
          · rw [if_neg (by simpa using hk), if_neg hk]; rfl
        simp only [List.map_cons, List.map_nil, List.sum_cons, List.sum_nil, e]
        by_cases h1 : x.loc = (k : Int)
        · rw [if_pos h1, if_neg (by omega), if_pos (by omega)]; omega
        · by_cases h2 : x.loc < (k : Int)
          · rw [if_neg h1, if_pos h2, if_pos (by omega)]; omega
          · rw [if_neg h1, if_neg h2, if_neg (by omega)]; omega
    rw [List.length_cons, key n, ih, if_pos hx.2]
theorem BS.len {N : Nat} {L : List RIt} (h : BS N L) : L.length ≤ 160 := by
  have h1 := count_at (L := L) (n := N) fun x hx => ⟨(h.rel.good.may x hx).1, (h.rel.good.may x hx).2.1⟩
  have hN := h.rel.hi
  have key : ∀ k : Nat, ((List.range k).map fun i : Nat => (at_ L i).length).sum ≤ k * 40 := by
    intro k
    induction k with
    | zero => exact Nat.le_refl _
    | succ k ih =>
      rw [List.range_succ, List.map_append, List.sum_append]
      have := h.small k
      simp only [List.map_cons, List.map_nil, List.sum_cons, List.sum_nil]
      omega
  have := key N
  have : N * 40 ≤ 4 * 40 := Nat.mul_le_mul_right _ hN
  omega
theorem BS.both {N : Nat} {L : List RIt} (h : BS N L) : Both (pmOf N L) N L 160 := ⟨h.rel, h.len, fun _ hi => pmOf_out hi⟩
theorem BS.add {N : Nat} {L : List RIt} (h : BS N L) {x : RIt} (hx : okS x.p x.q = true) (hv : RVz x) : addM (pmOf N L) (toIt x) = (pmOf N (refAdd N L x).1, (refAdd N L x).2) ∧ BS N (refAdd N L x).1 := by
  obtain ⟨h1, h2⟩ := h.both.add hx hv
  have e := pmOf_of h2.rel h2.out
  refine ⟨by rw [← h1, ← e], by rw [← e]; exact h2.rel, fun loc => ?_⟩
  have hs := h.small loc
  unfold refAdd
  split
  · exact hs
  · split
    · exact hs
    · split
      · exact hs
      · rename_i h40
        show (at_ (L ++ [x]) loc).length ≤ 40
        unfold at_ at hs h40 ⊢
        rw [List.filter_append, List.length_append, List.filter_cons, List.filter_nil]
        by_cases hl : x.loc = loc
        · rw [hl] at h40
          split
          · simp only [List.length_cons, List.length_nil]; omega
          · simp only [List.length_nil]; omega
        · rw [if_neg (by simpa using hl)]; exact hs
theorem BS.begin {U : List Int} (h1 : 1 ≤ U.length) (h2 : U.length ≤ 4) : beginM U = pmOf U.length (refBegin U) ∧ BS U.length (refBegin U) := by
  have hb := both_begin h1 h2
  have e := pmOf_of hb.rel hb.out
  refine ⟨e, by rw [← e]; exact hb.rel, fun loc => ?_⟩
  have : (at_ (refBegin U) loc).length ≤ (refBegin U).length := List.length_filter_le _ _
  have := hb.len
  omega
/-- The gaps of a row of the document's. -/
def gapsR (last : Int) : List RIt → List (List Int)
  | [] => [[last, last + 1]]
  | x :: l => if decide (x.p > last) = true then [last, x.p] :: gapsR x.q l else gapsR x.q l
theorem gapsL_map : ∀ {l : List RIt} {last : Int}, (∀ x ∈ l, okS x.p x.q = true) → 0 ≤ last → last ≤ 1048576 → gapsL last (l.map toIt) = gapsR last l
  | [], last, _, h0, h1 => by
    show [[last, IntKind.i64.wrap (last + 1)]] = _
    rw [IntWalk.i64_in _ (by omega)]; rfl
  | x :: l, last, h, _, _ => by
    have hx := h x (List.mem_cons_self ..)
    have hq := (okS_iff _ _).1 hx
    have e1 : frI (toIt x) = x.p := from_toIt hx
    have e2 : toI (toIt x) = x.q := end_toIt hx
    show (if decide (frI (toIt x) > last) = true then [last, frI (toIt x)] :: gapsL (toI (toIt x)) (l.map toIt) else gapsL (toI (toIt x)) (l.map toIt)) = _
    rw [e1, e2, gapsL_map (fun y hy => h y (List.mem_cons_of_mem _ hy)) (by omega) (by omega)]
    rfl
def capR (i p q : Int) : RIt := ⟨i, p, q, 0, fun _ => 0, true, -1⟩
theorem capR_vz (i p q : Int) : RVz (capR i p q) := fun _ _ => rfl
theorem capCs_eq {i p q : Int} (h : okS p q = true) : capCs i p q = (toIt (capR i p q)).cells := by
  have e : partS p q p = p.toNat ∧ partS p q q = q.toNat := by unfold partS; rw [if_pos h, if_pos h]; exact ⟨rfl, rfl⟩
  unfold capCs
  rw [e.1, e.2]; rfl
/-- One gap, capped. -/
def refStep (N : Nat) (i : Int) (L : List RIt) (x : List Int) : Option (List RIt) := if (refAdd N L (capR i (x.getD 0 0) (x.getD 1 0))).2 = 0 then some (refAdd N L (capR i (x.getD 0 0) (x.getD 1 0))).1 else none
def refCapLoc (N : Nat) (L0 L : List RIt) (i : Nat) : Option (List RIt) := (gapsR 0 (rlist L0 i)).foldlM (refStep N i) L
def refCap (N : Nat) (L0 : List RIt) : Option (List RIt) := (List.range N).foldlM (refCapLoc N L0) L0
end
end Go.Proofs.Ytkmhabbpndcnkaa

/-
  PART: caps: Capped, a contract.
-/
namespace Go.Proofs.Ytkmhabbpndcnkaa
open Go.RowKit
noncomputable section
theorem foldlM_take {α β : Type} (f : β → α → Option β) (a : α) : ∀ (l : List α) (k : Nat) (b : β), l[k]? = some a → (l.take (k + 1)).foldlM f b = ((l.take k).foldlM f b).bind fun c => f c a
  | [], k, b, h => by simp at h
  | x :: l, 0, b, h => by
    simp at h
    subst h
    simp
  | x :: l, k + 1, b, h => by
    simp at h
    simp only [List.take_succ_cons, List.foldlM_cons]
    cases hx : f b x with
    | none => rfl
    | some c =>
      show (l.take (k + 1)).foldlM f c = ((l.take k).foldlM f c).bind _
      exact foldlM_take f a l k c h
theorem foldlM_none {α β : Type} (f : β → α → Option β) : ∀ (l : List α) (k : Nat) (b : β), (l.take k).foldlM f b = none → l.foldlM f b = none
  | [], k, b, h => by simp at h
  | x :: l, 0, b, h => by simp at h
  | x :: l, k + 1, b, h => by
    simp only [List.take_succ_cons, List.foldlM_cons] at h ⊢
    cases hx : f b x with
    | none => rfl
    | some c =>
      rw [hx] at h
      exact foldlM_none f l k c h
/-- What a program's memory, capped, is. -/
def capPM (N : Nat) (L : List RIt) : PM := pmOf N ((refCap N L).getD L)
def capE (N : Nat) (L : List RIt) : Int := if (refCap N L).isSome = true then 0 else 4
def refI (N : Nat) (i : Nat) (L : List RIt) (xs : List (List Int)) (k : Nat) : List RIt := ((xs.take k).foldlM (refStep N i) L).getD L
section
variable {N : Nat} {L0 L : List RIt} {B : Start} {i : Nat}
theorem gaps_two : ∀ {l : List RIt} {last : Int} {k : Nat} {x : List Int}, (gapsR last l)[k]? = some x → ∃ p q, x = [p, q]
  | [], last, k, x, h => by
    cases k with
    | zero => simp [gapsR] at h; exact ⟨_, _, h.symm⟩
    | succ k => simp [gapsR] at h
  | y :: l, last, k, x, h => by
    unfold gapsR at h
    split at h
    · cases k with
      | zero => simp at h; exact ⟨_, _, h.symm⟩
      | succ k => exact gaps_two (l := l) (k := k) (by simpa using h)
    · exact gaps_two (l := l) h
def Jr (N : Nat) (i : Nat) (L : List RIt) (xs : List (List Int)) (k : Nat) : Prop := (∃ L', (xs.take k).foldlM (refStep N i) L = some L') ∧ BS N (refI N i L xs k)
theorem jr_next {xs : List (List Int)} {k : Nat} {p q : Int} (hJ : Jr N i L xs k) (hx : xs[k]? = some [p, q]) (ho : okS p q = true) (hc : (refAdd N (refI N i L xs k) (capR i p q)).2 = 0) :
    Jr N i L xs (k + 1) ∧ refI N i L xs (k + 1) = (refAdd N (refI N i L xs k) (capR i p q)).1 := by
  obtain ⟨⟨L', h1⟩, h2⟩ := hJ
  have e : refI N i L xs k = L' := by unfold refI; rw [h1]; rfl
  rw [e] at hc h2 ⊢
  have h3 : (xs.take (k + 1)).foldlM (refStep N i) L = some (refAdd N L' (capR i p q)).1 := by
    rw [foldlM_take _ _ _ _ _ hx, h1]
    show refStep N i L' [p, q] = _
    unfold refStep
    exact if_pos hc
  have e2 : refI N i L xs (k + 1) = (refAdd N L' (capR i p q)).1 := by unfold refI; rw [h3]; rfl
  exact ⟨⟨⟨_, h3⟩, by rw [e2]; exact (h2.add ho (capR_vz _ _ _)).2⟩, e2⟩
theorem jr_stop {xs : List (List Int)} {k : Nat} {p q : Int} (hJ : Jr N i L xs k) (hx : xs[k]? = some [p, q]) (hc : (refAdd N (refI N i L xs k) (capR i p q)).2 ≠ 0) : xs.foldlM (refStep N i) L = none := by
  obtain ⟨⟨L', h1⟩, h2⟩ := hJ
  have e : refI N i L xs k = L' := by unfold refI; rw [h1]; rfl
  rw [e] at hc
  refine foldlM_none _ xs (k + 1) L ?_
  rw [foldlM_take _ _ _ _ _ hx, h1]
  show refStep N i L' [p, q] = _
  unfold refStep
  exact if_neg hc
theorem pmFitOf (h : BS N L) : PmFit (pmOf N L) := h.both.fit (by omega)
set_option maxRecDepth 100000 in
/-- The range over the gaps of a location. -/
theorem range54 (hrr : B.rr = none) (hnm : B.nm = false) (hN : B.N = Try.f54.ntmps) (h0 : BS N L0) (hL : BS N L) (hi : i < N) :
    WpC Try.prog B (.rangeFunc (.tmp 20) #[21, 22] (rfA rf54) (rfB rf54)) (rng54 (pmOf N L0) (pmOf N L0) (pmOf N L) i) fun x s =>
      (x = .norm ∧ ∃ L', refCapLoc N L0 L i = some L' ∧ BS N L' ∧ s = rng54 (pmOf N L0) (pmOf N L0) (pmOf N L') i) ∨ (x = .goto 0 ∧ refCapLoc N L0 L i = none ∧ ∃ L', s = rng54 (pmOf N L0) (pmOf N L0) (pmOf N L') i) := by
  have hfit := pmFitOf h0
  have hN4 := h0.rel.hi
  have hlist : listM (pmOf N L0) i = (rlist L0 i).map toIt := h0.both.list i
  have hxs : gapsL 0 (listM (pmOf N L0) i) = gapsR 0 (rlist L0 i) := by
    rw [hlist]
    exact gapsL_map (fun x hx => (h0.rel.good.may x (mem_rlist.1 hx).1).2.2.1) (Int.le_refl _) (by decide)
  have hseq := gaps_seq (m := pmOf N L0) (loc := i) hfit (h0.both.listOk (by omega) i).1
  rw [hxs] at hseq
  generalize hxd : gapsR 0 (rlist L0 i) = xs at hseq
  have htwo : ∀ (k : Nat) (x : List Int), xs[k]? = some x → ∃ p q, x = [p, q] := fun k x h => by rw [← hxd] at h; exact gaps_two h
  have hcap : refCapLoc N L0 L i = xs.foldlM (refStep N i) L := by unfold refCapLoc; rw [hxd]
  rw [hcap]
  refine wpc_range (f := 110) (cap := [.fz (memCells (pmOf N L0)) 0, .fz [iv i] 0]) (xs := xs) hrr hnm (fun args w => ?_) rfl hseq (fun k => rng54 (pmOf N L0) (pmOf N L0) (pmOf N (refI N i L xs k)) i) rfl (fun k => rfl) (fun k x h => ?_) (fun t ht => ?_)
    (fun k x => rnd54 (pmOf N L0) (pmOf N L0) (pmOf N (refI N i L xs k)) i (x.getD 0 0) (x.getD 1 0)) (fun x s => x = .goto 0 ∧ xs.foldlM (refStep N i) L = none ∧ ∃ L', s = rng54 (pmOf N L0) (pmOf N L0) (pmOf N L') i) (Jr N i L xs) ⟨⟨L, by simp⟩, by unfold refI; simpa using hL⟩ (fun k x hx hJ B' hn hB => ?_) (fun k x hx hJ B' hn hB => ?_) (fun hJ => .inl ⟨rfl, ?_⟩) (fun x s h => .inr h)
  · have hb : Try.f110.body = some c110 := by kernel_rfl
    have hname' : ¬ Try.f110.name = "runtime.NumGoroutine" := by simpa using (fit_func fitTry Try.func110 hb).2
    simp [callFunc, Try.func110, hname', hb]
  · obtain ⟨p, q, rfl⟩ := htwo k x h; rfl
  · simp at ht
    rw [hN]
    rcases ht with rfl | rfl
    · exact Nat.le_of_ble_eq_true (by kernel_rfl)
    · exact Nat.le_of_ble_eq_true (by kernel_rfl)
  · obtain ⟨p, q, rfl⟩ := htwo k x hx
    refine wpc_of_lfR (cx := cxC []) (n := 60) (ds := ds54e) (gb := true) (res := res54) (O := fun _ => False) (cxC_ok _) fitTry (by rw [hB, hN]; kernel_rfl) ?_ fun _ _ _ h => h.elim
    rw [hn]
    show ((codeE (cxC []) (evs (cxC []) 60) (rfA rf54) ((rng54 (pmOf N L0) (pmOf N L0) (pmOf N (refI N i L xs k)) i).withPs #[21, 22] [p, q])).map (lfR 4 ds54e true res54)).wp _
    rw [ev54f]
    exact ⟨rfl, rfl⟩
  · obtain ⟨p, q, rfl⟩ := htwo k x hx
    have hbs := hJ.2
    have hok : codeOk B'.N (rfB rf54) = true := by rw [hB, hN]; kernel_rfl
    cases ho : okS p q with
    | false =>
      refine wpc_of_lfR (cx := cxC [(30, true)]) (n := 60) (ds := ds54d) (gb := true) (res := res54) (O := fun _ => False) (cxC_ok _) fitTry hok ?_ fun _ _ _ h => h.elim
      rw [hn]
      show ((codeE (cxC [(30, true)]) (evs (cxC [(30, true)]) 60) (rfB rf54) (rnd54 (pmOf N L0) (pmOf N L0) (pmOf N (refI N i L xs k)) i p q)).map (lfR 4 ds54d true res54)).wp _
      rw [ev54g, ho]
      refine ⟨rfl, .inr ⟨by simp, _, hold_noSl _, rfl, rfl, ?_, _, rfl⟩⟩
      refine jr_stop hJ hx ?_
      rw [refAdd_bad ho]
      exact (by decide : (1 : Int) ≠ 0)
    | true =>
      have hit := toIt_ok (x := capR i p q) ho (capR_vz _ _ _)
      have ei : itOf (capCs i p q) = toIt (capR i p q) := by rw [capCs_eq ho, itOf_cells hit]
      have hin := pmInR (pmFitOf hbs)
      obtain ⟨h1, h2⟩ := hbs.add (x := capR i p q) ho (capR_vz _ _ _)
      have ec : capA (pmOf N (refI N i L xs k)) i p q = (pmOf N (refAdd N (refI N i L xs k) (capR i p q)).1, (refAdd N (refI N i L xs k) (capR i p q)).2) := by
        unfold capA; rw [pmR_eq (pmFitOf hbs), ei, h1]
      by_cases hc : (refAdd N (refI N i L xs k) (capR i p q)).2 = 0
      · refine wpc_of_lfR (cx := cxC [(30, false), (40, false)]) (n := 60) (ds := ds54d) (gb := true) (res := res54) (O := fun _ => False) (cxC_ok _) fitTry hok ?_ fun _ _ _ h => h.elim
        rw [hn]
        show ((codeE (cxC [(30, false), (40, false)]) (evs (cxC [(30, false), (40, false)]) 60) (rfB rf54) (rnd54 (pmOf N L0) (pmOf N L0) (pmOf N (refI N i L xs k)) i p q)).map (lfR 4 ds54d true res54)).wp _
        rw [ev54i, ho, ec]
        obtain ⟨j1, j2⟩ := jr_next hJ hx ho hc
        refine ⟨rfl, hin, by rw [capCs_eq ho]; exact isIt hit, (eq0_of hc).1, .inl ⟨rfl, j1, ?_⟩⟩
        show HoldLe B' (rng54 (pmOf N L0) (pmOf N L0) (pmOf N (refAdd N (refI N i L xs k) (capR i p q)).1) i) (rng54 (pmOf N L0) (pmOf N L0) (pmOf N (refI N i L xs (k + 1))) i).noSl
        rw [j2]
        exact hold_noSl _
      · refine wpc_of_lfR (cx := cxC [(30, false), (40, true)]) (n := 60) (ds := ds54d) (gb := true) (res := res54) (O := fun _ => False) (cxC_ok _) fitTry hok ?_ fun _ _ _ h => h.elim
        rw [hn]
        show ((codeE (cxC [(30, false), (40, true)]) (evs (cxC [(30, false), (40, true)]) 60) (rfB rf54) (rnd54 (pmOf N L0) (pmOf N L0) (pmOf N (refI N i L xs k)) i p q)).map (lfR 4 ds54d true res54)).wp _
        rw [ev54h, ho, ec]
        exact ⟨rfl, hin, by rw [capCs_eq ho]; exact isIt hit, (ne0_of hc).1, .inr ⟨by simp, _, hold_noSl _, rfl, rfl, jr_stop hJ hx hc, _, rfl⟩⟩
  · obtain ⟨⟨L', h1⟩, h2⟩ := hJ
    have e : refI N i L xs xs.length = L' := by unfold refI; rw [h1]; rfl
    rw [List.take_length] at h1
    exact ⟨L', h1, by rw [← e]; exact h2, by rw [e]⟩
end
end
end Go.Proofs.Ytkmhabbpndcnkaa

/-
  PART: caps: Capped, a contract (all).
-/
namespace Go.Proofs.Ytkmhabbpndcnkaa
open Go.RowKit
noncomputable section
structure K54 where
  i : Nat
  L : List RIt
section
variable {N : Nat} {L0 : List RIt} {B : Start}
def Inv54 (N : Nat) (L0 : List RIt) (k : K54) : St := inv54 (pmOf N L0) (pmOf N k.L) k.i
def J54 (N : Nat) (L0 : List RIt) (k : K54) : Prop := k.i ≤ N ∧ BS N k.L ∧ refCap N L0 = ((List.range N).drop k.i).foldlM (refCapLoc N L0) k.L
theorem range_drop {N i : Nat} (h : i < N) : (List.range N).drop i = i :: (List.range N).drop (i + 1) := by
  rw [List.drop_eq_getElem_cons (by simpa using h)]
  simp
/-- A jump out. -/
def Go54 (N : Nat) (L0 : List RIt) (x : Ex) (s : St) : Prop := x = .goto 0 ∧ refCap N L0 = none ∧ ∃ L' i, s = rng54 (pmOf N L0) (pmOf N L0) (pmOf N L') i
set_option maxRecDepth 100000 in
theorem round54 (hrr : B.rr = none) (hnm : B.nm = false) (hN : B.N = Try.f54.ntmps) (hn : B.nx0 = 0) (h0 : BS N L0) (k : K54) (hk : J54 N L0 k) :
    WpC Try.prog B body54 (Inv54 N L0 k) fun x s => (x = .norm ∧ ∃ k', J54 N L0 k' ∧ N - k'.i < N - k.i ∧ HoldLe B s (Inv54 N L0 k')) ∨ (x ≠ .norm ∧ ((x = .exit 0 ∧ ∃ k', J54 N L0 k' ∧ k'.i = N ∧ s = Inv54 N L0 k') ∨ Go54 N L0 x s)) := by
  have hle := h0.rel.hi
  have hk1 := hk.1
  have hok : codeOk B.N (joins (firsts 2 body54)) = true ∧ codeOk B.N (joins (firsts 2 blk54)) = true ∧ codeOk B.N nxt54 = true ∧ ((firsts 2 body54).all fun a => codeOk B.N a) = true ∧ ((firsts 2 blk54).all fun a => codeOk B.N a) = true := by
    rw [hN]; exact ⟨by kernel_rfl, by kernel_rfl, by kernel_rfl, by kernel_rfl, by kernel_rfl⟩
  rw [cbody54]
  refine wpc_stageR (cx := cxC []) (n := 60) (ds := ds54c) (gb := true) (res := res54) (O := fun _ => False) (cxC_ok _) fitTry (by simp [firsts]) hok.2.2.2.1 ?_ fun _ _ _ h => h.elim
  rw [hn]
  show ((codeE (cxC []) (evs (cxC []) 60) (joins (firsts 2 body54)) (inv54 (pmOf N L0) (pmOf N k.L) k.i)).map (lfR 0 ds54c true res54)).wp _
  rw [ev54d]
  refine ⟨fun hc => ?_, fun hc => ?_⟩
  · have hlt : k.i < N := by
      have h1 : (k.i : Int) < (pmOf N L0).n := of_decide_eq_true hc
      have h2 : (pmOf N L0).n = (N : Int) := rfl
      omega
    show WpC _ _ _ _ _
    refine wpc_seq (R1 := fun x s => (x = .norm ∧ ∃ L', refCapLoc N L0 k.L k.i = some L' ∧ BS N L' ∧ s = rng54 (pmOf N L0) (pmOf N L0) (pmOf N L') k.i) ∨ (x = .goto 0 ∧ refCapLoc N L0 k.L k.i = none ∧ ∃ L', s = rng54 (pmOf N L0) (pmOf N L0) (pmOf N L') k.i)) (wpc_block (R1 := fun x s => (x = .norm ∧ ∃ L', refCapLoc N L0 k.L k.i = some L' ∧ BS N L' ∧ s = rng54 (pmOf N L0) (pmOf N L0) (pmOf N L') k.i) ∨ (x = .goto 0 ∧ refCapLoc N L0 k.L k.i = none ∧ ∃ L', s = rng54 (pmOf N L0) (pmOf N L0) (pmOf N L') k.i)) ?_ ?_ fun x s1 _ h => h) ?_ ?_
    · rw [cblk54]
      refine wpc_stageR (cx := cxC []) (n := 60) (ds := ds54d) (gb := true) (res := res54) (O := fun _ => False) (cxC_ok _) fitTry (by simp [firsts]) hok.2.2.2.2 ?_ fun _ _ _ h => h.elim
      rw [hn]
      show ((codeE (cxC []) (evs (cxC []) 60) (joins (firsts 2 blk54)) (inv54 (pmOf N L0) (pmOf N k.L) k.i)).map (lfR 0 ds54d true res54)).wp _
      rw [ev54e, pmR_eq (pmFitOf h0)]
      refine ⟨pmInR (pmFitOf h0), ?_⟩
      show WpC _ _ _ _ _
      refine wpc_block (range54 hrr hnm hN h0 hk.2.1 hlt) ?_ fun x s1 _ h => h
      rintro s1 (⟨h, _⟩ | ⟨h, _⟩) <;> cases h
    · rintro s1 (⟨h, _⟩ | ⟨h, _⟩) <;> cases h
    · rintro s1 (⟨_, L', h1, h2, rfl⟩ | ⟨h, _⟩)
      · refine wpc_of_lfR (cx := cxC []) (n := 60) (ds := ds54c) (gb := true) (res := res54) (O := fun _ => False) (cxC_ok _) fitTry hok.2.2.1 ?_ fun _ _ _ h => h.elim
        rw [hn]
        rw [ev54j]
        have hw : IntKind.i64.wrap ((k.i : Int) + 1) = ((k.i + 1 : Nat) : Int) := by rw [IntWalk.i64_in _ (by omega)]; rfl
        rw [hw]
        refine .inl ⟨rfl, ⟨k.i + 1, L'⟩, ⟨hlt, h2, ?_⟩, by show N - (k.i + 1) < N - k.i; omega, .refl _⟩
        have := hk.2.2
        rw [range_drop hlt, List.foldlM_cons, h1] at this
        exact this
      · cases h
    · rintro x s1 hx (⟨h, _⟩ | ⟨rfl, h, L', rfl⟩)
      · exact absurd h hx
      · refine .inr ⟨by simp, .inr ⟨rfl, ?_, L', k.i, rfl⟩⟩
        have := hk.2.2
        rw [range_drop hlt, List.foldlM_cons, h] at this
        exact this
  · have hge : k.i = N := by
      have h1 : ¬ (k.i : Int) < (pmOf N L0).n := of_decide_eq_false hc
      have h2 : (pmOf N L0).n = (N : Int) := rfl
      omega
    exact .inr ⟨by simp, .inl ⟨rfl, k, hk, hge, rfl⟩⟩
set_option maxRecDepth 100000 in
theorem capped_frz (h0 : BS N L0) : FrzOk Try.prog 54 [memA (pmOf N L0)] (.tup [memA (capPM N L0), iv (capE N L0)]) := by
  let O : AV → Prop := fun a' => ∀ E v, Rep E a' v → Rep E (.tup [memA (capPM N L0), iv (capE N L0)]) v
  have hO : ∀ (L' : List RIt) (e : Int), capPM N L0 = pmOf N L' → capE N L0 = e → O (.tup [memA (pmOf N L'), .lit (.int .i64 e)]) := fun L' e h1 h2 E v hv => by
    rw [h1, h2]
    cases hv with
    | @tup _ cs hr =>
      refine .tup ?_
      generalize cs.toList = l at hr ⊢
      cases hr with | cons q1 t => cases t with | cons q2 t => exact .cons q1 (.cons (rep_open q2) t)
  refine frz_of_ends fitTry Try.func54 (c := c54) (by kernel_rfl) (Nat.le_of_ble_eq_true (by kernel_rfl)) (O := O) (fun E w hd hf => ?_) fun a' h => h
  show WpC _ _ (seqs [cl c54] (.scope sc54)) _ _
  refine wpc_stageR (cx := cxC []) (n := 60) (ds := ds54a) (gb := true) (res := res54) (O := O) (cxC_ok _) fitTry (by simp) (by kernel_rfl) ?_ ends_ret
  show ((codeE (cxC []) (evs (cxC []) 60) (cl c54) (entry [memA (pmOf N L0)])).map (lfR 0 ds54a true res54)).wp _
  rw [ev54a]
  show WpC _ _ _ _ _
  refine wpc_scope (R1 := fun x s => Go54 N L0 x s ∨ ((∀ l, x ≠ .goto l) ∧ Ends Try.prog Try.f54.results.toList O x s)) (R2 := fun x s => (∀ l, x ≠ .goto l) ∧ Ends Try.prog Try.f54.results.toList O x s) ?_ ?_ ?_ ?_
  · rw [csc54]
    refine wpc_stageR (cx := cxC []) (n := 60) (ds := ds54b) (gb := true) (res := res54) (O := O) (cxC_ok _) fitTry (by simp [firsts]) (by kernel_rfl) ?_ fun s a h1 h2 => .inr ⟨(fun l h => by cases h), ends_ret s a h1 h2⟩
    show ((codeE (cxC []) (evs (cxC []) 60) (joins (firsts 1 sc54)) (st54a (pmOf N L0))).map (lfR 0 ds54b true res54)).wp _
    rw [ev54b]
    show WpC _ _ _ _ _
    refine wpc_seq (R1 := fun x s => (x = .norm ∧ ∃ k, J54 N L0 k ∧ k.i = N ∧ s = Inv54 N L0 k) ∨ Go54 N L0 x s) (wpc_seq (R1 := fun x s => x = .norm ∧ s = inv54 (pmOf N L0) (pmOf N L0) 0) ?_ ?_ ?_) ?_ ?_
    · refine wpc_of_lfR (cx := cxC []) (n := 60) (ds := ds54c) (gb := true) (res := res54) (O := fun _ => False) (cxC_ok _) fitTry (by kernel_rfl) ?_ fun _ _ _ h => h.elim
      show ((codeE (cxC []) (evs (cxC []) 60) a54 (st54b (pmOf N L0))).map (lfR 0 ds54c true res54)).wp _
      rw [ev54c]
      exact ⟨rfl, rfl⟩
    · rintro s1 ⟨_, rfl⟩
      refine wpc_block (R1 := fun x s => (x = .exit 0 ∧ ∃ k, J54 N L0 k ∧ k.i = N ∧ s = Inv54 N L0 k) ∨ Go54 N L0 x s) (wpc_loop (Inv54 N L0) (J54 N L0) (fun k => N - k.i) _ (fun k hk => round54 rfl rfl rfl rfl h0 k hk) ⟨0, L0⟩ ⟨Nat.zero_le _, h0, rfl⟩) ?_ ?_
      · rintro s2 (⟨_, h⟩ | ⟨h, _⟩)
        · exact .inl ⟨rfl, h⟩
        · cases h
      · rintro x s2 hx (⟨h, _⟩ | h)
        · exact absurd h hx
        · exact .inr h
    · rintro x s1 hx ⟨h, _⟩; exact absurd h hx
    · rintro s1 (⟨_, k, hk, hi, rfl⟩ | ⟨h, _⟩)
      · refine wpc_of_lfR (cx := cxC []) (n := 60) (ds := []) (gb := false) (res := res54) (O := O) (cxC_ok _) fitTry (by kernel_rfl) ?_ fun s a h1 h2 => .inr ⟨(fun l h => by cases h), ends_ret s a h1 h2⟩
        show ((codeE (cxC []) (evs (cxC []) 60) tail54 (inv54 (pmOf N L0) (pmOf N k.L) k.i)).map (lfR 0 [] false res54)).wp _
        rw [ev54k]
        have hc := hk.2.2
        rw [hi, List.drop_eq_nil_of_le (by simp)] at hc
        have hc : refCap N L0 = some k.L := hc
        refine hO k.L 0 ?_ ?_
        · unfold capPM; rw [hc]; rfl
        · unfold capE; rw [hc]; rfl
      · cases h
    · rintro x s1 hx (⟨h, _⟩ | h)
      · exact absurd h hx
      · exact .inl h
  · rintro l s1 (⟨h, hn, L', i, rfl⟩ | ⟨h, _⟩)
    · cases h
      refine ⟨_, clab54, ?_⟩
      refine wpc_of_lfR (cx := cxC []) (n := 60) (ds := []) (gb := false) (res := res54) (O := O) (cxC_ok _) fitTry (by kernel_rfl) ?_ fun s a h1 h2 => ⟨(fun l h => by cases h), ends_ret s a h1 h2⟩
      show ((codeE (cxC []) (evs (cxC []) 60) (.seq .skip err54) (rng54 (pmOf N L0) (pmOf N L0) (pmOf N L') i)).map (lfR 0 [] false res54)).wp _
      rw [ev54l]
      refine hO L0 4 ?_ ?_
      · unfold capPM; rw [hn]; rfl
      · unfold capE; rw [hn]; rfl
    · exact absurd rfl (h l)
  · rintro x s1 hx (⟨h, _⟩ | ⟨_, h⟩)
    · exact absurd h (hx 0)
    · exact h
  · rintro x s1 h; exact h
end
end
end Go.Proofs.Ytkmhabbpndcnkaa

/-
  PART: caps: Top, a contract.
-/
namespace Go.Proofs.Ytkmhabbpndcnkaa
open Go.RowKit
noncomputable section
def memL (n : Int) (a b c d : List It) : AV := .agg [.lit (.int .i64 n), rowI a, rowI b, rowI c, rowI d]
def pm4 (n : Int) (a b c d : List It) : PM := pmD n a.length b.length c.length d.length (getI a) (getI b) (getI c) (getI d)
def lastO (m : PM) (i : Int) : It := (lastM m i).getD itz
def inD (n : Int) (a b c d : List It) : Prop := PmIn n a.length b.length c.length d.length (getI a) (getI b) (getI c) (getI d)
section
variable (a b c d : List It)
theorem ev60_1 : (((evs (cxM3 (decM [])) 60).call 60 [memL 1 a b c d] .nil).frz) = .side (inD 1 a b c d) (.side (fOk (lastO (pm4 1 a b c d) 0)) (.ret (.agg [iv (toU (lastO (pm4 1 a b c d) 0)), .lit (.int .i64 0), .lit (.int .i64 0), .lit (.int .i64 0)]))) := by kernel_rfl
theorem ev60_2 : (((evs (cxM3 (decM [])) 60).call 60 [memL 2 a b c d] .nil).frz) = .side (inD 2 a b c d) (.side (fOk (lastO (pm4 2 a b c d) 0)) ( .side (inD 2 a b c d) (.side (fOk (lastO (pm4 2 a b c d) 1)) (.ret (.agg [iv (toU (lastO (pm4 2 a b c d) 0)), iv (toU (lastO (pm4 2 a b c d) 1)), .lit (.int .i64 0), .lit (.int .i64 0)]))))) := by kernel_rfl
theorem ev60_3 : (((evs (cxM3 (decM [])) 60).call 60 [memL 3 a b c d] .nil).frz) = .side (inD 3 a b c d) (.side (fOk (lastO (pm4 3 a b c d) 0)) ( .side (inD 3 a b c d) (.side (fOk (lastO (pm4 3 a b c d) 1)) ( .side (inD 3 a b c d) (.side (fOk (lastO (pm4 3 a b c d) 2)) (.ret (.agg [iv (toU (lastO (pm4 3 a b c d) 0)), iv (toU (lastO (pm4 3 a b c d) 1)), iv (toU (lastO (pm4 3 a b c d) 2)), .lit (.int .i64 0)]))))))) := by kernel_rfl
theorem ev60_4 : (((evs (cxM3 (decM [])) 60).call 60 [memL 4 a b c d] .nil).frz) = .side (inD 4 a b c d) (.side (fOk (lastO (pm4 4 a b c d) 0)) ( .side (inD 4 a b c d) (.side (fOk (lastO (pm4 4 a b c d) 1)) ( .side (inD 4 a b c d) (.side (fOk (lastO (pm4 4 a b c d) 2)) ( .side (inD 4 a b c d) (.side (fOk (lastO (pm4 4 a b c d) 3)) (.ret (.agg [iv (toU (lastO (pm4 4 a b c d) 0)), iv (toU (lastO (pm4 4 a b c d) 1)), iv (toU (lastO (pm4 4 a b c d) 2)), iv (toU (lastO (pm4 4 a b c d) 3))]))))))))) := by kernel_rfl
end
def topI (m : PM) (i : Int) : Int := if i < m.n then toI (lastO m i) else 0
def topA (m : PM) : AV := .agg [iv (topI m 0), iv (topI m 1), iv (topI m 2), iv (topI m 3)]
theorem rep_memL {E : Env} {m : PM} {v : Value} (h : Rep E (memA m) v) : Rep E (memL m.n (m.l 0) (m.l 1) (m.l 2) (m.l 3)) v := by
  obtain ⟨vs, rfl, hr, ho⟩ := Rep.agg_inv h
  refine Rep.agg_mk ?_ ho
  cases hr with | cons r0 t => exact .cons (rep_lit_of r0) t
theorem lastO_ok {m : PM} (h : PmFit m) (i : Int) : (lastO m i).Ok := by
  unfold lastO lastM
  split
  · rename_i hl
    cases hf : (m.l i.toNat).reverse.find? (fun x => !x.res) with
    | none => exact itz_ok
    | some x =>
      have hx := List.mem_of_find?_eq_some hf
      rw [List.mem_reverse] at hx
      have hn := h.n4
      have h2 : 0 ≤ i ∧ i < m.n := by
        unfold locE at hl
        split at hl
        · rename_i h0; exact ⟨of_decide_eq_true h0, of_decide_eq_true hl⟩
        · cases hl
      exact (h.ok i.toNat (by omega)).2 x hx
  · exact itz_ok
theorem rep_top {E : Env} {t0 t1 t2 t3 : AV} {m : PM} {v : Value} (h : Rep E (.agg [t0, t1, t2, t3]) v) (h0 : ∀ u, Rep E t0 u → Rep E (iv (topI m 0)) u) (h1 : ∀ u, Rep E t1 u → Rep E (iv (topI m 1)) u) (h2 : ∀ u, Rep E t2 u → Rep E (iv (topI m 2)) u) (h3 : ∀ u, Rep E t3 u → Rep E (iv (topI m 3)) u) : Rep E (topA m) v := by
  obtain ⟨vs, rfl, hr, ho⟩ := Rep.agg_inv h
  refine Rep.agg_mk ?_ ho
  cases hr with | cons r0 t => cases t with | cons r1 t => cases t with | cons r2 t => cases t with | cons r3 t => cases t with | nil =>
  exact .cons (h0 _ r0) (.cons (h1 _ r1) (.cons (h2 _ r2) (.cons (h3 _ r3) .nil)))
theorem topI_in {m : PM} (h : PmFit m) {i : Int} (hi : i < m.n) {E : Env} {u : Value} (hu : Rep E (iv (toU (lastO m i))) u) : Rep E (iv (topI m i)) u := by
  unfold topI
  rw [if_pos hi, show toI (lastO m i) = toU (lastO m i) from (toU_eq (lastO_ok h i)).symm]; exact hu
theorem topI_out {m : PM} {i : Int} (hi : ¬ i < m.n) {E : Env} {u : Value} (hu : Rep E (.lit (.int .i64 0)) u) : Rep E (iv (topI m i)) u := by
  unfold topI
  rw [if_neg hi]; exact rep_open hu
theorem top_frz {m : PM} (hm : PmFit m) (h1 : 1 ≤ m.n) : FrzOk Try.prog 60 [memA m] (topA m) := by
  have h4 := hm.n4
  have hin := pmInR hm
  have hR := pmR_eq hm
  have hpre : ∀ {n : Int}, m.n = n → ∀ E vs, Reps E [memA m] vs → Reps E [memL n (m.l 0) (m.l 1) (m.l 2) (m.l 3)] vs := fun {n} e E vs h => by
    cases h with | cons q t => exact .cons (by rw [← e]; exact rep_memL q) t
  have key : m.n = 1 ∨ m.n = 2 ∨ m.n = 3 ∨ m.n = 4 := by omega
  have hp : ∀ {n : Int}, m.n = n → pm4 n (m.l 0) (m.l 1) (m.l 2) (m.l 3) = m := fun {n} e => by rw [← e]; exact hR
  have hi : ∀ {n : Int}, m.n = n → inD n (m.l 0) (m.l 1) (m.l 2) (m.l 3) := fun {n} e => by rw [← e]; exact hin
  have hf : ∀ {n : Int}, m.n = n → ∀ i, fOk (lastO (pm4 n (m.l 0) (m.l 1) (m.l 2) (m.l 3)) i) := fun {n} e i => by rw [hp e]; exact it_fOk (lastO_ok hm i)
  rcases key with e | e | e | e
  · refine (frz_ev (cx := cxM3 (decM [])) (cxM3_ok _) fitTry (n := 60) (a := topA m) (ev60_1 (m.l 0) (m.l 1) (m.l 2) (m.l 3)) ⟨hi e, hf e 0, fun E v hv => ?_⟩).pre (hpre e)
    rw [hp e] at hv
    exact rep_top hv (fun u hu => topI_in hm (by omega) hu) (fun u hu => topI_out (by omega) hu) (fun u hu => topI_out (by omega) hu) (fun u hu => topI_out (by omega) hu)
  · refine (frz_ev (cx := cxM3 (decM [])) (cxM3_ok _) fitTry (n := 60) (a := topA m) (ev60_2 (m.l 0) (m.l 1) (m.l 2) (m.l 3)) ⟨hi e, hf e 0, hi e, hf e 1, fun E v hv => ?_⟩).pre (hpre e)
    rw [hp e] at hv
    exact rep_top hv (fun u hu => topI_in hm (by omega) hu) (fun u hu => topI_in hm (by omega) hu) (fun u hu => topI_out (by omega) hu) (fun u hu => topI_out (by omega) hu)
  · refine (frz_ev (cx := cxM3 (decM [])) (cxM3_ok _) fitTry (n := 60) (a := topA m) (ev60_3 (m.l 0) (m.l 1) (m.l 2) (m.l 3)) ⟨hi e, hf e 0, hi e, hf e 1, hi e, hf e 2, fun E v hv => ?_⟩).pre (hpre e)
    rw [hp e] at hv
    exact rep_top hv (fun u hu => topI_in hm (by omega) hu) (fun u hu => topI_in hm (by omega) hu) (fun u hu => topI_in hm (by omega) hu) (fun u hu => topI_out (by omega) hu)
  · refine (frz_ev (cx := cxM3 (decM [])) (cxM3_ok _) fitTry (n := 60) (a := topA m) (ev60_4 (m.l 0) (m.l 1) (m.l 2) (m.l 3)) ⟨hi e, hf e 0, hi e, hf e 1, hi e, hf e 2, hi e, hf e 3, fun E v hv => ?_⟩).pre (hpre e)
    rw [hp e] at hv
    exact rep_top hv (fun u hu => topI_in hm (by omega) hu) (fun u hu => topI_in hm (by omega) hu) (fun u hu => topI_in hm (by omega) hu) (fun u hu => topI_in hm (by omega) hu)
end
end Go.Proofs.Ytkmhabbpndcnkaa

/-
  PART: caps: the document's Top.
-/
namespace Go.Proofs.Ytkmhabbpndcnkaa
open Go.RowKit
noncomputable section
noncomputable def c61 : Code := codeOf Try.f61
noncomputable def res61 : St → Option AV := resF Try.prog Try.f61.results.toList
noncomputable def body61 : Code := cin (cin (cr (cl (behind 2 c61))))
noncomputable def a61 : Code := cl (cl (behind 2 c61))
noncomputable def tail61 : Code := cr (behind 2 c61)
theorem code61 : c61 = seqs (firsts 2 c61) (.seq (.seq a61 (.block 0 (.loop body61))) tail61) := by kernel_rfl
def t4A (t : Nat → Int) : List AV := [iv (t 0), iv (t 1), iv (t 2), iv (t 3)]
def st61 (N : Int) (L : List RIt) (t : Nat → Int) : St := { sl := [(1, .ptr 0 0), (2, .ptr 1 0), (3, .ptr 2 0)], hp := [(0, some (.fix 83 [iv N, rowR L])), (1, some (.fix 22 (t4A fun _ => 0))), (2, some (.fix 22 (t4A t)))], nx := 3, rd := [], wr := [], ws := [], wb := [] }
def inv61 (N : Int) (L : List RIt) (t : Nat → Int) (i : Int) : St := { sl := [(1, .ptr 0 0), (2, .ptr 1 0), (3, .ptr 2 0), (4, iv i)], hp := [(0, some (.fix 83 [iv N, rowR L])), (1, some (.fix 22 (t4A fun _ => 0))), (2, some (.fix 22 (t4A t)))], nx := 3, rd := [], wr := [], ws := [], wb := [] }
def ds61a : List (Nat × Bool) := [(1, false), (2, false), (3, false)]
def ds61 : List (Nat × Bool) := ds61a ++ [(4, true)]
section
variable (N : Int) (L : List RIt) (t : Nat → Int) (i : Int)
theorem ev61a : (codeE (cxD (decM [])) (evs (cxD (decM [])) 60) (joins (firsts 2 c61)) (entry [refA N L])).map (lfR 0 ds61a true res61) = .ret (.go .norm (some (st61 N L fun _ => 0))) := by kernel_rfl
theorem ev61b : (codeE (cxD (decM [])) (evs (cxD (decM [])) 60) a61 (st61 N L t)).map (lfR 0 ds61 true res61) = .ret (.go .norm (some (inv61 N L t 0))) := by kernel_rfl
theorem ev61z : (codeE (cxD (decM [])) (evs (cxD (decM [])) 60) tail61 (inv61 N L t i)).map (lfR 0 [] false res61) = .ret (.out (.agg (t4A t))) := by kernel_rfl
def xR (L : List RIt) (i : Int) : RIt := L.getD i.toNat rz
def selT (t : Nat → Int) (loc : Int) : Int := if decide (loc = ((2 + 1 : Nat) : Int)) = true then t 3 else if decide (loc = ((1 + 1 : Nat) : Int)) = true then t 2 else if decide (loc = ((0 + 1 : Nat) : Int)) = true then t 1 else t 0
def updT (t : Nat → Int) (x : RIt) : Nat → Int := fun j => if decide (x.loc = (j : Int)) = true then x.q else t j
def ix4 (z : Int) : Prop := 0 ≤ z ∧ z < ((4 : Nat) : Int)
noncomputable def rnd61 (dec : List (Nat × Bool)) (N : Int) (L : List RIt) (t : Nat → Int) (i : Int) : Tree Lf := (codeE (cxD (decM dec)) (evs (cxD (decM dec)) 60) body61 (inv61 N L t i)).map (lfR 0 ds61 true res61)
theorem ev61c : rnd61 [(10, true), (21, false)] N L t i = .side (decide (i < (L.length : Int)) = true) (.side (0 ≤ i ∧ i < (L.length : Int)) (.side ((!(xR L i).res) = false) (.ret (.go .norm (some (inv61 N L t (IntKind.i64.wrap (i + 1)))))))) := by kernel_rfl
theorem ev61d : rnd61 [(10, true), (21, true), (30, false)] N L t i = .side (decide (i < (L.length : Int)) = true) (.side (0 ≤ i ∧ i < (L.length : Int)) (.side ((!(xR L i).res) = true) (.side (ix4 (xR L i).loc) (.side (decide ((xR L i).q > selT t (xR L i).loc) = false) (.ret (.go .norm (some (inv61 N L t (IntKind.i64.wrap (i + 1)))))))))) := by kernel_rfl
theorem ev61e : rnd61 [(10, true), (21, true), (30, true)] N L t i = .side (decide (i < (L.length : Int)) = true) (.side (0 ≤ i ∧ i < (L.length : Int)) (.side ((!(xR L i).res) = true) (.side (ix4 (xR L i).loc) (.side (decide ((xR L i).q > selT t (xR L i).loc) = true) (.side (ix4 (xR L i).loc) (.ret (.go .norm (some (inv61 N L (updT t (xR L i)) (IntKind.i64.wrap (i + 1))))))))))) := by kernel_rfl
theorem ev61f : rnd61 [(10, false)] N L t i = .side (decide (i < (L.length : Int)) = false) (.ret (.go (.exit 0) (some (inv61 N L t i)))) := by kernel_rfl
end
end
end Go.Proofs.Ytkmhabbpndcnkaa

/-
  PART: caps: the document's Top, a contract; both are the same.
-/
namespace Go.Proofs.Ytkmhabbpndcnkaa
open Go.RowKit
noncomputable section
def topStep (t : Nat → Int) (x : RIt) : Nat → Int := if x.res = false ∧ x.q > selT t x.loc then updT t x else t
def topF (L : List RIt) : Nat → Int := L.foldl topStep fun _ => 0
theorem topF_snoc (L : List RIt) (x : RIt) : topF (L ++ [x]) = topStep (topF L) x := by unfold topF; rw [List.foldl_append]; rfl
theorem topF_take {L : List RIt} {i : Nat} (h : i < L.length) : topF (L.take (i + 1)) = topStep (topF (L.take i)) (L.getD i rz) := by
  have e : L.take (i + 1) = L.take i ++ [L.getD i rz] := by
    rw [List.take_add_one]
    simp [List.getD, h]
  rw [e, topF_snoc]
section
variable {N : Int} {L : List RIt} {B : Start}
def Inv61 (N : Int) (L : List RIt) (i : Nat) : St := inv61 N L (topF (L.take i)) i
set_option maxRecDepth 100000 in
theorem round61 (hB : B.nx0 = 0) (hN : codeOk B.N body61 = true) (hL : ∀ x ∈ L, 0 ≤ x.loc ∧ x.loc < 4) (hl : L.length ≤ 100000) {O : AV → Prop} (i : Nat) (hi : i ≤ L.length) :
    WpC Try.prog B body61 (Inv61 N L i) (Round B res61 (Inv61 N L) (fun i => i ≤ L.length) (fun i => L.length - i) 0 i (fun s => s = Inv61 N L L.length) O) := by
  by_cases hlt : i < L.length
  · have hc : decide ((i : Int) < (L.length : Int)) = true := decide_eq_true (by omega)
    have hix : 0 ≤ (i : Int) ∧ (i : Int) < (L.length : Int) := ⟨by omega, by omega⟩
    have hx : xR L i = L.getD i rz := by unfold xR; rw [Int.toNat_natCast]
    have hxL : ix4 (xR L i).loc := by
      rw [hx]
      have := hL (L.getD i rz) (getD_mem hlt)
      exact ⟨this.1, this.2⟩
    have hw : IntKind.i64.wrap ((i : Int) + 1) = ((i + 1 : Nat) : Int) := by rw [IntWalk.i64_in _ (by omega)]; rfl
    have next : ∀ t, t = topF (L.take (i + 1)) → RoundH B (Inv61 N L) (fun i => i ≤ L.length) (fun i => L.length - i) 0 i (fun s => s = Inv61 N L L.length) .norm (inv61 N L t (IntKind.i64.wrap ((i : Int) + 1))) := fun t ht => by
      rw [hw, ht]
      exact ⟨i + 1, .refl _, hlt, by show L.length - (i + 1) < L.length - i; omega⟩
    cases hr : (xR L i).res with
    | true =>
      refine wpc_endH (cx := cxD (decM [(10, true), (21, false)])) (n := 60) (ds := ds61) (gb := true) (cxD_ok _) fitTry hN ?_
      rw [hB]
      show (rnd61 [(10, true), (21, false)] N L (topF (L.take i)) i).wp _
      rw [ev61c, hr]
      refine ⟨hc, hix, rfl, next _ ?_⟩
      rw [topF_take hlt, ← hx]
      unfold topStep
      rw [if_neg (by rw [hr]; simp)]
    | false =>
      cases hq : decide ((xR L i).q > selT (topF (L.take i)) (xR L i).loc) with
      | false =>
        refine wpc_endH (cx := cxD (decM [(10, true), (21, true), (30, false)])) (n := 60) (ds := ds61) (gb := true) (cxD_ok _) fitTry hN ?_
        rw [hB]
        show (rnd61 [(10, true), (21, true), (30, false)] N L (topF (L.take i)) i).wp _
        rw [ev61d, hr, hq]
        refine ⟨hc, hix, rfl, hxL, rfl, next _ ?_⟩
        rw [topF_take hlt, ← hx]
        unfold topStep
        rw [if_neg fun h => (of_decide_eq_false hq) h.2]
      | true =>
        refine wpc_endH (cx := cxD (decM [(10, true), (21, true), (30, true)])) (n := 60) (ds := ds61) (gb := true) (cxD_ok _) fitTry hN ?_
        rw [hB]
        show (rnd61 [(10, true), (21, true), (30, true)] N L (topF (L.take i)) i).wp _
        rw [ev61e, hr, hq]
        refine ⟨hc, hix, rfl, hxL, rfl, hxL, next _ ?_⟩
        rw [topF_take hlt, ← hx]
        unfold topStep
        rw [if_pos ⟨hr, of_decide_eq_true hq⟩]
  · refine wpc_endH (cx := cxD (decM [(10, false)])) (n := 60) (ds := ds61) (gb := true) (cxD_ok _) fitTry hN ?_
    rw [hB]
    show (rnd61 [(10, false)] N L (topF (L.take i)) i).wp _
    rw [ev61f]
    have e : i = L.length := by omega
    exact ⟨decide_eq_false (by omega), rfl, _, .refl _, by rw [e]; rfl⟩
theorem rtop_frz (hL : ∀ x ∈ L, 0 ≤ x.loc ∧ x.loc < 4) (hl : L.length ≤ 100000) : FrzOk Try.prog 61 [refA N L] (.agg (t4A (topF L))) := by
  let O : AV → Prop := fun a' => ∀ E v, Rep E a' v → Rep E (.agg (t4A (topF L))) v
  refine frz_of_ends fitTry Try.func61 (c := c61) (by kernel_rfl) (Nat.le_of_ble_eq_true (by kernel_rfl)) (O := O) (fun E w hd hf => ?_) fun a' h => h
  rw [code61]
  refine wpc_stageR (cx := cxD (decM [])) (n := 60) (ds := ds61a) (gb := true) (res := res61) (O := O) (cxD_ok _) fitTry (by simp [firsts]) (by kernel_rfl) ?_ ends_ret
  show ((codeE (cxD (decM [])) (evs (cxD (decM [])) 60) (joins (firsts 2 c61)) (entry [refA N L])).map (lfR 0 ds61a true res61)).wp _
  rw [ev61a]
  show WpC _ _ _ _ _
  refine wpc_ioloop (cx := cxD (decM [])) (n := 60) (ds := ds61) (gb := true) (res := res61) (O := O) (cxD_ok _) fitTry (Inv61 N L) (fun i => i ≤ L.length) (fun i => L.length - i) (fun s => s = Inv61 N L L.length) (by kernel_rfl) ?_ (fun i hi => round61 rfl (by kernel_rfl) hL hl i hi) ends_ret ?_
  · show ((codeE (cxD (decM [])) (evs (cxD (decM [])) 60) a61 (st61 N L fun _ => 0)).map (lfR 0 ds61 true res61)).wp _
    rw [ev61b]
    exact ⟨rfl, 0, .refl _, Nat.zero_le _⟩
  · rintro s rfl
    refine wpc_of_lfR (cx := cxD (decM [])) (n := 60) (ds := []) (gb := false) (res := res61) (O := O) (cxD_ok _) fitTry (by kernel_rfl) ?_ ends_ret
    show ((codeE (cxD (decM [])) (evs (cxD (decM [])) 60) tail61 (inv61 N L (topF (L.take L.length)) L.length)).map (lfR 0 [] false res61)).wp _
    rw [ev61z, List.take_length]
    exact fun E v hv => hv
end
/-! The two are the same. -/
theorem selT_eq (t : Nat → Int) {z : Int} (h0 : 0 ≤ z) (h4 : z < 4) : selT t z = t z.toNat := by
  unfold selT
  have : z = 0 ∨ z = 1 ∨ z = 2 ∨ z = 3 := by omega
  rcases this with rfl | rfl | rfl | rfl <;> rfl
theorem topF_spec : ∀ (L : List RIt), (∀ x ∈ L, 0 ≤ x.loc ∧ x.loc < 4) → ∀ (j : Nat), (∀ x ∈ L, x.res = false → x.loc = (j : Int) → x.q ≤ topF L j) ∧ (topF L j = 0 ∨ ∃ x ∈ L, x.res = false ∧ x.loc = (j : Int) ∧ topF L j = x.q) := by
  intro L
  induction hn : L.length generalizing L with
  | zero =>
    intro _ j
    obtain rfl := List.eq_nil_of_length_eq_zero hn
    exact ⟨fun x hx => (by cases hx), .inl rfl⟩
  | succ n ih =>
    intro hL j
    obtain ⟨M, x, rfl⟩ : ∃ M x, L = M ++ [x] := ⟨L.dropLast, L.getLast (by intro h; rw [h] at hn; cases hn), (List.dropLast_concat_getLast _).symm⟩
    have hM : M.length = n := by simpa using hn
    obtain ⟨i1, i2⟩ := ih M hM (fun y hy => hL y (List.mem_append.2 (.inl hy))) j
    have hx := hL x (List.mem_append.2 (.inr (List.mem_singleton.2 rfl)))
    rw [topF_snoc]
    unfold topStep
    by_cases hc : x.res = false ∧ x.q > selT (topF M) x.loc
    · rw [if_pos hc]
      rw [selT_eq _ hx.1 hx.2] at hc
      unfold updT
      by_cases hj : x.loc = (j : Int)
      · rw [if_pos (by simpa using hj)]
        have hj' : x.loc.toNat = j := by omega
        rw [hj'] at hc
        refine ⟨fun y hy hr hl => ?_, .inr ⟨x, List.mem_append.2 (.inr (List.mem_singleton.2 rfl)), hc.1, hj, rfl⟩⟩
        rcases List.mem_append.1 hy with h | h
        · have := i1 y h hr hl; omega
        · rw [List.mem_singleton.1 h]; exact Int.le_refl _
      · rw [if_neg (by simpa using hj)]
        refine ⟨fun y hy hr hl => ?_, i2.imp id fun ⟨y, h1, h2⟩ => ⟨y, List.mem_append.2 (.inl h1), h2⟩⟩
        rcases List.mem_append.1 hy with h | h
        · exact i1 y h hr hl
        · rw [List.mem_singleton.1 h] at hl; exact absurd hl hj
    · rw [if_neg hc]
      rw [selT_eq _ hx.1 hx.2] at hc
      refine ⟨fun y hy hr hl => ?_, i2.imp id fun ⟨y, h1, h2⟩ => ⟨y, List.mem_append.2 (.inl h1), h2⟩⟩
      rcases List.mem_append.1 hy with h | h
      · exact i1 y h hr hl
      · rw [List.mem_singleton.1 h] at hr hl ⊢
        have hj' : x.loc.toNat = j := by omega
        rw [hj'] at hc
        rcases Int.lt_or_le (topF M j) x.q with h | h
        · exact absurd ⟨hr, h⟩ hc
        · exact h
theorem find_rev_max {p : RIt → Bool} : ∀ {l : List RIt} {x : RIt}, Up l → l.reverse.find? p = some x → x ∈ l ∧ p x = true ∧ ∀ y ∈ l, p y = true → y.q ≤ x.q := fun {l x} hu h => by
  refine ⟨List.mem_reverse.1 (List.mem_of_find?_eq_some h), List.find?_some h, fun y hy hp => ?_⟩
  obtain ⟨_, us, bs, he, hn⟩ := List.find?_eq_some_iff_append.1 h
  have hl : l = bs.reverse ++ x :: us.reverse := by
    have := congrArg List.reverse he
    simpa using this
  rw [hl] at hy hu
  rcases List.mem_append.1 hy with h1 | h1
  · have := (List.pairwise_append.1 hu).2.2 y h1 x (List.mem_cons_self ..)
    omega
  · rcases List.mem_cons.1 h1 with rfl | h1
    · exact Int.le_refl _
    · have := hn y (List.mem_reverse.1 h1)
      rw [hp] at this; cases this
theorem top_same {N : Nat} {L : List RIt} (h : BS N L) (j : Nat) : topI (pmOf N L) j = topF L j := by
  have hg := h.rel.good
  have hhi := h.rel.hi
  have hL : ∀ x ∈ L, 0 ≤ x.loc ∧ x.loc < 4 := fun x hx => by have := hg.may x hx; exact ⟨this.1, by have := this.2.1; omega⟩
  obtain ⟨s1, s2⟩ := topF_spec L hL j
  unfold topI
  by_cases hj : (j : Int) < (pmOf N L).n
  · have hjN : (j : Int) < (N : Int) := hj
    rw [if_pos hj]
    unfold lastO
    rw [lastM_rel h.rel j]
    obtain ⟨y0, m0, l0, q0, r0⟩ := hg.start j (by omega)
    cases hf : refLast L j with
    | none =>
      unfold refLast at hf
      rw [List.find?_eq_none] at hf
      have := hf y0 (List.mem_reverse.2 (mem_rlist.2 ⟨m0, l0⟩))
      rw [r0] at this; exact absurd rfl this
    | some x =>
      obtain ⟨k1, k2, k3⟩ := find_rev_max (up_rlist j hg) hf
      obtain ⟨k4, k5⟩ := mem_rlist.1 k1
      have hr : x.res = false := by simpa using k2
      show toI (toIt x) = _
      rw [show toI (toIt x) = x.q from end_toIt (hg.may x k4).2.2.1]
      have hge := s1 x k4 hr k5
      have h0 := s1 y0 m0 r0 l0
      rcases s2 with h2 | ⟨y, h2, h3, h4, h5⟩
      · have hq : 0 ≤ x.q := by have := k3 y0 (mem_rlist.2 ⟨m0, l0⟩) (by simp [r0]); omega
        omega
      · have := k3 y (mem_rlist.2 ⟨h2, h4⟩) (by simp [h3])
        omega
  · rw [if_neg hj]
    have hjN : ¬ (j : Int) < (N : Int) := hj
    rcases s2 with h2 | ⟨y, h2, h3, h4, h5⟩
    · exact h2.symm
    · have := (hg.may y h2).2.1
      omega
end
end Go.Proofs.Ytkmhabbpndcnkaa

/-
  PART: caps: the document's Capped, its pieces.
-/
namespace Go.Proofs.Ytkmhabbpndcnkaa
open Go.RowKit
noncomputable section
noncomputable def c58 : Code := codeOf Try.f58
noncomputable def res58 : St → Option AV := resF Try.prog Try.f58.results.toList
noncomputable def body58 : Code := cin (cin (cr (cl (behind 2 c58))))
noncomputable def a58 : Code := cl (cl (behind 2 c58))
noncomputable def tail58 : Code := cr (behind 2 c58)
theorem code58 : c58 = seqs (firsts 2 c58) (.seq (.seq a58 (.block 0 (.loop body58))) tail58) := by kernel_rfl
noncomputable def blk58 : Code := cin (cl (cr body58))
noncomputable def nxt58 : Code := cr (cr body58)
noncomputable def ib58 : Code := cin (cin (behind 2 blk58))
theorem body58_eq : body58 = .seq (cl body58) (.seq (.block 1 (seqs (firsts 2 blk58) (.block 2 (.loop ib58)))) nxt58) := by kernel_rfl
def hp58 (N : Int) (L0 L : List RIt) : List (Nat × Option Blk) := [(0, some (.fix 83 [iv N, rowR L0])), (1, some (.fix 83 [iv 0, nilC])), (2, some (.fix 83 [iv N, rowR L]))]
def sl58 : List (Nat × AV) := [(1, .ptr 0 0), (2, .ptr 1 0), (3, .lit (.int .i64 0)), (4, .ptr 2 0)]
def st58 (N : Int) (L0 : List RIt) : St := { sl := sl58, hp := hp58 N L0 L0, nx := 3, rd := [], wr := [], ws := [], wb := [] }
def inv58 (N : Int) (L0 L : List RIt) (i : Int) : St := { sl := sl58 ++ [(5, iv i)], hp := hp58 N L0 L, nx := 3, rd := [], wr := [], ws := [], wb := [] }
def inn58 (N : Int) (L0 L : List RIt) (i : Int) (l : List RIt) (j : Int) : St := { sl := sl58 ++ [(5, iv i), (6, rowR l), (7, iv j)], hp := hp58 N L0 L, nx := 3, rd := [], wr := [], ws := [], wb := [] }
def ds58a : List (Nat × Bool) := [(1, false), (2, false), (3, false), (4, false)]
def ds58b : List (Nat × Bool) := ds58a ++ [(5, true)]
def ds58c : List (Nat × Bool) := ds58b ++ [(6, false), (7, true)]
section
variable (N : Int) (L0 L l : List RIt) (i j : Int)
theorem ev58a : (codeE (cxC []) (evs (cxC []) 60) (joins (firsts 2 c58)) (entry [refA N L0])).map (lfR 0 ds58a true res58) = .ret (.go .norm (some (st58 N L0))) := by kernel_rfl
theorem ev58b : (codeE (cxC []) (evs (cxC []) 60) a58 (st58 N L0)).map (lfR 0 ds58b true res58) = .ret (.go .norm (some (inv58 N L0 L0 0))) := by kernel_rfl
theorem ev58c : (codeE (cxC []) (evs (cxC []) 60) (cl body58) (inv58 N L0 L i)).map (lfR 0 ds58b true res58) = .br (decide (i < N)) (.ret (.go .norm (some (inv58 N L0 L i)))) (.ret (.go (.exit 0) (some (inv58 N L0 L i)))) := by kernel_rfl
theorem ev58e : (codeE (cxC []) (evs (cxC []) 60) nxt58 (inn58 N L0 L i l j)).map (lfR 0 ds58b true res58) = .ret (.go .norm (some (inv58 N L0 L (IntKind.i64.wrap (i + 1))))) := by kernel_rfl
theorem ev58f : (codeE (cxC []) (evs (cxC []) 60) tail58 (inv58 N L0 L i)).map (lfR 0 [] false res58) = .ret (.out (.tup [refA N L, .lit (.int .i64 0)])) := by kernel_rfl
end
noncomputable def rnd58 (dec : List (Nat × Bool)) (N : Int) (L0 L : List RIt) (i : Int) (l : List RIt) (j : Int) : Tree Lf := (codeE (cxC dec) (evs (cxC dec) 60) ib58 (inn58 N L0 L i l j)).map (lfR 0 ds58c true res58)
def ixR (l : List RIt) (j : Int) : Prop := 0 ≤ j ∧ j < (l.length : Int)
section
variable (N : Int) (L0 L l : List RIt) (i j : Int)
theorem stop58 : rnd58 [(25,false)] N L0 L i l j =
    .side (decide (j < (l.length : Int)) = false) ((.ret (.go (.exit 2) (some (inn58 N L0 L i l j))))) := by kernel_rfl
theorem skip58 : rnd58 [(25,true),(45,true),(55,true)] N L0 L i l j =
    .side (decide (j < (l.length : Int)) = true) ( .side (ixR l j) ( .side (ixR l j) ( .side (decide (IntKind.i64.wrap (j + 1) < (l.length : Int)) = true) ( .side (ixR l (IntKind.i64.wrap (j + 1))) ( .side (((xR l (IntKind.i64.wrap (j + 1))).p == (xR l j).q) = true) ((.ret (.go .norm (some (inn58 N L0 L i l (IntKind.i64.wrap (j + 1)))))))))))) := by kernel_rfl
theorem midOk58 : rnd58 [(25,true),(45,true),(55,false),(67,false)] N L0 L i l j =
    .side (decide (j < (l.length : Int)) = true) ( .side (ixR l j) ( .side (ixR l j) ( .side (decide (IntKind.i64.wrap (j + 1) < (l.length : Int)) = true) ( .side (ixR l (IntKind.i64.wrap (j + 1))) ( .side (((xR l (IntKind.i64.wrap (j + 1))).p == (xR l j).q) = false) ( .side (okRR L) ( .side (IsR (capR i (xR l j).q ((xR l (IntKind.i64.wrap (j + 1))).p)).cells) ( .side (((refAdd N (lsRR L) (ritOf (capR i (xR l j).q ((xR l (IntKind.i64.wrap (j + 1))).p)).cells)).2 != 0) = false) ((.ret (.go .norm (some (inn58 N L0 (refAdd N (lsRR L) (ritOf (capR i (xR l j).q ((xR l (IntKind.i64.wrap (j + 1))).p)).cells)).1 i l (IntKind.i64.wrap (j + 1))))))))))))))) := by kernel_rfl
theorem midNo58 : rnd58 [(25,true),(45,true),(55,false),(67,true)] N L0 L i l j =
    .side (decide (j < (l.length : Int)) = true) ( .side (ixR l j) ( .side (ixR l j) ( .side (decide (IntKind.i64.wrap (j + 1) < (l.length : Int)) = true) ( .side (ixR l (IntKind.i64.wrap (j + 1))) ( .side (((xR l (IntKind.i64.wrap (j + 1))).p == (xR l j).q) = false) ( .side (okRR L) ( .side (IsR (capR i (xR l j).q ((xR l (IntKind.i64.wrap (j + 1))).p)).cells) ( .side (((refAdd N (lsRR L) (ritOf (capR i (xR l j).q ((xR l (IntKind.i64.wrap (j + 1))).p)).cells)).2 != 0) = true) ((.ret (.out (.tup [refA N L0, .lit (.int .i64 4)])))))))))))) := by kernel_rfl
theorem endOk58 : rnd58 [(25,true),(45,false),(55,false),(67,false)] N L0 L i l j =
    .side (decide (j < (l.length : Int)) = true) ( .side (ixR l j) ( .side (ixR l j) ( .side (decide (IntKind.i64.wrap (j + 1) < (l.length : Int)) = false) ( .side ((IntKind.i64.wrap ((xR l j).q + 1) == (xR l j).q) = false) ( .side (okRR L) ( .side (IsR (capR i (xR l j).q (IntKind.i64.wrap ((xR l j).q + 1))).cells) ( .side (((refAdd N (lsRR L) (ritOf (capR i (xR l j).q (IntKind.i64.wrap ((xR l j).q + 1))).cells)).2 != 0) = false) ((.ret (.go .norm (some (inn58 N L0 (refAdd N (lsRR L) (ritOf (capR i (xR l j).q (IntKind.i64.wrap ((xR l j).q + 1))).cells)).1 i l (IntKind.i64.wrap (j + 1)))))))))))))) := by kernel_rfl
theorem endNo58 : rnd58 [(25,true),(45,false),(55,false),(67,true)] N L0 L i l j =
    .side (decide (j < (l.length : Int)) = true) ( .side (ixR l j) ( .side (ixR l j) ( .side (decide (IntKind.i64.wrap (j + 1) < (l.length : Int)) = false) ( .side ((IntKind.i64.wrap ((xR l j).q + 1) == (xR l j).q) = false) ( .side (okRR L) ( .side (IsR (capR i (xR l j).q (IntKind.i64.wrap ((xR l j).q + 1))).cells) ( .side (((refAdd N (lsRR L) (ritOf (capR i (xR l j).q (IntKind.i64.wrap ((xR l j).q + 1))).cells)).2 != 0) = true) ((.ret (.out (.tup [refA N L0, .lit (.int .i64 4)]))))))))))) := by kernel_rfl
theorem ev58d : (codeE (cxC []) (evs (cxC []) 60) (joins (firsts 2 blk58)) (inv58 N L0 L i)).map (lfR 0 ds58c true res58) = .side (okRR L0) (.ret (.go .norm (some (inn58 N L0 L i (rlist (lsRR L0) i) 0)))) := by kernel_rfl
end
end
end Go.Proofs.Ytkmhabbpndcnkaa

/-
  PART: caps: the document's Capped, a contract.
-/
namespace Go.Proofs.Ytkmhabbpndcnkaa
open Go.RowKit
noncomputable section
/-- The gaps, as the document goes through them. -/
def gapsQ : List RIt → List (List Int)
  | [] => []
  | [x] => [[x.q, x.q + 1]]
  | x :: y :: l => if y.p = x.q then gapsQ (y :: l) else [x.q, y.p] :: gapsQ (y :: l)
theorem gapsQ_R : ∀ {l : List RIt} {x : RIt}, (∀ (i : Nat), i + 1 < (x :: l).length → ((x :: l).getD i rz).q ≤ ((x :: l).getD (i + 1) rz).p) → gapsR x.q l = gapsQ (x :: l)
  | [], x, _ => rfl
  | y :: l, x, h => by
    have h0 : x.q ≤ y.p := h 0 (by simp)
    have ih := gapsQ_R (l := l) (x := y) fun i hi => h (i + 1) (by simpa using hi)
    show (if decide (y.p > x.q) = true then [x.q, y.p] :: gapsR y.q l else gapsR y.q l) = if y.p = x.q then gapsQ (y :: l) else [x.q, y.p] :: gapsQ (y :: l)
    rw [ih]
    by_cases e : y.p = x.q
    · rw [if_pos e, if_neg (by simp; omega)]
    · rw [if_neg e, if_pos (by simp; omega)]
theorem gaps_both {N : Nat} {L : List RIt} (h : BS N L) {i : Nat} (hi : i < N) : gapsR 0 (rlist L i) = gapsQ (rlist L i) := by
  have hg := h.rel.good
  have hu := up_rlist i hg
  obtain ⟨y0, m0, l0, q0, r0⟩ := hg.start i hi
  have hmem := mem_rlist.2 ⟨m0, l0⟩
  have hnear : ∀ j, j + 1 < (rlist L i).length → ((rlist L i).getD j rz).q ≤ ((rlist L i).getD (j + 1) rz).p := fun j hj => (near hg i hj).2.1
  have hok : ∀ x ∈ rlist L i, okS x.p x.q = true := fun x hx => (hg.may x (mem_rlist.1 hx).1).2.2.1
  generalize rlist L i = l at hu hmem hnear hok ⊢
  cases l with
  | nil => cases hmem
  | cons x l =>
    have hx := (okS_iff _ _).1 (hok x (List.mem_cons_self ..))
    have hq : x.q = 0 := by
      rcases List.mem_cons.1 hmem with rfl | hm
      · exact q0
      · have := (List.pairwise_cons.1 hu).1 y0 hm
        omega
    have hp : x.p = 0 := by omega
    rw [← gapsQ_R hnear, hq]
    show (if decide (x.p > 0) = true then [0, x.p] :: gapsR x.q l else gapsR x.q l) = _
    rw [hp, if_neg (by decide), hq]
structure K58 where
  i : Nat
  L : List RIt
structure I58 where
  L : List RIt
  j : Nat
section
variable {N : Nat} {L0 : List RIt} {B : Start}
def Inv58 (N : Nat) (L0 : List RIt) (k : K58) : St := inv58 N L0 k.L k.i
def J58 (N : Nat) (L0 : List RIt) (k : K58) : Prop := k.i ≤ N ∧ BS N k.L ∧ refCap N L0 = ((List.range N).drop k.i).foldlM (refCapLoc N L0) k.L
def Inn58 (N : Nat) (L0 : List RIt) (i : Nat) (k : I58) : St := inn58 N L0 k.L i (rlist L0 i) k.j
def JI58 (N : Nat) (L0 : List RIt) (i : Nat) (R : Option (List RIt)) (k : I58) : Prop := k.j ≤ (rlist L0 i).length ∧ BS N k.L ∧ R = (gapsQ ((rlist L0 i).drop k.j)).foldlM (refStep N i) k.L
def Out58 (N : Nat) (L0 : List RIt) (s : St) : Prop := ∃ k, J58 N L0 k ∧ k.i = N ∧ s = Inv58 N L0 k
theorem drop_getR {l : List RIt} {i : Nat} (h : i < l.length) : l.drop i = l.getD i rz :: l.drop (i + 1) := by
  rw [List.drop_eq_getElem_cons h]
  simp [List.getD, h]
/-- A step that works, or not. -/
theorem step58 {i : Nat} {L : List RIt} {p q : Int} {rest : List (List Int)} (hL : BS N L) :
    ((refAdd N (lsRR L) (ritOf (capR i p q).cells)) = refAdd N L (capR i p q)) ∧
    ((refAdd N L (capR i p q)).2 = 0 → BS N (refAdd N L (capR i p q)).1 ∧ ([p, q] :: rest).foldlM (refStep N i) L = rest.foldlM (refStep N i) (refAdd N L (capR i p q)).1) ∧
    ((refAdd N L (capR i p q)).2 ≠ 0 → ([p, q] :: rest).foldlM (refStep N i) L = none) := by
  have hR : OkR L := hL.both.okR (by omega)
  refine ⟨by rw [lsRR_eq hR, ritOf_cells (capR_vz _ _ _)], fun hc => ⟨?_, ?_⟩, fun hc => ?_⟩
  · cases ho : okS p q with
    | true => exact (hL.add (x := capR i p q) ho (capR_vz _ _ _)).2
    | false =>
      rw [refAdd_bad ho] at hc
      exact absurd hc (by decide : ¬ (1 : Int) = 0)
  · rw [List.foldlM_cons]
    have : refStep N i L [p, q] = some (refAdd N L (capR i p q)).1 := by unfold refStep; exact if_pos hc
    rw [this]; rfl
  · rw [List.foldlM_cons]
    have : refStep N i L [p, q] = none := by unfold refStep; exact if_neg hc
    rw [this]; rfl
set_option maxRecDepth 100000 in
theorem inner58 (hB : B.nx0 = 0) (hN : codeOk B.N ib58 = true) (h0 : BS N L0) {O : AV → Prop} {i : Nat} {R : Option (List RIt)} (hO : R = none → O (.tup [refA N L0, .lit (.int .i64 4)])) (k : I58) (hk : JI58 N L0 i R k) :
    WpC Try.prog B ib58 (Inn58 N L0 i k) (Round B res58 (Inn58 N L0 i) (JI58 N L0 i R) (fun k => (rlist L0 i).length - k.j) 2 k (fun s => ∃ L', R = some L' ∧ BS N L' ∧ s = inn58 N L0 L' i (rlist L0 i) (rlist L0 i).length) O) := by
  obtain ⟨hj, hL, hR⟩ := hk
  have hlen : (rlist L0 i).length ≤ 160 := by
    rw [length_rlist]
    have : (at_ L0 i).length ≤ L0.length := List.length_filter_le _ _
    have := h0.len
    omega
  have hokR : okRR k.L := rowRk_getR (hL.both.okR (by omega))
  by_cases hlt : k.j < (rlist L0 i).length
  · have hd := drop_getR hlt
    have c1 : decide ((k.j : Int) < ((rlist L0 i).length : Int)) = true := decide_eq_true (by omega)
    have c2 : ixR (rlist L0 i) k.j := ⟨by omega, by omega⟩
    have hw : IntKind.i64.wrap ((k.j : Int) + 1) = ((k.j + 1 : Nat) : Int) := by rw [IntWalk.i64_in _ (by omega)]; rfl
    have hx : xR (rlist L0 i) k.j = (rlist L0 i).getD k.j rz := by unfold xR; rw [Int.toNat_natCast]
    have hxm := (mem_rlist.1 (getD_mem hlt)).1
    have hxq := (okS_iff _ _).1 (h0.rel.good.may _ hxm).2.2.1
    by_cases hlt2 : k.j + 1 < (rlist L0 i).length
    · have hd2 := drop_getR hlt2
      have c3 : decide (IntKind.i64.wrap ((k.j : Int) + 1) < ((rlist L0 i).length : Int)) = true := by rw [hw]; exact decide_eq_true (by omega)
      have c4 : ixR (rlist L0 i) (IntKind.i64.wrap ((k.j : Int) + 1)) := by rw [hw]; exact ⟨by omega, by omega⟩
      have hy : xR (rlist L0 i) (IntKind.i64.wrap ((k.j : Int) + 1)) = (rlist L0 i).getD (k.j + 1) rz := by unfold xR; rw [hw, Int.toNat_natCast]
      rw [hd, hd2] at hR
      by_cases he : ((rlist L0 i).getD (k.j + 1) rz).p = ((rlist L0 i).getD k.j rz).q
      · refine wpc_endH (cx := cxC [(25,true),(45,true),(55,true)]) (n := 60) (ds := ds58c) (gb := true) (cxC_ok _) fitTry hN ?_
        rw [hB]
        show (rnd58 [(25,true),(45,true),(55,true)] N L0 k.L i (rlist L0 i) k.j).wp _
        rw [skip58, hy, hx, hw]
        rw [hw] at c3 c4
        refine ⟨c1, c2, c2, c3, c4, by simpa using he, ⟨k.L, k.j + 1⟩, .refl _, ⟨Nat.le_of_lt hlt2, hL, ?_⟩, by show (rlist L0 i).length - (k.j + 1) < (rlist L0 i).length - k.j; omega⟩
        have : gapsQ ((rlist L0 i).getD k.j rz :: (rlist L0 i).getD (k.j + 1) rz :: (rlist L0 i).drop (k.j + 1 + 1)) = gapsQ ((rlist L0 i).getD (k.j + 1) rz :: (rlist L0 i).drop (k.j + 1 + 1)) := if_pos he
        rw [this] at hR
        show R = (gapsQ ((rlist L0 i).drop (k.j + 1))).foldlM (refStep N i) k.L
        rw [hd2]; exact hR
      · have : gapsQ ((rlist L0 i).getD k.j rz :: (rlist L0 i).getD (k.j + 1) rz :: (rlist L0 i).drop (k.j + 1 + 1)) = [((rlist L0 i).getD k.j rz).q, ((rlist L0 i).getD (k.j + 1) rz).p] :: gapsQ ((rlist L0 i).getD (k.j + 1) rz :: (rlist L0 i).drop (k.j + 1 + 1)) := if_neg he
        rw [this, ← hd2] at hR
        obtain ⟨s1, s2, s3⟩ := step58 (i := i) (p := ((rlist L0 i).getD k.j rz).q) (q := ((rlist L0 i).getD (k.j + 1) rz).p) (rest := gapsQ ((rlist L0 i).drop (k.j + 1))) hL
        by_cases hc : (refAdd N k.L (capR i ((rlist L0 i).getD k.j rz).q ((rlist L0 i).getD (k.j + 1) rz).p)).2 = 0
        · obtain ⟨s4, s5⟩ := s2 hc
          refine wpc_endH (cx := cxC [(25,true),(45,true),(55,false),(67,false)]) (n := 60) (ds := ds58c) (gb := true) (cxC_ok _) fitTry hN ?_
          rw [hB]
          show (rnd58 [(25,true),(45,true),(55,false),(67,false)] N L0 k.L i (rlist L0 i) k.j).wp _
          rw [midOk58, hy, hx, hw, s1]
          rw [hw] at c3 c4
          exact ⟨c1, c2, c2, c3, c4, by simpa using he, hokR, isR (capR_vz _ _ _), (eq0_of hc).1, ⟨_, k.j + 1⟩, .refl _, ⟨Nat.le_of_lt hlt2, s4, by rw [hR, s5]⟩, by show (rlist L0 i).length - (k.j + 1) < (rlist L0 i).length - k.j; omega⟩
        · refine wpc_endH (cx := cxC [(25,true),(45,true),(55,false),(67,true)]) (n := 60) (ds := ds58c) (gb := true) (cxC_ok _) fitTry hN ?_
          rw [hB]
          show (rnd58 [(25,true),(45,true),(55,false),(67,true)] N L0 k.L i (rlist L0 i) k.j).wp _
          rw [midNo58, hy, hx, hw, s1]
          rw [hw] at c3 c4
          exact ⟨c1, c2, c2, c3, c4, by simpa using he, hokR, isR (capR_vz _ _ _), (ne0_of hc).1, hO (by rw [hR, s3 hc])⟩
    · have hend : (rlist L0 i).drop (k.j + 1) = [] := List.drop_eq_nil_of_le (by omega)
      rw [hd, hend] at hR
      have c3 : decide (IntKind.i64.wrap ((k.j : Int) + 1) < ((rlist L0 i).length : Int)) = false := by rw [hw]; exact decide_eq_false (by omega)
      have hwq : IntKind.i64.wrap (((rlist L0 i).getD k.j rz).q + 1) = ((rlist L0 i).getD k.j rz).q + 1 := IntWalk.i64_in _ (by omega)
      have c5 : (IntKind.i64.wrap (((rlist L0 i).getD k.j rz).q + 1) == ((rlist L0 i).getD k.j rz).q) = false := by rw [hwq]; exact beq_eq_false_iff_ne.2 (by omega)
      obtain ⟨s1, s2, s3⟩ := step58 (i := i) (p := ((rlist L0 i).getD k.j rz).q) (q := ((rlist L0 i).getD k.j rz).q + 1) (rest := []) hL
      have hR : R = ([[((rlist L0 i).getD k.j rz).q, ((rlist L0 i).getD k.j rz).q + 1]] : List (List Int)).foldlM (refStep N i) k.L := hR
      by_cases hc : (refAdd N k.L (capR i ((rlist L0 i).getD k.j rz).q (((rlist L0 i).getD k.j rz).q + 1))).2 = 0
      · obtain ⟨s4, s5⟩ := s2 hc
        refine wpc_endH (cx := cxC [(25,true),(45,false),(55,false),(67,false)]) (n := 60) (ds := ds58c) (gb := true) (cxC_ok _) fitTry hN ?_
        rw [hB]
        show (rnd58 [(25,true),(45,false),(55,false),(67,false)] N L0 k.L i (rlist L0 i) k.j).wp _
        rw [endOk58, hx, hw]
        rw [hw] at c3
        rw [hwq] at c5 ⊢
        rw [s1]
        refine ⟨c1, c2, c2, c3, c5, hokR, isR (capR_vz _ _ _), (eq0_of hc).1, ⟨_, k.j + 1⟩, .refl _, ⟨by show k.j + 1 ≤ _; omega, s4, ?_⟩, by show (rlist L0 i).length - (k.j + 1) < (rlist L0 i).length - k.j; omega⟩
        show R = (gapsQ ((rlist L0 i).drop (k.j + 1))).foldlM (refStep N i) _
        rw [hend, hR, s5]; rfl
      · refine wpc_endH (cx := cxC [(25,true),(45,false),(55,false),(67,true)]) (n := 60) (ds := ds58c) (gb := true) (cxC_ok _) fitTry hN ?_
        rw [hB]
        show (rnd58 [(25,true),(45,false),(55,false),(67,true)] N L0 k.L i (rlist L0 i) k.j).wp _
        rw [endNo58, hx]
        rw [hw] at c3 ⊢
        rw [hwq] at c5 ⊢
        rw [s1]
        exact ⟨c1, c2, c2, c3, c5, hokR, isR (capR_vz _ _ _), (ne0_of hc).1, hO (by rw [hR, s3 hc])⟩
  · refine wpc_endH (cx := cxC [(25,false)]) (n := 60) (ds := ds58c) (gb := true) (cxC_ok _) fitTry hN ?_
    rw [hB]
    show (rnd58 [(25,false)] N L0 k.L i (rlist L0 i) k.j).wp _
    rw [stop58]
    have e : k.j = (rlist L0 i).length := by omega
    rw [e, List.drop_length] at hR
    exact ⟨decide_eq_false (by omega), rfl, _, .refl _, k.L, hR, hL, by rw [e]⟩
end
end
end Go.Proofs.Ytkmhabbpndcnkaa

/-
  PART: caps: the document's Capped, a contract (all).
-/
namespace Go.Proofs.Ytkmhabbpndcnkaa
open Go.RowKit
noncomputable section
section
variable {N : Nat} {L0 : List RIt} {B : Start}
set_option maxRecDepth 100000 in
theorem round58 (hB : B.nx0 = 0) (hN : B.N = Try.f58.ntmps) (h0 : BS N L0) {O : AV → Prop} (hO : refCap N L0 = none → O (.tup [refA N L0, .lit (.int .i64 4)])) (k : K58) (hk : J58 N L0 k) :
    WpC Try.prog B body58 (Inv58 N L0 k) (Round B res58 (Inv58 N L0) (J58 N L0) (fun k => N - k.i) 0 k (Out58 N L0) O) := by
  obtain ⟨hi, hL, hR⟩ := hk
  have hhi := h0.rel.hi
  rw [body58_eq]
  refine wpc_stageR (cx := cxC []) (n := 60) (ds := ds58b) (gb := true) (res := res58) (O := O) (l := [cl body58]) (c := .seq (.block 1 (seqs (firsts 2 blk58) (.block 2 (.loop ib58)))) nxt58) (cxC_ok _) fitTry (by simp) (by rw [hN]; kernel_rfl) ?_ (fun s a h1 h2 => .inr (.inr ⟨rfl, a, h1, h2⟩))
  rw [hB]
  show ((codeE (cxC []) (evs (cxC []) 60) (cl body58) (inv58 N L0 k.L k.i)).map (lfR 0 ds58b true res58)).wp _
  rw [ev58c]
  refine ⟨fun hlt => ?_, fun hge => .inr (.inl ⟨rfl, _, .refl _, k, ⟨hi, hL, hR⟩, by have := of_decide_eq_false hge; omega, rfl⟩)⟩
  have hlt : k.i < N := by have := of_decide_eq_true hlt; omega
  show WpC Try.prog B _ (inv58 N L0 k.L k.i) _
  rw [range_drop hlt, List.foldlM_cons] at hR
  have hcap : refCapLoc N L0 k.L k.i = (gapsQ (rlist L0 k.i)).foldlM (refStep N k.i) k.L := by unfold refCapLoc; rw [gaps_both h0 hlt]
  refine wpc_nestH (cx := cxC []) (n := 60) (ds := ds58c) (gb := true) (res := res58) (O := O) (cxC_ok _) fitTry (Inn58 N L0 k.i) (JI58 N L0 k.i (refCapLoc N L0 k.L k.i)) (fun q => (rlist L0 k.i).length - q.j) (fun s => ∃ L', refCapLoc N L0 k.L k.i = some L' ∧ BS N L' ∧ s = inn58 N L0 L' k.i (rlist L0 k.i) (rlist L0 k.i).length) (by simp [firsts]) (by rw [hN]; kernel_rfl) ?_ (fun q hq => inner58 hB (by rw [hN]; kernel_rfl) h0 (fun hn => hO (by rw [hR, hn]; rfl)) q hq) (fun s a h1 h2 => .inr (.inr ⟨rfl, a, h1, h2⟩)) ?_
  · rw [hB]
    rw [ev58d, lsRR_eq (h0.both.okR (by omega))]
    exact ⟨rowRk_getR (h0.both.okR (by omega)), rfl, ⟨k.L, 0⟩, .refl _, ⟨Nat.zero_le _, hL, by rw [hcap]; rfl⟩⟩
  · rintro s ⟨L', h1, h2, rfl⟩
    refine wpc_endH (cx := cxC []) (n := 60) (ds := ds58b) (gb := true) (cxC_ok _) fitTry (by rw [hN]; kernel_rfl) ?_
    rw [hB]
    rw [ev58e]
    have hw : IntKind.i64.wrap ((k.i : Int) + 1) = ((k.i + 1 : Nat) : Int) := by rw [IntWalk.i64_in _ (by omega)]; rfl
    rw [hw]
    exact ⟨⟨k.i + 1, L'⟩, .refl _, ⟨hlt, h2, by rw [hR, h1]; rfl⟩, by show N - (k.i + 1) < N - k.i; omega⟩
def capRL (N : Nat) (L : List RIt) : List RIt := (refCap N L).getD L
set_option maxRecDepth 100000 in
theorem rcapped_frz (h0 : BS N L0) : FrzOk Try.prog 58 [refA N L0] (.tup [refA N (capRL N L0), iv (capE N L0)]) := by
  let O : AV → Prop := fun a' => ∀ E v, Rep E a' v → Rep E (.tup [refA N (capRL N L0), iv (capE N L0)]) v
  have hO : ∀ (L' : List RIt) (e : Int), capRL N L0 = L' → capE N L0 = e → O (.tup [refA N L', .lit (.int .i64 e)]) := fun L' e h1 h2 E v hv => by
    rw [h1, h2]
    cases hv with
    | @tup _ cs hr =>
      refine .tup ?_
      generalize cs.toList = l at hr ⊢
      cases hr with | cons q1 t => cases t with | cons q2 t => exact .cons q1 (.cons (rep_open q2) t)
  refine frz_of_ends fitTry Try.func58 (c := c58) (by kernel_rfl) (Nat.le_of_ble_eq_true (by kernel_rfl)) (O := O) (fun E w hd hf => ?_) fun a' h => h
  rw [code58]
  refine wpc_stageR (cx := cxC []) (n := 60) (ds := ds58a) (gb := true) (res := res58) (O := O) (cxC_ok _) fitTry (by simp [firsts]) (by kernel_rfl) ?_ ends_ret
  show ((codeE (cxC []) (evs (cxC []) 60) (joins (firsts 2 c58)) (entry [refA N L0])).map (lfR 0 ds58a true res58)).wp _
  rw [ev58a]
  show WpC _ _ _ _ _
  refine wpc_ioloop (cx := cxC []) (n := 60) (ds := ds58b) (gb := true) (res := res58) (O := O) (cxC_ok _) fitTry (Inv58 N L0) (J58 N L0) (fun k => N - k.i) (Out58 N L0) (by kernel_rfl) ?_ (fun k hk => round58 rfl rfl h0 (fun hn => hO L0 4 (by unfold capRL; rw [hn]; rfl) (by unfold capE; rw [hn]; rfl)) k hk) ends_ret ?_
  · show ((codeE (cxC []) (evs (cxC []) 60) a58 (st58 N L0)).map (lfR 0 ds58b true res58)).wp _
    rw [ev58b]
    exact ⟨rfl, ⟨0, L0⟩, .refl _, ⟨Nat.zero_le _, h0, rfl⟩⟩
  · rintro s ⟨k, hk, hi, rfl⟩
    refine wpc_of_lfR (cx := cxC []) (n := 60) (ds := []) (gb := false) (res := res58) (O := O) (cxC_ok _) fitTry (by kernel_rfl) ?_ ends_ret
    show ((codeE (cxC []) (evs (cxC []) 60) tail58 (inv58 N L0 k.L k.i)).map (lfR 0 [] false res58)).wp _
    rw [ev58f]
    have hc := hk.2.2
    rw [hi, List.drop_eq_nil_of_le (by simp)] at hc
    have hc : refCap N L0 = some k.L := hc
    exact hO k.L 0 (by unfold capRL; rw [hc]; rfl) (by unfold capE; rw [hc]; rfl)
end
/-- A capped memory is one. -/
theorem refStep_BS {N : Nat} {i : Int} {L L' : List RIt} {x : List Int} (h : BS N L) (hs : refStep N i L x = some L') : BS N L' := by
  unfold refStep at hs
  split at hs
  · rename_i hc
    cases hs
    cases ho : okS (x.getD 0 0) (x.getD 1 0) with
    | true => exact (h.add (x := capR i (x.getD 0 0) (x.getD 1 0)) ho (capR_vz _ _ _)).2
    | false =>
      have : refAdd N L (capR i (x.getD 0 0) (x.getD 1 0)) = (L, 1) := refAdd_bad ho
      rw [this] at hc
      exact absurd hc (by decide : ¬ (1 : Int) = 0)
  · cases hs
theorem foldlM_BS {N : Nat} {α : Type} {f : List RIt → α → Option (List RIt)} (hf : ∀ L L' a, BS N L → f L a = some L' → BS N L') : ∀ (l : List α) (L L' : List RIt), BS N L → l.foldlM f L = some L' → BS N L'
  | [], L, L', h, e => by cases e; exact h
  | a :: l, L, L', h, e => by
    rw [List.foldlM_cons] at e
    cases hs : f L a with
    | none => rw [hs] at e; cases e
    | some L1 => rw [hs] at e; exact foldlM_BS hf l L1 L' (hf L L1 a h hs) e
theorem capRL_BS {N : Nat} {L : List RIt} (h : BS N L) : BS N (capRL N L) := by
  unfold capRL
  cases hc : refCap N L with
  | none => exact h
  | some L' => exact foldlM_BS (fun L L' a hb hs => foldlM_BS (fun L L' a hb hs => refStep_BS hb hs) _ L L' hb hs) _ L L' h hc
end
end Go.Proofs.Ytkmhabbpndcnkaa

/-
  PART: caps: a memory that was made, its pieces.
-/
namespace Go.Proofs.Ytkmhabbpndcnkaa
open Go.RowKit
noncomputable section
noncomputable def c47 : Code := codeOf Try.f47
noncomputable def res47 : St → Option AV := resF Try.prog Try.f47.results.toList
noncomputable def body47 : Code := cin (cin (cr (cl (behind 4 c47))))
noncomputable def a47 : Code := cl (cl (behind 4 c47))
noncomputable def tail47 : Code := cr (behind 4 c47)
theorem code47 : c47 = seqs (firsts 4 c47) (.seq (.seq a47 (.block 0 (.loop body47))) tail47) := by kernel_rfl
/-- A row of the document's items. -/
def rowX (n : Nat) (X : Nat → RIt) : AV := .sl n 14 (fun i => (X i).cells) false false
def args47 (U : List Int) (n : Nat) (X : Nat → RIt) : List AV := [rowU U, rowX n X]
def ds47a : List (Nat × Bool) := [(1, false), (4, false), (5, false), (6, false), (7, false), (9, false)]
def ds47 : List (Nat × Bool) := ds47a ++ [(11, true)]
def hp47 (m : PM) (N : Int) (L : List RIt) : List (Nat × Option Blk) := [(0, some (.fix 81 zMem)), (1, some (.fix 83 [iv 0, nilC])), (2, some (.fix 81 (memCells m))), (3, some (.fix 83 [iv N, rowR L]))]
def sl47 (n : Nat) (X : Nat → RIt) : List (Nat × AV) := [(1, rowX n X), (4, .ptr 0 0), (5, .ptr 1 0), (6, .lit (.bool false)), (7, .ptr 2 0), (9, .ptr 3 0)]
def st47 (n : Nat) (X : Nat → RIt) (m : PM) (N : Int) (L : List RIt) : St := { sl := sl47 n X, hp := hp47 m N L, nx := 4, rd := [], wr := [], ws := [], wb := [] }
def inv47 (n : Nat) (X : Nat → RIt) (m : PM) (N : Int) (L : List RIt) (i : Int) : St := { sl := sl47 n X ++ [(11, iv i)], hp := hp47 m N L, nx := 4, rd := [], wr := [], ws := [], wb := [] }
noncomputable def rnd47 (dec : List (Nat × Bool)) (n : Nat) (X : Nat → RIt) (m : PM) (N : Int) (L : List RIt) (i : Int) : Tree Lf := (codeE (cxC dec) (evs (cxC dec) 60) body47 (inv47 n X m N L i)).map (lfR 0 ds47 true res47)
def xO (X : Nat → RIt) (i : Int) : RIt := ritOf (X i.toNat).cells
section
variable (U : List Int) (n : Nat) (X : Nat → RIt) (m : PM) (N : Int) (L : List RIt) (i : Int)
theorem ev47a : (codeE (cxC [(26,false),(29,false)]) (evs (cxC [(26,false),(29,false)]) 60) (joins (firsts 4 c47)) (entry (args47 U n X))).map (lfR 0 ds47a true res47) =
    .side (sideU U) (.side (sideU U) (.side (((beginR (uU U)).2 != 0) = false) (.side (((refBegR (uU U)).2.2 != 0) = false) (.ret (.go .norm (some (st47 n X (beginR (uU U)).1 (refBegR (uU U)).1 (refBegR (uU U)).2.1))))))) := by kernel_rfl
theorem ev47b : (codeE (cxC []) (evs (cxC []) 60) a47 (st47 n X m N L)).map (lfR 0 ds47 true res47) = .ret (.go .norm (some (inv47 n X m N L 0))) := by kernel_rfl
theorem ev47c : (codeE (cxC []) (evs (cxC []) 60) tail47 (inv47 n X m N L i)).map (lfR 0 [] false res47) = .ret (.out (.tup [memA m, refA N L, .lit (.bool true)])) := by kernel_rfl
theorem stop47 : rnd47 [(35, false)] n X m N L i = .side (decide (i < (n : Int)) = false) (.ret (.go (.exit 0) (some (inv47 n X m N L i)))) := by kernel_rfl
theorem no47 : rnd47 [(35, true), (48, false)] n X m N L i = .side (decide (i < (n : Int)) = true) (.side (ixA n i) (.side (okRR L) (.side (IsR (X i.toNat).cells) (.side (((refAdd N (lsRR L) (xO X i)).2 == 0) = false) (.ret (.go .norm (some (inv47 n X m N L (IntKind.i64.wrap (i + 1)))))))))) := by kernel_rfl
theorem yes47 : rnd47 [(35, true), (48, true), (61, false)] n X m N L i = .side (decide (i < (n : Int)) = true) (.side (ixA n i) (.side (okRR L) (.side (IsR (X i.toNat).cells) (.side (((refAdd N (lsRR L) (xO X i)).2 == 0) = true) (.side (ixA n i) (.side (IsR (X i.toNat).cells ∧ okS (xO X i).p (xO X i).q = true) (.side (PmInR m) (.side (IsIt (toIt (xO X i)).cells) (.side (((addM (pmR m) (itOf (toIt (xO X i)).cells)).2 != 0) = false)
    (.ret (.go .norm (some (inv47 n X (addM (pmR m) (itOf (toIt (xO X i)).cells)).1 N (refAdd N (lsRR L) (xO X i)).1 (IntKind.i64.wrap (i + 1))))))))))))))) := by kernel_rfl
end
end
end Go.Proofs.Ytkmhabbpndcnkaa

/-
  PART: caps: a memory that was made, a contract.
-/
namespace Go.Proofs.Ytkmhabbpndcnkaa
open Go.RowKit
noncomputable section
/-- The document's items of what was made. -/
def madeL (U : List Int) (X : Nat → RIt) : Nat → List RIt
  | 0 => refBegin U
  | i + 1 => (refAdd U.length (madeL U X i) (X i)).1
section
variable {U : List Int} {n : Nat} {X : Nat → RIt} {B : Start}
theorem refAdd_same {N : Int} {L : List RIt} {x : RIt} (h : (refAdd N L x).2 ≠ 0) : (refAdd N L x).1 = L := refAdd_no h
theorem made_BS (h1 : 1 ≤ U.length) (h2 : U.length ≤ 4) (hX : ∀ i, RVz (X i)) : ∀ i, BS U.length (madeL U X i)
  | 0 => (BS.begin h1 h2).2
  | i + 1 => by
    have ih := made_BS h1 h2 hX i
    show BS U.length (refAdd U.length (madeL U X i) (X i)).1
    cases ho : okS (X i).p (X i).q with
    | true => exact (ih.add ho (hX i)).2
    | false => rw [refAdd_bad ho]; exact ih
def Inv47 (U : List Int) (n : Nat) (X : Nat → RIt) (i : Nat) : St := inv47 n X (pmOf U.length (madeL U X i)) U.length (madeL U X i) i
set_option maxRecDepth 100000 in
theorem round47 (hB : B.nx0 = 0) (hN : codeOk B.N body47 = true) (h1 : 1 ≤ U.length) (h2 : U.length ≤ 4) (hX : ∀ i, RVz (X i)) (hn : n ≤ 150) {O : AV → Prop} (i : Nat) (hi : i ≤ n) :
    WpC Try.prog B body47 (Inv47 U n X i) (Round B res47 (Inv47 U n X) (fun i => i ≤ n) (fun i => n - i) 0 i (fun s => s = Inv47 U n X n) O) := by
  have hb := made_BS h1 h2 hX i
  have hR : OkR (madeL U X i) := hb.both.okR (by omega)
  have hokR : okRR (madeL U X i) := rowRk_getR hR
  have hx : xO X i = X i := by unfold xO; rw [Int.toNat_natCast]; exact ritOf_cells (hX i)
  have hxc : IsR (X (i : Int).toNat).cells := isR (hX _)
  by_cases hlt : i < n
  · have c1 : decide ((i : Int) < (n : Int)) = true := decide_eq_true (by omega)
    have c2 : ixA n (i : Int) := ⟨by omega, by omega⟩
    have hw : IntKind.i64.wrap ((i : Int) + 1) = ((i + 1 : Nat) : Int) := by rw [IntWalk.i64_in _ (by omega)]; rfl
    by_cases hc : (refAdd U.length (madeL U X i) (X i)).2 = 0
    · have ho : okS (X i).p (X i).q = true := by
        cases ho : okS (X i).p (X i).q with
        | true => rfl
        | false => rw [refAdd_bad ho] at hc; exact absurd hc (by decide : ¬ (1 : Int) = 0)
      have hit := toIt_ok ho (hX i)
      obtain ⟨e1, _⟩ := hb.add ho (hX i)
      refine wpc_endH (cx := cxC [(35, true), (48, true), (61, false)]) (n := 60) (ds := ds47) (gb := true) (cxC_ok _) fitTry hN ?_
      rw [hB]
      show (rnd47 [(35, true), (48, true), (61, false)] n X (pmOf U.length (madeL U X i)) U.length (madeL U X i) i).wp _
      rw [yes47, hx, lsRR_eq hR, pmR_eq (pmFitOf hb), itOf_cells hit, e1, hw]
      exact ⟨c1, c2, hokR, hxc, (eq0_of hc).2, c2, ⟨hxc, ho⟩, pmInR (pmFitOf hb), isIt hit, (eq0_of hc).1, i + 1, .refl _, hlt, by show n - (i + 1) < n - i; omega⟩
    · refine wpc_endH (cx := cxC [(35, true), (48, false)]) (n := 60) (ds := ds47) (gb := true) (cxC_ok _) fitTry hN ?_
      rw [hB]
      show (rnd47 [(35, true), (48, false)] n X (pmOf U.length (madeL U X i)) U.length (madeL U X i) i).wp _
      rw [no47, hx, lsRR_eq hR, hw]
      refine ⟨c1, c2, hokR, hxc, (ne0_of hc).2, i + 1, ?_, hlt, by show n - (i + 1) < n - i; omega⟩
      have : madeL U X (i + 1) = madeL U X i := refAdd_no hc
      unfold Inv47
      rw [this]
      exact .refl _
  · refine wpc_endH (cx := cxC [(35, false)]) (n := 60) (ds := ds47) (gb := true) (cxC_ok _) fitTry hN ?_
    rw [hB]
    show (rnd47 [(35, false)] n X (pmOf U.length (madeL U X i)) U.length (madeL U X i) i).wp _
    rw [stop47]
    have e : i = n := by omega
    exact ⟨decide_eq_false (by omega), rfl, _, .refl _, by rw [e]; rfl⟩
theorem made_frz (h1 : 1 ≤ U.length) (h2 : U.length ≤ 4) (hX : ∀ i, RVz (X i)) (hn : n ≤ 150) : FrzOk Try.prog 47 (args47 U n X) (.tup [memA (pmOf U.length (madeL U X n)), refA U.length (madeL U X n), .lit (.bool true)]) := by
  let O : AV → Prop := fun a' => ∀ E v, Rep E a' v → Rep E (.tup [memA (pmOf U.length (madeL U X n)), refA U.length (madeL U X n), .lit (.bool true)]) v
  refine frz_of_ends fitTry Try.func47 (c := c47) (by kernel_rfl) (Nat.le_of_ble_eq_true (by kernel_rfl)) (O := O) (fun E w hd hf => ?_) fun a' h => h
  rw [code47]
  refine wpc_stageR (cx := cxC [(26,false),(29,false)]) (n := 60) (ds := ds47a) (gb := true) (res := res47) (O := O) (cxC_ok _) fitTry (by simp [firsts]) (by kernel_rfl) ?_ ends_ret
  show ((codeE (cxC [(26,false),(29,false)]) (evs (cxC [(26,false),(29,false)]) 60) (joins (firsts 4 c47)) (entry (args47 U n X))).map (lfR 0 ds47a true res47)).wp _
  rw [ev47a, uU_eq]
  have hU : sideU U := fun i hi => rfl
  have hb : badLen (U.length : Int) = false := by
    unfold badLen
    have h1 : decide ((U.length : Int) < 1) = false := decide_eq_false (by omega)
    have h2 : decide ((U.length : Int) > 4) = false := decide_eq_false (by omega)
    rw [h1, h2]; rfl
  have e1 : beginR U = (beginM U, 0) := by unfold beginR; rw [hb]; rfl
  have e2 : refBegR U = ((U.length : Int), refBegin U, 0) := by unfold refBegR; rw [badLen_R, hb]; rfl
  rw [e1, e2, (BS.begin h1 h2).1]
  refine ⟨hU, hU, rfl, rfl, ?_⟩
  show WpC _ _ _ _ _
  refine wpc_ioloop (cx := cxC []) (n := 60) (ds := ds47) (gb := true) (res := res47) (O := O) (cxC_ok _) fitTry (Inv47 U n X) (fun i => i ≤ n) (fun i => n - i) (fun s => s = Inv47 U n X n) (by kernel_rfl) ?_ (fun i hi => round47 rfl (by kernel_rfl) h1 h2 hX hn i hi) ends_ret ?_
  · show ((codeE (cxC []) (evs (cxC []) 60) a47 (st47 n X (pmOf U.length (refBegin U)) U.length (refBegin U))).map (lfR 0 ds47 true res47)).wp _
    rw [ev47b]
    exact ⟨rfl, 0, .refl _, Nat.zero_le _⟩
  · rintro s rfl
    refine wpc_of_lfR (cx := cxC []) (n := 60) (ds := []) (gb := false) (res := res47) (O := O) (cxC_ok _) fitTry (by kernel_rfl) ?_ ends_ret
    show ((codeE (cxC []) (evs (cxC []) 60) tail47 (inv47 n X (pmOf U.length (madeL U X n)) U.length (madeL U X n) n)).map (lfR 0 [] false res47)).wp _
    rw [ev47c]
    exact fun E v hv => hv
end
end
end Go.Proofs.Ytkmhabbpndcnkaa

/-
  PART: caps: wakes.
-/
namespace Go.Proofs.Ytkmhabbpndcnkaa
open Go.RowKit
noncomputable section
def wy1 : It := ⟨0, 2, 3, 5, z8, false, 1⟩
def wq1 : It := ⟨0, 0, 2, 0, z8, true, -1⟩
def wq2 : It := ⟨0, 3, 4, 0, z8, true, -1⟩
def V1 : PM := wL [wx0, wy1]
def V2 : PM := wL [wx0, wq1, wy1, wq2]
def yR : RIt := ⟨0, 2, 3, 5, z8, false, 1⟩
theorem v_add : FrzOk Try.prog 57 [memA W0, .agg wy1.cells] (.tup [memA V1, .lit (.int .i64 0)]) := by
  have e : AV.tup [memA (addM W0 wy1).1, iv (addM W0 wy1).2] = .tup [memA V1, iv 0] := by kernel_rfl
  exact FrzOk.post' (add_frz wfit0 (wx_ok (by decide) (by decide))) e fun E v h => wcode h
def vU : List Int := [7]
def vL : List RIt := madeL vU (fun _ => yR) 1
theorem vBS : BS 1 vL := made_BS (U := vU) (by decide) (by decide) (fun _ _ _ => rfl) 1
theorem vPM : memA (pmOf 1 vL) = memA V1 := by kernel_rfl
theorem v_cap : FrzOk Try.prog 54 [memA V1] (.tup [memA V2, .lit (.int .i64 0)]) := by
  have e : AV.tup [memA (capPM 1 vL), iv (capE 1 vL)] = .tup [memA V2, iv 0] := by kernel_rfl
  have h := FrzOk.post' (a := .tup [memA V2, .lit (.int .i64 0)]) (capped_frz vBS) e fun E v h => wcode h
  rw [vPM] at h
  exact h
theorem vfit : PmFit V2 := wfit (by intro y hy; simp at hy; rcases hy with rfl | rfl | rfl | rfl <;> exact ⟨by decide, by decide, fun _ _ => rfl⟩) ⟨wx0, by simp, rfl⟩ (by decide)
theorem v_list : FrzOk Try.prog 55 [memA V2, iv 0] (rowI [wx0, wq1, wy1, wq2]) := by
  have e : rowI (listM V2 0) = rowI [wx0, wq1, wy1, wq2] := by kernel_rfl
  exact FrzOk.post' (list_frz vfit 0) e fun E v h => h
theorem v_top : FrzOk Try.prog 60 [memA V2] (.agg [iv 3, iv 0, iv 0, iv 0]) := by
  have e : topA V2 = .agg [iv 3, iv 0, iv 0, iv 0] := by kernel_rfl
  exact FrzOk.post' (top_frz vfit (by decide)) e fun E v h => h
def tabX' (f : Nat) (args : List AV) : Option (Tree AV) := match f, args with
  | 57, [.agg [n, .sl 1 13 g _ _, r1, r2, r3], .agg cs] => some (.side ((n = iv 1 ∧ g 0 = wl0 ∧ r1 = nilV ∧ r2 = nilV ∧ r3 = nilV) ∧ cs = wy1.cells) (.ret (.tup [memA V1, .lit (.int .i64 0)])))
  | 54, [m] => some (.side (m = memA V1) (.ret (.tup [memA V2, .lit (.int .i64 0)])))
  | 55, [m, l] => some (.side (m = memA V2 ∧ l = iv 0) (.ret (rowI [wx0, wq1, wy1, wq2])))
  | 60, [m] => some (.side (m = memA V2) (.ret (.agg [iv 3, iv 0, iv 0, iv 0])))
  | _, _ => none
theorem tabX'_ok : TabFOk Try.prog tabX' := by
  intro f args t a ht hh
  unfold tabX' at ht
  split at ht
  · cases ht
    obtain ⟨⟨⟨h1, h2, h3, h4, h5⟩, h6⟩, hh⟩ := hh
    cases hh; subst h1; subst h3; subst h4; subst h5; subst h6
    refine v_add.pre fun E vs h => ?_
    cases h with | cons q1 h =>
    refine .cons ?_ h
    obtain ⟨vs, rfl, hr, ho⟩ := Rep.agg_inv q1
    refine Rep.agg_mk ?_ ho
    cases hr with | cons r0 t => cases t with | cons r1 t => cases t with | cons r2 t => cases t with | cons r3 t => cases t with | cons r4 t => cases t with | nil =>
    refine .cons r0 (.cons ?_ (.cons (nil_row r2) (.cons (nil_row r3) (.cons (nil_row r4) .nil))))
    exact wrow h2 r1
  · cases ht; obtain ⟨h1, hh⟩ := hh; cases hh; subst h1; exact v_cap
  · cases ht; obtain ⟨⟨h1, h2⟩, hh⟩ := hh; cases hh; subst h1; subst h2; exact v_list
  · cases ht; obtain ⟨h1, hh⟩ := hh; cases hh; subst h1; exact v_top
  · cases ht
noncomputable def cxX : Cx := ⟨Try.prog, ctrOf2 tabW0 (opened tabX'), decM [(40, true), (47, true), (54, true)]⟩
theorem cxX_ok : CtrOk cxX := ctrOf2_ok tabW0_ok (opened_okF tabX'_ok) _
noncomputable def c53 : Code := codeOf Try.f53
noncomputable def res53 : St → Option AV := resF Try.prog Try.f53.results.toList
noncomputable def go53 : Tree Lf := (codeE (cxD fun _ _ => none) (evs (cxD fun _ _ => none) 60) (joins (firsts 2 c53)) (entry [])).map (lfR 0 ds62 true res53)
set_option maxRecDepth 100000 in
theorem go53_eq : go53 = .ret (.go .norm (some (st62 g62))) := by kernel_rfl
noncomputable def rest53 (g : Nat → List AV) : Tree Lf := (codeE cxX (evs cxX 60) (behind 2 c53) (fr62 g)).map (lfR 0 [] false res53)
def eqC (x : It) (p q : Nat) : Bool := (x.loc == 0 && (Op.floatEq .f64 (F x.a) p && Op.floatEq .f64 (F x.b) q && (x.n == 0 && (x.v 0 == 0 && x.v 1 == 0 && x.v 2 == 0 && x.v 3 == 0 && (x.v 4 == 0 && x.v 5 == 0 && x.v 6 == 0 && x.v 7 == 0) && (x.res == true && x.own == -1)))))
def iy : List AV := [iv 0, .v (.complex .f64 4611686018427387904 4613937818241073152), .v (.int .u64 5), iv 0, iv 0, iv 0, iv 0, iv 0, iv 0, iv 0, iv 0, .v (.bool false), iv 1]
def T53 (g0 : List AV) : Tree Lf :=
  .side ((iv 1 = iv 1 ∧ g0 = wl0 ∧ nilV = nilV ∧ nilV = nilV ∧ nilV = nilV) ∧ iy = wy1.cells) (.side (memA V1 = memA V1) (.side (memA V2 = memA V2 ∧ iv 0 = iv 0) (.side ((((4 : Nat) : Int) == 4) = true)
    (.side (0 ≤ (1 : Int) ∧ (1 : Int) < ((4 : Nat) : Int)) (.side (eqC wq1 0 4611686018427387904 = true) (.side (0 ≤ (3 : Int) ∧ (3 : Int) < ((4 : Nat) : Int)) (.side (eqC wq2 4613937818241073152 4616189618054758400 = true) (.side (memA V2 = memA V2)
    (.ret (.out (.v (.bool ((3 : Int) == 3 && (0 : Int) == 0 && (0 : Int) == 0 && (0 : Int) == 0))))))))))))) 
set_option maxRecDepth 100000 in
theorem rest53_eq : rest53 h62 = T53 wl0 := by kernel_rfl
theorem code53 : c53 = seqs (firsts 2 c53) (behind 2 c53) := by kernel_rfl
theorem wbits4 : F 4 = 4616189618054758400 := by rw [F_eq]; decide
theorem iy_eq : iy = wy1.cells := by
  obtain ⟨h0, h1, h2, h3⟩ := wbits
  have e1 : wy1.cells = [iv 0, .v (.complex .f64 (F 2) (F 3)), .v (.int .u64 5), iv 0, iv 0, iv 0, iv 0, iv 0, iv 0, iv 0, iv 0, .v (.bool false), iv 1] := rfl
  rw [e1, h2, h3]; rfl
theorem flEq : Op.floatEq .f64 0 0 = true ∧ Op.floatEq .f64 4611686018427387904 4611686018427387904 = true ∧ Op.floatEq .f64 4613937818241073152 4613937818241073152 = true ∧ Op.floatEq .f64 4616189618054758400 4616189618054758400 = true := ⟨by kernel_rfl, by kernel_rfl, by kernel_rfl, by kernel_rfl⟩
theorem eqC1 : eqC wq1 0 4611686018427387904 = true := by
  obtain ⟨h0, h1, h2, h3⟩ := wbits
  have e : eqC wq1 0 4611686018427387904 = ((0 : Int) == 0 && (Op.floatEq .f64 (F 0) 0 && Op.floatEq .f64 (F 2) 4611686018427387904 && true)) := rfl
  rw [e, h0, h2, flEq.1, flEq.2.1]; rfl
theorem eqC2 : eqC wq2 4613937818241073152 4616189618054758400 = true := by
  obtain ⟨h0, h1, h2, h3⟩ := wbits
  have e : eqC wq2 4613937818241073152 4616189618054758400 = ((0 : Int) == 0 && (Op.floatEq .f64 (F 3) 4613937818241073152 && Op.floatEq .f64 (F 4) 4616189618054758400 && true)) := rfl
  rw [e, h3, wbits4, flEq.2.2.1, flEq.2.2.2]; rfl
set_option maxRecDepth 100000 in
theorem wakes53_frz : FrzOk Try.prog 53 [] (.lit (.bool true)) := by
  let O : AV → Prop := fun a' => ∀ E v, Rep E a' v → Rep E (.lit (.bool true)) v
  refine frz_of_ends fitTry Try.func53 (c := c53) (by kernel_rfl) (Nat.le_of_ble_eq_true (by kernel_rfl)) (O := O) (fun E w hd hf => ?_) fun a' h => h
  rw [code53]
  refine wpc_stageR (cx := cxD fun _ _ => none) (n := 60) (ds := ds62) (gb := true) (res := res53) (O := O) (cxD_ok _) fitTry (by simp [firsts]) (by kernel_rfl) ?_ ends_ret
  show go53.wp _
  rw [go53_eq]
  show WpC _ _ _ _ _
  refine wpc_pre (freezeB_le rfl fr62_eq) ?_
  refine wpc_of_lfR (cx := cxX) (n := 60) (ds := []) (gb := false) (res := res53) (O := O) cxX_ok fitTry (by kernel_rfl) ?_ ends_ret
  show (rest53 h62).wp _
  rw [rest53_eq]
  refine ⟨⟨⟨rfl, rfl, rfl, rfl, rfl⟩, iy_eq⟩, rfl, ⟨rfl, rfl⟩, rfl, ⟨by decide, by decide⟩, eqC1, ⟨by decide, by decide⟩, eqC2, rfl, ?_⟩
  intro E v hv
  cases hv; exact .lit _ rfl
end
end Go.Proofs.Ytkmhabbpndcnkaa

/-
  PART: caps: the law CapTells.
-/
namespace Go.Proofs.Ytkmhabbpndcnkaa
open Go.RowKit
noncomputable section
/-- What is known of a memory that was made, in a table. -/
def tabC (U : List Int) (n : Nat) (X : Nat → RIt) (N : Nat) (L : List RIt) (f : Nat) (args : List AV) : Option (Tree AV) := match f, args with
  | 53, [] => some (.ret (.lit (.bool true)))
  | 47, [a, b] => some (.side (a = rowU U ∧ b = rowX n X) (.ret (.tup [memA (pmOf N L), refA N L, .lit (.bool true)])))
  | 54, [m] => some (.side (m = memA (pmOf N L)) (.ret (.tup [memA (capPM N L), iv (capE N L)])))
  | 58, [w] => some (.side (w = refA N L) (.ret (.tup [refA N (capRL N L), iv (capE N L)])))
  | 59, [c, d] => some (.side (c = memA (capPM N L) ∧ d = refA N (capRL N L)) (.ret (.lit (.bool true))))
  | 60, [m] => some (.side (m = memA (pmOf N L)) (.ret (topA (pmOf N L))))
  | 61, [w] => some (.side (w = refA N L) (.ret (.agg (t4A (topF L)))))
  | _, _ => none
section
variable {U : List Int} {n : Nat} {X : Nat → RIt}
theorem tabC_ok (h1 : 1 ≤ U.length) (h2 : U.length ≤ 4) (hX : ∀ i, RVz (X i)) (hn : n ≤ 150) : TabFOk Try.prog (tabC U n X U.length (madeL U X n)) := by
  have hb := made_BS h1 h2 hX n
  have hc := capRL_BS hb
  intro f args t a ht hh
  unfold tabC at ht
  split at ht
  · cases ht; cases hh; exact wakes53_frz
  · cases ht; obtain ⟨⟨e1, e2⟩, hh⟩ := hh; cases hh; subst e1; subst e2; exact made_frz h1 h2 hX hn
  · cases ht; obtain ⟨e1, hh⟩ := hh; cases hh; subst e1; exact capped_frz hb
  · cases ht; obtain ⟨e1, hh⟩ := hh; cases hh; subst e1; exact rcapped_frz hb
  · cases ht; obtain ⟨⟨e1, e2⟩, hh⟩ := hh; cases hh; subst e1; subst e2
    exact same_true hc.rel (Nat.le_trans hc.len (by decide)) hc.both.out
  · cases ht; obtain ⟨e1, hh⟩ := hh; cases hh; subst e1
    exact top_frz (pmFitOf hb) (by show (1 : Int) ≤ (U.length : Int); omega)
  · cases ht; obtain ⟨e1, hh⟩ := hh; cases hh; subst e1
    refine rtop_frz (fun x hx => ?_) (Nat.le_trans hb.len (by decide))
    have := hb.rel.good.may x hx
    have h4 := hb.rel.hi
    exact ⟨this.1, by have h3 := this.2.1; omega⟩
  · cases ht
end
noncomputable def cxT (U : List Int) (n : Nat) (X : Nat → RIt) (N : Nat) (L : List RIt) (dec : List (Nat × Bool)) : Cx := ⟨Try.prog, ctrOf2 (fun _ _ => none) (tabC U n X N L), decM dec⟩
def tabW3 (f : Nat) (args : List AV) : Option (Tree AV) := match f, args with
  | 53, [] => some (.ret (.lit (.bool true)))
  | _, _ => none
theorem tabW3_ok : TabFOk Try.prog tabW3 := by
  intro f args t a ht hh
  unfold tabW3 at ht
  split at ht
  · cases ht; cases hh; exact wakes53_frz
  · cases ht
theorem none_ok : TabOk Try.prog fun _ _ => none := fun f args t a ht hh => by cases ht
noncomputable def cxW3 : Cx := ⟨Try.prog, ctrOf2 (fun _ _ => none) tabW3, decM []⟩
theorem cxW3_ok : CtrOk cxW3 := ctrOf2_ok none_ok tabW3_ok _
theorem cxT_ok {U : List Int} {n : Nat} {X : Nat → RIt} (h1 : 1 ≤ U.length) (h2 : U.length ≤ 4) (hX : ∀ i, RVz (X i)) (hn : n ≤ 150) (dec : List (Nat × Bool)) : CtrOk (cxT U n X U.length (madeL U X n) dec) := ctrOf2_ok none_ok (tabC_ok h1 h2 hX hn) _
noncomputable def c11 : Code := codeOf Try.f11
noncomputable def res11 : St → Option AV := resF Try.prog Try.f11.results.toList
theorem code11 : c11 = seqs (firsts 2 c11) (behind 2 c11) := by kernel_rfl
def st11 (U : List Int) (n : Nat) (X : Nat → RIt) : St := { sl := [(0, rowU U), (1, rowX n X)], hp := [], nx := 0, rd := [], wr := [], ws := [], wb := [] }
def eq4T (a b : Nat → Int) : Bool := a 0 == b 0 && a 1 == b 1 && a 2 == b 2 && a 3 == b 3
theorem ev11a (U : List Int) (n : Nat) (X : Nat → RIt) : (codeE cxW3 (evs cxW3 60) (joins (firsts 2 c11)) (entry (args47 U n X))).map (lfR 0 [(0,false),(1,false)] true res11) = .br (badU n U) (.ret (.out (.lit (.bool true)))) (.ret (.go .norm (some (st11 U n X)))) := by kernel_rfl
theorem ev11b (U : List Int) (n : Nat) (X : Nat → RIt) (N : Nat) (L : List RIt) : (codeE (cxT U n X N L [(48,true),(60,true)]) (evs (cxT U n X N L [(48,true),(60,true)]) 60) (behind 2 c11) (st11 U n X)).map (lfR 0 [] false res11) =
    .side (rowU U = rowU U ∧ rowX n X = rowX n X) (.side (memA (pmOf N L) = memA (pmOf N L)) (.side (refA N L = refA N L) (.side ((capE N L == capE N L) = true) (.side (memA (capPM N L) = memA (capPM N L) ∧ refA N (capRL N L) = refA N (capRL N L)) (.side (memA (pmOf N L) = memA (pmOf N L)) (.side (refA N L = refA N L) (.side (eq4T (fun j : Nat => topI (pmOf N L) j) (topF L) = true) (.ret (.out (.lit (.bool true))))))))))) := by kernel_rfl
set_option maxRecDepth 100000 in
theorem tells_frz (U : List Int) (n : Nat) {X : Nat → RIt} (hX : ∀ i, RVz (X i)) : FrzOk Try.prog 11 (args47 U n X) (.lit (.bool true)) := by
  let O : AV → Prop := fun a' => ∀ E v, Rep E a' v → Rep E (.lit (.bool true)) v
  refine frz_of_ends fitTry Try.func11 (c := c11) (by kernel_rfl) (Nat.le_of_ble_eq_true (by kernel_rfl)) (O := O) (fun E w hd hf => ?_) fun a' h => h
  rw [code11]
  refine wpc_stageR (cx := cxW3) (n := 60) (ds := [(0,false),(1,false)]) (gb := true) (res := res11) (O := O) cxW3_ok fitTry (by simp [firsts]) (by kernel_rfl) ?_ ends_ret
  show ((codeE cxW3 (evs cxW3 60) (joins (firsts 2 c11)) (entry (args47 U n X))).map (lfR 0 [(0,false),(1,false)] true res11)).wp _
  rw [ev11a]
  refine ⟨fun _ E v hv => hv, fun hbad => ?_⟩
  have hlen : n ≤ 150 ∧ 1 ≤ U.length ∧ U.length ≤ 4 := by
    unfold badU at hbad
    split at hbad
    · cases hbad
    · rename_i h1
      split at hbad
      · cases hbad
      · rename_i h2
        have h3 := of_decide_eq_false hbad
        simp at h1 h2
        omega
  show WpC _ _ _ _ _
  have hb := made_BS hlen.2.1 hlen.2.2 hX n
  refine wpc_of_lfR (cx := cxT U n X U.length (madeL U X n) [(48,true),(60,true)]) (n := 60) (ds := []) (gb := false) (res := res11) (O := O) (cxT_ok hlen.2.1 hlen.2.2 hX hlen.1 _) fitTry (by kernel_rfl) ?_ ends_ret
  show ((codeE (cxT U n X U.length (madeL U X n) [(48,true),(60,true)]) (evs (cxT U n X U.length (madeL U X n) [(48,true),(60,true)]) 60) (behind 2 c11) (st11 U n X)).map (lfR 0 [] false res11)).wp _
  rw [ev11b]
  refine ⟨⟨rfl, rfl⟩, rfl, rfl, by simp, ⟨rfl, rfl⟩, rfl, rfl, ?_, fun E v hv => hv⟩
  have e : (fun j : Nat => topI (pmOf U.length (madeL U X n)) j) = topF (madeL U X n) := funext fun j => top_same hb j
  rw [e]
  simp [eq4T]
def ksCap : List (Bool × List Ck) := [(false, [.row [.int .u64]]), (false, [.row ksItem])]
theorem args_cap {al : List AV} (h : ArgsOk ksCap al) : ∃ (U : List Int) (n : Nat) (X : Nat → RIt), (∀ i, RVz (X i)) ∧ ∀ E vs, Reps E al vs → Reps E (args47 U n X) vs := by
  unfold ksCap at h
  cases h with | cons h0 t => cases t with | cons h1 t => cases t with | nil =>
  cases h0 with | cons h0 t0 => cases t0 with | nil =>
  cases h1 with | cons h1 t1 => cases t1 with | nil =>
  cases h0 with
  | row _ n0 g0 hn0 hs0 =>
    cases h1 with
    | row _ n1 g1 hn1 hs1 =>
      refine ⟨uOf n0 g0, n1, fun i => ritOf (g1 i), fun i => rvz_ritOf _, fun E vs hv => ?_⟩
      cases hv with | cons r0 t => cases t with | cons r1 t =>
      exact .cons (rowU_of (fun i hi => u1_of (hs0 i hi)) r0) (.cons (r1.sl_congr fun i hi => item_of (hs1 i hi)) t)
theorem args11_eq : argShs Try.prog 6 Try.f11.params.toList = some ksCap := by kernel_rfl
/-- A law's run from what it answers. -/
theorem runs_of_frz {P : Program} {f : Nat} {fn : Func} {c : Code} (hfit : Fit P) (hfn : P.funcs[f]? = some fn) (hb : fn.body = some c) {ks : List (Bool × List Ck)} (h : ∀ al, ArgsOk ks al → ∃ args, (∀ E vs, Reps E al vs → Reps E args vs) ∧ FrzOk P f args (.lit (.bool true))) : LawRuns P f ks := by
  intro w hg vals al hok hargs
  obtain ⟨args, hA, hF⟩ := h al hok
  rcases hF none (frozenE w hg) w vals (fun v w' => v = .bool true ∧ Quiet w w') (fun _ h => h) (frozenE_ok w hg) (hA _ _ hargs) (fun v w' E' _ _ _ _ hr hq => ⟨by cases hr; rfl, hq⟩) with ⟨u, h1, _⟩ | ⟨_, h2⟩
  · have hname' : ¬ fn.name = "runtime.NumGoroutine" := by simpa using (fit_func hfit hfn hb).2
    have e : Sem.run P (callFunc f vals) w = .ok (.enter f vals) w := by simp [callFunc, hfn, hname', hb]
    rw [e] at h1
    cases h1
  · exact h2
theorem law11_runs : LawRuns Try.prog 11 ksCap := runs_of_frz fitTry Try.func11 (c := c11) (by kernel_rfl) fun al hok => by
  obtain ⟨U, n, X, hX, hA⟩ := args_cap hok
  exact ⟨_, hA, tells_frz U n hX⟩
end
end Go.Proofs.Ytkmhabbpndcnkaa
