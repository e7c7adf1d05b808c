/-
  PARTS, one behind the other: LG LH LI LJ LK LM LN LO LP LQ LR.
-/
import Derived.Test.YtdlghljhgbakjaaDoorWl8
import Derived.Test.YtdlghljhgbakjaaDoorRows
import Derived.Shelf.Vars
/-
  PART: the pieces of a text, by the document: the normal forms.
-/
namespace Go.Proofs.YtdlghljhgbakjaaDoor
open Go.RowKit
noncomputable section
noncomputable def rndR (ok : Bool) (u : Int) (dec : List (Nat × Bool)) (ds : List (Nat × Bool)) (c : Code) (s : St) : Tree Lf := (codeE (cxR ok u (decL dec)) (evs (cxR ok u (decL dec)) 60) c s).map (lfR 0 ds true res29)
noncomputable def sl29 (s : ByteArray) (i : Int) (n : Nat) : List (Nat × AV) := [(0, .v (.string s)), (3, .ptr 0 0), (5, .own 1 n 5 false), (6, .v (.int .i64 i))]
noncomputable def hp29 (n : Nat) (get : Nat → List AV) : List (Nat × Option Blk) := [(0, some (.fix 56 [.v (.int .i64 0), .v (.int .i64 0)])), (1, some (.arr 65 n 5 get))]
noncomputable def hp29p (n : Nat) (get : Nat → List AV) (pc : List AV) : List (Nat × Option Blk) := [(0, some (.fix 56 [.v (.int .i64 0), .v (.int .i64 0)])), (1, some (.arr 65 n 5 get)), (2, some (.fix 65 pc))]
noncomputable def mkS (sl : List (Nat × AV)) (hp : List (Nat × Option Blk)) (nx : Nat) : St := { sl := sl, hp := hp, nx := nx, rd := [], wr := [], ws := [], wb := [] }
noncomputable def inv29 (s : ByteArray) (i : Int) (n : Nat) (get : Nat → List AV) : St := mkS (sl29 s i n) (hp29 n get) 2
noncomputable def ds29 : List (Nat × Bool) := [(0, false), (3, false), (5, false), (6, true)]
noncomputable def ds39 : List (Nat × Bool) := [(0, false), (3, false), (5, false), (6, true), (39, false)]
noncomputable def ds7 : List (Nat × Bool) := [(0, false), (3, false), (5, false), (6, true), (7, false), (8, true)]
noncomputable def dsM : List (Nat × Bool) := [(0, false), (3, false), (5, false), (6, true), (7, false), (8, true), (9, false)]
noncomputable def dsM57 : List (Nat × Bool) := [(0, false), (3, false), (5, false), (6, true), (7, false), (8, true), (9, false), (57, false)]
noncomputable def dsM72 : List (Nat × Bool) := [(0, false), (3, false), (5, false), (6, true), (7, false), (8, true), (9, false), (72, false)]
noncomputable def dsW : List (Nat × Bool) := [(0, false), (3, false), (5, false), (6, true), (8, true), (9, false)]
noncomputable def dsS : List (Nat × Bool) := [(0, false), (3, false), (5, false), (6, true), (8, true), (9, false), (12, false)]
noncomputable def dsT : List (Nat × Bool) := [(0, false), (3, false), (5, false), (6, true), (8, true), (9, false), (12, false), (13, true)]
noncomputable def st7 (s : ByteArray) (i : Int) (n : Nat) (get : Nat → List AV) : St := mkS (sl29 s i n ++ [(7, .v (.int .u8 (bI s i))), (8, .v (.int .i64 i))]) (hp29 n get) 2
noncomputable def st39 (s : ByteArray) (i : Int) (n : Nat) (get : Nat → List AV) : St := mkS (sl29 s i n ++ [(39, .v (.bool (bI s i == 35)))]) (hp29 n get) 2
noncomputable def stM (s : ByteArray) (i : Int) (n : Nat) (get : Nat → List AV) (pc : List AV) (x : List (Nat × AV)) : St := mkS (sl29 s i n ++ ([(7, .v (.int .u8 (bI s i))), (8, .v (.int .i64 i)), (9, .ptr 2 0)] ++ x)) (hp29p n get pc) 3
noncomputable def stW (s : ByteArray) (i e : Int) (n : Nat) (get : Nat → List AV) (pc : List AV) (x : List (Nat × AV)) : St := mkS (sl29 s i n ++ ([(8, .v (.int .i64 e)), (9, .ptr 2 0)] ++ x)) (hp29p n get pc) 3
noncomputable def isB9 (c : Int) : Bool := if (c == 10) = true then true else if (c == 9) = true then true else c == 32
noncomputable def inI (s : ByteArray) (i : Int) : Prop := 0 ≤ i ∧ i < (s.size : Int)
noncomputable def ltI (s : ByteArray) (i : Int) : Bool := decide (i < (s.size : Int))
noncomputable def goI (q : Int → Bool) (s : ByteArray) (i : Int) : Bool := if ltI s i = true then q (bI s i) else false
noncomputable def sdI (s : ByteArray) (i : Int) : Prop := ltI s i = true → inI s i
noncomputable def w65 (c : Int) : Bool := if decide (c ≥ 97) = true then if decide (c ≤ 122) = true then true else p62 c else p62 c
theorem w65_eq (c : Int) : w65 c = p65 c := by
  unfold w65 p65 p64
  cases decide (c ≥ 97) <;> cases decide (c ≤ 122) <;> rfl
noncomputable def dI (c : Int) : Bool := if decide (c ≥ 48) = true then decide (c ≤ 57) else false
noncomputable def sdD (s : ByteArray) (i : Int) : Prop := ltI s i = true → inI s i ∧ (decide (bI s i ≥ 48) = true → inI s i)
noncomputable def nrm (s : St) : Tree Lf := .ret (.go .norm (some s))
noncomputable def P67 (s : ByteArray) (i : Int) : Prop := FrzOk Tryd.prog 67 [.v (.string s), .v (.int .i64 i)] (.agg [iv (plc s.data.toList i.toNat).1, iv (plc s.data.toList i.toNat).2])
noncomputable def pl1 (s : ByteArray) (i : Int) : Int := (plc s.data.toList i.toNat).1
noncomputable def pl2 (s : ByteArray) (i : Int) : Int := (plc s.data.toList i.toNat).2
section
variable (s : ByteArray) (i e : Int) (n : Nat) (Y : Nat → Pc) (u : Int) (k : Int) (t : ByteArray) (v a b c : Int)
theorem q0 : rndR true u [(21,true)] ds29 (cl body29) (inv29 s i n (gY Y)) = .side (ltI s i = true) (nrm (inv29 s i n (gY Y))) := by kernel_rfl
theorem q0x : rndR true u [(21,false)] ds29 body29 (inv29 s i n (gY Y)) = .side (ltI s i = false) (.ret (.go (.exit 0) (some (inv29 s i n (gY Y))))) := by kernel_rfl
theorem qb : rndR true u [(21,true),(35,true)] ds29 body29 (inv29 s i n (gY Y)) = .side (ltI s i = true) (.side (inI s i) (.side (isB9 (bI s i) = true) (nrm (inv29 s (wq (i + 1)) n (gY Y))))) := by kernel_rfl
theorem q1 : rndR true u [(35,false)] ds7 (joins (firsts 3 in29)) (inv29 s i n (gY Y)) = .side (inI s i) (.side (isB9 (bI s i) = false) (nrm (st7 s i n (gY Y)))) := by kernel_rfl
theorem q2 : rndR true u [] ds39 (cl cc29) (st7 s i n (gY Y)) = nrm (st39 s i n (gY Y)) := by kernel_rfl
theorem q2c : canon 0 ds29 true (st39 s i n (gY Y)) = some (inv29 s i n (gY Y)) := by kernel_rfl
theorem qct : rndR true u [(49,true)] ds29 lc29 (inv29 s i n (gY Y)) = .side (sdI s i) (.side (goI p61 s i = true) (nrm (inv29 s (wq (i + 1)) n (gY Y)))) := by kernel_rfl
theorem qcf : rndR true u [(49,false)] ds29 lc29 (inv29 s i n (gY Y)) = .side (sdI s i) (.side (goI p61 s i = false) (.ret (.go (.exit 2) (some (inv29 s i n (gY Y)))))) := by kernel_rfl
theorem qcx : rndR true u [] ds29 (cr (condT (cr cc29))) (inv29 s i n (gY Y)) = .ret (.go (.exit 1) (some (inv29 s i n (gY Y)))) := by kernel_rfl
theorem q3 : rndR true u [(35,false),(39,false)] dsM (joins (firsts 5 in29)) (inv29 s i n (gY Y)) = .side (inI s i) (.side (isB9 (bI s i) = false) (.side ((bI s i == 35) = false) (.side (P67 s i) (nrm (stM s i n (gY Y) (pcS 0 (B []) 0 (pl1 s i) (pl2 s i)) []))))) := by kernel_rfl
theorem q4 : rndR true u [] dsM57 (cl w29) (stM s i n (gY Y) (pcS k t v a b) []) = nrm (stM s i n (gY Y) (pcS k t v a b) [(57, .v (.bool (p64 (bI s i))))]) := by kernel_rfl
noncomputable def cutI (s : ByteArray) (i e : Int) : Prop := 0 ≤ i ∧ i ≤ e ∧ e ≤ (s.size : Int)
noncomputable def sub (s : ByteArray) (i e : Int) : ByteArray := s.extract i.toNat e.toNat
noncomputable def N69 (u : Int) (s : ByteArray) : Prop := FrzOk Tryd.prog 69 [.v (.string s)] (.tup [.v (.int .u64 u), .lit (.bool true)])
noncomputable def N69x (s : ByteArray) : Prop := FrzOk Tryd.prog 69 [.v (.string s)] (.tup [.lit (.int .u64 0), .lit (.bool false)])
noncomputable def sizeQ (n : Nat) : Prop := n * Tryd.prog.bytesOf 65 ≤ maxAppend ∧ n ≤ maxAppend
noncomputable def T70 : Prop := FrzOk Tryd.prog 70 [] sgnA
theorem cW : canon 0 dsW true (stM s i n (gY Y) (pcS k t v a b) [(57, .v (.bool true))]) = some (stW s i i n (gY Y) (pcS k t v a b) []) := by kernel_rfl
theorem cD : canon 0 dsW true (stM s i n (gY Y) (pcS k t v a b) [(72, .v (.bool true))]) = some (stW s i i n (gY Y) (pcS k t v a b) []) := by kernel_rfl
theorem cM : canon 0 dsM true (stM s i n (gY Y) (pcS k t v a b) [(57, .v (.bool false))]) = some (stM s i n (gY Y) (pcS k t v a b) []) := by kernel_rfl
theorem cG : canon 0 dsW true (stM s i n (gY Y) (pcS k t v a b) [(72, .v (.bool false))]) = some (stW s i i n (gY Y) (pcS k t v a b) []) := by kernel_rfl
theorem qwt : rndR true u [(67,true)] dsW lw29 (stW s i e n (gY Y) (pcS k t v a b) []) = .side (sdI s e) (.side (goI w65 s e = true) (nrm (stW s i (wq (e + 1)) n (gY Y) (pcS k t v a b) []))) := by kernel_rfl
theorem qwf : rndR true u [(67,false)] dsW lw29 (stW s i e n (gY Y) (pcS k t v a b) []) = .side (sdI s e) (.side (goI w65 s e = false) (.ret (.go (.exit 4) (some (stW s i e n (gY Y) (pcS k t v a b) []))))) := by kernel_rfl
theorem qw : rndR true u [] dsW (cr ww29) (stW s i e n (gY Y) (pcS k t v a b) []) = nrm (stW s i e n (gY Y) (pcS 2 t v a b) []) := by kernel_rfl
theorem q6 : rndR true u [] dsM72 (cl nd29) (stM s i n (gY Y) (pcS k t v a b) []) = nrm (stM s i n (gY Y) (pcS k t v a b) [(72, .v (.bool (w65 (bI s i))))]) := by kernel_rfl
theorem qdt : rndR true u [(88,true)] dsW ld29 (stW s i e n (gY Y) (pcS k t v a b) []) = .side (sdD s e) (.side (goI p62 s e = true) (nrm (stW s i (wq (e + 1)) n (gY Y) (pcS k t v a b) []))) := by kernel_rfl
theorem qdf : rndR true u [(88,false)] dsW ld29 (stW s i e n (gY Y) (pcS k t v a b) []) = .side (sdD s e) (.side (goI p62 s e = false) (.ret (.go (.exit 6) (some (stW s i e n (gY Y) (pcS k t v a b) []))))) := by kernel_rfl
theorem qd : rndR true u [] dsW (cr dd29) (stW s i e n (gY Y) (pcS k t v a b) []) = .side (cutI s i e) (.side (N69 u (sub s i e)) (nrm (stW s i e n (gY Y) (pcS 1 t u a b) []))) := by kernel_rfl
theorem qdr : rndR false u [] dsW (cr dd29) (stW s i e n (gY Y) (pcS k t v a b) []) = .side (cutI s i e) (.side (N69x (sub s i e)) (.ret (.out (.tup [nilR, plA (iv a) (iv b), il0 4])))) := by kernel_rfl
theorem q8 : rndR true u [] dsS (cl sg29) (stW s i e n (gY Y) (pcS k t v a b) []) = .side T70 (nrm (stW s i e n (gY Y) (pcS k t v a b) [(12, sgnA)])) := by kernel_rfl
theorem q9 : rndR true u [] dsT (cl (cl (cr sg29))) (stW s i e n (gY Y) (pcS k t v a b) [(12, sgnA)]) = nrm (stW s i e n (gY Y) (pcS k t v a b) [(12, sgnA), (13, .v (.int .i64 0))]) := by kernel_rfl
theorem qx1 : rndR true u [(154,true)] dsW (cr (cr sg29)) (stW s i e n (gY Y) (pcS k t v a b) []) = .side ((e == i) = true) (.ret (.out (.tup [nilR, plA (iv a) (iv b), il0 3]))) := by kernel_rfl
theorem qx0 : rndR true u [(154,false)] dsW (cr (cr sg29)) (stW s i e n (gY Y) (pcS k t v a b) []) = .side ((e == i) = false) (nrm (stW s i e n (gY Y) (pcS 3 t v a b) [])) := by kernel_rfl
theorem qy : rndR true u [] ds29 y29 (stW s i e n (gY Y) (pcS k t v a b) []) = .side (cutI s i e) (.side (sizeQ (n + 1)) (nrm (inv29 s e (n + 1) (gA n Y k (sub s i e) v a b)))) := by kernel_rfl
noncomputable def goS (i e k : Int) : Bool := if decide (k < 21) = true then e == i else false
noncomputable def sgK (k : Int) : List UInt8 := sgnL.getD k.toNat []
noncomputable def fitS (s : ByteArray) (i k : Int) : Bool := decide (wq ((s.size : Int) - i) ≥ ((B (sgK k)).size : Int))
noncomputable def hitS (s : ByteArray) (i k : Int) : Bool := if fitS s i k = true then (s.extract i.toNat (wq (i + ((B (sgK k)).size : Int))).toNat).toList == (B (sgK k)).toList else false
noncomputable def in21 (k : Int) : Prop := 0 ≤ k ∧ k < ((21 : Nat) : Int)
noncomputable def stT (s : ByteArray) (i e : Int) (n : Nat) (get : Nat → List AV) (pc : List AV) (k : Int) : St := stW s i e n get pc [(12, sgnA), (13, .v (.int .i64 k))]
noncomputable def sdS (s : ByteArray) (i c : Int) : Prop := fitS s i c = true → in21 c ∧ (0 ≤ i ∧ i ≤ wq (i + ((B (sgK c)).size : Int)) ∧ wq (i + ((B (sgK c)).size : Int)) ≤ (s.size : Int)) ∧ in21 c
theorem qst : rndR true u [(115,true),(144,true)] dsT ls29 (stT s i e n (gY Y) (pcS k t v a b) c) = .side (goS i e c = true) (.side (in21 c) (.side (sdS s i c) (.side (hitS s i c = true) (.side (in21 c) (nrm (stT s i (wq (i + ((B (sgK c)).size : Int))) n (gY Y) (pcS k t v a b) (wq (c + 1)))))))) := by kernel_rfl
theorem qsf : rndR true u [(115,true),(144,false)] dsT ls29 (stT s i e n (gY Y) (pcS k t v a b) c) = .side (goS i e c = true) (.side (in21 c) (.side (sdS s i c) (.side (hitS s i c = false) (nrm (stT s i e n (gY Y) (pcS k t v a b) (wq (c + 1))))))) := by kernel_rfl
theorem cT : canon 0 dsW true (stT s i e n (gY Y) (pcS k t v a b) c) = some (stW s i e n (gY Y) (pcS k t v a b) []) := by kernel_rfl
theorem qsx : rndR true u [(115,false)] dsT ls29 (stT s i e n (gY Y) (pcS k t v a b) c) = .side (goS i e c = false) (.ret (.go (.exit 8) (some (stT s i e n (gY Y) (pcS k t v a b) c)))) := by kernel_rfl
end
end
end Go.Proofs.YtdlghljhgbakjaaDoor

/-
  PART: the pieces of a text, by the document: signs, plainly.
-/
namespace Go.Proofs.YtdlghljhgbakjaaDoor
open Go.RowKit
noncomputable def refS (l : List UInt8) : List (List UInt8) → Nat
  | [] => 0
  | t :: ts => if t.isPrefixOf l = true then t.length else refS l ts
noncomputable def two (c : UInt8) (b : Bool) : Nat := if (61 == c && (b && true)) = true then 2 else if (33 == c && (b && true)) = true then 2 else if (60 == c && (b && true)) = true then 2 else
  refS [c] (sgnL.drop 3)
theorem refS_one (c : UInt8) (r : List UInt8) : ∀ ts : List (List UInt8), (∀ t ∈ ts, t.length = 1) → refS (c :: r) ts = refS [c] ts
  | [], _ => rfl
  | t :: ts, h => by
    have h1 := h t (List.mem_cons_self ..)
    have ih := refS_one c r ts fun t ht => h t (List.mem_cons_of_mem _ ht)
    match t, h1 with
    | [x], _ =>
      show (if (x == c && true) = true then _ else refS (c :: r) ts) = (if (x == c && true) = true then _ else refS [c] ts)
      rw [ih]
theorem sgn_one : ∀ t ∈ sgnL.drop 3, t.length = 1 := by decide
theorem ref_two (c d : UInt8) (r : List UInt8) : refS (c :: d :: r) sgnL = two c (61 == d) := by
  show (if (61 == c && ((61 == d) && true)) = true then 2 else if (33 == c && ((61 == d) && true)) = true then 2 else if (60 == c && ((61 == d) && true)) = true then 2 else refS (c :: d :: r) (sgnL.drop 3)) = _
  rw [refS_one c (d :: r) _ sgn_one]
  rfl
theorem ref_single (c : UInt8) : refS [c] sgnL = two c false := by
  unfold two
  have e : ∀ x : UInt8, (x == c && (false && true)) = false := fun x => by cases x == c <;> rfl
  show (if (61 == c && false) = true then 2 else if (33 == c && false) = true then 2 else if (60 == c && false) = true then 2 else refS [c] (sgnL.drop 3)) = _
  simp
noncomputable def sgTwo (c : UInt8) (b : Bool) : Nat := if (b && Lib.contains longB [c, 61]) = true then 2 else if Lib.contains shortB [c] = true then 1 else 0
theorem sg_all : ((List.range 256).all fun k => two (UInt8.ofNat k) true == sgTwo (UInt8.ofNat k) true && two (UInt8.ofNat k) false == sgTwo (UInt8.ofNat k) false) = true := by kernel_rfl
theorem two_sg (c : UInt8) (b : Bool) : two c b = sgTwo c b := by
  have h := List.all_eq_true.1 sg_all c.toNat (List.mem_range.2 c.toNat_lt)
  simp only [UInt8.ofNat_toNat, Bool.and_eq_true, beq_iff_eq] at h
  cases b
  · exact h.2
  · exact h.1
theorem refS_sign (l : List UInt8) (hl : l ≠ []) : refS l sgnL = signL l := by
  match l with
  | [] => exact absurd rfl hl
  | [c] =>
    rw [ref_single, two_sg]
    rfl
  | c :: d :: r =>
    rw [ref_two, two_sg]
    unfold sgTwo signL isLong
    by_cases h : d = 61
    · subst h; rfl
    · have e1 : (61 == d) = false := beq_eq_false_iff_ne.2 fun e => h e.symm
      have e2 : (d == 61) = false := beq_eq_false_iff_ne.2 h
      show (if ((61 == d) && Lib.contains longB [c, 61]) = true then 2 else if Lib.contains shortB [c] = true then 1 else 0) = (if (d == 61 && Lib.contains longB [c, d]) = true then 2 else if Lib.contains shortB [c] = true then 1 else 0)
      rw [e1, e2]; rfl
theorem sgn_len : ∀ k : Nat, 1 ≤ (sgnL.getD k [] ).length ∧ (sgnL.getD k []).length ≤ 2 ∨ 21 ≤ k := by
  intro k
  by_cases h : k < 21
  · left
    have : ∀ j : Fin 21, 1 ≤ (sgnL.getD j.val []).length ∧ (sgnL.getD j.val []).length ≤ 2 := by decide
    exact this ⟨k, h⟩
  · exact .inr (by omega)
theorem prefix_take : ∀ (t l : List UInt8), t.isPrefixOf l = (decide (t.length ≤ l.length) && (l.take t.length == t))
  | [], l => by simp
  | x :: t, [] => by simp
  | x :: t, c :: l => by
    rw [List.isPrefixOf_cons_cons, prefix_take t l]
    simp only [List.length_cons, List.take_succ_cons, Nat.add_le_add_iff_right]
    by_cases h : c = x
    · subst h; simp
    · have e1 : (x == c) = false := beq_eq_false_iff_ne.2 fun e => h e.symm
      have e2 : (c :: List.take t.length l == x :: t) = false := beq_eq_false_iff_ne.2 fun e => h (List.cons.inj e).1
      rw [e1, e2]; simp
theorem hit_eq (T : List UInt8) (i k : Nat) (hi : i ≤ T.length) (hT : T.length ≤ 100000) (hk : k < 21) : hitS (B T) (i : Int) (k : Int) = (sgnL.getD k []).isPrefixOf (T.drop i) ∧ (fitS (B T) (i : Int) (k : Int) = true → i + (sgnL.getD k []).length ≤ T.length) ∧ wq ((i : Int) + ((B (sgK (k : Int))).size : Int)) = ((i + (sgnL.getD k []).length : Nat) : Int) := by
  have hs : sgK (k : Int) = sgnL.getD k [] := by unfold sgK; rw [Int.toNat_natCast]
  obtain ⟨l1, l2⟩ := (sgn_len k).resolve_right (by omega)
  have w1 : wq ((i : Int) + ((B (sgnL.getD k [])).size : Int)) = ((i + (sgnL.getD k []).length : Nat) : Int) := by
    rw [B_size, wq_in (by omega) (by omega)]; omega
  have w2 : wq (((B T).size : Int) - (i : Int)) = ((T.length - i : Nat) : Int) := by
    rw [B_size, wq_in (by omega) (by omega)]; omega
  have hf : fitS (B T) (i : Int) (k : Int) = decide ((sgnL.getD k []).length ≤ T.length - i) := by
    unfold fitS
    rw [hs, w2, B_size]
    by_cases h : (sgnL.getD k []).length ≤ T.length - i
    · rw [decide_eq_true h]; exact decide_eq_true (by omega)
    · rw [decide_eq_false h]; exact decide_eq_false (by omega)
  refine ⟨?_, ?_, by rw [hs]; exact w1⟩
  · unfold hitS
    rw [hf, hs, w1, B_extract, B_toList, B_toList, prefix_take, List.length_drop, Int.toNat_natCast, Int.toNat_natCast]
    have e : (T.take (i + (sgnL.getD k []).length)).drop i = (T.drop i).take (sgnL.getD k []).length := by
      rw [List.drop_take]; congr 1; omega
    rw [e]
    cases decide ((sgnL.getD k []).length ≤ T.length - i) <;> rfl
  · rw [hf]
    intro h
    have := of_decide_eq_true h
    omega
end Go.Proofs.YtdlghljhgbakjaaDoor

/-
  PART: the pieces of a text, by the document: its inner loops.
-/
namespace Go.Proofs.YtdlghljhgbakjaaDoor
open Go.RowKit
noncomputable section
theorem goI_run {p : Int → Bool} {T : List UInt8} {i j : Nat} (hj : j ≤ runL p (T.drop i)) : goI p (B T) ((i + j : Nat) : Int) = decide (j < runL p (T.drop i)) := by
  have h1 := runL_lt p (T.drop i) j hj
  have hg : (T.drop i).getD j 0 = T.getD (i + j) 0 := by simp [List.getD]
  rw [hg, List.length_drop] at h1
  unfold goI ltI
  rw [bI_nat, B_size]
  by_cases h2 : j < runL p (T.drop i)
  · obtain ⟨h3, h4⟩ := h1.1 h2
    rw [if_pos (decide_eq_true (by omega)), h4, decide_eq_true h2]
  · rw [decide_eq_false h2]
    by_cases h3 : i + j < T.length
    · rw [if_pos (decide_eq_true (by omega))]
      exact Bool.eq_false_iff.2 fun h => h2 (h1.2 ⟨by omega, h⟩)
    · rw [if_neg]
      intro h
      have := of_decide_eq_true h
      omega
section
variable {Bt : Start} {R : Ex → St → Prop} {O : AV → Prop} {T : List UInt8}
/-- A loop over the bytes of a kind. -/
theorem loopG (hB : Bt.nx0 = 0) {d id : Nat} {ds : List (Nat × Bool)} {code c : Code} (hc : codeOk Bt.N code = true) {InvE : Int → St} {sd : Int → Prop} {p : Int → Bool}
    (et : ∀ e, rndR true 0 [(d,true)] ds code (InvE e) = .side (sd e) (.side (goI p (B T) e = true) (nrm (InvE (wq (e + 1))))))
    (ef : ∀ e, rndR true 0 [(d,false)] ds code (InvE e) = .side (sd e) (.side (goI p (B T) e = false) (.ret (.go (.exit id) (some (InvE e))))))
    (hsd : ∀ e : Nat, sd (e : Int)) (hT : T.length ≤ 100000) {i : Nat} (hi : i ≤ T.length) (ho : ∀ s a, res29 s = some a → O a → R .ret s) (hn : WpC Tryd.prog Bt c (InvE ((i + runL p (T.drop i) : Nat) : Int)) R) :
    WpC Tryd.prog Bt (.seq (.block id (.loop code)) c) (InvE (i : Int)) R := by
  have hr := runL_le p (T.drop i)
  rw [List.length_drop] at hr
  refine wpc_oloop (res := res29) (O := O) (fun j : Nat => InvE ((i + j : Nat) : Int)) (fun j => j ≤ runL p (T.drop i)) (fun j => runL p (T.drop i) - j) (fun s => s = InvE ((i + runL p (T.drop i) : Nat) : Int)) (fun j hj => ?_) ho 0 (Nat.zero_le _) rfl (fun s hs => by rw [hs]; exact hn)
  have hg := goI_run hj
  by_cases hlt : j < runL p (T.drop i)
  · rw [decide_eq_true hlt] at hg
    refine wpc_endH (cx := cxR true 0 (decL [(d,true)])) (n := 60) (ds := ds) (gb := true) (res := res29) (cxR_ok _ _ _) fitTry hc ?_
    rw [hB]
    show (rndR true 0 [(d,true)] ds code (InvE ((i + j : Nat) : Int))).wp _
    rw [et]
    have w1 : wq (((i + j : Nat) : Int) + 1) = ((i + (j + 1) : Nat) : Int) := by rw [wq_in (by omega) (by omega)]; omega
    rw [w1]
    exact ⟨hsd _, hg, j + 1, .refl _, hlt, by show runL p (T.drop i) - (j + 1) < runL p (T.drop i) - j; omega⟩
  · rw [decide_eq_false hlt] at hg
    refine wpc_endH (cx := cxR true 0 (decL [(d,false)])) (n := 60) (ds := ds) (gb := true) (res := res29) (cxR_ok _ _ _) fitTry hc ?_
    rw [hB]
    show (rndR true 0 [(d,false)] ds code (InvE ((i + j : Nat) : Int))).wp _
    rw [ef]
    have : j = runL p (T.drop i) := by omega
    exact ⟨hsd _, hg, rfl, _, .refl _, by rw [this]⟩
theorem sdI_ok (e : Nat) : sdI (B T) (e : Int) := fun h => ⟨by omega, of_decide_eq_true h⟩
theorem sdD_ok (e : Nat) : sdD (B T) (e : Int) := fun h => ⟨⟨by omega, of_decide_eq_true h⟩, fun _ => ⟨by omega, of_decide_eq_true h⟩⟩
structure KS where
  k : Nat
  e : Nat
/-- The loop over the signs. -/
theorem loopS (hB : Bt.nx0 = 0) (hc : codeOk Bt.N ls29 = true) (hc0 : codeOk Bt.N (cl (cl (cr sg29))) = true) {c : Code} {n : Nat} {Y : Nat → Pc} {kk : Int} {t : ByteArray} {v a b : Int} (hT : T.length ≤ 100000) {i : Nat} (hi : i ≤ T.length) (ho : ∀ s a, res29 s = some a → O a → R .ret s)
    (hn : WpC Tryd.prog Bt c (stW (B T) (i : Nat) ((i + refS (T.drop i) sgnL : Nat) : Int) n (gY Y) (pcS kk t v a b) []) R) :
    WpC Tryd.prog Bt (.seq (.seq (cl (cl (cr sg29))) (.block 8 (.loop ls29))) c) (stW (B T) (i : Nat) (i : Nat) n (gY Y) (pcS kk t v a b) [(12, sgnA)]) R := by
  let Inv : KS → St := fun k => stT (B T) (i : Nat) (k.e : Nat) n (gY Y) (pcS kk t v a b) (k.k : Nat)
  let J : KS → Prop := fun k => k.k ≤ 21 ∧ ((k.e = i ∧ refS (T.drop i) (sgnL.drop k.k) = refS (T.drop i) sgnL) ∨ (k.e ≠ i ∧ k.e = i + refS (T.drop i) sgnL))
  refine wpc_ioloop (cx := cxR true 0 (decL [])) (n := 60) (ds := dsT) (gb := true) (res := res29) (O := O) (cxR_ok _ _ _) fitTry Inv J (fun k => 21 - k.k) (fun s => s = stW (B T) (i : Nat) ((i + refS (T.drop i) sgnL : Nat) : Int) n (gY Y) (pcS kk t v a b) []) hc0 ?_ (fun k hk => ?_) ho (fun s hs => by rw [hs]; exact hn)
  · rw [hB]
    show (rndR true 0 [] dsT (cl (cl (cr sg29))) (stW (B T) (i : Nat) (i : Nat) n (gY Y) (pcS kk t v a b) [(12, sgnA)])).wp _
    rw [q9]
    exact ⟨rfl, ⟨0, i⟩, .refl _, Nat.zero_le _, .inl ⟨rfl, rfl⟩⟩
  · obtain ⟨k, e⟩ := k
    obtain ⟨hk1, hk2⟩ := hk
    simp only [] at hk1 hk2
    by_cases hgo : k < 21 ∧ e = i
    · obtain ⟨hlt, rfl⟩ := hgo
      have hr : refS (T.drop e) (sgnL.drop k) = refS (T.drop e) sgnL := by
        rcases hk2 with ⟨_, h⟩ | ⟨h, _⟩
        · exact h
        · exact absurd rfl h
      obtain ⟨h1, h2, h3⟩ := hit_eq T e k hi hT hlt
      obtain ⟨l1, l2⟩ := (sgn_len k).resolve_right (by omega)
      have hg : goS (e : Nat) (e : Nat) (k : Nat) = true := by
        unfold goS
        rw [if_pos (decide_eq_true (by omega))]; simp
      have h21 : in21 (k : Nat) := ⟨by omega, by omega⟩
      have hsd : sdS (B T) (e : Nat) (k : Nat) := fun h => by
        have := h2 h
        rw [h3, B_size]
        exact ⟨h21, ⟨by omega, by omega, by omega⟩, h21⟩
      have hdrop : sgnL.drop k = sgnL.getD k [] :: sgnL.drop (k + 1) := by
        have hk' : k < sgnL.length := hlt
        rw [show sgnL.getD k [] = sgnL[k] by simp [List.getD, hk']]
        exact List.drop_eq_getElem_cons hk'
      rw [hdrop] at hr
      have hr : (if (sgnL.getD k []).isPrefixOf (T.drop e) = true then (sgnL.getD k []).length else refS (T.drop e) (sgnL.drop (k + 1))) = refS (T.drop e) sgnL := hr
      have w1 : wq ((k : Int) + 1) = ((k + 1 : Nat) : Int) := by rw [wq_in (by omega) (by omega)]; rfl
      cases hh : (sgnL.getD k []).isPrefixOf (T.drop e) with
      | true =>
        rw [if_pos hh] at hr
        refine wpc_endH (cx := cxR true 0 (decL [(115,true),(144,true)])) (n := 60) (ds := dsT) (gb := true) (res := res29) (cxR_ok _ _ _) fitTry hc ?_
        rw [hB]
        show (rndR true 0 [(115,true),(144,true)] dsT ls29 (stT (B T) (e : Nat) (e : Nat) n (gY Y) (pcS kk t v a b) (k : Nat))).wp _
        rw [qst, h3, w1]
        exact ⟨hg, h21, hsd, h1.trans hh, h21, ⟨k + 1, e + (sgnL.getD k []).length⟩, .refl _, ⟨hlt, .inr ⟨by show e + _ ≠ e; omega, by show e + _ = e + _; rw [hr]⟩⟩, by show 21 - (k + 1) < 21 - k; omega⟩
      | false =>
        rw [hh, if_neg (by simp)] at hr
        refine wpc_endH (cx := cxR true 0 (decL [(115,true),(144,false)])) (n := 60) (ds := dsT) (gb := true) (res := res29) (cxR_ok _ _ _) fitTry hc ?_
        rw [hB]
        show (rndR true 0 [(115,true),(144,false)] dsT ls29 (stT (B T) (e : Nat) (e : Nat) n (gY Y) (pcS kk t v a b) (k : Nat))).wp _
        rw [qsf, w1]
        exact ⟨hg, h21, hsd, h1.trans hh, ⟨k + 1, e⟩, .refl _, ⟨hlt, .inl ⟨rfl, hr⟩⟩, by show 21 - (k + 1) < 21 - k; omega⟩
    · have hg : goS (i : Nat) (e : Nat) (k : Nat) = false := by
        unfold goS
        by_cases h : k < 21
        · rw [if_pos (decide_eq_true (by omega))]
          exact beq_eq_false_iff_ne.2 fun h' => hgo ⟨h, by omega⟩
        · rw [if_neg]
          intro h'
          have := of_decide_eq_true h'
          omega
      refine wpc_endH (cx := cxR true 0 (decL [(115,false)])) (n := 60) (ds := dsT) (gb := true) (res := res29) (cxR_ok _ _ _) fitTry hc ?_
      rw [hB]
      show (rndR true 0 [(115,false)] dsT ls29 (stT (B T) (i : Nat) (e : Nat) n (gY Y) (pcS kk t v a b) (k : Nat))).wp _
      rw [qsx]
      refine ⟨hg, rfl, _, canon_ok (by rw [hB]; exact cT _ _ _ _ _ _ _ _ _ _ _), ?_⟩
      rcases hk2 with ⟨rfl, h⟩ | ⟨_, h⟩
      · have hk21 : k = 21 := by
          by_cases h' : k < 21
          · exact absurd ⟨h', rfl⟩ hgo
          · omega
        rw [hk21] at h
        have : refS (T.drop e) sgnL = 0 := h.symm
        rw [this]; rfl
      · rw [h]
end
end
end Go.Proofs.YtdlghljhgbakjaaDoor

/-
  PART: the pieces of a text, by the document: each round.
-/
namespace Go.Proofs.YtdlghljhgbakjaaDoor
open Go.RowKit
noncomputable section
noncomputable def isLitS (l : List UInt8) : List AV → Bool
  | [.lit (.string s)] => s.data.toList == l
  | _ => false
theorem isLitS_eq {l : List UInt8} {cs : List AV} (h : isLitS l cs = true) : cs = [.lit (.string (B l))] := by
  match cs, h with
  | [.lit (.string s)], h =>
    have : s.data.toList = l := eq_of_beq h
    subst this; rfl
noncomputable def chk70 : Tree AV → Bool
  | .ret (.sl n k get _ _) => n == 21 && (k == 1 && (List.range 21).all fun j => isLitS (sgnL.getD j []) (get j))
  | _ => false
theorem ev70 : chk70 ((evs (cx0 (decL [])) 60).call 70 [] .nil).frz = true := by kernel_rfl
theorem one_lv {E : Env} {v : Value} {vs : List Value} (h : Reps E [.lit v] vs) : Reps E [.v v] vs := by
  cases h with | cons a h => cases h; exact .cons (v_of_lit _ _ a) .nil
theorem chk_frz : ∀ t : Tree AV, chk70 t = true → ((evs (cx0 (decL [])) 60).call 70 [] .nil).frz = t → T70
  | .ret (.sl n k get nl full), h, e => by
    simp only [chk70, Bool.and_eq_true, beq_iff_eq] at h
    obtain ⟨rfl, rfl, h⟩ := h
    refine frz_ev (cx0_ok _) fitTry e (fun E v hv => ?_)
    have hg : ∀ j, j < 21 → get j = [.lit (.string (B (sgnL.getD j [])))] := fun j hj => isLitS_eq (List.all_eq_true.1 h j (List.mem_range.2 hj))
    unfold sgnA
    cases hv with
    | slNil hn => exact .slNil hn
    | slEmp hn hf => exact .slEmp hn fun e => by cases e
    | sl q1 q2 q3 q4 q5 q6 => exact .sl q1 q2 (fun e => by cases e) q4 (fun i hi => one_lv (by have := q5 i hi; rw [hg i hi] at this; exact this)) q6
theorem signs70 : T70 := chk_frz _ ev70 rfl
structure KR where
  i : Nat
  acc : List Pc
  f : Nat
noncomputable def InvR (T : List UInt8) (k : KR) : St := inv29 (B T) (k.i : Nat) k.acc.length (gY (accY k.acc))
structure JR (R : LRes) (T : List UInt8) (k : KR) : Prop where
  res : lexR k.f (T.drop k.i) (plc T k.i).1 (plc T k.i).2 k.acc = R
  fuel : T.length - k.i < k.f
  le : k.i ≤ T.length
  acc : k.acc.length + (T.length - k.i) ≤ 4096
noncomputable def OutR (R : LRes) (T : List UInt8) (s : St) : Prop := ∃ k, s = InvR T k ∧ JR R T k ∧ k.i = T.length
noncomputable def RI (Bt : Start) (R : LRes) (T : List UInt8) (k : KR) (x : Ex) (s : St) : Prop := ((x = .norm ∨ x = .exit 1) ∧ ∃ k', JR R T k' ∧ T.length - k'.i < T.length - k.i ∧ HoldLe Bt s (InvR T k')) ∨ (x = .ret ∧ ∃ a, res29 s = some a ∧ OL R a)
theorem plc_adv (T : List UInt8) (i : Nat) : ∀ n, (∀ j, j < n → ((T.getD (i + j) 0).toNat : Int) ≠ 10) → plc T (i + n) = ((plc T i).1, (plc T i).2 + (n : Nat))
  | 0, _ => by simp
  | n + 1, h => by
    have ih := plc_adv T i n fun j hj => h j (by omega)
    have h1 := h n (by omega)
    rw [show i + (n + 1) = (i + n) + 1 from rfl, plc_succ, if_neg h1, ih]
    exact Prod.ext rfl (by show (plc T i).2 + (n : Nat) + 1 = _; omega)
theorem run_adv {p : Int → Bool} (T : List UInt8) (i : Nat) (hp : p 10 = false) : plc T (i + runL p (T.drop i)) = ((plc T i).1, (plc T i).2 + (runL p (T.drop i) : Nat)) := by
  refine plc_adv T i _ fun j hj e => ?_
  have h1 := ((runL_lt p (T.drop i) j (by omega)).1 hj).2
  have hg : (T.drop i).getD j 0 = T.getD (i + j) 0 := by simp [List.getD]
  rw [hg, e, hp] at h1
  cases h1
theorem sign_adv (T : List UInt8) (i : Nat) (h10 : ch (T.drop i) ≠ 10) : plc T (i + signL (T.drop i)) = ((plc T i).1, (plc T i).2 + (signL (T.drop i) : Nat)) := by
  refine plc_adv T i _ fun j hj => ?_
  have hg : ∀ j, (T.drop i).getD j 0 = T.getD (i + j) 0 := fun j => by simp [List.getD]
  rw [← hg j]
  unfold signL at hj
  split at hj
  · rename_i hl
    have hj : j = 0 ∨ j = 1 := by omega
    rcases hj with rfl | rfl
    · exact h10
    · generalize T.drop i = l at hl
      match l, hl with
      | c :: d :: r, hl =>
        have hd : d = 61 := by
          have : (d == 61 && Lib.contains longB [c, d]) = true := hl
          simp only [Bool.and_eq_true, beq_iff_eq] at this
          exact this.1
        subst hd
        show ((61 : UInt8).toNat : Int) ≠ 10
        decide
  · split at hj
    · obtain rfl : j = 0 := by omega
      exact h10
    · omega
theorem sub_eq (T : List UInt8) (i n : Nat) : sub (B T) (i : Nat) ((i + n : Nat) : Int) = B ((T.drop i).take n) := by
  unfold sub
  rw [B_extract, Int.toNat_natCast, Int.toNat_natCast, List.drop_take]
  congr 2; omega
theorem cutI_ok {T : List UInt8} {i n : Nat} (h : i + n ≤ T.length) : cutI (B T) (i : Nat) ((i + n : Nat) : Int) := by unfold cutI; rw [B_size]; omega
theorem sizeQ_ok {n : Nat} (h : n ≤ 100000) : sizeQ n := by
  have h1 : Tryd.prog.bytesOf 65 ≤ 1000 := Nat.le_of_ble_eq_true (by kernel_rfl)
  have h3 : maxAppend = 1099511627776 := by decide
  unfold sizeQ
  have := Nat.mul_le_mul h h1
  omega
theorem bI_ch (T : List UInt8) (i : Nat) : bI (B T) (i : Nat) = ch (T.drop i) := by
  rw [bI_nat]
  unfold ch
  simp [List.getD]
theorem isB9_eq (c : Int) : isB9 c = decide (c = 10 ∨ c = 32 ∨ c = 9) := by
  unfold isB9
  by_cases h : c = 10
  · simp [h]
  by_cases h2 : c = 9
  · simp [h2]
  · simp [h, h2]; rfl
theorem wpcR {Bt : Start} {Q : Ex → St → Prop} {O : AV → Prop} (hB : Bt.nx0 = 0) {ok : Bool} {u : Int} {dec ds : List (Nat × Bool)} {c : Code} {s : St} (hc : codeOk Bt.N c = true) (h : (rndR ok u dec ds c s).wp (LfQ Q O)) (ho : ∀ s a, res29 s = some a → O a → Q .ret s) : WpC Tryd.prog Bt c s Q :=
  wpc_of_lfR (B := Bt) (cx := cxR ok u (decL dec)) (n := 60) (ds := ds) (gb := true) (res := res29) (O := O) (cxR_ok _ _ _) fitTry hc (by rw [hB]; exact h) ho
theorem stgR {Bt : Start} {Q : Ex → St → Prop} {O : AV → Prop} (hB : Bt.nx0 = 0) {ok : Bool} {u : Int} {dec ds : List (Nat × Bool)} {l : List Code} {c : Code} {s : St} (hl : l ≠ []) (hc : (l.all fun a => codeOk Bt.N a) = true) (h : (rndR ok u dec ds (joins l) s).wp (LfQ (fun x m => match x with | .norm => WpC Tryd.prog Bt c m Q | x => Q x m) O)) (ho : ∀ s a, res29 s = some a → O a → Q .ret s) : WpC Tryd.prog Bt (seqs l c) s Q :=
  wpc_stageR (B := Bt) (cx := cxR ok u (decL dec)) (n := 60) (ds := ds) (gb := true) (res := res29) (O := O) (cxR_ok _ _ _) fitTry hl hc (by rw [hB]; exact h) ho
end
end Go.Proofs.YtdlghljhgbakjaaDoor

/-
  PART: the pieces of a text, by the document: each round as a whole.
-/
namespace Go.Proofs.YtdlghljhgbakjaaDoor
open Go.RowKit
noncomputable section
/-- What the middle of a round ends with. -/
noncomputable def RW (R : LRes) (T : List UInt8) (i : Nat) (acc : List Pc) (f : Nat) (x : Ex) (s : St) : Prop := (x = .norm ∧ ∃ (n : Nat) (k v : Int), 1 ≤ n ∧ i + n ≤ T.length ∧ s = stW (B T) (i : Nat) ((i + n : Nat) : Int) acc.length (gY (accY acc)) (pcS k (B []) v (plc T i).1 (plc T i).2) [] ∧ lexR f (T.drop (i + n)) (plc T (i + n)).1 (plc T (i + n)).2 (acc ++ [⟨k, (T.drop i).take n, v, (plc T i).1, (plc T i).2⟩]) = R) ∨ (x = .ret ∧ ∃ a, res29 s = some a ∧ OL R a)
theorem rw_ret {R : LRes} {T : List UInt8} {i : Nat} {acc : List Pc} {f : Nat} (s : St) (a : AV) (h : res29 s = some a) (ho : OL R a) : RW R T i acc f .ret s := .inr ⟨rfl, a, h, ho⟩
theorem ri_ret {Bt : Start} {R : LRes} {T : List UInt8} {k : KR} (s : St) (a : AV) (h : res29 s = some a) (ho : OL R a) : RI Bt R T k .ret s := .inr ⟨rfl, a, h, ho⟩
section
variable {Bt : Start} {R : LRes} {T : List UInt8}
theorem dig_all (l : List UInt8) : allD (l.take (runL p62 l)) := by
  rw [take_run]
  intro c hc
  have := List.all_eq_true.1 (List.all_takeWhile (p := fun c : UInt8 => p62 ((c.toNat : Nat) : Int)) (l := l)) c hc
  unfold p62 at this
  split at this
  · rename_i h1
    have h1 := of_decide_eq_true h1
    have h3 := of_decide_eq_true this
    omega
  · cases this
/-- A piece: a word, a number or a sign. -/
theorem piece29 (hB : Bt.nx0 = 0) (hN : Bt.N = Tryd.f29.ntmps) (hT : T.length ≤ 4096) {i f : Nat} {acc : List Pc} (hi : i < T.length)
    (h1 : (if p62 (ch (T.drop i)) = true then (match numOf ((T.drop i).take (runL p62 (T.drop i))) with
      | some u => lexR f ((T.drop i).drop (runL p62 (T.drop i))) (plc T i).1 ((plc T i).2 + (runL p62 (T.drop i) : Nat)) (acc ++ [⟨1, (T.drop i).take (runL p62 (T.drop i)), (u : Nat), (plc T i).1, (plc T i).2⟩])
      | none => .bad 4 (plc T i).1 (plc T i).2)
    else if p64 (ch (T.drop i)) = true then lexR f ((T.drop i).drop (runL p65 (T.drop i))) (plc T i).1 ((plc T i).2 + (runL p65 (T.drop i) : Nat)) (acc ++ [⟨2, (T.drop i).take (runL p65 (T.drop i)), 0, (plc T i).1, (plc T i).2⟩])
    else if signL (T.drop i) = 0 then .bad 3 (plc T i).1 (plc T i).2
    else lexR f ((T.drop i).drop (signL (T.drop i))) (plc T i).1 ((plc T i).2 + (signL (T.drop i) : Nat)) (acc ++ [⟨3, (T.drop i).take (signL (T.drop i)), 0, (plc T i).1, (plc T i).2⟩])) = R)
    (h10 : ch (T.drop i) ≠ 10) :
    WpC Tryd.prog Bt w29 (stM (B T) (i : Nat) acc.length (gY (accY acc)) (pcS 0 (B []) 0 (plc T i).1 (plc T i).2) []) (RW R T i acc f) := by
  have hne : T.drop i ≠ [] := fun e => by have := congrArg List.length e; rw [List.length_drop, List.length_nil] at this; omega
  have hle : ∀ p, runL p (T.drop i) ≤ T.length - i := fun p => by have := runL_le p (T.drop i); rw [List.length_drop] at this; exact this
  have hT' : T.length ≤ 100000 := by omega
  have hdd : ∀ n, (T.drop i).drop n = T.drop (i + n) := fun n => by rw [List.drop_drop]
  rw [codeW]
  refine stgR (Q := RW R T i acc f) (O := OL R) hB (ok := true) (u := 0) (dec := []) (ds := dsM57) (l := [cl w29]) (by simp) (by rw [hN]; kernel_rfl) ?_ rw_ret
  show (rndR true 0 [] dsM57 (cl w29) _).wp _
  rw [q4, bI_ch]
  show WpC _ _ _ _ _
  refine wpc_cond (e := p64 (ch (T.drop i))) (l := false) (by kernel_rfl) (fun cw => ?_) (fun ncw => ?_)
  · -- a word
    have ncd : p62 (ch (T.drop i)) = false := by
      unfold p64 at cw
      unfold p62
      by_cases hd : ch (T.drop i) ≤ 57
      · by_cases hd' : 48 ≤ ch (T.drop i)
        · exfalso
          revert cw
          generalize ch (T.drop i) = z at hd hd'
          intro cw
          have : z = 48 ∨ z = 49 ∨ z = 50 ∨ z = 51 ∨ z = 52 ∨ z = 53 ∨ z = 54 ∨ z = 55 ∨ z = 56 ∨ z = 57 := by omega
          rcases this with rfl | rfl | rfl | rfl | rfl | rfl | rfl | rfl | rfl | rfl <;> revert cw <;> decide
        · rw [if_neg]
          intro h; have := of_decide_eq_true h; omega
      · split
        · exact decide_eq_false hd
        · rfl
    rw [ncd, if_neg Bool.false_ne_true, if_pos cw] at h1
    have hr1 : 1 ≤ runL p65 (T.drop i) := run_pos hne (by unfold p65; rw [if_pos cw])
    have hr := hle p65
    rw [cw]
    refine wpc_pre (canon_ok (by rw [hB]; exact cW _ _ _ _ _ _ _ _ _)) ?_
    refine loopG (R := RW R T i acc f) (O := OL R) hB (d := 67) (id := 4) (ds := dsW) (code := lw29) (by rw [hN]; kernel_rfl) (InvE := fun e => stW (B T) (i : Nat) e acc.length (gY (accY acc)) (pcS 0 (B []) 0 (plc T i).1 (plc T i).2) []) (sd := sdI (B T)) (p := p65)
      (fun e => by rw [qwt, show goI w65 = goI p65 by rw [show w65 = p65 from funext w65_eq]]) (fun e => by rw [qwf, show goI w65 = goI p65 by rw [show w65 = p65 from funext w65_eq]]) sdI_ok hT' (Nat.le_of_lt hi) rw_ret ?_
    refine wpcR (Q := RW R T i acc f) (O := OL R) hB (ok := true) (u := 0) (dec := []) (ds := dsW) (by rw [hN]; kernel_rfl) ?_ rw_ret
    rw [qw]
    refine .inl ⟨rfl, _, _, _, hr1, by omega, rfl, ?_⟩
    rw [run_adv T i (by decide), ← hdd]
    exact h1
  · rw [ncw]
    refine wpc_pre (canon_ok (by rw [hB]; exact cM _ _ _ _ _ _ _ _ _)) ?_
    rw [codeN]
    refine stgR (Q := RW R T i acc f) (O := OL R) hB (ok := true) (u := 0) (dec := []) (ds := dsM72) (l := [cl nd29]) (by simp) (by rw [hN]; kernel_rfl) ?_ rw_ret
    show (rndR true 0 [] dsM72 (cl nd29) _).wp _
    rw [q6, bI_ch, w65_eq]
    show WpC _ _ _ _ _
    have e65 : p65 (ch (T.drop i)) = p62 (ch (T.drop i)) := by unfold p65; rw [ncw, if_neg Bool.false_ne_true]
    rw [e65]
    refine wpc_cond (e := p62 (ch (T.drop i))) (l := false) (by kernel_rfl) (fun cd => ?_) (fun ncd => ?_)
    · -- a number
      rw [if_pos cd] at h1
      have hr1 : 1 ≤ runL p62 (T.drop i) := run_pos hne cd
      have hr := hle p62
      rw [cd]
      refine wpc_pre (canon_ok (by rw [hB]; exact cD _ _ _ _ _ _ _ _ _)) ?_
      refine loopG (R := RW R T i acc f) (O := OL R) hB (d := 88) (id := 6) (ds := dsW) (code := ld29) (by rw [hN]; kernel_rfl) (InvE := fun e => stW (B T) (i : Nat) e acc.length (gY (accY acc)) (pcS 0 (B []) 0 (plc T i).1 (plc T i).2) []) (sd := sdD (B T)) (p := p62)
        (fun e => qdt _ _ _ _ _ _ _ _ _ _ _) (fun e => qdf _ _ _ _ _ _ _ _ _ _ _) sdD_ok hT' (Nat.le_of_lt hi) rw_ret ?_
      have h69 := number69 ((T.drop i).take (runL p62 (T.drop i))) (dig_all _) (by rw [List.length_take, List.length_drop]; omega)
      have hnn : (T.drop i).take (runL p62 (T.drop i)) ≠ [] := fun e => by
        have h2 := congrArg List.length e
        rw [List.length_take, List.length_nil, List.length_drop] at h2
        omega
      rw [← numOf_refN hnn (dig_all _), ← sub_eq] at h69
      have hcut := cutI_ok (T := T) (i := i) (n := runL p62 (T.drop i)) (by omega)
      cases hn : numOf ((T.drop i).take (runL p62 (T.drop i))) with
      | some u =>
        rw [hn] at h1 h69
        simp only [] at h1
        refine wpcR (Q := RW R T i acc f) (O := OL R) hB (ok := true) (u := (u : Nat)) (dec := []) (ds := dsW) (by rw [hN]; kernel_rfl) ?_ rw_ret
        rw [qd]
        refine ⟨hcut, h69, .inl ⟨rfl, _, _, _, hr1, by omega, rfl, ?_⟩⟩
        rw [run_adv T i (by decide), ← hdd]
        exact h1
      | none =>
        rw [hn] at h1 h69
        simp only [] at h1
        refine wpcR (Q := RW R T i acc f) (O := OL R) hB (ok := false) (u := 0) (dec := []) (ds := dsW) (by rw [hN]; kernel_rfl) ?_ rw_ret
        rw [qdr]
        refine ⟨hcut, h69, fun E v hv => ?_⟩
        rw [← h1]
        exact tup3_lv hv
    · -- a sign
      rw [ncd, if_neg Bool.false_ne_true, ncw, if_neg Bool.false_ne_true] at h1
      rw [ncd]
      refine wpc_pre (canon_ok (by rw [hB]; exact cG _ _ _ _ _ _ _ _ _)) ?_
      rw [codeG]
      refine stgR (Q := RW R T i acc f) (O := OL R) hB (ok := true) (u := 0) (dec := []) (ds := dsS) (l := [cl sg29]) (by simp) (by rw [hN]; kernel_rfl) ?_ rw_ret
      show (rndR true 0 [] dsS (cl sg29) _).wp _
      rw [q8]
      refine ⟨signs70, ?_⟩
      show WpC _ _ _ _ _
      have hs := refS_sign (T.drop i) hne
      have hsl := sign_le (T.drop i) hne
      rw [List.length_drop] at hsl
      refine loopS (R := RW R T i acc f) (O := OL R) hB (by rw [hN]; kernel_rfl) (by rw [hN]; kernel_rfl) hT' (Nat.le_of_lt hi) rw_ret ?_
      rw [hs]
      by_cases h0 : signL (T.drop i) = 0
      · rw [if_pos h0] at h1
        refine wpcR (Q := RW R T i acc f) (O := OL R) hB (ok := true) (u := 0) (dec := [(154,true)]) (ds := dsW) (by rw [hN]; kernel_rfl) ?_ rw_ret
        rw [qx1]
        refine ⟨by rw [h0]; simp, fun E v hv => ?_⟩
        rw [← h1]
        exact tup3_lv hv
      · rw [if_neg h0] at h1
        refine wpcR (Q := RW R T i acc f) (O := OL R) hB (ok := true) (u := 0) (dec := [(154,false)]) (ds := dsW) (by rw [hN]; kernel_rfl) ?_ rw_ret
        rw [qx0]
        refine ⟨beq_eq_false_iff_ne.2 (by omega), .inl ⟨rfl, _, _, _, Nat.pos_of_ne_zero h0, by omega, rfl, ?_⟩⟩
        rw [sign_adv T i h10, ← hdd]
        exact h1
end
end
end Go.Proofs.YtdlghljhgbakjaaDoor

/-
  PART: the pieces of a text, by the document: the contract.
-/
namespace Go.Proofs.YtdlghljhgbakjaaDoor
open Go.RowKit
noncomputable section
section
variable {Bt : Start} {R : LRes} {T : List UInt8}
/-- What a whole round is to end with. -/
noncomputable def Rd (Bt : Start) (R : LRes) (T : List UInt8) (k : KR) : Ex → St → Prop := Round Bt res29 (InvR T) (JR R T) (fun k => T.length - k.i) 0 k (OutR R T) (OL R)
theorem rd_ret {k : KR} (s : St) (a : AV) (h : res29 s = some a) (ho : OL R a) : Rd Bt R T k .ret s := .inr (.inr ⟨rfl, a, h, ho⟩)
theorem rd_norm {k k' : KR} {s : St} (h : JR R T k') (hm : T.length - k'.i < T.length - k.i) (hs : HoldLe Bt s (InvR T k')) : Rd Bt R T k .norm s := .inl ⟨rfl, k', h, hm, hs⟩
theorem round29 (hB : Bt.nx0 = 0) (hN : Bt.N = Tryd.f29.ntmps) (hT : T.length ≤ 4096) (k : KR) (hk : JR R T k) : WpC Tryd.prog Bt body29 (InvR T k) (Rd Bt R T k) := by
  obtain ⟨i, acc, f⟩ := k
  obtain ⟨h1, h2, h3, h4⟩ := hk
  simp only [] at h1 h2 h3 h4
  have hst : InvR T ⟨i, acc, f⟩ = inv29 (B T) (i : Nat) acc.length (gY (accY acc)) := rfl
  rw [hst]
  have hlt : ltI (B T) (i : Nat) = decide (i < T.length) := by
    unfold ltI; rw [B_size]
    by_cases h : i < T.length
    · rw [decide_eq_true h]; exact decide_eq_true (by omega)
    · rw [decide_eq_false h]; exact decide_eq_false (by omega)
  by_cases hi : i < T.length
  case neg =>
    refine wpcR (Q := Rd Bt R T _) (O := OL R) hB (ok := true) (u := 0) (dec := [(21,false)]) (ds := ds29) (by rw [hN]; kernel_rfl) ?_ rd_ret
    rw [q0x]
    exact ⟨by rw [hlt]; exact decide_eq_false hi, .inr (.inl ⟨rfl, _, .refl _, ⟨i, acc, f⟩, rfl, ⟨h1, h2, h3, h4⟩, by show i = T.length; omega⟩)⟩
  obtain ⟨f, rfl⟩ : ∃ f', f = f' + 1 := ⟨f - 1, by omega⟩
  rw [lexR_succ] at h1
  have hne : T.drop i ≠ [] := fun e => by have := congrArg List.length e; rw [List.length_drop, List.length_nil] at this; omega
  have hle : ∀ p, runL p (T.drop i) ≤ T.length - i := fun p => by have := runL_le p (T.drop i); rw [List.length_drop] at this; exact this
  have hT' : T.length ≤ 100000 := by omega
  have hdd : ∀ n, (T.drop i).drop n = T.drop (i + n) := fun n => by rw [List.drop_drop]
  have hlt1 : ltI (B T) (i : Nat) = true := by rw [hlt]; exact decide_eq_true hi
  have hin : inI (B T) (i : Nat) := ⟨by omega, of_decide_eq_true hlt1⟩
  rw [if_neg hne] at h1
  have hch : ch (T.drop i) = ((T.getD i 0).toNat : Nat) := by rw [← bI_ch, bI_nat]
  have blank : isB9 (ch (T.drop i)) = true → lexR f (T.drop (i + 1)) (plc T (i + 1)).1 (plc T (i + 1)).2 acc = R → WpC Tryd.prog Bt body29 (inv29 (B T) (i : Nat) acc.length (gY (accY acc))) (Rd Bt R T ⟨i, acc, f + 1⟩) := fun hb hr => by
    refine wpcR (Q := Rd Bt R T _) (O := OL R) hB (ok := true) (u := 0) (dec := [(21,true),(35,true)]) (ds := ds29) (by rw [hN]; kernel_rfl) ?_ rd_ret
    rw [qb, bI_ch, wq_in (by omega) (by omega)]
    exact ⟨hlt1, hin, hb, rd_norm (k' := ⟨i + 1, acc, f⟩) ⟨hr, by show T.length - (i + 1) < f; omega, hi, by show acc.length + (T.length - (i + 1)) ≤ 4096; omega⟩ (by show T.length - (i + 1) < T.length - i; omega) (.refl _)⟩
  by_cases c10 : ch (T.drop i) = 10
  · rw [if_pos c10, hdd] at h1
    refine blank (by rw [isB9_eq]; exact decide_eq_true (.inl c10)) ?_
    rw [plc_succ, if_pos (by rw [← hch]; exact c10)]
    exact h1
  rw [if_neg c10] at h1
  by_cases cb : ch (T.drop i) = 32 ∨ ch (T.drop i) = 9
  · rw [if_pos cb, hdd] at h1
    refine blank (by rw [isB9_eq]; exact decide_eq_true (.inr cb)) ?_
    rw [plc_succ, if_neg (by rw [← hch]; exact c10)]
    exact h1
  rw [if_neg cb] at h1
  have nb : isB9 (ch (T.drop i)) = false := by rw [isB9_eq]; exact decide_eq_false fun h => h.elim c10 cb
  rw [codeB]
  refine wpc_seq (R1 := fun x s => (x = .norm ∧ s = inv29 (B T) (i : Nat) acc.length (gY (accY acc)))) (wpcR (O := fun _ => False) hB (ok := true) (u := 0) (dec := [(21,true)]) (ds := ds29) (by rw [hN]; kernel_rfl) (by rw [q0]; exact ⟨hlt1, rfl, rfl⟩) fun _ _ _ h => h.elim) (fun s1 hs1 => ?_) (fun x s1 hx hs1 => absurd hs1.1 hx)
  rw [hs1.2]
  refine wpc_block (R1 := RI Bt R T ⟨i, acc, f + 1⟩) ?_ (fun s1 hs1 => ?_) (fun x s1 hx hs1 => ?_)
  · by_cases c35 : ch (T.drop i) = 35
    · rw [if_pos c35, hdd] at h1
      have hr1 : 1 ≤ runL p61 (T.drop i) := run_pos hne (by rw [c35]; decide)
      have hr := hle p61
      rw [codeC]
      refine stgR (Q := RI Bt R T ⟨i, acc, f + 1⟩) (O := OL R) hB (ok := true) (u := 0) (dec := [(35,false)]) (ds := ds7) (l := firsts 3 in29) (by simp [firsts]) (by rw [hN]; kernel_rfl) ?_ ri_ret
      show (rndR true 0 [(35,false)] ds7 (joins (firsts 3 in29)) _).wp _
      rw [q1, bI_ch]
      refine ⟨hin, nb, ?_⟩
      show WpC _ _ _ _ _
      refine wpc_seq (R1 := fun x s => x = .exit 1 ∧ s = inv29 (B T) ((i + runL p61 (T.drop i) : Nat) : Int) acc.length (gY (accY acc))) ?_ (fun s1 hs1 => by cases hs1.1) (fun x s1 hx hs1 => .inl ⟨.inr hs1.1, ⟨i + runL p61 (T.drop i), acc, f⟩, ⟨?_, by show T.length - (i + runL p61 (T.drop i)) < f; omega, by show i + runL p61 (T.drop i) ≤ T.length; omega, by show acc.length + (T.length - (i + runL p61 (T.drop i))) ≤ 4096; omega⟩, by show T.length - (i + runL p61 (T.drop i)) < T.length - i; omega, by rw [hs1.2]; exact .refl _⟩)
      · refine stgR (O := fun _ => False) hB (ok := true) (u := 0) (dec := []) (ds := ds39) (l := [cl cc29]) (by simp) (by rw [hN]; kernel_rfl) ?_ (fun _ _ _ h => h.elim)
        show (rndR true 0 [] ds39 (cl cc29) _).wp _
        rw [q2]
        show WpC _ _ _ _ _
        refine wpc_cond (e := bI (B T) (i : Nat) == 35) (l := false) (by kernel_rfl) (fun _ => ?_) (fun h => by rw [bI_ch, c35] at h; cases h)
        refine wpc_pre (m := inv29 (B T) (i : Nat) acc.length (gY (accY acc))) (canon_ok (by rw [hB]; exact q2c _ _ _ _)) ?_
        refine loopG (O := fun _ => False) hB (d := 49) (id := 2) (ds := ds29) (code := lc29) (by rw [hN]; kernel_rfl) (InvE := fun e => inv29 (B T) e acc.length (gY (accY acc))) (sd := sdI (B T)) (p := p61)
          (fun e => qct _ _ _ _ _) (fun e => qcf _ _ _ _ _) sdI_ok hT' h3 (fun _ _ _ h => h.elim) ?_
        refine wpcR (O := fun _ => False) hB (ok := true) (u := 0) (dec := []) (ds := ds29) (by rw [hN]; kernel_rfl) ?_ (fun _ _ _ h => h.elim)
        rw [qcx]
        exact ⟨rfl, rfl⟩
      · show lexR f (T.drop (i + runL p61 (T.drop i))) (plc T (i + runL p61 (T.drop i))).1 (plc T (i + runL p61 (T.drop i))).2 acc = R
        rw [run_adv T i (by decide)]
        exact h1
    rw [if_neg c35] at h1
    rw [codeI]
    refine stgR (Q := RI Bt R T ⟨i, acc, f + 1⟩) (O := OL R) hB (ok := true) (u := 0) (dec := [(35,false),(39,false)]) (ds := dsM) (l := firsts 5 in29) (by simp [firsts]) (by rw [hN]; kernel_rfl) ?_ ri_ret
    show (rndR true 0 [(35,false),(39,false)] dsM (joins (firsts 5 in29)) _).wp _
    rw [q3, bI_ch]
    refine ⟨hin, nb, by simp [c35], place67 T i h3 hT', ?_⟩
    show WpC _ _ _ _ _
    refine wpc_seq (piece29 hB hN hT hi h1 c10) (fun s1 hs1 => ?_) (fun x s1 hx hs1 => ?_)
    · rcases hs1 with ⟨_, n, kk, v, a1, a2, rfl, a4⟩ | ⟨h, _⟩
      · refine wpcR (Q := RI Bt R T _) (O := OL R) hB (ok := true) (u := 0) (dec := []) (ds := ds29) (by rw [hN]; kernel_rfl) ?_ ri_ret
        rw [qy, sub_eq]
        refine ⟨cutI_ok a2, sizeQ_ok (by omega), .inl ⟨.inl rfl, ⟨i + n, acc ++ [⟨kk, (T.drop i).take n, v, (plc T i).1, (plc T i).2⟩], f⟩, ⟨a4, by show T.length - (i + n) < f; omega, a2, by show (acc ++ [_]).length + (T.length - (i + n)) ≤ 4096; rw [List.length_append, List.length_singleton]; omega⟩, by show T.length - (i + n) < T.length - i; omega, ?_⟩⟩
        show HoldLe Bt _ (inv29 (B T) ((i + n : Nat) : Int) (acc ++ [(⟨kk, (T.drop i).take n, v, (plc T i).1, (plc T i).2⟩ : Pc)]).length (gY (accY (acc ++ [(⟨kk, (T.drop i).take n, v, (plc T i).1, (plc T i).2⟩ : Pc)]))))
        rw [List.length_append, List.length_singleton]
        exact hold_rows rfl rfl (.same (.row (fun j hj => gA_eq acc kk _ v _ _ j hj) .nil))
      · cases h
    · rcases hs1 with ⟨h, _⟩ | ⟨rfl, h⟩
      · exact absurd h hx
      · exact .inr ⟨rfl, h⟩
  · rcases hs1 with ⟨_, k', a1, a2, a3⟩ | ⟨h, _⟩
    · exact rd_norm a1 a2 a3
    · cases h
  · rcases hs1 with ⟨rfl | rfl, k', a1, a2, a3⟩ | ⟨rfl, a, a1, a2⟩
    · exact rd_norm a1 a2 a3
    · exact absurd rfl hx
    · exact rd_ret s1 a a1 a2
end
end
end Go.Proofs.YtdlghljhgbakjaaDoor

/-
  PART: the pieces of a text, by the document: what it answers.
-/
namespace Go.Proofs.YtdlghljhgbakjaaDoor
open Go.RowKit
noncomputable section
noncomputable def st29a (s : ByteArray) : St := mkS [(0, .v (.string s)), (3, .ptr 0 0), (5, nilR), (6, .v (.int .i64 0))] [(0, some (.fix 56 [.lit (.int .i64 0), .lit (.int .i64 0)]))] 1
section
variable (s : ByteArray) (i : Int) (n : Nat) (Y : Nat → Pc)
theorem a29t : (codeE (cxR true 0 (decL [(16,true)])) (evs (cxR true 0 (decL [(16,true)])) 60) (joins (firsts 4 c29)) (entry [.v (.string s)])).map (lfR 0 ds29 false res29) = .side (decide ((s.size : Int) > 4096) = true) (.ret (.out (.tup [nilR, plA (il0 1) (il0 1), il0 4]))) := by kernel_rfl
theorem a29f : (codeE (cxR true 0 (decL [(16,false)])) (evs (cxR true 0 (decL [(16,false)])) 60) (joins (firsts 4 c29)) (entry [.v (.string s)])).map (lfR 0 ds29 false res29) = .side (decide ((s.size : Int) > 4096) = false) (.ret (.go .norm (some (st29a s)))) := by kernel_rfl
theorem nil29 : St.nilOwn? 0 ds29 5 65 5 (st29a s) = some (inv29 s 0 0 (fun _ => fit 5 [])) := by kernel_rfl
theorem t29 : rndR true 0 [] [] tail29 (inv29 s i n (gY Y)) = .side (P67 s (s.size : Int)) (.side (sizeQ (n + 1)) (.ret (.out (.tup [.sl (n + 1) 5 (gA n Y 0 (B []) 0 (pl1 s (s.size : Int)) (pl2 s (s.size : Int))) false false, plA (il0 0) (il0 0), il0 0])))) := by kernel_rfl
end
theorem ok_ans {R : LRes} {acc : List Pc} {ln cl : Int} (h1 : .ok (acc ++ [⟨0, [], 0, ln, cl⟩]) = R) : OL R (.tup [.sl (acc.length + 1) 5 (gA acc.length (accY acc) 0 (B []) 0 ln cl) false false, plA (il0 0) (il0 0), il0 0]) := fun E v hv => by
  rw [← h1]
  show Rep E (.tup [.sl (acc ++ [(⟨0, [], 0, ln, cl⟩ : Pc)]).length 5 (fun j => pcC (accY (acc ++ [(⟨0, [], 0, ln, cl⟩ : Pc)]) j)) false false, .agg [iv 0, iv 0], iv 0]) v
  cases hv with
  | tup h =>
    refine .tup ?_
    rename_i cs
    generalize cs.toList = vs at h
    cases h with | cons a1 h => cases h with | cons a2 h => cases h with | cons a3 h =>
    cases h
    refine .cons ?_ (.cons ?_ (.cons (v_of_lit _ _ a3) .nil))
    · rw [List.length_append, List.length_singleton]
      cases a1 with
      | slNil hn => exact .slNil hn
      | slEmp hn hf => exact .slEmp hn fun e => by cases e
      | sl q1 q2 q3 q4 q5 q6 => exact .sl q1 q2 (fun e => by cases e) q4 (fun i hi => by have := gA_eq acc 0 [] 0 ln cl i hi; rw [show (pcC (accY (acc ++ [(⟨0, [], 0, ln, cl⟩ : Pc)]) i)) = gY (accY (acc ++ [(⟨0, [], 0, ln, cl⟩ : Pc)])) i from rfl, ← this]; exact q5 i hi) q6
    · unfold plA at a2
      cases a2 with
      | agg h ho =>
        refine .agg ?_ ho
        rename_i cs
        generalize cs.toList = ws at h
        cases h with | cons b1 h => cases h with | cons b2 h =>
        cases h
        exact .cons (v_of_lit _ _ b1) (.cons (v_of_lit _ _ b2) .nil)
theorem lex29 (l : List UInt8) : FrzOk Tryd.prog 29 [.v (.string (B l))] (ansL (lexRes l)) := by
  let R := lexRes l
  refine frz_of_ends fitTry Tryd.func29 (c := c29) (by kernel_rfl) (Nat.le_of_ble_eq_true (by kernel_rfl)) (O := OL R) (fun E w hd hf => ?_) fun a' h => h
  rw [code29]
  by_cases hl : l.length > 4096
  · refine wpc_stageR (cx := cxR true 0 (decL [(16,true)])) (n := 60) (ds := ds29) (gb := false) (res := res29) (O := OL R) (cxR_ok _ _ _) fitTry (by simp [firsts]) (by kernel_rfl) ?_ ends_ret
    show ((codeE (cxR true 0 (decL [(16,true)])) (evs (cxR true 0 (decL [(16,true)])) 60) (joins (firsts 4 c29)) (entry [.v (.string (B l))])).map (lfR 0 ds29 false res29)).wp _
    rw [a29t]
    refine ⟨decide_eq_true (by rw [B_size]; omega), fun E v hv => ?_⟩
    have e : R = .bad 4 1 1 := by show lexRes l = _; unfold lexRes; rw [if_pos hl]
    rw [e]
    exact tup3_lv2 hv
  · refine wpc_stageR (cx := cxR true 0 (decL [(16,false)])) (n := 60) (ds := ds29) (gb := false) (res := res29) (O := OL R) (cxR_ok _ _ _) fitTry (by simp [firsts]) (by kernel_rfl) ?_ ends_ret
    show ((codeE (cxR true 0 (decL [(16,false)])) (evs (cxR true 0 (decL [(16,false)])) 60) (joins (firsts 4 c29)) (entry [.v (.string (B l))])).map (lfR 0 ds29 false res29)).wp _
    rw [a29f]
    refine ⟨decide_eq_false (by rw [B_size]; omega), ?_⟩
    show WpC _ _ _ _ _
    have hT : l.length ≤ 4096 := by omega
    let k0 : KR := ⟨0, [], l.length + 1⟩
    have hj : JR R l k0 := by
      refine ⟨?_, by show l.length - 0 < l.length + 1; omega, Nat.zero_le _, by show 0 + (l.length - 0) ≤ 4096; omega⟩
      show lexR (l.length + 1) l 1 1 [] = lexRes l
      unfold lexRes
      rw [if_neg hl]
    have hle : HoldLe (begins Tryd.f29.ntmps E w hd hf) (st29a (B l)) (InvR l k0) := by
      refine (nilOwn_le (d := 5) (elem := 65) (k := 5) (nil29 (B l))).trans ?_
      exact hold_rows (s := inv29 (B l) 0 0 (fun _ => fit 5 [])) (m := InvR l k0) rfl rfl (.same (.row (fun j hj => absurd hj (Nat.not_lt_zero j)) .nil))
    refine wpc_pre hle ?_
    refine wpc_oloop (res := res29) (O := OL R) (InvR l) (JR R l) (fun k => l.length - k.i) (OutR R l) (fun k hk => round29 rfl rfl hT k hk) ends_ret k0 hj rfl (fun s hs => ?_)
    obtain ⟨k, rfl, hk, hi⟩ := hs
    obtain ⟨i, acc, f⟩ := k
    obtain ⟨h1, h2, h3, h4⟩ := hk
    simp only [] at h1 h2 h3 h4 hi
    subst hi
    obtain ⟨f, rfl⟩ : ∃ f', f = f' + 1 := ⟨f - 1, by omega⟩
    rw [lexR_succ, if_pos (List.drop_eq_nil_of_le (Nat.le_refl _))] at h1
    refine wpcR (O := OL R) rfl (ok := true) (u := 0) (dec := []) (ds := []) (by kernel_rfl) ?_ ends_ret
    have hst : InvR l ⟨l.length, acc, f + 1⟩ = inv29 (B l) (l.length : Nat) acc.length (gY (accY acc)) := rfl
    rw [hst, t29, B_size]
    exact ⟨place67 l l.length (Nat.le_refl _) (by omega), sizeQ_ok (by omega), ok_ans h1⟩
end
end Go.Proofs.YtdlghljhgbakjaaDoor

/-
  PART: pieces that are known; the law's table.
-/
namespace Go.Proofs.YtdlghljhgbakjaaDoor
open Go.RowKit
theorem frz_args {P : Program} {f : Nat} {aa bs : List AV} {a : AV} (h : ∀ E vs, Reps E aa vs → Reps E bs vs) (H : FrzOk P f bs a) : FrzOk P f aa a :=
  fun r E w vals K hd hf hr hK => H r E w vals K hd hf (h _ _ hr) hK
theorem frz_ans {P : Program} {f : Nat} {aa : List AV} {a b : AV} (h : ∀ E v, Rep E a v → Rep E b v) (H : FrzOk P f aa a) : FrzOk P f aa b :=
  fun r E w vals K hd hf hr hK => H r E w vals K hd hf hr fun v w' E' a1 a2 a3 a4 a5 a6 => hK v w' E' a1 a2 a3 a4 (h _ _ a5) a6
noncomputable section
noncomputable def wkT1 : List UInt8 := [114, 48, 10, 60, 61, 61, 32, 55, 32, 35, 32, 110, 111]
noncomputable def wkT2 : List UInt8 := [97, 10, 32, 63]
noncomputable def wkP : List Pc := [⟨2, [114, 48], 0, 1, 1⟩, ⟨3, [60, 61], 0, 2, 1⟩, ⟨3, [61], 0, 2, 3⟩, ⟨1, [55], 7, 2, 5⟩, ⟨0, [], 0, 2, 11⟩]
noncomputable def pcL (p : Pc) : List AV := [.lit (.int .u8 p.k), .lit (.string (B p.t)), .lit (.int .u64 p.n), .lit (.int .i64 p.ln), .lit (.int .i64 p.cl)]
noncomputable def okL (ps : List Pc) : AV := .tup [.sl ps.length 5 (fun j => pcL (accY ps j)) false false, .agg [il0 0, il0 0], il0 0]
noncomputable def badL (e ln cl : Int) : AV := .tup [nilR, .agg [il0 ln, il0 cl], il0 e]
theorem lits_of_vs {E : Env} : ∀ {xs : List Value} {vs : List Value}, Reps E (xs.map .v) vs → Reps E (xs.map .lit) vs
  | [], _, h => by cases h; exact .nil
  | x :: xs, _, h => by cases h with | cons a t => exact .cons (lit_of_v _ _ a) (lits_of_vs t)
theorem pcL_of {E : Env} {p : Pc} {vs : List Value} (h : Reps E (pcC p) vs) : Reps E (pcL p) vs := lits_of_vs (xs := [.int .u8 p.k, .string (B p.t), .int .u64 p.n, .int .i64 p.ln, .int .i64 p.cl]) h
theorem agg_of {E : Env} {x y : Int} {v : Value} (h : Rep E (.agg [iv x, iv y]) v) : Rep E (.agg [il0 x, il0 y]) v := by
  cases h with
  | agg h ho =>
    refine .agg ?_ ho
    exact lits_of_vs (xs := [.int .i64 x, .int .i64 y]) h
theorem okL_of {ps : List Pc} {E : Env} {v : Value} (h : Rep E (ansL (.ok ps)) v) : Rep E (okL ps) v := by
  change Rep E (.tup [.sl ps.length 5 (fun j => pcC (accY ps j)) false false, .agg [iv 0, iv 0], iv 0]) v at h
  cases h with
  | tup h =>
    refine .tup ?_
    rename_i cs
    generalize cs.toList = vs at h
    cases h with | cons a1 h => cases h with | cons a2 h => cases h with | cons a3 h =>
    cases h
    refine .cons ?_ (.cons (agg_of a2) (.cons (lit_of_v _ _ a3) .nil))
    cases a1 with
    | slNil hn => exact .slNil hn
    | slEmp hn hf => exact .slEmp hn fun e => by cases e
    | sl q1 q2 q3 q4 q5 q6 => exact .sl q1 q2 (fun e => by cases e) q4 (fun i hi => pcL_of (q5 i hi)) q6
theorem badL_of {e ln cl : Int} {E : Env} {v : Value} (h : Rep E (ansL (.bad e ln cl)) v) : Rep E (badL e ln cl) v := by
  change Rep E (.tup [nilR, .agg [iv ln, iv cl], iv e]) v at h
  cases h with
  | tup h =>
    refine .tup ?_
    rename_i cs
    generalize cs.toList = vs at h
    cases h with | cons a1 h => cases h with | cons a2 h => cases h with | cons a3 h =>
    cases h
    exact .cons a1 (.cons (agg_of a2) (.cons (lit_of_v _ _ a3) .nil))
theorem frz28_lit {l : List UInt8} {R : LRes} (h : lexRes l = R) {a : AV} (ha : ∀ E v, Rep E (ansL R) v → Rep E a v) : FrzOk Tryd.prog 28 [.lit (.string (B l))] a :=
  frz_args (bs := [.v (.string (B l))]) (fun E vs hv => by cases hv with | cons a t => exact .cons (v_of_lit _ _ a) t) (frz_ans ha (h ▸ lex28 l))
theorem wk1_eq : lexRes wkT1 = .ok wkP := by kernel_rfl
theorem wk2_eq : lexRes wkT2 = .bad 3 2 2 := by kernel_rfl
noncomputable def tabK (f : Nat) (args : List AV) : Option (Tree AV) := match f, args with
  | 28, [.lit (.string s)] => match s.data.toList == wkT1 with
    | true => some (.side (FrzOk Tryd.prog 28 [.lit (.string s)] (okL wkP)) (.ret (okL wkP)))
    | false => some (.side (FrzOk Tryd.prog 28 [.lit (.string s)] (badL 3 2 2)) (.ret (badL 3 2 2)))
  | _, _ => none
theorem tabK_ok : TabFOk Tryd.prog tabK := by
  intro f args t a ht hh
  unfold tabK at ht
  split at ht
  · split at ht
    · cases ht
      obtain ⟨h1, h2⟩ := hh
      cases h2
      exact h1
    · cases ht
      obtain ⟨h1, h2⟩ := hh
      cases h2
      exact h1
  · cases ht
noncomputable def cxK : Cx := ⟨Tryd.prog, ctrOf2 noP tabK, decL []⟩
theorem cxK_ok : CtrOk cxK := ctrOf2_ok noP_ok tabK_ok _
theorem wk27 : ((evs cxK 60).call 27 [] .nil).frz = .side (FrzOk Tryd.prog 28 [.lit (.string (B wkT1))] (okL wkP)) (.side (FrzOk Tryd.prog 28 [.lit (.string (B wkT2))] (badL 3 2 2)) (.side (((wkP.length : Int) != 5) = false → ((0 : Int) ≤ 0 ∧ (0 : Int) < wkP.length) ∧ ((0 : Int) ≤ 1 ∧ (1 : Int) < wkP.length) ∧ ((0 : Int) ≤ 2 ∧ (2 : Int) < wkP.length) ∧ ((0 : Int) ≤ 3 ∧ (3 : Int) < wkP.length) ∧ ((0 : Int) ≤ 4 ∧ (4 : Int) < wkP.length) ∧ (0 : Int) ≤ 4 ∧ (4 : Int) < wkP.length) (.ret (.v (.bool true))))) := by kernel_rfl
theorem wakes27 : FrzOk Tryd.prog 27 [] (.lit (.bool true)) :=
  frz_ev cxK_ok fitTry wk27 ⟨frz28_lit wk1_eq fun _ _ => okL_of, frz28_lit wk2_eq fun _ _ => badL_of, by decide, fun E v hv => lit_of_v _ _ hv⟩
noncomputable def okV (n : Nat) (Y : Nat → Pc) : AV := .tup [.sl n 5 (gY Y) false false, plA (iv 0) (iv 0), iv 0]
noncomputable def badV (e ln cl : Int) : AV := .tup [nilR, plA (iv ln) (iv cl), iv e]
noncomputable def tabW (a : AV) (f : Nat) (args : List AV) : Option (Tree AV) := match f, args with
  | 27, [] => some (.side (FrzOk Tryd.prog 27 [] (.lit (.bool true))) (.ret (.lit (.bool true))))
  | 28, [s] => some (.side (FrzOk Tryd.prog 28 [s] a) (.ret a))
  | 29, [s] => some (.side (FrzOk Tryd.prog 29 [s] a) (.ret a))
  | _, _ => none
theorem tabW_ok (a : AV) : TabFOk Tryd.prog (tabW a) := by
  intro f args t b ht hh
  unfold tabW at ht
  split at ht
  · cases ht
    obtain ⟨h1, h2⟩ := hh
    cases h2
    exact h1
  · cases ht
    obtain ⟨h1, h2⟩ := hh
    cases h2
    exact h1
  · cases ht
    obtain ⟨h1, h2⟩ := hh
    cases h2
    exact h1
  · cases ht
noncomputable def cxW (a : AV) (dec : Nat → St → Option Bool) : Cx := ⟨Tryd.prog, ctrOf2 noP (tabW a), dec⟩
theorem cxW_ok (a : AV) (dec : Nat → St → Option Bool) : CtrOk (cxW a dec) := ctrOf2_ok noP_ok (tabW_ok a) dec
noncomputable def c6 : Code := codeOf Tryd.f6
noncomputable def res6 : St → Option AV := resF Tryd.prog Tryd.f6.results.toList
noncomputable def body6 : Code := cin (cin (cr (cl (behind 5 c6))))
noncomputable def a6 : Code := cl (cl (behind 5 c6))
noncomputable def tail6 : Code := cr (behind 5 c6)
theorem code6 : c6 = seqs (firsts 5 c6) (.seq (.seq a6 (.block 0 (.loop body6))) tail6) := by kernel_rfl
noncomputable def ds6a : List (Nat × Bool) := [(3, false), (4, false), (5, false), (6, false), (7, false), (8, false)]
noncomputable def ds6 : List (Nat × Bool) := [(3, false), (6, false), (9, true)]
noncomputable def bod6 (dec : List (Nat × Bool)) (s : St) : Tree Lf := (codeE (cxW nilR (decL dec)) (evs (cxW nilR (decL dec)) 60) body6 s).map (lfR 0 ds6 true res6)
end
end Go.Proofs.YtdlghljhgbakjaaDoor

/-
  PART: the law LexTells answers true.
-/
namespace Go.Proofs.YtdlghljhgbakjaaDoor
open Go.RowKit
noncomputable section
noncomputable def st6 (n : Nat) (Y : Nat → Pc) : St := mkS [(3, .sl n 5 (gY Y) false false), (6, .sl n 5 (gY Y) false false)] [] 0
noncomputable def inv6 (n : Nat) (Y : Nat → Pc) (i : Int) : St := mkS [(3, .sl n 5 (gY Y) false false), (6, .sl n 5 (gY Y) false false), (9, .v (.int .i64 i))] [] 0
noncomputable def cx6 (n : Nat) (Y : Nat → Pc) : Cx := cxW (okV n Y) (decL [(12,false),(40,false)])
noncomputable def F28 (s : ByteArray) (a : AV) : Prop := FrzOk Tryd.prog 28 [.v (.string s)] a
noncomputable def F29 (s : ByteArray) (a : AV) : Prop := FrzOk Tryd.prog 29 [.v (.string s)] a
noncomputable def F27 : Prop := FrzOk Tryd.prog 27 [] (.lit (.bool true))
noncomputable def ds6b : List (Nat × Bool) := [(3, false), (6, false)]
noncomputable def neP (p : Pc) : Bool := !(p.k == p.k && (B p.t == B p.t && (p.n == p.n && (p.ln == p.ln && p.cl == p.cl))))
noncomputable def in6 (n : Nat) (i : Int) : Prop := 0 ≤ i ∧ i < (n : Int)
section
variable (s : ByteArray) (n : Nat) (Y : Nat → Pc) (i e ln cc : Int)
theorem l6a : ((evs (cxW nilR (decL [(12,true)])) 60).call 6 [.v (.string s)] .nil).frz = .side (decide ((s.size : Int) > 5000) = true) (.side F27 (.ret (.lit (.bool true)))) := by kernel_rfl
theorem l6b : ((evs (cxW (badV e ln cc) (decL [(12,false),(40,false)])) 60).call 6 [.v (.string s)] .nil).frz = .side (decide ((s.size : Int) > 5000) = false) (.side (F28 s (badV e ln cc)) (.side (F29 s (badV e ln cc)) (.side ((if (!(ln == ln && cc == cc)) = true then true else e != e) = false) (.side F27 (.ret (.lit (.bool true))))))) := by kernel_rfl
theorem l6c : (codeE (cx6 n Y) (evs (cx6 n Y) 60) (joins (firsts 5 c6)) (entry [.v (.string s)])).map (lfR 0 ds6b true res6) = .side (decide ((s.size : Int) > 5000) = false) (.side (F28 s (okV n Y)) (.side (F29 s (okV n Y)) (.side ((if ((n : Int) != n) = true then true else if (!((0 : Int) == 0 && (0 : Int) == 0)) = true then true else (0 : Int) != 0) = false) (.ret (.go .norm (some (st6 n Y))))))) := by kernel_rfl
theorem l6d : bod6 [(44,true),(72,false)] (inv6 n Y i) = .side (decide (i < (n : Int)) = true) (.side (in6 n i) (.side (in6 n i) (.side (in6 n i) (.side (in6 n i) (.side (in6 n i) (.side (neP (Y i.toNat) = false) (.ret (.go .norm (some (inv6 n Y (wq (i + 1))))))))))) ) := by kernel_rfl
theorem l6e : bod6 [(44,false)] (inv6 n Y i) = .side (decide (i < (n : Int)) = false) (.ret (.go (.exit 0) (some (inv6 n Y i)))) := by kernel_rfl
theorem l6f : (codeE (cx6 n Y) (evs (cx6 n Y) 60) tail6 (inv6 n Y i)).map (lfR 0 [] false res6) = .side F27 (.ret (.out (.lit (.bool true)))) := by kernel_rfl
theorem l6g : (codeE (cx6 n Y) (evs (cx6 n Y) 60) a6 (st6 n Y)).map (lfR 0 ds6 true res6) = .ret (.go .norm (some (inv6 n Y 0))) := by kernel_rfl
end
theorem neP_false (p : Pc) : neP p = false := by
  have e : (B p.t == B p.t) = true := by show ((B p.t).data == (B p.t).data) = true; exact beq_self_eq_true _
  unfold neP
  rw [e]
  simp
theorem lexR_len : ∀ (f : Nat) (l : List UInt8) (ln cl : Int) (acc : List Pc), (match lexR f l ln cl acc with | .ok ps => ps.length ≤ acc.length + f | .bad _ _ _ => True)
  | 0, _, _, _, _ => trivial
  | f + 1, l, ln, cl, acc => by
    have a0 : ∀ l ln cl, (match lexR f l ln cl acc with | .ok ps => ps.length ≤ acc.length + (f + 1) | .bad _ _ _ => True) := fun l ln cl => by
      have := lexR_len f l ln cl acc
      split at this
      · omega
      · trivial
    have a1 : ∀ l ln cl p, (match lexR f l ln cl (acc ++ [p]) with | .ok ps => ps.length ≤ acc.length + (f + 1) | .bad _ _ _ => True) := fun l ln cl p => by
      have := lexR_len f l ln cl (acc ++ [p])
      split at this
      · rw [List.length_append, List.length_singleton] at this; omega
      · trivial
    rw [lexR_succ]
    by_cases h1 : l = []
    · rw [if_pos h1]; simp only [List.length_append, List.length_singleton]; omega
    rw [if_neg h1]
    by_cases h2 : ch l = 10
    · rw [if_pos h2]; exact a0 _ _ _
    rw [if_neg h2]
    by_cases h3 : ch l = 32 ∨ ch l = 9
    · rw [if_pos h3]; exact a0 _ _ _
    rw [if_neg h3]
    by_cases h4 : ch l = 35
    · rw [if_pos h4]; exact a0 _ _ _
    rw [if_neg h4]
    by_cases h5 : p62 (ch l) = true
    · rw [if_pos h5]
      cases numOf (l.take (runL p62 l)) with
      | some u => exact a1 _ _ _ _
      | none => trivial
    rw [if_neg h5]
    by_cases h6 : p64 (ch l) = true
    · rw [if_pos h6]; exact a1 _ _ _ _
    rw [if_neg h6]
    by_cases h7 : signL l = 0
    · rw [if_pos h7]; trivial
    rw [if_neg h7]; exact a1 _ _ _ _
theorem law6_frz (l : List UInt8) : FrzOk Tryd.prog 6 [.v (.string (B l))] (.lit (.bool true)) := by
  by_cases hl : l.length > 5000
  · exact frz_ev (cxW_ok _ _) fitTry (l6a (B l)) ⟨decide_eq_true (by rw [B_size]; omega), wakes27, fun _ _ h => h⟩
  have hs : decide (((B l).size : Int) > 5000) = false := decide_eq_false (by rw [B_size]; omega)
  have h28 := lex28 l
  have h29 := lex29 l
  cases hR : lexRes l with
  | bad e ln cc =>
    rw [hR] at h28 h29
    exact frz_ev (cxW_ok _ _) fitTry (l6b (B l) e ln cc) ⟨hs, h28, h29, by simp, wakes27, fun _ _ h => h⟩
  | ok ps =>
    rw [hR] at h28 h29
    have hlen : ps.length ≤ 5000 := by
      have := lexR_len (l.length + 1) l 1 1 []
      unfold lexRes at hR
      split at hR
      · cases hR
      · rw [hR] at this; simp only [List.length_nil] at this; omega
    let n := ps.length
    let Y := accY ps
    refine frz_iloop fitTry Tryd.func6 (c := c6) (by kernel_rfl) (by kernel_rfl) (O := fun a => ∀ E v, Rep E a v → Rep E (.lit (.bool true)) v) (cx := cx6 n Y) (cxW_ok _ _) rfl (n := 60) code6 (by kernel_rfl) (by kernel_rfl) (ds0 := ds6b) (gb0 := true) (s1 := st6 n Y) (ds := ds6) (gb := true)
      (fun k : Nat => inv6 n Y (k : Nat)) (fun k => k ≤ n) (fun k => n - k) (fun s => s = inv6 n Y (n : Nat)) ?_ ?_ (fun Bt hB hN k hk => ?_) (fun s hs => ?_) (fun a h => h)
    · show ((codeE (cx6 n Y) (evs (cx6 n Y) 60) (joins (firsts 5 c6)) (entry [.v (.string (B l))])).map (lfR 0 ds6b true res6)).wp _
      rw [l6c]; exact ⟨hs, h28, h29, by simp, rfl, rfl⟩
    · show ((codeE (cx6 n Y) (evs (cx6 n Y) 60) a6 (st6 n Y)).map (lfR 0 ds6 true res6)).wp _
      rw [l6g]; exact ⟨rfl, 0, fun _ _ => .refl _, Nat.zero_le _⟩
    · have hcode : codeOk Bt.N body6 = true := by rw [hN]; kernel_rfl
      by_cases hlt : k < n
      · refine wpc_endH (cx := cxW nilR (decL [(44,true),(72,false)])) (n := 60) (ds := ds6) (gb := true) (res := res6) (cxW_ok _ _) fitTry hcode ?_
        rw [hB]
        show (bod6 [(44,true),(72,false)] (inv6 n Y (k : Nat))).wp _
        have w1 : wq ((k : Int) + 1) = ((k + 1 : Nat) : Int) := wq_in (by omega) (by omega)
        rw [l6d, w1]
        have hin : in6 n (k : Nat) := ⟨by omega, by omega⟩
        exact ⟨decide_eq_true (by omega), hin, hin, hin, hin, hin, neP_false _, k + 1, .refl _, hlt, by show n - (k + 1) < n - k; omega⟩
      · refine wpc_endH (cx := cxW nilR (decL [(44,false)])) (n := 60) (ds := ds6) (gb := true) (res := res6) (cxW_ok _ _) fitTry hcode ?_
        rw [hB]
        show (bod6 [(44,false)] (inv6 n Y (k : Nat))).wp _
        rw [l6e]
        obtain rfl : k = n := by omega
        exact ⟨decide_eq_false (by omega), rfl, _, .refl _, rfl⟩
    · subst hs
      show ((codeE (cx6 n Y) (evs (cx6 n Y) 60) tail6 (inv6 n Y (n : Nat))).map (lfR 0 [] false res6)).wp _
      rw [l6f]; exact ⟨wakes27, fun _ _ h => h⟩
end
end Go.Proofs.YtdlghljhgbakjaaDoor

/-
  PART: what package-level variables hold, by the condition; the laws' cards' common part.
-/
namespace Go.Proofs.YtdlghljhgbakjaaDoor
open Go.ChangeShapes Go.WideShapes Go.ChangeAt Go.WideMaps Go.WideElems Go.RowKit
theorem own : ownKnob Tryd.prog.godebug = none := by kernel_rfl
theorem gMax : Tryd.prog.globalNamed "internal/bytealg.MaxLen" = some 5 := by kernel_rfl
theorem gErrR : Tryd.prog.globalNamed "strconv.ErrRange" = some 3 := by kernel_rfl
noncomputable def laidL : List (String × DataW Unit) := [("math/bits.deBruijn32tab", Rows.laid_math_bits_deBruijn32tab), ("math/bits.deBruijn64tab", Rows.laid_math_bits_deBruijn64tab), ("internal/strconv.uint64pow10", Rows.laid_internal_strconv_uint64pow10), ("strconv.ErrRange", Rows.laid_strconv_ErrRange), ("strconv.ErrSyntax", Rows.laid_strconv_ErrSyntax)]
section
variable {H : Type} {enc : TypeId × Value → H} {P : Program} {w : World} {base : Nat} {spare : Nat → Bool} {held : Bool}
theorem trod_ifc {t : TypeId} {ms} {fuel : Nat} {cs : List Value} {nm : String} {d : DataW H} {p : List MemPlace} (ht : P.underlying t = some (.interface ms)) (h : DataW.trod enc P w base spare held fuel t cs = some (.iface nm d, p)) : ∃ u v, cs = [.iface u v] := by
  cases fuel with
  | zero => simp [DataW.trod] at h
  | succ n =>
    unfold DataW.trod at h
    rw [ht] at h
    split at h <;> simp_all
theorem var_cells {name : String} {g : Nat} {cs : Array Value} (hg : P.globalNamed name = some g) (hv : w.var? P name = some cs) : ∃ ty fr, w.heap[g]? = some (.cells cs ty fr) := by
  unfold World.var? at hv
  rw [hg] at hv
  simp only [Option.bind_some] at hv
  split at hv
  · rename_i cs ty fr hq
    cases hv
    exact ⟨ty, fr, hq⟩
  · cases hv
end
theorem door_met (os : Os) (args : Array Value) : laidMetH Tryd.prog laidL ((World.doorLaid Tryd.prog 400 os).forCall (fun _ _ => 0) ⟨#[], args, []⟩).memory :=
  laidMetH_of_parts3 (fuel := 8) (laidMet_of_run' 8 (by kernel_rfl) (by kernel_rfl)) (by kernel_rfl) (by kernel_rfl)
theorem max_row : ((begin Tryd.prog (fun _ _ => 0) default).world.heap[5]?).bind Obj.row? = some (#[.int .i64 0], 3) := by kernel_rfl
theorem globL {W : World} (h : laidMetH Tryd.prog laidL W) (hs : W.ShapedOpen Tryd.prog) : GlobW W := by
  have hm : ∃ z, cellsAt W 5 = some #[.int .i64 z] := by
    obtain ⟨cs, hh, hsz, _⟩ := hs.1 5 _ _ (of_decide_eq_true (by kernel_rfl)) max_row
    obtain ⟨z, hz⟩ := Go.Proofs.cell_of_shapedOpen_int (k := .i64) hs (of_decide_eq_true (by kernel_rfl)) max_row rfl (by kernel_rfl) (by kernel_rfl) (by kernel_rfl)
    have hsz : cs.size = 1 := hsz
    have h1 : 0 < cs.size := by omega
    have hc : W.cell? ⟨5, 0, none⟩ = some cs[0] := by simp [World.cell?, hh, h1]
    rw [hc] at hz
    refine ⟨z, ?_⟩
    unfold cellsAt
    rw [hh]
    show some cs = _
    congr 1
    apply Array.ext
    · exact hsz
    · intro i hi hi'
      obtain rfl : i = 0 := by simp at hi'; omega
      exact Option.some.inj hz
  rw [MakeChecks.laidMetH_plain _ _ _ (by kernel_rfl)] at h
  obtain ⟨ps, ⟨_, _, _, _, _, _, _, _, _, _, ⟨_, _, _, _, _, _, _, _, _, _, ⟨_, _, _, _, _, _, _, _, _, _, ⟨g0, t0, cs0, f0, p0, q0, hg0, ht0, hv0, hd0, _, _⟩, _⟩, _⟩, _⟩, _⟩ := h
  obtain rfl := Option.some.inj (gErrR.symm.trans hg0)
  have he : ∃ t p, cellsAt W 3 = some #[.iface t p] := by
    obtain ⟨ty, fr, hc⟩ := var_cells gErrR hv0
    obtain ⟨ms, hms⟩ : ∃ ms, Tryd.prog.underlying t0 = some (.interface ms) := by
      obtain rfl := Option.some.inj ((show (Tryd.prog.globals[3]?).map (·.type) = some 101 by kernel_rfl).symm.trans ht0)
      exact ⟨_, Tryd.underlying101⟩
    obtain ⟨u, v, hcs⟩ := trod_ifc hms hd0
    refine ⟨u, v, ?_⟩
    unfold cellsAt
    rw [hc]
    show some cs0 = _
    exact congrArg some (Array.ext' hcs)
  intro g
  refine ⟨fun c hc => (by cases hc), fun k hk => ?_⟩
  unfold GK at hk
  split at hk
  · rename_i hb
    obtain rfl := Nat.eq_of_beq_eq_true hb
    cases hk
    obtain ⟨z, hz⟩ := hm
    exact ⟨_, hz, z, rfl⟩
  · split at hk
    · rename_i hb
      obtain rfl := Nat.eq_of_beq_eq_true hb
      cases hk
      obtain ⟨t, p, hz⟩ := he
      exact ⟨_, hz, t, p, rfl⟩
    · cases hk
end Go.Proofs.YtdlghljhgbakjaaDoor

/-
  PART: the law LexTells: from any text.
-/
namespace Go.Proofs.YtdlghljhgbakjaaDoor
open Go.RowKit
theorem runs_of_frz {P : Program} {f : Nat} {fn : Func} {c : Code} (hfit : Fit P) (hfn : P.funcs[f]? = some fn) (hb : fn.body = some c) {ks : List (Bool × List Ck)} (h : ∀ al, ArgsOk ks al → ∃ args, (∀ E vs, Reps E al vs → Reps E args vs) ∧ FrzOk P f args (.lit (.bool true))) : LawRuns P f ks := by
  intro w hg vals al hok hargs
  obtain ⟨args, hA, hF⟩ := h al hok
  rcases hF none (frozenE w hg) w vals (fun v w' => v = .bool true ∧ Quiet w w') (fun _ h => h) (frozenE_ok w hg) (hA _ _ hargs) (fun v w' E' _ _ _ _ hr hq => ⟨by cases hr; rfl, hq⟩) with ⟨u, h1, _⟩ | ⟨_, h2⟩
  · have hname' : ¬ fn.name = "runtime.NumGoroutine" := by simpa using (fit_func hfit hfn hb).2
    have e : Sem.run P (callFunc f vals) w = .ok (.enter f vals) w := by simp [callFunc, hfn, hname', hb]
    rw [e] at h1
    cases h1
  · exact h2
noncomputable section
noncomputable def ks6 : List (Bool × List Ck) := [(false, [.str])]
theorem args_6 {al : List AV} (h : ArgsOk ks6 al) : ∃ l : List UInt8, ∀ E vs, Reps E al vs → Reps E [.v (.string (B l))] vs := by
  unfold ks6 at h
  cases h with | cons h0 t => cases t with | nil =>
  cases h0 with | cons h0 t0 => cases t0 with | nil =>
  cases h0 with
  | str s hs => exact ⟨s.data.toList, fun E vs hv => hv⟩
theorem argsSh6 : argShs Tryd.prog 6 Tryd.f6.params.toList = some ks6 := by kernel_rfl
theorem law6_runs : LawRuns Tryd.prog 6 ks6 := runs_of_frz fitTry Tryd.func6 (c := c6) (by kernel_rfl) fun al hok => by
  obtain ⟨l, hA⟩ := args_6 hok
  exact ⟨_, hA, law6_frz l⟩
end
end Go.Proofs.YtdlghljhgbakjaaDoor
