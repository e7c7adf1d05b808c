/-
  PART: '==' on the structs and arrays of ints of the program (types 22, 24).
-/
import Derived.Test.YtkmhabbpndcnkaaProg
import Derived.Test.YtkmhabbpndcnkaaK0
import Derived.ChangeKeysEq
namespace Go.Proofs.Ytkmhabbpndcnkaa
open Go.RowKit

/-- Two lists of numbers, place by place. -/
def eqL : List Int → List Int → Bool
  | a :: l, b :: m => (a == b) && eqL l m
  | _, _ => true
def ints (l : List Int) : Array Value := (l.map (Value.int .i64)).toArray
theorem info3 : (Try.prog.info? 3).isSome = true := by kernel_rfl
theorem cells3 : Try.prog.cellsOf 3 = 1 := by kernel_rfl
theorem part_int (l : List Int) (i : Nat) (x : Int) (h : l[i]? = some x) (w : World) : (part 3 (ints l) i).run Try.prog w = .ok (.int .i64 x) w :=
  run_part_plain w (by kernel_rfl) (by unfold ints; simp [h])
theorem eqInt (d : Nat) (a b : Int) (w : World) : (Op.equalIn (d + 1) 3 (.int .i64 a) (.int .i64 b)).run Try.prog w = .ok (a == b) w := run_equalIn_int w d 3 .i64 .i64 a b Try.underlying3
/-- Rows of ints, from a place on. -/
theorem eqItems_ints (d : Nat) (l m : List Int) (w : World) : ∀ (n i : Nat), l.length = i + n → m.length = i + n →
    (Op.eqItems (d + 1) 3 1 (ints l) (ints m) (List.range' i n)).run Try.prog w = .ok (eqL (l.drop i) (m.drop i)) w := by
  intro n
  induction n with
  | zero =>
    intro i h1 h2
    rw [List.drop_eq_nil_of_le (by omega)]
    rfl
  | succ n ih =>
    intro i h1 h2
    have hl : i < l.length := by omega
    have hm : i < m.length := by omega
    have e1 := part_int l i l[i] (List.getElem?_eq_getElem hl) w
    have e2 := part_int m i m[i] (List.getElem?_eq_getElem hm) w
    rw [List.range'_succ]
    simp only [Op.eqItems, Sem.run_bind, Nat.mul_one, e1, e2, Result.andThen_ok, eqInt]
    rw [List.drop_eq_getElem_cons hl, List.drop_eq_getElem_cons hm]
    cases h : (l[i] == m[i])
    · simp [eqL, h]
    · simp only [Bool.not_true, Bool.false_eq_true, if_false, eqL, h, Bool.true_and]
      exact ih (i + 1) (by omega) (by omega)
theorem eq22 (d : Nat) (l m : List Int) (hl : l.length = 4) (hm : m.length = 4) (w : World) :
    (Op.equalIn (d + 2) 22 (.agg (ints l)) (.agg (ints m))).run Try.prog w = .ok (eqL l m) w := by
  obtain ⟨i, hi⟩ := Option.isSome_iff_exists.1 info3
  rw [run_equalIn_array w (d + 1) (ints l) (ints m) Try.underlying22 hi, cells3, List.range_eq_range']
  have := eqItems_ints d l m w 4 0 (by omega) (by omega)
  simpa using this
theorem eqL_append (a b c d : List Int) (h : a.length = c.length) : eqL (a ++ b) (c ++ d) = (eqL a c && eqL b d) := by
  induction a generalizing c with
  | nil => cases c with
    | nil => simp [eqL]
    | cons => simp at h
  | cons x a ih => cases c with
    | nil => simp at h
    | cons y c => simp only [List.cons_append, eqL, ih c (by simpa using h), Bool.and_assoc]
theorem part_agg {t : TypeId} {i : TypeInfo} {dsc : TypeDesc} (hu : Try.prog.underlying t = some dsc) (hd : (match dsc with | .struct _ | .array _ _ => true | _ => false) = true) (hi : Try.prog.info? t = some i)
    (xs : Array Value) (off : Nat) (w : World) : (part t xs off).run Try.prog w = .ok (.agg (xs.extract off (off + Try.prog.cellsOf t))) w := by
  have hagg : (isAgg t).run Try.prog w = .ok true w := by
    unfold isAgg
    rw [Sem.run_bind, run_underlying hu w]
    cases dsc <;> simp_all
  unfold part
  rw [Sem.run_bind, hagg]
  simp only [Result.andThen_ok, if_true, Sem.run_bind, run_sizeOf w hi, Sem.run_pure]
theorem ints_extract (l : List Int) (i j : Nat) : (ints l).extract i j = ints ((l.take j).drop i) := by
  unfold ints
  simp [List.extract_toArray, List.map_drop, List.map_take, List.drop_take]
theorem cells22 : Try.prog.cellsOf 22 = 4 := by kernel_rfl
theorem info22 : (Try.prog.info? 22).isSome = true := by kernel_rfl
theorem fields24 : (Try.prog.fieldsOf 24).toList.map (fun f => (f.name == "_", f.type, f.offset)) = [(false, 22, 0), (false, 22, 4)] := by kernel_rfl
theorem stood24 : Try.prog.stoodInHeld 24 = false := by kernel_rfl
theorem struct24 : Try.prog.underlying 24 = some (.struct (Try.prog.fieldsOf 24)) := by kernel_rfl
theorem eqFields_cons (d : Nat) (xs ys : Array Value) (f : Field) (fs : List Field) (hn : (f.name == "_") = false) (a b : Value) (r : Bool) (w : World)
    (ha : (part f.type xs f.offset).run Try.prog w = .ok a w) (hb : (part f.type ys f.offset).run Try.prog w = .ok b w) (hr : (Op.equalIn d f.type a b).run Try.prog w = .ok r w)
    (s : Bool) (hs : (Op.eqFields d xs ys fs).run Try.prog w = .ok s w) : (Op.eqFields d xs ys (f :: fs)).run Try.prog w = .ok (r && s) w := by
  have hn' : f.name ≠ "_" := by simpa using hn
  simp only [Op.eqFields, if_pos hn', Sem.run_bind, ha, hb, hr, Result.andThen_ok]
  cases r
  · simp
  · simpa using hs
theorem eq24 (d : Nat) (l m : List Int) (hl : l.length = 8) (hm : m.length = 8) (w : World) :
    (Op.equalIn (d + 3) 24 (.agg (ints l)) (.agg (ints m))).run Try.prog w = .ok (eqL l m) w := by
  obtain ⟨i, hi⟩ := Option.isSome_iff_exists.1 info22
  rw [run_equalIn_struct w (d + 2) 24 _ _ struct24 stood24]
  have hf := fields24
  generalize (Try.prog.fieldsOf 24).toList = L at hf ⊢
  have hL : L.length = 2 := by have := congrArg List.length hf; simpa using this
  match L, hL, hf with
  | [f, g], _, hf =>
    simp only [List.map_cons, List.map_nil, List.cons.injEq, Prod.mk.injEq, and_true] at hf
    obtain ⟨⟨f1, f2, f3⟩, g1, g2, g3⟩ := hf
    have pa : ∀ (xs : Array Value) (off : Nat), (part 22 xs off).run Try.prog w = .ok (.agg (xs.extract off (off + 4))) w := fun xs off => by
      rw [part_agg Try.underlying22 rfl hi, cells22]
    have ex0 : ∀ l : List Int, l.length = 8 → (ints l).extract 0 (0 + 4) = ints (l.take 4) := fun l _ => by rw [ints_extract]; simp
    have ex4 : ∀ l : List Int, l.length = 8 → (ints l).extract 4 (4 + 4) = ints (l.drop 4) := fun l h => by rw [ints_extract, List.take_of_length_le (by omega)]
    rw [eqFields_cons (d + 2) (ints l) (ints m) f [g] f1 _ _ (eqL (l.take 4) (m.take 4)) w (by rw [f2, f3]; exact pa _ _) (by rw [f2, f3]; exact pa _ _)
      (by rw [f2, ex0 l hl, ex0 m hm]; exact eq22 d _ _ (by simp; omega) (by simp; omega) w) (eqL (l.drop 4) (m.drop 4) && true)
      (eqFields_cons (d + 2) (ints l) (ints m) g [] g1 _ _ _ w (by rw [g2, g3]; exact pa _ _) (by rw [g2, g3]; exact pa _ _)
        (by rw [g2, ex4 l hl, ex4 m hm]; exact eq22 d _ _ (by simp; omega) (by simp; omega) w) true rfl)]
    rw [Bool.and_true, ← eqL_append _ _ _ _ (by simp; omega), List.take_append_drop, List.take_append_drop]
theorem run_eq24 (l m : List Int) (hl : l.length = 8) (hm : m.length = 8) (w : World) : (binOp .eql 24 (.agg (ints l)) (.agg (ints m))).run Try.prog w = .ok (.bool (eqL l m)) w := by
  rw [run_eql_struct, eq24 9997 l m hl hm]; rfl
theorem run_ne24 (l m : List Int) (hl : l.length = 8) (hm : m.length = 8) (w : World) : (binOp .neq 24 (.agg (ints l)) (.agg (ints m))).run Try.prog w = .ok (.bool (!eqL l m)) w := by
  rw [run_neq_struct, eq24 9997 l m hl hm]; rfl
theorem run_eq22 (l m : List Int) (hl : l.length = 4) (hm : m.length = 4) (w : World) : (binOp .eql 22 (.agg (ints l)) (.agg (ints m))).run Try.prog w = .ok (.bool (eqL l m)) w := by
  rw [run_eql_struct, eq22 9998 l m hl hm]; rfl
end Go.Proofs.Ytkmhabbpndcnkaa
