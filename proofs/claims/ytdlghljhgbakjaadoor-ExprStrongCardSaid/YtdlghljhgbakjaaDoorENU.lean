/-
  PART: arguments: what an argument reads as tells its shape: numbers, bools, strings, rows of these.
-/
import Derived.Test.YtdlghljhgbakjaaDoorENT
import Derived.OpenShut
import Derived.DataReads
namespace Go.Proofs.YtdlghljhgbakjaaDoor
open Go.RowKit

/-- Kinds of cells. -/
inductive Ck where
  | int (k : IntKind)
  | bool
  | str
  | flt (k : FloatKind)
  | row (ks : List Ck)
mutual
inductive Shp : Ck → AV → Prop
  | int (k : IntKind) (z : Int) (h : (Lit.int k z).wf = true) : Shp (.int k) (.v (.int k z))
  | bool (b : Bool) : Shp .bool (.v (.bool b))
  | str (s : ByteArray) (h : s.size ≤ maxLen) : Shp .str (.v (.string s))
  | flt (k : FloatKind) (x : Nat) (v : Value) (h : one1 v = true) : Shp (.flt k) (.v v)
  | row (ks : List Ck) (n : Nat) (get : Nat → List AV) (hn : n ≤ maxLen) (h : ∀ i, i < n → Shps ks (get i)) : Shp (.row ks) (.sl n ks.length get false false)
inductive Shps : List Ck → List AV → Prop
  | nil : Shps [] []
  | cons {k : Ck} {a : AV} {ks : List Ck} {l : List AV} (h : Shp k a) (t : Shps ks l) : Shps (k :: ks) (a :: l)
end
def shFs (sh : TypeId → Option (List Ck)) (P : Program) : Nat → List Field → Option (List Ck)
  | _, [] => some []
  | off, f :: fs => match sh f.type with
    | some ks => match Nat.beq f.offset off && Nat.beq ks.length (P.cellsOf f.type) with
      | true => match shFs sh P (off + ks.length) fs with
        | some r => some (ks ++ r)
        | none => none
      | false => none
    | none => none
def repK : Nat → List Ck → List Ck
  | 0, _ => []
  | m + 1, ks => ks ++ repK m ks
/-- The cells of a type. -/
def shT (P : Program) : Nat → TypeId → Option (List Ck)
  | 0, _ => none
  | n + 1, t => match P.underlying t with
    | some .bool => some [.bool]
    | some (.int k) => some [.int k]
    | some .string => some [.str]
    | some (.slice e) => match shT P n e with
      | some ks => match Nat.beq ks.length (P.cellsOf e) && Nat.blt 0 ks.length with
        | true => some [.row ks]
        | false => none
      | none => none
    | some (.array m e) => match shT P n e with
      | some ks => match Nat.beq ks.length (P.cellsOf e) && Nat.beq (repK m ks).length (P.cellsOf t) with
        | true => some (repK m ks)
        | false => none
      | none => none
    | some (.struct fs) => match shFs (shT P n) P 0 fs.toList with
      | some ks => match Nat.beq ks.length (P.cellsOf t) with
        | true => some ks
        | false => none
      | none => none
    | _ => none
section
variable {H : Type} {enc : TypeId × Value → H} {P : Program} {w : World} {base : Nat} {spare : Nat → Bool} {held : Bool} {E : Env}
theorem Shps.app {ks ks' : List Ck} {l l' : List AV} (h : Shps ks l) (h' : Shps ks' l') : Shps (ks ++ ks') (l ++ l') := by
  induction ks generalizing l with
  | nil => cases h; exact h'
  | cons k ks ih => cases h with
    | cons h t => exact .cons h (ih t)
theorem Shps.len {ks : List Ck} {l : List AV} (h : Shps ks l) : l.length = ks.length := by
  induction ks generalizing l with
  | nil => cases h; rfl
  | cons k ks ih => cases h with
    | cons h t => simp [ih t]
/-- Some cells, told. -/
def Told (E : Env) (ks : List Ck) (cs : List Value) : Prop := ∃ l, Reps E l cs ∧ Shps ks l ∧ One cs
theorem Told.app {ks ks' : List Ck} {cs cs' : List Value} (h : Told E ks cs) (h' : Told E ks' cs') : Told E (ks ++ ks') (cs ++ cs') :=
  let ⟨l, a, b, c⟩ := h
  let ⟨l', a', b', c'⟩ := h'
  ⟨l ++ l', a.app a', b.app b', c.app c'⟩
theorem Told.len {ks : List Ck} {cs : List Value} (h : Told E ks cs) : cs.length = ks.length :=
  let ⟨_, a, b, _⟩ := h
  a.len.symm.trans b.len
theorem told_fs {sh : TypeId → Option (List Ck)} {cs : List Value} : ∀ {fs : List Field} {off : Nat} {ks : List Ck}, shFs sh P off fs = some ks →
    (∀ f, f ∈ fs → ∀ ks, sh f.type = some ks → Told E ks ((cs.drop f.offset).take (P.cellsOf f.type))) → Told E ks ((cs.drop off).take ks.length)
  | [], off, ks, h, _ => by cases h; exact ⟨[], by simpa using Reps.nil, .nil, fun v hv => by simp at hv⟩
  | f :: fs, off, ks, h, hf => by
    unfold shFs at h
    split at h
    · rename_i k1 hk1
      split at h
      · rename_i hb
        simp only [Bool.and_eq_true] at hb
        have e1 := Nat.eq_of_beq_eq_true hb.1
        have e2 := Nat.eq_of_beq_eq_true hb.2
        split at h
        · rename_i r hr
          cases h
          have h1 := hf f (List.mem_cons_self ..) k1 hk1
          have h2 := told_fs hr fun g hg => hf g (List.mem_cons_of_mem _ hg)
          rw [e1, ← e2] at h1
          rw [List.length_append, List.take_add, List.drop_drop]
          exact h1.app h2
        · cases h
      · cases h
    · cases h
theorem told_rep {cs : List Value} {ks : List Ck} : ∀ (m off : Nat), (∀ i, i < m → Told E ks ((cs.drop (off + i * ks.length)).take ks.length)) → Told E (repK m ks) ((cs.drop off).take (repK m ks).length)
  | 0, off, _ => ⟨[], by simpa [repK] using Reps.nil, .nil, fun v hv => by simp [repK] at hv⟩
  | m + 1, off, h => by
    have h1 := h 0 (Nat.succ_pos m)
    rw [Nat.zero_mul, Nat.add_zero] at h1
    have h2 := told_rep m (off + ks.length) fun i hi => by
      have := h (i + 1) (by omega)
      rwa [Nat.add_mul, Nat.one_mul, Nat.add_comm (i * ks.length), ← Nat.add_assoc] at this
    unfold repK
    rw [List.length_append, List.take_add, List.drop_drop]
    exact h1.app h2
/-- The row of cells at an address. -/
theorem cells_at {a : Addr} {n : Nat} {cs : List Value} (h : w.cells? base a n = some cs) (hn : 0 < n) : a.spot = none ∧ ∃ c ty fr, w.heap[a.block]? = some (.cells c ty fr) ∧ a.off + n ≤ c.size ∧ (c.toList.drop a.off).take n = cs := by
  obtain ⟨_, hl, hc⟩ := World.cells?_some h
  have get : ∀ i, i < n → ∃ v, w.cell? (a.add i) = some v ∧ cs[i]? = some v := fun i hi => by
    have h1 := hc i hi
    rw [List.getElem?_eq_getElem (show i < cs.length by omega)] at h1
    exact ⟨_, h1, List.getElem?_eq_getElem (by omega)⟩
  obtain ⟨v0, h0, _⟩ := get 0 hn
  have ha0 : a.add 0 = a := by simp [Addr.add]
  rw [ha0] at h0
  unfold World.cell? at h0
  split at h0
  · rename_i c ty fr hb
    split at h0
    · cases h0
    · rename_i hs
      have hs' : a.spot = none := by
        cases hq : a.spot with
        | none => rfl
        | some x => rw [hq] at hs; simp at hs
      have cell : ∀ i, w.cell? (a.add i) = c[a.off + i]? := fun i => by
        unfold Addr.add World.cell?
        by_cases hi : i = 0
        · subst hi; simp [hb, hs']
        · simp [hi, hb]
      have hle : a.off + n ≤ c.size := by
        obtain ⟨v, h1, _⟩ := get (n - 1) (by omega)
        rw [cell] at h1
        have := (Array.getElem?_eq_some_iff.1 h1).1
        omega
      refine ⟨hs', c, ty, fr, hb, hle, ?_⟩
      apply List.ext_getElem?
      intro i
      rw [List.getElem?_take]
      split
      · rename_i hi
        obtain ⟨v, h1, h2⟩ := get i hi
        rw [cell] at h1
        rw [List.getElem?_drop, Array.getElem?_toList, h1, h2]
      · rw [List.getElem?_eq_none (by omega)]
  · cases h0
theorem one_append {cs : List Value} {k : Nat} : ∀ (n off : Nat), (∀ i, i < n → One ((cs.drop (off + i * k)).take k)) → One ((cs.drop off).take (n * k))
  | 0, off, _ => by rw [Nat.zero_mul, List.take_zero]; exact fun v hv => by cases hv
  | n + 1, off, h => by
    have h1 := h 0 (Nat.succ_pos n)
    rw [Nat.zero_mul, Nat.add_zero] at h1
    have h2 := one_append n (off + k) fun i hi => by
      have := h (i + 1) (by omega)
      rwa [Nat.add_mul, Nat.one_mul, Nat.add_comm (i * k), ← Nat.add_assoc] at this
    rw [Nat.add_mul, Nat.one_mul, Nat.add_comm (n * k), List.take_add, List.drop_drop]
    exact h1.app h2
theorem told : ∀ (n : Nat) (t : TypeId) (ks : List Ck), shT P n t = some ks → (∀ b c ty fr, w.heap[b]? = some (.cells c ty fr) → E.fz b = some c) →
    ∀ (fuel : Nat) (cs : List Value) (x : DataW H × List MemPlace), DataW.trod enc P w base spare held fuel t cs = some x → Told E ks cs
  | 0, t, ks, h, _, fuel, cs, x, hx => by cases h
  | n + 1, t, ks, h, hfz, fuel, cs, x, hx => by
    unfold shT at h
    split at h
    · rename_i ht; cases h
      obtain ⟨b, rfl, _⟩ := DataW.trod_bool ht hx
      exact ⟨[.v (.bool b)], .cons (.v _ rfl) .nil, .cons (.bool b) .nil, one_single rfl⟩
    · rename_i k ht; cases h
      obtain ⟨z, rfl, _, hw⟩ := DataW.trod_int ht hx
      exact ⟨[.v (.int k z)], .cons (.v _ rfl) .nil, .cons (.int k z hw) .nil, one_single rfl⟩
    · rename_i ht; cases h
      obtain ⟨s, rfl, _, hs⟩ := DataW.trod_string ht hx
      exact ⟨[.v (.string s)], .cons (.v _ rfl) .nil, .cons (.str s hs) .nil, one_single rfl⟩
    · rename_i e ht
      split at h
      · rename_i ks1 hks
        split at h
        · rename_i hb
          cases h
          simp only [Bool.and_eq_true] at hb
          have e1 := Nat.eq_of_beq_eq_true hb.1
          have e2 : 0 < ks1.length := by simpa [Nat.blt_eq] using hb.2
          rcases DataW.trod_slice ht hx with ⟨rfl, _⟩ | ⟨a, len, cap, elems, rest, m, _, rfl, _, hbase, hl, hm, hlen, hel, _⟩
          · exact ⟨[.sl 0 ks1.length (fun _ => []) false false], .cons (.slNil rfl) .nil, .cons (.row ks1 0 _ (Nat.zero_le _) fun i hi => absurd hi (Nat.not_lt_zero i)) .nil, one_single rfl⟩
          · rw [← e1] at hel
            have each : ∀ i, i < len → ∃ cs', w.cells? base (a.add (i * ks1.length)) ks1.length = some cs' ∧ Told E ks1 cs' := fun i hi => by
              have h1 := hel i hi
              rw [List.getElem?_eq_getElem (show i < elems.length by omega), Option.bind_eq_some_iff] at h1
              obtain ⟨cs', h2, h3⟩ := h1
              exact ⟨cs', h2, told n e ks1 hks hfz m cs' _ h3⟩
            by_cases h0 : len = 0
            · exact ⟨[.sl len ks1.length (fun _ => []) false false], .cons (.slEmp h0 fun h => by cases h) .nil, .cons (.row ks1 len _ (by omega) fun i hi => absurd hi (by omega)) .nil, one_single rfl⟩
            · obtain ⟨cs0, hc0, _⟩ := each 0 (by omega)
              rw [Nat.zero_mul, show a.add 0 = a by simp [Addr.add]] at hc0
              obtain ⟨hspot, c, ty, fr, hblk, _, _⟩ := cells_at hc0 e2
              have at' : ∀ i, i < len → a.off + i * ks1.length + ks1.length ≤ c.size ∧ Told E ks1 ((c.toList.drop (a.off + i * ks1.length)).take ks1.length) := fun i hi => by
                obtain ⟨cs', h1, h2⟩ := each i hi
                obtain ⟨_, c', ty', fr', hb', hle, hcs⟩ := cells_at h1 e2
                have hadd : (a.add (i * ks1.length)).block = a.block ∧ (a.add (i * ks1.length)).off = a.off + i * ks1.length := by
                  unfold Addr.add; split <;> simp_all
                rw [hadd.1, hblk] at hb'
                cases hb'
                rw [hadd.2] at hle hcs
                exact ⟨hle, by rw [hcs]; exact h2⟩
              have hsz : a.off + len * ks1.length ≤ c.size := by
                have h1 := (at' (len - 1) (by omega)).1
                have : (len - 1) * ks1.length + ks1.length = len * ks1.length := by
                  rw [← Nat.succ_mul]; congr 1; omega
                omega
              let get : Nat → List AV := fun i => if hi : i < len then Classical.choose (at' i hi).2 else []
              have hget : ∀ i (hi : i < len), Reps E (get i) ((c.toList.drop (a.off + i * ks1.length)).take ks1.length) ∧ Shps ks1 (get i) ∧ One ((c.toList.drop (a.off + i * ks1.length)).take ks1.length) := fun i hi => by
                have := Classical.choose_spec (at' i hi).2
                show Reps E (if hi : i < len then Classical.choose (at' i hi).2 else []) _ ∧ Shps ks1 (if hi : i < len then Classical.choose (at' i hi).2 else []) ∧ _
                rw [dif_pos hi]; exact this
              have ha : a = ⟨a.block, a.off, none⟩ := by cases a; simp_all
              refine ⟨[.sl len ks1.length get false false], .cons ?_ .nil, .cons (.row ks1 len get (by omega) fun i hi => (hget i hi).2.1) .nil, one_single rfl⟩
              rw [ha]
              exact .sl (hfz _ _ _ _ hblk) hsz (fun h => by cases h) hl (fun i hi => (hget i hi).1) (one_append len a.off fun i hi => (hget i hi).2.2)
        · cases h
      · cases h
    · rename_i m e ht
      split at h
      · rename_i ks1 hks
        split at h
        · rename_i hb
          cases h
          simp only [Bool.and_eq_true] at hb
          have e1 := Nat.eq_of_beq_eq_true hb.1
          have e2 := Nat.eq_of_beq_eq_true hb.2
          obtain ⟨xs, m', _, _, hl, hlen, hf⟩ := DataW.trod_array ht hx
          rw [← e1] at hf
          have := told_rep (E := E) (cs := cs) (ks := ks1) m 0 fun i hi => by
            have h1 := hf i hi
            rw [List.getElem?_eq_getElem (show i < xs.length by omega)] at h1
            rw [Nat.zero_add]
            exact told n e ks1 hks hfz m' _ _ h1
          rwa [List.drop_zero, List.take_of_length_le (by omega)] at this
        · cases h
      · cases h
    · rename_i fs ht
      split at h
      · rename_i ks1 hks
        split at h
        · rename_i hb
          cases h
          have e2 := Nat.eq_of_beq_eq_true hb
          obtain ⟨xs, m', _, _, hl, hlen, hf⟩ := DataW.trod_struct ht hx
          have := told_fs (E := E) (cs := cs) hks fun f hfm ks hk => by
            obtain ⟨i, hi⟩ := List.getElem?_of_mem hfm
            have hi' : fs[i]? = some f := by simpa using hi
            have hlt := (Array.getElem?_eq_some_iff.1 hi').1
            have h1 := hf i f hi'
            rw [List.getElem?_eq_getElem (show i < xs.length by omega)] at h1
            exact told n f.type ks hk hfz m' _ _ h1
          rwa [List.drop_zero, List.take_of_length_le (by omega)] at this
        · cases h
      · cases h
    · cases h
end
end Go.Proofs.YtdlghljhgbakjaaDoor
