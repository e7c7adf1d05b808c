/-
  PART of the proofs of this seat's laws: an argument of a type without pointers reads the same behind the call; its cells are numbers.
-/
import Derived.Test.YtkmhabbpndcnkaaK2
import Derived.ProofKit
import Derived.OpenShut
import Derived.DataShut
namespace Go.Proofs.Ytkmhabbpndcnkaa
open Go.ChangeShapes Go.WideShapes Go.RowKit

/-- A type of numbers, bools, strings, and structs and arrays of these. -/
def plainT (P : Program) : Nat → TypeId → Bool
  | 0, _ => false
  | n + 1, t => match P.underlying t with
    | some .bool => true
    | some (.int _) => true
    | some (.float _) => true
    | some .string => true
    | some (.struct fs) => fs.toList.all fun f => plainT P n f.type
    | some (.array _ e) => plainT P n e
    | _ => false
/-- The integer kind of cell i of a type. -/
def leafAt (P : Program) : Nat → TypeId → Nat → Option IntKind
  | 0, _, _ => none
  | n + 1, t, i => match P.underlying t with
    | some (.int k) => if i = 0 then some k else none
    | some (.struct fs) => fs.toList.findSome? fun f => if f.offset ≤ i ∧ i < f.offset + P.cellsOf f.type then leafAt P n f.type (i - f.offset) else none
    | some (.array m e) => if i / P.cellsOf e < m then leafAt P n e (i % P.cellsOf e) else none
    | _ => none

section
variable {H : Type} {enc : TypeId × Value → H} {P : Program} {w : World} {base : Nat} {spare : Nat → Bool} {held : Bool}

theorem trod_array_mk {n m : Nat} {e t : TypeId} {cs : List Value} {xs : List (DataW H × List MemPlace)} (ht : P.underlying t = some (.array m e)) (hl : cs.length = P.cellsOf t)
    (hp : (List.range m).mapM (fun i => DataW.trod enc P w base spare held n e ((cs.drop (i * P.cellsOf e)).take (P.cellsOf e))) = some xs) :
    DataW.trod enc P w base spare held (n + 1) t cs = some (.agg (xs.map (·.1)), xs.flatMap (·.2)) := by
  unfold DataW.trod
  rw [ht]
  split <;> simp_all

theorem trod_plain : ∀ (n : Nat) (t : TypeId), plainT P n t = true → ∀ (fuel : Nat) (cs : List Value) (x : DataW H × List MemPlace), DataW.trod enc P w base spare held fuel t cs = some x →
    x.2 = [] ∧ ∀ (w' : World) (b' : Nat) (sp' : Nat → Bool) (hd' : Bool), DataW.trod enc P w' b' sp' hd' fuel t cs = some x
  | 0, _, h => by simp [plainT] at h
  | n + 1, t, h => by
    intro fuel cs x hx
    unfold plainT at h
    split at h
    · rename_i ht
      cases fuel with
      | zero => simp [DataW.trod] at hx
      | succ fuel =>
        unfold DataW.trod at hx ⊢
        simp only [ht] at hx ⊢
        split at hx <;> simp_all
        subst hx; simp_all
    · rename_i ht
      cases fuel with
      | zero => simp [DataW.trod] at hx
      | succ fuel =>
        unfold DataW.trod at hx ⊢
        simp only [ht] at hx ⊢
        split at hx <;> simp_all
        obtain ⟨_, hx⟩ := hx
        subst hx; simp_all
    · rename_i ht
      cases fuel with
      | zero => simp [DataW.trod] at hx
      | succ fuel =>
        unfold DataW.trod at hx ⊢
        simp only [ht] at hx ⊢
        split at hx <;> simp_all
        obtain ⟨_, hx⟩ := hx
        subst hx; simp_all
    · rename_i ht
      cases fuel with
      | zero => simp [DataW.trod] at hx
      | succ fuel =>
        unfold DataW.trod at hx ⊢
        simp only [ht] at hx ⊢
        split at hx <;> simp_all
        obtain ⟨_, hx⟩ := hx
        subst hx; simp_all
    · rename_i fs ht
      obtain ⟨xs, m, rfl, rfl, hl, hlen, hf⟩ := DataW.trod_struct ht hx
      have hall : ∀ (i : Nat) (f : Field), fs[i]? = some f → ∀ y, xs[i]? = some y → y.2 = [] ∧ ∀ (w' : World) (b' : Nat) (sp' : Nat → Bool) (hd' : Bool),
          DataW.trod enc P w' b' sp' hd' m f.type ((cs.drop f.offset).take (P.cellsOf f.type)) = some y := by
        intro i f hi y hy
        have hm : f ∈ fs.toList := by simpa using Array.mem_of_getElem? hi
        exact trod_plain n f.type (List.all_eq_true.1 h f hm) m _ y ((hf i f hi).trans hy)
      refine ⟨?_, fun w' b' sp' hd' => ?_⟩
      · simp only [List.flatMap_eq_nil_iff]
        intro y hy
        obtain ⟨i, hi, rfl⟩ := List.mem_iff_getElem.1 hy
        obtain ⟨f, hfi⟩ : ∃ f, fs[i]? = some f := ⟨fs[i]'(by omega), by simp⟩
        exact (hall i f hfi _ (by simp [hi])).1
      · refine trod_struct_mk ht hl (mapM_some_of_get _ _ (by simpa using hlen) fun i f hi => ?_)
        have hi' : fs[i]? = some f := by simpa using hi
        have hlt : i < xs.length := by
          have := (Array.getElem?_eq_some_iff.1 hi').1
          omega
        rw [List.getElem?_eq_getElem hlt]
        exact (hall i f hi' _ (by simp [hlt])).2 w' b' sp' hd'
    · rename_i k e ht
      obtain ⟨xs, m, rfl, rfl, hl, hlen, hf⟩ := DataW.trod_array ht hx
      have hall : ∀ (i : Nat), i < k → ∀ y, xs[i]? = some y → y.2 = [] ∧ ∀ (w' : World) (b' : Nat) (sp' : Nat → Bool) (hd' : Bool),
          DataW.trod enc P w' b' sp' hd' m e ((cs.drop (i * P.cellsOf e)).take (P.cellsOf e)) = some y := by
        intro i hi y hy
        exact trod_plain n e h m _ y ((hf i hi).trans hy)
      refine ⟨?_, fun w' b' sp' hd' => ?_⟩
      · simp only [List.flatMap_eq_nil_iff]
        intro y hy
        obtain ⟨i, hi, rfl⟩ := List.mem_iff_getElem.1 hy
        exact (hall i (by omega) _ (by simp [hi])).1
      · refine trod_array_mk ht hl (mapM_some_of_get _ _ (by simpa using hlen) fun i j hi => ?_)
        have hlt : i < k := by
          have := (List.getElem?_eq_some_iff.1 hi).1
          simpa using this
        have hji : j = i := by
          have := (List.getElem?_eq_some_iff.1 hi).2
          simpa using this.symm
        subst hji
        have hlt' : j < xs.length := by omega
        rw [List.getElem?_eq_getElem hlt']
        exact (hall j hlt _ (by simp [hlt'])).2 w' b' sp' hd'
    · simp at h

theorem trod_leaf : ∀ (n : Nat) (t : TypeId) (i : Nat) (k : IntKind), leafAt P n t i = some k → ∀ (fuel : Nat) (cs : List Value) (x : DataW H × List MemPlace), DataW.trod enc P w base spare held fuel t cs = some x →
    ∃ v, cs[i]? = some (.int k v) ∧ (Lit.int k v).wf = true
  | 0, _, _, _, h => by simp [leafAt] at h
  | n + 1, t, i, k, h => by
    intro fuel cs x hx
    unfold leafAt at h
    split at h
    · rename_i k' ht
      cases fuel with
      | zero => simp [DataW.trod] at hx
      | succ fuel =>
        unfold DataW.trod at hx
        simp only [ht] at hx
        split at h
        · rename_i h0
          subst h0
          obtain rfl := Option.some.inj h
          split at hx <;> simp_all
        · simp at h
    · rename_i fs ht
      obtain ⟨xs, m, rfl, rfl, hl, hlen, hf⟩ := DataW.trod_struct ht hx
      obtain ⟨f, hm, hg⟩ := List.exists_of_findSome?_eq_some h
      split at hg
      · rename_i hr
        obtain ⟨j, hj, rfl⟩ := List.mem_iff_getElem.1 hm
        have hj' : fs[j]? = some (fs.toList[j]) := by simp
        have hlt : j < xs.length := by
          have : j < fs.size := by simpa using hj
          omega
        have h1 := hf j _ hj'
        rw [List.getElem?_eq_getElem hlt] at h1
        obtain ⟨v, hv, hw⟩ := trod_leaf n _ _ k hg m _ _ h1
        refine ⟨v, ?_, hw⟩
        rw [List.getElem?_take] at hv
        split at hv
        · rw [List.getElem?_drop] at hv
          rw [show (fs.toList[j]).offset + (i - (fs.toList[j]).offset) = i by omega] at hv
          exact hv
        · simp at hv
      · simp at hg
    · rename_i m' e ht
      obtain ⟨xs, m, rfl, rfl, hl, hlen, hf⟩ := DataW.trod_array ht hx
      split at h
      · rename_i hr
        have h1 := hf _ hr
        rw [List.getElem?_eq_getElem (by omega)] at h1
        obtain ⟨v, hv, hw⟩ := trod_leaf n _ _ k h m _ _ h1
        refine ⟨v, ?_, hw⟩
        rw [List.getElem?_take] at hv
        split at hv
        · rw [List.getElem?_drop] at hv
          rw [Nat.mul_comm, Nat.div_add_mod] at hv
          exact hv
        · simp at hv
      · simp at h
    · simp at h

/-- An argument of such a type: no place, and it reads the same in every world. -/
theorem Trod_plain {n : Nat} {t : TypeId} {v : Value} {d : DataW H} {p : List MemPlace} (hp : plainT P n t = true) (h : DataW.Trod enc P w base spare held t v d p) :
    p = [] ∧ ∀ (w' : World) (b' : Nat) (sp' : Nat → Bool) (hd' : Bool), DataW.Trod enc P w' b' sp' hd' t v d [] := by
  obtain ⟨fuel, hf⟩ := h
  obtain ⟨rfl, h2⟩ := trod_plain n t hp fuel _ _ hf
  exact ⟨rfl, fun w' b' sp' hd' => ⟨fuel, h2 w' b' sp' hd'⟩⟩

/-- Arguments of such types, all at once. -/
theorem TrodAll_plain {n : Nat} : ∀ {ts : List TypeId} {vs : List Value} {ds : List (DataW H)} {p : List MemPlace}, (ts.all fun t => plainT P n t) = true → DataW.TrodAll enc P w base spare held ts vs ds p →
    p = [] ∧ ∀ (w' : World) (b' : Nat) (sp' : Nat → Bool) (hd' : Bool), DataW.TrodAll enc P w' b' sp' hd' ts vs ds []
  | [], vs, ds, p, _, h => by
    obtain ⟨rfl, rfl, rfl⟩ := trodAll_nil h
    exact ⟨rfl, fun _ _ _ _ => rfl⟩
  | t :: ts, vs, ds, p, ha, h => by
    obtain ⟨v, vs1, d, ds1, a, b, rfl, rfl, rfl, h1, h2⟩ := trodAll_cons h
    simp only [List.all_cons, Bool.and_eq_true] at ha
    obtain ⟨rfl, k1⟩ := Trod_plain ha.1 h1
    obtain ⟨rfl, k2⟩ := TrodAll_plain ha.2 h2
    exact ⟨rfl, fun w' b' sp' hd' => ⟨[], [], k1 w' b' sp' hd', k2 w' b' sp' hd', rfl⟩⟩

/-- Its cells, as integers of one kind. -/
theorem Trod_ints {n m : Nat} {k : IntKind} {t : TypeId} {cs : Array Value} {d : DataW H} {p : List MemPlace} (hk : ((List.range m).all fun i => leafAt P n t i == some k) = true)
    (h : DataW.Trod enc P w base spare held t (.agg cs) d p) : ∃ f : Nat → Int, (∀ i, i < m → cs[i]? = some (.int k (f i))) ∧ ∀ i, i < m → (Lit.int k (f i)).wf = true := by
  obtain ⟨fuel, hf⟩ := h
  have key : ∀ i, i < m → ∃ v, cs[i]? = some (.int k v) ∧ (Lit.int k v).wf = true := by
    intro i hi
    have h1 : leafAt P n t i = some k := by simpa using List.all_eq_true.1 hk i (by simpa using hi)
    obtain ⟨v, hv, hw⟩ := trod_leaf n t i k h1 fuel _ _ hf
    exact ⟨v, by simpa [Value.cells] using hv, hw⟩
  refine ⟨fun i => if h : i < m then Classical.choose (key i h) else 0, fun i hi => ?_, fun i hi => ?_⟩
  · simp only [hi, dif_pos]
    exact (Classical.choose_spec (key i hi)).1
  · simp only [hi, dif_pos]
    exact (Classical.choose_spec (key i hi)).2
end

theorem eq_vw {cs : Array Value} {f : Nat → Int} (hs : cs.size = 8) (h : ∀ i, i < 8 → cs[i]? = some (.int .i64 (f i))) : cs = vw f := by
  apply Array.ext
  · simp [hs, vw]
  · intro i h1 h2
    have := h i (by omega)
    rw [Array.getElem?_eq_getElem h1] at this
    have hi : i < 8 := by omega
    rw [Option.some.inj this]
    match i, hi with
    | 0, _ => rfl
    | 1, _ => rfl
    | 2, _ => rfl
    | 3, _ => rfl
    | 4, _ => rfl
    | 5, _ => rfl
    | 6, _ => rfl
    | 7, _ => rfl
set_option maxRecDepth 100000 in
/-- A view, as an argument. -/
theorem open_view {H : Type} {enc : TypeId × Value → H} {w : World} {base b0 : Nat} {spare : Nat → Bool} {held : Bool} {v : Value} {d : DataW H} {p : List MemPlace}
    (hv : Value.okWide Try.prog w .any b0 24 v) (h : DataW.Trod enc Try.prog w base spare held 24 v d p) : ∃ f : Nat → Int, v = .agg (vw f) ∧ ∀ i, i < 8 → (Lit.int .i64 (f i)).wf = true := by
  obtain ⟨cs, rfl, hs⟩ := okWide_struct Try.underlying24 hv
  rw [show Try.prog.cellsOf 24 = 8 by kernel_rfl] at hs
  obtain ⟨f, h1, h2⟩ := Trod_ints (n := 4) (m := 8) (k := .i64) (by kernel_rfl) h
  exact ⟨f, by rw [eq_vw hs h1], h2⟩
end Go.Proofs.Ytkmhabbpndcnkaa
