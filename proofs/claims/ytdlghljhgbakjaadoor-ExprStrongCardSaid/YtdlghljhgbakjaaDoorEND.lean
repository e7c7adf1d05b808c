/-
  PART: append.
-/
import Derived.Test.YtdlghljhgbakjaaDoorENC
namespace Go.Proofs.YtdlghljhgbakjaaDoor
open Go.RowKit

section
variable {P : Program} {o : Oper} {st st' : St} {a : AV} {w : World} {E : Env}
theorem grownCap_ge (w : World) {need : Nat} (old : Nat) (e : TypeId) : need ≤ grownCap w need old e := by
  unfold grownCap Question.cut
  simp only []
  omega
/-- The second operand's type: a slice or a string. -/
def xOk (P : Program) (ts : Array TypeId) : Prop := ∃ xT, ts[1]? = some xT ∧ ((∃ e, P.underlying xT = some (.slice e)) ∨ P.underlying xT = some .string)
theorem run_append_no {ts : Array TypeId} {ty sT elem : TypeId} {i : TypeInfo} {x : Value} {n sLen sCap : Nat} {b : Option Addr} (ht0 : ts[0]? = some sT) (ht1 : xOk P ts) (hu : P.underlying sT = some (.slice elem)) (hi : P.info? elem = some i)
    (hlen : ∀ w, (Builtin.lenOf x).run P w = .ok n w) {news : Array Value} (hn : (Builtin.firstCells i.size n x).run P w = .ok news w) (hroom : sLen + n ≤ sCap) {w' : World} (hst : ∀ ad, b = some ad → (storeCells (ad.add (sLen * i.size)) news.toList).run P w = .ok () w') (hb : b = none → w' = w) :
    (Builtin.append_ ts ty #[.slice b sLen sCap, x]).run P w = .ok (.slice b (sLen + n) sCap) w' := by
  obtain ⟨xT, hx1, hx2⟩ := ht1
  unfold Builtin.append_
  rcases hx2 with ⟨e, hx2⟩ | hx2 <;>
  · simp only [ht0, hx1, List.getElem?_toArray, List.getElem?_cons_zero, List.getElem?_cons_succ, Sem.run_bind, run_underlying hu, run_underlying hx2, Result.andThen_ok, Sem.run_pure, sizeOf, typeInfo, run_program, hi]
    simp only [Bool.false_eq_true, if_false, Sem.run_bind, hlen w, Result.andThen_ok, Bool.not_false, if_true]
    rw [if_pos hroom]
    simp only [Sem.run_bind, hn, Result.andThen_ok]
    cases b with
    | none => rw [hb rfl]; rfl
    | some ad => simp only [Sem.run_bind, hst ad rfl, Result.andThen_ok, Sem.run_pure]
theorem run_append_new {ts : Array TypeId} {ty sT elem : TypeId} {i : TypeInfo} {z x : Value} {n sLen sCap : Nat} {b : Option Addr} (ht0 : ts[0]? = some sT) (ht1 : xOk P ts) (hu : P.underlying sT = some (.slice elem)) (hi : P.info? elem = some i) (hz : i.zero = some z)
    (hlen : ∀ w, (Builtin.lenOf x).run P w = .ok n w) {olds news : Array Value} (ho : (Builtin.firstCells i.size sLen (.slice b sLen sCap)).run P w.drew = .ok olds w.drew) (hn : (Builtin.firstCells i.size n x).run P w.drew = .ok news w.drew) (hroom : sCap < sLen + n)
    (h63 : ((sLen + n : Nat) : Int) ≤ 9223372036854775807) (hfit : Builtin.nextslicecap (sLen + n) sCap * i.bytes ≤ 281474976710656) :
    (Builtin.append_ ts ty #[.slice b sLen sCap, x]).run P w = .ok (.slice (some ⟨w.heap.size, 0, none⟩) (sLen + n) (grownCap w (sLen + n) sCap elem)) (w.drew.alloc (.cells (olds ++ news ++ Builtin.zeroCells z.cells (grownCap w (sLen + n) sCap elem - (sLen + n))) elem)) := by
  obtain ⟨xT, hx1, hx2⟩ := ht1
  have hmax : IntKind.i64.max = 9223372036854775807 := by decide
  have hask : ∀ b w, (askRoom b).run P w = .ok () w := fun b w => by unfold askRoom; split <;> rfl
  have hch : (choose (.appendCap (sLen + n) sCap elem)).run P w = .ok (grownCap w (sLen + n) sCap elem) w.drew := rfl
  unfold Builtin.append_
  rcases hx2 with ⟨e, hx2⟩ | hx2 <;>
  · simp only [ht0, hx1, List.getElem?_toArray, List.getElem?_cons_zero, List.getElem?_cons_succ, Sem.run_bind, run_underlying hu, run_underlying hx2, Result.andThen_ok, Sem.run_pure, sizeOf, typeInfo, run_program, hi]
    simp only [Bool.false_eq_true, if_false, Sem.run_bind, hlen w, Result.andThen_ok, Bool.not_false, if_true]
    rw [if_neg (by omega)]
    simp only [Sem.run_bind, Sem.run_pure, Result.andThen_ok, run_program, hi, false_or]
    rw [if_neg (by rw [hmax]; omega)]
    simp only [Sem.run_bind, Sem.run_pure, Result.andThen_ok, run_program, hi]
    rw [if_neg (by omega)]
    simp only [Sem.run_bind, Sem.run_pure, Result.andThen_ok, run_program, hi, hch, hask, ho, hn, zeroValue, typeInfo, hz]
    rfl
end
end Go.Proofs.YtdlghljhgbakjaaDoor
