/-
  PART: contracts of the document's answers for a thread's views: Read, Write, Fence.
-/
import Derived.Test.YtkmhabbpndcnkaaPC
namespace Go.Proofs.Ytkmhabbpndcnkaa
open Go.RowKit
theorem rep_lit {E : Env} {x v : Value} (h : Rep E (.v x) v) : Rep E (.lit x) v := by
  cases h with | v _ h => exact .lit _ h
theorem rep_gen {E : Env} {x v : Value} (h : Rep E (.lit x) v) : Rep E (.v x) v := by
  cases h with | lit _ h => exact .v _ h
theorem pure_hitR {dec : Nat → Option Bool} {f : Nat} {args : List AV} {t : Tree AV} {a : AV} (h : ((evs (cxR dec) 60).call f args .nil).ans = t) (ha : t.hit a) (hp : plainA 4 a = true) : PureOk Try.prog f args a :=
  pure_ans (cx := cxR dec) (cxR_ok dec) fitTry (n := 60) (by rw [h]; exact ha) hp
/-- The cells of a view, as a list tells them. -/
def L8 (f : Nat → Int) (o : Nat) (i : Nat) : Int := [f o, f (o + 1), f (o + 2), f (o + 3), f (o + 4), f (o + 5), f (o + 6), f (o + 7)].getD i 0
theorem L8_eq (f : Nat → Int) (o i : Nat) (hi : i < 8) : L8 f o i = f (o + i) := by
  match i, hi with
  | 0, _ => rfl
  | 1, _ => rfl
  | 2, _ => rfl
  | 3, _ => rfl
  | 4, _ => rfl
  | 5, _ => rfl
  | 6, _ => rfl
  | 7, _ => rfl
def Pos (f : Nat → Int) (l t : Int) (o : Nat) : Prop := (0 ≤ l ∧ l < 4) ∧ 0 ≤ t ∧ ∀ j, j < 8 → 0 ≤ L8 f o j
theorem pos_of {f : Nat → Int} {l t : Int} {o : Nat} (h0 : 0 ≤ l) (h1 : l < 4) (ht : 0 ≤ t) (ho : o + 8 ≤ 48) (hf : ∀ j, j < 48 → 0 ≤ f j) : Pos f l t o := ⟨⟨h0, h1⟩, ht, fun j hj => by rw [L8_eq f o j hj]; exact hf _ (by omega)⟩
theorem pick4_nat {n : Nat} (hn : n < 4) (f : Nat → Int) (o : Nat) : pick4 (n : Int) f o = f (o + n) := by
  obtain rfl | rfl | rfl | rfl : n = 0 ∨ n = 1 ∨ n = 2 ∨ n = 3 := by omega
  all_goals simp [pick4]
section
variable (f m s : Nat → Int) (l t : Int)
/-! Read. -/
def badR (md : Int) : Bool := if decide (l < 0) = true then true else if decide (l > 3) = true then true else if decide (t < 0) = true then true else if decide (md < 1) = true then true else decide (md > 3)
def badT : Bool := if decide (l < 0) = true then true else if decide (l > 3) = true then true else decide (t < 0)
theorem badR_eq (md : Int) : badR l t md = noRead l t md := by
  unfold badR noRead
  cases h : thereB l t with
  | true =>
    obtain ⟨h1, h2, h3⟩ := (thereB_iff l t).1 h
    rw [if_neg (by simp; omega), if_neg (by simp; omega), if_neg (by simp; omega)]; rfl
  | false =>
    have : ¬ (0 ≤ l ∧ l < 4 ∧ 0 ≤ t) := fun q => by rw [(thereB_iff l t).2 q] at h; cases h
    simp only [Bool.not_false, if_true]
    by_cases a : l < 0
    · simp [a]
    · by_cases b : l > 3
      · simp [b]
      · have c : t < 0 := by omega
        simp [c]
theorem rread_bad (md : Int) (h : noRead l t md = true) : PureOk Try.prog 30 [.agg (ivs 48 f), iv l, iv t, .v (.int .u8 md), .agg (ivs 8 m)] (.tup [.agg (ivs 48 f), .lit (.bool false)]) :=
  pure_hitR (dec := decL [(29, true)]) (t := .side (badR l t md = true) (.ret (.tup [.agg (ivs 48 f), .lit (.bool false)]))) (by kernel_rfl) ⟨(badR_eq l t md).trans h, rfl⟩ (by kernel_rfl)
def smallR (md : Nat) : Bool := if md = 1 then decide (t < pick4 l f 0) else decide (t < pick4 l f 4)
theorem rread_small (md : Nat) (hm : 1 ≤ md ∧ md ≤ 3) (h : badT l t = false) (hl : 0 ≤ l ∧ l < 4) (hs : smallR f l t md = true) : PureOk Try.prog 30 [.agg (ivs 48 f), iv l, iv t, .lit (.int .u8 md), .agg (ivs 8 m)] (.tup [.agg (ivs 48 f), .lit (.bool false)]) := by
  obtain rfl | rfl | rfl : md = 1 ∨ md = 2 ∨ md = 3 := by omega
  · exact pure_hitR (dec := decL [(29, false), (54, true)]) (t := .side (badT l t = false) (.side (0 ≤ l ∧ l < 4) (.side (smallR f l t 1 = true) (.ret (.tup [.agg (ivs 48 f), .lit (.bool false)]))))) (by kernel_rfl) ⟨h, hl, hs, rfl⟩ (by kernel_rfl)
  · exact pure_hitR (dec := decL [(29, false), (54, true)]) (t := .side (badT l t = false) (.side (0 ≤ l ∧ l < 4) (.side (smallR f l t 2 = true) (.ret (.tup [.agg (ivs 48 f), .lit (.bool false)]))))) (by kernel_rfl) ⟨h, hl, hs, rfl⟩ (by kernel_rfl)
  · exact pure_hitR (dec := decL [(29, false), (54, true)]) (t := .side (badT l t = false) (.side (0 ≤ l ∧ l < 4) (.side (smallR f l t 3 = true) (.ret (.tup [.agg (ivs 48 f), .lit (.bool false)]))))) (by kernel_rfl) ⟨h, hl, hs, rfl⟩ (by kernel_rfl)
theorem rread_good (md : Nat) (hm : 1 ≤ md ∧ md ≤ 3) (h : badT l t = false) (hl : 0 ≤ l ∧ l < 4) (hs : smallR f l t md = false) (h0 : Pos f l t 0) (h8 : Pos f l t 8) :
    PureOk Try.prog 30 [.agg (ivs 48 f), iv l, iv t, .lit (.int .u8 md), .agg (ivs 8 m)] (.tup [.agg (ivs 48 (readX f m l t md)), .lit (.bool true)]) := by
  obtain rfl | rfl | rfl : md = 1 ∨ md = 2 ∨ md = 3 := by omega
  · exact pure_hitR (dec := decL [(29, false), (54, false)]) (t := .side (badT l t = false) (.side (0 ≤ l ∧ l < 4) (.side (smallR f l t 1 = false) (.side (Pos f l t 0) (.side (Pos f l t 8) (.ret (.tup [.agg (ivs 48 (readX f m l t 1)), .lit (.bool true)]))))))) (by kernel_rfl) ⟨h, hl, hs, h0, h8, rfl⟩ (by kernel_rfl)
  · exact pure_hitR (dec := decL [(29, false), (54, false)]) (t := .side (badT l t = false) (.side (0 ≤ l ∧ l < 4) (.side (smallR f l t 2 = false) (.side (Pos f l t 0) (.side (Pos f l t 8) (.ret (.tup [.agg (ivs 48 (readX f m l t 2)), .lit (.bool true)]))))))) (by kernel_rfl) ⟨h, hl, hs, h0, h8, rfl⟩ (by kernel_rfl)
  · exact pure_hitR (dec := decL [(29, false), (54, false)]) (t := .side (badT l t = false) (.side (0 ≤ l ∧ l < 4) (.side (smallR f l t 3 = false) (.side (Pos f l t 0) (.side (Pos f l t 8) (.ret (.tup [.agg (ivs 48 (readX f m l t 3)), .lit (.bool true)]))))))) (by kernel_rfl) ⟨h, hl, hs, h0, h8, rfl⟩ (by kernel_rfl)
theorem rread_pure (md : Int) (hf : ∀ j, j < 48 → 0 ≤ f j) : PureOk Try.prog 30 [.agg (ivs 48 f), iv l, iv t, .v (.int .u8 md), .agg (ivs 8 m)] (readA f m l t md) := by
  have tup2 : ∀ {a : AV} {b : Bool} {v : Value}, (∀ E, Rep E (.tup [a, .lit (.bool b)]) v) → ∀ E, Rep E (.tup [a, .v (.bool b)]) v := fun h E => by
    obtain ⟨vs, rfl, hr⟩ := (h E).tup_inv
    cases hr with | cons h1 t => cases t with | cons h2 t =>
    exact .tup_mk (.cons h1 (.cons (rep_gen h2) t))
  have no : noRead l t md = true ∨ decide (t < knownE f l md) = true → readA f m l t md = .tup [.agg (ivs 48 f), .v (.bool false)] := fun h => by
    unfold readA
    have hb : readB f l t md = false := by unfold readB; rcases h with h | h <;> simp_all
    rw [read_no hb, hb]
  cases h : noRead l t md with
  | true => rw [no (.inl h)]; exact (rread_bad f m l t md h).imp fun v => tup2
  | false =>
    obtain ⟨h1, h2, h3⟩ := noRead_iff.1 h
    obtain ⟨k0, k1, k2⟩ := (thereB_iff l t).1 h1
    have hb : badT l t = false := by unfold badT; rw [if_neg (by simp; omega), if_neg (by simp; omega)]; simp; omega
    obtain ⟨n, rfl⟩ : ∃ n : Nat, md = n := ⟨md.toNat, by omega⟩
    have hn : 1 ≤ n ∧ n ≤ 3 := by omega
    have hs : smallR f l t n = decide (t < knownE f l n) := by
      unfold smallR knownE
      by_cases e : n = 1
      · subst e; simp
      · have : ((n : Int) != 1) = true := by simp; omega
        simp [e, this]
    have pre : ∀ E vs, Reps E [.agg (ivs 48 f), iv l, iv t, .v (.int .u8 n), .agg (ivs 8 m)] vs → Reps E [.agg (ivs 48 f), iv l, iv t, .lit (.int .u8 n), .agg (ivs 8 m)] vs := fun E vs h => by
      cases h with | cons q1 h => cases h with | cons q2 h => cases h with | cons q3 h => cases h with | cons q4 h =>
      exact .cons q1 (.cons q2 (.cons q3 (.cons (rep_lit q4) h)))
    cases hq : decide (t < knownE f l n) with
    | true => rw [no (.inr hq)]; exact ((rread_small f m l t n hn hb ⟨k0, k1⟩ (hs.trans hq)).pre pre).imp fun v => tup2
    | false =>
      have hB : readB f l t n = true := by unfold readB; simp [h, hq]
      have e : readA f m l t n = .tup [.agg (ivs 48 (readX f m l t n)), .v (.bool true)] := by
        unfold readA
        rw [hB, show readE f m l t n = readX f m l t n from funext (read_yes hB)]
      rw [e]
      exact ((rread_good f m l t n hn hb ⟨k0, k1⟩ (hs.trans hq) (pos_of k0 k1 k2 (by omega) hf) (pos_of k0 k1 k2 (by omega) hf)).pre pre).imp fun v => tup2
end
end Go.Proofs.Ytkmhabbpndcnkaa
