/-
  PARTS, one behind the other: LP LQ M0 M1 M2 LU LR LT LV LW LX M3 M4 M5.
-/
import Derived.Test.YtdlghljhgbakjaaDoorWi7
import Derived.Test.YtdlghljhgbakjaaDoorRows
import Derived.Shelf.Vars
/-
  PART: the law LexTells answers true.
-/
namespace Go.Proofs.YtdlghljhgbakjaaDoor
open Go.RowKit
noncomputable section
noncomputable def st6 (n : Nat) (Y : Nat → Pc) : St := mkS [(3, .sl n 5 (gY Y) false false), (6, .sl n 5 (gY Y) false false)] [] 0
noncomputable def inv6 (n : Nat) (Y : Nat → Pc) (i : Int) : St := mkS [(3, .sl n 5 (gY Y) false false), (6, .sl n 5 (gY Y) false false), (9, .v (.int .i64 i))] [] 0
noncomputable def cx6 (n : Nat) (Y : Nat → Pc) : Cx := cxW (okV n Y) (decL [(12,false),(40,false)])
noncomputable def F28 (s : ByteArray) (a : AV) : Prop := FrzOk Tryd.prog 28 [.v (.string s)] a
noncomputable def F29 (s : ByteArray) (a : AV) : Prop := FrzOk Tryd.prog 29 [.v (.string s)] a
noncomputable def F27 : Prop := FrzOk Tryd.prog 27 [] (.lit (.bool true))
noncomputable def ds6b : List (Nat × Bool) := [(3, false), (6, false)]
noncomputable def neP (p : Pc) : Bool := !(p.k == p.k && (B p.t == B p.t && (p.n == p.n && (p.ln == p.ln && p.cl == p.cl))))
noncomputable def in6 (n : Nat) (i : Int) : Prop := 0 ≤ i ∧ i < (n : Int)
section
variable (s : ByteArray) (n : Nat) (Y : Nat → Pc) (i e ln cc : Int)
theorem l6a : ((evs (cxW nilR (decL [(12,true)])) 60).call 6 [.v (.string s)] .nil).frz = .side (decide ((s.size : Int) > 5000) = true) (.side F27 (.ret (.lit (.bool true)))) := by kernel_rfl
theorem l6b : ((evs (cxW (badV e ln cc) (decL [(12,false),(40,false)])) 60).call 6 [.v (.string s)] .nil).frz = .side (decide ((s.size : Int) > 5000) = false) (.side (F28 s (badV e ln cc)) (.side (F29 s (badV e ln cc)) (.side ((if (!(ln == ln && cc == cc)) = true then true else e != e) = false) (.side F27 (.ret (.lit (.bool true))))))) := by kernel_rfl
theorem l6c : (codeE (cx6 n Y) (evs (cx6 n Y) 60) (joins (firsts 5 c6)) (entry [.v (.string s)])).map (lfR 0 ds6b true res6) = .side (decide ((s.size : Int) > 5000) = false) (.side (F28 s (okV n Y)) (.side (F29 s (okV n Y)) (.side ((if ((n : Int) != n) = true then true else if (!((0 : Int) == 0 && (0 : Int) == 0)) = true then true else (0 : Int) != 0) = false) (.ret (.go .norm (some (st6 n Y))))))) := by kernel_rfl
theorem l6d : bod6 [(44,true),(72,false)] (inv6 n Y i) = .side (decide (i < (n : Int)) = true) (.side (in6 n i) (.side (in6 n i) (.side (in6 n i) (.side (in6 n i) (.side (in6 n i) (.side (neP (Y i.toNat) = false) (.ret (.go .norm (some (inv6 n Y (wq (i + 1))))))))))) ) := by kernel_rfl
theorem l6e : bod6 [(44,false)] (inv6 n Y i) = .side (decide (i < (n : Int)) = false) (.ret (.go (.exit 0) (some (inv6 n Y i)))) := by kernel_rfl
theorem l6f : (codeE (cx6 n Y) (evs (cx6 n Y) 60) tail6 (inv6 n Y i)).map (lfR 0 [] false res6) = .side F27 (.ret (.out (.lit (.bool true)))) := by kernel_rfl
theorem l6g : (codeE (cx6 n Y) (evs (cx6 n Y) 60) a6 (st6 n Y)).map (lfR 0 ds6 true res6) = .ret (.go .norm (some (inv6 n Y 0))) := by kernel_rfl
end
theorem neP_false (p : Pc) : neP p = false := by
  have e : (B p.t == B p.t) = true := by show ((B p.t).data == (B p.t).data) = true; exact beq_self_eq_true _
  unfold neP
  rw [e]
  simp
theorem lexR_len : ∀ (f : Nat) (l : List UInt8) (ln cl : Int) (acc : List Pc), (match lexR f l ln cl acc with | .ok ps => ps.length ≤ acc.length + f | .bad _ _ _ => True)
  | 0, _, _, _, _ => trivial
  | f + 1, l, ln, cl, acc => by
    have a0 : ∀ l ln cl, (match lexR f l ln cl acc with | .ok ps => ps.length ≤ acc.length + (f + 1) | .bad _ _ _ => True) := fun l ln cl => by
      have := lexR_len f l ln cl acc
      split at this
      · omega
      · trivial
    have a1 : ∀ l ln cl p, (match lexR f l ln cl (acc ++ [p]) with | .ok ps => ps.length ≤ acc.length + (f + 1) | .bad _ _ _ => True) := fun l ln cl p => by
      have := lexR_len f l ln cl (acc ++ [p])
      split at this
      · rw [List.length_append, List.length_singleton] at this; omega
      · trivial
    rw [lexR_succ]
    by_cases h1 : l = []
    · rw [if_pos h1]; simp only [List.length_append, List.length_singleton]; omega
    rw [if_neg h1]
    by_cases h2 : ch l = 10
    · rw [if_pos h2]; exact a0 _ _ _
    rw [if_neg h2]
    by_cases h3 : ch l = 32 ∨ ch l = 9
    · rw [if_pos h3]; exact a0 _ _ _
    rw [if_neg h3]
    by_cases h4 : ch l = 35
    · rw [if_pos h4]; exact a0 _ _ _
    rw [if_neg h4]
    by_cases h5 : p62 (ch l) = true
    · rw [if_pos h5]
      cases numOf (l.take (runL p62 l)) with
      | some u => exact a1 _ _ _ _
      | none => trivial
    rw [if_neg h5]
    by_cases h6 : p64 (ch l) = true
    · rw [if_pos h6]; exact a1 _ _ _ _
    rw [if_neg h6]
    by_cases h7 : signL l = 0
    · rw [if_pos h7]; trivial
    rw [if_neg h7]; exact a1 _ _ _ _
theorem law6_frz (l : List UInt8) : FrzOk Tryd.prog 6 [.v (.string (B l))] (.lit (.bool true)) := by
  by_cases hl : l.length > 5000
  · exact frz_ev (cxW_ok _ _) fitTry (l6a (B l)) ⟨decide_eq_true (by rw [B_size]; omega), wakes27, fun _ _ h => h⟩
  have hs : decide (((B l).size : Int) > 5000) = false := decide_eq_false (by rw [B_size]; omega)
  have h28 := lex28 l
  have h29 := lex29 l
  cases hR : lexRes l with
  | bad e ln cc =>
    rw [hR] at h28 h29
    exact frz_ev (cxW_ok _ _) fitTry (l6b (B l) e ln cc) ⟨hs, h28, h29, by simp, wakes27, fun _ _ h => h⟩
  | ok ps =>
    rw [hR] at h28 h29
    have hlen : ps.length ≤ 5000 := by
      have := lexR_len (l.length + 1) l 1 1 []
      unfold lexRes at hR
      split at hR
      · cases hR
      · rw [hR] at this; simp only [List.length_nil] at this; omega
    let n := ps.length
    let Y := accY ps
    refine frz_iloop fitTry Tryd.func6 (c := c6) (by kernel_rfl) (by kernel_rfl) (O := fun a => ∀ E v, Rep E a v → Rep E (.lit (.bool true)) v) (cx := cx6 n Y) (cxW_ok _ _) rfl (n := 60) code6 (by kernel_rfl) (by kernel_rfl) (ds0 := ds6b) (gb0 := true) (s1 := st6 n Y) (ds := ds6) (gb := true)
      (fun k : Nat => inv6 n Y (k : Nat)) (fun k => k ≤ n) (fun k => n - k) (fun s => s = inv6 n Y (n : Nat)) ?_ ?_ (fun Bt hB hN k hk => ?_) (fun s hs => ?_) (fun a h => h)
    · show ((codeE (cx6 n Y) (evs (cx6 n Y) 60) (joins (firsts 5 c6)) (entry [.v (.string (B l))])).map (lfR 0 ds6b true res6)).wp _
      rw [l6c]; exact ⟨hs, h28, h29, by simp, rfl, rfl⟩
    · show ((codeE (cx6 n Y) (evs (cx6 n Y) 60) a6 (st6 n Y)).map (lfR 0 ds6 true res6)).wp _
      rw [l6g]; exact ⟨rfl, 0, fun _ _ => .refl _, Nat.zero_le _⟩
    · have hcode : codeOk Bt.N body6 = true := by rw [hN]; kernel_rfl
      by_cases hlt : k < n
      · refine wpc_endH (cx := cxW nilR (decL [(44,true),(72,false)])) (n := 60) (ds := ds6) (gb := true) (res := res6) (cxW_ok _ _) fitTry hcode ?_
        rw [hB]
        show (bod6 [(44,true),(72,false)] (inv6 n Y (k : Nat))).wp _
        have w1 : wq ((k : Int) + 1) = ((k + 1 : Nat) : Int) := wq_in (by omega) (by omega)
        rw [l6d, w1]
        have hin : in6 n (k : Nat) := ⟨by omega, by omega⟩
        exact ⟨decide_eq_true (by omega), hin, hin, hin, hin, hin, neP_false _, k + 1, .refl _, hlt, by show n - (k + 1) < n - k; omega⟩
      · refine wpc_endH (cx := cxW nilR (decL [(44,false)])) (n := 60) (ds := ds6) (gb := true) (res := res6) (cxW_ok _ _) fitTry hcode ?_
        rw [hB]
        show (bod6 [(44,false)] (inv6 n Y (k : Nat))).wp _
        rw [l6e]
        obtain rfl : k = n := by omega
        exact ⟨decide_eq_false (by omega), rfl, _, .refl _, rfl⟩
    · subst hs
      show ((codeE (cx6 n Y) (evs (cx6 n Y) 60) tail6 (inv6 n Y (n : Nat))).map (lfR 0 [] false res6)).wp _
      rw [l6f]; exact ⟨wakes27, fun _ _ h => h⟩
end
end Go.Proofs.YtdlghljhgbakjaaDoor

/-
  PART: what package-level variables hold, by the condition; the laws' cards' common part.
-/
namespace Go.Proofs.YtdlghljhgbakjaaDoor
open Go.ChangeShapes Go.WideShapes Go.ChangeAt Go.WideMaps Go.WideElems Go.RowKit
theorem own : ownKnob Tryd.prog.godebug = none := by kernel_rfl
theorem gMax : Tryd.prog.globalNamed "internal/bytealg.MaxLen" = some 5 := by kernel_rfl
theorem gErrR : Tryd.prog.globalNamed "strconv.ErrRange" = some 3 := by kernel_rfl
noncomputable def laidL : List (String × DataW Unit) := [("math/bits.deBruijn32tab", Rows.laid_math_bits_deBruijn32tab), ("math/bits.deBruijn64tab", Rows.laid_math_bits_deBruijn64tab), ("internal/strconv.uint64pow10", Rows.laid_internal_strconv_uint64pow10), ("strconv.ErrRange", Rows.laid_strconv_ErrRange), ("strconv.ErrSyntax", Rows.laid_strconv_ErrSyntax)]
section
variable {H : Type} {enc : TypeId × Value → H} {P : Program} {w : World} {base : Nat} {spare : Nat → Bool} {held : Bool}
theorem trod_ifc {t : TypeId} {ms} {fuel : Nat} {cs : List Value} {nm : String} {d : DataW H} {p : List MemPlace} (ht : P.underlying t = some (.interface ms)) (h : DataW.trod enc P w base spare held fuel t cs = some (.iface nm d, p)) : ∃ u v, cs = [.iface u v] := by
  cases fuel with
  | zero => simp [DataW.trod] at h
  | succ n =>
    unfold DataW.trod at h
    rw [ht] at h
    split at h <;> simp_all
theorem var_cells {name : String} {g : Nat} {cs : Array Value} (hg : P.globalNamed name = some g) (hv : w.var? P name = some cs) : ∃ ty fr, w.heap[g]? = some (.cells cs ty fr) := by
  unfold World.var? at hv
  rw [hg] at hv
  simp only [Option.bind_some] at hv
  split at hv
  · rename_i cs ty fr hq
    cases hv
    exact ⟨ty, fr, hq⟩
  · cases hv
end
theorem door_met (os : Os) (args : Array Value) : laidMetH Tryd.prog laidL ((World.doorLaid Tryd.prog 400 os).forCall (fun _ _ => 0) ⟨#[], args, []⟩).memory :=
  laidMetH_of_parts3 (fuel := 8) (laidMet_of_run' 8 (by kernel_rfl) (by kernel_rfl)) (by kernel_rfl) (by kernel_rfl)
theorem max_row : ((begin Tryd.prog (fun _ _ => 0) default).world.heap[5]?).bind Obj.row? = some (#[.int .i64 0], 3) := by kernel_rfl
theorem globL {W : World} (h : laidMetH Tryd.prog laidL W) (hs : W.ShapedOpen Tryd.prog) : GlobW W := by
  have hm : ∃ z, cellsAt W 5 = some #[.int .i64 z] := by
    obtain ⟨cs, hh, hsz, _⟩ := hs.1 5 _ _ (of_decide_eq_true (by kernel_rfl)) max_row
    obtain ⟨z, hz⟩ := Go.Proofs.cell_of_shapedOpen_int (k := .i64) hs (of_decide_eq_true (by kernel_rfl)) max_row rfl (by kernel_rfl) (by kernel_rfl) (by kernel_rfl)
    have hsz : cs.size = 1 := hsz
    have h1 : 0 < cs.size := by omega
    have hc : W.cell? ⟨5, 0, none⟩ = some cs[0] := by simp [World.cell?, hh, h1]
    rw [hc] at hz
    refine ⟨z, ?_⟩
    unfold cellsAt
    rw [hh]
    show some cs = _
    congr 1
    apply Array.ext
    · exact hsz
    · intro i hi hi'
      obtain rfl : i = 0 := by simp at hi'; omega
      exact Option.some.inj hz
  rw [MakeChecks.laidMetH_plain _ _ _ (by kernel_rfl)] at h
  obtain ⟨ps, ⟨_, _, _, _, _, _, _, _, _, _, ⟨_, _, _, _, _, _, _, _, _, _, ⟨_, _, _, _, _, _, _, _, _, _, ⟨g0, t0, cs0, f0, p0, q0, hg0, ht0, hv0, hd0, _, _⟩, _⟩, _⟩, _⟩, _⟩ := h
  obtain rfl := Option.some.inj (gErrR.symm.trans hg0)
  have he : ∃ t p, cellsAt W 3 = some #[.iface t p] := by
    obtain ⟨ty, fr, hc⟩ := var_cells gErrR hv0
    obtain ⟨ms, hms⟩ : ∃ ms, Tryd.prog.underlying t0 = some (.interface ms) := by
      obtain rfl := Option.some.inj ((show (Tryd.prog.globals[3]?).map (·.type) = some 101 by kernel_rfl).symm.trans ht0)
      exact ⟨_, Tryd.underlying101⟩
    obtain ⟨u, v, hcs⟩ := trod_ifc hms hd0
    refine ⟨u, v, ?_⟩
    unfold cellsAt
    rw [hc]
    show some cs0 = _
    exact congrArg some (Array.ext' hcs)
  intro g
  refine ⟨fun c hc => (by cases hc), fun k hk => ?_⟩
  unfold GK at hk
  split at hk
  · rename_i hb
    obtain rfl := Nat.eq_of_beq_eq_true hb
    cases hk
    obtain ⟨z, hz⟩ := hm
    exact ⟨_, hz, z, rfl⟩
  · split at hk
    · rename_i hb
      obtain rfl := Nat.eq_of_beq_eq_true hb
      cases hk
      obtain ⟨t, p, hz⟩ := he
      exact ⟨_, hz, t, p, rfl⟩
    · cases hk
end Go.Proofs.YtdlghljhgbakjaaDoor

/-
  PART: the law LexLimits, plainly.
-/
namespace Go.Proofs.YtdlghljhgbakjaaDoor
open Go.RowKit
theorem blanks_lex : ∀ (n f : Nat) (ln cl : Int), n < f → ∃ b, lexR f (List.replicate n 32) ln cl [] = .ok [⟨0, [], 0, ln, b⟩]
  | 0, f, ln, cl, h => by
    obtain ⟨f, rfl⟩ : ∃ f', f = f' + 1 := ⟨f - 1, by omega⟩
    exact ⟨cl, rfl⟩
  | n + 1, f, ln, cl, h => by
    obtain ⟨f, rfl⟩ : ∃ f', f = f' + 1 := ⟨f - 1, by omega⟩
    obtain ⟨b, hb⟩ := blanks_lex n f ln (cl + 1) (by omega)
    refine ⟨b, ?_⟩
    have hne : List.replicate (n + 1) (32 : UInt8) ≠ [] := by rw [List.replicate_succ]; simp
    have hch : ch (List.replicate (n + 1) (32 : UInt8)) = 32 := by rw [List.replicate_succ]; rfl
    have hd : (List.replicate (n + 1) (32 : UInt8)).drop 1 = List.replicate n 32 := by rw [List.replicate_succ]; rfl
    rw [lexR_succ, if_neg hne, if_neg (by rw [hch]; decide), if_pos (.inl hch), hd]
    exact hb
theorem lim_ok {n : Nat} (h : n ≤ 4096) : ∃ b, lexRes (List.replicate n 32) = .ok [⟨0, [], 0, 1, b⟩] := by
  unfold lexRes
  rw [if_neg (by rw [List.length_replicate]; omega)]
  exact blanks_lex n _ 1 1 (by rw [List.length_replicate]; omega)
theorem lim_bad {n : Nat} (h : 4096 < n) : lexRes (List.replicate n 32) = .bad 4 1 1 := by
  unfold lexRes
  rw [if_pos (by rw [List.length_replicate]; omega)]
noncomputable def limT1 : List UInt8 := [49, 56, 52, 52, 54, 55, 52, 52, 48, 55, 51, 55, 48, 57, 53, 53, 49, 54, 49, 53]
noncomputable def limT2 : List UInt8 := [97, 32, 49, 56, 52, 52, 54, 55, 52, 52, 48, 55, 51, 55, 48, 57, 53, 53, 49, 54, 49, 54]
theorem lim1 : lexRes limT1 = .ok [⟨1, limT1, 18446744073709551615, 1, 1⟩, ⟨0, [], 0, 1, 21⟩] := by kernel_rfl
theorem lim2 : lexRes limT2 = .bad 4 1 3 := by kernel_rfl
end Go.Proofs.YtdlghljhgbakjaaDoor

/-
  PART: the law LexLimits: its code.
-/
namespace Go.Proofs.YtdlghljhgbakjaaDoor
open Go.RowKit
noncomputable section
noncomputable def c8 : Code := codeOf Tryd.f8
noncomputable def res8 : St → Option AV := resF Tryd.prog Tryd.f8.results.toList
noncomputable def p8 : Code := behind 5 c8
noncomputable def a8 : Code := cl (cl p8)
noncomputable def body8 : Code := cin (cin (cr (cl p8)))
noncomputable def q8' : Code := cr p8
theorem code8 : c8 = seqs (firsts 5 c8) (.seq (.seq a8 (.block 0 (.loop body8))) q8') := by kernel_rfl
end
end Go.Proofs.YtdlghljhgbakjaaDoor

/-
  PART: the law LexLimits: its table.
-/
namespace Go.Proofs.YtdlghljhgbakjaaDoor
open Go.RowKit
noncomputable section
noncomputable def limP : List Pc := [⟨1, limT1, 18446744073709551615, 1, 1⟩, ⟨0, [], 0, 1, 21⟩]
noncomputable def tabM (A : AV) (f : Nat) (args : List AV) : Option (Tree AV) := match f, args with
  | 27, [] => some (.side (FrzOk Tryd.prog 27 [] (.lit (.bool true))) (.ret (.lit (.bool true))))
  | 28, [.lit (.string s)] => match s.data.toList == limT1 with
    | true => some (.side (FrzOk Tryd.prog 28 [.lit (.string s)] (okL limP)) (.ret (okL limP)))
    | false => some (.side (FrzOk Tryd.prog 28 [.lit (.string s)] (badL 4 1 3)) (.ret (badL 4 1 3)))
  | 28, [.v (.string s)] => some (.side (FrzOk Tryd.prog 28 [.v (.string s)] A) (.ret A))
  | _, _ => none
theorem tabM_ok (A : AV) : TabFOk Tryd.prog (tabM A) := by
  intro f args t b ht hh
  unfold tabM at ht
  split at ht
  · cases ht
    obtain ⟨h1, h2⟩ := hh
    cases h2
    exact h1
  · split at ht
    · cases ht
      obtain ⟨h1, h2⟩ := hh
      cases h2
      exact h1
    · cases ht
      obtain ⟨h1, h2⟩ := hh
      cases h2
      exact h1
  · cases ht
    obtain ⟨h1, h2⟩ := hh
    cases h2
    exact h1
  · cases ht
noncomputable def cxM (A : AV) (dec : Nat → St → Option Bool) : Cx := ⟨Tryd.prog, ctrOf2 noP (tabM A), dec⟩
theorem cxM_ok (A : AV) (dec : Nat → St → Option Bool) : CtrOk (cxM A dec) := ctrOf2_ok noP_ok (tabM_ok A) dec
end
end Go.Proofs.YtdlghljhgbakjaaDoor

/-
  PART: the law LexBack, plainly: pieces written one behind the other, with blanks between, are told as themselves.
-/
namespace Go.Proofs.YtdlghljhgbakjaaDoor
open Go.RowKit
/-- A piece without its place. -/
structure Cor where
  k : Int
  t : List UInt8
  n : Int
noncomputable def cor (p : Pc) : Cor := ⟨p.k, p.t, p.n⟩
/-- What a text's pieces are, without their places. -/
inductive Toks : List UInt8 → List Cor → Prop
  | nil : Toks [] [⟨0, [], 0⟩]
  | blank {l cs} (h : l ≠ []) (hb : ch l = 10 ∨ ch l = 32 ∨ ch l = 9) (t : Toks (l.drop 1) cs) : Toks l cs
  | note {l cs} (h : l ≠ []) (hb : ch l = 35) (t : Toks (l.drop (runL p61 l)) cs) : Toks l cs
  | num {l cs u} (h : l ≠ []) (h1 : ch l ≠ 10) (h2 : ¬(ch l = 32 ∨ ch l = 9)) (h3 : ch l ≠ 35) (h4 : p62 (ch l) = true) (hu : numOf (l.take (runL p62 l)) = some u) (t : Toks (l.drop (runL p62 l)) cs) : Toks l (⟨1, l.take (runL p62 l), (u : Nat)⟩ :: cs)
  | word {l cs} (h : l ≠ []) (h1 : ch l ≠ 10) (h2 : ¬(ch l = 32 ∨ ch l = 9)) (h3 : ch l ≠ 35) (h4 : ¬ p62 (ch l) = true) (h5 : p64 (ch l) = true) (t : Toks (l.drop (runL p65 l)) cs) : Toks l (⟨2, l.take (runL p65 l), 0⟩ :: cs)
  | sign {l cs} (h : l ≠ []) (h1 : ch l ≠ 10) (h2 : ¬(ch l = 32 ∨ ch l = 9)) (h3 : ch l ≠ 35) (h4 : ¬ p62 (ch l) = true) (h5 : ¬ p64 (ch l) = true) (h6 : signL l ≠ 0) (t : Toks (l.drop (signL l)) cs) : Toks l (⟨3, l.take (signL l), 0⟩ :: cs)
theorem toks_of : ∀ (f : Nat) (l : List UInt8) (ln cl : Int) (acc ps : List Pc), lexR f l ln cl acc = .ok ps → ∃ qs, ps = acc ++ qs ∧ Toks l (qs.map cor)
  | 0, _, _, _, _, _, h => by cases h
  | f + 1, l, ln, cl, acc, ps, h => by
    rw [lexR_succ] at h
    have one : ∀ {l' : List UInt8} {ln' cl' : Int} {p : Pc}, lexR f l' ln' cl' (acc ++ [p]) = .ok ps → ∃ qs, ps = acc ++ p :: qs ∧ Toks l' (qs.map cor) := fun h => by
      obtain ⟨qs, h1, h2⟩ := toks_of f _ _ _ _ _ h
      exact ⟨qs, by rw [h1, List.append_assoc]; rfl, h2⟩
    by_cases h1 : l = []
    · rw [if_pos h1] at h
      subst h1
      cases h
      exact ⟨_, rfl, .nil⟩
    rw [if_neg h1] at h
    by_cases h2 : ch l = 10
    · rw [if_pos h2] at h
      obtain ⟨qs, e, t⟩ := toks_of f _ _ _ _ _ h
      exact ⟨qs, e, .blank h1 (.inl h2) t⟩
    rw [if_neg h2] at h
    by_cases h3 : ch l = 32 ∨ ch l = 9
    · rw [if_pos h3] at h
      obtain ⟨qs, e, t⟩ := toks_of f _ _ _ _ _ h
      exact ⟨qs, e, .blank h1 (.inr h3) t⟩
    rw [if_neg h3] at h
    by_cases h4 : ch l = 35
    · rw [if_pos h4] at h
      obtain ⟨qs, e, t⟩ := toks_of f _ _ _ _ _ h
      exact ⟨qs, e, .note h1 h4 t⟩
    rw [if_neg h4] at h
    by_cases h5 : p62 (ch l) = true
    · rw [if_pos h5] at h
      cases hn : numOf (l.take (runL p62 l)) with
      | some u =>
        rw [hn] at h
        obtain ⟨qs, e, t⟩ := one h
        exact ⟨_, e, .num h1 h2 h3 h4 h5 hn t⟩
      | none => rw [hn] at h; cases h
    rw [if_neg h5] at h
    by_cases h6 : p64 (ch l) = true
    · rw [if_pos h6] at h
      obtain ⟨qs, e, t⟩ := one h
      exact ⟨_, e, .word h1 h2 h3 h4 h5 h6 t⟩
    rw [if_neg h6] at h
    by_cases h7 : signL l = 0
    · rw [if_pos h7] at h; cases h
    rw [if_neg h7] at h
    obtain ⟨qs, e, t⟩ := one h
    exact ⟨_, e, .sign h1 h2 h3 h4 h5 h6 h7 t⟩
theorem of_toks {l : List UInt8} {cs : List Cor} (h : Toks l cs) : ∀ (f : Nat) (ln cl : Int) (acc : List Pc), l.length < f → ∃ qs, lexR f l ln cl acc = .ok (acc ++ qs) ∧ qs.map cor = cs := by
  have pos : ∀ {l : List UInt8}, l ≠ [] → 1 ≤ l.length := fun {l} h => by cases l with | nil => exact absurd rfl h | cons => simp
  induction h with
  | nil =>
    intro f ln cl acc hf
    obtain ⟨f, rfl⟩ : ∃ f', f = f' + 1 := ⟨f - 1, by omega⟩
    exact ⟨[⟨0, [], 0, ln, cl⟩], by rw [lexR_succ, if_pos rfl], rfl⟩
  | @blank l cs h hb t ih =>
    intro f ln cl acc hf
    obtain ⟨f, rfl⟩ : ∃ f', f = f' + 1 := ⟨f - 1, by omega⟩
    have := pos h
    rw [lexR_succ, if_neg h]
    by_cases h2 : ch l = 10
    · rw [if_pos h2]
      exact ih f _ _ acc (by rw [List.length_drop]; omega)
    · rw [if_neg h2, if_pos (hb.resolve_left h2)]
      exact ih f _ _ acc (by rw [List.length_drop]; omega)
  | @note l cs h hb t ih =>
    intro f ln cl acc hf
    obtain ⟨f, rfl⟩ : ∃ f', f = f' + 1 := ⟨f - 1, by omega⟩
    have := pos h
    have := run_pos (p := p61) h (by rw [hb]; decide)
    rw [lexR_succ, if_neg h, if_neg (by rw [hb]; decide), if_neg (by rw [hb]; decide), if_pos hb]
    exact ih f _ _ acc (by rw [List.length_drop]; omega)
  | @num l cs u h h1 h2 h3 h4 hu t ih =>
    intro f ln cl acc hf
    obtain ⟨f, rfl⟩ : ∃ f', f = f' + 1 := ⟨f - 1, by omega⟩
    have := pos h
    have := run_pos (p := p62) h h4
    rw [lexR_succ, if_neg h, if_neg h1, if_neg h2, if_neg h3, if_pos h4, hu]
    obtain ⟨qs, e1, e2⟩ := ih f ln (cl + (runL p62 l : Nat)) (acc ++ [⟨1, l.take (runL p62 l), (u : Nat), ln, cl⟩]) (by rw [List.length_drop]; omega)
    exact ⟨⟨1, l.take (runL p62 l), (u : Nat), ln, cl⟩ :: qs, e1.trans (by rw [List.append_assoc]; rfl), by rw [List.map_cons, e2]; rfl⟩
  | @word l cs h h1 h2 h3 h4 h5 t ih =>
    intro f ln cl acc hf
    obtain ⟨f, rfl⟩ : ∃ f', f = f' + 1 := ⟨f - 1, by omega⟩
    have := pos h
    have := run_pos (p := p65) h (by unfold p65; rw [if_pos h5])
    rw [lexR_succ, if_neg h, if_neg h1, if_neg h2, if_neg h3, if_neg h4, if_pos h5]
    obtain ⟨qs, e1, e2⟩ := ih f ln (cl + (runL p65 l : Nat)) (acc ++ [⟨2, l.take (runL p65 l), 0, ln, cl⟩]) (by rw [List.length_drop]; omega)
    exact ⟨⟨2, l.take (runL p65 l), 0, ln, cl⟩ :: qs, by rw [e1, List.append_assoc]; rfl, by rw [List.map_cons, e2]; rfl⟩
  | @sign l cs h h1 h2 h3 h4 h5 h6 t ih =>
    intro f ln cl acc hf
    obtain ⟨f, rfl⟩ : ∃ f', f = f' + 1 := ⟨f - 1, by omega⟩
    have := pos h
    rw [lexR_succ, if_neg h, if_neg h1, if_neg h2, if_neg h3, if_neg h4, if_neg h5, if_neg h6]
    obtain ⟨qs, e1, e2⟩ := ih f ln (cl + (signL l : Nat)) (acc ++ [⟨3, l.take (signL l), 0, ln, cl⟩]) (by rw [List.length_drop]; omega)
    exact ⟨⟨3, l.take (signL l), 0, ln, cl⟩ :: qs, by rw [e1, List.append_assoc]; rfl, by rw [List.map_cons, e2]; rfl⟩
noncomputable def sepL : List (List UInt8) := [[32], [10], [9, 32], [32, 35, 59, 10]]
theorem sep_four {z : List UInt8} (hz : z ∈ sepL) : z = [32] ∨ z = [10] ∨ z = [9, 32] ∨ z = [32, 35, 59, 10] := by
  simpa [sepL] using hz
theorem toks_sep {z : List UInt8} (hz : z ∈ sepL) {x : List UInt8} {cs : List Cor} (h : Toks x cs) : Toks (z ++ x) cs := by
  rcases sep_four hz with rfl | rfl | rfl | rfl
  · exact .blank (by simp) (.inr (.inl rfl)) h
  · exact .blank (by simp) (.inl rfl) h
  · exact .blank (by simp) (.inr (.inr rfl)) (.blank (l := 32 :: x) (by simp) (.inr (.inl rfl)) h)
  · refine .blank (by simp) (.inr (.inl rfl)) (.note (l := 35 :: 59 :: 10 :: x) (by simp) rfl ?_)
    have : runL p61 (35 :: 59 :: 10 :: x) = 2 := by
      unfold runL
      rw [List.takeWhile_cons, if_pos (by decide), List.takeWhile_cons, if_pos (by decide), List.takeWhile_cons, if_neg (by decide)]
      rfl
    rw [this]
    exact .blank (l := 10 :: x) (by simp) (.inl rfl) h
/-- The line that the pieces make. -/
noncomputable def lineC (z : List UInt8) (cs : List Cor) : List UInt8 := (cs.dropLast.flatMap fun c => z ++ c.t) ++ z
theorem line_cons (z : List UInt8) (c : Cor) {cs : List Cor} (h : cs ≠ []) : lineC z (c :: cs) = z ++ (c.t ++ lineC z cs) := by
  unfold lineC
  rw [List.dropLast_cons_of_ne_nil h, List.flatMap_cons, List.append_assoc, List.append_assoc]
theorem line_starts (z : List UInt8) (cs : List Cor) : ∃ y, lineC z cs = z ++ y := by
  unfold lineC
  cases cs.dropLast with
  | nil => exact ⟨[], by simp⟩
  | cons c r => exact ⟨c.t ++ (r.flatMap fun c => z ++ c.t) ++ z, by simp [List.append_assoc]⟩
theorem toks_ne {l : List UInt8} {cs : List Cor} (h : Toks l cs) : cs ≠ [] := by
  induction h with
  | nil => simp
  | blank _ _ _ ih => exact ih
  | note _ _ _ ih => exact ih
  | num => simp
  | word => simp
  | sign => simp
theorem sep_head {z : List UInt8} (hz : z ∈ sepL) : ∃ c r, z = c :: r ∧ (c = 32 ∨ c = 10 ∨ c = 9) := by
  rcases sep_four hz with rfl | rfl | rfl | rfl
  · exact ⟨_, _, rfl, .inl rfl⟩
  · exact ⟨_, _, rfl, .inr (.inl rfl)⟩
  · exact ⟨_, _, rfl, .inr (.inr rfl)⟩
  · exact ⟨_, _, rfl, .inl rfl⟩
/-- A run behind which a blank stands. -/
theorem run_app (p : Int → Bool) {l : List UInt8} {c : UInt8} {r : List UInt8} (hc : p (c.toNat : Nat) = false) : runL p (l.take (runL p l) ++ c :: r) = runL p l := by
  rw [take_run]
  unfold runL
  generalize hq : (fun d : UInt8 => p (d.toNat : Nat)) = q
  have hq' : q c = false := by rw [← hq]; exact hc
  have key : ∀ l : List UInt8, (l.takeWhile q ++ c :: r).takeWhile q = l.takeWhile q := by
    intro l
    induction l with
    | nil => rw [List.takeWhile_nil, List.nil_append, List.takeWhile_cons, if_neg (by rw [hq']; simp)]
    | cons d l ih =>
      rw [List.takeWhile_cons]
      by_cases h : q d = true
      · rw [if_pos h, List.cons_append, List.takeWhile_cons, if_pos h, ih]
      · rw [if_neg h, List.nil_append, List.takeWhile_cons, if_neg (by rw [hq']; simp)]
  rw [key]
theorem ch_app {l : List UInt8} {n : Nat} (hl : l ≠ []) (hn : n ≠ 0) (r : List UInt8) : ch (l.take n ++ r) = ch l := by
  match l, n, hl, hn with
  | c :: l, n + 1, _, _ => rfl
theorem app_ne {l : List UInt8} {n : Nat} (hl : l ≠ []) (hn : n ≠ 0) (r : List UInt8) : l.take n ++ r ≠ [] := by
  match l, n, hl, hn with
  | c :: l, n + 1, _, _ => simp
theorem sign_cases (d : UInt8) (l : List UInt8) : signL (d :: l) = (match l with | e :: _ => if (e == 61 && Lib.contains longB [d, e]) = true then 2 else if Lib.contains shortB [d] = true then 1 else 0 | [] => if Lib.contains shortB [d] = true then 1 else 0) := by
  cases l <;> rfl
theorem sign_app {l : List UInt8} (hl : l ≠ []) (h6 : signL l ≠ 0) {c : UInt8} {r : List UInt8} (hc : c ≠ 61) : signL (l.take (signL l) ++ c :: r) = signL l := by
  have hc' : (c == 61) = false := beq_eq_false_iff_ne.2 hc
  have short : ∀ d : UInt8, Lib.contains shortB [d] = true → signL ([d] ++ c :: r) = 1 := fun d hs => by
    show signL (d :: c :: r) = 1
    rw [sign_cases]
    simp only []
    rw [hc', Bool.false_and, if_neg Bool.false_ne_true, if_pos hs]
  match l, hl with
  | [d], _ =>
    have e : signL [d] = if Lib.contains shortB [d] = true then 1 else 0 := sign_cases d []
    rw [e] at h6
    by_cases hs : Lib.contains shortB [d] = true
    · rw [if_pos hs] at e
      rw [e]; exact short d hs
    · rw [if_neg hs] at h6; exact absurd rfl h6
  | d :: e :: l, _ =>
    have hq : signL (d :: e :: l) = if (e == 61 && Lib.contains longB [d, e]) = true then 2 else if Lib.contains shortB [d] = true then 1 else 0 := sign_cases d (e :: l)
    by_cases hg : (e == 61 && Lib.contains longB [d, e]) = true
    · rw [if_pos hg] at hq
      rw [hq]
      show signL (d :: e :: c :: r) = 2
      rw [sign_cases]
      simp only []
      rw [if_pos hg]
    · rw [if_neg hg] at hq
      by_cases hs : Lib.contains shortB [d] = true
      · rw [if_pos hs] at hq
        rw [hq]; exact short d hs
      · rw [if_neg hs] at hq; exact absurd hq h6
theorem toks_line {z : List UInt8} (hz : z ∈ sepL) {l : List UInt8} {cs : List Cor} (h : Toks l cs) : Toks (lineC z cs) cs := by
  obtain ⟨c, r, hzc, hc⟩ := sep_head hz
  have n62 : p62 (c.toNat : Nat) = false := by rcases hc with rfl | rfl | rfl <;> decide
  have n65 : p65 (c.toNat : Nat) = false := by rcases hc with rfl | rfl | rfl <;> decide
  have n61 : c ≠ 61 := by rcases hc with rfl | rfl | rfl <;> decide
  have ds : ∀ {l : List UInt8} {n : Nat} (y : List UInt8), n ≤ l.length → (l.take n ++ y).drop n = y ∧ (l.take n ++ y).take n = l.take n := fun {l n} y hn => by
    have hlen : (l.take n).length = n := by rw [List.length_take]; omega
    exact ⟨List.drop_left' hlen, List.take_left' hlen⟩
  induction h with
  | nil =>
    have := toks_sep hz Toks.nil
    rw [List.append_nil] at this
    exact this
  | blank _ _ _ ih => exact ih
  | note _ _ _ ih => exact ih
  | @num l cs u h h1 h2 h3 h4 hu t ih =>
    rw [line_cons z _ (toks_ne t)]
    obtain ⟨y, hy⟩ := line_starts z cs
    refine toks_sep hz ?_
    have hr := run_pos (p := p62) h h4
    have hrl := runL_le p62 l
    have hch := ch_app h (n := runL p62 l) (by omega) (lineC z cs)
    have hrun : runL p62 (l.take (runL p62 l) ++ lineC z cs) = runL p62 l := by rw [hy, hzc]; exact run_app p62 n62
    obtain ⟨d1, d2⟩ := ds (lineC z cs) hrl
    have := Toks.num (l := l.take (runL p62 l) ++ lineC z cs) (cs := cs) (u := u) (app_ne h (by omega) _) (by rw [hch]; exact h1) (by rw [hch]; exact h2) (by rw [hch]; exact h3) (by rw [hch]; exact h4) (by rw [hrun, d2]; exact hu) (by rw [hrun, d1]; exact ih)
    rw [hrun, d2] at this
    exact this
  | @word l cs h h1 h2 h3 h4 h5 t ih =>
    rw [line_cons z _ (toks_ne t)]
    obtain ⟨y, hy⟩ := line_starts z cs
    refine toks_sep hz ?_
    have hr := run_pos (p := p65) h (by unfold p65; rw [if_pos h5])
    have hrl := runL_le p65 l
    have hch := ch_app h (n := runL p65 l) (by omega) (lineC z cs)
    have hrun : runL p65 (l.take (runL p65 l) ++ lineC z cs) = runL p65 l := by rw [hy, hzc]; exact run_app p65 n65
    obtain ⟨d1, d2⟩ := ds (lineC z cs) hrl
    have := Toks.word (l := l.take (runL p65 l) ++ lineC z cs) (cs := cs) (app_ne h (by omega) _) (by rw [hch]; exact h1) (by rw [hch]; exact h2) (by rw [hch]; exact h3) (by rw [hch]; exact h4) (by rw [hch]; exact h5) (by rw [hrun, d1]; exact ih)
    rw [hrun, d2] at this
    exact this
  | @sign l cs h h1 h2 h3 h4 h5 h6 t ih =>
    rw [line_cons z _ (toks_ne t)]
    obtain ⟨y, hy⟩ := line_starts z cs
    refine toks_sep hz ?_
    have hrl := sign_le l h
    have hch := ch_app h (n := signL l) h6 (lineC z cs)
    have hrun : signL (l.take (signL l) ++ lineC z cs) = signL l := by rw [hy, hzc]; exact sign_app h h6 n61
    obtain ⟨d1, d2⟩ := ds (lineC z cs) hrl
    have := Toks.sign (l := l.take (signL l) ++ lineC z cs) (cs := cs) (app_ne h h6 _) (by rw [hch]; exact h1) (by rw [hch]; exact h2) (by rw [hch]; exact h3) (by rw [hch]; exact h4) (by rw [hch]; exact h5) (by rw [hrun]; exact h6) (by rw [hrun, d1]; exact ih)
    rw [hrun, d2] at this
    exact this
end Go.Proofs.YtdlghljhgbakjaaDoor

/-
  PART: the law LexTells: from any text.
-/
namespace Go.Proofs.YtdlghljhgbakjaaDoor
open Go.RowKit
theorem runs_of_frz {P : Program} {f : Nat} {fn : Func} {c : Code} (hfit : Fit P) (hfn : P.funcs[f]? = some fn) (hb : fn.body = some c) {ks : List (Bool × List Ck)} (h : ∀ al, ArgsOk ks al → ∃ args, (∀ E vs, Reps E al vs → Reps E args vs) ∧ FrzOk P f args (.lit (.bool true))) : LawRuns P f ks := by
  intro w hg vals al hok hargs
  obtain ⟨args, hA, hF⟩ := h al hok
  rcases hF none (frozenE w hg) w vals (fun v w' => v = .bool true ∧ Quiet w w') (fun _ h => h) (frozenE_ok w hg) (hA _ _ hargs) (fun v w' E' _ _ _ _ hr hq => ⟨by cases hr; rfl, hq⟩) with ⟨u, h1, _⟩ | ⟨_, h2⟩
  · have hname' : ¬ fn.name = "runtime.NumGoroutine" := by simpa using (fit_func hfit hfn hb).2
    have e : Sem.run P (callFunc f vals) w = .ok (.enter f vals) w := by simp [callFunc, hfn, hname', hb]
    rw [e] at h1
    cases h1
  · exact h2
noncomputable section
noncomputable def ks6 : List (Bool × List Ck) := [(false, [.str])]
theorem args_6 {al : List AV} (h : ArgsOk ks6 al) : ∃ l : List UInt8, ∀ E vs, Reps E al vs → Reps E [.v (.string (B l))] vs := by
  unfold ks6 at h
  cases h with | cons h0 t => cases t with | nil =>
  cases h0 with | cons h0 t0 => cases t0 with | nil =>
  cases h0 with
  | str s hs => exact ⟨s.data.toList, fun E vs hv => hv⟩
theorem argsSh6 : argShs Tryd.prog 6 Tryd.f6.params.toList = some ks6 := by kernel_rfl
theorem law6_runs : LawRuns Tryd.prog 6 ks6 := runs_of_frz fitTry Tryd.func6 (c := c6) (by kernel_rfl) fun al hok => by
  obtain ⟨l, hA⟩ := args_6 hok
  exact ⟨_, hA, law6_frz l⟩
end
end Go.Proofs.YtdlghljhgbakjaaDoor

/-
  PART: the law LexBack: its code.
-/
namespace Go.Proofs.YtdlghljhgbakjaaDoor
open Go.RowKit
noncomputable section
noncomputable def c7 : Code := codeOf Tryd.f7
noncomputable def res7 : St → Option AV := resF Tryd.prog Tryd.f7.results.toList
noncomputable def p7 : Code := behind 8 c7
noncomputable def a7 : Code := cl (cl p7)
noncomputable def body7 : Code := cin (cin (cr (cl p7)))
noncomputable def q7 : Code := cr p7
theorem code7 : c7 = seqs (firsts 8 c7) (.seq (.seq a7 (.block 0 (.loop body7))) q7) := by kernel_rfl
noncomputable def r7 : Code := behind 4 q7
theorem codeq7 : q7 = seqs (firsts 4 q7) r7 := by kernel_rfl
noncomputable def b7 : Code := cl (cl r7)
noncomputable def bod7 : Code := cin (cin (cr (cl r7)))
noncomputable def tail7 : Code := cr r7
theorem coder7 : r7 = .seq (.seq b7 (.block 2 (.loop bod7))) tail7 := by kernel_rfl
end
end Go.Proofs.YtdlghljhgbakjaaDoor

/-
  PART: does a piece stand at its place: the code.
-/
namespace Go.Proofs.YtdlghljhgbakjaaDoor
open Go.RowKit
noncomputable section
noncomputable def c30 : Code := codeOf Tryd.f30
noncomputable def res30 : St → Option AV := resF Tryd.prog Tryd.f30.results.toList
noncomputable def a30 : Code := cl (cl (behind 2 c30))
noncomputable def body30 : Code := cin (cin (cr (cl (behind 2 c30))))
noncomputable def tail30 : Code := cr (behind 2 c30)
theorem code30 : c30 = seqs (firsts 2 c30) (.seq (.seq a30 (.block 0 (.loop body30))) tail30) := by kernel_rfl
noncomputable def ds30a : List (Nat × Bool) := [(0, false), (3, false), (5, true), (6, true)]
noncomputable def ds30 : List (Nat × Bool) := [(0, false), (3, false), (5, true), (6, true), (7, true)]
noncomputable def bod30 (dec : List (Nat × Bool)) (s : St) : Tree Lf := (codeE (cx0 (decL dec)) (evs (cx0 (decL dec)) 60) body30 s).map (lfR 0 ds30 true res30)
noncomputable def st30 (s : ByteArray) (pc : List AV) (ln cl i : Int) : St := mkS [(0, .v (.string s)), (3, .ptr 0 0), (5, .v (.int .i64 ln)), (6, .v (.int .i64 cl)), (7, .v (.int .i64 i))] [(0, some (.fix 64 pc))] 1
noncomputable def eqP (ln cl a b : Int) : Bool := if (ln == a) = true then cl == b else false
noncomputable def fit30 (s t : ByteArray) (i : Int) : Bool := decide (wq ((s.size : Int) - i) ≥ (t.size : Int))
noncomputable def hit30 (s t : ByteArray) (i : Int) : Bool := if fit30 s t i = true then if ((s.extract i.toNat (wq (i + (t.size : Int))).toNat).toList == t.toList) = true then !t.toList == (B []).toList else false else false
noncomputable def sd30 (s t : ByteArray) (i : Int) : Prop := fit30 s t i = true → 0 ≤ i ∧ i ≤ wq (i + (t.size : Int)) ∧ wq (i + (t.size : Int)) ≤ (s.size : Int)
section
variable (s : ByteArray) (k : Int) (t : ByteArray) (v a b ln cc i : Int)
noncomputable def st30b (s : ByteArray) (pc : List AV) : St := mkS [(0, .v (.string s)), (3, .ptr 0 0), (5, .v (.int .i64 1)), (6, .v (.int .i64 1))] [(0, some (.fix 64 pc))] 1
theorem u0 : (codeE cx0' (evs cx0' 60) (joins (firsts 2 c30)) (entry [.v (.string s), .agg (pcS k t v a b)])).map (lfR 0 ds30a true res30) = nrm (st30b s (pcS k t v a b)) := by kernel_rfl
theorem u0a : (codeE cx0' (evs cx0' 60) a30 (st30b s (pcS k t v a b))).map (lfR 0 ds30 true res30) = nrm (st30 s (pcS k t v a b) 1 1 0) := by kernel_rfl
theorem u1 : bod30 [(11,true),(25,true),(28,true)] (st30 s (pcS k t v a b) ln cc i) = .side (decide (i ≤ (s.size : Int)) = true) (.side (eqP ln cc a b = true) (.side ((k == 0) = true) (.ret (.out (.v (.bool (i == (s.size : Int)))))))) := by kernel_rfl
theorem u2 : bod30 [(11,true),(25,true),(28,false)] (st30 s (pcS k t v a b) ln cc i) = .side (decide (i ≤ (s.size : Int)) = true) (.side (eqP ln cc a b = true) (.side ((k == 0) = false) (.side (sd30 s t i) (.ret (.out (.v (.bool (hit30 s t i)))))))) := by kernel_rfl
theorem u3 : bod30 [(11,true),(25,false),(62,false),(68,true)] (st30 s (pcS k t v a b) ln cc i) = .side (decide (i ≤ (s.size : Int)) = true) (.side (eqP ln cc a b = false) (.side ((i == (s.size : Int)) = false) (.side (inI s i) (.side ((bI s i == 10) = true) (nrm (st30 s (pcS k t v a b) (wq (ln + 1)) 1 (wq (i + 1)))))))) := by kernel_rfl
theorem u4 : bod30 [(11,true),(25,false),(62,false),(68,false)] (st30 s (pcS k t v a b) ln cc i) = .side (decide (i ≤ (s.size : Int)) = true) (.side (eqP ln cc a b = false) (.side ((i == (s.size : Int)) = false) (.side (inI s i) (.side ((bI s i == 10) = false) (nrm (st30 s (pcS k t v a b) ln (wq (cc + 1)) (wq (i + 1)))))))) := by kernel_rfl
end
theorem plc_lt (T : List UInt8) (i : Nat) : ∀ n, (plc T i).1 < (plc T (i + n + 1)).1 ∨ ((plc T i).1 = (plc T (i + n + 1)).1 ∧ (plc T i).2 < (plc T (i + n + 1)).2)
  | 0 => by
    rw [show i + 0 + 1 = i + 1 from rfl, plc_succ]
    split
    · exact .inl (by show (plc T i).1 < (plc T i).1 + 1; omega)
    · exact .inr ⟨rfl, by show (plc T i).2 < (plc T i).2 + 1; omega⟩
  | n + 1 => by
    have ih := plc_lt T i n
    rw [show i + (n + 1) + 1 = (i + n + 1) + 1 from rfl, plc_succ]
    split
    · refine .inl ?_
      show (plc T i).1 < (plc T (i + n + 1)).1 + 1
      omega
    · rcases ih with h | ⟨h1, h2⟩
      · exact .inl h
      · refine .inr ⟨h1, ?_⟩
        show (plc T i).2 < (plc T (i + n + 1)).2 + 1
        omega
theorem plc_inj {T : List UInt8} {i j : Nat} (h : i < j) : plc T i ≠ plc T j := fun e => by
  have := plc_lt T i (j - i - 1)
  rw [show i + (j - i - 1) + 1 = j by omega, ← e] at this
  omega
/-- A piece stands at a place of a text. -/
noncomputable def Std (T : List UInt8) (p : Pc) : Prop := ∃ j, j ≤ T.length ∧ plc T j = (p.ln, p.cl) ∧ ((p.k = 0 ∧ j = T.length ∧ p.t = []) ∨ (p.k ≠ 0 ∧ p.t ≠ [] ∧ ∃ m, j + m ≤ T.length ∧ p.t = (T.drop j).take m))
theorem stands30 {T : List UInt8} (hT : T.length ≤ 100000) {p : Pc} (hp : Std T p) : FrzOk Tryd.prog 30 [.v (.string (B T)), .agg (pcC p)] (.lit (.bool true)) := by
  obtain ⟨j, hj, hpl, hh⟩ := hp
  obtain ⟨pk, pt, pn, pa, pb⟩ := p
  simp only [] at hpl hh
  let Inv : Nat → St := fun i => st30 (B T) (pcS pk (B pt) pn pa pb) (plc T i).1 (plc T i).2 (i : Nat)
  refine frz_iloop fitTry Tryd.func30 (c := c30) (by kernel_rfl) (by kernel_rfl) (O := fun a => ∀ E v, Rep E a v → Rep E (.lit (.bool true)) v) (cx := cx0') (cx0_ok _) rfl (n := 60) code30 (by kernel_rfl) (by kernel_rfl) (ds0 := ds30a) (gb0 := true) (s1 := st30b (B T) (pcS pk (B pt) pn pa pb)) (ds := ds30) (gb := true)
    Inv (fun i => i ≤ j) (fun i => j - i) (fun _ => False) ?_ ?_ (fun Bt hB hN i hi => ?_) (fun s hs => hs.elim) (fun a h => h)
  · show ((codeE cx0' (evs cx0' 60) (joins (firsts 2 c30)) (entry [.v (.string (B T)), .agg (pcS pk (B pt) pn pa pb)])).map (lfR 0 ds30a true res30)).wp _
    rw [u0]; exact ⟨rfl, rfl⟩
  · show ((codeE cx0' (evs cx0' 60) a30 (st30b (B T) (pcS pk (B pt) pn pa pb))).map (lfR 0 ds30 true res30)).wp _
    rw [u0a]; exact ⟨rfl, 0, fun _ _ => .refl _, Nat.zero_le _⟩
  · have hcode : codeOk Bt.N body30 = true := by rw [hN]; kernel_rfl
    have hle : decide ((i : Int) ≤ ((B T).size : Int)) = true := decide_eq_true (by rw [B_size]; omega)
    have w1 : wq ((i : Int) + 1) = ((i + 1 : Nat) : Int) := wq_in (by omega) (by omega)
    have yes : ∀ {E : Env} {v : Value} {c : Bool}, c = true → Rep E (.v (.bool c)) v → Rep E (.lit (.bool true)) v := fun hc hv => by subst hc; exact lit_of_v _ _ hv
    by_cases hlt : i < j
    · have hne : eqP (plc T i).1 (plc T i).2 pa pb = false := by
        have hn := plc_inj (T := T) hlt
        rw [hpl] at hn
        unfold eqP
        by_cases h1 : (plc T i).1 = pa
        · rw [if_pos (beq_iff_eq.2 h1)]
          exact beq_eq_false_iff_ne.2 fun h2 => hn (Prod.ext h1 h2)
        · rw [if_neg (by simpa using h1)]
      have hni : ((i : Int) == ((B T).size : Int)) = false := by rw [B_size]; exact beq_eq_false_iff_ne.2 (by omega)
      have hin : inI (B T) (i : Nat) := ⟨by omega, by rw [B_size]; omega⟩
      have hb := plc_in T i
      have hsucc := plc_succ T i
      rw [show ((T.getD i 0).toNat : Int) = bI (B T) (i : Nat) by rw [bI_nat]] at hsucc
      by_cases h10 : bI (B T) (i : Nat) = 10
      · rw [if_pos h10] at hsucc
        refine wpc_endH (cx := cx0 (decL [(11,true),(25,false),(62,false),(68,true)])) (n := 60) (ds := ds30) (gb := true) (res := res30) (cx0_ok _) fitTry hcode ?_
        rw [hB]
        show (bod30 [(11,true),(25,false),(62,false),(68,true)] (st30 (B T) (pcS pk (B pt) pn pa pb) (plc T i).1 (plc T i).2 (i : Nat))).wp _
        rw [u3, w1, wq_in (by omega) (by omega)]
        refine ⟨hle, hne, hni, hin, by simp [h10], i + 1, ?_, hlt, by show j - (i + 1) < j - i; omega⟩
        show HoldLe Bt _ (st30 (B T) (pcS pk (B pt) pn pa pb) (plc T (i + 1)).1 (plc T (i + 1)).2 ((i + 1 : Nat) : Int))
        rw [hsucc]; exact .refl _
      · rw [if_neg h10] at hsucc
        refine wpc_endH (cx := cx0 (decL [(11,true),(25,false),(62,false),(68,false)])) (n := 60) (ds := ds30) (gb := true) (res := res30) (cx0_ok _) fitTry hcode ?_
        rw [hB]
        show (bod30 [(11,true),(25,false),(62,false),(68,false)] (st30 (B T) (pcS pk (B pt) pn pa pb) (plc T i).1 (plc T i).2 (i : Nat))).wp _
        rw [u4, w1, wq_in (by omega) (by omega)]
        refine ⟨hle, hne, hni, hin, by simp [h10], i + 1, ?_, hlt, by show j - (i + 1) < j - i; omega⟩
        show HoldLe Bt _ (st30 (B T) (pcS pk (B pt) pn pa pb) (plc T (i + 1)).1 (plc T (i + 1)).2 ((i + 1 : Nat) : Int))
        rw [hsucc]; exact .refl _
    · obtain rfl : i = j := by omega
      have heq : eqP (plc T i).1 (plc T i).2 pa pb = true := by
        rw [hpl]; unfold eqP
        rw [if_pos (beq_iff_eq.2 rfl)]
        exact beq_iff_eq.2 rfl
      rcases hh with ⟨h0, h1, _⟩ | ⟨h0, h1, m, h2, h3⟩
      · refine wpc_endH (cx := cx0 (decL [(11,true),(25,true),(28,true)])) (n := 60) (ds := ds30) (gb := true) (res := res30) (cx0_ok _) fitTry hcode ?_
        rw [hB]
        show (bod30 [(11,true),(25,true),(28,true)] (st30 (B T) (pcS pk (B pt) pn pa pb) (plc T i).1 (plc T i).2 (i : Nat))).wp _
        rw [u1]
        exact ⟨hle, heq, by simp [h0], fun E v hv => yes (by rw [B_size, h1]; simp) hv⟩
      · have hm : m = pt.length := by rw [h3, List.length_take, List.length_drop]; omega
        have hw : wq ((i : Int) + ((B pt).size : Int)) = ((i + pt.length : Nat) : Int) := by rw [B_size, wq_in (by omega) (by omega)]; omega
        have hf : fit30 (B T) (B pt) (i : Nat) = true := by
          unfold fit30
          rw [B_size, B_size, wq_in (by omega) (by omega)]
          exact decide_eq_true (by omega)
        refine wpc_endH (cx := cx0 (decL [(11,true),(25,true),(28,false)])) (n := 60) (ds := ds30) (gb := true) (res := res30) (cx0_ok _) fitTry hcode ?_
        rw [hB]
        show (bod30 [(11,true),(25,true),(28,false)] (st30 (B T) (pcS pk (B pt) pn pa pb) (plc T i).1 (plc T i).2 (i : Nat))).wp _
        rw [u2]
        refine ⟨hle, heq, beq_eq_false_iff_ne.2 h0, fun _ => by rw [hw, B_size]; omega, fun E v hv => yes ?_ hv⟩
        unfold hit30
        rw [if_pos hf, hw, B_extract, B_toList, B_toList, B_toList, Int.toNat_natCast, Int.toNat_natCast, List.drop_take, show i + pt.length - i = m by omega, ← h3, if_pos (beq_iff_eq.2 rfl)]
        cases pt with
        | nil => exact absurd rfl h1
        | cons => rfl
end
end Go.Proofs.YtdlghljhgbakjaaDoor

/-
  PART: the law LexBack, plainly: each piece stands at its place; where there are none.
-/
namespace Go.Proofs.YtdlghljhgbakjaaDoor
open Go.RowKit
theorem lex_std {T : List UInt8} : ∀ (f i : Nat) (acc ps : List Pc), i ≤ T.length → lexR f (T.drop i) (plc T i).1 (plc T i).2 acc = .ok ps → (∀ p ∈ acc, Std T p) → ∀ p ∈ ps, Std T p
  | 0, _, _, _, _, h, _ => by cases h
  | f + 1, i, acc, ps, hi, h, ha => by
    rw [lexR_succ] at h
    have hdd : ∀ n, (T.drop i).drop n = T.drop (i + n) := fun n => by rw [List.drop_drop]
    have go : ∀ n acc', i + n ≤ T.length → lexR f ((T.drop i).drop n) (plc T (i + n)).1 (plc T (i + n)).2 acc' = .ok ps → (∀ p ∈ acc', Std T p) → ∀ p ∈ ps, Std T p := fun n acc' hn h' ha' => lex_std f (i + n) acc' ps hn (by rw [← hdd]; exact h') ha'
    have add : ∀ {p : Pc}, Std T p → ∀ q ∈ acc ++ [p], Std T q := fun hp q hq => by
      rcases List.mem_append.1 hq with h | h
      · exact ha q h
      · obtain rfl := List.mem_singleton.1 h
        exact hp
    by_cases h1 : T.drop i = []
    · rw [if_pos h1] at h
      have hi' : i = T.length := by have := congrArg List.length h1; rw [List.length_drop, List.length_nil] at this; omega
      cases h
      exact add ⟨i, hi, rfl, .inl ⟨rfl, hi', rfl⟩⟩
    rw [if_neg h1] at h
    have hlt : i < T.length := by
      by_cases hh : i < T.length
      · exact hh
      · exact absurd (List.drop_eq_nil_of_le (by omega)) h1
    have hch : ch (T.drop i) = ((T.getD i 0).toNat : Nat) := by rw [← bI_ch, bI_nat]
    have hsucc := plc_succ T i
    rw [← hch] at hsucc
    have hle : ∀ p, runL p (T.drop i) ≤ T.length - i := fun p => by have := runL_le p (T.drop i); rw [List.length_drop] at this; exact this
    have std : ∀ {k v : Int} {n : Nat}, k ≠ 0 → 1 ≤ n → i + n ≤ T.length → Std T ⟨k, (T.drop i).take n, v, (plc T i).1, (plc T i).2⟩ := fun {k v n} hk hn hn' => ⟨i, hi, rfl, .inr ⟨hk, fun e => by
      have := congrArg List.length e
      rw [List.length_take, List.length_drop, List.length_nil] at this
      omega, n, hn', rfl⟩⟩
    by_cases h2 : ch (T.drop i) = 10
    · rw [if_pos h2] at h
      rw [if_pos h2] at hsucc
      exact go 1 acc hlt (by rw [hsucc]; exact h) ha
    rw [if_neg h2] at h
    rw [if_neg h2] at hsucc
    by_cases h3 : ch (T.drop i) = 32 ∨ ch (T.drop i) = 9
    · rw [if_pos h3] at h
      exact go 1 acc hlt (by rw [hsucc]; exact h) ha
    rw [if_neg h3] at h
    by_cases h4 : ch (T.drop i) = 35
    · rw [if_pos h4] at h
      have := hle p61
      exact go (runL p61 (T.drop i)) acc (by omega) (by rw [run_adv T i (by decide)]; exact h) ha
    rw [if_neg h4] at h
    by_cases h5 : p62 (ch (T.drop i)) = true
    · rw [if_pos h5] at h
      have := hle p62
      cases hn : numOf ((T.drop i).take (runL p62 (T.drop i))) with
      | some u =>
        rw [hn] at h
        exact go (runL p62 (T.drop i)) _ (by omega) (by rw [run_adv T i (by decide)]; exact h) (add (std (k := 1) (n := runL p62 (T.drop i)) (by decide) (run_pos h1 h5) (by omega)))
      | none => rw [hn] at h; cases h
    rw [if_neg h5] at h
    by_cases h6 : p64 (ch (T.drop i)) = true
    · rw [if_pos h6] at h
      have := hle p65
      exact go (runL p65 (T.drop i)) _ (by omega) (by rw [run_adv T i (by decide)]; exact h) (add (std (k := 2) (n := runL p65 (T.drop i)) (by decide) (run_pos h1 (by unfold p65; rw [if_pos h6])) (by omega)))
    rw [if_neg h6] at h
    by_cases h7 : signL (T.drop i) = 0
    · rw [if_pos h7] at h; cases h
    rw [if_neg h7] at h
    have hs := sign_le (T.drop i) h1
    rw [List.length_drop] at hs
    exact go (signL (T.drop i)) _ (by omega) (by rw [sign_adv T i h2]; exact h) (add (std (k := 3) (n := signL (T.drop i)) (by decide) (by omega) (by omega)))
theorem lex_bad : ∀ (f : Nat) (l : List UInt8) (ln cl : Int) (acc : List Pc) (e a b : Int), l.length < f → 1 ≤ ln → 1 ≤ cl → lexR f l ln cl acc = .bad e a b → e ≠ 0 ∧ 0 < a ∧ 0 < b
  | 0, l, _, _, _, _, _, _, hf, _, _, _ => absurd hf (Nat.not_lt_zero _)
  | f + 1, l, ln, cl, acc, e, a, b, hf, hln, hcl, h => by
    rw [lexR_succ] at h
    by_cases h1 : l = []
    · rw [if_pos h1] at h; cases h
    rw [if_neg h1] at h
    have hp : 1 ≤ l.length := by cases l with | nil => exact absurd rfl h1 | cons => simp
    have go : ∀ (n : Nat) (ln' cl' : Int) (acc' : List Pc), 1 ≤ n → 1 ≤ ln' → 1 ≤ cl' → lexR f (l.drop n) ln' cl' acc' = .bad e a b → e ≠ 0 ∧ 0 < a ∧ 0 < b := fun n ln' cl' acc' hn a1 a2 h' => lex_bad f (l.drop n) ln' cl' acc' e a b (by rw [List.length_drop]; omega) a1 a2 h'
    by_cases h2 : ch l = 10
    · rw [if_pos h2] at h; exact go 1 _ _ _ (by omega) (by omega) (by omega) h
    rw [if_neg h2] at h
    by_cases h3 : ch l = 32 ∨ ch l = 9
    · rw [if_pos h3] at h; exact go 1 _ _ _ (by omega) (by omega) (by omega) h
    rw [if_neg h3] at h
    by_cases h4 : ch l = 35
    · rw [if_pos h4] at h
      exact go _ _ _ _ (run_pos h1 (by rw [h4]; decide)) (by omega) (by omega) h
    rw [if_neg h4] at h
    by_cases h5 : p62 (ch l) = true
    · rw [if_pos h5] at h
      cases hn : numOf (l.take (runL p62 l)) with
      | some u => rw [hn] at h; exact go _ _ _ _ (run_pos h1 h5) (by omega) (by omega) h
      | none =>
        rw [hn] at h
        cases h
        exact ⟨by decide, by omega, by omega⟩
    rw [if_neg h5] at h
    by_cases h6 : p64 (ch l) = true
    · rw [if_pos h6] at h
      exact go _ _ _ _ (run_pos h1 (by unfold p65; rw [if_pos h6])) (by omega) (by omega) h
    rw [if_neg h6] at h
    by_cases h7 : signL l = 0
    · rw [if_pos h7] at h
      cases h
      exact ⟨by decide, by omega, by omega⟩
    rw [if_neg h7] at h
    exact go _ _ _ _ (Nat.pos_of_ne_zero h7) (by omega) (by omega) h
/-- What the law needs of a text that has pieces. -/
theorem backs_ok {T : List UInt8} {ps : List Pc} (h : lexRes T = .ok ps) {z : List UInt8} (hz : z ∈ sepL) : ps ≠ [] ∧ (∀ p ∈ ps, Std T p) ∧ (∀ p ∈ ps, p.t.length ≤ T.length) ∧ ((lineC z (ps.map cor)).length ≤ 4096 → ∃ qs, lexRes (lineC z (ps.map cor)) = .ok qs ∧ qs.map cor = ps.map cor) := by
  have hl : ¬ T.length > 4096 := fun hl => by unfold lexRes at h; rw [if_pos hl] at h; cases h
  have h' := h
  unfold lexRes at h
  rw [if_neg hl] at h
  obtain ⟨qs, e, t⟩ := toks_of _ _ _ _ _ _ h
  rw [List.nil_append] at e
  subst e
  have hstd := lex_std (T := T) (T.length + 1) 0 [] ps (Nat.zero_le _) h (fun p hp => absurd hp (by simp))
  refine ⟨fun e => toks_ne t (by rw [e]; rfl), hstd, fun p hp => ?_, fun hlen => ?_⟩
  · obtain ⟨j, hj, _, h2⟩ := hstd p hp
    rcases h2 with ⟨_, _, h2⟩ | ⟨_, _, m, hm, e⟩
    · rw [h2]; exact Nat.zero_le _
    · rw [e, List.length_take, List.length_drop]; omega
  · obtain ⟨qs, e1, e2⟩ := of_toks (toks_line hz t) ((lineC z (ps.map cor)).length + 1) 1 1 [] (Nat.lt_succ_self _)
    refine ⟨qs, ?_, e2⟩
    unfold lexRes
    rw [if_neg (by omega), e1, List.nil_append]
end Go.Proofs.YtdlghljhgbakjaaDoor

/-
  PART: the law LexBack: its normal forms.
-/
namespace Go.Proofs.YtdlghljhgbakjaaDoor
open Go.RowKit
noncomputable section
noncomputable def tabY (a : AV) (f : Nat) (args : List AV) : Option (Tree AV) := match f, args with
  | 27, [] => some (.side (FrzOk Tryd.prog 27 [] (.lit (.bool true))) (.ret (.lit (.bool true))))
  | 28, [s] => some (.side (FrzOk Tryd.prog 28 [s] a) (.ret a))
  | 30, [s, p] => some (.side (FrzOk Tryd.prog 30 [s, p] (.lit (.bool true))) (.ret (.lit (.bool true))))
  | _, _ => none
theorem tabY_ok (a : AV) : TabFOk Tryd.prog (tabY a) := by
  intro f args t b ht hh
  unfold tabY at ht
  split at ht
  · cases ht
    obtain ⟨h1, h2⟩ := hh
    cases h2
    exact h1
  · cases ht
    obtain ⟨h1, h2⟩ := hh
    cases h2
    exact h1
  · cases ht
    obtain ⟨h1, h2⟩ := hh
    cases h2
    exact h1
  · cases ht
noncomputable def cxY (a : AV) (dec : Nat → St → Option Bool) : Cx := ⟨Tryd.prog, ctrOf2 noP (tabY a), dec⟩
theorem cxY_ok (a : AV) (dec : Nat → St → Option Bool) : CtrOk (cxY a dec) := ctrOf2_ok noP_ok (tabY_ok a) dec
noncomputable def rnd7 (a : AV) (dec ds : List (Nat × Bool)) (c : Code) (s : St) : Tree Lf := (codeE (cxY a (decL dec)) (evs (cxY a (decL dec)) 60) c s).map (lfR 0 ds true res7)
noncomputable def row5 (n : Nat) (Y : Nat → Pc) : AV := .sl n 5 (gY Y) false false
noncomputable def sA (s : ByteArray) (b : Int) (n : Nat) (Y : Nat → Pc) : St := mkS [(0, .v (.string s)), (1, .v (.int .u8 b)), (5, row5 n Y)] [] 0
noncomputable def sB (s : ByteArray) (b : Int) (n : Nat) (Y : Nat → Pc) (g : Nat → List AV) : St := mkS [(0, .v (.string s)), (1, .v (.int .u8 b)), (5, row5 n Y), (8, .own 0 4 1 true)] [(0, some (.arr 9 4 1 g))] 1
noncomputable def sC (s z : ByteArray) (n : Nat) (Y : Nat → Pc) : St := mkS [(0, .v (.string s)), (5, row5 n Y), (9, .v (.string z))] [] 0
noncomputable def sD (s z w : ByteArray) (n : Nat) (Y : Nat → Pc) : St := mkS [(0, .v (.string s)), (5, row5 n Y), (9, .v (.string z)), (10, .v (.string w))] [] 0
noncomputable def sE (s z w : ByteArray) (n : Nat) (Y : Nat → Pc) (i : Int) : St := mkS [(0, .v (.string s)), (5, row5 n Y), (9, .v (.string z)), (10, .v (.string w)), (11, .v (.int .i64 i))] [] 0
noncomputable def sF (s : ByteArray) (n : Nat) (Y : Nat → Pc) (m : Nat) (V : Nat → Pc) : St := mkS [(0, .v (.string s)), (5, row5 n Y), (12, row5 m V)] [] 0
noncomputable def sG (s : ByteArray) (n : Nat) (Y : Nat → Pc) (m : Nat) (V : Nat → Pc) (i : Int) : St := mkS [(0, .v (.string s)), (5, row5 n Y), (12, row5 m V), (15, .v (.int .i64 i))] [] 0
noncomputable def dA : List (Nat × Bool) := [(0, false), (1, false), (5, false)]
noncomputable def dB : List (Nat × Bool) := [(0, false), (1, false), (5, false), (8, false)]
noncomputable def dC : List (Nat × Bool) := [(0, false), (5, false), (9, true)]
noncomputable def dD : List (Nat × Bool) := [(0, false), (5, false), (9, true), (10, true)]
noncomputable def dE : List (Nat × Bool) := [(0, false), (5, false), (9, true), (10, true), (11, true)]
noncomputable def dF : List (Nat × Bool) := [(0, false), (5, false), (12, false)]
noncomputable def dG : List (Nat × Bool) := [(0, false), (5, false), (12, false), (15, true)]
noncomputable def getOf : Tree Lf → Nat → List AV
  | .ret (.go _ (some s)) => (match hget s.hp 0 with | some (.arr _ _ _ g) => g | _ => fun _ => [])
  | _ => fun _ => []
def mx63 : Nat := 9223372036854775807
noncomputable def F30 (s : ByteArray) (p : Pc) : Prop := FrzOk Tryd.prog 30 [.v (.string s), .agg (pcC p)] (.lit (.bool true))
noncomputable def neT (a b : List UInt8) : Bool := !(B a).toList == (B b).toList
noncomputable def nePc (a b : Pc) : Bool := if (a.k != b.k) = true then true else if neT a.t b.t = true then true else a.n != b.n
noncomputable def sdY (s : ByteArray) (n : Nat) (Y : Nat → Pc) (m : Nat) (V : Nat → Pc) (i : Int) : Prop := ((V i.toNat).k != (Y i.toNat).k) = false → in6 m i ∧ in6 n i ∧ (neT (V i.toNat).t (Y i.toNat).t = false → in6 m i ∧ in6 n i ∧ (((V i.toNat).n != (Y i.toNat).n) = false → in6 n i ∧ F30 s (Y i.toNat)))
noncomputable def ixB (b : Int) : Int := (IntKind.i64.wrap b).tmod ((4 : Nat) : Int)
section
variable (s z w : ByteArray) (b : Int) (n : Nat) (Y : Nat → Pc) (i : Int) (m : Nat) (V : Nat → Pc) (e ln cc : Int) (Z : Nat → List UInt8)
theorem x0 : ((evs (cxW nilR (decL [(18,true)])) 60).call 7 [.v (.string s), .v (.int .u8 b)] .nil).frz = .side (decide ((s.size : Int) > 1500) = true) (.side F27 (.ret (.lit (.bool true)))) := by kernel_rfl
theorem x1 : ((evs (cxW (badV e ln cc) (decL [(18,false),(27,true)])) 60).call 7 [.v (.string s), .v (.int .u8 b)] .nil).frz = .side (decide ((s.size : Int) > 1500) = false) (.side (F28 s (badV e ln cc)) (.side ((e != 0) = true) (.side (decide (ln > 0) = true → decide (cc > 0) = true → F27) (.ret (.v (.bool (if decide (ln > 0) = true then decide (cc > 0) else false))))))) := by kernel_rfl
theorem y1 : rnd7 (okV n Y) [(18,false),(27,false),(51,false)] dA (joins (firsts 5 c7)) (entry [.v (.string s), .v (.int .u8 b)]) = .side (decide ((s.size : Int) > 1500) = false) (.side (F28 s (okV n Y)) (.side (((0 : Int) != 0) = false) (.side ((if ((n : Int) == 0) = true then true else !((0 : Int) == 0 && (0 : Int) == 0)) = false) (nrm (sA s b n Y))))) := by kernel_rfl
noncomputable def g8 (s : ByteArray) (b : Int) (n : Nat) (Y : Nat → Pc) : Nat → List AV := getOf (rnd7 nilR [] dB (cl (behind 5 c7)) (sA s b n Y))
theorem y2 : rnd7 nilR [] dB (cl (behind 5 c7)) (sA s b n Y) = nrm (sB s b n Y (g8 s b n Y)) := by kernel_rfl
theorem g8_0 : g8 s b n Y 0 = [.lit (.string (B [32]))] := by kernel_rfl
theorem g8_1 : g8 s b n Y 1 = [.lit (.string (B [10]))] := by kernel_rfl
theorem g8_2 : g8 s b n Y 2 = [.lit (.string (B [9, 32]))] := by kernel_rfl
theorem g8_3 : g8 s b n Y 3 = [.lit (.string (B [32, 35, 59, 10]))] := by kernel_rfl
theorem y3 : rnd7 nilR [] dC (cl (behind 6 c7)) (sB s b n Y (fun j => [.lit (.string (B (Z j)))])) = .side (((4 : Nat) : Int) ≠ 0) (.side (in6 4 (ixB b)) (.side ((ixB b).toNat < 4) (nrm (sC s (B (Z (ixB b).toNat)) n Y)))) := by kernel_rfl
theorem y4 : rnd7 nilR [] dD (cl (behind 7 c7)) (sC s z n Y) = nrm (sD s z (B []) n Y) := by kernel_rfl
theorem y5 : rnd7 nilR [] dE a7 (sD s z w n Y) = nrm (sE s z w n Y 0) := by kernel_rfl
theorem y6 : rnd7 nilR [(65,false)] dE body7 (sE s z w n Y i) = .side (decide (wq (i + 1) < (n : Int)) = false) (.ret (.go (.exit 0) (some (sE s z w n Y i)))) := by kernel_rfl
theorem y6t : rnd7 nilR [(65,true)] dE body7 (sE s z w n Y i) = .side (decide (wq (i + 1) < (n : Int)) = true) (.side (w.size + z.size ≤ mx63) (.side (in6 n i) (.side ((w ++ z).size + (B (Y i.toNat).t).size ≤ mx63) (nrm (sE s z (w ++ z ++ B (Y i.toNat).t) n Y (wq (i + 1))))))) := by kernel_rfl
theorem y7 : rnd7 nilR [(82,true)] [] (joins (firsts 4 q7)) (sE s z w n Y i) = .side (w.size + z.size ≤ mx63) (.side (decide (((w ++ z).size : Int) > 4096) = true) (.side F27 (.ret (.out (.lit (.bool true)))))) := by kernel_rfl
theorem y8 : rnd7 (okV m V) [(82,false),(98,false)] dF (joins (firsts 4 q7)) (sE s z w n Y i) = .side (w.size + z.size ≤ mx63) (.side (decide (((w ++ z).size : Int) > 4096) = false) (.side (F28 (w ++ z) (okV m V)) (.side ((if ((0 : Int) != 0) = true then true else (m : Int) != n) = false) (nrm (sF s n Y m V))))) := by kernel_rfl
theorem y9 : rnd7 nilR [] dG b7 (sF s n Y m V) = nrm (sG s n Y m V 0) := by kernel_rfl
theorem ya : rnd7 nilR [(102,true),(150,false)] dG bod7 (sG s n Y m V i) = .side (decide (i < (n : Int)) = true) (.side (in6 m i) (.side (in6 n i) (.side (sdY s n Y m V i) (.side (nePc (V i.toNat) (Y i.toNat) = false) (nrm (sG s n Y m V (wq (i + 1)))))))) := by kernel_rfl
theorem yb : rnd7 nilR [(102,false)] dG bod7 (sG s n Y m V i) = .side (decide (i < (n : Int)) = false) (.ret (.go (.exit 2) (some (sG s n Y m V i)))) := by kernel_rfl
theorem yc : rnd7 nilR [] [] tail7 (sG s n Y m V i) = .side F27 (.ret (.out (.lit (.bool true)))) := by kernel_rfl
end
theorem code7a : c7 = seqs (firsts 5 c7) (.seq (cl (behind 5 c7)) (.seq (cl (behind 6 c7)) (.seq (cl (behind 7 c7)) (.seq (.seq a7 (.block 0 (.loop body7))) q7)))) := by kernel_rfl
end
end Go.Proofs.YtdlghljhgbakjaaDoor

/-
  PART: the law LexLimits: its normal forms.
-/
namespace Go.Proofs.YtdlghljhgbakjaaDoor
open Go.RowKit
noncomputable section
noncomputable def rndM (A : AV) (dec ds : List (Nat × Bool)) (c : Code) (s : St) : Tree Lf := (codeE (cxM A (decL dec)) (evs (cxM A (decL dec)) 60) c s).map (lfR 0 ds true res8)
noncomputable def rL : AV := .sl 2 5 (fun j => pcL (accY limP j)) false false
noncomputable def preL : List (Nat × AV) := [(1, rL), (3, il0 0), (5, .ptr 0 0), (6, il0 4)]
noncomputable def plB : Nat × Option Blk := (0, some (.fix 56 [iv 1, iv 3]))
noncomputable def d3 : List (Nat × Bool) := [(1, false), (3, false), (5, false), (6, false)]
noncomputable def arB (n : Nat) (G : Nat → Int) : Nat × Option Blk := (1, some (.arr 5 n 1 (fun j => [.v (.int .u8 (G j))])))
noncomputable def s3 : St := mkS preL [plB] 1
noncomputable def s4 (s : ByteArray) : St := mkS (preL ++ [(7, .v (.string s))]) [plB] 1
noncomputable def s5 (n : Nat) (G : Nat → Int) : St := mkS (preL ++ [(8, .own 1 n 1 false)]) [plB, arB n G] 2
noncomputable def s6 (n : Nat) (G : Nat → Int) (i : Int) : St := mkS (preL ++ [(8, .own 1 n 1 false), (9, .v (.int .i64 i))]) [plB, arB n G] 2
noncomputable def bsG (n : Nat) (G : Nat → Int) : ByteArray := ⟨(((List.range n).map fun j => byteA [.v (.int .u8 (G j))]).map fun z => UInt8.ofNat z.toNat).toArray⟩
noncomputable def okG (n : Nat) (G : Nat → Int) : Prop := ∀ j, j < n → bytesA [.v (.int .u8 (G j))] = some [byteA [.v (.int .u8 (G j))]]
noncomputable def s7 (n : Nat) (G : Nat → Int) (m : Nat) (Y : Nat → Pc) : St := mkS (preL ++ [(8, .own 1 n 1 false), (10, row5 m Y), (12, iv 0)]) [plB, arB n G] 2
noncomputable def zer : ByteArray := ⟨(((List.range (Int.toNat 4096)).map fun _ => byteA [.lit (.int .u8 0)]).map fun z => UInt8.ofNat z.toNat).toArray⟩
section
variable (n : Nat) (G : Nat → Int) (i : Int) (m : Nat) (Y : Nat → Pc) (s : ByteArray) (e ln cc : Int)
theorem z0 : rndM nilR [] d3 (joins (firsts 3 c8)) (entry []) = .side (FrzOk Tryd.prog 28 [.lit (.string (B limT1))] (okL limP)) (.side (FrzOk Tryd.prog 28 [.lit (.string (B limT2))] (badL 4 1 3)) (nrm s3)) := by kernel_rfl
theorem z4 : rndM nilR [] (d3 ++ [(8, false)]) (cl (behind 4 c8)) (s4 s) = nrm (s5 s.size (fun j => (s.data.getD j 0).toNat)) := by kernel_rfl
theorem z5 : rndM nilR [] (d3 ++ [(8, false), (9, true)]) a8 (s5 n G) = nrm (s6 n G 0) := by kernel_rfl
theorem z6t : rndM nilR [(33,true)] (d3 ++ [(8, false), (9, true)]) body8 (s6 n G i) = .side (decide (i < (n : Int)) = true) (.side (in6 n i) (.side (i.toNat < n) (nrm (s6 n (fun j => if decide (j = i.toNat) = true then 32 else G j) (wq (i + 1)))))) := by kernel_rfl
theorem z6f : rndM nilR [(33,false)] (d3 ++ [(8, false), (9, true)]) body8 (s6 n G i) = .side (decide (i < (n : Int)) = false) (.ret (.go (.exit 0) (some (s6 n G i)))) := by kernel_rfl
theorem z7 : rndM (okV m Y) [] (d3 ++ [(8, false), (10, false), (12, true)]) (cl q8') (s6 n G i) = .side (okG n G) (.side (F28 (bsG n G) (okV m Y)) (nrm (s7 n G m Y))) := by kernel_rfl
end
end
end Go.Proofs.YtdlghljhgbakjaaDoor

/-
  PART: the law LexLimits: its last normal forms.
-/
namespace Go.Proofs.YtdlghljhgbakjaaDoor
open Go.RowKit
noncomputable section
noncomputable def s8 (m : Nat) (Y : Nat → Pc) (e ln cc : Int) : St := mkS (preL ++ [(10, row5 m Y), (12, iv 0), (14, .ptr 1 0), (15, iv e)]) [plB, (1, some (.fix 56 [iv ln, iv cc]))] 2
section
variable (n : Nat) (G : Nat → Int) (m : Nat) (Y : Nat → Pc) (e ln cc : Int)
theorem z8 : rndM (badV e ln cc) [] (d3 ++ [(10, false), (12, true), (14, false), (15, true)]) (cl (cr q8')) (s7 n G m Y) = .side (okG n G) (.side ((bsG n G).size + (B [32]).size ≤ mx63) (.side (F28 (bsG n G ++ B [32]) (badV e ln cc)) (nrm (s8 m Y e ln cc)))) := by kernel_rfl
end
end
end Go.Proofs.YtdlghljhgbakjaaDoor

/-
  PART: the law LexLimits answers true.
-/
namespace Go.Proofs.YtdlghljhgbakjaaDoor
open Go.RowKit
noncomputable section
section
variable {Bt : Start} {Q : Ex → St → Prop} {O : AV → Prop}
theorem wpc8 (hB : Bt.nx0 = 0) {A : AV} {dec ds : List (Nat × Bool)} {c : Code} {s : St} (hc : codeOk Bt.N c = true) (h : (rndM A dec ds c s).wp (LfQ Q O)) (ho : ∀ s a, res8 s = some a → O a → Q .ret s) : WpC Tryd.prog Bt c s Q :=
  wpc_of_lfR (B := Bt) (cx := cxM A (decL dec)) (n := 60) (ds := ds) (gb := true) (res := res8) (O := O) (cxM_ok _ _) fitTry hc (by rw [hB]; exact h) ho
theorem stg8 (hB : Bt.nx0 = 0) {A : AV} {dec ds : List (Nat × Bool)} {l : List Code} {c : Code} {s : St} (hl : l ≠ []) (hc : (l.all fun a => codeOk Bt.N a) = true) (h : (rndM A dec ds (joins l) s).wp (LfQ (fun x m => match x with | .norm => WpC Tryd.prog Bt c m Q | x => Q x m) O)) (ho : ∀ s a, res8 s = some a → O a → Q .ret s) : WpC Tryd.prog Bt (seqs l c) s Q :=
  wpc_stageR (B := Bt) (cx := cxM A (decL dec)) (n := 60) (ds := ds) (gb := true) (res := res8) (O := O) (cxM_ok _ _) fitTry hl hc (by rw [hB]; exact h) ho
end
theorem code8a : c8 = seqs (firsts 3 c8) (.seq (cl (behind 3 c8)) (.seq (cl (behind 4 c8)) (.seq (.seq a8 (.block 0 (.loop body8))) (.seq (cl q8') (.seq (cl (cr q8')) (cr (cr q8'))))))) := by kernel_rfl
noncomputable def gI (G : Nat → Int) (i : Nat) : Nat → Int := fun j => if j < i then 32 else G j
theorem gI_step (G : Nat → Int) (i : Nat) : (fun j => if decide (j = (i : Int).toNat) = true then 32 else gI G i j) = gI G (i + 1) := by
  funext j
  unfold gI
  rw [Int.toNat_natCast]
  by_cases h1 : j = i
  · rw [if_pos (decide_eq_true h1), if_pos (by omega)]
  · rw [if_neg (by simp [h1])]
    by_cases h2 : j < i
    · rw [if_pos h2, if_pos (by omega)]
    · rw [if_neg h2, if_neg (by omega)]
theorem byteA_u8 (z : Int) : byteA [.v (.int .u8 z)] = z := rfl
theorem okG_all (n : Nat) (G : Nat → Int) : okG n G := fun j _ => rfl
theorem bsG_blank (G : Nat → Int) (n : Nat) : bsG n (gI G n) = B (List.replicate n 32) := by
  unfold bsG B
  congr 2
  apply List.ext_getElem
  · simp
  · intro i h1 h2
    have hi : i < n := by simpa using h2
    simp only [List.getElem_map, List.getElem_range, List.getElem_replicate, byteA_u8, gI, if_pos hi]
    rfl
theorem z3 : rndM nilR [] (d3 ++ [(7, false)]) (cl (behind 3 c8)) s3 = .side ((0 : Int) ≤ (4096 : Int) ∧ (4096 : Int) = (4096 : Int) ∧ (4096 : Int) < (9223372036854775808 : Int) ∧ (((cxM nilR (decL [])).P.bytesOf (5 : Nat) : Nat) : Int) * (4096 : Int) ≤ (281474976710656 : Int)) (.side (∀ (j : Nat), j < Int.toNat (4096 : Int) → bytesA [AV.lit (Value.int IntKind.u8 0)] = some [byteA [AV.lit (Value.int IntKind.u8 0)]]) (nrm (s4 zer))) := by kernel_rfl
theorem z9 (m : Nat) (Y : Nat → Pc) (e ln cc : Int) : rndM nilR [(77,true),(81,true),(86,true),(90,true),(95,true)] [] (cr (cr q8')) (s8 m Y e ln cc) =
    .side (((2 : Nat) : Int) == (2 : Int) → ((0 : Int) ≤ (0 : Int) ∧ (0 : Int) < ((2 : Nat) : Int)) ∧ ((1 : Int) == (1 : Int) && (3 : Int) == (3 : Int)) = true ∧ ((0 : Int) == (0 : Int)) = true ∧ ((m : Int) == (1 : Int)) = true ∧ (e == (4 : Int)) = true ∧ (ln == (1 : Int) && cc == (1 : Int)) = true ∧ FrzOk Tryd.prog (27 : Nat) [] (AV.lit (Value.bool true))) (.ret (.out (.v (.bool true)))) := by kernel_rfl
noncomputable def OT8 (a : AV) : Prop := ∀ E v, Rep E a v → Rep E (.lit (.bool true)) v
theorem zer_size : zer.size = 4096 := by
  unfold zer
  show (List.toArray _).size = 4096
  rw [List.size_toArray, List.length_map, List.length_map, List.length_range]
  rfl
theorem law8_frz : FrzOk Tryd.prog 8 [] (.lit (.bool true)) := by
  refine frz_of_ends fitTry Tryd.func8 (c := c8) (by kernel_rfl) (Nat.le_of_ble_eq_true (by kernel_rfl)) (O := OT8) (fun E w hd hf => ?_) fun a' h => h
  rw [code8a]
  refine stg8 (O := OT8) rfl (A := nilR) (dec := []) (ds := d3) (by simp [firsts]) (by kernel_rfl) ?_ ends_ret
  rw [z0]
  refine ⟨frz28_lit lim1 fun _ _ => okL_of, frz28_lit lim2 fun _ _ => badL_of, ?_⟩
  show WpC _ _ _ _ _
  refine stg8 (O := OT8) rfl (A := nilR) (dec := []) (ds := d3 ++ [(7, false)]) (l := [cl (behind 3 c8)]) (by simp) (by kernel_rfl) ?_ ends_ret
  show (rndM nilR [] (d3 ++ [(7, false)]) (cl (behind 3 c8)) s3).wp _
  rw [z3]
  have hby : (cxM nilR (decL [])).P.bytesOf (5 : Nat) = 1 := by kernel_rfl
  refine ⟨⟨by decide, rfl, by decide, by rw [hby]; decide⟩, fun _ _ => rfl, ?_⟩
  show WpC _ _ _ _ _
  refine stg8 (O := OT8) rfl (A := nilR) (dec := []) (ds := d3 ++ [(8, false)]) (l := [cl (behind 4 c8)]) (by simp) (by kernel_rfl) ?_ ends_ret
  show (rndM nilR [] (d3 ++ [(8, false)]) (cl (behind 4 c8)) (s4 zer)).wp _
  rw [z4, zer_size]
  show WpC _ _ _ _ _
  generalize (fun j => ((zer.data.getD j 0).toNat : Int)) = G
  refine wpc_ioloop (cx := cxM nilR (decL [])) (n := 60) (ds := d3 ++ [(8, false), (9, true)]) (gb := true) (res := res8) (O := OT8) (cxM_ok _ _) fitTry (fun i : Nat => s6 4096 (gI G i) (i : Nat)) (fun i => i ≤ 4096) (fun i => 4096 - i) (fun s => s = s6 4096 (gI G 4096) (4096 : Nat)) (by kernel_rfl) ?_ (fun i hi => ?_) ends_ret (fun s hs => ?_)
  · show (rndM nilR [] (d3 ++ [(8, false), (9, true)]) a8 (s5 4096 G)).wp _
    rw [z5]
    exact ⟨rfl, 0, .refl _, Nat.zero_le _⟩
  · have w1 : wq ((i : Int) + 1) = ((i + 1 : Nat) : Int) := by rw [wq_in (by omega) (by omega)]; rfl
    by_cases hlt : i < 4096
    · refine wpc_endH (cx := cxM nilR (decL [(33,true)])) (n := 60) (ds := d3 ++ [(8, false), (9, true)]) (gb := true) (res := res8) (cxM_ok _ _) fitTry (by kernel_rfl) ?_
      show (rndM nilR [(33,true)] (d3 ++ [(8, false), (9, true)]) body8 (s6 4096 (gI G i) (i : Nat))).wp _
      rw [z6t, w1, gI_step]
      exact ⟨decide_eq_true (by omega), ⟨by omega, by omega⟩, by omega, i + 1, .refl _, hlt, by show 4096 - (i + 1) < 4096 - i; omega⟩
    · refine wpc_endH (cx := cxM nilR (decL [(33,false)])) (n := 60) (ds := d3 ++ [(8, false), (9, true)]) (gb := true) (res := res8) (cxM_ok _ _) fitTry (by kernel_rfl) ?_
      show (rndM nilR [(33,false)] (d3 ++ [(8, false), (9, true)]) body8 (s6 4096 (gI G i) (i : Nat))).wp _
      rw [z6f]
      obtain rfl : i = 4096 := by omega
      exact ⟨decide_eq_false (by omega), rfl, _, .refl _, rfl⟩
  · subst hs
    obtain ⟨b, hb⟩ := lim_ok (n := 4096) (Nat.le_refl _)
    have hF := lex28 (List.replicate 4096 32)
    rw [hb] at hF
    have hG := lex28 (List.replicate 4097 32)
    rw [lim_bad (by omega)] at hG
    let Y := accY [(⟨0, [], 0, 1, b⟩ : Pc)]
    refine stg8 (O := OT8) rfl (A := okV 1 Y) (dec := []) (ds := d3 ++ [(8, false), (10, false), (12, true)]) (l := [cl q8']) (by simp) (by kernel_rfl) ?_ ends_ret
    show (rndM (okV 1 Y) [] (d3 ++ [(8, false), (10, false), (12, true)]) (cl q8') (s6 4096 (gI G 4096) (4096 : Nat))).wp _
    rw [z7, bsG_blank]
    refine ⟨okG_all _ _, hF, ?_⟩
    show WpC _ _ _ _ _
    refine stg8 (O := OT8) rfl (A := badV 4 1 1) (dec := []) (ds := d3 ++ [(10, false), (12, true), (14, false), (15, true)]) (l := [cl (cr q8')]) (by simp) (by kernel_rfl) ?_ ends_ret
    show (rndM (badV 4 1 1) [] (d3 ++ [(10, false), (12, true), (14, false), (15, true)]) (cl (cr q8')) (s7 4096 (gI G 4096) 1 Y)).wp _
    rw [z8, bsG_blank]
    have hs : (B (List.replicate 4096 32)).size + (B [32]).size ≤ mx63 := by rw [B_size, B_size, List.length_replicate]; decide
    have he : B (List.replicate 4096 32) ++ B [32] = B (List.replicate 4097 32) := by
      rw [B_app, List.replicate_succ' (n := 4096)]
    refine ⟨okG_all _ _, hs, by rw [he]; exact hG, ?_⟩
    show WpC _ _ _ _ _
    refine wpc8 (O := OT8) rfl (A := nilR) (dec := [(77,true),(81,true),(86,true),(90,true),(95,true)]) (ds := []) (by kernel_rfl) ?_ ends_ret
    show (rndM nilR [(77,true),(81,true),(86,true),(90,true),(95,true)] [] (cr (cr q8')) (s8 1 Y 4 1 1)).wp _
    rw [z9]
    exact ⟨fun _ => ⟨⟨by decide, by decide⟩, rfl, rfl, rfl, rfl, rfl, wakes27⟩, fun E v hv => lit_of_v _ _ hv⟩
theorem argsSh8 : argShs Tryd.prog 6 Tryd.f8.params.toList = some [] := by kernel_rfl
theorem law8_runs : LawRuns Tryd.prog 8 [] := runs_of_frz fitTry Tryd.func8 (c := c8) (by kernel_rfl) fun al hok => by
  cases hok
  exact ⟨[], fun E vs hv => hv, law8_frz⟩
end
end Go.Proofs.YtdlghljhgbakjaaDoor
