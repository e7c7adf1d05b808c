/-
  PART: the evaluator: operations, regions, code, calls. (Definitions alone.)
-/
import Derived.Test.YtdlghljhgbakjaaDoorEN0
import Derived.Laws.ComplexArith
namespace Go.Proofs.YtdlghljhgbakjaaDoor
open Go.RowKit

structure Cx where
  P : Program
  ctr : Nat → List AV → St → Option (Tree (AV × St))
  dec : Nat → Option Bool    -- which way is taken at an open truth in a slot, if it is known
structure Evs where
  code : Code → St → Tree (Ex × St)
  call : Nat → List AV → St → Tree (AV × St)
  jump : Code → Code → St → Tree (Ex × St)    -- in a scope: what stands from a label on

def sizeO (P : Program) (t : TypeId) : Option Nat := match P.info? t with
  | some i => some i.size
  | none => none
def aggO (P : Program) (t : TypeId) : Option Bool := match P.underlying t with
  | some (.struct _) => some true
  | some (.array _ _) => some true
  | some _ => some false
  | none => none
def zeroO (P : Program) (t : TypeId) : Option (List AV) := match P.info? t with
  | some i => match i.zero with
    | some z => match z.cells.toList.all one1 with
      | true => some (z.cells.toList.map .lit)
      | false => none
    | none => none
  | none => none
def cellsA : AV → List AV
  | .agg l => l
  | a => [a]
/-- No value that a variable may hold, or none that is known. -/
def badA : AV → Bool
  | .tup _ => true
  | .unk => true
  | _ => false
def intOf : AV → Option (Int × Bool)
  | .lit (.int _ z) => some (z, true)
  | .v (.int _ z) => some (z, false)
  | _ => none
/-- Some cells of a row, as a value. -/
def cut (cs : List AV) (off n : Nat) (ag : Bool) : Option AV := match Nat.ble (off + n) cs.length with
  | true => match ag with
    | true => some (.agg ((cs.drop off).take n))
    | false => match n with
      | 1 => cs[off]?
      | _ => none
  | false => none
def splice (cs : List AV) (off : Nat) (new : List AV) : List AV := cs.take off ++ (new ++ cs.drop (off + new.length))
/-- One of n, by an open index. -/
def pickI (i : Int) (f : Nat → Option AV) : Nat → Option AV
  | 0 => none
  | 1 => f 0
  | k + 2 => match f (k + 1), pickI i f (k + 1) with
    | some a, some b => mux muxD (decide (i = ((k + 1 : Nat) : Int))) a b
    | _, _ => none
/-- An index that is in range: closed ones are looked at, open ones owed. -/
def within {α : Type} (l : Bool) (z : Int) (n : Nat) (t : Tree α) : Tree α := match l with
  | true => match decide (0 ≤ z) && decide (z < (n : Int)) with
    | true => t
    | false => .fail
  | false => .side (0 ≤ z ∧ z < (n : Int)) t
def below {α : Type} (l : Bool) (i n : Nat) (t : Tree α) : Tree α := match l with
  | true => match Nat.blt i n with
    | true => t
    | false => .fail
  | false => .side (i < n) t
def loadA (P : Program) (t : TypeId) (a : AV) (st : St) : Tree (AV × St) :=
  match sizeO P t, aggO P t with
  | some n, some ag => match a with
    | .ptr x off => match hget st.hp x with
      | some (.fix _ cs) => match cut cs off n ag with
        | some r => .ret (r, st.read x)
        | none => .fail
      | _ => .fail
    | .pti x base i str m off => match hget st.hp x with
      | some (.fix _ cs) => match pickI i (fun j => cut cs (base + j * str + off) n ag) m with
        | some r => .ret (r, st.read x)
        | none => .fail
      | _ => .fail
    | .pe x i k off il => match hget st.hp x with
      | some (.arr _ m k' get) => match Nat.beq k k', cut (get i) off n ag with
        | true, some r => below il i m (.ret (r, st.read x))
        | _, _ => .fail
      | _ => .fail
    | .fz cs off => match cut cs off n ag with
      | some r => .ret (r, st)
      | none => .fail
    | _ => .fail
  | _, _ => .fail
/-- Cells written at an open index: each place is muxed. -/
def spliceI (i : Int) (cs : List AV) (base str off : Nat) (new : List AV) : Nat → Option (List AV)
  | 0 => some cs
  | j + 1 => match spliceI i cs base str off new j with
    | some cs => match Nat.ble (base + j * str + off + new.length) cs.length with
      | true => match zipO (mux muxD (decide (i = (j : Int)))) new ((cs.drop (base + j * str + off)).take new.length) with
        | some r => some (splice cs (base + j * str + off) r)
        | none => none
      | false => none
    | none => none
def storeA (P : Program) (t : TypeId) (a v : AV) (st : St) : Tree (AV × St) :=
  match sizeO P t with
  | some n => match badA v, Nat.beq (cellsA v).length n with
    | false, true => match a with
      | .ptr x off => match hget st.hp x with
        | some (.fix ty cs) => match Nat.ble (off + n) cs.length with
          | true => .ret (.unk, st.writeAt x (some (.fix ty (splice cs off (cellsA v)))) off n)
          | false => .fail
        | _ => .fail
      | .pti x base i str m off => match hget st.hp x with
        | some (.fix ty cs) => match spliceI i cs base str off (cellsA v) m with
          | some cs' => .ret (.unk, st.write x (some (.fix ty cs')))
          | none => .fail
        | _ => .fail
      | .pe x i k off il => match hget st.hp x with
        | some (.arr ty m k' get) => match Nat.beq k k' && Nat.ble (off + n) k with
          | true => below il i m (.ret (.unk, st.write x (some (.arr ty m k fun j => fit k (zipU (mux muxD (decide (j = i))) (splice (get i) off (cellsA v)) (get j))))))
          | false => .fail
        | _ => .fail
      | _ => .fail
    | _, _ => .fail
  | none => .fail
def addOff : AV → Nat → Option AV
  | .ptr x off, o => some (.ptr x (off + o))
  | .pti x b i s n off, o => some (.pti x b i s n (off + o))
  | .pe x i k off il, o => some (.pe x i k (off + o) il)
  | .fz cs off, o => some (.fz cs (off + o))
  | _, _ => none
def fieldAddrA (P : Program) (s : TypeId) (x : AV) (f : Nat) : Option AV := match P.underlying s with
  | some (.struct fs) => match fs[f]? with
    | some fd => match sizeO P fd.type with
      | some (_ + 1) => addOff x fd.offset
      | _ => none
    | none => none
  | _ => none
def fieldA (P : Program) (s : TypeId) (x : AV) (f : Nat) : Option AV := match P.underlying s, x with
  | some (.struct fs), .agg cs => match fs[f]? with
    | some fd => match sizeO P fd.type, aggO P fd.type with
      | some n, some ag => cut cs fd.offset n ag
      | _, _ => none
    | none => none
  | _, _ => none
def indexAddrA (P : Program) (t : TypeId) (x i : AV) : Tree AV := match P.underlying t, intOf i with
  | some (.array len elem), some (z, lt) => match sizeO P elem, lt with
    | some k, true => match decide (0 ≤ z) && decide (z < (len : Int)) with
      | true => ofO (addOff x (z.toNat * k))
      | false => .fail
    | some k, false => match x with
      | .ptr b off => .side (0 ≤ z ∧ z < (len : Int)) (.ret (.pti b off z k len 0))
      | _ => .fail
    | none, _ => .fail
  | some (.slice elem), some (z, lt) => match sizeO P elem with
    | some k => match x with
      | .sl n k' get nl _ => match Nat.beq k k' with
        | true => within (lt && nl) z n (.ret (.fz (get z.toNat) 0))
        | false => .fail
      | .own y n k' nl => match Nat.beq k k' with
        | true => within (lt && nl) z n (.ret (.pe y z.toNat k 0 (lt && nl)))
        | false => .fail
      | .slv y off n k' => match Nat.beq k k', lt with
        | true, true => match decide (0 ≤ z) && decide (z < (n : Int)) with
          | true => .ret (.ptr y (off + z.toNat * k))
          | false => .fail
        | true, false => .side (0 ≤ z ∧ z < (n : Int)) (.ret (.pti y off z k n 0))
        | false, _ => .fail
      | _ => .fail
    | none => .fail
  | _, _ => .fail
def indexA (P : Program) (t : TypeId) (x i : AV) : Tree AV := match P.underlying t, x, intOf i with
  | some (.array len elem), .agg cs, some (z, lt) => match sizeO P elem, aggO P elem, lt with
    | some k, some ag, true => match decide (0 ≤ z) && decide (z < (len : Int)) with
      | true => ofO (cut cs (z.toNat * k) k ag)
      | false => .fail
    | some k, some ag, false => match pickI z (fun j => cut cs (j * k) k ag) len with
      | some r => .side (0 ≤ z ∧ z < (len : Int)) (.ret r)
      | none => .fail
    | _, _, _ => .fail
  | some .string, .lit (.string s), some (z, true) => match (if 0 ≤ z then s[z.toNat]? else none) with
    | some b => .ret (.lit (.int .u8 b.toNat))
    | none => .fail
  | some .string, .lit (.string s), some (z, false) => .side (0 ≤ z ∧ z < (s.size : Int)) (.ret (.v (.int .u8 (s.data.getD z.toNat 0).toNat)))
  | some .string, .v (.string s), some (z, _) => .side (0 ≤ z ∧ z < (s.size : Int)) (.ret (.v (.int .u8 (s.data.getD z.toNat 0).toNat)))
  | _, _, _ => .fail
/-- Parts laid into a row. -/
def fillA (place : Nat → Option (Nat × Nat)) : List (Nat × AV) → List AV → Option (List AV)
  | [], cs => some cs
  | (i, a) :: l, cs => match place i with
    | some (off, n) => match badA a, Nat.beq (cellsA a).length n && Nat.ble (off + n) cs.length with
      | false, true => fillA place l (splice cs off (cellsA a))
      | _, _ => none
    | none => none
def buildA (P : Program) (t : TypeId) (parts : List (Nat × AV)) : Option AV := match zeroO P t with
  | some cs => match P.underlying t with
    | some (.struct fs) => match fs.toList.all (fun f => (sizeO P f.type).isSome) with
      | true => match fillA (fun i => match fs[i]? with
          | some f => match sizeO P f.type with
            | some n => some (f.offset, n)
            | none => none
          | none => none) parts cs with
        | some r => some (.agg r)
        | none => none
      | false => none
    | some (.array _ elem) => match sizeO P elem with
      | some k => match fillA (fun i => some (i * k, k)) parts cs with
        | some r => some (.agg r)
        | none => none
      | none => none
    | _ => none
  | none => none
def reps : Nat → List AV → List AV
  | 0, _ => []
  | n + 1, l => l ++ reps n l
def rowGet (k : Nat) (cs : List AV) (i : Nat) : List AV := (cs.drop (i * k)).take k
def buildSliceA (P : Program) (t : TypeId) (len : Nat) (parts : List (Nat × AV)) (st : St) : Tree (AV × St) := match P.underlying t with
  | some (.slice elem) => match sizeO P elem, zeroO P elem with
    | some k, some z => match Nat.ble (len * k) 16777216 && Nat.beq z.length k && Nat.ble 1 k with
      | true => match fillA (fun i => some (i * k, k)) parts (reps len z) with
        | some cs => .ret (.own st.nx len k true, st.new (.arr elem len k (rowGet k cs)))
        | none => .fail
      | false => .fail
    | _, _ => .fail
  | _ => .fail
def makeSliceA (P : Program) (t : TypeId) (len cap : AV) (st : St) : Tree (AV × St) := match P.underlying t, intOf len, intOf cap with
  | some (.slice elem), some (n, lt), some (c, _) => match sizeO P elem, zeroO P elem with
    | some k, some z => match Nat.beq z.length k && Nat.ble 1 k with
      | true => .side (0 ≤ n ∧ c = n ∧ n < 9223372036854775808 ∧ (P.bytesOf elem : Int) * n ≤ 281474976710656)
          (.ret (.own st.nx n.toNat k lt, st.new (.arr elem n.toNat k fun _ => z)))
      | false => .fail
    | _, _ => .fail
  | _, _, _ => .fail

/-! Rows as operands: what they hold. -/
structure Row where
  n : Nat
  nl : Bool
  get : Nat → List AV
/-- What a slice or a string's bytes hold (cells of k); blocks that are looked at. -/
def rowOf (st : St) (k : Nat) : AV → Option (Row × List Nat)
  | .lit (.slice none 0 0) => some (⟨0, true, fun _ => fit k []⟩, [])
  | .sl n k' get nl _ => match Nat.beq k k' with
    | true => some (⟨n, nl, get⟩, [])
    | false => none
  | .own x n k' nl => match Nat.beq k k', hget st.hp x with
    | true, some (.arr _ _ k'' get) => match Nat.beq k k'' with
      | true => some (⟨n, nl, get⟩, [x])
      | false => none
    | _, _ => none
  | .slv x off n k' => match Nat.beq k k', hget st.hp x with
    | true, some (.fix _ cs) => match Nat.ble (off + n * k) cs.length with
      | true => some (⟨n, true, fun i => (cs.drop (off + i * k)).take k⟩, [x])
      | false => none
    | _, _ => none
  | .lit (.string s) => match Nat.beq k 1 with
    | true => some (⟨s.size, true, fun i => [.lit (.int .u8 (s.data.getD i 0).toNat)]⟩, [])
    | false => none
  | .v (.string s) => match Nat.beq k 1 with
    | true => some (⟨s.size, false, fun i => [.v (.int .u8 (s.data.getD i 0).toNat)]⟩, [])
    | false => none
  | _ => none
def catGet (k : Nat) (r s : Row) : Nat → List AV := match r.nl with
  | true => fun i => match Nat.ble r.n i with
    | true => s.get (i - r.n)
    | false => r.get i
  | false => fun i => fit k (zipU (mux muxD (decide (i < r.n))) (r.get i) (s.get (i - r.n)))
def maxAppend : Nat := 2 ^ 40
def appendA (P : Program) (sT : TypeId) (s x : AV) (st : St) : Tree (AV × St) := match P.underlying sT with
  | some (.slice elem) => match sizeO P elem, zeroO P elem with
    | some k, some z => match Nat.beq z.length k && Nat.ble 1 k, rowOf st k s, rowOf st k x with
      | true, some (r, _), some (q, xs) =>
        let st := xs.foldl St.read st
        let go (st : St) : Tree (AV × St) := .side ((r.n + q.n) * P.bytesOf elem ≤ maxAppend ∧ r.n + q.n ≤ maxAppend)
          (.ret (.own st.nx (r.n + q.n) k (r.nl && q.nl), st.new (.arr elem (r.n + q.n) k (catGet k r q))))
        match s with
        | .own y .. => match xs.elem y with
          | true => .fail
          | false => match hget st.hp y with
            | some (.arr ty _ _ _) => match Nat.beq ty elem with
              | true => go (st.write y none)
              | false => .fail
            | _ => .fail
        | .lit v => match isNilSl v with
          | true => go st
          | false => .fail
        | .sl _ _ _ _ true => match q.nl && Nat.ble 1 q.n with
          | true => go st
          | false => .fail
        | _ => .fail
      | _, _, _ => .fail
    | _, _ => .fail
  | _ => .fail
def lenA (P : Program) (t : TypeId) (x : AV) : Option AV := match P.underlying t, x with
  | some .string, .lit (.string s) => some (.lit (.int .i64 s.size))
  | some .string, .v (.string s) => some (.v (.int .i64 s.size))
  | some (.array n _), _ => some (.lit (.int .i64 n))
  | some (.slice _), .lit (.slice _ n _) => some (.lit (.int .i64 n))
  | some (.slice _), .sl n _ _ nl _ => match nl with
    | true => some (.lit (.int .i64 n))
    | false => some (.v (.int .i64 n))
  | some (.slice _), .own _ n _ nl => match nl with
    | true => some (.lit (.int .i64 n))
    | false => some (.v (.int .i64 n))
  | some (.slice _), .slv _ _ n _ => some (.lit (.int .i64 n))
  | _, _ => none
/-- Bounds of a slice operation that are in order (no capacity beyond the length is used). -/
def boundA (dflt : Int × Bool) : Option AV → Option (Int × Bool)
  | none => some dflt
  | some a => intOf a
def sliceA (P : Program) (t : TypeId) (x : AV) (lo hi mx : Option AV) (st : St) : Tree (AV × St) :=
  match P.underlying t with
  | some .string => match x, mx with
    | .lit (.string s), none => match boundA (0, true) lo, boundA (s.size, true) hi with
      | some (l, ll), some (h, hl) => .side (0 ≤ l ∧ l ≤ h ∧ h ≤ (s.size : Int)) (.ret ((match ll && hl with | true => AV.lit | false => AV.v) (.string (s.extract l.toNat h.toNat)), st))
      | _, _ => .fail
    | .v (.string s), none => match boundA (0, true) lo, boundA (s.size, false) hi with
      | some (l, _), some (h, _) => .side (0 ≤ l ∧ l ≤ h ∧ h ≤ (s.size : Int)) (.ret (.v (.string (s.extract l.toNat h.toNat)), st))
      | _, _ => .fail
    | _, _ => .fail
  | some (.slice elem) => match x with
    | .sl n k get nl full => match boundA (0, true) lo, boundA (n, nl) hi, boundA (0, true) mx, (match sizeO P elem with | some k' => Nat.beq k k' | none => false) with
      | some (l, ll), some (h, hl), some (m, _), true =>
        .side (0 ≤ l ∧ l ≤ h ∧ h ≤ (n : Int) ∧ (mx.isSome = true → m = h))
          (.ret (.sl (h.toNat - l.toNat) k (fun i => get (l.toNat + i)) (ll && hl) (mx.isSome || (full && hi.isNone)), st))
      | _, _, _, _ => .fail
    | _ => .fail
  | some (.array n elem) => match x, mx, sizeO P elem with
    | .ptr y off, none, some k => match boundA (0, true) lo, boundA (n, true) hi with
      | some (l, true), some (h, true) => match decide (l = 0) && decide (h = (n : Int)) with
        | true => .ret (.slv y off n k, st)
        | false => .fail
      | _, _ => .fail
    | _, _, _ => .fail
  | _ => .fail

/-! Equality. -/
def boolOf : AV → Option (Bool × Bool)
  | .lit (.bool b) => some (b, true)
  | .v (.bool b) => some (b, false)
  | _ => none
def andA (a b : AV) : Option AV := match boolOf a, boolOf b with
  | some (x, true), some (y, true) => some (.lit (.bool (x && y)))
  | some (x, true), some (y, false) => match x with
    | true => some (.v (.bool y))
    | false => some (.lit (.bool false))
  | some (x, false), some (y, true) => match y with
    | true => some (.v (.bool x))
    | false => some (.lit (.bool false))
  | some (x, false), some (y, false) => some (.v (.bool (x && y)))
  | _, _ => none
def notA : AV → Option AV
  | .lit (.bool b) => some (.lit (.bool !b))
  | .v (.bool b) => some (.v (.bool !b))
  | _ => none
def allEq (f : Nat → Option AV) : Nat → Option AV
  | 0 => some (.lit (.bool true))
  | n + 1 => match allEq f n, f n with
    | some a, some b => andA a b
    | _, _ => none
def allEqF (f : Field → Option AV) : List Field → Option AV
  | [] => some (.lit (.bool true))
  | x :: l => match f x, allEqF f l with
    | some a, some b => andA a b
    | _, _ => none
def eqScal : TypeDesc → Value → Value → Option Bool
  | .bool, .bool a, .bool b => some (a == b)
  | .int _, .int k a, .int k' b => match decide (k = k') with
    | true => some (a == b)
    | false => none
  | .float _, .float k a, .float k' b => match decide (k = k') with
    | true => some (Op.floatEq k a b)
    | false => none
  | .complex _, .complex k a b, .complex k' a' b' => match decide (k = k') with
    | true => some (Op.floatEq k a a' && Op.floatEq k b b')
    | false => none
  | .string, .string a, .string b => some (a == b)
  | _, _, _ => none
def eqLeaf (d : TypeDesc) (a b : AV) : Option AV := match scal a, scal b with
  | some (x, lx), some (y, ly) => match eqScal d x y with
    | some r => some (match lx && ly with | true => .lit (.bool r) | false => .v (.bool r))
    | none => none
  | _, _ => none
def eqT (P : Program) : Nat → TypeId → AV → AV → Option AV
  | 0, _, _, _ => none
  | d + 1, t, a, b => match P.underlying t with
    | some (.struct fs) => match a, b with
      | .agg xs, .agg ys => match P.stoodInHeld t with
        | false => allEqF (fun f => match f.name == "_" with
          | true => some (.lit (.bool true))
          | false => match sizeO P f.type, aggO P f.type with
            | some n, some ag => match cut xs f.offset n ag, cut ys f.offset n ag with
              | some x, some y => eqT P d f.type x y
              | _, _ => none
            | _, _ => none) fs.toList
        | true => none
      | _, _ => none
    | some (.array len e) => match a, b with
      | .agg xs, .agg ys => match sizeO P e, aggO P e with
        | some n, some ag => allEq (fun i => match cut xs (i * n) n ag, cut ys (i * n) n ag with
          | some x, some y => eqT P d e x y
          | _, _ => none) len
        | _, _ => none
      | _, _ => none
    | some (.interface _) => none
    | some (.pointer _) => match a, b with
      | .fz .., .lit (.pointer none) => some (.lit (.bool false))
      | .ptr .., .lit (.pointer none) => some (.lit (.bool false))
      | .lit (.pointer none), .fz .. => some (.lit (.bool false))
      | .lit (.pointer none), .ptr .. => some (.lit (.bool false))
      | .lit (.pointer none), .lit (.pointer none) => some (.lit (.bool true))
      | _, _ => none
    | some (.func ..) => match a, b with
      | .fn .., .lit .nilFunc => some (.lit (.bool false))
      | .lit .nilFunc, .lit .nilFunc => some (.lit (.bool true))
      | _, _ => none
    | some (.slice _) => match a, b with
      | .lit (.slice none 0 0), .lit (.slice none 0 0) => some (.lit (.bool true))
      | _, _ => none
    | some d => eqLeaf d a b
    | none => none
def litOr (l : Bool) (v : Value) : AV := match one1 v with
  | true => match l with
    | true => .lit v
    | false => .v v
  | false => .unk
def binA (P : Program) (op : BinOp) (t : TypeId) (a b : AV) : Tree AV := match scal a, scal b with
  | some (x, lx), some (y, ly) => match op, x, y, lx && ly with
    | .quo, .int k m, .int k' n, false => match decide (k = k') with
      | true => .side (n ≠ 0) (.ret (.v (.int k (k.wrap (m.tdiv n)))))
      | false => .fail
    | .rem, .int k m, .int k' n, false => match decide (k = k') with
      | true => .side (n ≠ 0) (.ret (.v (.int k (m.tmod n))))
      | false => .fail
    | .shl, .int k m, .int _ n, false => .side (0 ≤ n) (.ret (.v (.int k (k.wrap (m * 2 ^ (min n.toNat k.bits))))))
    | .shr, .int k m, .int _ n, false => .side (0 ≤ n) (.ret (.v (.int k (m.fdiv (2 ^ (min n.toNat k.bits))))))
    | .mul, .complex .f64 a b, .complex .f64 c d, false => .side ((cMulBits a b c d).isSome = true) (.ret (.v (.complex .f64 ((cMulBits a b c d).getD (0, 0)).1 ((cMulBits a b c d).getD (0, 0)).2)))
    | .add, .string m, .string n, false => .side (m.size + n.size ≤ 9223372036854775807) (.ret (.v (.string (m ++ n))))
    | _, _, _, l => match semVal P (do eqGuard op t (.tmp 0) (.tmp 0) x y; binOp op t x y) with
      | some r => .ret (litOr l r)
      | none => .fail
  | _, _ => match op with
    | .eql => match P.eqGuardType P.depth t with
      | false => ofO (eqT P 20 t a b)
      | true => .fail
    | .neq => match P.eqGuardType P.depth t with
      | false => match eqT P 20 t a b with
        | some r => ofO (notA r)
        | none => .fail
      | true => .fail
    | _ => .fail
def scals : List AV → Option (List Value × Bool)
  | [] => some ([], true)
  | a :: l => match scal a, scals l with
    | some (x, lx), some (xs, ls) => some (x :: xs, lx && ls)
    | _, _ => none
def builtinA (P : Program) (b : Builtin) (ts : Array TypeId) (ty : TypeId) (args : List AV) (st : St) : Tree (AV × St) := match b, args with
  | .len, [x] => match lenA P (ts.getD 0 0) x, ts[0]? with
    | some r, some _ => .ret (r, st)
    | _, _ => .fail
  | .append, [s, x] => match ts[0]?, (match ts[1]? with | some xT => (match P.underlying xT with | some (.slice _) => false | some .string => false | _ => true) | none => true) with
    | some sT, false => appendA P sT s x st
    | _, _ => .fail
  | .max, _ => match scals args with
    | some (vs, l) => match semVal P (Builtin.max_ ts ty vs.toArray) with
      | some r => .ret (litOr l r, st)
      | none => .fail
    | none => .fail
  | .min, _ => match scals args with
    | some (vs, l) => match semVal P (Builtin.min_ ts ty vs.toArray) with
      | some r => .ret (litOr l r, st)
      | none => .fail
    | none => .fail
  | .complex, _ => match scals args with
    | some (vs, l) => match semVal P (Builtin.complex_ ts ty vs.toArray) with
      | some r => .ret (litOr l r, st)
      | none => .fail
    | none => .fail
  | .real, _ => match scals args with
    | some (vs, l) => match semVal P (Builtin.real_ ts ty vs.toArray) with
      | some r => .ret (litOr l r, st)
      | none => .fail
    | none => .fail
  | .imag, _ => match scals args with
    | some (vs, l) => match semVal P (Builtin.imag_ ts ty vs.toArray) with
      | some r => .ret (litOr l r, st)
      | none => .fail
    | none => .fail
  | _, _ => .fail
def callA (cx : Cx) (r : Evs) (f : AV) (args : List AV) (st : St) : Tree (AV × St) := match f with
  | .fn (.func g) first cap => r.call g (first ++ args ++ cap) st
  | _ => .fail
def pureA (o : Option AV) (st : St) : Tree (AV × St) := match o with
  | some a => .ret (a, st)
  | none => .fail
def withSt (st : St) : Tree AV → Tree (AV × St) := Tree.bind fun a => .ret (a, st)
def un1 (P : Program) (a : AV) (f : Value → Sem Value) (st : St) : Tree (AV × St) := match scal a with
  | some (x, l) => match semVal P (f x) with
    | some r => .ret (litOr l r, st)
    | none => .fail
  | none => .fail
/-- A conversion: of a float that is not known to an integer, its value is owed. -/
def convA (P : Program) (src dst : TypeId) (a : AV) (st : St) : Tree (AV × St) := match scal a, P.underlying dst, (P.underlying src).isSome with
  | some (.float s b, false), some (.int k), true => .side ((floatToIntVal s b k).isSome = true) (.ret (.v (.int k ((floatToIntVal s b k).getD 0)), st))
  | _, _, _ => un1 P a (convert src dst) st
def evalOp (cx : Cx) (r : Evs) (o : Oper) (st : St) : Tree (AV × St) :=
  match o.op with
  | .move x => .ret (st.val x, st)
  | .assign x => .ret (st.val x, st)
  | .pick c a b => match boolOf (st.val c) with
    | some (e, true) => match e with
      | true => .ret (st.val a, st)
      | false => .ret (st.val b, st)
    | some (e, false) => pureA (mux muxD e (st.val a) (st.val b)) st
    | none => .fail
  | .alloc elem => match zeroO cx.P elem with
    | some cs => .ret (.ptr st.nx 0, st.new (.fix elem cs))
    | none => .fail
  | .box elem x => match badA (st.val x) with
    | false => .ret (.ptr st.nx 0, st.new (.fix elem (cellsA (st.val x))))
    | true => .fail
  | .build t parts => pureA (buildA cx.P t (parts.toList.map fun p => (p.1, st.val p.2))) st
  | .buildSlice t len parts => buildSliceA cx.P t len (parts.toList.map fun p => (p.1, st.val p.2)) st
  | .load t a => loadA cx.P t (st.val a) st
  | .store t a v => storeA cx.P t (st.val a) (st.val v) st
  | .nilCheck x => match st.val x with
    | .ptr y off => .ret (.ptr y off, st)
    | .fz cs off => .ret (.fz cs off, st)
    | .pe y i k off il => .ret (.pe y i k off il, st)
    | .pti y b i s n off => .ret (.pti y b i s n off, st)
    | .fn (.func g) a b => .ret (.fn (.func g) a b, st)
    | _ => .fail
  | .binOp op t x y _ => withSt st (binA cx.P op t (st.val x) (st.val y))
  | .unOp op _ x => un1 cx.P (st.val x) (Op.unary op) st
  | .convert src dst x => convA cx.P src dst (st.val x) st
  | .makeInterface t x => un1 cx.P (st.val x) (Instr.makeInterface t) st
  | .makeFunc fn first cap => .ret (.fn fn (first.toList.map st.val) (cap.toList.map st.val), st)
  | .makeSlice t l c => makeSliceA cx.P t (st.val l) (st.val c) st
  | .slice t x lo hi mx => match mx.isSome && hi.isNone with
    | false => sliceA cx.P t (st.val x) (lo.map st.val) (hi.map st.val) (mx.map st.val) st
    | true => .fail
  | .fieldAddr s x f => pureA (fieldAddrA cx.P s (st.val x) f) st
  | .field s x f => pureA (fieldA cx.P s (st.val x) f) st
  | .indexAddr t x i => withSt st (indexAddrA cx.P t (st.val x) (st.val i))
  | .index t x i => withSt st (indexA cx.P t (st.val x) (st.val i))
  | .extract t i => match st.val t with
    | .tup l => pureA l[i]? st
    | _ => .fail
  | .call c => match c.callee with
    | .builtin b => builtinA cx.P b c.argTypes o.type (c.args.toList.map st.val) st
    | .value f => callA cx r (st.val f) (c.args.toList.map st.val) st
    | .invoke _ _ => .fail
  | _ => .fail

/-! Regions. -/
structure Rec where
  rd : List Nat
  wr : List Nat
/-- Who must come ahead of whom (bits). -/
def meets (a b : Rec) : Bool := a.wr.any (fun x => b.rd.elem x || b.wr.elem x) || b.wr.any (fun x => a.rd.elem x)
def okAgainst (bits : Nat) (r : Rec) : List (Nat × Rec) → Bool
  | [] => true
  | (i, q) :: l => (!(meets r q) || bits.testBit i) && okAgainst bits r l
/-- Earlier ones, latest first. -/
def okRecs (b : Array Nat) : List (Nat × Rec) → Bool
  | [] => true
  | (i, r) :: l => okAgainst (b.getD i 0) r l && okRecs b l
def guardOf (ops : Array Oper) (o : Oper) : Option (Nat × Bool) := match o.guard with
  | none => none
  | some (j, w) => match ops[j]? with
    | some p => match p.dst with
      | some d => some (d, w)
      | none => none
    | none => none
/-- A region whose order may be drawn: what names one slot stands in one order; edges lead back. -/
def namesOf (ops : Array Oper) (o : Oper) : List Nat := o.dst.toList ++ ((o.op.operands.toList.filterMap fun | .tmp t => some t | _ => none) ++ ((guardOf ops o).map (·.1)).toList)
def orderOk (b : Array Nat) (i : Nat) (ds : List Nat) : List (Nat × Oper) → Bool
  | [] => true
  | (j, p) :: l => (match p.dst with
    | some d => !ds.elem d || Nat.beq i j || (b.getD (Nat.max i j) 0).testBit (Nat.min i j)
    | none => true) && orderOk b i ds l
def numbered : Nat → List Oper → List (Nat × Oper)
  | _, [] => []
  | i, o :: l => (i, o) :: numbered (i + 1) l
def regionOk (ops : Array Oper) : Bool :=
  let b := Region.before ops
  let l := numbered 0 ops.toList
  l.all fun p => orderOk b p.1 (namesOf ops p.2) l && p.2.after.toList.all fun e => !Region.binds .any e || Nat.blt e.on p.1
def dstOk (N : Nat) (ops : Array Oper) : Bool := ops.toList.all fun o => match o.dst with
  | some d => Nat.blt d N
  | none => true
/-- What is asked of a function's code once. -/
def codeOk (N : Nat) : Code → Bool
  | .region _ ops draw => dstOk N ops && (!draw || regionOk ops)
  | .seq a b => codeOk N a && codeOk N b
  | .cond _ a b => codeOk N a && codeOk N b
  | .block _ c => codeOk N c
  | .loop c => codeOk N c
  | .scope c => codeOk N c
  | .rangeFunc _ _ a b => codeOk N a && codeOk N b
  | _ => true
def funcOk (f : Func) : Bool := match f.body with
  | some c => codeOk f.ntmps c && !(f.name == "runtime.NumGoroutine")
  | none => true
def St.fresh (s : St) : St := { s with rd := [], wr := [] }
def St.logs (s : St) (s0 : St) : St := { s with rd := uni s.rd s0.rd, wr := uni s.wr s0.wr }
/-- One operation that is wanted. -/
def opYes (cx : Cx) (r : Evs) (draw : Bool) (o : Oper) (st : St) : Tree (Rec × St) := match draw with
  | true => (evalOp cx r o st.fresh).bind fun (a, s) => .ret (⟨s.rd, s.wr⟩, (s.logs st).put o.dst a)
  | false => (evalOp cx r o st).bind fun (a, s) => .ret (⟨[], []⟩, s.put o.dst a)
/-- One that is not. -/
def opNo (o : Oper) (st : St) : St := st.put o.dst (.tup [])
def opsE (cx : Cx) (r : Evs) (ops : Array Oper) (draw : Bool) : List Oper → Nat → List (Nat × Rec) → St → Tree (Ex × St)
  | [], _, recs, st => match draw with
    | false => .ret (.norm, st)
    | true => match okRecs (Region.before ops) recs with
      | true => .ret (.norm, st)
      | false => .fail
  | o :: l, i, recs, st => match o.guard with
    | none => (opYes cx r draw o st).bind fun (q, s) => opsE cx r ops draw l (i + 1) ((i, q) :: recs) s
    | some (_, w) => match guardOf ops o with
      | none => .fail
      | some (d, _) => match boolOf (look st.sl d) with
        | some (b, true) => match b == w with
          | true => (opYes cx r draw o st).bind fun (q, s) => opsE cx r ops draw l (i + 1) ((i, q) :: recs) s
          | false => opsE cx r ops draw l (i + 1) recs (opNo o st)
        | some (e, false) =>
          let yes (st : St) : Tree (Ex × St) := (opYes cx r draw o st).bind fun (q, s) => opsE cx r ops draw l (i + 1) ((i, q) :: recs) s
          let no (st : St) : Tree (Ex × St) := opsE cx r ops draw l (i + 1) recs (opNo o st)
          match w with
          | true => decT (cx.dec d) e st (yes (st.forked.put (some d) (.lit (.bool true)))) (no (st.forked.put (some d) (.lit (.bool false))))
          | false => decT (cx.dec d) e st (no (st.forked.put (some d) (.lit (.bool true)))) (yes (st.forked.put (some d) (.lit (.bool false))))
        | none => match look st.sl d with
          | .tup [] => opsE cx r ops draw l (i + 1) recs (opNo o st)
          | _ => .fail
def regionE (cx : Cx) (r : Evs) (ops : Array Oper) (draw : Bool) (st : St) : Tree (Ex × St) :=
  opsE cx r ops draw ops.toList 0 [] st

/-! Code. -/
def decOf (cx : Cx) : Operand → Option Bool
  | .tmp t => cx.dec t
  | _ => none
/-- A jump within a scope is gone. -/
def onGoto (r : Evs) (c : Code) (b : Ex × St) : Tree (Ex × St) := match b.1 with
  | .goto l => match findLabel c l with
    | some rest => r.jump c rest b.2
    | none => .ret (.goto l, b.2)
  | e => .ret (e, b.2)
def codeE (cx : Cx) (r : Evs) : Code → St → Tree (Ex × St)
  | .skip, st => .ret (.norm, st)
  | .label _, st => .ret (.norm, st)
  | .region _ ops draw, st => regionE cx r ops draw st
  | .seq a b, st => (codeE cx r a st).bind fun (e, s) => match e with
    | .norm => codeE cx r b s
    | e => .ret (e, s)
  | .cond c a b, st => match boolOf (st.val c) with
    | some (e, true) => match e with
      | true => codeE cx r a st
      | false => codeE cx r b st
    | some (e, false) => decT (decOf cx c) e st (codeE cx r a st.forked) (codeE cx r b st.forked)
    | none => .fail
  | .block id c, st => (codeE cx r c st).bind fun (e, s) => match eqEx e (.exit id) with
    | true => .ret (.norm, s)
    | false => .ret (e, s)
  | .loop c, st => (codeE cx r c st).bind fun (e, s) => match e with
    | .norm => r.code (.loop c) s
    | e => .ret (e, s)
  | .scope c, st => (codeE cx r c st).bind (onGoto r c)
  | .exit id, st => .ret (.exit id, st)
  | .goto l, st => .ret (.goto l, st)
  | .ret, st => .ret (.ret, st)
  | _, _ => .fail
def resA (P : Program) (st : St) : ResultVar → Tree (AV × St)
  | .tmp t => .ret (look st.sl t, st)
  | .cell a t => match look st.sl a with
    | .ptr x off => loadA P t (.ptr x off) st
    | _ => .fail
def ressA (P : Program) : List ResultVar → St → Tree (List AV × St)
  | [], st => .ret ([], st)
  | r :: l, st => (resA P st r).bind fun (a, s) => (ressA P l s).bind fun (as, s') => .ret (a :: as, s')
def oneA : List AV → AV
  | [a] => a
  | l => .tup l
def params : Nat → List AV → List (Nat × AV)
  | _, [] => []
  | i, a :: l => (i, a) :: params (i + 1) l
/-- The tracked blocks that a value leads to (as far as it is looked at). -/
def idsA : Nat → AV → List Nat
  | 0, _ => []
  | d + 1, a => match a with
    | .agg l => l.flatMap (idsA d)
    | .tup l => l.flatMap (idsA d)
    | .ptr x _ => [x]
    | .pti x .. => [x]
    | .pe x .. => [x]
    | .own x .. => [x]
    | .slv x .. => [x]
    | .fn _ f c => f.flatMap (idsA d) ++ c.flatMap (idsA d)
    | _ => []
def idsB (hp : List (Nat × Option Blk)) (x : Nat) : List Nat := match hget hp x with
  | some (.fix _ cs) => cs.flatMap (idsA 4)
  | _ => []
/-- New blocks that are led to from some, in so many rounds. -/
def reach (hp : List (Nat × Option Blk)) (nx : Nat) : Nat → List Nat → List Nat → List Nat
  | 0, _, acc => acc
  | d + 1, l, acc =>
    let new := l.filter fun x => Nat.ble nx x && !acc.elem x
    match new with
    | [] => acc
    | _ => reach hp nx d (new.flatMap (idsB hp)) (uni new acc)
def upd (hp : List (Nat × Option Blk)) (l : List Nat) (base : List (Nat × Option Blk)) : List (Nat × Option Blk) := match l with
  | [] => base
  | x :: l => (x, hget hp x) :: upd hp l base
/-- What a call leaves to its caller: the blocks that were there, and those that its answer leads to. -/
def St.back (s st : St) (a : AV) : St :=
  let old := s.wr.filter fun x => Nat.blt x st.nx || Nat.ble s.nx x
  let new := reach s.hp st.nx 4 (idsA 5 a ++ old.flatMap (idsB s.hp)) []
  { s with sl := st.sl, ws := st.ws, hp := upd s.hp old (upd s.hp new st.hp), rd := uni (s.rd.filter fun x => Nat.blt x st.nx || Nat.ble s.nx x) st.rd, wr := uni old (uni new st.wr), wb := uni old (uni new st.wb), wc := new.map (fun x => (x, none)) ++ (s.wc ++ st.wc) }
/-- A call's ways joined, as far as they can be. -/
def collapse (s0 : St) : Tree (Ex × St) → Tree (Ex × St)
  | .ret b => .ret b
  | .br c t e => forkT c s0 (collapse s0 t) (collapse s0 e)
  | .side p t => .side p (collapse s0 t)
  | .fail => .fail
/-- What a call begins with, but for its slots. -/
def St.start (st : St) : St := { st with sl := [], ws := [], rd := [], wr := [], wb := [], wc := [] }
/-- A function's body, from its arguments: its answer in slot 0. -/
def insideE (cx : Cx) (r : Evs) (fn : Func) (c : Code) (args : List AV) (st : St) : Tree (Ex × St) :=
  (codeE cx r c { st with sl := params 0 args, ws := [], rd := [], wr := [], wb := [], wc := [] }).bind fun (e, s) =>
    match e with
    | .exit _ => .fail
    | .goto _ => .fail
    | _ => (ressA cx.P fn.results.toList s).bind fun (as, s') => .ret (.ret, { s' with sl := [(0, oneA as)], ws := [0] })
/-- The same; the caller's slots come back behind it. -/
def bodyE (cx : Cx) (r : Evs) (fn : Func) (c : Code) (args : List AV) (st : St) : Tree (AV × St) :=
  match Nat.ble args.length fn.ntmps with
  | false => .fail
  | true => (collapse st.start (insideE cx r fn c args st)).bind fun (_, s) => .ret (look s.sl 0, s.back st (look s.sl 0))
def callE (cx : Cx) (r : Evs) (f : Nat) (args : List AV) (st : St) : Tree (AV × St) :=
  match cx.ctr f args st with
  | some t => t
  | none => match cx.P.funcs[f]? with
    | none => .fail
    | some fn => match fn.body with
      | some c => bodyE cx r fn c args st
      | none => match scals args with
        | some (vs, l) => match semVal cx.P (callFunc f vs.toArray) with
          | some (.value v) => .ret (litOr l v, st)
          | _ => .fail
        | none => .fail
def jumpE (cx : Cx) (r : Evs) (c rest : Code) (st : St) : Tree (Ex × St) := (codeE cx r rest st).bind (onGoto r c)
def evs (cx : Cx) : Nat → Evs
  | 0 => ⟨fun _ _ => .fail, fun _ _ _ => .fail, fun _ _ _ => .fail⟩
  | n + 1 => ⟨codeE cx (evs cx n), callE cx (evs cx n), jumpE cx (evs cx n)⟩
end Go.Proofs.YtdlghljhgbakjaaDoor
