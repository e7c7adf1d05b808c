/-
  PARTS, one behind the other: GM N0 N1 N2 N3 N4 N5 N6.
-/
import Derived.WalkKit
import Derived.KernelRfl
import Derived.Laws.ComplexArith
import Derived.DeepKeys3
import Derived.Below
import Derived.CallsIn
import Derived.Laws.CopyRow
import Derived.ChangeKeysEq
import Derived.Laws.IdiomCopy
import Derived.OrdersIn
/-
  PART: what the package-level variables hold that are read: the kinds' table, powers of ten, the words of modes, of operations; one holds a number, two an error.
-/
namespace Go.Proofs.YtamjnhpkmhbkcaaGreatDoor
open Go.RowKit
def bytesV (l : List UInt8) : Value := .string ⟨l.toArray⟩
/-- prog.modes. -/
def modesL : List (List UInt8) := [[], [112, 108, 110], [114, 108, 120], [97, 99, 113], [114, 101, 108], [97, 114], [115, 99]]
/-- num.texts. -/
def txtsL : List (List UInt8) := [[], [61, 61], [33, 61], [60], [60, 61], [43], [45], [124], [94], [42], [47], [37], [38], [33], [45]]
/-- internal/strconv.uint64pow10. -/
def pow10L : List Int := [1, 10, 100, 1000, 10000, 100000, 1000000, 10000000, 100000000, 1000000000, 10000000000, 100000000000, 1000000000000, 10000000000000, 100000000000000, 1000000000000000, 10000000000000000, 100000000000000000, 1000000000000000000, 10000000000000000000]
/-- check.kinds: what a kind has. -/
def kindsL : List (Bool × Bool × Int × Bool × Bool) := [(false, false, 0, false, false), (true, false, 1, false, false), (true, true, 0, false, false), (false, true, 1, false, false), (true, true, 1, false, false), (true, true, 1, false, false), (true, true, 2, false, false), (false, false, 0, false, false), (false, false, 1, true, true), (false, false, 1, true, false)]
def kindV (k : Bool × Bool × Int × Bool × Bool) : List Value := [.bool k.1, .bool k.2.1, .int .i64 k.2.2.1, .bool k.2.2.2.1, .bool k.2.2.2.2]
/-- A variable's cells, where they are known. -/
def GM (g : Nat) : Option (Array Value) := match Nat.beq g 3 with
  | true => some (txtsL.map bytesV).toArray
  | false => match Nat.beq g 1 with
    | true => some (pow10L.map (Value.int .u64)).toArray
    | false => match Nat.beq g 2 with
      | true => some (modesL.map bytesV).toArray
      | false => match Nat.beq g 0 with
        | true => some (kindsL.flatMap kindV).toArray
        | false => none
/-- What kind of value a variable holds, where that is known. -/
inductive GKd : Type where
  | int
  | ifc
def gkOk : GKd → Array Value → Prop
  | .int, c => ∃ z, c = #[.int .i64 z]
  | .ifc, c => ∃ t p, c = #[.iface t p]
/-- internal/bytealg.MaxLen; strconv.ErrSyntax, strconv.ErrRange. -/
def GK (g : Nat) : Option GKd := match Nat.beq g 4 with
  | true => some .int
  | false => match Nat.beq g 5 || Nat.beq g 6 with
    | true => some .ifc
    | false => none
end Go.Proofs.YtamjnhpkmhbkcaaGreatDoor

/-
  PART: an evaluator of the program's own code over values without memory: abstract values, abstract states, trees of ways. (Definitions alone.)
-/
namespace Go.Proofs.YtamjnhpkmhbkcaaGreatDoor
open Go.RowKit

/-- What a computation answers that looks at no memory. -/
def semVal (P : Program) {α : Type} : Sem α → Option α
  | .pure a => some a
  | .program k => semVal P (k P)
  | .mark _ k => semVal P k
  | _ => none

/-- A value of one cell. -/
def one1 : Value → Bool
  | .agg _ => false
  | .tuple _ => false
  | _ => true
/-- Ways: a result, a fork by a truth, a condition owed, no answer. -/
inductive Tree (α : Type) : Type where
  | ret (a : α)
  | br (c : Bool) (t e : Tree α)
  | side (p : Prop) (t : Tree α)
  | fail
def Tree.bind {α β : Type} (f : α → Tree β) : Tree α → Tree β
  | .ret a => f a
  | .br c t e => .br c (t.bind f) (e.bind f)
  | .side p t => .side p (t.bind f)
  | .fail => .fail
def Tree.hit {α : Type} : Tree α → α → Prop
  | .ret a, b => a = b
  | .br c t e, b => (c = true ∧ t.hit b) ∨ (c = false ∧ e.hit b)
  | .side p t, b => p ∧ t.hit b
  | .fail, _ => False
/-- The conditions ahead of the first fork, and what is behind them. -/
def Tree.peel {α : Type} : Tree α → Option Prop × Tree α
  | .side p t => match t.peel with
    | (none, u) => (some p, u)
    | (some q, u) => (some (p ∧ q), u)
  | t => (none, t)
def Tree.need {α : Type} : Option Prop → Tree α → Tree α
  | none, t => t
  | some p, t => .side p t
def ofO {α : Type} : Option α → Tree α
  | some a => .ret a
  | none => .fail

/-- Abstract values. -/
inductive AV : Type where
  | lit (v : Value)                       -- a closed value of one cell
  | v (v : Value)                         -- any value of one cell
  | agg (l : List AV)
  | tup (l : List AV)
  | ptr (x off : Nat)                     -- into a tracked block
  | pti (x base : Nat) (i : Int) (str n off : Nat)   -- into a tracked block, at an open index
  | pe (x i k off : Nat) (il : Bool)      -- into an element of an owned row (il: closed numbers)
  | fz (cs : List AV) (off : Nat)         -- into cells that stay as they are
  | own (x n k : Nat) (nl : Bool)         -- an owned row, from its beginning
  | slv (x off n k : Nat)                 -- a slice of a tracked block's array
  | mp (x : Nat)                          -- a tracked map
  | sl (n k : Nat) (get : Nat → List AV) (nl full : Bool)   -- a slice whose cells stay as they are
  | fn (f : Fn) (first cap : List AV)
  | any (φ : (Nat → Option (Array Value)) → Value → Prop)   -- a value of one cell of which that is so, by the cells that stay
  | unk
/-- Kinds of parts of a map's keys. -/
inductive Kd : Type where
  | int (k : IntKind)
  | str
  | bool
  deriving DecidableEq
inductive KShape : Type where
  | one (d : Kd)
  | row (ds : List Kd)
  deriving DecidableEq
def kdV : Kd → Value → Bool
  | .int k, .int k' _ => decide (k = k')
  | .str, .string _ => true
  | .bool, .bool _ => true
  | _, _ => false
/-- The same, in range. -/
def kdW : Kd → Value → Bool
  | .int k, .int k' z => decide (k = k') && (Lit.int k z).wf
  | .str, .string s => decide (s.size ≤ maxLen)
  | .bool, .bool _ => true
  | _, _ => false
def kdWs : List Kd → List Value → Bool
  | [], [] => true
  | d :: ds, v :: vs => kdW d v && kdWs ds vs
  | _, _ => false
def keyIs : KShape → Value → Bool
  | .one d, v => kdV d v
  | .row ds, .agg c => kdWs ds c.toList
  | _, _ => false
def partEq : Value → Value → Bool
  | .int _ a, .int _ b => a == b
  | .string a, .string b => a == b
  | .bool a, .bool b => a == b
  | _, _ => false
def partsEq : List Value → List Value → Bool
  | [], [] => true
  | a :: l, b :: m => partEq a b && partsEq l m
  | _, _ => false
def keyEq : Value → Value → Bool
  | .agg a, .agg b => partsEq a.toList b.toList
  | a, b => partEq a b
inductive Blk : Type where
  | fix (ty : TypeId) (cs : List AV)
  | arr (ty : TypeId) (n k : Nat) (get : Nat → List AV)
  | map (sh : KShape) (zv : Value) (get : Value → Value) (has : Value → Bool) (nl : Bool)   -- a map: what a key gives (zv: none), which keys it has; nl: all closed
structure St : Type where
  sl : List (Nat × AV)
  hp : List (Nat × Option Blk)
  nx : Nat
  rd : List Nat        -- blocks that were looked at
  wr : List Nat        -- blocks that were written, made, let go
  ws : List Nat        -- slots written since the last fork
  wb : List Nat        -- blocks written since the last fork
  wc : List (Nat × Option (Nat × Nat)) := []   -- their cells: all, or so many from one on

def look : List (Nat × AV) → Nat → AV
  | [], _ => .unk
  | (k, a) :: l, d => match Nat.beq k d with
    | true => a
    | false => look l d
def hget : List (Nat × Option Blk) → Nat → Option Blk
  | [], _ => none
  | (k, a) :: l, d => match Nat.beq k d with
    | true => a
    | false => hget l d
def ins (x : Nat) (l : List Nat) : List Nat := match l.elem x with
  | true => l
  | false => x :: l
def uni : List Nat → List Nat → List Nat
  | [], m => m
  | x :: l, m => ins x (uni l m)
def constAV (v : Value) : AV := match v with
  | .agg cs => match cs.toList.all one1 with
    | true => .agg (cs.toList.map .lit)
    | false => .unk
  | .tuple _ => .unk
  | v => .lit v
/-- A package-level variable's place. -/
def gmA (g : Nat) : AV := match GM g with
  | some c => match c.toList.all one1 with
    | true => .fz (c.toList.map .lit) 0
    | false => .unk
  | none => .unk
def St.val (st : St) : Operand → AV
  | .tmp t => look st.sl t
  | .const v => constAV v
  | .func f => .fn (.func f) [] []
  | .global g => gmA g
def St.put (st : St) (d : Option Nat) (a : AV) : St := match d with
  | some d => { st with sl := (d, a) :: st.sl, ws := ins d st.ws }
  | none => st
def St.read (st : St) (x : Nat) : St := { st with rd := ins x st.rd }
def St.write (st : St) (x : Nat) (b : Option Blk) : St := { st with hp := (x, b) :: st.hp, rd := ins x st.rd, wr := ins x st.wr, wb := ins x st.wb, wc := (x, none) :: st.wc }
/-- Some cells of a block. -/
def St.writeAt (st : St) (x : Nat) (b : Option Blk) (off n : Nat) : St := { st.write x b with wc := (x, some (off, n)) :: st.wc }
/-- Is a cell of a block among those? -/
def cov (wc : List (Nat × Option (Nat × Nat))) (x j : Nat) : Bool := wc.any fun p => Nat.beq p.1 x && match p.2 with
  | none => true
  | some (o, n) => Nat.ble o j && Nat.blt j (o + n)
/-- A new block. -/
def St.new (st : St) (b : Blk) : St := { st.write st.nx (some b) with nx := st.nx + 1 }

/-! One of two, by a truth. -/
def scal : AV → Option (Value × Bool)
  | .lit v => some (v, true)
  | .v v => some (v, false)
  | _ => none
def eqV : Value → Value → Bool
  | .int k x, .int k' y => decide (k = k') && decide (x = y)
  | .bool x, .bool y => x == y
  | .string x, .string y => decide (x = y)
  | .complex k x y, .complex k' x' y' => decide (k = k') && decide (x = x') && decide (y = y')
  | .float k x, .float k' x' => decide (k = k') && decide (x = x')
  | .pointer none, .pointer none => true
  | .slice none 0 0, .slice none 0 0 => true
  | .map none, .map none => true
  | .nilFunc, .nilFunc => true
  | .nilIface, .nilIface => true
  | _, _ => false
def muxV (c : Bool) : Value → Value → Option Value
  | .int k x, .int k' y => match decide (k = k') with | true => some (.int k (if c = true then x else y)) | false => none
  | .bool x, .bool y => some (.bool (if c = true then x else y))
  | .string x, .string y => some (.string (if c = true then x else y))
  | .complex k x y, .complex k' x' y' => match decide (k = k') with | true => some (.complex k (if c = true then x else x') (if c = true then y else y')) | false => none
  | .float k x, .float k' x' => match decide (k = k') with | true => some (.float k (if c = true then x else x')) | false => none
  | _, _ => none
def isNilSl : Value → Bool
  | .slice none 0 0 => true
  | _ => false
/-- Certainly the same (told without looking at open terms). -/
def eqA : AV → AV → Bool
  | .ptr x o, .ptr y p => Nat.beq x y && Nat.beq o p
  | .mp x, .mp y => Nat.beq x y
  | .lit v, .lit u => eqV v u
  | _, _ => false
def eqAs : List AV → List AV → Bool
  | [], [] => true
  | a :: l, b :: m => eqA a b && eqAs l m
  | _, _ => false
/-- A list of just k. -/
def fit : Nat → List AV → List AV
  | 0, _ => []
  | k + 1, [] => .unk :: fit k []
  | k + 1, a :: l => a :: fit k l
def zipO (f : AV → AV → Option AV) : List AV → List AV → Option (List AV)
  | [], [] => some []
  | a :: l, b :: m => match f a b, zipO f l m with
    | some x, some y => some (x :: y)
    | _, _ => none
  | _, _ => none
def zipU (f : AV → AV → Option AV) : List AV → List AV → List AV
  | a :: l, b :: m => (f a b).getD .unk :: zipU f l m
  | _, _ => []
def mux : Nat → Bool → AV → AV → Option AV
  | 0, _, _, _ => some .unk
  | d + 1, c, a, b => match scal a, scal b with
    | some (x, lx), some (y, ly) => match lx && ly && eqV x y with
      | true => some (.lit x)
      | false => match lx && ly, x, y with
        | true, .bool true, .bool false => some (.v (.bool c))
        | true, .bool false, .bool true => some (.v (.bool (!c)))
        | _, _, _ => match muxV c x y with
          | some z => some (.v z)
          | none => some .unk
    | _, _ => match a, b with
      | .agg l, .agg m => match zipO (mux d c) l m with
        | some r => some (.agg r)
        | none => none
      | .tup l, .tup m => match zipO (mux d c) l m with
        | some r => some (.tup r)
        | none => none
      | .ptr x o, .ptr y p => match Nat.beq x y && Nat.beq o p with
        | true => some (.ptr x o)
        | false => some .unk
      | .mp x, .mp y => match Nat.beq x y with
        | true => some (.mp x)
        | false => some .unk
      | .own x n k nl, .own y m k' _ => match Nat.beq x y && Nat.beq k k' with
        | true => some (.own x (if c = true then n else m) k nl)
        | false => none
      | .own .., _ => none
      | _, .own .. => none
      | .sl n k get _ full, .sl m k' get' _ full' => match Nat.beq k k' with
        | true => some (.sl (if c = true then n else m) k (fun i => fit k (zipU (mux d c) (get i) (get' i))) false (full && full'))
        | false => some .unk
      | .lit v, .sl m k get' _ full' => match isNilSl v with
        | true => some (.sl (if c = true then 0 else m) k get' false full')
        | false => some .unk
      | .sl n k get _ full, .lit v => match isNilSl v with
        | true => some (.sl (if c = true then n else 0) k get false full)
        | false => some .unk
      | .fz cs o, .fz cs' o' => match Nat.beq o o' with
        | true => match zipO (mux d c) cs cs' with
          | some r => some (.fz r o)
          | none => none
        | false => some .unk
      | .fn f a b, .fn f' a' b' => match decide (f = f') && eqAs a a' && eqAs b b' with
        | true => some (.fn f a b)
        | false => some .unk
      | .any φ, .any ψ => some (.any fun fz v => (c = true → φ fz v) ∧ (c = false → ψ fz v))
      | _, _ => some .unk
def muxD : Nat := 6
/-- Two rows of cells, those that were written joined. -/
def zipW (f : AV → AV → Option AV) (w : Nat → Bool) : Nat → List AV → List AV → Option (List AV)
  | _, [], [] => some []
  | i, a :: l, b :: m => match w i with
    | true => match f a b, zipW f w (i + 1) l m with
      | some x, some y => some (x :: y)
      | _, _ => none
    | false => match zipW f w (i + 1) l m with
      | some y => some (a :: y)
      | none => none
  | _, _, _ => none
def muxBlk (c : Bool) (w : Nat → Bool) : Option Blk → Option Blk → Option (Option Blk)
  | some (.fix ty cs), some (.fix ty' cs') => match Nat.beq ty ty' with
    | true => match zipW (mux muxD c) w 0 cs cs' with
      | some r => some (some (.fix ty r))
      | none => none
    | false => some none
  | some (.arr ty n k get), some (.arr ty' n' k' get') => match Nat.beq ty ty' && Nat.beq k k' with
    | true => some (some (.arr ty (if c = true then n else n') k (fun i => fit k (zipU (mux muxD c) (get i) (get' i)))))
    | false => some none
  | _, _ => some none
def muxSl (c : Bool) (l m : List (Nat × AV)) : List Nat → List (Nat × AV) → Option (List (Nat × AV))
  | [], r => some r
  | d :: ds, r => match mux muxD c (look l d) (look m d) with
    | some a => muxSl c l m ds ((d, a) :: r)
    | none => none
def muxHp (c : Bool) (w : Nat → Nat → Bool) (l m : List (Nat × Option Blk)) : List Nat → List (Nat × Option Blk) → Option (List (Nat × Option Blk))
  | [], r => some r
  | x :: xs, r => match muxBlk c (w x) (hget l x) (hget m x) with
    | some b => muxHp c w l m xs ((x, b) :: r)
    | none => none
def noFix : Option Blk → Bool
  | some (.fix _ _) => false
  | _ => true
/-- Two states that come of one, as one. -/
def mergeS (c : Bool) (s0 s1 s2 : St) : Option St :=
  match muxSl c s1.sl s2.sl (uni s1.ws s2.ws) s0.sl, muxHp c (fun x j => cov s1.wc x j || cov s2.wc x j) s1.hp s2.hp (uni s1.wb s2.wb) s0.hp with
  | some sl, some hp => some { sl, hp, nx := Nat.max s1.nx s2.nx, rd := uni s1.rd s2.rd, wr := uni s1.wr s2.wr, ws := uni s0.ws (uni s1.ws s2.ws), wb := uni s0.wb (uni s1.wb s2.wb), wc := ((uni s1.wb s2.wb).filter fun x => noFix (hget s0.hp x)).map (fun x => (x, none)) ++ (s1.wc ++ (s2.wc ++ s0.wc)) }
  | _, _ => none
def St.forked (s : St) : St := { s with ws := [], wb := [], wc := [] }
/-- Where a way leaves a piece of code. -/
inductive Ex where
  | norm
  | exit (id : Nat)
  | goto (l : Nat)
  | ret
  deriving DecidableEq
def eqEx : Ex → Ex → Bool
  | .norm, .norm => true
  | .exit a, .exit b => Nat.beq a b
  | .goto a, .goto b => Nat.beq a b
  | .ret, .ret => true
  | _, _ => false
def reFork (s0 : St) : Tree (Ex × St) → Tree (Ex × St)
  | .ret (x, s) => .ret (x, { s with ws := uni s0.ws s.ws, wb := uni s0.wb s.wb, wc := s.wc ++ s0.wc })
  | .br c t e => .br c (reFork s0 t) (reFork s0 e)
  | .side p t => .side p (reFork s0 t)
  | .fail => .fail
def joinT (c : Bool) (s0 : St) (t e : Tree (Ex × St)) : Tree (Ex × St) :=
  match t, e with
  | .ret (x, s1), .ret (y, s2) => match eqEx x y with
    | true => match mergeS c s0 s1 s2 with
      | some s => .ret (x, s)
      | none => .br c (reFork s0 t) (reFork s0 e)
    | false => .br c (reFork s0 t) (reFork s0 e)
  | _, _ => .br c (reFork s0 t) (reFork s0 e)
/-- A fork, its ways joined where that can be. -/
def forkT (c : Bool) (s0 : St) (t e : Tree (Ex × St)) : Tree (Ex × St) :=
  match t.peel, e.peel with
  | (none, u), (none, v) => joinT c s0 u v
  | (some p, u), (none, v) => .side (c = true → p) (joinT c s0 u v)
  | (none, u), (some q, v) => .side (c = false → q) (joinT c s0 u v)
  | (some p, u), (some q, v) => .side ((c = true → p) ∧ (c = false → q)) (joinT c s0 u v)
/-- A fork whose way may be known: then that is owed. -/
def decT (d : Option Bool) (c : Bool) (s0 : St) (t e : Tree (Ex × St)) : Tree (Ex × St) := match d with
  | none => forkT c s0 t e
  | some true => .side (c = true) (reFork s0 t)
  | some false => .side (c = false) (reFork s0 e)
end Go.Proofs.YtamjnhpkmhbkcaaGreatDoor

/-
  PART: the evaluator: operations, regions, code, calls. (Definitions alone.)
-/
namespace Go.Proofs.YtamjnhpkmhbkcaaGreatDoor
open Go.RowKit

structure Cx where
  P : Program
  ctr : Nat → List AV → St → Option (Tree (AV × St))
  dec : Nat → St → Option Bool    -- which way is taken at an open truth in a slot, if it is known
structure Evs where
  code : Code → St → Tree (Ex × St)
  call : Nat → List AV → St → Tree (AV × St)
  jump : Code → Code → St → Tree (Ex × St)    -- in a scope: what stands from a label on

def sizeO (P : Program) (t : TypeId) : Option Nat := match P.info? t with
  | some i => some i.size
  | none => none
def aggO (P : Program) (t : TypeId) : Option Bool := match P.underlying t with
  | some (.struct _) => some true
  | some (.array _ _) => some true
  | some _ => some false
  | none => none
def zeroO (P : Program) (t : TypeId) : Option (List AV) := match P.info? t with
  | some i => match i.zero with
    | some z => match z.cells.toList.all one1 with
      | true => some (z.cells.toList.map .lit)
      | false => none
    | none => none
  | none => none
def cellsA : AV → List AV
  | .agg l => l
  | a => [a]
/-- No value that a variable may hold, or none that is known. -/
def badA : AV → Bool
  | .tup _ => true
  | .unk => true
  | _ => false
def intOf : AV → Option (Int × Bool)
  | .lit (.int _ z) => some (z, true)
  | .v (.int _ z) => some (z, false)
  | _ => none
/-- Some cells of a row, as a value. -/
def cut (cs : List AV) (off n : Nat) (ag : Bool) : Option AV := match Nat.ble (off + n) cs.length with
  | true => match ag with
    | true => some (.agg ((cs.drop off).take n))
    | false => match n with
      | 1 => cs[off]?
      | _ => none
  | false => none
def splice (cs : List AV) (off : Nat) (new : List AV) : List AV := cs.take off ++ (new ++ cs.drop (off + new.length))
/-- One of n, by an open index. -/
def pickI (i : Int) (f : Nat → Option AV) : Nat → Option AV
  | 0 => none
  | 1 => f 0
  | k + 2 => match f (k + 1), pickI i f (k + 1) with
    | some a, some b => mux muxD (decide (i = ((k + 1 : Nat) : Int))) a b
    | _, _ => none
/-- An index that is in range: closed ones are looked at, open ones owed. -/
def within {α : Type} (l : Bool) (z : Int) (n : Nat) (t : Tree α) : Tree α := match l with
  | true => match decide (0 ≤ z) && decide (z < (n : Int)) with
    | true => t
    | false => .fail
  | false => .side (0 ≤ z ∧ z < (n : Int)) t
/-- A condition of closed parts is looked at, of open ones owed. -/
def closed {α : Type} (l : Bool) (p : Prop) [Decidable p] (t : Tree α) : Tree α := match l with
  | true => match decide p with
    | true => t
    | false => .fail
  | false => .side p t
def below {α : Type} (l : Bool) (i n : Nat) (t : Tree α) : Tree α := match l with
  | true => match Nat.blt i n with
    | true => t
    | false => .fail
  | false => .side (i < n) t
def loadA (P : Program) (t : TypeId) (a : AV) (st : St) : Tree (AV × St) :=
  match sizeO P t, aggO P t with
  | some n, some ag => match a with
    | .ptr x off => match hget st.hp x with
      | some (.fix _ cs) => match cut cs off n ag with
        | some r => .ret (r, st.read x)
        | none => .fail
      | _ => .fail
    | .pti x base i str m off => match hget st.hp x with
      | some (.fix _ cs) => match pickI i (fun j => cut cs (base + j * str + off) n ag) m with
        | some r => .ret (r, st.read x)
        | none => .fail
      | _ => .fail
    | .pe x i k off il => match hget st.hp x with
      | some (.arr _ m k' get) => match Nat.beq k k', cut (get i) off n ag with
        | true, some r => below il i m (.ret (r, st.read x))
        | _, _ => .fail
      | _ => .fail
    | .fz cs off => match cut cs off n ag with
      | some r => .ret (r, st)
      | none => .fail
    | _ => .fail
  | _, _ => .fail
/-- Cells written at an open index: each place is muxed. -/
def spliceI (i : Int) (cs : List AV) (base str off : Nat) (new : List AV) : Nat → Option (List AV)
  | 0 => some cs
  | j + 1 => match spliceI i cs base str off new j with
    | some cs => match Nat.ble (base + j * str + off + new.length) cs.length with
      | true => match zipO (mux muxD (decide (i = (j : Int)))) new ((cs.drop (base + j * str + off)).take new.length) with
        | some r => some (splice cs (base + j * str + off) r)
        | none => none
      | false => none
    | none => none
def storeA (P : Program) (t : TypeId) (a v : AV) (st : St) : Tree (AV × St) :=
  match sizeO P t with
  | some n => match badA v, Nat.beq (cellsA v).length n with
    | false, true => match a with
      | .ptr x off => match hget st.hp x with
        | some (.fix ty cs) => match Nat.ble (off + n) cs.length with
          | true => .ret (.unk, st.writeAt x (some (.fix ty (splice cs off (cellsA v)))) off n)
          | false => .fail
        | _ => .fail
      | .pti x base i str m off => match hget st.hp x with
        | some (.fix ty cs) => match spliceI i cs base str off (cellsA v) m with
          | some cs' => .ret (.unk, st.write x (some (.fix ty cs')))
          | none => .fail
        | _ => .fail
      | .pe x i k off il => match hget st.hp x with
        | some (.arr ty m k' get) => match Nat.beq k k' && Nat.ble (off + n) k with
          | true => below il i m (.ret (.unk, st.write x (some (.arr ty m k fun j => fit k (zipU (mux muxD (decide (j = i))) (splice (get i) off (cellsA v)) (get j))))))
          | false => .fail
        | _ => .fail
      | _ => .fail
    | _, _ => .fail
  | none => .fail
def addOff : AV → Nat → Option AV
  | .ptr x off, o => some (.ptr x (off + o))
  | .pti x b i s n off, o => some (.pti x b i s n (off + o))
  | .pe x i k off il, o => some (.pe x i k (off + o) il)
  | .fz cs off, o => some (.fz cs (off + o))
  | _, _ => none
def fieldAddrA (P : Program) (s : TypeId) (x : AV) (f : Nat) : Option AV := match P.underlying s with
  | some (.struct fs) => match fs[f]? with
    | some fd => match sizeO P fd.type with
      | some (_ + 1) => addOff x fd.offset
      | _ => none
    | none => none
  | _ => none
def fieldA (P : Program) (s : TypeId) (x : AV) (f : Nat) : Option AV := match P.underlying s, x with
  | some (.struct fs), .agg cs => match fs[f]? with
    | some fd => match sizeO P fd.type, aggO P fd.type with
      | some n, some ag => cut cs fd.offset n ag
      | _, _ => none
    | none => none
  | _, _ => none
def indexAddrA (P : Program) (t : TypeId) (x i : AV) : Tree AV := match P.underlying t, intOf i with
  | some (.array len elem), some (z, lt) => match sizeO P elem, lt with
    | some k, true => match decide (0 ≤ z) && decide (z < (len : Int)) with
      | true => ofO (addOff x (z.toNat * k))
      | false => .fail
    | some k, false => match x with
      | .ptr b off => .side (0 ≤ z ∧ z < (len : Int)) (.ret (.pti b off z k len 0))
      | _ => .fail
    | none, _ => .fail
  | some (.slice elem), some (z, lt) => match sizeO P elem with
    | some k => match x with
      | .sl n k' get nl _ => match Nat.beq k k' with
        | true => within (lt && nl) z n (.ret (.fz (get z.toNat) 0))
        | false => .fail
      | .own y n k' nl => match Nat.beq k k' with
        | true => within (lt && nl) z n (.ret (.pe y z.toNat k 0 (lt && nl)))
        | false => .fail
      | .slv y off n k' => match Nat.beq k k', lt with
        | true, true => match decide (0 ≤ z) && decide (z < (n : Int)) with
          | true => .ret (.ptr y (off + z.toNat * k))
          | false => .fail
        | true, false => .side (0 ≤ z ∧ z < (n : Int)) (.ret (.pti y off z k n 0))
        | false, _ => .fail
      | _ => .fail
    | none => .fail
  | _, _ => .fail
def indexA (P : Program) (t : TypeId) (x i : AV) : Tree AV := match P.underlying t, x, intOf i with
  | some (.array len elem), .agg cs, some (z, lt) => match sizeO P elem, aggO P elem, lt with
    | some k, some ag, true => match decide (0 ≤ z) && decide (z < (len : Int)) with
      | true => ofO (cut cs (z.toNat * k) k ag)
      | false => .fail
    | some k, some ag, false => match pickI z (fun j => cut cs (j * k) k ag) len with
      | some r => .side (0 ≤ z ∧ z < (len : Int)) (.ret r)
      | none => .fail
    | _, _, _ => .fail
  | some .string, .lit (.string s), some (z, true) => match (if 0 ≤ z then s[z.toNat]? else none) with
    | some b => .ret (.lit (.int .u8 b.toNat))
    | none => .fail
  | some .string, .lit (.string s), some (z, false) => .side (0 ≤ z ∧ z < (s.size : Int)) (.ret (.v (.int .u8 (s.data.getD z.toNat 0).toNat)))
  | some .string, .v (.string s), some (z, _) => .side (0 ≤ z ∧ z < (s.size : Int)) (.ret (.v (.int .u8 (s.data.getD z.toNat 0).toNat)))
  | _, _, _ => .fail
/-- Parts laid into a row. -/
def fillA (place : Nat → Option (Nat × Nat)) : List (Nat × AV) → List AV → Option (List AV)
  | [], cs => some cs
  | (i, a) :: l, cs => match place i with
    | some (off, n) => match badA a, Nat.beq (cellsA a).length n && Nat.ble (off + n) cs.length with
      | false, true => fillA place l (splice cs off (cellsA a))
      | _, _ => none
    | none => none
def buildA (P : Program) (t : TypeId) (parts : List (Nat × AV)) : Option AV := match zeroO P t with
  | some cs => match P.underlying t with
    | some (.struct fs) => match fs.toList.all (fun f => (sizeO P f.type).isSome) with
      | true => match fillA (fun i => match fs[i]? with
          | some f => match sizeO P f.type with
            | some n => some (f.offset, n)
            | none => none
          | none => none) parts cs with
        | some r => some (.agg r)
        | none => none
      | false => none
    | some (.array _ elem) => match sizeO P elem with
      | some k => match fillA (fun i => some (i * k, k)) parts cs with
        | some r => some (.agg r)
        | none => none
      | none => none
    | _ => none
  | none => none
def reps : Nat → List AV → List AV
  | 0, _ => []
  | n + 1, l => l ++ reps n l
def rowGet (k : Nat) (cs : List AV) (i : Nat) : List AV := (cs.drop (i * k)).take k
def buildSliceA (P : Program) (t : TypeId) (len : Nat) (parts : List (Nat × AV)) (st : St) : Tree (AV × St) := match P.underlying t with
  | some (.slice elem) => match sizeO P elem, zeroO P elem with
    | some k, some z => match Nat.ble (len * k) 16777216 && Nat.beq z.length k && Nat.ble 1 k with
      | true => match fillA (fun i => some (i * k, k)) parts (reps len z) with
        | some cs => .ret (.own st.nx len k true, st.new (.arr elem len k (rowGet k cs)))
        | none => .fail
      | false => .fail
    | _, _ => .fail
  | _ => .fail
def makeSliceA (P : Program) (t : TypeId) (len cap : AV) (st : St) : Tree (AV × St) := match P.underlying t, intOf len, intOf cap with
  | some (.slice elem), some (n, lt), some (c, lc) => match sizeO P elem, zeroO P elem with
    | some k, some z => match Nat.beq z.length k && Nat.ble 1 k with
      | true => closed (lt && lc) (0 ≤ n ∧ c = n ∧ n < 9223372036854775808 ∧ (P.bytesOf elem : Int) * n ≤ 281474976710656)
          (.ret (.own st.nx n.toNat k lt, st.new (.arr elem n.toNat k fun _ => z)))
      | false => .fail
    | _, _ => .fail
  | _, _, _ => .fail

/-! Rows as operands: what they hold. -/
structure Row where
  n : Nat
  nl : Bool
  get : Nat → List AV
/-- What a slice or a string's bytes hold (cells of k); blocks that are looked at. -/
def rowOf (st : St) (k : Nat) : AV → Option (Row × List Nat)
  | .lit (.slice none 0 0) => some (⟨0, true, fun _ => fit k []⟩, [])
  | .sl n k' get nl _ => match Nat.beq k k' with
    | true => some (⟨n, nl, get⟩, [])
    | false => none
  | .own x n k' nl => match Nat.beq k k', hget st.hp x with
    | true, some (.arr _ _ k'' get) => match Nat.beq k k'' with
      | true => some (⟨n, nl, get⟩, [x])
      | false => none
    | _, _ => none
  | .slv x off n k' => match Nat.beq k k', hget st.hp x with
    | true, some (.fix _ cs) => match Nat.ble (off + n * k) cs.length with
      | true => some (⟨n, true, fun i => (cs.drop (off + i * k)).take k⟩, [x])
      | false => none
    | _, _ => none
  | .lit (.string s) => match Nat.beq k 1 with
    | true => some (⟨s.size, true, fun i => [.lit (.int .u8 (s.data.getD i 0).toNat)]⟩, [])
    | false => none
  | .v (.string s) => match Nat.beq k 1 with
    | true => some (⟨s.size, false, fun i => [.v (.int .u8 (s.data.getD i 0).toNat)]⟩, [])
    | false => none
  | _ => none
/-- The place in a row; in a row of one it is known. -/
def catIx (s : Row) (j : Nat) : Nat := match s.nl && Nat.beq s.n 1 with
  | true => 0
  | false => j
def catGet (k : Nat) (r s : Row) : Nat → List AV := match r.nl with
  | true => fun i => match Nat.ble r.n i with
    | true => s.get (i - r.n)
    | false => r.get i
  | false => fun i => fit k (zipU (mux muxD (decide (i < r.n))) (r.get i) (s.get (catIx s (i - r.n))))
def maxAppend : Nat := 2 ^ 40
def appendA (P : Program) (sT : TypeId) (s x : AV) (st : St) : Tree (AV × St) := match P.underlying sT with
  | some (.slice elem) => match sizeO P elem, zeroO P elem with
    | some k, some z => match Nat.beq z.length k && Nat.ble 1 k, rowOf st k s, rowOf st k x with
      | true, some (r, _), some (q, xs) =>
        let st := xs.foldl St.read st
        let go (st : St) : Tree (AV × St) := closed (r.nl && q.nl) ((r.n + q.n) * P.bytesOf elem ≤ maxAppend ∧ r.n + q.n ≤ maxAppend)
          (.ret (.own st.nx (r.n + q.n) k (r.nl && q.nl), st.new (.arr elem (r.n + q.n) k (catGet k r q))))
        match s with
        | .own y .. => match xs.elem y with
          | true => .fail
          | false => match hget st.hp y with
            | some (.arr ty _ _ _) => match Nat.beq ty elem with
              | true => go (st.write y none)
              | false => .fail
            | _ => .fail
        | .lit v => match isNilSl v with
          | true => go st
          | false => .fail
        | .sl _ _ _ _ true => match q.nl with
          | true => match Nat.ble 1 q.n with
            | true => go st
            | false => .ret (s, st)
          | false => .br (decide (q.n = 0)) (.ret (s, st)) (go st)
        | _ => .fail
      | _, _, _ => .fail
    | _, _ => .fail
  | _ => .fail
def lenA (P : Program) (t : TypeId) (x : AV) : Option AV := match P.underlying t, x with
  | some .string, .lit (.string s) => some (.lit (.int .i64 s.size))
  | some .string, .v (.string s) => some (.v (.int .i64 s.size))
  | some (.array n _), _ => some (.lit (.int .i64 n))
  | some (.slice _), .lit (.slice _ n _) => some (.lit (.int .i64 n))
  | some (.slice _), .sl n _ _ nl _ => match nl with
    | true => some (.lit (.int .i64 n))
    | false => some (.v (.int .i64 n))
  | some (.slice _), .own _ n _ nl => match nl with
    | true => some (.lit (.int .i64 n))
    | false => some (.v (.int .i64 n))
  | some (.slice _), .slv _ _ n _ => some (.lit (.int .i64 n))
  | _, _ => none
/-- Bounds of a slice operation that are in order (no capacity beyond the length is used). -/
def boundA (dflt : Int × Bool) : Option AV → Option (Int × Bool)
  | none => some dflt
  | some a => intOf a
def sliceA (P : Program) (t : TypeId) (x : AV) (lo hi mx : Option AV) (st : St) : Tree (AV × St) :=
  match P.underlying t with
  | some .string => match x, mx with
    | .lit (.string s), none => match boundA (0, true) lo, boundA (s.size, true) hi with
      | some (l, ll), some (h, hl) => closed (ll && hl) (0 ≤ l ∧ l ≤ h ∧ h ≤ (s.size : Int)) (.ret ((match ll && hl with | true => AV.lit | false => AV.v) (.string (s.extract l.toNat h.toNat)), st))
      | _, _ => .fail
    | .v (.string s), none => match boundA (0, true) lo, boundA (s.size, false) hi with
      | some (l, _), some (h, _) => .side (0 ≤ l ∧ l ≤ h ∧ h ≤ (s.size : Int)) (.ret (.v (.string (s.extract l.toNat h.toNat)), st))
      | _, _ => .fail
    | _, _ => .fail
  | some (.slice elem) => match x with
    | .sl n k get nl full => match boundA (0, true) lo, boundA (n, nl) hi, boundA (0, true) mx, (match sizeO P elem with | some k' => Nat.beq k k' | none => false) with
      | some (l, ll), some (h, hl), some (m, lm), true =>
        closed (nl && (ll && (hl && lm))) (0 ≤ l ∧ l ≤ h ∧ h ≤ (n : Int) ∧ (mx.isSome = true → m = h))
          (.ret (.sl (h.toNat - l.toNat) k (fun i => get (l.toNat + i)) (ll && hl) (mx.isSome || (full && hi.isNone)), st))
      | _, _, _, _ => .fail
    | .own _ _ k _ => match boundA (0, true) lo, boundA (1, true) hi, boundA (1, true) mx, (match sizeO P elem with | some k' => Nat.beq k k' | none => false) with
      | some (l, _), some (h, _), some (m, _), true => match decide (l = 0) && (decide (h = 0) && decide (m = 0)) with
        | true => .ret (.sl 0 k (fun _ => fit k []) true true, st)
        | false => .fail
      | _, _, _, _ => .fail
    | _ => .fail
  | some (.array n elem) => match x, mx, sizeO P elem with
    | .ptr y off, none, some k => match boundA (0, true) lo, boundA (n, true) hi with
      | some (l, true), some (h, true) => match (decide (0 ≤ l) && decide (l ≤ h)) && (decide (h ≤ (n : Int)) && (decide (l = 0) || decide (l < (n : Int)))) with
        | true => .ret (.slv y (off + l.toNat * k) (h.toNat - l.toNat) k, st)
        | false => .fail
      | _, _ => .fail
    | _, _, _ => .fail
  | _ => .fail

/-! Equality. -/
def boolOf : AV → Option (Bool × Bool)
  | .lit (.bool b) => some (b, true)
  | .v (.bool b) => some (b, false)
  | _ => none
def andA (a b : AV) : Option AV := match boolOf a, boolOf b with
  | some (x, true), some (y, true) => some (.lit (.bool (x && y)))
  | some (x, true), some (y, false) => match x with
    | true => some (.v (.bool y))
    | false => some (.lit (.bool false))
  | some (x, false), some (y, true) => match y with
    | true => some (.v (.bool x))
    | false => some (.lit (.bool false))
  | some (x, false), some (y, false) => some (.v (.bool (x && y)))
  | _, _ => none
def notA : AV → Option AV
  | .lit (.bool b) => some (.lit (.bool !b))
  | .v (.bool b) => some (.v (.bool !b))
  | _ => none
def allEq (f : Nat → Option AV) : Nat → Option AV
  | 0 => some (.lit (.bool true))
  | n + 1 => match allEq f n, f n with
    | some a, some b => andA a b
    | _, _ => none
def allEqF (f : Field → Option AV) : List Field → Option AV
  | [] => some (.lit (.bool true))
  | x :: l => match f x, allEqF f l with
    | some a, some b => andA a b
    | _, _ => none
def eqScal : TypeDesc → Value → Value → Option Bool
  | .bool, .bool a, .bool b => some (a == b)
  | .int _, .int k a, .int k' b => match decide (k = k') with
    | true => some (a == b)
    | false => none
  | .float _, .float k a, .float k' b => match decide (k = k') with
    | true => some (Op.floatEq k a b)
    | false => none
  | .complex _, .complex k a b, .complex k' a' b' => match decide (k = k') with
    | true => some (Op.floatEq k a a' && Op.floatEq k b b')
    | false => none
  | .string, .string a, .string b => some (a == b)
  | _, _, _ => none
def eqLeaf (d : TypeDesc) (a b : AV) : Option AV := match scal a, scal b with
  | some (x, lx), some (y, ly) => match eqScal d x y with
    | some r => some (match lx && ly with | true => .lit (.bool r) | false => .v (.bool r))
    | none => none
  | _, _ => none
def eqT (P : Program) : Nat → TypeId → AV → AV → Option AV
  | 0, _, _, _ => none
  | d + 1, t, a, b => match P.underlying t with
    | some (.struct fs) => match a, b with
      | .agg xs, .agg ys => match P.stoodInHeld t with
        | false => allEqF (fun f => match f.name == "_" with
          | true => some (.lit (.bool true))
          | false => match sizeO P f.type, aggO P f.type with
            | some n, some ag => match cut xs f.offset n ag, cut ys f.offset n ag with
              | some x, some y => eqT P d f.type x y
              | _, _ => none
            | _, _ => none) fs.toList
        | true => none
      | _, _ => none
    | some (.array len e) => match a, b with
      | .agg xs, .agg ys => match sizeO P e, aggO P e with
        | some n, some ag => allEq (fun i => match cut xs (i * n) n ag, cut ys (i * n) n ag with
          | some x, some y => eqT P d e x y
          | _, _ => none) len
        | _, _ => none
      | _, _ => none
    | some (.interface _) => none
    | some (.pointer el) => match a, b with
      | .fz .., .lit (.pointer none) => some (.lit (.bool false))
      | .ptr .., .lit (.pointer none) => some (.lit (.bool false))
      | .lit (.pointer none), .fz .. => some (.lit (.bool false))
      | .lit (.pointer none), .ptr .. => some (.lit (.bool false))
      | .lit (.pointer none), .lit (.pointer none) => some (.lit (.bool true))
      | .ptr x o, .ptr y p => match Nat.beq x y && Nat.beq o p, sizeO P el with
        | true, some _ => some (.lit (.bool true))
        | _, _ => none
      | _, _ => none
    | some (.func ..) => match a, b with
      | .fn .., .lit .nilFunc => some (.lit (.bool false))
      | .lit .nilFunc, .lit .nilFunc => some (.lit (.bool true))
      | _, _ => none
    | some (.slice _) => match a, b with
      | .lit (.slice none 0 0), .lit (.slice none 0 0) => some (.lit (.bool true))
      | _, _ => none
    | some d => eqLeaf d a b
    | none => none
def litOr (l : Bool) (v : Value) : AV := match one1 v with
  | true => match l with
    | true => .lit v
    | false => .v v
  | false => .unk
def binA (P : Program) (op : BinOp) (t : TypeId) (a b : AV) : Tree AV := match scal a, scal b with
  | some (x, lx), some (y, ly) => match op, x, y, lx && ly with
    | .quo, .int k m, .int k' n, false => match decide (k = k') with
      | true => .side (n ≠ 0) (.ret (.v (.int k (k.wrap (m.tdiv n)))))
      | false => .fail
    | .rem, .int k m, .int k' n, false => match decide (k = k') with
      | true => .side (n ≠ 0) (.ret (.v (.int k (m.tmod n))))
      | false => .fail
    | .shl, .int k m, .int _ n, false => .side (0 ≤ n) (.ret (.v (.int k (k.wrap (m * 2 ^ (min n.toNat k.bits))))))
    | .shr, .int k m, .int _ n, false => .side (0 ≤ n) (.ret (.v (.int k (m.fdiv (2 ^ (min n.toNat k.bits))))))
    | .mul, .complex .f64 a b, .complex .f64 c d, false => .side ((cMulBits a b c d).isSome = true) (.ret (.v (.complex .f64 ((cMulBits a b c d).getD (0, 0)).1 ((cMulBits a b c d).getD (0, 0)).2)))
    | .add, .string m, .string n, false => .side (m.size + n.size ≤ 9223372036854775807) (.ret (.v (.string (m ++ n))))
    | _, _, _, l => match semVal P (do eqGuard op t (.tmp 0) (.tmp 0) x y; binOp op t x y) with
      | some r => .ret (litOr l r)
      | none => .fail
  | _, _ => match op with
    | .eql => match P.eqGuardType P.depth t with
      | false => ofO (eqT P 20 t a b)
      | true => .fail
    | .neq => match P.eqGuardType P.depth t with
      | false => match eqT P 20 t a b with
        | some r => ofO (notA r)
        | none => .fail
      | true => .fail
    | _ => .fail
/-- A slice that is compared with nil: how long it is. -/
def nilCmp (P : Program) (t : TypeId) (a b : AV) : Option (Nat × Bool) := match P.underlying t, b with
  | some (.slice _), .lit v => match isNilSl v, P.eqGuardType P.depth t with
    | true, false => match a with
      | .sl n _ _ nl _ => some (n, nl)
      | .own _ n _ nl => some (n, nl)
      | _ => none
    | _, _ => none
  | _, _ => none
/-- An opaque value of an interface type that is compared with nil. -/
def NonNil (φ : (Nat → Option (Array Value)) → Value → Prop) : Prop := ∀ fz v, φ fz v → ∃ t p, v = .iface t p
def isNilIf : Value → Bool
  | .nilIface => true
  | _ => false
def ifCmp (P : Program) (t : TypeId) (a b : AV) : Option ((Nat → Option (Array Value)) → Value → Prop) := match P.underlying t, b with
  | some (.interface _), .lit v => match isNilIf v, a with
    | true, .any φ => some φ
    | _, _ => none
  | _, _ => none
def binB (P : Program) (op : BinOp) (t : TypeId) (a b : AV) : Tree AV := match nilCmp P t a b with
  | some (n, nl) => match op with
    | .eql => closed nl (1 ≤ n) (.ret (.lit (.bool false)))
    | .neq => closed nl (1 ≤ n) (.ret (.lit (.bool true)))
    | _ => .fail
  | none => match ifCmp P t a b with
    | some φ => match op with
      | .eql => .side (NonNil φ) (.ret (.lit (.bool false)))
      | .neq => .side (NonNil φ) (.ret (.lit (.bool true)))
      | _ => .fail
    | none => binA P op t a b
def isConstO : Operand → Bool
  | .const _ => true
  | _ => false
/-- Two nil values of an interface type, one of them the literal. -/
def nnCmp (P : Program) (t : TypeId) (a b : AV) (c : Bool) : Bool := match P.underlying t, a, b with
  | some (.interface _), .lit v, .lit u => c && (isNilIf v && isNilIf u)
  | _, _, _ => false
def binC (P : Program) (op : BinOp) (t : TypeId) (a b : AV) (c : Bool) : Tree AV := match nnCmp P t a b c with
  | true => match op with
    | .eql => .ret (.lit (.bool true))
    | .neq => .ret (.lit (.bool false))
    | _ => .fail
  | false => binB P op t a b
def scals : List AV → Option (List Value × Bool)
  | [] => some ([], true)
  | a :: l => match scal a, scals l with
    | some (x, lx), some (xs, ls) => some (x :: xs, lx && ls)
    | _, _ => none
/-- Where an owned row of bytes begins. -/
def sliceDataA (x : AV) (st : St) : Tree (AV × St) := match x with
  | .lit v => match isNilSl v with
    | true => .ret (.lit (.pointer none), st)
    | false => .fail
  | .own y n k nl => match hget st.hp y with
    | some (.arr _ _ k' _) => match Nat.beq k k' && Nat.blt 0 k with
      | true => closed nl (1 ≤ n) (.ret (.pe y 0 k 0 nl, st.read y))
      | false => .fail
    | _ => .fail
  | _ => .fail
/-- The bytes that cells hold. -/
def bytesA : List AV → Option (List Int)
  | [] => some []
  | a :: l => match scal a, bytesA l with
    | some (.int .u8 z, _), some m => some (z :: m)
    | _, _ => none
def byteA (l : List AV) : Int := match bytesA l with
  | some [z] => z
  | _ => 0
def isLitB : List AV → Bool
  | [.lit _] => true
  | _ => false
/-- A string of an owned row's bytes: the row is let go (its bytes are shared from then on). -/
def unsafeStrA (P : Program) (ts : Array TypeId) (p len : AV) (st : St) : Tree (AV × St) := match ts.toList, intOf len with
  | [pt, _], some (z, l) => match p with
    | .lit (.pointer none) => closed l (z = 0) (.ret (.lit (.string .empty), st))
    | .pe y i k off il => match hget st.hp y, P.underlying pt with
      | some (.arr ty n k' get), some (.pointer e) => match Nat.beq i 0 && (Nat.beq off 0 && (Nat.beq k 1 && (Nat.beq k' 1 && (Nat.beq ty e && Nat.beq (P.cellsOf e) 1)))) with
        | true => closed (il && (l && (List.range n).all (fun j => isLitB (get j)))) (z = (n : Int) ∧ 1 ≤ n ∧ (n : Int) ≤ 9223372036854775807 ∧ ∀ j, j < n → bytesA (get j) = some [byteA (get j)])
            (.ret ((match il && (l && (List.range n).all (fun j => isLitB (get j))) with | true => AV.lit | false => AV.v) (.string ⟨(((List.range n).map fun j => byteA (get j)).map fun (z : Int) => UInt8.ofNat z.toNat).toArray⟩), st.write y none))
        | false => .fail
      | _, _ => .fail
    | _ => .fail
  | _, _ => .fail
/-- A row whose first ones are another one's. -/
def overA (m : Nat) (get get0 : Nat → List AV) (j : Nat) : List AV := match Nat.blt j m with
  | true => get j
  | false => get0 j
/-- A row, whose length is known, copied over the beginning of another one. -/
def copyA (P : Program) (ts : Array TypeId) (d x : AV) (st : St) : Tree (AV × St) := match (match ts[0]? with | some t => P.underlying t | none => none) with
  | some (.slice elem) => match sizeO P elem with
    | some k => match Nat.ble 1 k, rowOf st k x with
      | true, some (⟨m, true, get⟩, xs) => match d with
        | .slv y off n k' => match hget st.hp y with
          | some (.fix ty cs) => match Nat.beq k k' && (Nat.ble m n && (!xs.elem y && (Nat.ble (off + m * k) cs.length && Nat.beq ((List.range m).flatMap get).length (m * k)))) with
            | true => .ret (.lit (.int .i64 m), (xs.foldl St.read st).writeAt y (some (.fix ty (splice cs off ((List.range m).flatMap get)))) off (m * k))
            | false => .fail
          | _ => .fail
        | .own y n k' nl => match hget st.hp y with
          | some (.arr ty n' k'' get0) => match Nat.beq k k' && (Nat.beq k k'' && !xs.elem y) with
            | true => closed nl (m ≤ n) (.ret (.lit (.int .i64 m), (xs.foldl St.read st).write y (some (.arr ty n' k (overA m get get0)))))
            | false => .fail
          | _ => .fail
        | _ => .fail
      | _, _ => .fail
    | none => .fail
  | _ => .fail
def builtinA (P : Program) (b : Builtin) (ts : Array TypeId) (ty : TypeId) (args : List AV) (st : St) : Tree (AV × St) := match b, args with
  | .len, [x] => match lenA P (ts.getD 0 0) x, ts[0]? with
    | some r, some _ => .ret (r, st)
    | _, _ => .fail
  | .append, [s, x] => match ts[0]?, (match ts[1]? with | some xT => (match P.underlying xT with | some (.slice _) => false | some .string => false | _ => true) | none => true) with
    | some sT, false => appendA P sT s x st
    | _, _ => .fail
  | .max, _ => match scals args with
    | some (vs, l) => match semVal P (Builtin.max_ ts ty vs.toArray) with
      | some r => .ret (litOr l r, st)
      | none => .fail
    | none => .fail
  | .min, _ => match scals args with
    | some (vs, l) => match semVal P (Builtin.min_ ts ty vs.toArray) with
      | some r => .ret (litOr l r, st)
      | none => .fail
    | none => .fail
  | .complex, _ => match scals args with
    | some (vs, l) => match semVal P (Builtin.complex_ ts ty vs.toArray) with
      | some r => .ret (litOr l r, st)
      | none => .fail
    | none => .fail
  | .real, _ => match scals args with
    | some (vs, l) => match semVal P (Builtin.real_ ts ty vs.toArray) with
      | some r => .ret (litOr l r, st)
      | none => .fail
    | none => .fail
  | .imag, _ => match scals args with
    | some (vs, l) => match semVal P (Builtin.imag_ ts ty vs.toArray) with
      | some r => .ret (litOr l r, st)
      | none => .fail
    | none => .fail
  | .unsafeSliceData, [x] => sliceDataA x st
  | .copy, [d, x] => copyA P ts d x st
  | .unsafeString, [p, n] => unsafeStrA P ts p n st
  | _, _ => .fail
def callA (cx : Cx) (r : Evs) (f : AV) (args : List AV) (st : St) : Tree (AV × St) := match f with
  | .fn (.func g) first cap => r.call g (first ++ args ++ cap) st
  | _ => .fail
def pureA (o : Option AV) (st : St) : Tree (AV × St) := match o with
  | some a => .ret (a, st)
  | none => .fail
def withSt (st : St) : Tree AV → Tree (AV × St) := Tree.bind fun a => .ret (a, st)
def un1 (P : Program) (a : AV) (f : Value → Sem Value) (st : St) : Tree (AV × St) := match scal a with
  | some (x, l) => match semVal P (f x) with
    | some r => .ret (litOr l r, st)
    | none => .fail
  | none => .fail
/-- A conversion: of a float that is not known to an integer, its value is owed. -/
def convA (P : Program) (src dst : TypeId) (a : AV) (st : St) : Tree (AV × St) := match scal a, P.underlying dst, (P.underlying src).isSome with
  | some (.float s b, false), some (.int k), true => .side ((floatToIntVal s b k).isSome = true) (.ret (.v (.int k ((floatToIntVal s b k).getD 0)), st))
  | _, _, _ => un1 P a (convert src dst) st
def isSlA : AV → Bool
  | .sl .. => true
  | .own .. => true
  | .slv .. => true
  | _ => false
/-- A slice of bytes whose length is known, as a string. -/
def bconvA (P : Program) (src dst : TypeId) (a : AV) (st : St) : Option (AV × St) := match P.underlying src, P.underlying dst, isSlA a with
  | some (.slice e), some .string, true => match P.underlying e, rowOf st 1 a with
    | some (.int .u8), some (⟨n, true, get⟩, xs) => match Nat.ble n 64 with
      | true => match bytesA ((List.range n).flatMap get) with
        | some zs => some ((match (List.range n).all (fun j => isLitB (get j)) with | true => AV.lit | false => AV.v) (.string ⟨(zs.map fun (z : Int) => UInt8.ofNat z.toNat).toArray⟩), xs.foldl St.read st)
        | none => none
      | false => none
    | _, _ => none
  | _, _, _ => none
/-- A slice of bytes as a string, however long: that its cells are bytes is owed. -/
def bconvS (P : Program) (src dst : TypeId) (a : AV) (st : St) : Option (Prop × AV × St) := match P.underlying src, P.underlying dst, isSlA a with
  | some (.slice e), some .string, true => match P.underlying e, rowOf st 1 a with
    | some (.int .u8), some (⟨n, _, get⟩, xs) => some (∀ j, j < n → bytesA (get j) = some [byteA (get j)], .v (.string ⟨(((List.range n).map fun j => byteA (get j)).map fun z => UInt8.ofNat z.toNat).toArray⟩), xs.foldl St.read st)
    | _, _ => none
  | _, _, _ => none
def byteAV (l : Bool) (b : UInt8) : List AV := match l with
  | true => [.lit (.int .u8 b.toNat)]
  | false => [.v (.int .u8 b.toNat)]
/-- A string's bytes, in a new row. -/
def sconvA (P : Program) (src dst : TypeId) (a : AV) (st : St) : Option (AV × St) := match P.underlying src, P.underlying dst, scal a with
  | some .string, some (.slice e), some (.string s, l) => match P.underlying e with
    | some (.int .u8) => some (.own st.nx s.size 1 l, st.new (.arr e s.size 1 fun j => byteAV l (s.data.getD j 0)))
    | _ => none
  | _, _, _ => none
/-- A pointer to a variable, to unsafe.Pointer or back: as it is. -/
def ptrConvA (P : Program) (src dst : TypeId) (a : AV) (st : St) : Option (AV × St) := match a with
  | .ptr x off => match hget st.hp x with
    | some (.fix ty cs) => match P.underlying src, P.underlying dst with
      | some (.pointer t), some .unsafePointer => match P.info? t with
        | some j => match Nat.beq j.size 0, Nat.blt off cs.length with
          | false, true => some (.ptr x off, st.read x)
          | _, _ => none
        | none => none
      | some .unsafePointer, some (.pointer u) => match P.info? u, liesAt P P.depth ty (cs.length / P.cellsOf ty) off u 1 with
        | some _, true => some (.ptr x off, st.read x)
        | _, _ => none
      | _, _ => none
    | _ => none
  | _ => none
/-! Maps. -/
def kdOf (P : Program) (t : TypeId) : Option Kd := match P.underlying t with
  | some (.int k) => some (.int k)
  | some .string => some .str
  | some .bool => some .bool
  | _ => none
def kindsF (f : TypeId → Option (List Kd)) : List Field → Option (List Kd)
  | [] => some []
  | x :: l => match f x.type, kindsF f l with
    | some a, some b => some (a ++ b)
    | _, _ => none
/-- The parts of a key that is an array or a struct. -/
def kindsOf (P : Program) : Nat → TypeId → Option (List Kd)
  | 0, _ => none
  | d + 1, t => match kdOf P t with
    | some k => match Nat.beq (P.cellsOf t) 1 with
      | true => some [k]
      | false => none
    | none => match P.underlying t with
      | some (.array n e) => match kindsOf P d e with
        | some l => some (List.replicate n l).flatten
        | none => none
      | some (.struct fs) => kindsF (kindsOf P d) fs.toList
      | _ => none
def wideT (P : Program) (t : TypeId) : Bool := match P.underlying t with
  | some (.array _ _) | some (.struct _) => true
  | _ => false
def shapeOf (P : Program) (t : TypeId) : Option KShape := match kdOf P t with
  | some d => some (.one d)
  | none => match wideT P t && (P.keyTypeAt 8 t && (P.tiled 8 t && (P.keyType t && Nat.ble 8 (P.types.size + 1)))) with
    | true => match kindsOf P 8 t with
      | some ds => some (.row ds)
      | none => none
    | false => none
def isOne : KShape → Bool
  | .one _ => true
  | .row _ => false
/-- A key, as a value; whether it is closed. -/
def keyA : AV → Option (Value × Bool)
  | .agg l => match scalsK l with
    | some (vs, b) => some (.agg vs.toArray, b)
    | none => none
  | a => scal a
where scalsK : List AV → Option (List Value × Bool)
  | [] => some ([], true)
  | a :: l => match scal a, scalsK l with
    | some (x, lx), some (xs, ls) => some (x :: xs, lx && ls)
    | _, _ => none
/-- A type's zero value, if it is of one cell. -/
def zero1 (P : Program) (t : TypeId) : Option Value := match P.info? t with
  | some i => match i.zero with
    | some z => match one1 z with
      | true => some z
      | false => none
    | none => none
  | none => none
def makeMapA (P : Program) (t : TypeId) (hint : Bool) (st : St) : Tree (AV × St) := match P.underlying t, hint with
  | some (.map kt vt), false => match shapeOf P kt, zero1 P vt with
    | some sh, some z => .ret (.mp st.nx, st.new (.map sh z (fun _ => z) (fun _ => false) true))
    | _, _ => .fail
  | _, _ => .fail
def muxW (c : Bool) (v u : Value) : Value := match muxV c v u with
  | some z => z
  | none => if c = true then v else u
def lookupA (P : Program) (t : TypeId) (x i : AV) (ok : Bool) (st : St) : Tree (AV × St) := match P.underlying t, x with
  | some (.map kt vt), .mp y => match hget st.hp y, keyA i, shapeOf P kt, zero1 P vt with
    | some (.map sh zv get has nl), some (k, lk), some sh', some z => match decide (sh = sh') && eqV z zv with
      | true => closed (isOne sh || lk) (keyIs sh k = true) (match ok with
        | true => .ret (.tup [litOr (nl && lk) (get k), litOr (nl && lk) (.bool (has k))], st.read y)
        | false => .ret (litOr (nl && lk) (get k), st.read y))
      | false => .fail
    | _, _, _, _ => .fail
  | _, _ => .fail
def mapUpdateA (P : Program) (t : TypeId) (m k v : AV) (st : St) : Tree (AV × St) := match P.underlying t, m with
  | some (.map kt _), .mp y => match hget st.hp y, keyA k, scal v, shapeOf P kt with
    | some (.map sh zv get has nl), some (kv, lk), some (vv, lv), some sh' => match decide (sh = sh') && one1 vv with
      | true => closed (isOne sh || lk) (keyIs sh kv = true) (.ret (.unk, st.write y (some (.map sh zv (fun q => muxW (keyEq q kv) vv (get q)) (fun q => keyEq q kv || has q) (nl && (lk && lv))))))
      | false => .fail
    | _, _, _, _ => .fail
  | _, _ => .fail
def evalOp (cx : Cx) (r : Evs) (o : Oper) (st : St) : Tree (AV × St) :=
  match o.op with
  | .move x => .ret (st.val x, st)
  | .assign x => .ret (st.val x, st)
  | .pick c a b => match boolOf (st.val c) with
    | some (e, true) => match e with
      | true => .ret (st.val a, st)
      | false => .ret (st.val b, st)
    | some (e, false) => pureA (mux muxD e (st.val a) (st.val b)) st
    | none => .fail
  | .alloc elem => match zeroO cx.P elem with
    | some cs => .ret (.ptr st.nx 0, st.new (.fix elem cs))
    | none => .fail
  | .box elem x => match badA (st.val x) with
    | false => .ret (.ptr st.nx 0, st.new (.fix elem (cellsA (st.val x))))
    | true => .fail
  | .build t parts => pureA (buildA cx.P t (parts.toList.map fun p => (p.1, st.val p.2))) st
  | .buildSlice t len parts => buildSliceA cx.P t len (parts.toList.map fun p => (p.1, st.val p.2)) st
  | .load t a => loadA cx.P t (st.val a) st
  | .store t a v => storeA cx.P t (st.val a) (st.val v) st
  | .nilCheck x => match st.val x with
    | .ptr y off => .ret (.ptr y off, st)
    | .fz cs off => .ret (.fz cs off, st)
    | .pe y i k off il => .ret (.pe y i k off il, st)
    | .pti y b i s n off => .ret (.pti y b i s n off, st)
    | .fn (.func g) a b => .ret (.fn (.func g) a b, st)
    | _ => .fail
  | .binOp op t x y _ => withSt st (binC cx.P op t (st.val x) (st.val y) (isConstO y))
  | .unOp op _ x => un1 cx.P (st.val x) (Op.unary op) st
  | .makeMap t r => makeMapA cx.P t r.isSome st
  | .lookup t x i ok => lookupA cx.P t (st.val x) (st.val i) ok st
  | .mapUpdate t m k v => mapUpdateA cx.P t (st.val m) (st.val k) (st.val v) st
  | .insert t m k v => mapUpdateA cx.P t (st.val m) (st.val k) (st.val v) st
  | .convert src dst x => match ptrConvA cx.P src dst (st.val x) st with
    | some p => .ret p
    | none => match bconvA cx.P src dst (st.val x) st with
      | some p => .ret p
      | none => match bconvS cx.P src dst (st.val x) st with
        | some (c, p) => .side c (.ret p)
        | none => match sconvA cx.P src dst (st.val x) st with
          | some p => .ret p
          | none => convA cx.P src dst (st.val x) st
  | .makeInterface t x => un1 cx.P (st.val x) (Instr.makeInterface t) st
  | .makeFunc fn first cap => .ret (.fn fn (first.toList.map st.val) (cap.toList.map st.val), st)
  | .makeSlice t l c => makeSliceA cx.P t (st.val l) (st.val c) st
  | .slice t x lo hi mx => match mx.isSome && hi.isNone with
    | false => sliceA cx.P t (st.val x) (lo.map st.val) (hi.map st.val) (mx.map st.val) st
    | true => .fail
  | .fieldAddr s x f => pureA (fieldAddrA cx.P s (st.val x) f) st
  | .field s x f => pureA (fieldA cx.P s (st.val x) f) st
  | .indexAddr t x i => withSt st (indexAddrA cx.P t (st.val x) (st.val i))
  | .index t x i => withSt st (indexA cx.P t (st.val x) (st.val i))
  | .extract t i => match st.val t with
    | .tup l => pureA l[i]? st
    | _ => .fail
  | .call c => match c.callee with
    | .builtin b => builtinA cx.P b c.argTypes o.type (c.args.toList.map st.val) st
    | .value f => callA cx r (st.val f) (c.args.toList.map st.val) st
    | .invoke _ _ => .fail
  | _ => .fail

/-! Regions. -/
structure Rec where
  rd : List Nat
  wr : List Nat
/-- Who must come ahead of whom (bits). -/
def meets (a b : Rec) : Bool := a.wr.any (fun x => b.rd.elem x || b.wr.elem x) || b.wr.any (fun x => a.rd.elem x)
def okAgainst (bits : Nat) (r : Rec) : List (Nat × Rec) → Bool
  | [] => true
  | (i, q) :: l => (!(meets r q) || bits.testBit i) && okAgainst bits r l
/-- Earlier ones, latest first. -/
def okRecs (b : Array Nat) : List (Nat × Rec) → Bool
  | [] => true
  | (i, r) :: l => okAgainst (b.getD i 0) r l && okRecs b l
def guardOf (ops : Array Oper) (o : Oper) : Option (Nat × Bool) := match o.guard with
  | none => none
  | some (j, w) => match ops[j]? with
    | some p => match p.dst with
      | some d => some (d, w)
      | none => none
    | none => none
/-- A region whose order may be drawn: what names one slot stands in one order; edges lead back. -/
def namesOf (ops : Array Oper) (o : Oper) : List Nat := o.dst.toList ++ ((o.op.operands.toList.filterMap fun | .tmp t => some t | _ => none) ++ ((guardOf ops o).map (·.1)).toList)
def orderOk (b : Array Nat) (i : Nat) (ds : List Nat) : List (Nat × Oper) → Bool
  | [] => true
  | (j, p) :: l => (match p.dst with
    | some d => !ds.elem d || Nat.beq i j || (b.getD (Nat.max i j) 0).testBit (Nat.min i j)
    | none => true) && orderOk b i ds l
def numbered : Nat → List Oper → List (Nat × Oper)
  | _, [] => []
  | i, o :: l => (i, o) :: numbered (i + 1) l
def regionOk (ops : Array Oper) : Bool :=
  let b := Region.before ops
  let l := numbered 0 ops.toList
  l.all fun p => orderOk b p.1 (namesOf ops p.2) l && p.2.after.toList.all fun e => !Region.binds .any e || Nat.blt e.on p.1
def dstOk (N : Nat) (ops : Array Oper) : Bool := ops.toList.all fun o => match o.dst with
  | some d => Nat.blt d N
  | none => true
/-- What is asked of a function's code once. -/
def codeOk (N : Nat) : Code → Bool
  | .region _ ops draw => dstOk N ops && (!draw || regionOk ops)
  | .seq a b => codeOk N a && codeOk N b
  | .cond _ a b => codeOk N a && codeOk N b
  | .block _ c => codeOk N c
  | .loop c => codeOk N c
  | .scope c => codeOk N c
  | .rangeFunc _ _ a b => codeOk N a && codeOk N b
  | _ => true
def funcOk (f : Func) : Bool := match f.body with
  | some c => codeOk f.ntmps c && !(f.name == "runtime.NumGoroutine")
  | none => true
def St.fresh (s : St) : St := { s with rd := [], wr := [] }
def St.logs (s : St) (s0 : St) : St := { s with rd := uni s.rd s0.rd, wr := uni s.wr s0.wr }
/-- One operation that is wanted. -/
def opYes (cx : Cx) (r : Evs) (draw : Bool) (o : Oper) (st : St) : Tree (Rec × St) := match draw with
  | true => (evalOp cx r o st.fresh).bind fun (a, s) => .ret (⟨s.rd, s.wr⟩, (s.logs st).put o.dst a)
  | false => (evalOp cx r o st).bind fun (a, s) => .ret (⟨[], []⟩, s.put o.dst a)
/-- One that is not. -/
def opNo (o : Oper) (st : St) : St := st.put o.dst (.tup [])
def opsE (cx : Cx) (r : Evs) (ops : Array Oper) (draw : Bool) : List Oper → Nat → List (Nat × Rec) → St → Tree (Ex × St)
  | [], _, recs, st => match draw with
    | false => .ret (.norm, st)
    | true => match okRecs (Region.before ops) recs with
      | true => .ret (.norm, st)
      | false => .fail
  | o :: l, i, recs, st => match o.guard with
    | none => (opYes cx r draw o st).bind fun (q, s) => opsE cx r ops draw l (i + 1) ((i, q) :: recs) s
    | some (_, w) => match guardOf ops o with
      | none => .fail
      | some (d, _) => match boolOf (look st.sl d) with
        | some (b, true) => match b == w with
          | true => (opYes cx r draw o st).bind fun (q, s) => opsE cx r ops draw l (i + 1) ((i, q) :: recs) s
          | false => opsE cx r ops draw l (i + 1) recs (opNo o st)
        | some (e, false) =>
          let yes (st : St) : Tree (Ex × St) := (opYes cx r draw o st).bind fun (q, s) => opsE cx r ops draw l (i + 1) ((i, q) :: recs) s
          let no (st : St) : Tree (Ex × St) := opsE cx r ops draw l (i + 1) recs (opNo o st)
          match w with
          | true => decT (cx.dec d st) e st (yes (st.forked.put (some d) (.lit (.bool true)))) (no (st.forked.put (some d) (.lit (.bool false))))
          | false => decT (cx.dec d st) e st (no (st.forked.put (some d) (.lit (.bool true)))) (yes (st.forked.put (some d) (.lit (.bool false))))
        | none => match look st.sl d with
          | .tup [] => opsE cx r ops draw l (i + 1) recs (opNo o st)
          | _ => .fail
def regionE (cx : Cx) (r : Evs) (ops : Array Oper) (draw : Bool) (st : St) : Tree (Ex × St) :=
  opsE cx r ops draw ops.toList 0 [] st

/-! Code. -/
def decOf (cx : Cx) (st : St) : Operand → Option Bool
  | .tmp t => cx.dec t st
  | _ => none
/-- A jump within a scope is gone. -/
def onGoto (r : Evs) (c : Code) (b : Ex × St) : Tree (Ex × St) := match b.1 with
  | .goto l => match findLabel c l with
    | some rest => r.jump c rest b.2
    | none => .ret (.goto l, b.2)
  | e => .ret (e, b.2)
def codeE (cx : Cx) (r : Evs) : Code → St → Tree (Ex × St)
  | .skip, st => .ret (.norm, st)
  | .label _, st => .ret (.norm, st)
  | .region _ ops draw, st => regionE cx r ops draw st
  | .seq a b, st => (codeE cx r a st).bind fun (e, s) => match e with
    | .norm => codeE cx r b s
    | e => .ret (e, s)
  | .cond c a b, st => match boolOf (st.val c) with
    | some (e, true) => match e with
      | true => codeE cx r a st
      | false => codeE cx r b st
    | some (e, false) => decT (decOf cx st c) e st (codeE cx r a st.forked) (codeE cx r b st.forked)
    | none => .fail
  | .block id c, st => (codeE cx r c st).bind fun (e, s) => match eqEx e (.exit id) with
    | true => .ret (.norm, s)
    | false => .ret (e, s)
  | .loop c, st => (codeE cx r c st).bind fun (e, s) => match e with
    | .norm => r.code (.loop c) s
    | e => .ret (e, s)
  | .scope c, st => (codeE cx r c st).bind (onGoto r c)
  | .exit id, st => .ret (.exit id, st)
  | .goto l, st => .ret (.goto l, st)
  | .ret, st => .ret (.ret, st)
  | _, _ => .fail
def resA (P : Program) (st : St) : ResultVar → Tree (AV × St)
  | .tmp t => .ret (look st.sl t, st)
  | .cell a t => match look st.sl a with
    | .ptr x off => loadA P t (.ptr x off) st
    | _ => .fail
def ressA (P : Program) : List ResultVar → St → Tree (List AV × St)
  | [], st => .ret ([], st)
  | r :: l, st => (resA P st r).bind fun (a, s) => (ressA P l s).bind fun (as, s') => .ret (a :: as, s')
def oneA : List AV → AV
  | [a] => a
  | l => .tup l
def params : Nat → List AV → List (Nat × AV)
  | _, [] => []
  | i, a :: l => (i, a) :: params (i + 1) l
/-- The tracked blocks that a value leads to (as far as it is looked at). -/
def idsA : Nat → AV → List Nat
  | 0, _ => []
  | d + 1, a => match a with
    | .agg l => l.flatMap (idsA d)
    | .tup l => l.flatMap (idsA d)
    | .ptr x _ => [x]
    | .pti x .. => [x]
    | .pe x .. => [x]
    | .own x .. => [x]
    | .slv x .. => [x]
    | .mp x => [x]
    | .fn _ f c => f.flatMap (idsA d) ++ c.flatMap (idsA d)
    | _ => []
def idsB (hp : List (Nat × Option Blk)) (x : Nat) : List Nat := match hget hp x with
  | some (.fix _ cs) => cs.flatMap (idsA 4)
  | _ => []
/-- The same, through rows of a known length. -/
def idsO (hp : List (Nat × Option Blk)) : Nat → AV → List Nat
  | 0, _ => []
  | d + 1, a => match a with
    | .agg l => l.flatMap (idsO hp d)
    | .tup l => l.flatMap (idsO hp d)
    | .ptr x _ => [x]
    | .pti x .. => [x]
    | .pe x .. => [x]
    | .own x n _ nl => x :: (match nl with
      | true => match hget hp x with
        | some (.arr _ _ _ get) => (List.range n).flatMap fun i => (get i).flatMap (idsO hp d)
        | _ => []
      | false => [])
    | .slv x .. => [x]
    | .mp x => [x]
    | .fn _ f c => f.flatMap (idsO hp d) ++ c.flatMap (idsO hp d)
    | _ => []
def idsB2 (hp : List (Nat × Option Blk)) (x : Nat) : List Nat := match hget hp x with
  | some (.fix _ cs) => cs.flatMap (idsO hp 6)
  | _ => []
/-- New blocks that are led to from some, in so many rounds. -/
def reach (hp : List (Nat × Option Blk)) (nx : Nat) : Nat → List Nat → List Nat → List Nat
  | 0, _, acc => acc
  | d + 1, l, acc =>
    let new := l.filter fun x => Nat.ble nx x && !acc.elem x
    match new with
    | [] => acc
    | _ => reach hp nx d (new.flatMap (idsB2 hp)) (uni new acc)
def upd (hp : List (Nat × Option Blk)) (l : List Nat) (base : List (Nat × Option Blk)) : List (Nat × Option Blk) := match l with
  | [] => base
  | x :: l => (x, hget hp x) :: upd hp l base
/-- What a call leaves to its caller: the blocks that were there, and those that its answer leads to. -/
def St.back (s st : St) (a : AV) : St :=
  let old := s.wr.filter fun x => Nat.blt x st.nx || Nat.ble s.nx x
  let new := reach s.hp st.nx 12 (idsO s.hp 7 a ++ old.flatMap (idsB2 s.hp)) []
  { s with sl := st.sl, ws := st.ws, hp := upd s.hp old (upd s.hp new st.hp), rd := uni (s.rd.filter fun x => Nat.blt x st.nx || Nat.ble s.nx x) st.rd, wr := uni old (uni new st.wr), wb := uni old (uni new st.wb), wc := new.map (fun x => (x, none)) ++ (s.wc ++ st.wc) }
/-- A call's ways joined, as far as they can be. -/
def collapse (s0 : St) : Tree (Ex × St) → Tree (Ex × St)
  | .ret b => .ret b
  | .br c t e => forkT c s0 (collapse s0 t) (collapse s0 e)
  | .side p t => .side p (collapse s0 t)
  | .fail => .fail
/-- What a call begins with, but for its slots. -/
def St.start (st : St) : St := { st with sl := [], ws := [], rd := [], wr := [], wb := [], wc := [] }
/-- A function's body, from its arguments: its answer in slot 0. -/
def insideE (cx : Cx) (r : Evs) (fn : Func) (c : Code) (args : List AV) (st : St) : Tree (Ex × St) :=
  (codeE cx r c { st with sl := params 0 args, ws := [], rd := [], wr := [], wb := [], wc := [] }).bind fun (e, s) =>
    match e with
    | .exit _ => .fail
    | .goto _ => .fail
    | _ => (ressA cx.P fn.results.toList s).bind fun (as, s') => .ret (.ret, { s' with sl := [(0, oneA as)], ws := [0] })
/-- The same; the caller's slots come back behind it. -/
def bodyE (cx : Cx) (r : Evs) (fn : Func) (c : Code) (args : List AV) (st : St) : Tree (AV × St) :=
  match Nat.ble args.length fn.ntmps with
  | false => .fail
  | true => (collapse st.start (insideE cx r fn c args st)).bind fun (_, s) => .ret (look s.sl 0, s.back st (look s.sl 0))
/-- A function that answers its one argument. -/
def isNoEsc (fn : Func) : Bool := fn.name == "internal/abi.NoEscape" && (fn.origin == "" || fn.origin == "internal/abi.NoEscape")
def callE (cx : Cx) (r : Evs) (f : Nat) (args : List AV) (st : St) : Tree (AV × St) :=
  match cx.ctr f args st with
  | some t => t
  | none => match cx.P.funcs[f]? with
    | none => .fail
    | some fn => match fn.body with
      | some c => bodyE cx r fn c args st
      | none => match isNoEsc fn, args with
        | true, [a] => .ret (a, st)
        | _, _ => match scals args with
          | some (vs, l) => match semVal cx.P (callFunc f vs.toArray) with
            | some (.value v) => .ret (litOr l v, st)
            | _ => .fail
          | none => .fail
def jumpE (cx : Cx) (r : Evs) (c rest : Code) (st : St) : Tree (Ex × St) := (codeE cx r rest st).bind (onGoto r c)
def evs (cx : Cx) : Nat → Evs
  | 0 => ⟨fun _ _ => .fail, fun _ _ _ => .fail, fun _ _ _ => .fail⟩
  | n + 1 => ⟨codeE cx (evs cx n), callE cx (evs cx n), jumpE cx (evs cx n)⟩
end Go.Proofs.YtamjnhpkmhbkcaaGreatDoor

/-
  PART: what abstract values and states say of a world.
-/
namespace Go.Proofs.YtamjnhpkmhbkcaaGreatDoor
open Go.RowKit

/-- What a variable's cells are known to be: just these, or of that kind. -/
def GOk (g : Nat) (o : Option (Array Value)) : Prop := (∀ c, GM g = some c → o = some c) ∧ (∀ k, GK g = some k → ∃ c, o = some c ∧ gkOk k c)
theorem GOk.mono {g : Nat} {o o' : Option (Array Value)} (h : GOk g o) (hm : ∀ c, o = some c → o' = some c) : GOk g o' :=
  ⟨fun c hc => hm c (h.1 c hc), fun k hk => let ⟨c, h1, h2⟩ := h.2 k hk; ⟨c, hm c h1, h2⟩⟩
/-- How names are read: where tracked blocks lie, which are none (an owned row that is nil), their capacities and lengths; blocks that stay as they are. -/
structure Env where
  ρ : Nat → Nat
  dom : Nat → Prop
  vir : Nat → Bool
  cp : Nat → Nat
  ln : Nat → Nat
  fz : Nat → Option (Array Value)
  gok : ∀ g, GOk g (fz g)
def One (l : List Value) : Prop := ∀ v ∈ l, one1 v = true
mutual
inductive Rep (E : Env) : AV → Value → Prop
  | lit (v : Value) (h : one1 v = true) : Rep E (.lit v) v
  | v (v : Value) (h : one1 v = true) : Rep E (.v v) v
  | agg {l : List AV} {cs : Array Value} (h : Reps E l cs.toList) (ho : One cs.toList) : Rep E (.agg l) (.agg cs)
  | tup {l : List AV} {cs : Array Value} (h : Reps E l cs.toList) : Rep E (.tup l) (.tuple cs)
  | ptr {x off : Nat} (h : E.dom x) : Rep E (.ptr x off) (.pointer (some ⟨E.ρ x, off, none⟩))
  | pti {x base str n off : Nat} {i : Int} (h : E.dom x) (h0 : 0 ≤ i) (h1 : i < (n : Int)) : Rep E (.pti x base i str n off) (.pointer (some ⟨E.ρ x, base + i.toNat * str + off, none⟩))
  | pe {x i k off : Nat} {il : Bool} (h : E.dom x) : Rep E (.pe x i k off il) (.pointer (some ⟨E.ρ x, i * k + off, none⟩))
  | fz {cs : List AV} {off b base : Nat} {c : Array Value} (h : E.fz b = some c) (hs : base + cs.length ≤ c.size) (hr : Reps E cs ((c.toList.drop base).take cs.length)) (ho : One ((c.toList.drop base).take cs.length)) :
      Rep E (.fz cs off) (.pointer (some ⟨b, base + off, none⟩))
  | own {x n k : Nat} {nl : Bool} (h : E.dom x) (hv : E.vir x = false) (hn : n = E.ln x) : Rep E (.own x n k nl) (.slice (some ⟨E.ρ x, 0, none⟩) n (E.cp x))
  | ownNil {x n k : Nat} {nl : Bool} (h : E.dom x) (hv : E.vir x = true) (hn : n = 0) (hl : n = E.ln x) : Rep E (.own x n k nl) (.slice none 0 0)
  | slv {x off n k cap : Nat} (h : E.dom x) : Rep E (.slv x off n k) (.slice (some ⟨E.ρ x, off, none⟩) n cap)
  | mp {x : Nat} (h : E.dom x) : Rep E (.mp x) (.map (some (E.ρ x)))
  | slNil {n k : Nat} {get : Nat → List AV} {nl full : Bool} (hn : n = 0) : Rep E (.sl n k get nl full) (.slice none 0 0)
  | slEmp {n k cap : Nat} {a : Addr} {get : Nat → List AV} {nl full : Bool} (hn : n = 0) (hf : full = true → cap = n) : Rep E (.sl n k get nl full) (.slice (some a) n cap)
  | sl {n k b off cap : Nat} {get : Nat → List AV} {nl full : Bool} {c : Array Value} (h : E.fz b = some c) (hs : off + n * k ≤ c.size) (hf : full = true → cap = n) (hc : n ≤ cap)
      (hr : ∀ i, i < n → Reps E (get i) ((c.toList.drop (off + i * k)).take k)) (ho : One ((c.toList.drop off).take (n * k))) : Rep E (.sl n k get nl full) (.slice (some ⟨b, off, none⟩) n cap)
  | fn {g : Fn} {first cap : List AV} {f c : Array Value} (h : Reps E first f.toList) (h' : Reps E cap c.toList) : Rep E (.fn g first cap) (.func g f c)
  | any {φ : (Nat → Option (Array Value)) → Value → Prop} {v : Value} (h : ∀ fz' : Nat → Option (Array Value), (∀ b c, E.fz b = some c → fz' b = some c) → φ fz' v) (ho : one1 v = true) : Rep E (.any φ) v
  | unk (v : Value) : Rep E .unk v
inductive Reps (E : Env) : List AV → List Value → Prop
  | nil : Reps E [] []
  | cons {a : AV} {v : Value} {l : List AV} {vs : List Value} (h : Rep E a v) (t : Reps E l vs) : Reps E (a :: l) (v :: vs)
end
structure Env.le (E E' : Env) : Prop where
  dom : ∀ x, E.dom x → E'.dom x
  ρ : ∀ x, E.dom x → E'.ρ x = E.ρ x
  vir : ∀ x, E.dom x → E'.vir x = E.vir x
  cp : ∀ x, E.dom x → E'.cp x = E.cp x
  ln : ∀ x, E.dom x → E'.ln x = E.ln x
  fz : ∀ b c, E.fz b = some c → E'.fz b = some c
theorem Env.le.refl (E : Env) : E.le E := ⟨fun _ h => h, fun _ _ => rfl, fun _ _ => rfl, fun _ _ => rfl, fun _ _ => rfl, fun _ _ h => h⟩
theorem Env.le.trans {A B C : Env} (h : A.le B) (k : B.le C) : A.le C :=
  ⟨fun x d => k.dom x (h.dom x d), fun x d => (k.ρ x (h.dom x d)).trans (h.ρ x d), fun x d => (k.vir x (h.dom x d)).trans (h.vir x d), fun x d => (k.cp x (h.dom x d)).trans (h.cp x d), fun x d => (k.ln x (h.dom x d)).trans (h.ln x d), fun b c d => k.fz b c (h.fz b c d)⟩
mutual
theorem Rep.mono {E E' : Env} (hl : E.le E') : ∀ {a : AV} {v : Value}, Rep E a v → Rep E' a v
  | _, _, .lit v h => .lit v h
  | _, _, .v v h => .v v h
  | _, _, .agg h ho => .agg (Reps.mono hl h) ho
  | _, _, .tup h => .tup (Reps.mono hl h)
  | _, _, .ptr h => by rw [← hl.ρ _ h]; exact .ptr (hl.dom _ h)
  | _, _, .pti h h0 h1 => by rw [← hl.ρ _ h]; exact .pti (hl.dom _ h) h0 h1
  | _, _, .pe h => by rw [← hl.ρ _ h]; exact .pe (hl.dom _ h)
  | _, _, .fz h hs hr ho => .fz (hl.fz _ _ h) hs (Reps.mono hl hr) ho
  | _, _, .own h hv hn => by rw [← hl.ρ _ h, ← hl.cp _ h]; exact .own (hl.dom _ h) ((hl.vir _ h).trans hv) (hn.trans (hl.ln _ h).symm)
  | _, _, .ownNil h hv hn hq => .ownNil (hl.dom _ h) ((hl.vir _ h).trans hv) hn (hq.trans (hl.ln _ h).symm)
  | _, _, .slv h => by rw [← hl.ρ _ h]; exact .slv (hl.dom _ h)
  | _, _, .mp h => by rw [← hl.ρ _ h]; exact .mp (hl.dom _ h)
  | _, _, .slNil hn => .slNil hn
  | _, _, .slEmp hn hf => .slEmp hn hf
  | _, _, .sl h hs hf hc hr ho => .sl (hl.fz _ _ h) hs hf hc (fun i hi => Reps.mono hl (hr i hi)) ho
  | _, _, .fn h h' => .fn (Reps.mono hl h) (Reps.mono hl h')
  | _, _, .any h ho => .any (fun fz' hf => h fz' fun b c hb => hf b c (hl.fz b c hb)) ho
  | _, _, .unk v => .unk v
theorem Reps.mono {E E' : Env} (hl : E.le E') : ∀ {a : List AV} {v : List Value}, Reps E a v → Reps E' a v
  | _, _, .nil => .nil
  | _, _, .cons h t => .cons (Rep.mono hl h) (Reps.mono hl t)
end
section
variable {E : Env}
theorem Reps.len {l : List AV} {vs : List Value} (h : Reps E l vs) : l.length = vs.length := by
  induction l generalizing vs with
  | nil => cases h; rfl
  | cons a l ih => cases h with | cons h t => simp [ih t]
theorem Reps.app {l m : List AV} {vs us : List Value} (h : Reps E l vs) (k : Reps E m us) : Reps E (l ++ m) (vs ++ us) := by
  induction l generalizing vs with
  | nil => cases h; exact k
  | cons a l ih => cases h with | cons h t => exact .cons h (ih t)
theorem Reps.drop {l : List AV} {vs : List Value} (h : Reps E l vs) (n : Nat) : Reps E (l.drop n) (vs.drop n) := by
  induction n generalizing l vs with
  | zero => simpa using h
  | succ n ih => cases h with
    | nil => simpa using Reps.nil
    | cons h t => simpa using ih t
theorem Reps.take {l : List AV} {vs : List Value} (h : Reps E l vs) (n : Nat) : Reps E (l.take n) (vs.take n) := by
  induction n generalizing l vs with
  | zero => simpa using Reps.nil
  | succ n ih => cases h with
    | nil => simpa using Reps.nil
    | cons h t => simpa using Reps.cons h (ih t)
theorem Reps.get {l : List AV} {vs : List Value} (h : Reps E l vs) {i : Nat} {a : AV} (ha : l[i]? = some a) : ∃ v, vs[i]? = some v ∧ Rep E a v := by
  induction l generalizing vs i with
  | nil => simp at ha
  | cons b l ih => cases h with
    | cons h t => cases i with
      | zero => simp at ha; subst ha; exact ⟨_, rfl, h⟩
      | succ i => simp at ha; simpa using ih t ha
theorem Reps.lits (l : List Value) (h : One l) : Reps E (l.map .lit) l := by
  induction l with
  | nil => exact .nil
  | cons v l ih => exact .cons (.lit v (h v (List.mem_cons_self ..))) (ih fun u hu => h u (List.mem_cons_of_mem _ hu))
theorem One.app {l m : List Value} (h : One l) (k : One m) : One (l ++ m) := fun v hv => (List.mem_append.1 hv).elim (h v) (k v)
theorem One.drop {l : List Value} (h : One l) (n : Nat) : One (l.drop n) := fun v hv => h v (List.mem_of_mem_drop hv)
theorem One.take {l : List Value} (h : One l) (n : Nat) : One (l.take n) := fun v hv => h v (List.mem_of_mem_take hv)
theorem One.sub {l m : List Value} (h : One l) (hs : ∀ v ∈ m, v ∈ l) : One m := fun v hv => h v (hs v hv)
theorem one_of_all {l : List Value} (h : l.all one1 = true) : One l := fun v hv => List.all_eq_true.1 h v hv
theorem constR (v : Value) : Rep E (constAV v) v := by
  unfold constAV
  cases v <;> simp only [] <;> first
    | exact .lit _ rfl
    | exact .unk _
    | (split
       · rename_i h; exact .agg (Reps.lits _ (one_of_all h)) (one_of_all h)
       · exact .unk _)
theorem cells_one {v : Value} (h : one1 v = true) : v.cells.toList = [v] := by cases v <;> first | rfl | cases h
theorem one_single {v : Value} (h : one1 v = true) : One [v] := fun u hu => by simp at hu; subst hu; exact h
/-- A value's cells. -/
theorem cellsR {a : AV} {v : Value} (h : Rep E a v) (hg : badA a = false) : Reps E (cellsA a) v.cells.toList ∧ One v.cells.toList := by
  have key : one1 v = true → cellsA a = [a] → Reps E (cellsA a) v.cells.toList ∧ One v.cells.toList := fun h1 h2 => by
    rw [cells_one h1, h2]; exact ⟨.cons h .nil, one_single h1⟩
  match h, key, hg with
  | .agg h ho, _, _ => exact ⟨h, ho⟩
  | .tup _, _, hg => cases hg
  | .unk _, _, hg => cases hg
  | .lit v h, key, _ => exact key h rfl
  | .v v h, key, _ => exact key h rfl
  | .ptr _, key, _ => exact key rfl rfl
  | .pti _ _ _, key, _ => exact key rfl rfl
  | .pe _, key, _ => exact key rfl rfl
  | .own _ _ _, key, _ => exact key rfl rfl
  | .ownNil _ _ _ _, key, _ => exact key rfl rfl
  | .slv _, key, _ => exact key rfl rfl
  | .mp _, key, _ => exact key rfl rfl
  | .slNil _, key, _ => exact key rfl rfl
  | .slEmp _ _, key, _ => exact key rfl rfl
  | .fz _ _ _ _, key, _ => exact key rfl rfl
  | .sl _ _ _ _ _ _, key, _ => exact key rfl rfl
  | .fn _ _, key, _ => exact key rfl rfl
  | .any _ ho, key, _ => exact key ho rfl
end

/-- The block at a number. -/
def blkW (w : World) (b : Nat) : Option Obj := w.heap[b]?
/-- No cell of a row of n is marked (a mark may stand behind its end). -/
def Unm (fr : Nat × Nat) (n : Nat) : Prop := fr.1 = fr.2 ∨ n ≤ fr.1
theorem unm0 (n : Nat) : Unm (0, 0) n := .inl rfl
/-- What a map's entries give for a key. -/
structure MapIs (sh : KShape) (zv : Value) (get : Value → Value) (has : Value → Bool) (es : List MapEntry) : Prop where
  all : ∀ e, e ∈ es → keyIs sh e.key = true ∧ one1 e.val = true
  zero : one1 zv = true
  nodup : (es.map (·.key)).Nodup
  hit : ∀ e, e ∈ es → has e.key = true ∧ get e.key = e.val
  miss : ∀ k, keyIs sh k = true → (∀ e, e ∈ es → e.key ≠ k) → has k = false ∧ get k = zv
def BlkR (E : Env) (x : Nat) : Blk → Option Obj → Prop
  | .fix ty cs, o => E.vir x = false ∧ ∃ c : Array Value, o = some (.cells c ty (0, 0)) ∧ Reps E cs c.toList ∧ One c.toList
  | .arr ty n k get, o => n = E.ln x ∧ ((E.vir x = true ∧ n = 0) ∨ (E.vir x = false ∧ ∃ (c : Array Value) (fr : Nat × Nat), o = some (.cells c ty fr) ∧ Unm fr c.size ∧ c.size = E.cp x * k ∧ n ≤ E.cp x ∧ One c.toList ∧ ∀ i, i < n → Reps E (get i) ((c.toList.drop (i * k)).take k)))
  | .map sh zv get has _, o => E.vir x = false ∧ ∃ (es : Array MapEntry) (clock : Nat), o = some (.map es clock) ∧ MapIs sh zv get has es.toList
structure Sim (FP : Nat → Prop) (E : Env) (H : Nat → Option Blk) (w : World) : Prop where
  fz : ∀ b c, E.fz b = some c → ∃ ty fr, blkW w b = some (.cells c ty fr)
  dom : ∀ x, FP x → H x ≠ none → E.dom x
  low : ∀ x, FP x → H x ≠ none → E.vir x = false → E.ρ x < w.heap.size ∧ E.fz (E.ρ x) = none
  blk : ∀ x B, FP x → H x = some B → BlkR E x B (blkW w (E.ρ x))
  inj : ∀ x y, FP x → FP y → H x ≠ none → H y ≠ none → E.vir x = false → E.vir y = false → E.ρ x = E.ρ y → x = y
/-- What a piece of the run leaves: from names < nx on to names < nx', having touched 'wr'. -/
structure Post (FP : Nat → Prop) (E E' : Env) (H H' : Nat → Option Blk) (nx nx' : Nat) (wr : List Nat) (w w' : World) : Prop where
  le : E.le E'
  dom : ∀ x, E'.dom x → E.dom x ∨ (nx ≤ x ∧ x < nx')
  sim : Sim FP E' H' w'
  frame : ∀ b, b < w.heap.size → (∀ x, x ∈ wr → x < nx → H x ≠ none → E.vir x = false → b ≠ E.ρ x) → blkW w' b = blkW w b ∧ E'.fz b = E.fz b
  news : ∀ x, nx ≤ x → x < nx' → FP x → H' x ≠ none → E'.vir x = false → w.heap.size ≤ E'.ρ x ∨ ∃ y, y ∈ wr ∧ y < nx ∧ H y ≠ none ∧ E.vir y = false ∧ E'.ρ x = E.ρ y
  size : w.heap.size ≤ w'.heap.size
  os : w'.os = w.os
  tape : w'.tape = w.tape
  output : w'.output = w.output
/-- No name of a range is in use. -/
def Free (E : Env) (nx nx' : Nat) : Prop := ∀ x, nx ≤ x → x < nx' → ¬ E.dom x
section
variable {FP : Nat → Prop} {E : Env} {H : Nat → Option Blk} {w : World}
theorem BlkR.mono {E E' : Env} (hl : E.le E') {x : Nat} (hx : E.dom x) {B : Blk} {o : Option Obj} (h : BlkR E x B o) : BlkR E' x B o := by
  cases B with
  | fix ty cs =>
    obtain ⟨hv, c, h1, h2, h3⟩ := h
    exact ⟨(hl.vir x hx).trans hv, c, h1, h2.mono hl, h3⟩
  | arr ty n k get =>
    obtain ⟨hq, h⟩ := h
    refine ⟨hq.trans (hl.ln x hx).symm, ?_⟩
    rcases h with ⟨hv, hn⟩ | ⟨hv, c, fr, h1, hu, h2, h3, h4, h5⟩
    · exact .inl ⟨(hl.vir x hx).trans hv, hn⟩
    · exact .inr ⟨(hl.vir x hx).trans hv, c, fr, h1, hu, by rw [hl.cp x hx]; exact h2, by rw [hl.cp x hx]; exact h3, h4, fun i hi => (h5 i hi).mono hl⟩
  | map sh zv get has nl =>
    obtain ⟨hv, es, clock, h1, h2⟩ := h
    exact ⟨(hl.vir x hx).trans hv, es, clock, h1, h2⟩
end
end Go.Proofs.YtamjnhpkmhbkcaaGreatDoor

/-
  PART: how the world goes on under the pieces of a run: nothing, a new block, a block written, two pieces; loads and stores.
-/
namespace Go.Proofs.YtamjnhpkmhbkcaaGreatDoor
open Go.RowKit

theorem one_iff (v : Value) : v.oneCell' = one1 v := by cases v <;> rfl
theorem hget_cons (x : Nat) (b : Option Blk) (l : List (Nat × Option Blk)) (y : Nat) : hget ((x, b) :: l) y = if x = y then b else hget l y := by
  show (match Nat.beq x y with | true => b | false => hget l y) = _
  by_cases h : x = y
  · subst h; simp
  · have : Nat.beq x y = false := by
      cases hb : Nat.beq x y
      · rfl
      · exact absurd (Nat.eq_of_beq_eq_true hb) h
    rw [this, if_neg h]
theorem mem_ins {x y : Nat} {l : List Nat} : y ∈ ins x l ↔ y = x ∨ y ∈ l := by
  unfold ins
  cases h : l.elem x
  · simp
  · simp only []
    constructor
    · exact .inr
    · rintro (rfl | h')
      · simpa using h
      · exact h'
theorem mem_uni {y : Nat} {l m : List Nat} : y ∈ uni l m ↔ y ∈ l ∨ y ∈ m := by
  induction l with
  | nil => simp [uni]
  | cons x l ih => simp [uni, mem_ins, ih, or_assoc]
/-! Worlds. -/
theorem blkW_alloc_new (w : World) (o : Obj) : blkW (w.alloc o) w.heap.size = some o := by show (w.heap.push o)[w.heap.size]? = _; simp
theorem blkW_alloc_old (w : World) (o : Obj) {b : Nat} (h : b ≠ w.heap.size) : blkW (w.alloc o) b = blkW w b := by
  show (w.heap.push o)[b]? = w.heap[b]?
  rw [Array.getElem?_push]; simp [h]
theorem blkW_some_lt {w : World} {b : Nat} {o : Obj} (h : blkW w b = some o) : b < w.heap.size := (Array.getElem?_eq_some_iff.1 h).1
theorem alloc_size (w : World) (o : Obj) : (w.alloc o).heap.size = w.heap.size + 1 := by show (w.heap.push o).size = _; simp
theorem blkW_setRow_same {w : World} {b : Nat} {c : Array Value} {ty : TypeId} {fr : Nat × Nat} (h : blkW w b = some (.cells c ty fr)) (cs : Array Value) : blkW (w.setRow b cs) b = some (.cells cs ty fr) := by
  unfold blkW at h ⊢
  simp [World.setRow, Array.getElem?_modify, h]
theorem blkW_setRow_other (w : World) (g : Nat) (cs : Array Value) {b : Nat} (h : b ≠ g) : blkW (w.setRow g cs) b = blkW w b := setRow_other w g b cs h
theorem setRow_size (w : World) (g : Nat) (cs : Array Value) : (w.setRow g cs).heap.size = w.heap.size := by simp [World.setRow]
theorem cell_blk {w : World} {b : Nat} {c : Array Value} {ty : TypeId} {fr : Nat × Nat} (h : blkW w b = some (.cells c ty fr)) (i : Nat) : w.cell? ⟨b, i, none⟩ = c[i]? := by
  unfold blkW at h
  simp [World.cell?, h]

section
variable {FP : Nat → Prop} {E E1 E2 : Env} {H H' H1 H2 : Nat → Option Blk} {w w1 w2 : World} {nx nx1 nx2 : Nat} {wr : List Nat}
/-- Post, and no block came back to life. -/
structure Pst (FP : Nat → Prop) (E E' : Env) (H H' : Nat → Option Blk) (nx nx' : Nat) (wr : List Nat) (w w' : World) : Prop extends Post FP E E' H H' nx nx' wr w w' where
  old : ∀ x, x < nx → FP x → H' x ≠ none → H x ≠ none
theorem Pst.trans (h0 : Sim FP E H w) (hw : ∀ x, x ∈ wr → FP x) (p : Pst FP E E1 H H1 nx nx1 wr w w1) (q : Pst FP E1 E2 H1 H2 nx1 nx2 wr w1 w2) (h1 : nx ≤ nx1) (h2 : nx1 ≤ nx2) : Pst FP E E2 H H2 nx nx2 wr w w2 := by
  have hold : ∀ x, x < nx → FP x → H1 x ≠ none → E1.vir x = E.vir x ∧ E1.ρ x = E.ρ x ∧ H x ≠ none := fun x hx hF hn => by
    have hn0 := p.old x hx hF hn
    have hd := h0.dom x hF hn0
    exact ⟨p.le.vir x hd, p.le.ρ x hd, hn0⟩
  refine ⟨⟨p.le.trans q.le, fun x hx => ?_, q.sim, fun b hb hx => ?_, fun x hx hx2 hF hn hv => ?_, Nat.le_trans p.size q.size, q.os.trans p.os, q.tape.trans p.tape, q.output.trans p.output⟩, fun x hx hF hn => p.old x hx hF (q.old x (by omega) hF hn)⟩
  · rcases q.dom x hx with h | h
    · rcases p.dom x h with h | h
      · exact .inl h
      · exact .inr ⟨h.1, by omega⟩
    · exact .inr ⟨by omega, h.2⟩
  · have f1 := p.frame b hb hx
    have f2 := q.frame b (Nat.lt_of_lt_of_le hb p.size) (fun x hxw hxn hn hv => by
      rcases Nat.lt_or_ge x nx with hlt | hge
      · obtain ⟨e1, e2, e3⟩ := hold x hlt (hw x hxw) hn
        rw [e2]; exact hx x hxw hlt e3 (e1 ▸ hv)
      · rcases p.news x hge hxn (hw x hxw) hn hv with h | ⟨y, hy, hyn, hyH, hyv, he⟩
        · omega
        · rw [he]; exact hx y hy hyn hyH hyv)
    exact ⟨f2.1.trans f1.1, f2.2.trans f1.2⟩
  · rcases Nat.lt_or_ge x nx1 with hlt | hge
    · have hn1 := q.old x hlt hF hn
      have hd := p.sim.dom x hF hn1
      rw [q.le.ρ x hd]
      exact p.news x hx hlt hF hn1 (by rw [← q.le.vir x hd]; exact hv)
    · rcases q.news x hge hx2 hF hn hv with h | ⟨y, hy, hyn, hyH, hyv, he⟩
      · exact .inl (Nat.le_trans p.size h)
      · rcases Nat.lt_or_ge y nx with hlt | hge'
        · obtain ⟨e1, e2, e3⟩ := hold y hlt (hw y hy) hyH
          exact .inr ⟨y, hy, hlt, e3, e1 ▸ hyv, he.trans e2⟩
        · rcases p.news y hge' hyn (hw y hy) hyH hyv with h | ⟨z, hz, hzn, hzH, hzv, hz'⟩
          · exact .inl (he ▸ h)
          · exact .inr ⟨z, hz, hzn, hzH, hzv, he.trans hz'⟩
theorem Pst.refl (h : Sim FP E H w) : Pst FP E E H H nx nx wr w w :=
  ⟨⟨.refl E, fun _ hx => .inl hx, h, fun _ _ _ => ⟨rfl, rfl⟩, fun _ h1 h2 => absurd h1 (by omega), Nat.le_refl _, rfl, rfl, rfl⟩, fun _ _ _ h => h⟩
/-- The names of an environment, one more. -/
def Env.add (E : Env) (x b cp ln : Nat) (vir : Bool) : Env :=
  { E with ρ := fun y => if y = x then b else E.ρ y, dom := fun y => y = x ∨ E.dom y, vir := fun y => if y = x then vir else E.vir y, cp := fun y => if y = x then cp else E.cp y, ln := fun y => if y = x then ln else E.ln y }
theorem Env.le_add {x : Nat} (hx : ¬ E.dom x) (b cp ln : Nat) (vir : Bool) : E.le (E.add x b cp ln vir) := by
  have key : ∀ y, E.dom y → y ≠ x := fun y hy e => hx (e ▸ hy)
  exact ⟨fun y hy => .inr hy, fun y hy => by simp [Env.add, key y hy], fun y hy => by simp [Env.add, key y hy], fun y hy => by simp [Env.add, key y hy], fun y hy => by simp [Env.add, key y hy], fun _ _ h => h⟩
/-- A new block. -/
theorem Pst.alloc (h : Sim FP E H w) (hx : ¬ E.dom nx) (hF : FP nx) (hwr : nx ∈ wr) {B : Blk} {ob : Obj} {cp ln : Nat}
    (hB : BlkR (E.add nx w.heap.size cp ln false) nx B (some ob)) (hH : ∀ y, H' y = if nx = y then some B else H y) :
    Pst FP E (E.add nx w.heap.size cp ln false) H H' nx (nx + 1) wr w (w.alloc ob) := by
  have hl := Env.le_add (E := E) hx w.heap.size cp ln false
  have hne : ∀ y, FP y → H y ≠ none → nx ≠ y := fun y hy hn e => hx (e ▸ h.dom y hy hn)
  have hρ : (E.add nx w.heap.size cp ln false).ρ nx = w.heap.size := by simp [Env.add]
  refine ⟨⟨hl, ?_, ⟨?_, ?_, ?_, ?_, ?_⟩, ?_, ?_, ?_, rfl, rfl, rfl⟩, ?_⟩
  · rintro x (rfl | hx')
    · exact .inr ⟨Nat.le_refl _, by omega⟩
    · exact .inl hx'
  · intro b c' hb
    obtain ⟨t, fr, hb'⟩ := h.fz b c' hb
    have := blkW_some_lt hb'
    exact ⟨t, fr, (blkW_alloc_old w _ (by omega)).trans hb'⟩
  · intro x hF' hn
    rw [hH] at hn
    by_cases e : nx = x
    · exact .inl e.symm
    · rw [if_neg e] at hn; exact .inr (h.dom x hF' hn)
  · intro x hF' hn hv
    rw [hH] at hn
    by_cases e : nx = x
    · subst e
      rw [hρ, alloc_size]
      refine ⟨by omega, ?_⟩
      cases hz : E.fz w.heap.size with
      | none => exact hz
      | some c' =>
        obtain ⟨t, fr, hb'⟩ := h.fz _ _ hz
        have := blkW_some_lt hb'
        omega
    · rw [if_neg e] at hn
      have hd := h.dom x hF' hn
      rw [hl.ρ x hd, alloc_size]
      obtain ⟨h1, h2⟩ := h.low x hF' hn (by rw [← hl.vir x hd]; exact hv)
      exact ⟨by omega, h2⟩
  · intro x B' hF' hB'
    rw [hH] at hB'
    by_cases e : nx = x
    · subst e
      rw [if_pos rfl] at hB'; cases hB'
      rw [hρ, blkW_alloc_new]; exact hB
    · rw [if_neg e] at hB'
      have hn : H x ≠ none := by rw [hB']; simp
      have hd := h.dom x hF' hn
      have hb := (h.blk x B' hF' hB').mono hl hd
      rw [hl.ρ x hd]
      by_cases hv : E.vir x = true
      · cases B' with
        | fix ty cs => exact absurd hb.1 (by rw [hl.vir x hd, hv]; simp)
        | map sh zv get has nl => exact absurd hb.1 (by rw [hl.vir x hd, hv]; simp)
        | arr ty n k get =>
          obtain ⟨hq, hb⟩ := hb
          rcases hb with hb | hb
          · exact ⟨hq, .inl hb⟩
          · exact absurd hb.1 (by rw [hl.vir x hd, hv]; simp)
      · have hlow := (h.low x hF' hn (by simpa using hv)).1
        rw [blkW_alloc_old w _ (by omega)]; exact hb
  · intro x y hFx hFy hnx hny hvx hvy he
    rw [hH] at hnx hny
    by_cases e1 : nx = x
    · by_cases e2 : nx = y
      · omega
      · exfalso
        subst e1
        rw [if_neg e2] at hny
        have hd := h.dom y hFy hny
        have := (h.low y hFy hny (by rw [← hl.vir y hd]; exact hvy)).1
        rw [hρ, hl.ρ y hd] at he; omega
    · rw [if_neg e1] at hnx
      have hdx := h.dom x hFx hnx
      by_cases e2 : nx = y
      · exfalso
        subst e2
        have := (h.low x hFx hnx (by rw [← hl.vir x hdx]; exact hvx)).1
        rw [hρ, hl.ρ x hdx] at he; omega
      · rw [if_neg e2] at hny
        have hdy := h.dom y hFy hny
        rw [hl.ρ x hdx, hl.ρ y hdy] at he
        exact h.inj x y hFx hFy hnx hny (by rw [← hl.vir x hdx]; exact hvx) (by rw [← hl.vir y hdy]; exact hvy) he
  · intro b hb _
    exact ⟨blkW_alloc_old w _ (by omega), rfl⟩
  · intro x h1 h2 _ _ _
    obtain rfl : x = nx := by omega
    exact .inl (by rw [hρ]; exact Nat.le_refl _)
  · rw [alloc_size]; omega
  · intro x hx' hF' hn
    rw [hH, if_neg (by omega)] at hn; exact hn
/-- A block written. -/
theorem Pst.set {x : Nat} {B B' : Blk} (h : Sim FP E H w) (hF : FP x) (hx : H x = some B) (hv : E.vir x = false) (hwr : x ∈ wr) (hlt : x < nx) {w' : World}
    (hB : BlkR E x B' (blkW w' (E.ρ x))) (hH : ∀ y, H' y = if x = y then some B' else H y)
    (ho : ∀ b, b ≠ E.ρ x → blkW w' b = blkW w b) (hs : w'.heap.size = w.heap.size) (h1 : w'.os = w.os) (h2 : w'.tape = w.tape) (h3 : w'.output = w.output) :
    Pst FP E E H H' nx nx wr w w' := by
  have hxn : H x ≠ none := by rw [hx]; simp
  have hfz := (h.low x hF hxn hv).2
  have alive : ∀ y, H' y ≠ none → H y ≠ none := fun y hy => by
    rw [hH] at hy
    by_cases e : x = y
    · subst e; exact hxn
    · rwa [if_neg e] at hy
  refine ⟨⟨.refl E, fun _ hx => .inl hx, ⟨?_, fun y hy hn => h.dom y hy (alive y hn), fun y hy hn hv => by rw [hs]; exact h.low y hy (alive y hn) hv, ?_, fun a b ha hb hna hnb => h.inj a b ha hb (alive a hna) (alive b hnb)⟩,
    ?_, fun _ h1 h2 => absurd h1 (by omega), by omega, h1, h2, h3⟩, fun y _ _ hn => alive y hn⟩
  · intro b c hb
    obtain ⟨t, fr, hb'⟩ := h.fz b c hb
    exact ⟨t, fr, (ho b (fun e => by rw [e, hfz] at hb; cases hb)).trans hb'⟩
  · intro y B'' hy hB''
    rw [hH] at hB''
    by_cases e : x = y
    · subst e; rw [if_pos rfl] at hB''; cases hB''; exact hB
    · rw [if_neg e] at hB''
      have hyn : H y ≠ none := by rw [hB'']; simp
      by_cases hvy : E.vir y = true
      · have hb := h.blk y B'' hy hB''
        cases B'' with
        | fix ty cs => exact absurd hb.1 (by rw [hvy]; simp)
        | map sh zv get has nl => exact absurd hb.1 (by rw [hvy]; simp)
        | arr ty n k get =>
          obtain ⟨hq, hb⟩ := hb
          rcases hb with hb | hb
          · exact ⟨hq, .inl hb⟩
          · exact absurd hb.1 (by rw [hvy]; simp)
      · rw [ho _ (fun e' => e (h.inj x y hF hy hxn hyn hv (by simpa using hvy) e'.symm))]
        exact h.blk y B'' hy hB''
  · intro b _ hb
    exact ⟨ho b (hb x hwr hlt hxn hv), rfl⟩
end
end Go.Proofs.YtamjnhpkmhbkcaaGreatDoor

/-
  PART: one of two values, by a truth, is that one.
-/
namespace Go.Proofs.YtamjnhpkmhbkcaaGreatDoor
open Go.RowKit

section
variable {E : Env}
theorem scal_rep {a : AV} {x : Value} {l : Bool} (h : scal a = some (x, l)) {v : Value} (hv : Rep E a v) : v = x ∧ one1 x = true := by
  cases hv <;> simp only [scal, Option.some.injEq, Prod.mk.injEq, reduceCtorEq] at h
  · exact ⟨h.1, h.1 ▸ ‹_›⟩
  · exact ⟨h.1, h.1 ▸ ‹_›⟩
theorem rep_scal {a : AV} {x : Value} {l : Bool} (h : scal a = some (x, l)) (ho : one1 x = true) : Rep E a x := by
  cases a <;> simp only [scal, Option.some.injEq, Prod.mk.injEq, reduceCtorEq] at h
  · obtain ⟨rfl, _⟩ := h; exact .lit _ ho
  · obtain ⟨rfl, _⟩ := h; exact .v _ ho
theorem eqV_eq {x y : Value} (h : eqV x y = true) : x = y := by
  unfold eqV at h
  split at h <;> simp_all
theorem muxV_ok {c : Bool} {x y z : Value} (h : muxV c x y = some z) : z = (if c = true then x else y) ∧ (one1 x = true → one1 y = true → one1 z = true) := by
  unfold muxV at h
  split at h
  · split at h
    · rename_i hk; cases h; have := of_decide_eq_true hk; subst this; cases c <;> exact ⟨rfl, fun _ _ => rfl⟩
    · cases h
  · cases h; cases c <;> exact ⟨rfl, fun _ _ => rfl⟩
  · cases h; cases c <;> exact ⟨rfl, fun _ _ => rfl⟩
  · split at h
    · rename_i hk; cases h; have := of_decide_eq_true hk; subst this; cases c <;> exact ⟨rfl, fun _ _ => rfl⟩
    · cases h
  · split at h
    · rename_i hk; cases h; have := of_decide_eq_true hk; subst this; cases c <;> exact ⟨rfl, fun _ _ => rfl⟩
    · cases h
  · cases h
theorem isNilSl_eq {v : Value} (h : isNilSl v = true) : v = .slice none 0 0 := by
  unfold isNilSl at h
  split at h
  · rfl
  · cases h
/-- 'f' tells one of two: the first where c, else the second. -/
def Picks (c : Bool) (f : AV → AV → Option AV) : Prop :=
  ∀ (E : Env) a b r v, f a b = some r → (if c = true then Rep E a v else Rep E b v) → Rep E r v
theorem eqA_rep {a b : AV} (h : eqA a b = true) {v : Value} (hb : Rep E b v) : Rep E a v := by
  unfold eqA at h
  split at h
  · simp only [Bool.and_eq_true] at h
    obtain ⟨h1, h2⟩ := h
    obtain rfl := Nat.eq_of_beq_eq_true h1
    obtain rfl := Nat.eq_of_beq_eq_true h2
    exact hb
  · obtain rfl := Nat.eq_of_beq_eq_true h
    exact hb
  · rw [eqV_eq h]; exact hb
  · cases h
theorem eqAs_rep {l m : List AV} (h : eqAs l m = true) {vs : List Value} (hb : Reps E m vs) : Reps E l vs := by
  induction l generalizing m vs with
  | nil => cases m with
    | nil => exact hb
    | cons => cases h
  | cons a l ih => cases m with
    | nil => cases h
    | cons b m =>
      simp only [eqAs, Bool.and_eq_true] at h
      cases hb with | cons h1 h2 => exact .cons (eqA_rep h.1 h1) (ih h.2 h2)
theorem zipO_ok {c : Bool} {f : AV → AV → Option AV} (hf : Picks c f) {l m r : List AV} {vs : List Value} (h : zipO f l m = some r) (hv : if c = true then Reps E l vs else Reps E m vs) : Reps E r vs ∧ l.length = r.length ∧ m.length = r.length := by
  induction l generalizing m r vs with
  | nil => cases m with
    | nil => simp [zipO] at h; subst h; cases c <;> exact ⟨by simpa using hv, rfl, rfl⟩
    | cons => simp [zipO] at h
  | cons a l ih => cases m with
    | nil => simp [zipO] at h
    | cons b m =>
      simp only [zipO] at h
      split at h
      · rename_i x y hx hy
        cases h
        cases c
        · simp only [Bool.false_eq_true, if_false] at hv
          cases hv with | cons h1 h2 =>
          obtain ⟨r1, r2, r3⟩ := ih hy (by simpa using h2)
          exact ⟨.cons (hf E a b x _ hx (by simpa using h1)) r1, by simp [r2], by simp [r3]⟩
        · simp only [if_true] at hv
          cases hv with | cons h1 h2 =>
          obtain ⟨r1, r2, r3⟩ := ih hy (by simpa using h2)
          exact ⟨.cons (hf E a b x _ hx (by simpa using h1)) r1, by simp [r2], by simp [r3]⟩
      · cases h
theorem zipW_ok {c : Bool} {f : AV → AV → Option AV} (hf : Picks c f) {w : Nat → Bool} : ∀ {l m r : List AV} {vs : List Value} {i : Nat}, zipW f w i l m = some r → (∀ j, w (i + j) = false → l[j]? = m[j]?) → (if c = true then Reps E l vs else Reps E m vs) → Reps E r vs
  | [], [], r, vs, i, h, _, hv => by simp [zipW] at h; subst h; cases c <;> simpa using hv
  | [], _ :: _, r, vs, i, h, _, hv => by simp [zipW] at h
  | _ :: _, [], r, vs, i, h, _, hv => by simp [zipW] at h
  | a :: l, b :: m, r, vs, i, h, hs, hv => by
    have hs' : ∀ j, w (i + 1 + j) = false → l[j]? = m[j]? := fun j hj => by
      have := hs (j + 1) (by rwa [show i + (j + 1) = i + 1 + j by omega])
      simpa using this
    simp only [zipW] at h
    split at h
    · split at h
      · rename_i x y hx hy
        cases h
        cases c
        · simp only [Bool.false_eq_true, if_false] at hv
          cases hv with | cons h1 h2 =>
          exact .cons (hf E a b x _ hx (by simpa using h1)) (zipW_ok hf hy hs' (by simpa using h2))
        · simp only [if_true] at hv
          cases hv with | cons h1 h2 =>
          exact .cons (hf E a b x _ hx (by simpa using h1)) (zipW_ok hf hy hs' (by simpa using h2))
      · cases h
    · rename_i hw
      have hab : a = b := by
        have := hs 0 hw
        simpa using this
      split at h
      · rename_i y hy
        cases h
        cases c
        · simp only [Bool.false_eq_true, if_false] at hv
          cases hv with | cons h1 h2 =>
          exact .cons (hab ▸ h1) (zipW_ok hf hy hs' (by simpa using h2))
        · simp only [if_true] at hv
          cases hv with | cons h1 h2 =>
          exact .cons h1 (zipW_ok hf hy hs' (by simpa using h2))
      · cases h
theorem zipW_len {f : AV → AV → Option AV} {w : Nat → Bool} : ∀ {l m r : List AV} {i : Nat}, zipW f w i l m = some r → r.length = l.length ∧ ∀ j, w (i + j) = false → r[j]? = l[j]?
  | [], [], r, i, h => by simp [zipW] at h; subst h; exact ⟨rfl, fun _ _ => rfl⟩
  | [], _ :: _, r, i, h => by simp [zipW] at h
  | _ :: _, [], r, i, h => by simp [zipW] at h
  | a :: l, b :: m, r, i, h => by
    simp only [zipW] at h
    split at h
    · rename_i hw
      split at h
      · rename_i x y hx hy
        cases h
        obtain ⟨h1, h2⟩ := zipW_len hy
        refine ⟨by simp [h1], fun j hj => ?_⟩
        cases j with
        | zero => rw [Nat.add_zero, hw] at hj; cases hj
        | succ j => simpa using h2 j (by rwa [show i + 1 + j = i + (j + 1) by omega])
      · cases h
    · split at h
      · rename_i y hy
        cases h
        obtain ⟨h1, h2⟩ := zipW_len hy
        refine ⟨by simp [h1], fun j hj => ?_⟩
        cases j with
        | zero => simp
        | succ j => simpa using h2 j (by rwa [show i + 1 + j = i + (j + 1) by omega])
      · cases h
theorem fit_unk (vs : List Value) : Reps E (fit vs.length []) vs := by
  induction vs with
  | nil => exact .nil
  | cons v vs ih => exact .cons (.unk v) ih
theorem fit_same {l : List AV} {vs : List Value} (h : Reps E l vs) : Reps E (fit vs.length l) vs := by
  induction l generalizing vs with
  | nil => cases h; exact .nil
  | cons a l ih => cases h with | cons h1 h2 => exact .cons h1 (ih h2)
theorem zipU_ok {c : Bool} {f : AV → AV → Option AV} (hf : Picks c f) {l m : List AV} {vs : List Value} (hv : if c = true then Reps E l vs else Reps E m vs) : Reps E (fit vs.length (zipU f l m)) vs := by
  induction vs generalizing l m with
  | nil => exact .nil
  | cons v vs ih =>
    cases l with
    | nil => exact fit_unk (v :: vs)
    | cons a l => cases m with
      | nil => exact fit_unk (v :: vs)
      | cons b m =>
        simp only [zipU, List.length_cons, fit]
        refine .cons ?_ (ih ?_)
        · cases hx : f a b with
          | none => exact .unk v
          | some x =>
            refine hf E a b x v hx ?_
            cases c
            · simp only [Bool.false_eq_true, if_false] at hv ⊢; cases hv; assumption
            · simp only [if_true] at hv ⊢; cases hv; assumption
        · cases c
          · simp only [Bool.false_eq_true, if_false] at hv ⊢; cases hv; assumption
          · simp only [if_true] at hv ⊢; cases hv; assumption
theorem zipU_fit {c : Bool} {f : AV → AV → Option AV} (hf : Picks c f) {l m : List AV} {vs : List Value} {k : Nat} (hk : vs.length = k) (hv : if c = true then Reps E l vs else Reps E m vs) : Reps E (fit k (zipU f l m)) vs := hk ▸ zipU_ok hf hv
theorem take_len {l : List Value} {off n : Nat} (h : off + n ≤ l.length) : ((l.drop off).take n).length = n := by simp; omega
theorem seg_le {off i k n size : Nat} (hi : i < n) (h : off + n * k ≤ size) : off + i * k + k ≤ size := by
  have := Nat.mul_le_mul_right k (show i + 1 ≤ n from hi)
  rw [Nat.add_mul, Nat.one_mul] at this
  omega
theorem seg_len {c : Array Value} {off i k n : Nat} (hi : i < n) (h : off + n * k ≤ c.size) : ((c.toList.drop (off + i * k)).take k).length = k :=
  take_len (by rw [Array.length_toList]; exact seg_le hi h)
theorem mux_ok (d : Nat) : ∀ c, Picks c (mux d c) := by
  induction d with
  | zero => intro c E a b r v h _; simp [mux] at h; subst h; exact .unk v
  | succ d ih =>
    intro c E a b r v h hv
    unfold mux at h
    split at h
    · rename_i x lx y ly hx hy
      split at h
      · rename_i he
        cases h
        simp only [Bool.and_eq_true] at he
        have hxy := eqV_eq he.2
        cases c
        · obtain ⟨rfl, ho⟩ := scal_rep hy (by simpa using hv); rw [hxy]; exact .lit _ ho
        · obtain ⟨rfl, ho⟩ := scal_rep hx (by simpa using hv); exact .lit _ ho
      · split at h
        · cases h
          cases c
          · obtain ⟨rfl, ho⟩ := scal_rep hy (by simpa using hv); exact .v _ rfl
          · obtain ⟨rfl, ho⟩ := scal_rep hx (by simpa using hv); exact .v _ rfl
        · cases h
          cases c
          · obtain ⟨rfl, ho⟩ := scal_rep hy (by simpa using hv); exact .v _ rfl
          · obtain ⟨rfl, ho⟩ := scal_rep hx (by simpa using hv); exact .v _ rfl
        split at h
        · rename_i z hz
          cases h
          obtain ⟨hz1, hz2⟩ := muxV_ok hz
          cases c
          · obtain ⟨rfl, ho⟩ := scal_rep hy (by simpa using hv); simp at hz1; rw [hz1]; exact .v _ ho
          · obtain ⟨rfl, ho⟩ := scal_rep hx (by simpa using hv); simp at hz1; rw [hz1]; exact .v _ ho
        · cases h; exact .unk v
    · split at h
      · -- agg
        split at h
        · rename_i hz; cases h
          cases c
          · simp only [Bool.false_eq_true, if_false] at hv
            cases hv with | agg h1 h2 => exact .agg (zipO_ok (ih false) hz (by simpa using h1)).1 h2
          · simp only [if_true] at hv
            cases hv with | agg h1 h2 => exact .agg (zipO_ok (ih true) hz (by simpa using h1)).1 h2
        · cases h
      · split at h
        · rename_i hz; cases h
          cases c
          · simp only [Bool.false_eq_true, if_false] at hv
            cases hv with | tup h1 => exact .tup (zipO_ok (ih false) hz (by simpa using h1)).1
          · simp only [if_true] at hv
            cases hv with | tup h1 => exact .tup (zipO_ok (ih true) hz (by simpa using h1)).1
        · cases h
      · split at h
        · rename_i he; cases h
          simp only [Bool.and_eq_true] at he
          obtain ⟨he1, he2⟩ := he
          obtain rfl := Nat.eq_of_beq_eq_true he1
          obtain rfl := Nat.eq_of_beq_eq_true he2
          cases c <;> simpa using hv
        · cases h; exact .unk v
      · split at h
        · rename_i he; cases h
          obtain rfl := Nat.eq_of_beq_eq_true he
          cases c <;> simpa using hv
        · cases h; exact .unk v
      · split at h
        · rename_i he; cases h
          simp only [Bool.and_eq_true] at he
          obtain ⟨he1, he2⟩ := he
          obtain rfl := Nat.eq_of_beq_eq_true he1
          obtain rfl := Nat.eq_of_beq_eq_true he2
          cases c
          · simp only [Bool.false_eq_true, if_false] at hv ⊢
            cases hv with
            | own h1 h2 h3 => exact .own h1 h2 h3
            | ownNil h1 h2 h3 h4 => exact .ownNil h1 h2 h3 h4
          · simp only [if_true] at hv ⊢; exact hv
        · cases h
      · cases h
      · cases h
      · split at h
        · rename_i hk; cases h
          have := Nat.eq_of_beq_eq_true hk
          subst this
          cases c
          · simp only [Bool.false_eq_true, if_false] at hv ⊢
            cases hv with
            | slNil h1 => exact .slNil h1
            | slEmp h1 h2 => exact .slEmp h1 fun hf => h2 (by simp at hf; exact hf.2)
            | sl h1 h2 h3 h4 h5 h6 =>
              refine .sl h1 h2 (fun hf => h3 (by simp at hf; exact hf.2)) h4 (fun i hi => ?_) h6
              exact zipU_fit (ih false) (seg_len hi h2) (by simpa using h5 i hi)
          · simp only [if_true] at hv ⊢
            cases hv with
            | slNil h1 => exact .slNil h1
            | slEmp h1 h2 => exact .slEmp h1 fun hf => h2 (by simp at hf; exact hf.1)
            | sl h1 h2 h3 h4 h5 h6 =>
              refine .sl h1 h2 (fun hf => h3 (by simp at hf; exact hf.1)) h4 (fun i hi => ?_) h6
              exact zipU_fit (ih true) (seg_len hi h2) (by simpa using h5 i hi)
        · cases h; exact .unk v
      · split at h
        · rename_i hn; cases h
          cases c
          · simp only [Bool.false_eq_true, if_false] at hv ⊢
            cases hv with
            | slNil h1 => exact .slNil h1
            | slEmp h1 h2 => exact .slEmp h1 h2
            | sl h1 h2 h3 h4 h5 h6 => exact .sl h1 h2 h3 h4 h5 h6
          · simp only [if_true] at hv ⊢
            cases hv; rw [isNilSl_eq hn]; exact .slNil rfl
        · cases h; exact .unk v
      · split at h
        · rename_i hn; cases h
          cases c
          · simp only [Bool.false_eq_true, if_false] at hv ⊢
            cases hv; rw [isNilSl_eq hn]; exact .slNil rfl
          · simp only [if_true] at hv ⊢
            cases hv with
            | slNil h1 => exact .slNil h1
            | slEmp h1 h2 => exact .slEmp h1 h2
            | sl h1 h2 h3 h4 h5 h6 => exact .sl h1 h2 h3 h4 h5 h6
        · cases h; exact .unk v
      · split at h
        · rename_i ho
          have := Nat.eq_of_beq_eq_true ho
          subst this
          split at h
          · rename_i hz; cases h
            cases c
            · simp only [Bool.false_eq_true, if_false] at hv
              cases hv with | fz h1 h2 h3 h4 =>
              obtain ⟨k1, k2, k3⟩ := zipO_ok (ih false) hz (by simpa using h3)
              exact .fz h1 (by omega) (by rw [← k3]; exact k1) (by rw [← k3]; exact h4)
            · simp only [if_true] at hv
              cases hv with | fz h1 h2 h3 h4 =>
              obtain ⟨k1, k2, k3⟩ := zipO_ok (ih true) hz (by simpa using h3)
              exact .fz h1 (by omega) (by rw [← k2]; exact k1) (by rw [← k2]; exact h4)
          · cases h
        · cases h; exact .unk v
      · split at h
        · rename_i he; cases h
          simp only [Bool.and_eq_true, decide_eq_true_eq] at he
          obtain ⟨⟨rfl, h2⟩, h3⟩ := he
          cases c
          · simp only [Bool.false_eq_true, if_false] at hv
            cases hv with | fn k1 k2 => exact .fn (eqAs_rep h2 k1) (eqAs_rep h3 k2)
          · simpa using hv
        · cases h; exact .unk v
      · cases h
        cases c
        · simp only [Bool.false_eq_true, if_false] at hv
          cases hv with | any h1 h2 => exact .any (fun fz' hf => ⟨fun h => (by cases h), fun _ => h1 fz' hf⟩) h2
        · simp only [if_true] at hv
          cases hv with | any h1 h2 => exact .any (fun fz' hf => ⟨fun _ => h1 fz' hf, fun h => (by cases h)⟩) h2
      · cases h; exact .unk v
theorem muxD_ok (c : Bool) : Picks c (mux muxD c) := mux_ok muxD c
/-- The chosen one. -/
theorem pickI_ok {i : Int} {f : Nat → Option AV} {n : Nat} {r : AV} (h : pickI i f n = some r) (h0 : 0 ≤ i) (h1 : i < (n : Int)) : ∃ a, f i.toNat = some a ∧ ∀ v, Rep E a v → Rep E r v := by
  induction n generalizing r with
  | zero => omega
  | succ n ih =>
    cases n with
    | zero =>
      have : i.toNat = 0 := by omega
      rw [this]; exact ⟨r, h, fun _ hv => hv⟩
    | succ n =>
      unfold pickI at h
      split at h
      · rename_i a b ha hb
        by_cases e : i = ((n + 1 : Nat) : Int)
        · have ht : i.toNat = n + 1 := by omega
          rw [ht]
          exact ⟨a, ha, fun v hv => muxD_ok _ E a b r v h (by rw [decide_eq_true e]; simpa using hv)⟩
        · obtain ⟨x, hx, hxv⟩ := ih hb (by omega)
          exact ⟨x, hx, fun v hv => muxD_ok _ E a b r v h (by rw [decide_eq_false e]; simpa using hxv v hv)⟩
      · cases h
end
end Go.Proofs.YtamjnhpkmhbkcaaGreatDoor

/-
  PART: loads, stores, new blocks: what the evaluator says of them is so.
-/
namespace Go.Proofs.YtamjnhpkmhbkcaaGreatDoor
open Go.RowKit

section
variable {P : Program} {w : World} {E : Env}
theorem size_info {t : TypeId} {n : Nat} (h : sizeO P t = some n) : ∃ i, P.info? t = some i ∧ i.size = n := by
  unfold sizeO at h
  split at h
  · rename_i i hi; cases h; exact ⟨i, hi, rfl⟩
  · cases h
theorem run_size {t : TypeId} {n : Nat} (h : sizeO P t = some n) : (sizeOf t).run P w = .ok n w := by
  obtain ⟨i, hi, rfl⟩ := size_info h
  simp [sizeOf, typeInfo, hi]
theorem run_agg {t : TypeId} {ag : Bool} (h : aggO P t = some ag) : (isAgg t).run P w = .ok ag w := by
  unfold aggO at h
  split at h
  · rename_i fs hu; cases h; simp [isAgg, underlying, hu]
  · rename_i hu; cases h; simp [isAgg, underlying, hu]
  · rename_i d h1 h2 hu
    cases h
    cases d <;> first | (exact absurd rfl (h1 _)) | (exact absurd rfl (h2 _ _)) | (simp [isAgg, underlying, hu])
  · cases h
theorem toList_seg {c : Array Value} {base L off n : Nat} (h : off + n ≤ L) : ((((c.toList.drop base).take L).drop off).take n) = (c.toList.drop (base + off)).take n := by
  rw [List.drop_take, List.take_take, List.drop_drop, Nat.min_eq_left (by omega)]
theorem one_seg {c : Array Value} {off i k n : Nat} (hi : i < n) (h : One ((c.toList.drop off).take (n * k))) : One ((c.toList.drop (off + i * k)).take k) := by
  have hle : i * k + k ≤ n * k := by
    have := Nat.mul_le_mul_right k (show i + 1 ≤ n from hi)
    rwa [Nat.add_mul, Nat.one_mul] at this
  rw [← toList_seg hle]
  exact (h.drop _).take _
theorem cut_le {cs : List AV} {off n : Nat} {ag : Bool} {r : AV} (h : cut cs off n ag = some r) : off + n ≤ cs.length := by
  unfold cut at h
  split at h
  · rename_i hb; exact Nat.le_of_ble_eq_true hb
  · cases h
/-- Cells as a value. -/
theorem cut_ok {cs : List AV} {off n : Nat} {ag : Bool} {r : AV} (h : cut cs off n ag = some r) {vs : List Value} (hR : Reps E cs vs) (ho : One vs) :
    (ag = true → Rep E r (.agg ((vs.drop off).take n).toArray)) ∧ (ag = false → n = 1 ∧ ∃ v, vs[off]? = some v ∧ Rep E r v) := by
  unfold cut at h
  split at h
  · split at h
    · cases h
      exact ⟨fun _ => .agg (by simpa using (hR.drop off).take n) (by simpa using (ho.drop off).take n), fun h => by cases h⟩
    · split at h
      · exact ⟨fun h => (by cases h), fun _ => ⟨rfl, hR.get h⟩⟩
      · cases h
  · cases h
theorem load_at {b off n : Nat} {c : Array Value} {ty t : TypeId} {fr : Nat × Nat} {ag : Bool} (hb : blkW w b = some (.cells c ty fr)) (hs : sizeO P t = some n) (ha : aggO P t = some ag) (hle : off + n ≤ c.size) :
    (ag = true → (loadVar t ⟨b, off, none⟩).run P w = .ok (.agg ((c.toList.drop off).take n).toArray) w) ∧ (ag = false → ∀ v, c.toList[off]? = some v → (loadVar t ⟨b, off, none⟩).run P w = .ok v w) := by
  constructor
  · rintro rfl
    have hl : ((c.toList.drop off).take n).length = n := take_len (by simpa using hle)
    have hc := run_loadCells_list (P := P) (w := w) ⟨b, off, none⟩ ((c.toList.drop off).take n) (fun j v hj => by
      have hadd : (⟨b, off, none⟩ : Addr).add j = ⟨b, off + j, none⟩ := by unfold Addr.add; split <;> simp_all
      rw [hadd, cell_blk hb, ← Array.getElem?_toList]
      rw [List.getElem?_take] at hj
      split at hj
      · rw [List.getElem?_drop] at hj; exact hj
      · cases hj)
    rw [hl] at hc
    simp [loadVar, run_agg ha, run_size hs, hc]
  · rintro rfl v hv
    have : w.cell? ⟨b, off, none⟩ = some v := by rw [cell_blk hb, ← Array.getElem?_toList]; exact hv
    simp [loadVar, run_agg ha, load, Sem.run, this]
theorem load_cut {b base off n : Nat} {c : Array Value} {ty t : TypeId} {fr : Nat × Nat} {ag : Bool} (hb : blkW w b = some (.cells c ty fr)) (hs : sizeO P t = some n) (ha : aggO P t = some ag)
    {cs : List AV} {r : AV} (hR : Reps E cs ((c.toList.drop base).take cs.length)) (hle : base + cs.length ≤ c.size) (ho : One ((c.toList.drop base).take cs.length)) (hc : cut cs off n ag = some r) :
    ∃ v, (loadVar t ⟨b, base + off, none⟩).run P w = .ok v w ∧ Rep E r v := by
  have h1 := cut_le hc
  obtain ⟨k1, k2⟩ := cut_ok hc hR ho
  obtain ⟨l1, l2⟩ := load_at (P := P) (t := t) hb hs ha (off := base + off) (by omega)
  cases ag with
  | true =>
    refine ⟨_, l1 rfl, ?_⟩
    have := k1 rfl
    rw [toList_seg h1] at this; exact this
  | false =>
    obtain ⟨hn, v, hv, hr⟩ := k2 rfl
    refine ⟨v, l2 rfl v ?_, hr⟩
    rw [List.getElem?_take] at hv
    split at hv
    · rw [List.getElem?_drop] at hv; exact hv
    · cases hv
theorem Reps.whole {cs : List AV} {c : Array Value} (h : Reps E cs c.toList) : Reps E cs ((c.toList.drop 0).take cs.length) ∧ 0 + cs.length ≤ c.size := by
  have := h.len
  have hz : c.toList.length = c.size := by simp
  refine ⟨?_, by omega⟩
  rw [List.drop_zero, List.take_of_length_le (by omega)]
  exact h
/-! Stores. -/
theorem splice_ok {cs new : List AV} {off : Nat} {vs us : List Value} (h : Reps E cs vs) (k : Reps E new us) : Reps E (splice cs off new) (vs.take off ++ (us ++ vs.drop (off + us.length))) := by
  unfold splice
  rw [k.len]
  exact (h.take off).app (k.app (h.drop _))
theorem setCells_row (g : Nat) (t : TypeId) (fr : Nat × Nat) : ∀ (vs : List Value) (o : Nat) (cur : Array Value) (w : World), w.heap[g]? = some (.cells cur t fr) → o + vs.length ≤ cur.size → w.setCells g o vs = w.setRow g (cur.toList.take o ++ vs ++ cur.toList.drop (o + vs.length)).toArray
  | [], o, cur, w, hg, _ => by
    rw [List.append_nil, List.length_nil, Nat.add_zero, List.take_append_drop, Array.toArray_toList, setRow_self w g cur t fr hg]
    rfl
  | v :: r, o, cur, w, hg, hl => by
    rw [List.length_cons] at hl
    rw [World.setCells, setCell_eq_setRow w g o cur t fr v hg, setCells_row g t fr r (o + 1) (cur.setIfInBounds o v) _ (setRow_heap w g cur _ t _ hg) (by rw [Array.size_setIfInBounds]; omega), setRow_setRow]
    congr 2
    rw [Array.toList_setIfInBounds, List.length_cons]
    exact list_seg_step cur.toList o v r (by rw [Array.length_toList]; omega)
theorem run_storeCells_atM (P : Program) (g o : Nat) (t : TypeId) (fr : Nat × Nat) (vs : List Value) (i : Nat) (cur : Array Value) (w : World) (hg : w.heap[g]? = some (.cells cur t fr)) (hf : Unm fr cur.size) (hl : o + i + vs.length ≤ cur.size) (h1 : ∀ v ∈ vs, v.oneCell' = true) :
    (storeCells ⟨g, o, none⟩ vs i).run P w = .ok () (w.setRow g (cur.toList.take (o + i) ++ vs ++ cur.toList.drop (o + i + vs.length)).toArray) := by
  rw [← setCells_row g t fr vs (o + i) cur w hg hl]
  refine run_storeCells_cells (P := P) g o vs i w (fun j hj => ?_) (fun j hj => ?_) h1
  · have : o + i + j < cur.size := by omega
    simp [World.cell?, hg, this]
  · obtain ⟨lo, hi⟩ := fr
    have hu : lo = hi ∨ cur.size ≤ lo := hf
    simp only [World.frozen?, hg, Bool.and_eq_false_iff, decide_eq_false_iff_not]
    omega
theorem run_storeVar {b off n : Nat} {c : Array Value} {ty t : TypeId} {fr : Nat × Nat} {v : Value} (hb : blkW w b = some (.cells c ty fr)) (hfr : Unm fr c.size) (hs : sizeO P t = some n) (hl : v.cells.toList.length = n) (hle : off + n ≤ c.size) (ho : One v.cells.toList) :
    (storeVar t ⟨b, off, none⟩ v).run P w = .ok () (w.setRow b (c.toList.take off ++ v.cells.toList ++ c.toList.drop (off + n)).toArray) := by
  have := run_storeCells_atM (P := P) b off ty fr v.cells.toList 0 c w hb hfr (by rw [hl]; simpa using hle) (fun u hu => by rw [one_iff]; exact ho u hu)
  have hsz : v.cells.size = n := by rw [← hl, Array.length_toList]
  simp only [Nat.add_zero, hl] at this
  simp [storeVar, run_size hs, hsz]
  simpa using this
end

/-- The fence: every function; perhaps in a round of a range over a function. -/
def wideR (r : Option Nat) : Fence := { Fence.wide with round := r }
def NoDefer (o : Oper) : Prop := ∀ c, o.op ≠ .defer c
section
variable {P : Program} {o : Oper} {a : Act} {w w' : World} {K : Act → World → Prop} {Q : Exit → Act → World → Prop} {r : Option Nat}
theorem op_value {v : Value} (hd : NoDefer o) (h : (execOp a.eval o).run P w = .ok (.value v) w') (hk : K (a.put o.dst v) w') : o.wpIn (wideR r) 0 P a w K Q :=
  ⟨fun _ _ => trivial, by rw [Oper.semAt_eq _ _ _ hd, h]; exact hk⟩
theorem op_skip (hd : NoDefer o) (h : (execOp a.eval o).run P w = .ok .skip w') (hk : K (a.put o.dst undef) w') : o.wpIn (wideR r) 0 P a w K Q :=
  ⟨fun _ _ => trivial, by rw [Oper.semAt_eq _ _ _ hd, h]; exact hk⟩
end
/-- Names in use are below the next one. -/
def Wf (s : St) : Prop := ∀ x, hget s.hp x ≠ none → x < s.nx
theorem cov_mono {a b : List (Nat × Option (Nat × Nat))} (h : ∀ e, e ∈ a → e ∈ b) {x j : Nat} (hc : cov a x j = true) : cov b x j = true := by
  unfold cov at hc ⊢
  obtain ⟨e, h1, h2⟩ := List.any_eq_true.1 hc
  exact List.any_eq_true.2 ⟨e, h e h1, h2⟩
theorem cov_mono_false {a b : List (Nat × Option (Nat × Nat))} (h : ∀ e, e ∈ a → e ∈ b) {x j : Nat} (hc : cov b x j = false) : cov a x j = false := by
  cases hq : cov a x j with
  | false => rfl
  | true => rw [cov_mono h hq] at hc; cases hc
theorem cov_all {wc : List (Nat × Option (Nat × Nat))} {x : Nat} (h : (x, none) ∈ wc) (j : Nat) : cov wc x j = true := List.any_eq_true.2 ⟨_, h, by simp⟩
/-- A block's cells, but for those that were written, are as they were. -/
def Kept (hp hp' : List (Nat × Option Blk)) (wc : List (Nat × Option (Nat × Nat))) (x : Nat) : Prop :=
  (∀ j, cov wc x j = true) ∨ hget hp' x = hget hp x ∨ ∃ ty cs cs', hget hp x = some (.fix ty cs) ∧ hget hp' x = some (.fix ty cs') ∧ cs'.length = cs.length ∧ ∀ j, cov wc x j = false → cs'[j]? = cs[j]?
theorem Kept.wc {hp hp' : List (Nat × Option Blk)} {a b : List (Nat × Option (Nat × Nat))} {x : Nat} (h : Kept hp hp' a x) (hm : ∀ e, e ∈ a → e ∈ b) : Kept hp hp' b x := by
  rcases h with h | h | ⟨ty, cs, cs', h1, h2, h3, h4⟩
  · exact .inl fun j => cov_mono hm (h j)
  · exact .inr (.inl h)
  · exact .inr (.inr ⟨ty, cs, cs', h1, h2, h3, fun j hj => h4 j (cov_mono_false hm hj)⟩)
theorem Kept.trans {p q r : List (Nat × Option Blk)} {a : List (Nat × Option (Nat × Nat))} {x : Nat} (h : Kept p q a x) (k : Kept q r a x) : Kept p r a x := by
  rcases h with h | h | ⟨ty, cs, cs', h1, h2, h3, h4⟩
  · exact .inl h
  · rcases k with k | k | ⟨ty, cs, cs', h1, h2, h3, h4⟩
    · exact .inl k
    · exact .inr (.inl (k.trans h))
    · exact .inr (.inr ⟨ty, cs, cs', h ▸ h1, h2, h3, h4⟩)
  · rcases k with k | k | ⟨ty2, ds, ds', k1, k2, k3, k4⟩
    · exact .inl k
    · exact .inr (.inr ⟨ty, cs, cs', h1, k.trans h2, h3, h4⟩)
    · rw [h2] at k1
      cases k1
      exact .inr (.inr ⟨ty, cs, ds', h1, k2, k3.trans h3, fun j hj => (k4 j hj).trans (h4 j hj)⟩)
/-- How the evaluator's states go on. -/
structure Grew (s s' : St) : Prop where
  wf : Wf s → Wf s'
  nx : s.nx ≤ s'.nx
  rd : ∀ x, x ∈ s.rd → x ∈ s'.rd
  wr : ∀ x, x ∈ s.wr → x ∈ s'.wr
  ws : ∀ x, x ∈ s.ws → x ∈ s'.ws
  wb : ∀ x, x ∈ s.wb → x ∈ s'.wb
  slot : ∀ d, d ∉ s'.ws → look s'.sl d = look s.sl d
  blkb : ∀ x, x ∉ s'.wb → hget s'.hp x = hget s.hp x
  blkr : ∀ x, x ∉ s'.wr → hget s'.hp x = hget s.hp x
  wbr : ∀ x, x ∈ s'.wb → x ∈ s.wb ∨ x ∈ s'.wr
  wc : ∀ e, e ∈ s.wc → e ∈ s'.wc
  cell : ∀ x, Kept s.hp s'.hp s'.wc x
theorem Grew.refl (s : St) : Grew s s := ⟨id, Nat.le_refl _, fun _ h => h, fun _ h => h, fun _ h => h, fun _ h => h, fun _ _ => rfl, fun _ _ => rfl, fun _ _ => rfl, fun _ h => .inl h, fun _ h => h, fun _ => .inr (.inl rfl)⟩
theorem Grew.trans {a b c : St} (h : Grew a b) (k : Grew b c) : Grew a c :=
  ⟨fun d => k.wf (h.wf d), Nat.le_trans h.nx k.nx, fun x d => k.rd x (h.rd x d), fun x d => k.wr x (h.wr x d), fun x d => k.ws x (h.ws x d), fun x d => k.wb x (h.wb x d),
   fun d hd => (k.slot d hd).trans (h.slot d fun e => hd (k.ws d e)), fun x hx => (k.blkb x hx).trans (h.blkb x fun e => hx (k.wb x e)), fun x hx => (k.blkr x hx).trans (h.blkr x fun e => hx (k.wr x e)),
   fun x hx => (k.wbr x hx).elim (fun q => (h.wbr x q).imp id (k.wr x)) .inr, fun e he => k.wc e (h.wc e he), fun x => ((h.cell x).wc k.wc).trans (k.cell x)⟩
theorem Grew.read (s : St) (x : Nat) : Grew s (s.read x) :=
  ⟨id, Nat.le_refl _, fun _ h => mem_ins.2 (.inr h), fun _ h => h, fun _ h => h, fun _ h => h, fun _ _ => rfl, fun _ _ => rfl, fun _ _ => rfl, fun _ h => .inl h, fun _ h => h, fun _ => .inr (.inl rfl)⟩
theorem hget_write {s : St} {x : Nat} {b : Option Blk} {y : Nat} : hget (s.write x b).hp y = if x = y then b else hget s.hp y := hget_cons x b s.hp y
theorem Grew.write (s : St) (x : Nat) (b : Option Blk) (hb : b = none ∨ hget s.hp x ≠ none) : Grew s (s.write x b) := by
  refine ⟨fun h y hy => ?_, Nat.le_refl _, fun _ h => mem_ins.2 (.inr h), fun _ h => mem_ins.2 (.inr h), fun _ h => h, fun _ h => mem_ins.2 (.inr h), fun _ _ => rfl, fun y hy => ?_, fun y hy => ?_, fun y hy => (mem_ins.1 hy).elim (fun e => .inr (mem_ins.2 (.inl e))) .inl, fun e h => List.mem_cons_of_mem _ h, fun y => ?_⟩
  · rw [hget_write] at hy
    by_cases e : x = y
    · subst e; rw [if_pos rfl] at hy; exact h x (hb.resolve_left hy)
    · rw [if_neg e] at hy; exact h y hy
  · rw [hget_write, if_neg]; rintro rfl; exact hy (mem_ins.2 (.inl rfl))
  · rw [hget_write, if_neg]; rintro rfl; exact hy (mem_ins.2 (.inl rfl))
  · by_cases e : x = y
    · subst e; exact .inl fun j => cov_all (List.mem_cons_self ..) j
    · exact .inr (.inl (by rw [hget_write, if_neg e]))
theorem splice_get {cs new : List AV} {off j : Nat} (h : off + new.length ≤ cs.length) (hj : ¬ (off ≤ j ∧ j < off + new.length)) : (splice cs off new)[j]? = cs[j]? := by
  unfold splice
  by_cases h1 : j < off
  · rw [List.getElem?_append_left (by simp; omega), List.getElem?_take, if_pos h1]
  · rw [List.getElem?_append_right (by simp; omega), List.getElem?_append_right (by simp; omega), List.getElem?_drop]
    congr 1
    simp; omega
theorem splice_length {cs new : List AV} {off : Nat} (h : off + new.length ≤ cs.length) : (splice cs off new).length = cs.length := by
  unfold splice; simp; omega
theorem Grew.writeAt (s : St) (x : Nat) (ty : TypeId) (cs : List AV) (off n : Nat) (new : List AV) (h : hget s.hp x = some (.fix ty cs)) (h1 : Nat.ble (off + n) cs.length = true) (h2 : Nat.beq new.length n = true) : Grew s (s.writeAt x (some (.fix ty (splice cs off new))) off n) := by
  have g := Grew.write s x (some (.fix ty (splice cs off new))) (.inr (by rw [h]; simp))
  obtain rfl := Nat.eq_of_beq_eq_true h2
  have h1 := Nat.le_of_ble_eq_true h1
  refine ⟨g.wf, g.nx, g.rd, g.wr, g.ws, g.wb, g.slot, g.blkb, g.blkr, g.wbr, fun e h => List.mem_cons_of_mem _ h, fun y => ?_⟩
  by_cases e : x = y
  · subst e
    refine .inr (.inr ⟨ty, cs, splice cs off new, h, ?_, splice_length h1, fun j hj => splice_get h1 fun ⟨a, b⟩ => ?_⟩)
    · show hget (s.write x _).hp x = _
      rw [hget_write, if_pos rfl]
    · have : cov (s.writeAt x (some (.fix ty (splice cs off new))) off new.length).wc x j = true := by
        refine List.any_eq_true.2 ⟨(x, some (off, new.length)), List.mem_cons_self .., ?_⟩
        simp [Nat.blt_eq, a, b]
      rw [this] at hj; cases hj
  · refine .inr (.inl ?_)
    show hget (s.write x _).hp y = _
    rw [hget_write, if_neg e]
theorem Grew.new (s : St) (b : Blk) : Grew s (s.new b) := by
  have hh : ∀ y, hget (s.new b).hp y = if s.nx = y then some b else hget s.hp y := fun y => hget_cons s.nx (some b) s.hp y
  refine ⟨fun h y hy => ?_, Nat.le_succ _, fun _ h => mem_ins.2 (.inr h), fun _ h => mem_ins.2 (.inr h), fun _ h => h, fun _ h => mem_ins.2 (.inr h), fun _ _ => rfl, fun y hy => ?_, fun y hy => ?_, fun y hy => (mem_ins.1 hy).elim (fun e => .inr (mem_ins.2 (.inl e))) .inl, fun e h => List.mem_cons_of_mem _ h, fun y => ?_⟩
  · show y < s.nx + 1
    rw [hh] at hy
    by_cases e : s.nx = y
    · omega
    · rw [if_neg e] at hy; have := h y hy; omega
  · rw [hh, if_neg]; rintro rfl; exact hy (mem_ins.2 (.inl rfl))
  · rw [hh, if_neg]; rintro rfl; exact hy (mem_ins.2 (.inl rfl))
  · by_cases e : s.nx = y
    · subst e; exact .inl fun j => cov_all (List.mem_cons_self ..) j
    · exact .inr (.inl (by rw [hh, if_neg e]))
theorem hget_new {s : St} {b : Blk} (y : Nat) : hget (s.new b).hp y = if s.nx = y then some b else hget s.hp y := hget_cons s.nx (some b) s.hp y
theorem Grew.put (s : St) (d : Option Nat) (a : AV) : Grew s (s.put d a) := by
  cases d with
  | none => exact .refl s
  | some d =>
    refine ⟨id, Nat.le_refl _, fun _ h => h, fun _ h => h, fun _ h => mem_ins.2 (.inr h), fun _ h => h, fun e he => ?_, fun _ _ => rfl, fun _ _ => rfl, fun _ h => .inl h, fun _ h => h, fun _ => .inr (.inl rfl)⟩
    show look ((d, a) :: s.sl) e = _
    have hne : d ≠ e := fun h => he (mem_ins.2 (.inl h.symm))
    show (match Nat.beq d e with | true => a | false => look s.sl e) = _
    have : Nat.beq d e = false := by
      cases hb : Nat.beq d e
      · rfl
      · exact absurd (Nat.eq_of_beq_eq_true hb) hne
    rw [this]
/-- Names that a piece may touch are covered. -/
def Cov (FP : Nat → Prop) (s s' : St) : Prop := ∀ x, (x ∈ s'.rd ∨ x ∈ s'.wr ∨ (s.nx ≤ x ∧ x < s'.nx)) → FP x
/-- What the evaluator says of an operation is so. -/
structure OpOk (P : Program) (o : Oper) (st : St) (a : AV) (st' : St) : Prop where
  grew : Grew st st'
  sl : st'.sl = st.sl
  run : ∀ (r : Option Nat) (FP : Nat → Prop) (E : Env) (act : Act) (w : World) (K : Act → World → Prop) (Q : Exit → Act → World → Prop), Wf st → Cov FP st st' → Free E st.nx st'.nx → Sim FP E (hget st.hp) w →
    (∀ x, x ∈ o.op.operands → Rep E (st.val x) (act.eval x)) →
    (∀ E' v w', Rep E' a v → Pst FP E E' (hget st.hp) (hget st'.hp) st.nx st'.nx st'.wr w w' → K (act.put o.dst v) w') → o.wpIn (wideR r) 0 P act w K Q
section
variable {P : Program} {o : Oper} {st st' : St} {a : AV}
/-- An operation that leaves memory alone. -/
theorem OpOk.quiet (hd : NoDefer o) (hg : Grew st st') (hsl : st'.sl = st.sl) (hh : st'.hp = st.hp) (hn : st'.nx = st.nx)
    (h : ∀ (FP : Nat → Prop) (E : Env) (act : Act) (w : World), Cov FP st st' → Sim FP E (hget st.hp) w → (∀ x, x ∈ o.op.operands → Rep E (st.val x) (act.eval x)) → ∃ v, (execOp act.eval o).run P w = .ok (.value v) w ∧ Rep E a v) :
    OpOk P o st a st' :=
  ⟨hg, hsl, fun r FP E act w K Q _ hc _ hS hx hk => by
    obtain ⟨v, hr, hv⟩ := h FP E act w hc hS hx
    refine op_value hd hr (hk E v w hv ?_)
    rw [hh, hn]; exact .refl hS⟩
end
end Go.Proofs.YtamjnhpkmhbkcaaGreatDoor

/-
  PART: operations on memory: load, store, new blocks.
-/
namespace Go.Proofs.YtamjnhpkmhbkcaaGreatDoor
open Go.RowKit

section
variable {P : Program} {o : Oper} {st st' : St} {a : AV}
theorem rep_ptr {E : Env} {x off : Nat} {v : Value} (h : Rep E (.ptr x off) v) : E.dom x ∧ v = .pointer (some ⟨E.ρ x, off, none⟩) := by cases h; exact ⟨‹_›, rfl⟩
theorem rep_pti {E : Env} {x base str n off : Nat} {i : Int} {v : Value} (h : Rep E (.pti x base i str n off) v) : E.dom x ∧ 0 ≤ i ∧ i < (n : Int) ∧ v = .pointer (some ⟨E.ρ x, base + i.toNat * str + off, none⟩) := by cases h; exact ⟨‹_›, ‹_›, ‹_›, rfl⟩
theorem rep_pe {E : Env} {x i k off : Nat} {il : Bool} {v : Value} (h : Rep E (.pe x i k off il) v) : E.dom x ∧ v = .pointer (some ⟨E.ρ x, i * k + off, none⟩) := by cases h; exact ⟨‹_›, rfl⟩
theorem rep_fz {E : Env} {cs : List AV} {off : Nat} {v : Value} (h : Rep E (.fz cs off) v) : ∃ b base c, E.fz b = some c ∧ base + cs.length ≤ c.size ∧ Reps E cs ((c.toList.drop base).take cs.length) ∧ One ((c.toList.drop base).take cs.length) ∧ v = .pointer (some ⟨b, base + off, none⟩) := by
  cases h; exact ⟨_, _, _, ‹_›, ‹_›, ‹_›, ‹_›, rfl⟩
theorem below_hit {α : Type} {l : Bool} {i n : Nat} {t : Tree α} {b : α} (h : (below l i n t).hit b) : i < n ∧ t.hit b := by
  unfold below at h
  cases l with
  | true =>
    simp only [] at h
    split at h
    · rename_i hb; exact ⟨of_decide_eq_true (by simpa [Nat.blt_eq] using hb), h⟩
    · exact h.elim
  | false => exact h
theorem closed_hit {α : Type} {l : Bool} {p : Prop} [Decidable p] {t : Tree α} {b : α} (h : (closed l p t).hit b) : p ∧ t.hit b := by
  unfold closed at h
  split at h
  · split at h
    · rename_i hd; exact ⟨of_decide_eq_true hd, h⟩
    · exact h.elim
  · exact h
theorem within_hit {α : Type} {l : Bool} {z : Int} {n : Nat} {t : Tree α} {b : α} (h : (within l z n t).hit b) : 0 ≤ z ∧ z < (n : Int) ∧ t.hit b := by
  unfold within at h
  cases l with
  | true =>
    simp only [] at h
    split at h
    · rename_i hb; simp only [Bool.and_eq_true, decide_eq_true_eq] at hb; exact ⟨hb.1, hb.2, h⟩
    · exact h.elim
  | false => exact ⟨h.1.1, h.1.2, h.2⟩
theorem ret_hit {α : Type} {a b : α} (h : (Tree.ret a).hit b) : a = b := h
theorem blk_fix {FP : Nat → Prop} {E : Env} {H : Nat → Option Blk} {w : World} {x : Nat} {ty : TypeId} {cs : List AV} (h : Sim FP E H w) (hF : FP x) (hx : H x = some (.fix ty cs)) :
    E.vir x = false ∧ ∃ c : Array Value, blkW w (E.ρ x) = some (.cells c ty (0, 0)) ∧ Reps E cs c.toList ∧ One c.toList := h.blk x _ hF hx
theorem blk_arr {FP : Nat → Prop} {E : Env} {H : Nat → Option Blk} {w : World} {x n k : Nat} {ty : TypeId} {get : Nat → List AV} (h : Sim FP E H w) (hF : FP x) (hx : H x = some (.arr ty n k get)) {i : Nat} (hi : i < n) :
    E.vir x = false ∧ ∃ (c : Array Value) (fr : Nat × Nat), blkW w (E.ρ x) = some (.cells c ty fr) ∧ Unm fr c.size ∧ c.size = E.cp x * k ∧ n ≤ E.cp x ∧ One c.toList ∧ ∀ i, i < n → Reps E (get i) ((c.toList.drop (i * k)).take k) := by
  rcases (h.blk x _ hF hx).2 with ⟨_, h0⟩ | h
  · omega
  · exact h
theorem exec_load {t : TypeId} {x : Operand} (ho : o.op = .load t x) {ρ : Operand → Value} {ad : Addr} (hx : ρ x = .pointer (some ad)) {w : World} {v : Value} (h : (loadVar t ad).run P w = .ok v w) : (execOp ρ o).run P w = .ok (.value v) w := by
  unfold execOp
  rw [ho]
  simp [Instr.loadAt, Instr.sureAddr, hx, h]
theorem nd_load {t : TypeId} {x : Operand} (ho : o.op = .load t x) : NoDefer o := fun c h => by rw [ho] at h; cases h
theorem mem1 {x : Operand} : x ∈ (#[x] : Array Operand) := by simp
theorem load_ok {t : TypeId} {x : Operand} (ho : o.op = .load t x) (h : (loadA P t (st.val x) st).hit (a, st')) : OpOk P o st a st' := by
  have hmem : x ∈ o.op.operands := by rw [ho]; exact mem1
  unfold loadA at h
  split at h
  · rename_i n ag hs ha
    split at h
    · rename_i y off hv
      split at h
      · rename_i ty cs hb
        split at h
        · rename_i r hc
          cases h
          refine .quiet (nd_load ho) (.read st y) rfl rfl rfl fun FP E act w hcov hS hx => ?_
          obtain ⟨hd, he⟩ := rep_ptr (hv ▸ hx x hmem)
          obtain ⟨_, c, hc1, hc2, hc3⟩ := blk_fix hS (hcov y (.inl (mem_ins.2 (.inl rfl)))) hb
          obtain ⟨hw1, hw2⟩ := hc2.whole
          obtain ⟨v, hl, hr⟩ := load_cut (P := P) hc1 hs ha hw1 hw2 ((hc3.drop _).take _) hc
          rw [Nat.zero_add] at hl
          exact ⟨v, exec_load ho he hl, hr⟩
        · exact h.elim
      · exact h.elim
    · rename_i y base i str m off hv
      split at h
      · rename_i ty cs hb
        split at h
        · rename_i r hc
          cases h
          refine .quiet (nd_load ho) (.read st y) rfl rfl rfl fun FP E act w hcov hS hx => ?_
          obtain ⟨hd, h0, h1, he⟩ := rep_pti (hv ▸ hx x hmem)
          obtain ⟨_, c, hc1, hc2, hc3⟩ := blk_fix hS (hcov y (.inl (mem_ins.2 (.inl rfl)))) hb
          obtain ⟨hw1, hw2⟩ := hc2.whole
          obtain ⟨a', hp, hpr⟩ := pickI_ok (E := E) hc h0 h1
          obtain ⟨v, hl, hr⟩ := load_cut (P := P) hc1 hs ha hw1 hw2 ((hc3.drop _).take _) hp
          rw [Nat.zero_add] at hl
          exact ⟨v, exec_load ho he hl, hpr v hr⟩
        · exact h.elim
      · exact h.elim
    · rename_i y i k off il hv
      split at h
      · rename_i ty m k' get hb
        split at h
        · rename_i r hk hc
          obtain ⟨hi, h⟩ := below_hit h
          cases h
          refine .quiet (nd_load ho) (.read st y) rfl rfl rfl fun FP E act w hcov hS hx => ?_
          obtain ⟨hd, he⟩ := rep_pe (hv ▸ hx x hmem)
          obtain rfl := Nat.eq_of_beq_eq_true hk
          obtain ⟨_, c, fr, hc1, hfr, hsz, hcp, hc3, hget⟩ := blk_arr hS (hcov y (.inl (mem_ins.2 (.inl rfl)))) hb hi
          have hR := hget i hi
          have hle : 0 + m * k ≤ c.size := by rw [hsz, Nat.zero_add]; exact Nat.mul_le_mul_right _ hcp
          have hlen : (get i).length = k := by
            have h1 := hR.len
            have h2 := seg_len (c := c) (off := 0) hi hle
            rw [Nat.zero_add] at h2
            rw [h1, h2]
          have h2 := seg_le hi hle
          rw [Nat.zero_add] at h2
          obtain ⟨v, hl, hr⟩ := load_cut (P := P) hc1 hs ha (base := i * k) (by rw [hlen]; exact hR) (by rw [hlen]; exact h2) ((hc3.drop _).take _) hc
          exact ⟨v, exec_load ho he hl, hr⟩
        · exact h.elim
      · exact h.elim
    · rename_i cs off hv
      split at h
      · rename_i r hc
        cases h
        refine .quiet (nd_load ho) (.refl st) rfl rfl rfl fun FP E act w hcov hS hx => ?_
        obtain ⟨b, base, c, hz, hle, hR, hone, he⟩ := rep_fz (hv ▸ hx x hmem)
        obtain ⟨ty, fr, hb⟩ := hS.fz b c hz
        obtain ⟨v, hl, hr⟩ := load_cut (P := P) hb hs ha hR hle hone hc
        exact ⟨v, exec_load ho he hl, hr⟩
      · exact h.elim
    · exact h.elim
  · exact h.elim
/-! Store. -/
theorem nd_store {t : TypeId} {x y : Operand} (ho : o.op = .store t x y) : NoDefer o := fun c h => by rw [ho] at h; cases h
theorem exec_store {t : TypeId} {x y : Operand} (ho : o.op = .store t x y) {ρ : Operand → Value} {ad : Addr} (hx : ρ x = .pointer (some ad)) {w w' : World} (h : (storeVar t ad (ρ y)).run P w = .ok () w') : (execOp ρ o).run P w = .ok .skip w' := by
  unfold execOp
  rw [ho]
  simp [Instr.storeAt, Instr.sureAddr, hx, h]
theorem setRow_os (w : World) (b : Nat) (c : Array Value) : (w.setRow b c).os = w.os := rfl
/-- A store into a block of which the new cells are known. -/
theorem store_into {t : TypeId} {x y : Operand} (ho : o.op = .store t x y) {r : Option Nat} {FP : Nat → Prop} {E : Env} {act : Act} {w : World} {K : Act → World → Prop} {Q : Exit → Act → World → Prop} {z : Nat} {B B' : Blk}
    (hS : Sim FP E (hget st.hp) w) (hF : FP z) (hz : hget st.hp z = some B) (hv : E.vir z = false) (hlt : z < st.nx) {off n : Nat} (hx : act.eval x = .pointer (some ⟨E.ρ z, off, none⟩))
    {c : Array Value} {ty : TypeId} {fr : Nat × Nat} (hb : blkW w (E.ρ z) = some (.cells c ty fr)) (hfr : Unm fr c.size) (hs : sizeO P t = some n) (hl : (act.eval y).cells.toList.length = n) (hle : off + n ≤ c.size) (hone : One (act.eval y).cells.toList)
    (hB : BlkR E z B' (some (.cells (c.toList.take off ++ (act.eval y).cells.toList ++ c.toList.drop (off + n)).toArray ty fr)))
    (hk : ∀ E' v w', Rep E' .unk v → Pst FP E E' (hget st.hp) (hget (st.write z (some B')).hp) st.nx st.nx (st.write z (some B')).wr w w' → K (act.put o.dst v) w') : o.wpIn (wideR r) 0 P act w K Q := by
  have hrun := run_storeVar (P := P) hb hfr hs hl hle hone
  refine op_skip (nd_store ho) (exec_store ho hx hrun) (hk E undef _ (.unk _) ?_)
  refine Pst.set hS hF hz hv (mem_ins.2 (.inl rfl)) hlt ?_ (fun q => hget_write) (fun b hne => blkW_setRow_other w _ _ hne) (setRow_size ..) rfl rfl rfl
  rw [blkW_setRow_same hb]; exact hB
theorem splice_len {l m : List Value} {off n : Nat} (hm : m.length = n) (h : off + n ≤ l.length) : (l.take off ++ m ++ l.drop (off + n)).length = l.length := by
  simp; omega
theorem one_splice {l m : List Value} {off n : Nat} (h : One l) (hm : One m) : One (l.take off ++ m ++ l.drop (off + n)) := ((h.take _).app hm).app (h.drop _)
theorem seg_id (ws : List Value) (p n : Nat) : ws.take p ++ ((ws.drop p).take n ++ ws.drop (p + n)) = ws := by
  rw [← List.drop_drop, List.take_append_drop, List.take_append_drop]
theorem spliceI_ok {E : Env} {i : Int} {cs new : List AV} {base str off : Nat} {m : Nat} {cs' : List AV} (h : spliceI i cs base str off new m = some cs') {vs us : List Value} (hR : Reps E cs vs) (hN : Reps E new us) (h0 : 0 ≤ i) :
    cs'.length = cs.length ∧ (i < (m : Int) → base + i.toNat * str + off + us.length ≤ vs.length ∧ Reps E cs' (vs.take (base + i.toNat * str + off) ++ (us ++ vs.drop (base + i.toNat * str + off + us.length)))) ∧ (¬ i < (m : Int) → Reps E cs' vs) := by
  induction m generalizing cs' with
  | zero =>
    simp [spliceI] at h; subst h
    exact ⟨rfl, fun h => absurd h (by omega), fun _ => hR⟩
  | succ j ih =>
    simp only [spliceI] at h
    split at h
    · rename_i cs1 h1
      split at h
      · rename_i hle
        have hle' := Nat.le_of_ble_eq_true hle
        split at h
        · rename_i r hz
          cases h
          obtain ⟨e1, e2, e3⟩ := ih h1
          have hlr : new.length = r.length ∧ ((cs1.drop (base + j * str + off)).take new.length).length = r.length := by
            have : ∀ (l m r : List AV) (f : AV → AV → Option AV), zipO f l m = some r → l.length = r.length ∧ m.length = r.length := by
              intro l
              induction l with
              | nil => intro m r f h; cases m <;> simp [zipO] at h; subst h; exact ⟨rfl, rfl⟩
              | cons a l ih => intro m r f h; cases m with
                | nil => simp [zipO] at h
                | cons b m =>
                  simp only [zipO] at h
                  split at h
                  · rename_i x y hx hy; cases h
                    obtain ⟨q1, q2⟩ := ih m y f hy
                    exact ⟨by simp [q1], by simp [q2]⟩
                  · cases h
            exact this _ _ _ _ hz
          have hlen : (splice cs1 (base + j * str + off) r).length = cs.length := by
            unfold splice; simp; omega
          have hu := hN.len
          by_cases e : i = (j : Int)
          · have ht : i.toNat = j := by omega
            have hnot : ¬ i < (j : Int) := by omega
            have hR1 := e3 hnot
            have hv1 := hR1.len
            have hr : Reps E r us := (zipO_ok (muxD_ok _) hz (by rw [decide_eq_true e]; simpa using hN)).1
            refine ⟨hlen, fun _ => ?_, fun h => absurd (show i < ((j + 1 : Nat) : Int) by omega) h⟩
            rw [ht]
            exact ⟨by omega, splice_ok hR1 hr⟩
          · have hsame : ∀ (ws : List Value), Reps E cs1 ws → Reps E (splice cs1 (base + j * str + off) r) ws := fun ws hws => by
              have hr : Reps E r ((ws.drop (base + j * str + off)).take new.length) := (zipO_ok (muxD_ok _) hz (by rw [decide_eq_false e]; simpa using (hws.drop _).take _)).1
              have := splice_ok (off := base + j * str + off) hws hr
              have hwl := hws.len
              have hz2 : ((ws.drop (base + j * str + off)).take new.length).length = new.length := take_len (by omega)
              rw [hz2] at this
              rwa [seg_id] at this
            refine ⟨hlen, fun h => ?_, fun h => hsame _ (e3 (by omega))⟩
            obtain ⟨q1, q2⟩ := e2 (by omega)
            exact ⟨q1, hsame _ q2⟩
        · cases h
      · cases h
    · cases h
theorem app_assoc3 (a b c : List Value) : a ++ b ++ c = a ++ (b ++ c) := List.append_assoc a b c
/-- A segment of a row of which another segment is written. -/
theorem seg_splice_other {l m : List Value} {p q k n : Nat} (hm : m.length = n) (h : q + k ≤ p ∨ p + n ≤ q) (hle : p + n ≤ l.length) : ((l.take p ++ (m ++ l.drop (p + n))).drop q).take k = (l.drop q).take k := by
  apply List.ext_getElem?
  intro i
  simp only [List.getElem?_take, List.getElem?_drop]
  split
  · rename_i hi
    rcases h with h | h
    · rw [List.getElem?_append_left (by simp; omega), List.getElem?_take, if_pos (by omega)]
    · rw [List.getElem?_append_right (by simp; omega), List.getElem?_append_right (by simp; omega), List.getElem?_drop]
      congr 1
      simp; omega
  · rfl
theorem get_app3 (a b c : List Value) (i : Nat) : (a ++ (b ++ c))[i]? = if i < a.length then a[i]? else if i - a.length < b.length then b[i - a.length]? else c[i - a.length - b.length]? := by
  split
  · rename_i h; exact List.getElem?_append_left h
  · rename_i h
    rw [List.getElem?_append_right (by omega)]
    split
    · rename_i h2; exact List.getElem?_append_left h2
    · exact List.getElem?_append_right (by omega)
theorem splice_len2 {l m : List Value} {off : Nat} (h : off + m.length ≤ l.length) : (l.take off ++ (m ++ l.drop (off + m.length))).length = l.length := by
  simp only [List.length_append, List.length_take, List.length_drop]; omega
theorem seg_splice_in {l m : List Value} {base off n k : Nat} (hm : m.length = n) (h : off + n ≤ k) (hle : base + k ≤ l.length) : ((l.take (base + off) ++ (m ++ l.drop (base + off + n))).drop base).take k = ((l.drop base).take k).take off ++ (m ++ ((l.drop base).take k).drop (off + m.length)) := by
  have l1 : (l.take (base + off)).length = base + off := by rw [List.length_take]; omega
  have l2 : (((l.drop base).take k).take off).length = off := by rw [List.length_take, List.length_take, List.length_drop]; omega
  apply List.ext_getElem?
  intro i
  rw [List.getElem?_take, List.getElem?_drop, get_app3, get_app3, l1, l2]
  by_cases hi : i < k
  · rw [if_pos hi]
    by_cases h1 : i < off
    · rw [if_pos (by omega), if_pos h1]
      simp only [List.getElem?_take, List.getElem?_drop]
      rw [if_pos (by omega), if_pos h1, if_pos hi]
    · rw [if_neg (by omega), if_neg h1, show base + i - (base + off) = i - off by omega]
      by_cases h2 : i - off < m.length
      · rw [if_pos h2, if_pos h2]
      · rw [if_neg h2, if_neg h2]
        simp only [List.getElem?_take, List.getElem?_drop]
        rw [if_pos (by omega)]
        congr 1
        omega
  · rw [if_neg hi, if_neg (by omega), if_neg (by omega)]
    simp only [List.getElem?_take, List.getElem?_drop]
    rw [if_neg (by omega)]
theorem store_ok {t : TypeId} {x y : Operand} (ho : o.op = .store t x y) (h : (storeA P t (st.val x) (st.val y) st).hit (a, st')) : OpOk P o st a st' := by
  have hmx : x ∈ o.op.operands := by rw [ho]; simp [Op.operands]
  have hmy : y ∈ o.op.operands := by rw [ho]; simp [Op.operands]
  unfold storeA at h
  split at h
  · rename_i n hs
    split at h
    · rename_i hag hlen
      have hlen' := Nat.eq_of_beq_eq_true hlen
      split at h
      · rename_i z off hv
        split at h
        · rename_i ty cs hb
          split at h
          · rename_i hle
            have hle' := Nat.le_of_ble_eq_true hle
            cases h
            have hal : hget st.hp z ≠ none := by rw [hb]; simp
            refine ⟨.writeAt st z ty cs off n _ hb hle hlen, rfl, fun r FP E act w K Q hwf hcov _ hS hx hk => ?_⟩
            obtain ⟨hd, he⟩ := rep_ptr (hv ▸ hx x hmx)
            have hF := hcov z (.inr (.inl (mem_ins.2 (.inl rfl))))
            obtain ⟨hvir, c, hc1, hc2, hc3⟩ := blk_fix hS hF hb
            obtain ⟨hR, hone⟩ := cellsR (hx y hmy) hag
            have hl := hR.len
            have hcl := hc2.len
            have hcz : c.toList.length = c.size := by simp
            refine store_into ho hS hF hb hvir (hwf z hal) he hc1 (unm0 _) hs (by omega) (by omega) hone ?_ hk
            refine ⟨hvir, _, rfl, ?_, ?_⟩
            · rw [List.toList_toArray, List.append_assoc, ← hlen', hl]; exact splice_ok hc2 hR
            · rw [List.toList_toArray]; exact one_splice hc3 hone
          · exact h.elim
        · exact h.elim
      · rename_i z base i str m off hv
        split at h
        · rename_i ty cs hb
          split at h
          · rename_i cs' hsp
            cases h
            have hal : hget st.hp z ≠ none := by rw [hb]; simp
            refine ⟨.write st z _ (.inr hal), rfl, fun r FP E act w K Q hwf hcov _ hS hx hk => ?_⟩
            obtain ⟨hd, h0, h1, he⟩ := rep_pti (hv ▸ hx x hmx)
            have hF := hcov z (.inr (.inl (mem_ins.2 (.inl rfl))))
            obtain ⟨hvir, c, hc1, hc2, hc3⟩ := blk_fix hS hF hb
            obtain ⟨hR, hone⟩ := cellsR (hx y hmy) hag
            have hl := hR.len
            have hcz : c.toList.length = c.size := by simp
            obtain ⟨_, q, _⟩ := spliceI_ok hsp hc2 hR h0
            obtain ⟨q1, q2⟩ := q h1
            have hn : (act.eval y).cells.toList.length = n := by omega
            refine store_into ho hS hF hb hvir (hwf z hal) he hc1 (unm0 _) hs hn (by omega) hone ?_ hk
            refine ⟨hvir, _, rfl, ?_, ?_⟩
            · rw [List.toList_toArray, List.append_assoc]; rw [hn] at q2; exact q2
            · rw [List.toList_toArray]; exact one_splice hc3 hone
          · exact h.elim
        · exact h.elim
      · rename_i z i k off il hv
        split at h
        · rename_i ty m k' get hb
          split at h
          · rename_i hkk
            simp only [Bool.and_eq_true] at hkk
            obtain rfl := Nat.eq_of_beq_eq_true hkk.1
            have hle' := Nat.le_of_ble_eq_true hkk.2
            obtain ⟨hi, h⟩ := below_hit h
            cases h
            have hal : hget st.hp z ≠ none := by rw [hb]; simp
            refine ⟨.write st z _ (.inr hal), rfl, fun r FP E act w K Q hwf hcov _ hS hx hk => ?_⟩
            obtain ⟨hd, he⟩ := rep_pe (hv ▸ hx x hmx)
            have hF := hcov z (.inr (.inl (mem_ins.2 (.inl rfl))))
            obtain ⟨hvir, c, fr, hc1, hfr, hsz, hcp, hc3, hget⟩ := blk_arr hS hF hb hi
            obtain ⟨hR, hone⟩ := cellsR (hx y hmy) hag
            have hl := hR.len
            have hn : (act.eval y).cells.toList.length = n := by omega
            have hcz : c.toList.length = c.size := by simp
            have hle : 0 + m * k ≤ c.size := by rw [hsz, Nat.zero_add]; exact Nat.mul_le_mul_right _ hcp
            have hseg := seg_le hi hle
            rw [Nat.zero_add] at hseg
            have hlen2 : (c.toList.take (i * k + off) ++ (act.eval y).cells.toList ++ c.toList.drop (i * k + off + n)).length = c.size := by rw [splice_len hn (by omega), hcz]
            refine store_into ho hS hF hb hvir (hwf z hal) he hc1 hfr hs hn (by omega) hone ?_ hk
            refine ⟨(hS.blk z _ hF hb).1, .inr ⟨hvir, _, fr, rfl, by rw [List.size_toArray, hlen2]; exact hfr, by rw [List.size_toArray, hlen2, hsz], hcp, by rw [List.toList_toArray]; exact one_splice hc3 hone, fun j hj => ?_⟩⟩
            have hseg2 := seg_le hj hle
            rw [Nat.zero_add] at hseg2
            have hlj : ((c.toList.drop (j * k)).take k).length = k := take_len (by omega)
            show Reps E (fit k (zipU (mux muxD (decide (j = i))) (splice (get i) off (cellsA (st.val y))) (get j))) _
            have hap : (c.toList.take (i * k + off) ++ (act.eval y).cells.toList ++ c.toList.drop (i * k + off + n)) = (c.toList.take (i * k + off) ++ ((act.eval y).cells.toList ++ c.toList.drop (i * k + off + n))) := List.append_assoc ..
            rw [List.toList_toArray, hap]
            by_cases e : j = i
            · subst e
              rw [seg_splice_in hn hle' (by omega)]
              exact zipU_fit (muxD_ok _) ((splice_len2 (by omega)).trans hlj) (by rw [decide_eq_true rfl]; simpa using splice_ok (hget j hi) hR)
            · have hne : j * k + k ≤ i * k + off ∨ i * k + off + n ≤ j * k := by
                rcases Nat.lt_or_gt_of_ne e with h | h
                · have := Nat.mul_le_mul_right k (show j + 1 ≤ i from h)
                  rw [Nat.add_mul, Nat.one_mul] at this
                  left; omega
                · have := Nat.mul_le_mul_right k (show i + 1 ≤ j from h)
                  rw [Nat.add_mul, Nat.one_mul] at this
                  right; omega
              rw [seg_splice_other hn hne (by omega)]
              exact zipU_fit (muxD_ok _) hlj (by rw [decide_eq_false e]; simpa using hget j hj)
          · exact h.elim
        · exact h.elim
      · exact h.elim
    · exact h.elim
  · exact h.elim
end
end Go.Proofs.YtamjnhpkmhbkcaaGreatDoor
