/-
  PART: an evaluator of the program's own code over values without memory: abstract values, abstract states, trees of ways. (Definitions alone.)
-/
import Derived.Test.YtdlghljhgbakjaaDoorEGM
namespace Go.Proofs.YtdlghljhgbakjaaDoor
open Go.RowKit

/-- What a computation answers that looks at no memory. -/
def semVal (P : Program) {α : Type} : Sem α → Option α
  | .pure a => some a
  | .program k => semVal P (k P)
  | .mark _ k => semVal P k
  | _ => none

/-- A value of one cell. -/
def one1 : Value → Bool
  | .agg _ => false
  | .tuple _ => false
  | _ => true
/-- Ways: a result, a fork by a truth, a condition owed, no answer. -/
inductive Tree (α : Type) : Type where
  | ret (a : α)
  | br (c : Bool) (t e : Tree α)
  | side (p : Prop) (t : Tree α)
  | fail
def Tree.bind {α β : Type} (f : α → Tree β) : Tree α → Tree β
  | .ret a => f a
  | .br c t e => .br c (t.bind f) (e.bind f)
  | .side p t => .side p (t.bind f)
  | .fail => .fail
def Tree.hit {α : Type} : Tree α → α → Prop
  | .ret a, b => a = b
  | .br c t e, b => (c = true ∧ t.hit b) ∨ (c = false ∧ e.hit b)
  | .side p t, b => p ∧ t.hit b
  | .fail, _ => False
/-- The conditions ahead of the first fork, and what is behind them. -/
def Tree.peel {α : Type} : Tree α → Option Prop × Tree α
  | .side p t => match t.peel with
    | (none, u) => (some p, u)
    | (some q, u) => (some (p ∧ q), u)
  | t => (none, t)
def Tree.need {α : Type} : Option Prop → Tree α → Tree α
  | none, t => t
  | some p, t => .side p t
def ofO {α : Type} : Option α → Tree α
  | some a => .ret a
  | none => .fail

/-- Abstract values. -/
inductive AV : Type where
  | lit (v : Value)                       -- a closed value of one cell
  | v (v : Value)                         -- any value of one cell
  | agg (l : List AV)
  | tup (l : List AV)
  | ptr (x off : Nat)                     -- into a tracked block
  | pti (x base : Nat) (i : Int) (str n off : Nat)   -- into a tracked block, at an open index
  | pe (x i k off : Nat) (il : Bool)      -- into an element of an owned row (il: closed numbers)
  | fz (cs : List AV) (off : Nat)         -- into cells that stay as they are
  | own (x n k : Nat) (nl : Bool)         -- an owned row, from its beginning
  | slv (x off n k : Nat)                 -- a slice of a tracked block's array
  | sl (n k : Nat) (get : Nat → List AV) (nl full : Bool)   -- a slice whose cells stay as they are
  | fn (f : Fn) (first cap : List AV)
  | any (φ : (Nat → Option (Array Value)) → Value → Prop)   -- a value of one cell of which that is so, by the cells that stay
  | unk
inductive Blk : Type where
  | fix (ty : TypeId) (cs : List AV)
  | arr (ty : TypeId) (n k : Nat) (get : Nat → List AV)
structure St : Type where
  sl : List (Nat × AV)
  hp : List (Nat × Option Blk)
  nx : Nat
  rd : List Nat        -- blocks that were looked at
  wr : List Nat        -- blocks that were written, made, let go
  ws : List Nat        -- slots written since the last fork
  wb : List Nat        -- blocks written since the last fork
  wc : List (Nat × Option (Nat × Nat)) := []   -- their cells: all, or so many from one on

def look : List (Nat × AV) → Nat → AV
  | [], _ => .unk
  | (k, a) :: l, d => match Nat.beq k d with
    | true => a
    | false => look l d
def hget : List (Nat × Option Blk) → Nat → Option Blk
  | [], _ => none
  | (k, a) :: l, d => match Nat.beq k d with
    | true => a
    | false => hget l d
def ins (x : Nat) (l : List Nat) : List Nat := match l.elem x with
  | true => l
  | false => x :: l
def uni : List Nat → List Nat → List Nat
  | [], m => m
  | x :: l, m => ins x (uni l m)
def constAV (v : Value) : AV := match v with
  | .agg cs => match cs.toList.all one1 with
    | true => .agg (cs.toList.map .lit)
    | false => .unk
  | .tuple _ => .unk
  | v => .lit v
/-- A package-level variable's place. -/
def gmA (g : Nat) : AV := match GM g with
  | some c => match c.toList.all one1 with
    | true => .fz (c.toList.map .lit) 0
    | false => .unk
  | none => .unk
def St.val (st : St) : Operand → AV
  | .tmp t => look st.sl t
  | .const v => constAV v
  | .func f => .fn (.func f) [] []
  | .global g => gmA g
def St.put (st : St) (d : Option Nat) (a : AV) : St := match d with
  | some d => { st with sl := (d, a) :: st.sl, ws := ins d st.ws }
  | none => st
def St.read (st : St) (x : Nat) : St := { st with rd := ins x st.rd }
def St.write (st : St) (x : Nat) (b : Option Blk) : St := { st with hp := (x, b) :: st.hp, rd := ins x st.rd, wr := ins x st.wr, wb := ins x st.wb, wc := (x, none) :: st.wc }
/-- Some cells of a block. -/
def St.writeAt (st : St) (x : Nat) (b : Option Blk) (off n : Nat) : St := { st.write x b with wc := (x, some (off, n)) :: st.wc }
/-- Is a cell of a block among those? -/
def cov (wc : List (Nat × Option (Nat × Nat))) (x j : Nat) : Bool := wc.any fun p => Nat.beq p.1 x && match p.2 with
  | none => true
  | some (o, n) => Nat.ble o j && Nat.blt j (o + n)
/-- A new block. -/
def St.new (st : St) (b : Blk) : St := { st.write st.nx (some b) with nx := st.nx + 1 }

/-! One of two, by a truth. -/
def scal : AV → Option (Value × Bool)
  | .lit v => some (v, true)
  | .v v => some (v, false)
  | _ => none
def eqV : Value → Value → Bool
  | .int k x, .int k' y => decide (k = k') && decide (x = y)
  | .bool x, .bool y => x == y
  | .string x, .string y => decide (x = y)
  | .complex k x y, .complex k' x' y' => decide (k = k') && decide (x = x') && decide (y = y')
  | .float k x, .float k' x' => decide (k = k') && decide (x = x')
  | .pointer none, .pointer none => true
  | .slice none 0 0, .slice none 0 0 => true
  | .map none, .map none => true
  | .nilFunc, .nilFunc => true
  | .nilIface, .nilIface => true
  | _, _ => false
def muxV (c : Bool) : Value → Value → Option Value
  | .int k x, .int k' y => match decide (k = k') with | true => some (.int k (if c = true then x else y)) | false => none
  | .bool x, .bool y => some (.bool (if c = true then x else y))
  | .string x, .string y => some (.string (if c = true then x else y))
  | .complex k x y, .complex k' x' y' => match decide (k = k') with | true => some (.complex k (if c = true then x else x') (if c = true then y else y')) | false => none
  | .float k x, .float k' x' => match decide (k = k') with | true => some (.float k (if c = true then x else x')) | false => none
  | _, _ => none
def isNilSl : Value → Bool
  | .slice none 0 0 => true
  | _ => false
/-- Certainly the same (told without looking at open terms). -/
def eqA : AV → AV → Bool
  | .ptr x o, .ptr y p => Nat.beq x y && Nat.beq o p
  | .lit v, .lit u => eqV v u
  | _, _ => false
def eqAs : List AV → List AV → Bool
  | [], [] => true
  | a :: l, b :: m => eqA a b && eqAs l m
  | _, _ => false
/-- A list of just k. -/
def fit : Nat → List AV → List AV
  | 0, _ => []
  | k + 1, [] => .unk :: fit k []
  | k + 1, a :: l => a :: fit k l
def zipO (f : AV → AV → Option AV) : List AV → List AV → Option (List AV)
  | [], [] => some []
  | a :: l, b :: m => match f a b, zipO f l m with
    | some x, some y => some (x :: y)
    | _, _ => none
  | _, _ => none
def zipU (f : AV → AV → Option AV) : List AV → List AV → List AV
  | a :: l, b :: m => (f a b).getD .unk :: zipU f l m
  | _, _ => []
def mux : Nat → Bool → AV → AV → Option AV
  | 0, _, _, _ => some .unk
  | d + 1, c, a, b => match scal a, scal b with
    | some (x, lx), some (y, ly) => match lx && ly && eqV x y with
      | true => some (.lit x)
      | false => match lx && ly, x, y with
        | true, .bool true, .bool false => some (.v (.bool c))
        | true, .bool false, .bool true => some (.v (.bool (!c)))
        | _, _, _ => match muxV c x y with
          | some z => some (.v z)
          | none => some .unk
    | _, _ => match a, b with
      | .agg l, .agg m => match zipO (mux d c) l m with
        | some r => some (.agg r)
        | none => none
      | .tup l, .tup m => match zipO (mux d c) l m with
        | some r => some (.tup r)
        | none => none
      | .ptr x o, .ptr y p => match Nat.beq x y && Nat.beq o p with
        | true => some (.ptr x o)
        | false => some .unk
      | .own x n k nl, .own y m k' _ => match Nat.beq x y && Nat.beq k k' with
        | true => some (.own x (if c = true then n else m) k nl)
        | false => none
      | .own .., _ => none
      | _, .own .. => none
      | .sl n k get _ full, .sl m k' get' _ full' => match Nat.beq k k' with
        | true => some (.sl (if c = true then n else m) k (fun i => fit k (zipU (mux d c) (get i) (get' i))) false (full && full'))
        | false => some .unk
      | .lit v, .sl m k get' _ full' => match isNilSl v with
        | true => some (.sl (if c = true then 0 else m) k get' false full')
        | false => some .unk
      | .sl n k get _ full, .lit v => match isNilSl v with
        | true => some (.sl (if c = true then n else 0) k get false full)
        | false => some .unk
      | .fz cs o, .fz cs' o' => match Nat.beq o o' with
        | true => match zipO (mux d c) cs cs' with
          | some r => some (.fz r o)
          | none => none
        | false => some .unk
      | .fn f a b, .fn f' a' b' => match decide (f = f') && eqAs a a' && eqAs b b' with
        | true => some (.fn f a b)
        | false => some .unk
      | .any φ, .any ψ => some (.any fun fz v => (c = true → φ fz v) ∧ (c = false → ψ fz v))
      | _, _ => some .unk
def muxD : Nat := 6
/-- Two rows of cells, those that were written joined. -/
def zipW (f : AV → AV → Option AV) (w : Nat → Bool) : Nat → List AV → List AV → Option (List AV)
  | _, [], [] => some []
  | i, a :: l, b :: m => match w i with
    | true => match f a b, zipW f w (i + 1) l m with
      | some x, some y => some (x :: y)
      | _, _ => none
    | false => match zipW f w (i + 1) l m with
      | some y => some (a :: y)
      | none => none
  | _, _, _ => none
def muxBlk (c : Bool) (w : Nat → Bool) : Option Blk → Option Blk → Option (Option Blk)
  | some (.fix ty cs), some (.fix ty' cs') => match Nat.beq ty ty' with
    | true => match zipW (mux muxD c) w 0 cs cs' with
      | some r => some (some (.fix ty r))
      | none => none
    | false => some none
  | some (.arr ty n k get), some (.arr ty' n' k' get') => match Nat.beq ty ty' && Nat.beq k k' with
    | true => some (some (.arr ty (if c = true then n else n') k (fun i => fit k (zipU (mux muxD c) (get i) (get' i)))))
    | false => some none
  | _, _ => some none
def muxSl (c : Bool) (l m : List (Nat × AV)) : List Nat → List (Nat × AV) → Option (List (Nat × AV))
  | [], r => some r
  | d :: ds, r => match mux muxD c (look l d) (look m d) with
    | some a => muxSl c l m ds ((d, a) :: r)
    | none => none
def muxHp (c : Bool) (w : Nat → Nat → Bool) (l m : List (Nat × Option Blk)) : List Nat → List (Nat × Option Blk) → Option (List (Nat × Option Blk))
  | [], r => some r
  | x :: xs, r => match muxBlk c (w x) (hget l x) (hget m x) with
    | some b => muxHp c w l m xs ((x, b) :: r)
    | none => none
def noFix : Option Blk → Bool
  | some (.fix _ _) => false
  | _ => true
/-- Two states that come of one, as one. -/
def mergeS (c : Bool) (s0 s1 s2 : St) : Option St :=
  match muxSl c s1.sl s2.sl (uni s1.ws s2.ws) s0.sl, muxHp c (fun x j => cov s1.wc x j || cov s2.wc x j) s1.hp s2.hp (uni s1.wb s2.wb) s0.hp with
  | some sl, some hp => some { sl, hp, nx := Nat.max s1.nx s2.nx, rd := uni s1.rd s2.rd, wr := uni s1.wr s2.wr, ws := uni s0.ws (uni s1.ws s2.ws), wb := uni s0.wb (uni s1.wb s2.wb), wc := ((uni s1.wb s2.wb).filter fun x => noFix (hget s0.hp x)).map (fun x => (x, none)) ++ (s1.wc ++ (s2.wc ++ s0.wc)) }
  | _, _ => none
def St.forked (s : St) : St := { s with ws := [], wb := [], wc := [] }
/-- Where a way leaves a piece of code. -/
inductive Ex where
  | norm
  | exit (id : Nat)
  | goto (l : Nat)
  | ret
  deriving DecidableEq
def eqEx : Ex → Ex → Bool
  | .norm, .norm => true
  | .exit a, .exit b => Nat.beq a b
  | .goto a, .goto b => Nat.beq a b
  | .ret, .ret => true
  | _, _ => false
def reFork (s0 : St) : Tree (Ex × St) → Tree (Ex × St)
  | .ret (x, s) => .ret (x, { s with ws := uni s0.ws s.ws, wb := uni s0.wb s.wb, wc := s.wc ++ s0.wc })
  | .br c t e => .br c (reFork s0 t) (reFork s0 e)
  | .side p t => .side p (reFork s0 t)
  | .fail => .fail
def joinT (c : Bool) (s0 : St) (t e : Tree (Ex × St)) : Tree (Ex × St) :=
  match t, e with
  | .ret (x, s1), .ret (y, s2) => match eqEx x y with
    | true => match mergeS c s0 s1 s2 with
      | some s => .ret (x, s)
      | none => .br c (reFork s0 t) (reFork s0 e)
    | false => .br c (reFork s0 t) (reFork s0 e)
  | _, _ => .br c (reFork s0 t) (reFork s0 e)
/-- A fork, its ways joined where that can be. -/
def forkT (c : Bool) (s0 : St) (t e : Tree (Ex × St)) : Tree (Ex × St) :=
  match t.peel, e.peel with
  | (none, u), (none, v) => joinT c s0 u v
  | (some p, u), (none, v) => .side (c = true → p) (joinT c s0 u v)
  | (none, u), (some q, v) => .side (c = false → q) (joinT c s0 u v)
  | (some p, u), (some q, v) => .side ((c = true → p) ∧ (c = false → q)) (joinT c s0 u v)
/-- A fork whose way may be known: then that is owed. -/
def decT (d : Option Bool) (c : Bool) (s0 : St) (t e : Tree (Ex × St)) : Tree (Ex × St) := match d with
  | none => forkT c s0 t e
  | some true => .side (c = true) (reFork s0 t)
  | some false => .side (c = false) (reFork s0 e)
end Go.Proofs.YtdlghljhgbakjaaDoor
