/- An abstract machine over the model's code: values and memory with names in place of block numbers; definitions. -/
import Derived.WalkKit
import Derived.Orders
import Derived.KernelRfl
set_option linter.unusedVariables false
namespace Go.Sx

/-! ### tries -/
inductive Tr (α : Type) where
  | e
  | n (l : Tr α) (x : Option α) (r : Tr α)

namespace Tr
variable {α : Type}
def left : Tr α → Tr α | .e => .e | .n l _ _ => l
def right : Tr α → Tr α | .e => .e | .n _ _ r => r
def root : Tr α → Option α | .e => none | .n _ x _ => x

def getF : Nat → Tr α → Nat → Option α
  | 0, _, _ => none
  | f + 1, t, k =>
    match t with
    | .e => none
    | .n l x r => cond (Nat.beq k 0) x (cond (Nat.beq (Nat.mod k 2) 1) (getF f l (Nat.div k 2)) (getF f r (Nat.sub (Nat.div k 2) 1)))
def setF : Nat → Tr α → Nat → Option α → Tr α
  | 0, t, _, _ => t
  | f + 1, t, k, v =>
    cond (Nat.beq k 0) (.n t.left v t.right)
      (cond (Nat.beq (Nat.mod k 2) 1) (.n (setF f t.left (Nat.div k 2) v) t.root t.right) (.n t.left t.root (setF f t.right (Nat.sub (Nat.div k 2) 1) v)))
def get (t : Tr α) (k : Nat) : Option α := getF 24 t k
def set (t : Tr α) (k : Nat) (v : α) : Tr α := setF 24 t k (some v)
def del (t : Tr α) (k : Nat) : Tr α := setF 24 t k none
end Tr

/-! ### abstract values -/
/-- A column of a table: what stands there in each row. -/
inductive Col where
  | int (k : IntKind) (f : Nat → Int)
  | str (f : Nat → List UInt8)
  | bool (f : Nat → Bool)
def Col.val : Col → Nat → Value
  | .int k f, i => .int k (f i)
  | .str f, i => .string ⟨(f i).toArray⟩
  | .bool f, i => .bool (f i)

inductive AV where
  | v (x : Value)                     -- a value that holds no address of the abstract memory
  | str (b : List UInt8)
  | p (id i j : Nat)                  -- cell j of element i of block id
  | s (id j len cap : Nat)            -- a slice of block id from its cell j on
  | f (fn : Nat) (cap : List AV)      -- a function value
  | a (cs : List AV)                  -- a struct or an array: its cells
  | t (cs : List AV)                  -- a tuple
  | m (id : Nat)                      -- a map
  | rows (cs : List Col) (n : Nat)    -- an array, told by columns
  | sl (id : Nat)                     -- a slice that is told as a view
  deriving Inhabited

abbrev AV.i (k : IntKind) (n : Int) : AV := .v (.int k n)
abbrev AV.b (x : Bool) : AV := .v (.bool x)

inductive AObj where
  | cells (cs : List AV)              -- known cells, which may be written
  | ro (cs : List AV)                 -- known cells, only read
  | map (es : List (AV × AV))         -- a map's entries
  | rows (cs : List Col) (n : Nat) (ro : Bool) -- known rows
  | view (oid off len : Nat)          -- of a slice: rows of a block
  | dead

/-- Where a block of the abstract memory lies. -/
structure Loc where
  blk : Nat
  base : Nat
  esz : Nat
  len : Nat := 0
  cap : Nat := 0
  nil : Bool := false
abbrev Loc.new (b : Nat) : Loc := { blk := b, base := 0, esz := 1 }
def Loc.slice (l : Loc) : Value :=
  match l.nil with
  | true => .slice none 0 0
  | false => .slice (some ⟨l.blk, l.base, none⟩) l.len l.cap
def rowV (cs : List Col) (i : Nat) : List Value := cs.map (·.val i)
def rowsV (cs : List Col) (n : Nat) : List Value := (List.range n).flatMap (rowV cs)
def Col.av : Col → Nat → AV
  | .int k f, i => .v (.int k (f i))
  | .str f, i => .str (f i)
  | .bool f, i => .v (.bool (f i))
def rowA (cs : List Col) (i : Nat) : List AV := cs.map (·.av i)

mutual
def conc (ρ : Nat → Loc) : AV → Value
  | .v x => x
  | .str b => .string ⟨b.toArray⟩
  | .p id i j => .pointer (some ⟨(ρ id).blk, (ρ id).base + i * (ρ id).esz + j, none⟩)
  | .s id j len cap => .slice (some ⟨(ρ id).blk, (ρ id).base + j, none⟩) len cap
  | .f fn cap => .func (.func fn) #[] (concL ρ cap).toArray
  | .a cs => .agg (concL ρ cs).toArray
  | .t cs => .tuple (concL ρ cs).toArray
  | .m id => .map (some (ρ id).blk)
  | .rows cs n => .agg (rowsV cs n).toArray
  | .sl id => (ρ id).slice
def concL (ρ : Nat → Loc) : List AV → List Value
  | [] => []
  | x :: xs => conc ρ x :: concL ρ xs
end

def AV.cells : AV → List AV
  | .a cs => cs
  | .v (.agg cs) => cs.toList.map .v
  | .rows cs n => (rowsV cs n).map .v
  | x => [x]

/-- A value that lies in one cell. -/
def AV.one : AV → Bool
  | .a _ | .t _ | .rows _ _ => false
  | .v (.agg _) | .v (.tuple _) => false
  | _ => true
def allOne : List AV → Bool
  | [] => true
  | x :: l => cond x.one (allOne l) false

/-- A value of the program's text. -/
def ofScalar : Value → AV
  | .string s => .str s.data.toList
  | x => .v x
def ofValue : Value → AV
  | .agg cs => .a (cs.toList.map ofScalar)
  | x => ofScalar x

/-! ### outcomes -/
inductive R (α : Type) where
  | ret (a : α)
  | br (b : Bool) (t e : R α)
  | req (p : Prop) (k : R α)
  | any (lo : Nat) (k : Nat → R α)
  | look (id : Nat) (k : Option AObj → R α)
  | bad (why : String)
  deriving Inhabited

namespace R
variable {α β : Type}
def bind : R α → (α → R β) → R β
  | ret a, f => f a
  | br b t e, f => br b (bind t f) (bind e f)
  | req p k, f => req p (bind k f)
  | any lo k, f => any lo fun n => bind (k n) f
  | look id k, f => look id fun o => bind (k o) f
  | bad w, _ => bad w
def ofOpt (w : String) : Option α → R α
  | some a => ret a
  | none => bad w
/-- What is looked up in a memory, and which blocks. 'q': where the order is open, nothing may be left to choice. -/
def run (q : Bool) (m : Tr AObj) : R α → List Nat → R (α × List Nat)
  | ret a, ids => ret (a, ids)
  | br b t e, ids => br b (run q m t ids) (run q m e ids)
  | req p k, ids => req p (run q m k ids)
  | any lo k, ids => match q with
    | true => bad "any"
    | false => any lo fun n => run q m (k n) ids
  | look id k, ids => match m.get id with
    | some o => run q m (k (some o)) (id :: ids)
    | none => bad "no such block"
  | bad w, _ => bad w
def holds : R α → (α → Prop) → Prop
  | ret a, Q => Q a
  | br b t e, Q => (b = true → holds t Q) ∧ (b = false → holds e Q)
  | req p k, Q => p ∧ holds k Q
  | any lo k, Q => ∀ n, lo ≤ n → holds (k n) Q
  | look _ _, _ => False
  | bad _, _ => False
end R

structure St where
  tm : Tr AV
  mem : Tr AObj
  nx : Nat
  /-- slots whose test has been decided: no second parting of ways there -/
  dec : List Nat

/-- What an operation does: the value of its slot, blocks written or made. -/
structure Out where
  val : AV
  wr : List (Nat × AObj)

inductive Ex where
  | normal
  | exit (id : Nat)
  | ret

structure Env where
  P : Program
  n : Nat
  /-- slots at whose tests both ways are taken -/
  sym : List Nat
  calls : Nat → List AV → Nat → Option (R Out)
  inl : Nat → List AV → Tr AObj → Nat → Option (R (AV × Tr AObj × Nat))
  loops : Nat → St → Option (R (Ex × St))
  fuel : Nat
  /-- the blocks that the caller knows: those of the names below np -/
  np : Nat := 0
  /-- types of arrays that are told by columns -/
  rowT : List Nat := []

def memN (x : Nat) : List Nat → Bool
  | [] => false
  | y :: l => cond (Nat.beq x y) true (memN x l)

def opnd (tm : Tr AV) : Operand → Option AV
  | .tmp t => tm.get t
  | .const v => some (ofValue v)
  | .func f => some (.f f [])
  | .global _ => none

def opnds (tm : Tr AV) : List Operand → Option (List AV)
  | [] => some []
  | x :: l => match opnd tm x, opnds tm l with
    | some v, some vs => some (v :: vs)
    | _, _ => none

def lnth {α : Type} : List α → Nat → Option α
  | [], _ => none
  | x :: _, 0 => some x
  | _ :: l, n + 1 => lnth l n
def ldrop {α : Type} : Nat → List α → List α
  | 0, l => l
  | n + 1, l => ldrop n l.tail
def ltake {α : Type} : Nat → List α → Option (List α)
  | 0, _ => some []
  | _ + 1, [] => none
  | n + 1, x :: l => (ltake n l).map (x :: ·)
/-- 'new' in the place of what stands from 'off' on. -/
def lput {α : Type} : List α → Nat → List α → Option (List α)
  | l, 0, new => match new with
    | [] => some l
    | y :: new => match l with
      | [] => none
      | _ :: l => (lput l 0 new).map (y :: ·)
  | x :: l, n + 1, new => (lput l n new).map (x :: ·)
  | [], _ + 1, _ => none

def ikEq (a b : IntKind) : Bool := Nat.beq a.ctorIdx b.ctorIdx

def isAggD : TypeDesc → Bool
  | .struct _ | .array _ _ => true
  | _ => false

section
variable (P : Program)

/-- The part of a type's size from 'off' on. -/
def apart (t : TypeId) (cs : List AV) (off : Nat) : Option AV :=
  match P.underlying t, P.info? t with
  | some d, some i => match isAggD d with
    | true => (ltake i.size (ldrop off cs)).map .a
    | false => lnth cs off
  | _, _ => none

def azero (t : TypeId) : Option AV :=
  match P.info? t with
  | some i => i.zero.map ofValue
  | none => none

def asz (t : TypeId) : Option Nat := (P.info? t).map (·.size)

def acells (o : Option AObj) : Option (List AV) :=
  match o with
  | some (.cells cs) => some cs
  | some (.ro cs) => some cs
  | _ => none

/-- Whole numbers, bools, strings: an operator's value. -/
def asimple (r : Sem Value) : Option AV :=
  match r with
  | .pure v => some (ofValue v)
  | _ => none

def afill (place : Nat → Option (Nat × Nat)) (cells : List AV) : List (Nat × AV) → Option (List AV)
  | [] => some cells
  | (i, x) :: rest => match place i with
    | none => none
    | some (off, size) => match Nat.beq x.cells.length size && Nat.ble (off + size) cells.length with
      | false => none
      | true => match lput cells off x.cells with
        | none => none
        | some cs => afill place cs rest

def bnd (x : AV) : Option Int :=
  match x with
  | .v (.int _ n) => some n
  | _ => none

end
/-! ### operations -/
def needR {α : Type} (sy : Bool) (p : Prop) [Decidable p] (k : R α) : R α :=
  match sy with
  | true => .req p k
  | false => match decide p with
    | true => k
    | false => .bad "need"

def iAnd (k : IntKind) (x y : Int) : Int := k.wrap ((BitVec.ofInt k.bits x) &&& (BitVec.ofInt k.bits y)).toNat
def iOr (k : IntKind) (x y : Int) : Int := k.wrap ((BitVec.ofInt k.bits x) ||| (BitVec.ofInt k.bits y)).toNat
def iXor (k : IntKind) (x y : Int) : Int := k.wrap ((BitVec.ofInt k.bits x) ^^^ (BitVec.ofInt k.bits y)).toNat
def iAndNot (k : IntKind) (x y : Int) : Int := k.wrap ((BitVec.ofInt k.bits x) &&& ~~~(BitVec.ofInt k.bits y)).toNat
def iShl (k : IntKind) (x y : Int) : Int := k.wrap (x * 2 ^ (min y.toNat k.bits))
def iShr (k : IntKind) (x y : Int) : Int := x.fdiv (2 ^ (min y.toNat k.bits))

def aint (sy : Bool) (op : BinOp) (k : IntKind) (x y : Int) : R AV :=
  match op with
  | .add => .ret (.i k (k.wrap (x + y)))
  | .sub => .ret (.i k (k.wrap (x - y)))
  | .mul => .ret (.i k (k.wrap (x * y)))
  | .quo => needR sy (¬ y = 0) (.ret (.i k (k.wrap (x.tdiv y))))
  | .rem => needR sy (¬ y = 0) (.ret (.i k (x.tmod y)))
  | .and => .ret (.i k (iAnd k x y))
  | .or => .ret (.i k (iOr k x y))
  | .xor => .ret (.i k (iXor k x y))
  | .andNot => .ret (.i k (iAndNot k x y))
  | .eql => .ret (.b (x == y))
  | .neq => .ret (.b (x != y))
  | .lss => .ret (.b (decide (x < y)))
  | .leq => .ret (.b (decide (x ≤ y)))
  | .gtr => .ret (.b (decide (x > y)))
  | .geq => .ret (.b (decide (x ≥ y)))
  | .shl => .bad "shl"
  | .shr => .bad "shr"

def astr (sy : Bool) (op : BinOp) (x y : List UInt8) : R AV :=
  match op with
  | .add => needR sy (x.length + y.length ≤ 9223372036854775807) (.ret (.str (x ++ y)))
  | .eql => .ret (.b (x == y))
  | .neq => .ret (.b !(x == y))
  | _ => .bad "string operator"

section
variable (P : Program)
def eqFields (eq : TypeId → AV → AV → Option Bool) (xs ys : List AV) : List Field → Option Bool
  | [] => some true
  | f :: fs => match f.name == "_" with
    | true => none
    | false => match apart P f.type xs f.offset, apart P f.type ys f.offset with
      | some u, some v => match eq f.type u v, eqFields eq xs ys fs with
        | some b, some c => some (b && c)
        | _, _ => none
      | _, _ => none
def eqElems (eq : TypeId → AV → AV → Option Bool) (e n : Nat) (xs ys : List AV) (i : Nat) : Nat → Option Bool
  | 0 => some true
  | k + 1 => match apart P e xs (i * n), apart P e ys (i * n) with
    | some u, some v => match eq e u v, eqElems eq e n xs ys (i + 1) k with
      | some b, some c => some (b && c)
      | _, _ => none
    | _, _ => none
def aequal : Nat → TypeId → AV → AV → Option Bool
  | 0, _, _, _ => none
  | d + 1, t, x, y =>
    match P.underlying t, x, y with
    | some .bool, .v (.bool a), .v (.bool b) => some (a == b)
    | some (.int _), .v (.int k a), .v (.int k' b) => match ikEq k k' with
      | true => some (a == b)
      | false => none
    | some .string, .str a, .str b => some (a == b)
    | some (.struct fs), .a xs, .a ys =>
      match P.stoodInHeld t with
      | true => none
      | false => eqFields P (aequal d) xs ys fs.toList
    | some (.array len e), .a xs, .a ys =>
      match asz P e with
      | none => none
      | some n => eqElems P (aequal d) e n xs ys 0 len
    | _, _, _ => none

def abin0 (sy : Bool) (op : BinOp) (t : TypeId) (x y : AV) : R AV :=
  match x, y with
  | .v (.int k a), .v (.int k' b) =>
    match op with
    | .shl => needR sy (¬ b < 0) (.ret (.i k (iShl k a b)))
    | .shr => needR sy (¬ b < 0) (.ret (.i k (iShr k a b)))
    | op => match ikEq k k' with
      | true => aint sy op k a b
      | false => .bad "kinds"
  | .str a, .str b => astr sy op a b
  | .v (.bool a), .v (.bool b) => match op with
    | .eql => match aequal P 1 t x y with
      | some c => .ret (.b c)
      | none => .bad "equal"
    | .neq => match aequal P 1 t x y with
      | some c => .ret (.b !c)
      | none => .bad "equal"
    | _ => .bad "binop"
  | .a xs, .a ys =>
    match P.eqGuardType P.depth t with
    | true => .bad "eqGuard"
    | false => match op with
      | .eql => match aequal P 10 t (.a xs) (.a ys) with
        | some c => .ret (.b c)
        | none => .bad "equal"
      | .neq => match aequal P 10 t (.a xs) (.a ys) with
        | some c => .ret (.b !c)
        | none => .bad "equal"
      | _ => .bad "binop"
  | _, _ => .bad "binop"

/-- An array told by a column, cell by cell. -/
def unr : AV → AV
  | .rows [c] n => .a ((List.range n).map c.av)
  | x => x
def abin (sy : Bool) (op : BinOp) (t : TypeId) (x y : AV) : R AV := abin0 P sy op t (unr x) (unr y)

def bytesOf : List AV → Option (List UInt8)
  | [] => some []
  | .v (.int .u8 n) :: l => (bytesOf l).map (UInt8.ofNat n.toNat :: ·)
  | _ => none

def ofBytes (b : List UInt8) : List AV := b.map fun c => .i .u8 c.toNat

/-- The cells from 'off' on, n of them, of a looked up block. -/
def cellsAt (o : Option AObj) (off n : Nat) : Option (List AV) :=
  match acells o with
  | some cs => ltake n (ldrop off cs)
  | none => none

def aconv (nid : Nat) (src dst : TypeId) (x : AV) : R Out :=
  match P.underlying src, P.underlying dst, x with
  | some _, some (.int k), .v (.int _ n) => .ret ⟨.i k (k.wrap n), []⟩
  | some _, some .string, .str b => .ret ⟨.str b, []⟩
  | some .string, some (.slice e), .str b => match P.underlying e with
    | some (.int .u8) => .any b.length fun c => .ret ⟨.s nid 0 b.length c, [(nid, .cells (ofBytes b))]⟩
    | _ => .bad "convert"
  | some (.slice e), some .string, .s id j len _ => match P.underlying e with
    | some (.int .u8) => .look id fun o => match cellsAt o j len with
      | some cs => match bytesOf cs with
        | some b => .ret ⟨.str b, []⟩
        | none => .bad "bytes"
      | none => .bad "cells"
    | _ => .bad "convert"
  | _, _, _ => .bad "convert"

/-! tables -/
def Col.shift (c : Col) (i : Nat) : Col :=
  match c with
  | .int k f => .int k fun q => f (q + i)
  | .str f => .str fun q => f (q + i)
  | .bool f => .bool fun q => f (q + i)
def Col.over (c c' : Col) (i m : Nat) : Option Col :=
  match c, c' with
  | .int k f, .int k' f' => match ikEq k k' with
    | true => some (.int k fun q => if i ≤ q ∧ q < i + m then f' (q - i) else f q)
    | false => none
  | _, _ => none
def Col.put (c : Col) (i : Nat) (x : AV) : Option Col :=
  match c, x with
  | .int k f, .v (.int k' y) => match ikEq k k' with
    | true => some (.int k fun q => if q = i then y else f q)
    | false => none
  | .str f, .str b => some (.str fun q => if q = i then b else f q)
  | .bool f, .v (.bool b) => some (.bool fun q => if q = i then b else f q)
  | _, _ => none
def putCols (i : Nat) : List Col → Nat → List AV → Option (List Col)
  | cs, 0, [] => some cs
  | c :: cs, 0, x :: xs => match c.put i x, putCols i cs 0 xs with
    | some c, some cs => some (c :: cs)
    | _, _ => none
  | c :: cs, j + 1, xs => match putCols i cs j xs with
    | some cs => some (c :: cs)
    | none => none
  | _, _, _ => none
def intK : List AV → Option IntKind
  | .v (.int k _) :: _ => some k
  | _ => none
def allK (k : IntKind) : List AV → Bool
  | [] => true
  | .v (.int k' _) :: l => match ikEq k k' with
    | true => allK k l
    | false => false
  | _ => false
def nthI : List AV → Nat → Int
  | .v (.int _ n) :: l, i => match i with
    | 0 => n
    | i + 1 => nthI l i
  | _, _ => 0
def allZ (k : IntKind) : List AV → Bool
  | [] => true
  | .v (.int k' n) :: l => match ikEq k k', n with
    | true, .ofNat 0 => allZ k l
    | _, _ => false
  | _ => false
def zeroCol (cs : List AV) : Option Col :=
  match intK cs with
  | some k => match allZ k cs with
    | true => some (.int k fun _ => 0)
    | false => none
  | none => none
/-- An array's value of m whole numbers as a column. -/
def toCol (m : Nat) (v : AV) : Option Col :=
  match v with
  | .rows [.int k f] n => match Nat.beq n m with
    | true => some (.int k f)
    | false => none
  | .a cs => match intK cs, Nat.beq cs.length m with
    | some k, true => match allK k cs with
      | true => some (.int k (nthI cs))
      | false => none
    | _, _ => none
  | _ => none
def isArr (t : TypeId) : Bool :=
  match P.underlying t with
  | some (.array _ _) => true
  | _ => false

def rload (t : TypeId) (cs : List Col) (n i j : Nat) : R Out :=
  match isArr P t, asz P t with
  | true, some m => match cs, j, Nat.blt 0 m with
    | [c], 0, true => .req (i + m ≤ n) (.ret ⟨.rows [c.shift i] m, []⟩)
    | _, _, _ => .bad "load: array"
  | false, some _ => .req (i < n) (match apart P t (rowA cs i) j with
    | some v => .ret ⟨v, []⟩
    | none => .bad "load: row")
  | _, none => .bad "load: type"
def rstore (id : Nat) (t : TypeId) (cs : List Col) (n : Nat) (i j : Nat) (v : AV) : R Out :=
  match isArr P t, asz P t with
  | true, some m => match cs, j, Nat.blt 0 m, toCol m v with
    | [c], 0, true, some c' => match Nat.beq m n with
      | true => .req (i = 0) (.ret ⟨.v undef, [(id, .rows [c'] n false)]⟩)
      | false => match c.over c' i m with
        | some c'' => .req (i + m ≤ n) (.ret ⟨.v undef, [(id, .rows [c''] n false)]⟩)
        | none => .bad "store: kinds"
    | _, _, _, _ => .bad "store: array"
  | false, some m => match Nat.beq v.cells.length m, putCols i cs j v.cells with
    | true, some cs' => .req (i < n) (.ret ⟨.v undef, [(id, .rows cs' n false)]⟩)
    | _, _ => .bad "store: row"
  | _, none => .bad "store: type"

def aload (t : TypeId) (x : AV) : R Out :=
  match x with
  | .p id i j => .look id fun o => match o with
    | some (.rows cs n _) => rload P t cs n i j
    | o => match i, acells o with
      | 0, some cs => match apart P t cs j with
        | some v => .ret ⟨v, []⟩
        | none => .bad "load"
      | _, _ => .bad "load: block"
  | _ => .bad "load: pointer"

def astore (t : TypeId) (x v : AV) : R Out :=
  match x with
  | .p id i j => .look id fun o => match o with
    | some (.rows cs n false) => rstore P id t cs n i j v
    | some (.cells cs) => match i, asz P t with
      | 0, some n => match Nat.beq v.cells.length n with
        | true => match allOne v.cells, lput cs j v.cells with
          | true, some cs' => .ret ⟨.v undef, [(id, .cells cs')]⟩
          | _, _ => .bad "store: out"
        | false => .bad "store: size"
      | _, _ => .bad "store: type"
    | _ => .bad "store: block"
  | _ => .bad "store: pointer"

def mulN (k n : Nat) : Nat := cond (Nat.beq n 1) k (k * n)
def indexN (sy : Bool) (i : Int) (len : Nat) (k : Nat → R Out) : R Out :=
  needR sy (0 ≤ i ∧ i < (len : Int)) (k i.toNat)

def aindexAddr (sy : Bool) (t : TypeId) (x ix : AV) : R Out :=
  match P.underlying t, x, ix with
  | some (.array len e), .p id i j, .v (.int _ x) => match asz P e with
    | some n => .look id fun o => match o with
      | some (.rows [_] _ _) => match j with
        | 0 => indexN sy x len fun k => .ret ⟨.p id (mulN k n + i) 0, []⟩
        | _ => .bad "indexAddr: row"
      | some (.cells _) | some (.ro _) => match i with
        | 0 => indexN sy x len fun k => .ret ⟨.p id 0 (j + k * n), []⟩
        | _ => .bad "indexAddr: cells"
      | _ => .bad "indexAddr: block"
    | none => .bad "indexAddr"
  | some (.slice e), .s id j len _, .v (.int _ i) => match asz P e with
    | some n => indexN sy i len fun k => .ret ⟨.p id 0 (j + k * n), []⟩
    | none => .bad "indexAddr"
  | _, _, _ => .bad "indexAddr"

def aindex (sy : Bool) (t : TypeId) (x ix : AV) : R Out :=
  match P.underlying t, x, ix with
  | some (.array len e), .a cs, .v (.int _ i) => match asz P e with
    | some n => indexN sy i len fun k => match apart P e cs (k * n) with
      | some v => .ret ⟨v, []⟩
      | none => .bad "index"
    | none => .bad "index"
  | some (.array len e), .rows [c] n, .v (.int _ i) => match asz P e with
    | some m => match Nat.beq n (len * m), Nat.blt 0 m with
      | true, true => match isArr P e with
        | true => indexN sy i len fun k => .ret ⟨.rows [c.shift (mulN k m)] m, []⟩
        | false => match Nat.beq m 1 with
          | true => match (match P.underlying e with | some d => isAggD d | none => true) with
            | false => indexN sy i len fun k => .ret ⟨c.av k, []⟩
            | true => .bad "index"
          | false => .bad "index"
      | _, _ => .bad "index"
    | none => .bad "index"
  | some .string, .str b, .v (.int _ i) => indexN sy i b.length fun k => .ret ⟨.i .u8 (b.getD k 0).toNat, []⟩
  | _, _, _ => .bad "index"

def afieldAddr (t : TypeId) (x : AV) (f : Nat) : R Out :=
  match P.underlying t, x with
  | some (.struct fs), .p id i j => match fs[f]? with
    | some fd => match asz P fd.type with
      | some 0 => .bad "fieldAddr: empty"
      | some _ => .ret ⟨.p id i (j + fd.offset), []⟩
      | none => .bad "fieldAddr"
    | none => .bad "fieldAddr"
  | _, _ => .bad "fieldAddr"

def afield (t : TypeId) (x : AV) (f : Nat) : R Out :=
  match P.underlying t, x with
  | some (.struct fs), .a cs => match fs[f]? with
    | some fd => match apart P fd.type cs fd.offset with
      | some v => .ret ⟨v, []⟩
      | none => .bad "field"
    | none => .bad "field"
  | _, _ => .bad "field"

def abound (sy : Bool) (x : Option AV) (y d : Nat) (k : Nat → R Out) : R Out :=
  match x with
  | none => k d
  | some (.v (.int _ i)) => needR sy (0 ≤ i ∧ i ≤ (y : Int)) (k i.toNat)
  | _ => .bad "bound"

def aslice (sy : Bool) (t : TypeId) (x : AV) (lo hi mx : Option AV) : R Out :=
  match P.underlying t, x, mx with
  | some .string, .str b, none =>
    abound sy hi b.length b.length fun h => abound sy lo h 0 fun l => .ret ⟨.str ((b.take h).drop l), []⟩
  | some (.array n e), .p id 0 j, none => match asz P e with
    | some sz => abound sy hi n n fun h => abound sy lo h 0 fun l => match Nat.beq l n with
      | true => .bad "slice: at the end"
      | false => .ret ⟨.s id (j + l * sz) (h - l) (n - l), []⟩
    | none => .bad "slice"
  | some (.slice e), .s id j len cap, none => match asz P e with
    | some sz => abound sy hi cap len fun h => abound sy lo h 0 fun l => match Nat.beq l 0 with
      | true => .ret ⟨.s id j h cap, []⟩
      | false => match Nat.beq l cap with
        | true => .bad "slice: at the end"
        | false => .ret ⟨.s id (j + l * sz) (h - l) (cap - l), []⟩
    | none => .bad "slice"
  | _, _, _ => .bad "slice"

def abuiltin (b : Builtin) (ats : Array TypeId) (args : List AV) : R Out :=
  match b, args with
  | .len, [x] => match (lnth ats.toList 0).bind P.underlying, x with
    | some .string, .str s => .ret ⟨.i .i64 s.length, []⟩
    | some (.array n _), _ => .ret ⟨.i .i64 n, []⟩
    | some (.slice _), .s _ _ n _ => .ret ⟨.i .i64 n, []⟩
    | some (.slice _), .v (.slice _ n _) => .ret ⟨.i .i64 n, []⟩
    | _, _ => .bad "len"
  | .min, [.v (.int k x), .v (.int _ y)] => .ret ⟨.i k (if y < x then y else x), []⟩
  | .max, [.v (.int k x), .v (.int _ y)] => .ret ⟨.i k (if x < y then y else x), []⟩
  | _, _ => .bad "builtin"

def amake (nid : Nat) (t : TypeId) (l c : AV) : R Out :=
  match P.underlying t, l, c with
  | some (.slice e), .v (.int _ n), .v (.int _ m) => match P.info? e, azero P e with
    | some i, some z => match decide (0 ≤ n ∧ n ≤ m ∧ m * i.bytes ≤ 140737488355328 ∧ m < 9223372036854775808) with
      | true => match Nat.beq i.size z.cells.length with
        | true => .ret ⟨.s nid 0 n.toNat m.toNat, [(nid, .cells ((List.replicate m.toNat z.cells).flatten))]⟩
        | false => .bad "make"
      | false => .bad "make"
    | _, _ => .bad "make"
  | _, _, _ => .bad "make"

/-- Are two keys one? Whole numbers and strings alone. -/
def keySame (t : TypeId) (x y : AV) : Option Bool :=
  match P.underlying t, x, y with
  | some (.int _), .v (.int k a), .v (.int k' b) => match ikEq k k' with
    | true => some (a == b)
    | false => none
  | some .string, .str a, .str b => some (a == b)
  | _, _, _ => none
def findE (t : TypeId) (k : AV) : List (AV × AV) → Nat → Option (Option (Nat × AV))
  | [], _ => some none
  | e :: es, i => match keySame P t k e.1 with
    | some b => match b with
      | true => some (some (i, e.2))
      | false => findE t k es (i + 1)
    | none => none
def setE (k v : AV) : List (AV × AV) → Nat → List (AV × AV)
  | [], _ => []
  | _ :: es, 0 => (k, v) :: es
  | e :: es, i + 1 => e :: setE k v es i
def amapUpdate (t : TypeId) (m k v : AV) : R Out :=
  match P.underlying t, m with
  | some (.map kt _), .m id => .look id fun o => match o with
    | some (.map es) => match keySame P kt k k, findE P kt k es 0 with
      | some _, some (some (i, _)) => .ret ⟨.v undef, [(id, .map (setE k v es i))]⟩
      | some _, some none => .ret ⟨.v undef, [(id, .map (es ++ [(k, v)]))]⟩
      | _, _ => .bad "key"
    | _ => .bad "map"
  | _, _ => .bad "map"
def alookup (t : TypeId) (m k : AV) (ok : Bool) : R Out :=
  match P.underlying t, m with
  | some (.map kt et), .m id => .look id fun o => match o with
    | some (.map es) => match keySame P kt k k, findE P kt k es 0, azero P et with
      | some _, some (some (_, v)), some _ => .ret ⟨match ok with | true => .t [v, .b true] | false => v, []⟩
      | some _, some none, some z => .ret ⟨match ok with | true => .t [z, .b false] | false => z, []⟩
      | _, _, _ => .bad "key"
    | _ => .bad "map"
  | _, _ => .bad "map"
end

def evParts (ev : Operand → Option AV) : List (Nat × Operand) → Option (List (Nat × AV))
  | [] => some []
  | (i, x) :: l => match ev x, evParts ev l with
    | some v, some vs => some ((i, v) :: vs)
    | _, _ => none
def evs (ev : Operand → Option AV) : List Operand → Option (List AV)
  | [] => some []
  | x :: l => match ev x, evs ev l with
    | some v, some vs => some (v :: vs)
    | _, _ => none
def evOpt (ev : Operand → Option AV) : Option Operand → Option (Option AV)
  | none => some none
  | some x => match ev x with
    | some v => some (some v)
    | none => none

/-- Operations that may make a block. -/
def allocs : Op → Bool
  | .alloc _ | .box .. | .buildSlice .. | .makeMap .. | .makeSlice .. | .convert .. | .call _ => true
  | _ => false

/-- One operation. -/
def aop (E : Env) (ev : Operand → Option AV) (sy : Bool) (nid : Nat) (o : Oper) : R Out :=
  match o.op with
  | .move x | .assign x => match ev x with
    | some v => .ret ⟨v, []⟩
    | none => .bad "slot"
  | .pick c a b => match ev c with
    | some (.v (.bool t)) => match t with
      | true => match ev a with
        | some v => .ret ⟨v, []⟩
        | none => .bad "slot"
      | false => match ev b with
        | some v => .ret ⟨v, []⟩
        | none => .bad "slot"
    | _ => .bad "pick"
  | .alloc e => match azero E.P e with
    | some z => match memN e E.rowT with
      | true => match zeroCol z.cells, Nat.blt 0 z.cells.length with
        | some c, true => .ret ⟨.p nid 0 0, [(nid, .rows [c] z.cells.length false)]⟩
        | _, _ => .bad "alloc: rows"
      | false => .ret ⟨.p nid 0 0, [(nid, .cells z.cells)]⟩
    | none => .bad "alloc"
  | .box t x => match ev x with
    | some v => match memN t E.rowT, asz E.P t with
      | true, some m => match toCol m v, Nat.blt 0 m with
        | some c, true => .ret ⟨.p nid 0 0, [(nid, .rows [c] m false)]⟩
        | _, _ => .bad "box: rows"
      | true, none => .bad "box: type"
      | false, _ => .ret ⟨.p nid 0 0, [(nid, .cells v.cells)]⟩
    | none => .bad "slot"
  | .build t ps => match azero E.P t, evParts ev ps.toList with
    | some z, some vs => match E.P.underlying t with
      | some (.struct fs) => match fs.toList.mapM (fun f => (asz E.P f.type).map fun n => (f.offset, n)) with
        | some pl => match afill (lnth pl) z.cells vs with
          | some cs => .ret ⟨.a cs, []⟩
          | none => .bad "build"
        | none => .bad "build"
      | some (.array _ e) => match asz E.P e with
        | some n => match afill (fun i => some (i * n, n)) z.cells vs with
          | some cs => .ret ⟨.a cs, []⟩
          | none => .bad "build"
        | none => .bad "build"
      | _ => .bad "build"
    | _, _ => .bad "build"
  | .buildSlice t len ps => match E.P.underlying t, evParts ev ps.toList with
    | some (.slice e), some vs => match asz E.P e, azero E.P e with
      | some n, some z => match Nat.beq z.cells.length n, Nat.ble (len * n) 16777216, Nat.beq (len * n) 0 with
        | true, true, false => match afill (fun i => some (i * n, n)) ((List.replicate len z.cells).flatten) vs with
          | some cs => .ret ⟨.s nid 0 len len, [(nid, .cells cs)]⟩
          | none => .bad "buildSlice"
        | _, _, _ => .bad "buildSlice"
      | _, _ => .bad "buildSlice"
    | _, _ => .bad "buildSlice"
  | .load t x => match ev x with
    | some v => aload E.P t v
    | none => .bad "slot"
  | .store t x y => match ev x, ev y with
    | some v, some u => astore E.P t v u
    | _, _ => .bad "slot"
  | .nilCheck x => match ev x with
    | some (.p id i j) => .ret ⟨.p id i j, []⟩
    | some (.f fn cap) => .ret ⟨.f fn cap, []⟩
    | _ => .bad "nilCheck"
  | .binOp op t x y _ => match ev x, ev y with
    | some v, some u => (abin E.P sy op t v u).bind fun r => .ret ⟨r, []⟩
    | _, _ => .bad "slot"
  | .unOp .not _ x => match ev x with
    | some (.v (.bool b)) => .ret ⟨.b !b, []⟩
    | _ => .bad "not"
  | .unOp .neg _ x => match ev x with
    | some (.v (.int k n)) => .ret ⟨.i k (k.wrap (0 - n)), []⟩
    | _ => .bad "neg"
  | .unOp .xor _ x => match ev x with
    | some (.v (.int k n)) => .ret ⟨.i k (iXor k (if k.signed then -1 else k.max) n), []⟩
    | _ => .bad "xor"
  | .convert src dst x => match ev x with
    | some v => aconv E.P nid src dst v
    | none => .bad "slot"
  | .makeFunc (.func fn) first cap => match Nat.beq first.size 0, evs ev cap.toList with
    | true, some vs => .ret ⟨.f fn vs, []⟩
    | _, _ => .bad "makeFunc"
  | .makeMap _ none => .ret ⟨.m nid, [(nid, .map [])]⟩
  | .mapUpdate t m k x | .insert t m k x => match ev m, ev k, ev x with
    | some mv, some kv, some xv => amapUpdate E.P t mv kv xv
    | _, _, _ => .bad "slot"
  | .lookup t m k ok => match ev m, ev k with
    | some mv, some kv => alookup E.P t mv kv ok
    | _, _ => .bad "slot"
  | .makeSlice t l c => match ev l, ev c with
    | some v, some u => amake E.P nid t v u
    | _, _ => .bad "slot"
  | .slice t x lo hi mx => match ev x, evOpt ev lo, evOpt ev hi, evOpt ev mx with
    | some v, some l, some h, some m => aslice E.P sy t v l h m
    | _, _, _, _ => .bad "slot"
  | .sliceToArrayPointer t x => match ev x, E.P.underlying t with
    | some (.s id j len _), some (.array n _) => match Nat.ble n len with
      | true => .ret ⟨.p id 0 j, []⟩
      | false => .bad "sliceToArrayPointer"
    | _, _ => .bad "sliceToArrayPointer"
  | .fieldAddr t x f => match ev x with
    | some v => afieldAddr E.P t v f
    | none => .bad "slot"
  | .field t x f => match ev x with
    | some v => afield E.P t v f
    | none => .bad "slot"
  | .indexAddr t x ix => match ev x, ev ix with
    | some v, some u => aindexAddr E.P sy t v u
    | _, _ => .bad "slot"
  | .index t x ix => match ev x, ev ix with
    | some v, some u => aindex E.P sy t v u
    | _, _ => .bad "slot"
  | .extract x ix => match ev x with
    | some (.t vs) => match lnth vs ix with
      | some v => .ret ⟨v, []⟩
      | none => .bad "extract"
    | _ => .bad "extract"
  | .call c => match evs ev c.args.toList with
    | some vs => match c.callee with
      | .builtin b => abuiltin E.P b c.argTypes vs
      | .value g => match ev g with
        | some (.f fn cap) => match E.calls fn (vs ++ cap) nid with
          | some r => r
          | none => .bad "call"
        | _ => .bad "callee"
      | .invoke _ _ => .bad "invoke"
    | none => .bad "slot"
  | _ => .bad "op"

end Go.Sx
