/- TL: parts TlDefs, TlRep, TlBase. -/
import Derived.Calls
import Derived.Orders
import Derived.Tactics
import Derived.Below
import Derived.Laws.AppendOwn
import Derived.Maps.AppendAt
import Derived.Deep.LoopGhost
import Derived.Laws.CopyRow
import Derived.Laws.Rows
/- TL, part 1: pure values, the abstract state, the predicate transformer over the model's code. Definitions alone. -/
universe u
namespace TL
open Go

/-- A mark: simp doesn't look into what bears it. -/
class Hd {α : Sort u} (a : α) : Type where
instance instHd {α : Sort u} (a : α) : Hd a := ⟨⟩

def obind {α β : Type} (o : Option α) (k : α → Option β) [Hd k] : Option β := o.bind k
@[simp] theorem obind_some {α β : Type} (x : α) (k : α → Option β) : obind (some x) k = k x := rfl
@[simp] theorem obind_none {α β : Type} (k : α → Option β) : obind none k = none := rfl
/-- A test. -/
def tst {β : Type} (c : Prop) [Decidable c] (x : Option β) [Hd x] : Option β := if c then x else none
@[simp] theorem tst_true {β : Type} {h : Decidable True} (x : Option β) : @tst β True h x _ = x := if_pos trivial
@[simp] theorem tst_false {β : Type} {h : Decidable False} (x : Option β) : @tst β False h x _ = none := if_neg (fun h => h)
theorem tst_pos {β : Type} {c : Prop} [Decidable c] (h : c) (x : Option β) : tst c x = x := if_pos h

/-- Pure values. -/
inductive V where
  | any | bool (b : Bool) | int (k : IntKind) (n : Int) | str (s : List UInt8)
  | agg (cs : List V) | tup (vs : List V) | sl (xs : List V) | fn (f : Nat) (cap : List V) | ref (cs : List V)
  deriving Inhabited

/-- Values of a frame: pure ones, and those that name memory of the call's own. -/
inductive T where
  | v (x : V) | nil | loc (id : Nat) | sv (id co len : Nat) | ptr (id off : Nat) | fptr (cs : List V) (off : Nat)
  | agg (cs : List T) | tup (vs : List T) | fn (f : Nat) (cap : List T)
  deriving Inhabited

inductive Blk where
  | arr (e : TypeId) (xs : List V)
  | ro (xs : List V)
  | box (e : TypeId) (z : Nat) (cs : List T)
  deriving Inhabited

abbrev Mem := Nat → Option Blk

structure S where
  tm : Nat → T
  m : Mem
  n : Nat
  mu : Bool

def updT (f : Nat → T) (d : Nat) (x : T) : Nat → T := fun t => if t = d then x else f t
def updM (m : Mem) (d : Nat) (x : Option Blk) : Mem := fun t => if t = d then x else m t

@[simp] theorem updT_same (f : Nat → T) (d : Nat) (x : T) : updT f d x d = x := if_pos rfl
theorem updT_ne (f : Nat → T) {d t : Nat} (x : T) (h : t ≠ d) : updT f d x t = f t := if_neg h
@[simp] theorem updT_lit (f : Nat → T) (d t : Nat) (x : T) : updT f d x t = if t = d then x else f t := rfl
@[simp] theorem updM_same (m : Mem) (d : Nat) (x : Option Blk) : updM m d x d = x := if_pos rfl
theorem updM_ne (m : Mem) {d t : Nat} (x : Option Blk) (h : t ≠ d) : updM m d x t = m t := if_neg h
@[simp] theorem updM_lit (m : Mem) (d t : Nat) (x : Option Blk) : updM m d x t = if t = d then x else m t := rfl

def V.cells : V → List V
  | .agg cs => cs
  | x => [x]
def T.cells : T → List T
  | .agg cs => cs
  | .v (.agg cs) => cs.map .v
  | x => [x]
def V.cell : V → Bool
  | .agg _ | .tup _ | .any => false
  | _ => true
def T.cell : T → Bool
  | .agg _ | .tup _ => false
  | .v x => x.cell
  | _ => true
mutual
/-- Values without memory. -/
def V.flat : V → Bool
  | .bool _ | .int .. | .str _ => true
  | .tup vs => flatL vs
  | .agg vs => flatL vs
  | _ => false
def flatL : List V → Bool
  | [] => true
  | x :: xs => x.flat && flatL xs
end

def constCell : Value → T
  | .bool b => .v (.bool b)
  | .int k n => .v (.int k n)
  | .string s => .v (.str s.data.toList)
  | .slice none 0 0 => .nil
  | _ => .v .any
def const : Value → T
  | .agg cs => .agg (cs.toList.map constCell)
  | x => constCell x

def S.ev (s : S) : Operand → T
  | .tmp t => s.tm t
  | .const v => const v
  | .func f => .fn f []
  | .global _ => .v .any

/-- Chunks of z. -/
def chunk (z : Nat) : Nat → List V → List V
  | 0, _ => []
  | n + 1, xs => (if z = 1 then xs.headD .any else .agg (xs.take z)) :: chunk z n (xs.drop z)

def mapO {α β : Type} (f : α → Option β) : List α → Option (List β)
  | [] => some []
  | x :: xs => (f x).bind fun y => (mapO f xs).map (y :: ·)

/-- What a value is to others: 'k': cells that may change are let in, too (for as long as nobody writes them). -/
def bor (k : Bool) (m : Mem) : Nat → T → Option V
  | _, .v x => some x
  | _, .nil => some (.sl [])
  | _, .loc id => match m id with
    | some (.arr _ xs) | some (.ro xs) => some (.sl xs)
    | _ => none
  | _, .fptr cs 0 => some (.ref cs)
  | d + 1, .agg cs => obind (mapO (bor k m d) cs) fun xs => tst (∀ x ∈ xs, x.cell = true) (some (.agg xs))
  | d + 1, .tup cs => (mapO (bor k m d) cs).map .tup
  | d + 1, .fn f cs => (mapO (bor k m d) cs).map (.fn f)
  | d + 1, .sv id co len => if k then match m id with
      | some (.box _ z cs) => tst (co + len * z ≤ cs.length) (obind (mapO (bor k m d) ((cs.drop co).take (len * z))) fun xs => tst (∀ x ∈ xs, x.cell = true) (some (.sl (chunk z len xs))))
      | _ => none
    else none
  | d + 1, .ptr id 0 => if k then match m id with
      | some (.box _ _ cs) => obind (mapO (bor k m d) cs) fun xs => tst (∀ x ∈ xs, x.cell = true) (some (.ref xs))
      | _ => none
    else none
  | _, _ => none

/-! ### What types say -/
def sz (P : Program) (t : TypeId) : Option Nat := (P.info? t).map (·.size)
def bytes (P : Program) (t : TypeId) : Option Nat := (P.info? t).map (·.bytes)
def isAg (P : Program) (t : TypeId) : Option Bool := (P.underlying t).map fun d => match d with | .struct _ | .array _ _ => true | _ => false
def elT (P : Program) (t : TypeId) : Option TypeId := (P.underlying t).bind fun d => match d with | .slice e => some e | _ => none
def isStr (P : Program) (t : TypeId) : Option Bool := (P.underlying t).map fun d => match d with | .string => true | _ => false
def isBool (P : Program) (t : TypeId) : Option Bool := (P.underlying t).map fun d => match d with | .bool => true | _ => false
def fo (P : Program) (t : TypeId) (f : Nat) : Option Nat := (P.underlying t).bind fun d => match d with
  | .struct fs => (fs[f]?).bind fun g => if sz P g.type = some 0 then none else if (sz P g.type).isSome then some g.offset else none
  | _ => none
def zeroC (P : Program) (t : TypeId) : Option (List T) := (P.info? t).bind fun i => i.zero.map fun v => (const v).cells
def intK (P : Program) (t : TypeId) : Option IntKind := (P.underlying t).bind fun d => match d with | .int k => some k | _ => none

/-! ### Operations on numbers, truths and texts -/
def intBin (op : BinOp) (k : IntKind) (a b : Int) : Option V :=
  match op with
  | .add => some (.int k (k.wrap (a + b)))
  | .sub => some (.int k (k.wrap (a - b)))
  | .mul => some (.int k (k.wrap (a * b)))
  | .quo => if b = 0 then none else some (.int k (k.wrap (a.tdiv b)))
  | .rem => if b = 0 then none else some (.int k (a.tmod b))
  | .and => some (.int k (k.wrap (BitVec.ofInt k.bits a &&& BitVec.ofInt k.bits b).toNat))
  | .or => some (.int k (k.wrap (BitVec.ofInt k.bits a ||| BitVec.ofInt k.bits b).toNat))
  | .xor => some (.int k (k.wrap (BitVec.ofInt k.bits a ^^^ BitVec.ofInt k.bits b).toNat))
  | .andNot => some (.int k (k.wrap (BitVec.ofInt k.bits a &&& ~~~(BitVec.ofInt k.bits b)).toNat))
  | .eql => some (.bool (decide (a = b)))
  | .neq => some (.bool (decide (a ≠ b)))
  | .lss => some (.bool (decide (a < b)))
  | .leq => some (.bool (decide (a ≤ b)))
  | .gtr => some (.bool (decide (b < a)))
  | .geq => some (.bool (decide (b ≤ a)))
  | .shl => if b < 0 then none else some (.int k (k.wrap (a * 2 ^ (min b.toNat k.bits))))
  | .shr => if b < 0 then none else some (.int k (a.fdiv (2 ^ (min b.toNat k.bits))))
def bin (op : BinOp) : V → V → Option V
  | .int k a, .int k' b => match op with
    | .shl | .shr => intBin op k a b
    | _ => if k = k' then intBin op k a b else none
  | .bool a, .bool b => match op with
    | .eql => some (.bool (a == b))
    | .neq => some (.bool (!(a == b)))
    | _ => none
  | .str a, .str b => match op with
    | .eql => some (.bool (decide (a = b)))
    | .neq => some (.bool (decide (a ≠ b)))
    | .add => if ((a.length + b.length : Nat) : Int) ≤ 9223372036854775807 then some (.str (a ++ b)) else none
    | _ => none
  | _, _ => none

/-- What an operation does: a value, and what it turns in memory. -/
structure Eff where
  val : T
  us : List (Nat × Option Blk)

def bnd : Option T → Int → Option Int
  | none, d => some d
  | some (.v (.int _ h)), _ => some h
  | _, _ => none
def slRange (len : Nat) (lo hi : Option T) : Option (Nat × Nat) :=
  obind (bnd hi len) fun h => obind (bnd lo 0) fun l => tst (0 ≤ l ∧ l ≤ h ∧ h ≤ (len : Int)) (some (l.toNat, h.toNat))

/-- All elements are of k cells. -/
def allZ (k : Nat) (xs : List V) : Prop := ∀ x ∈ xs, x.cells.length = k ∧ ∀ c ∈ x.cells, c.cell = true
instance (k : Nat) (xs : List V) : Decidable (allZ k xs) := inferInstanceAs (Decidable (∀ x ∈ xs, x.cells.length = k ∧ ∀ c ∈ x.cells, c.cell = true))
def allC (xs : List T) : Prop := ∀ x ∈ xs, x.cell = true
instance (xs : List T) : Decidable (allC xs) := inferInstanceAs (Decidable (∀ x ∈ xs, x.cell = true))

/-- The elements of a slice, as others see them. -/
def elems (m : Mem) : T → Option (List V)
  | .nil => some []
  | .v (.sl xs) => some xs
  | .loc id => match m id with
    | some (.arr _ xs) | some (.ro xs) => some xs
    | _ => none
  | _ => none
/-- The cells of a slice, n elements of z each. -/
def ecells (m : Mem) (z : Nat) : T → Option (Nat × List T)
  | .sv id co len => match m id with
    | some (.box _ z' cs) => tst (z' = z ∧ co + len * z ≤ cs.length) (some (len, (cs.drop co).take (len * z)))
    | _ => none
  | x => obind (elems m x) fun xs => tst (allZ z xs) (some (xs.length, xs.flatMap fun x => x.cells.map .v))

def slLen (m : Mem) : T → Option Nat
  | .sv _ _ len => some len
  | x => (elems m x).map List.length

/-- Cells off, off + 1, .. as one value of type t. -/
def cutV (P : Program) (t : TypeId) (cs : List V) (off : Nat) : Option T :=
  obind (sz P t) fun k => obind (isAg P t) fun a => if a then tst (off + k ≤ cs.length) (some (.v (.agg ((cs.drop off).take k)))) else (cs[off]?).map .v
def cutT (P : Program) (t : TypeId) (cs : List T) (off : Nat) : Option T :=
  obind (sz P t) fun k => obind (isAg P t) fun a => if a then tst (off + k ≤ cs.length) (some (.agg ((cs.drop off).take k))) else cs[off]?
def evLoad (P : Program) (t : TypeId) (m : Mem) : T → Option T
  | .ptr id off => match m id with
    | some (.box _ _ cs) => cutT P t cs off
    | _ => none
  | .fptr cs off => cutV P t cs off
  | .v (.ref cs) => cutV P t cs 0
  | _ => none

def setAt (cs : List T) (off : Nat) : List T → List T
  | [] => cs
  | x :: xs => setAt (cs.set off x) (off + 1) xs

def evStore (P : Program) (t : TypeId) (m : Mem) (x : T) : T → Option (Nat × Option Blk)
  | .ptr id off => match m id with
    | some (.box e z cs) => obind (sz P t) fun k => tst (x.cells.length = k ∧ allC x.cells ∧ off + k ≤ cs.length) (some (id, some (.box e z (setAt cs off x.cells))))
    | _ => none
  | _ => none

def fpAt (k : Nat) (i : Int) (xs : List V) : Option T :=
  tst (0 ≤ i) (obind (xs[i.toNat]?) fun y => tst (y.cells.length = k ∧ 0 < k) (some (.fptr y.cells 0)))
def evIndexAddr (P : Program) (t : TypeId) (m : Mem) (x : T) : T → Option T
  | .v (.int _ i) => obind (elT P t) fun e => obind (sz P e) fun k =>
    match x with
    | .sv id co len => match m id with
      | some (.box _ z _) => tst (z = k ∧ 0 ≤ i ∧ i < (len : Int)) (some (.ptr id (co + i.toNat * z)))
      | _ => none
    | x => obind (elems m x) fun xs => fpAt k i xs
  | _ => none

def evSlice (P : Program) (t : TypeId) (m : Mem) (lo hi : Option T) : T → Option T
  | .v (.str s) => tst (isStr P t = some true) (obind (slRange s.length lo hi) fun p => some (.v (.str ((s.take p.2).drop p.1))))
  | .sv id co len => obind (elT P t) fun e => obind (sz P e) fun k => match m id with
      | some (.box _ z _) => tst (z = k) (obind (slRange len lo hi) fun p => some (.sv id (co + p.1 * z) (p.2 - p.1)))
      | _ => none
  | x => obind (elT P t) fun e => obind (sz P e) fun k => obind (elems m x) fun xs =>
      tst (allZ k xs) (obind (slRange xs.length lo hi) fun p => some (.v (.sl ((xs.take p.2).drop p.1))))

def fsz (P : Program) (t : TypeId) (f : Nat) : Option Nat := (P.underlying t).bind fun d => match d with
  | .struct fs => (fs[f]?).bind fun g => sz P g.type
  | _ => none
def placeC (P : Program) (t : TypeId) : List (Nat × T) → List T → Option (List T)
  | [], cs => some cs
  | (i, x) :: rest, cs => obind (fo P t i) fun o => obind (fsz P t i) fun k => tst (x.cells.length = k ∧ allC x.cells ∧ o + k ≤ cs.length) (placeC P t rest (setAt cs o x.cells))

/-- A row of parts that are told from the first to the last one. -/
def inOrder : Nat → List (Nat × T) → Option (List T)
  | _, [] => some []
  | i, (j, x) :: rest => tst (j = i) ((inOrder (i + 1) rest).map (x :: ·))

def newRow (P : Program) (mu : Bool) (m : Mem) (id : Nat) (e : TypeId) (xs : List T) : Option Eff :=
  obind (sz P e) fun k => tst ((zeroC P e).isSome = true ∧ 0 < k ∧ xs.length * k ≤ 16777216)
    (if mu then tst (∀ x ∈ xs, x.cells.length = k ∧ allC x.cells) (some ⟨.sv id 0 xs.length, [(id, some (.box e k (xs.flatMap T.cells)))]⟩)
    else obind (mapO (bor false m 3) xs) fun vs => tst (allZ k vs) (some ⟨.loc id, [(id, some (.arr e vs))]⟩))

def appMut (e : TypeId) (k by_ : Nat) (i id : Nat) (co len : Nat) (e' : TypeId) (z : Nat) (cs : List T) (n : Nat) (ys : List T) : Option Eff :=
  tst (e' = e ∧ z = k ∧ 0 < k ∧ 0 < by_ ∧ co = 0 ∧ len * k ≤ cs.length ∧ (len + n) * by_ ≤ 140737488355328 ∧ allC ys) (some ⟨.sv id 0 (len + n), [(i, none), (id, some (.box e k (cs.take (len * k) ++ ys)))]⟩)
def appArr (e : TypeId) (k by_ : Nat) (i id : Nat) (e' : TypeId) (xs ys : List V) : Option Eff :=
  tst (e' = e ∧ 0 < k ∧ 0 < by_ ∧ allZ k ys ∧ (xs.length + ys.length) * by_ ≤ 140737488355328) (some ⟨.loc id, [(i, some (.ro xs)), (id, some (.arr e (xs ++ ys)))]⟩)
def appNil (e : TypeId) (k by_ : Nat) (id : Nat) (ys : List V) : Option Eff :=
  tst (0 < k ∧ 0 < by_ ∧ allZ k ys ∧ ys.length * by_ ≤ 140737488355328) (some ⟨.loc id, [(id, some (.arr e ys))]⟩)
def appNilMut (e : TypeId) (k by_ : Nat) (id : Nat) (n : Nat) (ys : List T) : Option Eff :=
  tst (0 < k ∧ 0 < by_ ∧ 0 < n ∧ n * by_ ≤ 140737488355328 ∧ allC ys) (some ⟨.sv id 0 n, [(id, some (.box e k ys))]⟩)
/-- A type's size, that of its zero value, too. -/
def szz (P : Program) (t : TypeId) : Option Nat := (P.info? t).bind fun i => i.zero.bind fun v => if v.cells.size = i.size then some i.size else none
/-- append. -/
def evAppend (P : Program) (mu : Bool) (t : TypeId) (m : Mem) (id : Nat) (y : T) : T → Option Eff
  | .sv i co len => obind (elT P t) fun e => obind (szz P e) fun k => obind (bytes P e) fun by_ => match m i with
    | some (.box e' z cs) => obind (ecells m k y) fun p => appMut e k by_ i id co len e' z cs p.1 p.2
    | _ => none
  | .loc i => obind (elT P t) fun e => obind (szz P e) fun k => obind (bytes P e) fun by_ => match m i with
    | some (.arr e' xs) => obind (elems m y) fun ys => appArr e k by_ i id e' xs ys
    | _ => none
  | .nil => obind (elT P t) fun e => obind (szz P e) fun k => obind (bytes P e) fun by_ =>
    if mu then obind (ecells m k y) fun p => appNilMut e k by_ id p.1 p.2
    else obind (elems m y) fun ys => appNil e k by_ id ys
  | _ => none

def evMake (P : Program) (t : TypeId) (id : Nat) : T → T → Option Eff
  | .v (.int .i64 l), .v (.int .i64 c) => obind (elT P t) fun e => obind (sz P e) fun k => obind (bytes P e) fun by_ => obind (zeroC P e) fun zs =>
    tst (l = c ∧ 0 ≤ l ∧ (by_ : Int) * l ≤ 281474976710656 ∧ l ≤ 9223372036854775807 ∧ zs.length = k ∧ 0 < k ∧ allC zs) (some ⟨.sv id 0 l.toNat, [(id, some (.box e k ((List.replicate l.toNat zs).flatten)))]⟩)
  | _, _ => none

def toBytes : List V → Option (List UInt8)
  | [] => some []
  | .int .u8 n :: xs => (toBytes xs).map (UInt8.ofNat n.toNat :: ·)
  | _ => none

def evConvert (P : Program) (src dst : TypeId) (m : Mem) : T → Option T
  | .v (.int _ n) => obind (intK P src) fun _ => obind (intK P dst) fun k => some (.v (.int k (k.wrap n)))
  | .v (.str s) => tst (isStr P src = some true ∧ isStr P dst = some true) (some (.v (.str s)))
  | x => tst (isStr P dst = some true) (obind (elT P src) fun e => tst (intK P e = some .u8) (obind (elems m x) fun xs => (toBytes xs).map fun s => .v (.str s)))

def evLen (P : Program) (t : TypeId) (m : Mem) : T → Option Eff
  | .v (.str s) => tst (isStr P t = some true) (some ⟨.v (.int .i64 s.length), []⟩)
  | x => obind (elT P t) fun _ => obind (slLen m x) fun n => some ⟨.v (.int .i64 n), []⟩
def evBuiltin (P : Program) (mu : Bool) (b : Builtin) (ts : List TypeId) (m : Mem) (id : Nat) (xs : List T) : Option Eff :=
  match b, xs with
  | .len, [x] => match ts with
    | t :: _ => evLen P t m x
    | _ => none
  | .append, [x, y] => match ts with
    | [t, t'] => tst (t = t') (evAppend P mu t m id y x)
    | _ => none
  | .max, [.v (.int .i64 a), .v (.int .i64 b)] => some ⟨.v (.int .i64 (max a b)), []⟩
  | .min, [.v (.int .i64 a), .v (.int .i64 b)] => some ⟨.v (.int .i64 (min a b)), []⟩
  | _, _ => none

/-- The kinds of the fields of a struct that is compared: truth, number, text. -/
def kindsFrom (P : Program) : Nat → List Field → Option (List Nat)
  | _, [] => some []
  | i, f :: fs => if f.name ≠ "_" ∧ f.offset = i then (match P.underlying f.type with | some .bool => some 0 | some (.int _) => some 1 | some .string => some 2 | _ => none).bind fun k => (kindsFrom P (i + 1) fs).map (k :: ·) else none
def eqKinds (P : Program) (t : TypeId) : Option (List Nat) := match P.underlying t with
  | some (.struct fs) => if !P.stoodInHeld t && !P.eqGuardType P.depth t then kindsFrom P 0 fs.toList else none
  | _ => none
def cellsEq : List Nat → List V → List V → Option Bool
  | [], [], [] => some true
  | 0 :: ks, .bool a :: as, .bool b :: bs => (cellsEq ks as bs).map fun q => (a == b) && q
  | 1 :: ks, .int k a :: as, .int k' b :: bs => tst (k = k') ((cellsEq ks as bs).map fun q => (decide (a = b)) && q)
  | 2 :: ks, .str a :: as, .str b :: bs => (cellsEq ks as bs).map fun q => (decide (a = b)) && q
  | _, _, _ => none
def structEq (op : BinOp) (ks : List Nat) : V → V → Option T
  | .agg as, .agg bs => obind (cellsEq ks as bs) fun q => match op with
        | .eql => some (.v (.bool q))
        | .neq => some (.v (.bool (!q)))
        | _ => none
  | _, _ => none
def evBin (P : Program) (m : Mem) (op : BinOp) (t : TypeId) (x y : T) : Option T :=
  match x, y with
  | .v (.int k a), .v (.int k' b) => obind (bin op (.int k a) (.int k' b)) fun r => some (.v r)
  | .v (.bool a), .v (.bool b) => tst (isBool P t = some true) (obind (bin op (.bool a) (.bool b)) fun r => some (.v r))
  | .v (.str a), .v (.str b) => obind (bin op (.str a) (.str b)) fun r => some (.v r)
  | x, y => obind (eqKinds P t) fun ks => obind (bor false m 2 x) fun a => obind (bor false m 2 y) fun b => structEq op ks a b

def boolOf : T → Option Bool
  | .v (.bool b) => some b
  | _ => none
def evNilCheck : T → Option T
  | .ptr i o => some (.ptr i o)
  | .fptr cs o => some (.fptr cs o)
  | .v (.ref cs) => some (.v (.ref cs))
  | _ => none
def evFieldAddr (P : Program) (t : TypeId) (f : Nat) : T → Option T
  | .ptr i q => obind (fo P t f) fun o => some (.ptr i (q + o))
  | .fptr cs q => obind (fo P t f) fun o => some (.fptr cs (q + o))
  | .v (.ref cs) => obind (fo P t f) fun o => some (.fptr cs o)
  | _ => none
def evIndex (P : Program) (t : TypeId) (i : T) : T → Option T
  | .v (.str s) => match i with
    | .v (.int _ n) => tst (isStr P t = some true ∧ 0 ≤ n) (obind (s[n.toNat]?) fun c => some (.v (.int .u8 c.toNat)))
    | _ => none
  | _ => none
def evExtract (i : Nat) : T → Option T
  | .tup vs => vs[i]?
  | .v (.tup vs) => (vs[i]?).map .v
  | _ => none
def evNeg : T → Option T
  | .v (.int k n) => some (.v (.int k (k.wrap (0 - n))))
  | _ => none
def fieldsOk (P : Program) (t : TypeId) : Bool := match P.underlying t with
  | some (.struct fs) => fs.toList.all fun f => (P.info? f.type).isSome
  | _ => false
def evBuild (P : Program) (t : TypeId) (parts : List (Nat × T)) : Option T :=
  obind (zeroC P t) fun zs => obind (sz P t) fun k => tst (zs.length = k ∧ fieldsOk P t = true ∧ allC zs) (obind (placeC P t parts zs) fun cs => some (.agg cs))
def evAlloc (P : Program) (t : TypeId) (id : Nat) : Option Eff :=
  obind (zeroC P t) fun zs => obind (sz P t) fun k => tst (zs.length = k ∧ allC zs ∧ 0 < k) (some ⟨.ptr id 0, [(id, some (.box t k zs))]⟩)
def evBox (P : Program) (t : TypeId) (id : Nat) (x : T) : Option Eff :=
  obind (sz P t) fun k => tst (x.cells.length = k ∧ allC x.cells ∧ 0 < k) (some ⟨.ptr id 0, [(id, some (.box t k x.cells))]⟩)
def evBuildSlice (P : Program) (mu : Bool) (t : TypeId) (m : Mem) (id len : Nat) (parts : List (Nat × T)) : Option Eff :=
  obind (elT P t) fun e => obind (inOrder 0 parts) fun xs => tst (xs.length = len) (newRow P mu m id e xs)
def evPick (b : Bool) (x y : T) : T := if b then x else y

/-- All operations but the calls of functions. -/
def opF (P : Program) (mu : Bool) (ρ : Operand → T) (m : Mem) (id : Nat) : Op → Option Eff
  | .move x | .assign x => some ⟨ρ x, []⟩
  | .pick c a b => obind (boolOf (ρ c)) fun q => some ⟨evPick q (ρ a) (ρ b), []⟩
  | .alloc t => evAlloc P t id
  | .box t x => evBox P t id (ρ x)
  | .build t parts => obind (evBuild P t (parts.toList.map fun p => (p.1, ρ p.2))) fun x => some ⟨x, []⟩
  | .buildSlice t len parts => evBuildSlice P mu t m id len (parts.toList.map fun p => (p.1, ρ p.2))
  | .load t a => obind (evLoad P t m (ρ a)) fun x => some ⟨x, []⟩
  | .store t a x => obind (evStore P t m (ρ x) (ρ a)) fun u => some ⟨.v .any, [u]⟩
  | .nilCheck x => obind (evNilCheck (ρ x)) fun x => some ⟨x, []⟩
  | .binOp op t x y _ => obind (evBin P m op t (ρ x) (ρ y)) fun x => some ⟨x, []⟩
  | .unOp .not _ x => obind (boolOf (ρ x)) fun b => some ⟨.v (.bool !b), []⟩
  | .unOp .neg _ x => obind (evNeg (ρ x)) fun x => some ⟨x, []⟩
  | .convert src dst x => obind (evConvert P src dst m (ρ x)) fun x => some ⟨x, []⟩
  | .makeFunc (.func f) first cap => tst (first = #[]) (some ⟨.fn f (cap.toList.map ρ), []⟩)
  | .makeSlice t l c => evMake P t id (ρ l) (ρ c)
  | .slice t x lo hi none => obind (evSlice P t m (lo.map ρ) (hi.map ρ) (ρ x)) fun x => some ⟨x, []⟩
  | .fieldAddr t x f => obind (evFieldAddr P t f (ρ x)) fun x => some ⟨x, []⟩
  | .indexAddr t x i => obind (evIndexAddr P t m (ρ x) (ρ i)) fun x => some ⟨x, []⟩
  | .index t x i => obind (evIndex P t (ρ i) (ρ x)) fun x => some ⟨x, []⟩
  | .extract x i => obind (evExtract i (ρ x)) fun x => some ⟨x, []⟩
  | .call { callee := .builtin b, args, argTypes } => evBuiltin P mu b argTypes.toList m id (args.toList.map ρ)
  | _ => none

def applyUs (m : Mem) : List (Nat × Option Blk) → Mem
  | [] => m
  | (i, b) :: us => applyUs (updM m i b) us
def bump (n : Nat) : List (Nat × Option Blk) → Nat
  | [] => n
  | _ :: _ => n + 1
def S.put (s : S) (d : Option Nat) (x : T) [Hd s] : S := { s with tm := match d with | some d => updT s.tm d x | none => s.tm }
def S.app (s : S) (d : Option Nat) (E : Eff) [Hd s] [Hd E] : S := { s with tm := match d with | some d => updT s.tm d E.val | none => s.tm, m := applyUs s.m E.us, n := bump s.n E.us }

end TL

/- TL, part 2: what memory holds a pure value; contracts; the transformer. -/
namespace TL
open Go Go.RowKit

/-- Sets of cells that stay. -/
abbrev Zs := Nat → Nat → Prop

mutual
inductive RepV (Z : Zs) (w : World) : V → Value → Prop
  | any (u : Value) : RepV Z w .any u
  | bool (b : Bool) : RepV Z w (.bool b) (.bool b)
  | int (k : IntKind) (n : Int) : RepV Z w (.int k n) (.int k n)
  | str {s : List UInt8} {b : ByteArray} (h : b.data.toList = s) : RepV Z w (.str s) (.string b)
  | agg {cs : List V} {us : List Value} (h : RepCs Z w cs us) : RepV Z w (.agg cs) (.agg us.toArray)
  | tup {cs : List V} {us : List Value} (h : RepVs Z w cs us) : RepV Z w (.tup cs) (.tuple us.toArray)
  | fn {f : Nat} {cs : List V} {us : List Value} (h : RepVs Z w cs us) : RepV Z w (.fn f cs) (.func (.func f) #[] us.toArray)
  | nil (A : Option Addr) (c : Nat) : RepV Z w (.sl []) (.slice A 0 c)
  | sl {z : Nat} {xs : List V} {us : List Value} {ad : Addr} {n c : Nat} (h : RepEs Z w z xs us) (hn : xs.length = n) (hc : n ≤ c) (hm : c ≤ maxLen)
      (hz : ∀ i u, us[i]? = some u → w.cell? (ad.add i) = some u ∧ Z (ad.add i).block (ad.add i).off) : RepV Z w (.sl xs) (.slice (some ad) n c)
  | ref {cs : List V} {us : List Value} {ad : Addr} (h : RepCs Z w cs us)
      (hz : ∀ i u, us[i]? = some u → w.cell? (ad.add i) = some u ∧ Z (ad.add i).block (ad.add i).off) : RepV Z w (.ref cs) (.pointer (some ad))
inductive RepVs (Z : Zs) (w : World) : List V → List Value → Prop
  | nil : RepVs Z w [] []
  | cons {x : V} {u : Value} {xs : List V} {us : List Value} (h : RepV Z w x u) (t : RepVs Z w xs us) : RepVs Z w (x :: xs) (u :: us)
inductive RepCs (Z : Zs) (w : World) : List V → List Value → Prop
  | nil : RepCs Z w [] []
  | cons {x : V} {u : Value} {xs : List V} {us : List Value} (hc : x.cell = true) (h : RepV Z w x u) (t : RepCs Z w xs us) : RepCs Z w (x :: xs) (u :: us)
inductive RepEs (Z : Zs) (w : World) : Nat → List V → List Value → Prop
  | nil (z : Nat) : RepEs Z w z [] []
  | agg {z : Nat} {cs : List V} {u us : List Value} {xs : List V} (h : RepCs Z w cs u) (hl : u.length = z) (t : RepEs Z w z xs us) : RepEs Z w z (.agg cs :: xs) (u ++ us)
  | one {x : V} {u : Value} {us : List Value} {xs : List V} (hc : x.cell = true) (h : RepV Z w x u) (t : RepEs Z w 1 xs us) : RepEs Z w 1 (x :: xs) (u :: us)
end

def freshZ (Z : Zs) (a b : Nat) : Zs := fun k o => Z k o ∨ (a ≤ k ∧ k < b)

/-- Which of the library's variables are known to hold what. -/
def GQ (P : Program) (g : Nat) (Q : Value → Prop) : Prop :=
  (P.globalNamed "internal/bytealg.MaxLen" = some g ∧ Q = fun v => ∃ m, v = .int .i64 m) ∨
  ((P.globalNamed "strconv.ErrSyntax" = some g ∨ P.globalNamed "strconv.ErrRange" = some g) ∧ Q = fun v => v = .nilIface ∨ ∃ t p, v = .iface t p)
theorem GQ.maxLen {P : Program} {g : Nat} (h : P.globalNamed "internal/bytealg.MaxLen" = some g) : GQ P g (fun v => ∃ m, v = .int .i64 m) := .inl ⟨h, rfl⟩
theorem GQ.errSyntax {P : Program} {g : Nat} (h : P.globalNamed "strconv.ErrSyntax" = some g) : GQ P g (fun v => v = .nilIface ∨ ∃ t p, v = .iface t p) := .inr ⟨.inl h, rfl⟩
theorem GQ.errRange {P : Program} {g : Nat} (h : P.globalNamed "strconv.ErrRange" = some g) : GQ P g (fun v => v = .nilIface ∨ ∃ t p, v = .iface t p) := .inr ⟨.inr h, rfl⟩
/-- They hold it, and stay. -/
def Gl (P : Program) (Z : Zs) (w : World) : Prop := ∀ g Q, GQ P g Q → Z g 0 ∧ ∃ v, w.cell? ⟨g, 0, none⟩ = some v ∧ Q v
structure ZOk (P : Program) (Z : Zs) (w : World) : Prop where
  lt : ∀ k o, Z k o → k < w.heap.size
  gl : Gl P Z w

/-- A function's contract over pure values: called in whatever memory that holds the arguments it returns the result; nothing that was there is changed. -/
def FnZ (P : Program) (f : Nat) (args : List V) (r : V) : Prop :=
  (∃ fn, P.funcs[f]? = some fn ∧ (fn.name == "runtime.NumGoroutine") = false ∧ fn.body.isNone = false) ∧
  ∀ (Z : Zs) (w : World) (vs : List Value), ZOk P Z w → RepVs Z w args vs →
    Calls P f vs.toArray w fun e w' => ∃ v, e = .returned v ∧ Below w.heap.size w w' ∧ RepV (freshZ Z w.heap.size w'.heap.size) w' r v
end TL

/- TL, part 4: the relation between the abstract state and the machine's; what a step keeps. -/
namespace TL
open Go Go.RowKit

theorem add_lit (k o i : Nat) : (⟨k, o, none⟩ : Addr).add i = ⟨k, o + i, none⟩ := by unfold Addr.add; split <;> simp_all
theorem add_add (a : Addr) (i j : Nat) : (a.add i).add j = a.add (i + j) := by
  unfold Addr.add; by_cases hi : i = 0 <;> by_cases hj : j = 0 <;> simp [hi, hj, Nat.add_assoc]
theorem add_zero' (a : Addr) : a.add 0 = a := rfl
theorem spot_of_cell {w : World} {a : Addr} {u : Value} (h : w.cell? a = some u) : a.spot = none := by
  unfold World.cell? at h
  split at h
  · split at h
    · cases h
    · rename_i hs; simpa using hs
  · cases h

def SubZ (Z Z' : Zs) : Prop := ∀ k o, Z k o → Z' k o
def KeepZ (Z : Zs) (w w' : World) : Prop := ∀ k o, Z k o → w'.cell? ⟨k, o, none⟩ = w.cell? ⟨k, o, none⟩
theorem Gl.keep {P : Program} {Z Z' : Zs} {w w' : World} (h : Gl P Z w) (hs : SubZ Z Z') (hk : KeepZ Z w w') : Gl P Z' w' := fun g Q hq => by
  obtain ⟨hz, v, hv, hp⟩ := h g Q hq
  exact ⟨hs _ _ hz, v, by rw [hk _ _ hz, hv], hp⟩
theorem KeepZ.at {Z : Zs} {w w' : World} (h : KeepZ Z w w') {a : Addr} {u : Value} (hc : w.cell? a = some u) (hz : Z a.block a.off) : w'.cell? a = some u := by
  obtain ⟨b, o, sp⟩ := a
  obtain rfl : sp = none := spot_of_cell hc
  rw [← hc]; exact h _ _ hz

section
variable {Z Z' : Zs} {w w' : World}
mutual
theorem RepV.mono (hs : SubZ Z Z') (hk : KeepZ Z w w') {x : V} {u : Value} : RepV Z w x u → RepV Z' w' x u
  | .any u => .any u
  | .bool b => .bool b
  | .int k n => .int k n
  | .str h => .str h
  | .agg h => .agg (RepCs.mono hs hk h)
  | .tup h => .tup (RepVs.mono hs hk h)
  | .fn h => .fn (RepVs.mono hs hk h)
  | .nil A c => .nil A c
  | .sl h hn hc hm hz => .sl (RepEs.mono hs hk h) hn hc hm fun i u hu => ⟨hk.at (hz i u hu).1 (hz i u hu).2, hs _ _ (hz i u hu).2⟩
  | .ref h hz => .ref (RepCs.mono hs hk h) fun i u hu => ⟨hk.at (hz i u hu).1 (hz i u hu).2, hs _ _ (hz i u hu).2⟩
theorem RepVs.mono (hs : SubZ Z Z') (hk : KeepZ Z w w') {x : List V} {u : List Value} : RepVs Z w x u → RepVs Z' w' x u
  | .nil => .nil
  | .cons h t => .cons (RepV.mono hs hk h) (RepVs.mono hs hk t)
theorem RepCs.mono (hs : SubZ Z Z') (hk : KeepZ Z w w') {x : List V} {u : List Value} : RepCs Z w x u → RepCs Z' w' x u
  | .nil => .nil
  | .cons hc h t => .cons hc (RepV.mono hs hk h) (RepCs.mono hs hk t)
theorem RepEs.mono (hs : SubZ Z Z') (hk : KeepZ Z w w') {z : Nat} {x : List V} {u : List Value} : RepEs Z w z x u → RepEs Z' w' z x u
  | .nil z => .nil z
  | .agg h hl t => .agg (RepCs.mono hs hk h) hl (RepEs.mono hs hk t)
  | .one hc h t => .one hc (RepV.mono hs hk h) (RepEs.mono hs hk t)
end
end

/-- The values that handles stand for. -/
abbrev Phi := Nat → Option Value
def Ext (φ φ' : Phi) : Prop := ∀ i u, φ i = some u → φ' i = some u

mutual
inductive RepT (φ : Phi) (Z : Zs) (w : World) : T → Value → Prop
  | v {x : V} {u : Value} (h : RepV Z w x u) : RepT φ Z w (.v x) u
  | nil : RepT φ Z w .nil (.slice none 0 0)
  | loc {id : Nat} {u : Value} (h : φ id = some u) : RepT φ Z w (.loc id) u
  | sv {id co len k n c c' : Nat} {A : Option Addr} (h : φ id = some (.slice (some ⟨k, 0, none⟩) n c)) (hl : len ≤ c') (hm : c' ≤ maxLen) (ha : 0 < len → A = some ⟨k, co, none⟩)
      (h0 : co = 0 → A = some ⟨k, 0, none⟩ ∧ c' = c) : RepT φ Z w (.sv id co len) (.slice A len c')
  | ptr {id off k : Nat} (h : φ id = some (.pointer (some ⟨k, 0, none⟩))) : RepT φ Z w (.ptr id off) (.pointer (some ⟨k, off, none⟩))
  | ptrs {id off k n c : Nat} (h : φ id = some (.slice (some ⟨k, 0, none⟩) n c)) : RepT φ Z w (.ptr id off) (.pointer (some ⟨k, off, none⟩))
  | fptr {cs : List V} {off : Nat} {us : List Value} {ad : Addr} (h : RepCs Z w cs us)
      (hz : ∀ i u, us[i]? = some u → w.cell? (ad.add i) = some u ∧ Z (ad.add i).block (ad.add i).off) : RepT φ Z w (.fptr cs off) (.pointer (some (ad.add off)))
  | agg {cs : List T} {us : List Value} (h : RepTs φ Z w cs us) : RepT φ Z w (.agg cs) (.agg us.toArray)
  | tup {cs : List T} {us : List Value} (h : RepTs φ Z w cs us) : RepT φ Z w (.tup cs) (.tuple us.toArray)
  | fn {f : Nat} {cs : List T} {us : List Value} (h : RepTs φ Z w cs us) : RepT φ Z w (.fn f cs) (.func (.func f) #[] us.toArray)
inductive RepTs (φ : Phi) (Z : Zs) (w : World) : List T → List Value → Prop
  | nil : RepTs φ Z w [] []
  | cons {x : T} {u : Value} {xs : List T} {us : List Value} (h : RepT φ Z w x u) (t : RepTs φ Z w xs us) : RepTs φ Z w (x :: xs) (u :: us)
end

section
variable {φ φ' : Phi} {Z Z' : Zs} {w w' : World}
mutual
theorem RepT.mono (he : Ext φ φ') (hs : SubZ Z Z') (hk : KeepZ Z w w') {x : T} {u : Value} : RepT φ Z w x u → RepT φ' Z' w' x u
  | .v h => .v (h.mono hs hk)
  | .nil => .nil
  | .loc h => .loc (he _ _ h)
  | .sv h hl hm ha h0 => .sv (he _ _ h) hl hm ha h0
  | .ptr h => .ptr (he _ _ h)
  | .ptrs h => .ptrs (he _ _ h)
  | .fptr h hz => .fptr (h.mono hs hk) fun i u hu => ⟨hk.at (hz i u hu).1 (hz i u hu).2, hs _ _ (hz i u hu).2⟩
  | .agg h => .agg (RepTs.mono he hs hk h)
  | .tup h => .tup (RepTs.mono he hs hk h)
  | .fn h => .fn (RepTs.mono he hs hk h)
theorem RepTs.mono (he : Ext φ φ') (hs : SubZ Z Z') (hk : KeepZ Z w w') {x : List T} {u : List Value} : RepTs φ Z w x u → RepTs φ' Z' w' x u
  | .nil => .nil
  | .cons h t => .cons (RepT.mono he hs hk h) (RepTs.mono he hs hk t)
end
end

def blkOf : Value → Option Nat
  | .pointer (some a) => some a.block
  | .slice (some a) _ _ => some a.block
  | _ => none

/-- A block of the frame's own. -/
def RelB (P : Program) (φ : Phi) (Z : Zs) (w : World) (v : Value) : Blk → Prop
  | .arr e xs => ∃ us z, sz P e = some z ∧ 0 < z ∧ w.ownsRow 0 e z v xs.length us ∧ RepEs Z w z xs us ∧ (∀ k, blkOf v = some k → ∀ o, Z k o ↔ o < xs.length * z)
  | .ro xs => RepV Z w (.sl xs) v
  | .box e z cs => 0 < z ∧ sz P e = some z ∧ ∃ k cur, blkOf v = some k ∧ w.heap[k]? = some (.cells cur e (0, 0)) ∧ cs.length ≤ cur.size ∧ RepTs φ Z w cs (cur.toList.take cs.length) ∧ allC cs ∧ (∀ o, ¬ Z k o) ∧
      (v = .pointer (some ⟨k, 0, none⟩) ∨ ∃ n c, v = .slice (some ⟨k, 0, none⟩) n c ∧ cur.size = c * z ∧ c ≤ maxLen)

def isRo : Blk → Bool
  | .ro _ => true
  | _ => false

/-- What handles stand for, is of a plain form. -/
def PhiOk (φ : Phi) : Prop := ∀ i u, φ i = some u → u.oneCell' = true

structure RelM (P : Program) (φ : Phi) (Z : Zs) (m : Mem) (n : Nat) (w : World) : Prop where
  ok : PhiOk φ
  fresh : ∀ i, n ≤ i → φ i = none
  blk : ∀ i b, m i = some b → ∃ v, φ i = some v ∧ RelB P φ Z w v b
  ne : ∀ i j a b u v k, m i = some a → m j = some b → φ i = some u → φ j = some v → blkOf u = some k → blkOf v = some k → isRo a = false → isRo b = false → i = j
  zlt : ZOk P Z w
/-- A block that the memory names as its own. -/
def Owned (φ : Phi) (m : Mem) (k : Nat) : Prop := ∃ i b v, m i = some b ∧ isRo b = false ∧ φ i = some v ∧ blkOf v = some k

structure Step (φ : Phi) (Z : Zs) (m : Mem) (w : World) (φ' : Phi) (Z' : Zs) (m' : Mem) (w' : World) : Prop where
  ext : Ext φ φ'
  sub : SubZ Z Z'
  keep : KeepZ Z w w'
  os : w'.os = w.os
  tape : w'.tape = w.tape
  output : w'.output = w.output
  size : w.heap.size ≤ w'.heap.size
  out : ∀ k, k < w.heap.size → ¬ Owned φ m k → w'.heap[k]? = w.heap[k]?
  own : ∀ k, k < w.heap.size → Owned φ' m' k → Owned φ m k
  znew : ∀ k o, Z' k o → Z k o ∨ w.heap.size ≤ k ∨ Owned φ m k

theorem Step.refl (φ : Phi) (Z : Zs) (m : Mem) (w : World) : Step φ Z m w φ Z m w :=
  ⟨fun _ _ h => h, fun _ _ h => h, fun _ _ _ => rfl, rfl, rfl, rfl, Nat.le_refl _, fun _ _ _ => rfl, fun _ _ h => h, fun _ _ h => .inl h⟩
theorem Step.trans {φ φ1 φ2 : Phi} {Z Z1 Z2 : Zs} {m m1 m2 : Mem} {w w1 w2 : World} (h : Step φ Z m w φ1 Z1 m1 w1) (g : Step φ1 Z1 m1 w1 φ2 Z2 m2 w2) : Step φ Z m w φ2 Z2 m2 w2 where
  ext i u hu := g.ext i u (h.ext i u hu)
  sub k o hz := g.sub k o (h.sub k o hz)
  keep k o hz := (g.keep k o (h.sub k o hz)).trans (h.keep k o hz)
  os := g.os.trans h.os
  tape := g.tape.trans h.tape
  output := g.output.trans h.output
  size := Nat.le_trans h.size g.size
  out k hk ho := (g.out k (Nat.lt_of_lt_of_le hk h.size) fun ho' => ho (h.own k hk ho')).trans (h.out k hk ho)
  own k hk ho := h.own k hk (g.own k (Nat.lt_of_lt_of_le hk h.size) ho)
  znew k o hz := by
    rcases g.znew k o hz with h1 | h1 | h1
    · exact h.znew k o h1
    · exact .inr (.inl (Nat.le_trans h.size h1))
    · by_cases hk : k < w.heap.size
      · exact .inr (.inr (h.own k hk h1))
      · exact .inr (.inl (by omega))

/-- The frame and the abstract state. -/
structure RelS (P : Program) (N : Nat) (φ : Phi) (Z : Zs) (s : S) (a : Act) (w : World) : Prop where
  mem : RelM P φ Z s.m s.n w
  tm : ∀ t, RepT φ Z w (s.tm t) (a.tmps.getD t undef)
  size : a.tmps.size = N
  defers : a.defers = []

end TL
