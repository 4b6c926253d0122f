/- TL: parts TlDefs, TlRep, TlBase, TlMem, TlMem2, TlMem3, TlOps, TlOps2, TlOps3, TlOps4. -/
import Derived.Calls
import Derived.Orders
import Derived.Tactics
import Derived.Below
import Derived.Laws.AppendOwn
import Derived.Maps.AppendAt
import Derived.Deep.LoopGhost
import Derived.Laws.CopyRow
import Derived.Laws.Rows
import Derived.Laws.StructEq
import Derived.Laws.Concat
import Derived.Laws.Slices
import Derived.Laws.BytesString
import Derived.Laws.BytesArg
universe u
namespace TL
open Go

/-- A mark: simp doesn't look into what bears it. -/
class Hd {α:Sort u} (a:α):Type where
instance instHd {α:Sort u} (a:α):Hd a:=⟨⟩

def obind {α β:Type} (o:Option α) (k:α→Option β) [Hd k]:Option β:=o.bind k
@[simp] theorem obind_some {α β:Type} (x:α) (k:α→Option β):obind (some x) k=k x:=rfl
@[simp] theorem obind_none {α β:Type} (k:α→Option β):obind none k=none:=rfl
/-- A test. -/
def tst {β:Type} (c:Prop) [Decidable c] (x:Option β) [Hd x]:Option β:=if c then x else none
@[simp] theorem tst_true {β:Type} {h:Decidable True} (x:Option β) : @tst β True h x _=x:=if_pos trivial
@[simp] theorem tst_false {β:Type} {h:Decidable False} (x:Option β) : @tst β False h x _=none:=if_neg (fun h=>h)
theorem tst_pos {β:Type} {c:Prop} [Decidable c] (h:c) (x:Option β):tst c x=x:=if_pos h

/-- Pure values. -/
inductive V where
 | any | bool (b:Bool) | int (k:IntKind) (n:Int) | str (s:List UInt8)
 | agg (cs:List V) | tup (vs:List V) | sl (xs:List V) | fn (f:Nat) (cap:List V) | ref (cs:List V)
 deriving Inhabited

/-- Values of a frame: pure ones, and those that name memory of the call's own. -/
inductive T where
 | v (x:V) | nil | loc (id:Nat) | sv (id co len:Nat) | ptr (id off:Nat) | fptr (cs:List V) (off:Nat)
 | agg (cs:List T) | tup (vs:List T) | fn (f:Nat) (cap:List T) | mp (id:Nat) | nf
 deriving Inhabited

inductive Blk where
 | arr (e:TypeId) (xs:List V)
 | ro (xs:List V)
 | box (e:TypeId) (z:Nat) (cs:List T)
 | mp (es:List (Int × V))
 deriving Inhabited

abbrev Mem:=Nat→Option Blk

structure S where
 tm:Nat→T
 m:Mem
 n:Nat
 mu:Bool

def updT (f:Nat→T) (d:Nat) (x:T):Nat→T:=fun t=>if t=d then x else f t
def updM (m:Mem) (d:Nat) (x:Option Blk):Mem:=fun t=>if t=d then x else m t

@[simp] theorem updT_same (f:Nat→T) (d:Nat) (x:T):updT f d x d=x:=if_pos rfl
@[simp] theorem updT_lit (f:Nat→T) (d t:Nat) (x:T):updT f d x t=if t=d then x else f t:=rfl
@[simp] theorem updM_same (m:Mem) (d:Nat) (x:Option Blk):updM m d x d=x:=if_pos rfl
theorem updM_ne (m:Mem) {d t:Nat} (x:Option Blk) (h:t ≠ d):updM m d x t=m t:=if_neg h
@[simp] theorem updM_lit (m:Mem) (d t:Nat) (x:Option Blk):updM m d x t=if t=d then x else m t:=rfl

def V.cells:V→List V
 | .agg cs=>cs
 | x=>[x]
def T.cells:T→List T
 | .agg cs=>cs
 | .v (.agg cs)=>cs.map .v
 | x=>[x]
def V.cell:V→Bool
 | .agg _ | .tup _ | .any=>false
 | _=>true
def T.cell:T→Bool
 | .agg _ | .tup _=>false
 | .v x=>x.cell
 | _=>true
mutual
/-- Values without memory. -/
def V.flat:V→Bool
 | .bool _ | .int .. | .str _=>true
 | .tup vs=>flatL vs
 | .agg vs=>flatL vs
 | _=>false
def flatL:List V→Bool
 | []=>true
 | x :: xs=>x.flat && flatL xs
end

def constCell:Value→T
 | .bool b=>.v (.bool b)
 | .int k n=>.v (.int k n)
 | .string s=>.v (.str s.data.toList)
 | .slice none 0 0=>.nil
 | .nilFunc=>.nf
 | _=>.v .any
def const:Value→T
 | .agg cs=>.agg (cs.toList.map constCell)
 | x=>constCell x

def S.ev (s:S):Operand→T
 | .tmp t=>s.tm t
 | .const v=>const v
 | .func f=>.fn f []
 | .global _=>.v .any

/-- Chunks of z. -/
def chunk (z:Nat):Nat→List V→List V
 | 0,_=>[]
 | n+1,xs=>(if z=1 then xs.headD .any else .agg (xs.take z)) :: chunk z n (xs.drop z)

def mapO {α β:Type} (f:α→Option β):List α→Option (List β)
 | []=>some []
 | x :: xs=>(f x).bind fun y=>(mapO f xs).map (y :: ·)

/-- What a value is to others: 'k': cells that may change are let in, too (for as long as nobody writes them). -/
def bor (k:Bool) (m:Mem):Nat→T→Option V
 | _,.v x=>some x
 | _,.nil=>some (.sl [])
 | _,.loc id=>match m id with
  | some (.arr _ xs) | some (.ro xs)=>some (.sl xs)
  | _=>none
 | _,.fptr cs 0=>some (.ref cs)
 | d+1,.agg cs=>obind (mapO (bor k m d) cs) fun xs=>tst (∀ x ∈ xs,x.cell=true) (some (.agg xs))
 | d+1,.tup cs=>(mapO (bor k m d) cs).map .tup
 | d+1,.fn f cs=>(mapO (bor k m d) cs).map (.fn f)
 | d+1,.sv id co len=>if k then match m id with
   | some (.box _ z cs)=>tst (co+len * z≤cs.length) (obind (mapO (bor k m d) ((cs.drop co).take (len * z))) fun xs=>tst (∀ x ∈ xs,x.cell=true) (some (.sl (chunk z len xs))))
   | _=>none
  else none
 | d+1,.ptr id 0=>if k then match m id with
   | some (.box _ _ cs)=>obind (mapO (bor k m d) cs) fun xs=>tst (∀ x ∈ xs,x.cell=true) (some (.ref xs))
   | _=>none
  else none
 | _,_=>none

/-! ### What types say -/
def sz (P:Program) (t:TypeId):Option Nat:=(P.info? t).map (·.size)
def bytes (P:Program) (t:TypeId):Option Nat:=(P.info? t).map (·.bytes)
def isAg (P:Program) (t:TypeId):Option Bool:=(P.underlying t).map fun d=>match d with | .struct _ | .array _ _=>true | _=>false
def elT (P:Program) (t:TypeId):Option TypeId:=(P.underlying t).bind fun d=>match d with | .slice e=>some e | _=>none
def isStr (P:Program) (t:TypeId):Option Bool:=(P.underlying t).map fun d=>match d with | .string=>true | _=>false
def isBool (P:Program) (t:TypeId):Option Bool:=(P.underlying t).map fun d=>match d with | .bool=>true | _=>false
def fo (P:Program) (t:TypeId) (f:Nat):Option Nat:=(P.underlying t).bind fun d=>match d with
 | .struct fs=>(fs[f]?).bind fun g=>if sz P g.type=some 0 then none else if (sz P g.type).isSome then some g.offset else none
 | _=>none
def zeroC (P:Program) (t:TypeId):Option (List T):=(P.info? t).bind fun i=>i.zero.map fun v=>(const v).cells
def intK (P:Program) (t:TypeId):Option IntKind:=(P.underlying t).bind fun d=>match d with | .int k=>some k | _=>none

/-! ### Operations on numbers, truths and texts -/
def intBin (op:BinOp) (k:IntKind) (a b:Int):Option V :=
 match op with
 | .add=>some (.int k (k.wrap (a+b)))
 | .sub=>some (.int k (k.wrap (a-b)))
 | .mul=>some (.int k (k.wrap (a * b)))
 | .quo=>if b=0 then none else some (.int k (k.wrap (a.tdiv b)))
 | .rem=>if b=0 then none else some (.int k (a.tmod b))
 | .and=>some (.int k (k.wrap (BitVec.ofInt k.bits a &&& BitVec.ofInt k.bits b).toNat))
 | .or=>some (.int k (k.wrap (BitVec.ofInt k.bits a ||| BitVec.ofInt k.bits b).toNat))
 | .xor=>some (.int k (k.wrap (BitVec.ofInt k.bits a ^^^ BitVec.ofInt k.bits b).toNat))
 | .andNot=>some (.int k (k.wrap (BitVec.ofInt k.bits a &&& ~~~(BitVec.ofInt k.bits b)).toNat))
 | .eql=>some (.bool (decide (a=b)))
 | .neq=>some (.bool (decide (a ≠ b)))
 | .lss=>some (.bool (decide (a<b)))
 | .leq=>some (.bool (decide (a≤b)))
 | .gtr=>some (.bool (decide (b<a)))
 | .geq=>some (.bool (decide (b≤a)))
 | .shl=>if b<0 then none else some (.int k (k.wrap (a * 2 ^ (min b.toNat k.bits))))
 | .shr=>if b<0 then none else some (.int k (a.fdiv (2 ^ (min b.toNat k.bits))))
def bin (op:BinOp):V→V→Option V
 | .int k a,.int k' b=>match op with
  | .shl | .shr=>intBin op k a b
  | _=>if k=k' then intBin op k a b else none
 | .bool a,.bool b=>match op with
  | .eql=>some (.bool (a == b))
  | .neq=>some (.bool (!(a == b)))
  | _=>none
 | .str a,.str b=>match op with
  | .eql=>some (.bool (decide (a=b)))
  | .neq=>some (.bool (decide (a ≠ b)))
  | .add=>if ((a.length+b.length:Nat):Int)≤9223372036854775807 then some (.str (a++b)) else none
  | _=>none
 | _,_=>none

/-- What an operation does: a value, and what it turns in memory. -/
structure Eff where
 val:T
 us:List (Nat × Option Blk)

def bnd:Option T→Int→Option Int
 | none,d=>some d
 | some (.v (.int _ h)),_=>some h
 | _,_=>none
def slRange (len:Nat) (lo hi:Option T):Option (Nat × Nat) :=
 obind (bnd hi len) fun h=>obind (bnd lo 0) fun l=>tst (0≤l∧l≤h∧h≤(len:Int)) (some (l.toNat,h.toNat))

/-- All elements are of k cells. -/
def allZ (k:Nat) (xs:List V):Prop:=∀ x ∈ xs,x.cells.length=k∧∀ c ∈ x.cells,c.cell=true
instance (k:Nat) (xs:List V):Decidable (allZ k xs):=inferInstanceAs (Decidable (∀ x ∈ xs,x.cells.length=k∧∀ c ∈ x.cells,c.cell=true))
def allC (xs:List T):Prop:=∀ x ∈ xs,x.cell=true
instance (xs:List T):Decidable (allC xs):=inferInstanceAs (Decidable (∀ x ∈ xs,x.cell=true))

/-- The elements of a slice, as others see them. -/
def elems (m:Mem):T→Option (List V)
 | .nil=>some []
 | .v (.sl xs)=>some xs
 | .loc id=>match m id with
  | some (.arr _ xs) | some (.ro xs)=>some xs
  | _=>none
 | _=>none
/-- The cells of a slice, n elements of z each. -/
def ecells (m:Mem) (z:Nat):T→Option (Nat × List T)
 | .sv id co len=>match m id with
  | some (.box _ z' cs)=>tst (z'=z∧co+len * z≤cs.length) (some (len,(cs.drop co).take (len * z)))
  | _=>none
 | x=>obind (elems m x) fun xs=>tst (allZ z xs) (some (xs.length,xs.flatMap fun x=>x.cells.map .v))

def slLen (m:Mem):T→Option Nat
 | .sv _ _ len=>some len
 | x=>(elems m x).map List.length

/-- Cells off, off + 1, .. as one value of type t. -/
def cutV (P:Program) (t:TypeId) (cs:List V) (off:Nat):Option T :=
 obind (sz P t) fun k=>obind (isAg P t) fun a=>if a then tst (off+k≤cs.length) (some (.v (.agg ((cs.drop off).take k)))) else (cs[off]?).map .v
def cutT (P:Program) (t:TypeId) (cs:List T) (off:Nat):Option T :=
 obind (sz P t) fun k=>obind (isAg P t) fun a=>if a then tst (off+k≤cs.length) (some (.agg ((cs.drop off).take k))) else cs[off]?
def evLoad (P:Program) (t:TypeId) (m:Mem):T→Option T
 | .ptr id off=>match m id with
  | some (.box _ _ cs)=>cutT P t cs off
  | _=>none
 | .fptr cs off=>cutV P t cs off
 | .v (.ref cs)=>cutV P t cs 0
 | _=>none

def setAt (cs:List T) (off:Nat):List T→List T
 | []=>cs
 | x :: xs=>setAt (cs.set off x) (off+1) xs

def evStore (P:Program) (t:TypeId) (m:Mem) (x:T):T→Option (Nat × Option Blk)
 | .ptr id off=>match m id with
  | some (.box e z cs)=>obind (sz P t) fun k=>tst (x.cells.length=k∧allC x.cells∧off+k≤cs.length) (some (id,some (.box e z (setAt cs off x.cells))))
  | _=>none
 | _=>none

def fpAt (k:Nat) (i:Int) (xs:List V):Option T :=
 tst (0≤i) (obind (xs[i.toNat]?) fun y=>tst (y.cells.length=k∧0<k) (some (.fptr y.cells 0)))
def evIndexAddr (P:Program) (t:TypeId) (m:Mem) (x:T):T→Option T
 | .v (.int _ i)=>obind (elT P t) fun e=>obind (sz P e) fun k =>
  match x with
  | .sv id co len=>tst (0≤i∧i<(len:Int)) (some (.ptr id (co+i.toNat * k)))
  | x=>obind (elems m x) fun xs=>fpAt k i xs
 | _=>none

def evSlice (P:Program) (t:TypeId) (m:Mem) (lo hi:Option T):T→Option T
 | .v (.str s)=>tst (isStr P t=some true) (obind (slRange s.length lo hi) fun p=>some (.v (.str ((s.take p.2).drop p.1))))
 | .sv id co len=>obind (elT P t) fun e=>obind (sz P e) fun k=>match m id with
   | some (.box _ z _)=>tst (z=k) (obind (slRange len lo hi) fun p=>some (.sv id (co+p.1 * z) (p.2-p.1)))
   | _=>none
 | x=>obind (elT P t) fun e=>obind (sz P e) fun k=>obind (elems m x) fun xs =>
   tst (allZ k xs) (obind (slRange xs.length lo hi) fun p=>some (.v (.sl ((xs.take p.2).drop p.1))))

/-- A whole row without its spare room. -/
def evClip (P:Program) (t:TypeId):Option T→Option T→T→T→Option T
 | none,some (.v (.int _ h)),.v (.int _ c),.v (.sl xs)=>tst (h=(xs.length:Int)∧c=(xs.length:Int)) (obind (elT P t) fun e=>obind (sz P e) fun _=>some (.v (.sl xs)))
 | _,_,_,_=>none

/-- The same in a frame, for rows of one's own, too. -/
def evClipM (P:Program) (t:TypeId) (_m:Mem) (_id:Nat):Option T→Option T→T→T→Option Eff
 | lo,hi,mx,.sv i co len=>match lo,hi,mx with
  | none,some (.v (.int _ h)),.v (.int _ c)=>tst (co=0∧h=(len:Int)∧c=(len:Int)) (obind (elT P t) fun e'=>obind (sz P e') fun _=>some ⟨.sv i 0 len,[]⟩)
  | _,_,_=>none
 | lo,hi,mx,x=>obind (evClip P t lo hi mx x) fun x=>some ⟨x,[]⟩

def fsz (P:Program) (t:TypeId) (f:Nat):Option Nat:=(P.underlying t).bind fun d=>match d with
 | .struct fs=>(fs[f]?).bind fun g=>sz P g.type
 | _=>none
def placeC (P:Program) (t:TypeId):List (Nat × T)→List T→Option (List T)
 | [],cs=>some cs
 | (i,x) :: rest,cs=>obind (fo P t i) fun o=>obind (fsz P t i) fun k=>tst (x.cells.length=k∧allC x.cells∧o+k≤cs.length) (placeC P t rest (setAt cs o x.cells))

/-- A row of parts that are told from the first to the last one. -/
def inOrder:Nat→List (Nat × T)→Option (List T)
 | _,[]=>some []
 | i,(j,x) :: rest=>tst (j=i) ((inOrder (i+1) rest).map (x :: ·))

def newRow (P:Program) (mu:Bool) (m:Mem) (id:Nat) (e:TypeId) (xs:List T):Option Eff :=
 obind (sz P e) fun k=>tst ((zeroC P e).isSome=true∧0<k∧xs.length * k≤16777216)
  (if mu then tst (∀ x ∈ xs,x.cells.length=k∧allC x.cells) (some ⟨.sv id 0 xs.length,[(id,some (.box e k (xs.flatMap T.cells)))]⟩)
  else obind (mapO (bor false m 3) xs) fun vs=>tst (allZ k vs) (some ⟨.loc id,[(id,some (.arr e vs))]⟩))

def appMut (e:TypeId) (k by_:Nat) (i id:Nat) (co len:Nat) (e':TypeId) (z:Nat) (cs:List T) (n:Nat) (ys:List T):Option Eff :=
 tst (e'=e∧z=k∧0<k∧0<by_∧co=0∧len * k≤cs.length∧(len+n) * by_≤140737488355328∧allC ys) (some ⟨.sv id 0 (len+n),[(i,none),(id,some (.box e k (cs.take (len * k)++ys)))]⟩)
def appArr (e:TypeId) (k by_:Nat) (i id:Nat) (e':TypeId) (xs ys:List V):Option Eff :=
 tst (e'=e∧0<k∧0<by_∧allZ k ys∧(xs.length+ys.length) * by_≤140737488355328) (some ⟨.loc id,[(i,some (.ro xs)),(id,some (.arr e (xs++ys)))]⟩)
def appNil (e:TypeId) (k by_:Nat) (id:Nat) (ys:List V):Option Eff :=
 tst (0<k∧0<by_∧allZ k ys∧ys.length * by_≤140737488355328) (some ⟨.loc id,[(id,some (.arr e ys))]⟩)
def appNilMut (e:TypeId) (k by_:Nat) (id:Nat) (n:Nat) (ys:List T):Option Eff :=
 tst (0<k∧0<by_∧0<n∧n * by_≤140737488355328∧allC ys) (some ⟨.sv id 0 n,[(id,some (.box e k ys))]⟩)
/-- A type's size, that of its zero value, too. -/
def szz (P:Program) (t:TypeId):Option Nat:=(P.info? t).bind fun i=>i.zero.bind fun v=>if v.cells.size=i.size then some i.size else none
/-- append. -/
def evAppend (P:Program) (mu:Bool) (t:TypeId) (m:Mem) (id:Nat) (y:T):T→Option Eff
 | .sv i co len=>obind (elT P t) fun e=>obind (szz P e) fun k=>obind (bytes P e) fun by_=>match m i with
  | some (.box e' z cs)=>obind (ecells m k y) fun p=>appMut e k by_ i id co len e' z cs p.1 p.2
  | _=>none
 | .loc i=>obind (elT P t) fun e=>obind (szz P e) fun k=>obind (bytes P e) fun by_=>match m i with
  | some (.arr e' xs)=>obind (elems m y) fun ys=>appArr e k by_ i id e' xs ys
  | _=>none
 | .nil=>obind (elT P t) fun e=>obind (szz P e) fun k=>obind (bytes P e) fun by_ =>
  if mu then obind (ecells m k y) fun p=>appNilMut e k by_ id p.1 p.2
  else obind (elems m y) fun ys=>appNil e k by_ id ys
 | _=>none

def evMake (P:Program) (t:TypeId) (id:Nat):T→T→Option Eff
 | .v (.int .i64 l),.v (.int .i64 c)=>obind (elT P t) fun e=>obind (sz P e) fun k=>obind (bytes P e) fun by_=>obind (zeroC P e) fun zs =>
  tst (l=c∧0≤l∧(by_:Int) * l≤281474976710656∧l≤9223372036854775807∧zs.length=k∧0<k∧allC zs) (some ⟨.sv id 0 l.toNat,[(id,some (.box e k ((List.replicate l.toNat zs).flatten)))]⟩)
 | _,_=>none

def toBytes:List V→Option (List UInt8)
 | []=>some []
 | .int .u8 n :: xs=>(toBytes xs).map (UInt8.ofNat n.toNat :: ·)
 | _=>none

def evConvert (P:Program) (src dst:TypeId) (m:Mem):T→Option T
 | .v (.int _ n)=>obind (intK P src) fun _=>obind (intK P dst) fun k=>some (.v (.int k (k.wrap n)))
 | .v (.str s)=>tst (isStr P src=some true∧isStr P dst=some true) (some (.v (.str s)))
 | x=>tst (isStr P dst=some true) (obind (elT P src) fun e=>tst (intK P e=some .u8) (obind (elems m x) fun xs=>(toBytes xs).map fun s=>.v (.str s)))

def evLen (P:Program) (t:TypeId) (m:Mem):T→Option Eff
 | .v (.str s)=>tst (isStr P t=some true) (some ⟨.v (.int .i64 s.length),[]⟩)
 | x=>obind (elT P t) fun _=>obind (slLen m x) fun n=>some ⟨.v (.int .i64 n),[]⟩
def evBuiltin (P:Program) (mu:Bool) (b:Builtin) (ts:List TypeId) (m:Mem) (id:Nat) (xs:List T):Option Eff :=
 match b,xs with
 | .len,[x]=>match ts with
  | t :: _=>evLen P t m x
  | _=>none
 | .append,[x,y]=>match ts with
  | [t,t']=>tst (t=t') (evAppend P mu t m id y x)
  | _=>none
 | .max,[.v (.int .i64 a),.v (.int .i64 b)]=>some ⟨.v (.int .i64 (max a b)),[]⟩
 | .min,[.v (.int .i64 a),.v (.int .i64 b)]=>some ⟨.v (.int .i64 (min a b)),[]⟩
 | _,_=>none

/-- The kinds of the fields of a struct that is compared: truth, number, text. -/
def kindsFrom (P:Program):Nat→List Field→Option (List Nat)
 | _,[]=>some []
 | i,f :: fs => if f.name ≠ "_" ∧ f.offset = i then (match P.underlying f.type with | some .bool => some 0 | some (.int _) => some 1 | some .string => some 2 | _ => none).bind fun k => (kindsFrom P (i + 1) fs).map (k :: ·) else none
def eqKinds (P:Program) (t:TypeId):Option (List Nat):=match P.underlying t with
 | some (.struct fs)=>if !P.stoodInHeld t && !P.eqGuardType P.depth t then kindsFrom P 0 fs.toList else none
 | _=>none
def cellsEq:List Nat→List V→List V→Option Bool
 | [],[],[]=>some true
 | 0 :: ks,.bool a :: as,.bool b :: bs=>(cellsEq ks as bs).map fun q=>(a == b) && q
 | 1 :: ks,.int k a :: as,.int k' b :: bs=>tst (k=k') ((cellsEq ks as bs).map fun q=>(decide (a=b)) && q)
 | 2 :: ks,.str a :: as,.str b :: bs=>(cellsEq ks as bs).map fun q=>(decide (a=b)) && q
 | _,_,_=>none
def structEq (op : BinOp) (ks : List Nat) : V → V → Option T
  | .agg as,.agg bs => obind (cellsEq ks as bs) fun q => match op with
        | .eql => some (.v (.bool q))
        | .neq => some (.v (.bool (!q)))
        | _ => none
  | _,_ => none
def evBin (P:Program) (m:Mem) (op:BinOp) (t:TypeId) (x y:T):Option T :=
 match x,y with
 | .v (.int k a),.v (.int k' b)=>obind (bin op (.int k a) (.int k' b)) fun r=>some (.v r)
 | .v (.bool a),.v (.bool b)=>tst (isBool P t=some true) (obind (bin op (.bool a) (.bool b)) fun r=>some (.v r))
 | .v (.str a),.v (.str b)=>obind (bin op (.str a) (.str b)) fun r=>some (.v r)
 | x,y=>obind (eqKinds P t) fun ks=>obind (bor false m 2 x) fun a=>obind (bor false m 2 y) fun b=>structEq op ks a b

def boolOf:T→Option Bool
 | .v (.bool b)=>some b
 | _=>none
def evNilCheck:T→Option T
 | .ptr i o=>some (.ptr i o)
 | .fptr cs o=>some (.fptr cs o)
 | .v (.ref cs)=>some (.v (.ref cs))
 | _=>none
def evFieldAddr (P:Program) (t:TypeId) (f:Nat):T→Option T
 | .ptr i q=>obind (fo P t f) fun o=>some (.ptr i (q+o))
 | .fptr cs q=>obind (fo P t f) fun o=>some (.fptr cs (q+o))
 | .v (.ref cs)=>obind (fo P t f) fun o=>some (.fptr cs o)
 | _=>none
def evIndex (P:Program) (t:TypeId) (i:T):T→Option T
 | .v (.str s)=>match i with
  | .v (.int _ n)=>tst (isStr P t=some true∧0≤n) (obind (s[n.toNat]?) fun c=>some (.v (.int .u8 c.toNat)))
  | _=>none
 | _=>none
def evExtract (i:Nat):T→Option T
 | .tup vs=>vs[i]?
 | .v (.tup vs)=>(vs[i]?).map .v
 | _=>none
def fld (P:Program) (t:TypeId) (f:Nat):Option (TypeId × Nat):=(P.underlying t).bind fun d=>match d with
 | .struct fs=>(fs[f]?).map fun g=>(g.type,g.offset)
 | _=>none
def evField (P:Program) (t:TypeId) (f:Nat):T→Option T
 | .v (.agg cs)=>obind (fld P t f) fun g=>cutV P g.1 cs g.2
 | .agg cs=>obind (fld P t f) fun g=>cutT P g.1 cs g.2
 | _=>none
def evNeg:T→Option T
 | .v (.int k n)=>some (.v (.int k (k.wrap (0-n))))
 | _=>none
def fieldsOk (P:Program) (t:TypeId):Bool:=match P.underlying t with
 | some (.struct fs)=>fs.toList.all fun f=>(P.info? f.type).isSome
 | _=>false
def evBuild (P:Program) (t:TypeId) (parts:List (Nat × T)):Option T :=
 obind (zeroC P t) fun zs=>obind (sz P t) fun k=>tst (zs.length=k∧fieldsOk P t=true∧allC zs) (obind (placeC P t parts zs) fun cs=>some (.agg cs))
def evAlloc (P:Program) (t:TypeId) (id:Nat):Option Eff :=
 obind (zeroC P t) fun zs=>obind (sz P t) fun k=>tst (zs.length=k∧allC zs∧0<k) (some ⟨.ptr id 0,[(id,some (.box t k zs))]⟩)
def evBox (P:Program) (t:TypeId) (id:Nat) (x:T):Option Eff :=
 obind (sz P t) fun k=>tst (x.cells.length=k∧allC x.cells∧0<k) (some ⟨.ptr id 0,[(id,some (.box t k x.cells))]⟩)
def evBuildSlice (P:Program) (mu:Bool) (t:TypeId) (m:Mem) (id len:Nat) (parts:List (Nat × T)):Option Eff :=
 obind (elT P t) fun e=>obind (inOrder 0 parts) fun xs=>tst (xs.length=len) (newRow P mu m id e xs)
def evPick (b:Bool) (x y:T):T:=if b then x else y

/-! Maps of numbers to values without memory. -/
def mapZ (P:Program) (t:TypeId):Option V:=(P.underlying t).bind fun d=>match d with
 | .map k e=>if intK P k=some .i64 then (P.info? e).bind fun i=>match i.zero with
  | some (.int q n)=>some (.int q n)
  | some (.bool b)=>some (.bool b)
  | _=>none
  else none
 | _=>none
def mset (k:Int) (v:V):List (Int × V)→List (Int × V)
 | []=>[(k,v)]
 | (j,u) :: es=>if j=k then (j,v) :: es else (j,u) :: mset k v es
def mget (k:Int):List (Int × V)→Option V
 | []=>none
 | (j,u) :: es=>if j=k then some u else mget k es
def lkT (ok:Bool) (o:Option V) (z:V):T:=if ok then .tup [.v (o.getD z),.v (.bool o.isSome)] else .v (o.getD z)
def evMakeMap (P:Program) (t:TypeId) (id:Nat):Option Eff:=obind (mapZ P t) fun _=>some ⟨.mp id,[(id,some (.mp []))]⟩
def evLookup (P:Program) (t:TypeId) (m:Mem) (ok:Bool) (x i:T):Option T :=
 match x,i with
 | .mp id,.v (.int .i64 k)=>match m id with
  | some (.mp es)=>obind (mapZ P t) fun z=>some (lkT ok (mget k es) z)
  | _=>none
 | _,_=>none
def evMapSet (P:Program) (t:TypeId) (m:Mem) (x i y:T):Option (Nat × Option Blk) :=
 match x,i,y with
 | .mp id,.v (.int .i64 k),.v u=>match m id with
  | some (.mp es)=>obind (mapZ P t) fun _=>tst (u.flat=true∧u.cell=true) (some (id,some (.mp (mset k u es))))
  | _=>none
 | _,_,_=>none

/-- All operations but the calls of functions. -/
def opF (P:Program) (mu:Bool) (ρ:Operand→T) (m:Mem) (id:Nat):Op→Option Eff
 | .move x | .assign x=>some ⟨ρ x,[]⟩
 | .pick c a b=>obind (boolOf (ρ c)) fun q=>some ⟨evPick q (ρ a) (ρ b),[]⟩
 | .alloc t=>evAlloc P t id
 | .box t x=>evBox P t id (ρ x)
 | .build t parts=>obind (evBuild P t (parts.toList.map fun p=>(p.1,ρ p.2))) fun x=>some ⟨x,[]⟩
 | .buildSlice t len parts=>evBuildSlice P mu t m id len (parts.toList.map fun p=>(p.1,ρ p.2))
 | .load t a=>obind (evLoad P t m (ρ a)) fun x=>some ⟨x,[]⟩
 | .store t a x=>obind (evStore P t m (ρ x) (ρ a)) fun u=>some ⟨.v .any,[u]⟩
 | .nilCheck x=>obind (evNilCheck (ρ x)) fun x=>some ⟨x,[]⟩
 | .binOp op t x y _=>obind (evBin P m op t (ρ x) (ρ y)) fun x=>some ⟨x,[]⟩
 | .unOp .not _ x=>obind (boolOf (ρ x)) fun b=>some ⟨.v (.bool !b),[]⟩
 | .unOp .neg _ x=>obind (evNeg (ρ x)) fun x=>some ⟨x,[]⟩
 | .convert src dst x=>obind (evConvert P src dst m (ρ x)) fun x=>some ⟨x,[]⟩
 | .makeFunc (.func f) first cap=>tst (first = #[]) (some ⟨.fn f (cap.toList.map ρ),[]⟩)
 | .makeSlice t l c=>evMake P t id (ρ l) (ρ c)
 | .slice t x lo hi none=>obind (evSlice P t m (lo.map ρ) (hi.map ρ) (ρ x)) fun x=>some ⟨x,[]⟩
 | .slice t x lo hi (some mx)=>evClipM P t m id (lo.map ρ) (hi.map ρ) (ρ mx) (ρ x)
 | .fieldAddr t x f=>obind (evFieldAddr P t f (ρ x)) fun x=>some ⟨x,[]⟩
 | .field t x f=>obind (evField P t f (ρ x)) fun x=>some ⟨x,[]⟩
 | .indexAddr t x i=>obind (evIndexAddr P t m (ρ x) (ρ i)) fun x=>some ⟨x,[]⟩
 | .index t x i=>obind (evIndex P t (ρ i) (ρ x)) fun x=>some ⟨x,[]⟩
 | .extract x i=>obind (evExtract i (ρ x)) fun x=>some ⟨x,[]⟩
 | .makeMap t none=>evMakeMap P t id
 | .lookup t x i ok=>obind (evLookup P t m ok (ρ x) (ρ i)) fun x=>some ⟨x,[]⟩
 | .mapUpdate t x i y=>obind (evMapSet P t m (ρ x) (ρ i) (ρ y)) fun u=>some ⟨.v .any,[u]⟩
 | .insert t x i y=>obind (evMapSet P t m (ρ x) (ρ i) (ρ y)) fun u=>some ⟨.v .any,[u]⟩
 | .call { callee:=.builtin b,args,argTypes } => evBuiltin P mu b argTypes.toList m id (args.toList.map ρ)
 | _=>none

def applyUs (m:Mem):List (Nat × Option Blk)→Mem
 | []=>m
 | (i,b) :: us=>applyUs (updM m i b) us
def bump (n:Nat):List (Nat × Option Blk)→Nat
 | []=>n
 | _ :: _=>n+1
def S.put (s:S) (d:Option Nat) (x:T) [Hd s]:S := { s with tm:=match d with | some d=>updT s.tm d x | none=>s.tm }
def S.app (s:S) (d:Option Nat) (E:Eff) [Hd s] [Hd E]:S := { s with tm:=match d with | some d=>updT s.tm d E.val | none=>s.tm,m:=applyUs s.m E.us,n:=bump s.n E.us }

end TL

namespace TL
open Go Go.RowKit

/-- Sets of cells that stay. -/
abbrev Zs:=Nat→Nat→Prop

mutual
inductive RepV (Z:Zs) (w:World):V→Value→Prop
 | any (u:Value):RepV Z w .any u
 | bool (b:Bool):RepV Z w (.bool b) (.bool b)
 | int (k:IntKind) (n:Int):RepV Z w (.int k n) (.int k n)
 | str {s:List UInt8} {b:ByteArray} (h:b.data.toList=s):RepV Z w (.str s) (.string b)
 | agg {cs:List V} {us:List Value} (h:RepCs Z w cs us):RepV Z w (.agg cs) (.agg us.toArray)
 | tup {cs:List V} {us:List Value} (h:RepVs Z w cs us):RepV Z w (.tup cs) (.tuple us.toArray)
 | fn {f:Nat} {cs:List V} {us:List Value} (h:RepVs Z w cs us):RepV Z w (.fn f cs) (.func (.func f) #[] us.toArray)
 | nil (A:Option Addr) (c:Nat):RepV Z w (.sl []) (.slice A 0 c)
 | sl {z:Nat} {xs:List V} {us:List Value} {ad:Addr} {n c:Nat} (h:RepEs Z w z xs us) (hn:xs.length=n) (hc:n≤c) (hm:c≤maxLen)
   (hz:∀ i u,us[i]? = some u→w.cell? (ad.add i)=some u∧Z (ad.add i).block (ad.add i).off):RepV Z w (.sl xs) (.slice (some ad) n c)
 | ref {cs:List V} {us:List Value} {ad:Addr} (h:RepCs Z w cs us)
   (hz:∀ i u,us[i]? = some u→w.cell? (ad.add i)=some u∧Z (ad.add i).block (ad.add i).off):RepV Z w (.ref cs) (.pointer (some ad))
inductive RepVs (Z:Zs) (w:World):List V→List Value→Prop
 | nil:RepVs Z w [] []
 | cons {x:V} {u:Value} {xs:List V} {us:List Value} (h:RepV Z w x u) (t:RepVs Z w xs us):RepVs Z w (x :: xs) (u :: us)
inductive RepCs (Z:Zs) (w:World):List V→List Value→Prop
 | nil:RepCs Z w [] []
 | cons {x:V} {u:Value} {xs:List V} {us:List Value} (hc:x.cell=true) (h:RepV Z w x u) (t:RepCs Z w xs us):RepCs Z w (x :: xs) (u :: us)
inductive RepEs (Z:Zs) (w:World):Nat→List V→List Value→Prop
 | nil (z:Nat):RepEs Z w z [] []
 | agg {z:Nat} {cs:List V} {u us:List Value} {xs:List V} (h:RepCs Z w cs u) (hl:u.length=z) (t:RepEs Z w z xs us):RepEs Z w z (.agg cs :: xs) (u++us)
 | one {x:V} {u:Value} {us:List Value} {xs:List V} (hc:x.cell=true) (h:RepV Z w x u) (t:RepEs Z w 1 xs us):RepEs Z w 1 (x :: xs) (u :: us)
end

def freshZ (Z:Zs) (a b:Nat):Zs:=fun k o=>Z k o∨(a≤k∧k<b)

/-- Which of the library's variables are known to hold what. -/
def GQ (P:Program) (g:Nat) (Q:Value→Prop):Prop :=
 (P.globalNamed "internal/bytealg.MaxLen" = some g ∧ Q = fun v => ∃ m,v = .int .i64 m) ∨
 ((P.globalNamed "strconv.ErrSyntax" = some g ∨ P.globalNamed "strconv.ErrRange" = some g) ∧ Q = fun v => v = .nilIface ∨ ∃ t p,v = .iface t p)
theorem GQ.maxLen {P : Program} {g : Nat} (h : P.globalNamed "internal/bytealg.MaxLen" = some g) : GQ P g (fun v => ∃ m,v = .int .i64 m) := .inl ⟨h,rfl⟩
theorem GQ.errSyntax {P : Program} {g : Nat} (h : P.globalNamed "strconv.ErrSyntax" = some g) : GQ P g (fun v => v = .nilIface ∨ ∃ t p,v = .iface t p) := .inr ⟨.inl h,rfl⟩
theorem GQ.errRange {P : Program} {g : Nat} (h : P.globalNamed "strconv.ErrRange" = some g) : GQ P g (fun v => v = .nilIface ∨ ∃ t p,v = .iface t p) := .inr ⟨.inr h,rfl⟩
/-- They hold it, and stay. -/
def Gl (P:Program) (Z:Zs) (w:World):Prop:=∀ g Q,GQ P g Q→Z g 0∧∃ v,w.cell? ⟨g,0,none⟩=some v∧Q v
structure ZOk (P:Program) (Z:Zs) (w:World):Prop where
 lt:∀ k o,Z k o→k<w.heap.size
 gl:Gl P Z w

/-- A function's contract over pure values: called in whatever memory that holds the arguments it returns the result; nothing that was there is changed. -/
def FnZ (P:Program) (f:Nat) (args:List V) (r:V):Prop :=
 (∃ fn,P.funcs[f]? = some fn ∧ (fn.name == "runtime.NumGoroutine") = false ∧ fn.body.isNone = false) ∧
 ∀ (Z:Zs) (w:World) (vs:List Value),ZOk P Z w→RepVs Z w args vs →
  Calls P f vs.toArray w fun e w'=>∃ v,e=.returned v∧Below w.heap.size w w'∧RepV (freshZ Z w.heap.size w'.heap.size) w' r v
end TL

namespace TL
open Go Go.RowKit

theorem add_lit (k o i:Nat):(⟨k,o,none⟩:Addr).add i=⟨k,o+i,none⟩:=by unfold Addr.add; split <;> simp_all
theorem add_add (a:Addr) (i j:Nat):(a.add i).add j=a.add (i+j):=by
 unfold Addr.add; by_cases hi:i=0 <;> by_cases hj:j=0 <;> simp [hi,hj,Nat.add_assoc]
theorem add_zero' (a:Addr):a.add 0=a:=rfl
theorem spot_of_cell {w:World} {a:Addr} {u:Value} (h:w.cell? a=some u):a.spot=none:=by
 unfold World.cell? at h
 split at h
 ·split at h
  ·cases h
  ·rename_i hs; simpa using hs
 ·cases h

def SubZ (Z Z':Zs):Prop:=∀ k o,Z k o→Z' k o
def KeepZ (Z:Zs) (w w':World):Prop:=∀ k o,Z k o→w'.cell? ⟨k,o,none⟩=w.cell? ⟨k,o,none⟩
theorem Gl.keep {P:Program} {Z Z':Zs} {w w':World} (h:Gl P Z w) (hs:SubZ Z Z') (hk:KeepZ Z w w'):Gl P Z' w':=fun g Q hq=>by
 obtain ⟨hz,v,hv,hp⟩:=h g Q hq
 exact ⟨hs _ _ hz,v,by rw [hk _ _ hz,hv],hp⟩
theorem KeepZ.at {Z:Zs} {w w':World} (h:KeepZ Z w w') {a:Addr} {u:Value} (hc:w.cell? a=some u) (hz:Z a.block a.off):w'.cell? a=some u:=by
 obtain ⟨b,o,sp⟩:=a
 obtain rfl:sp=none:=spot_of_cell hc
 rw [← hc]; exact h _ _ hz

section
variable {Z Z':Zs} {w w':World}
mutual
theorem RepV.mono (hs:SubZ Z Z') (hk:KeepZ Z w w') {x:V} {u:Value} : RepV Z w x u→RepV Z' w' x u
 | .any u=>.any u
 | .bool b=>.bool b
 | .int k n=>.int k n
 | .str h=>.str h
 | .agg h=>.agg (RepCs.mono hs hk h)
 | .tup h=>.tup (RepVs.mono hs hk h)
 | .fn h=>.fn (RepVs.mono hs hk h)
 | .nil A c=>.nil A c
 | .sl h hn hc hm hz=>.sl (RepEs.mono hs hk h) hn hc hm fun i u hu=>⟨hk.at (hz i u hu).1 (hz i u hu).2,hs _ _ (hz i u hu).2⟩
 | .ref h hz=>.ref (RepCs.mono hs hk h) fun i u hu=>⟨hk.at (hz i u hu).1 (hz i u hu).2,hs _ _ (hz i u hu).2⟩
theorem RepVs.mono (hs:SubZ Z Z') (hk:KeepZ Z w w') {x:List V} {u:List Value} : RepVs Z w x u→RepVs Z' w' x u
 | .nil=>.nil
 | .cons h t=>.cons (RepV.mono hs hk h) (RepVs.mono hs hk t)
theorem RepCs.mono (hs:SubZ Z Z') (hk:KeepZ Z w w') {x:List V} {u:List Value} : RepCs Z w x u→RepCs Z' w' x u
 | .nil=>.nil
 | .cons hc h t=>.cons hc (RepV.mono hs hk h) (RepCs.mono hs hk t)
theorem RepEs.mono (hs:SubZ Z Z') (hk:KeepZ Z w w') {z:Nat} {x:List V} {u:List Value} : RepEs Z w z x u→RepEs Z' w' z x u
 | .nil z=>.nil z
 | .agg h hl t=>.agg (RepCs.mono hs hk h) hl (RepEs.mono hs hk t)
 | .one hc h t=>.one hc (RepV.mono hs hk h) (RepEs.mono hs hk t)
end
end

/-- The values that handles stand for. -/
abbrev Phi:=Nat→Option Value
def Ext (φ φ':Phi):Prop:=∀ i u,φ i=some u→φ' i=some u

mutual
inductive RepT (φ:Phi) (Z:Zs) (w:World):T→Value→Prop
 | v {x:V} {u:Value} (h:RepV Z w x u):RepT φ Z w (.v x) u
 | nil:RepT φ Z w .nil (.slice none 0 0)
 | loc {id:Nat} {u:Value} (h:φ id=some u):RepT φ Z w (.loc id) u
 | sv {id co len k n c c':Nat} {A:Option Addr} (h:φ id=some (.slice (some ⟨k,0,none⟩) n c)) (hl:len≤c') (hm:c'≤maxLen) (ha:0<len→A=some ⟨k,co,none⟩)
   (h0:co=0→A=some ⟨k,0,none⟩∧c'≤c):RepT φ Z w (.sv id co len) (.slice A len c')
 | ptr {id off k:Nat} (h:φ id=some (.pointer (some ⟨k,0,none⟩))):RepT φ Z w (.ptr id off) (.pointer (some ⟨k,off,none⟩))
 | ptrs {id off k n c:Nat} (h:φ id=some (.slice (some ⟨k,0,none⟩) n c)):RepT φ Z w (.ptr id off) (.pointer (some ⟨k,off,none⟩))
 | fptr {cs:List V} {off:Nat} {us:List Value} {ad:Addr} (h:RepCs Z w cs us)
   (hz:∀ i u,us[i]? = some u→w.cell? (ad.add i)=some u∧Z (ad.add i).block (ad.add i).off):RepT φ Z w (.fptr cs off) (.pointer (some (ad.add off)))
 | agg {cs:List T} {us:List Value} (h:RepTs φ Z w cs us):RepT φ Z w (.agg cs) (.agg us.toArray)
 | tup {cs:List T} {us:List Value} (h:RepTs φ Z w cs us):RepT φ Z w (.tup cs) (.tuple us.toArray)
 | fn {f:Nat} {cs:List T} {us:List Value} (h:RepTs φ Z w cs us):RepT φ Z w (.fn f cs) (.func (.func f) #[] us.toArray)
 | mp {id k:Nat} (h:φ id=some (.map (some k))):RepT φ Z w (.mp id) (.map (some k))
 | nf:RepT φ Z w .nf .nilFunc
inductive RepTs (φ:Phi) (Z:Zs) (w:World):List T→List Value→Prop
 | nil:RepTs φ Z w [] []
 | cons {x:T} {u:Value} {xs:List T} {us:List Value} (h:RepT φ Z w x u) (t:RepTs φ Z w xs us):RepTs φ Z w (x :: xs) (u :: us)
end

section
variable {φ φ':Phi} {Z Z':Zs} {w w':World}
mutual
theorem RepT.mono (he:Ext φ φ') (hs:SubZ Z Z') (hk:KeepZ Z w w') {x:T} {u:Value} : RepT φ Z w x u→RepT φ' Z' w' x u
 | .v h=>.v (h.mono hs hk)
 | .nil=>.nil
 | .loc h=>.loc (he _ _ h)
 | .sv h hl hm ha h0=>.sv (he _ _ h) hl hm ha h0
 | .ptr h=>.ptr (he _ _ h)
 | .ptrs h=>.ptrs (he _ _ h)
 | .fptr h hz=>.fptr (h.mono hs hk) fun i u hu=>⟨hk.at (hz i u hu).1 (hz i u hu).2,hs _ _ (hz i u hu).2⟩
 | .agg h=>.agg (RepTs.mono he hs hk h)
 | .tup h=>.tup (RepTs.mono he hs hk h)
 | .fn h=>.fn (RepTs.mono he hs hk h)
 | .mp h=>.mp (he _ _ h)
 | .nf=>.nf
theorem RepTs.mono (he:Ext φ φ') (hs:SubZ Z Z') (hk:KeepZ Z w w') {x:List T} {u:List Value} : RepTs φ Z w x u→RepTs φ' Z' w' x u
 | .nil=>.nil
 | .cons h t=>.cons (RepT.mono he hs hk h) (RepTs.mono he hs hk t)
end
end

def blkOf:Value→Option Nat
 | .pointer (some a)=>some a.block
 | .slice (some a) _ _=>some a.block
 | .map (some k)=>some k
 | _=>none

/-- The entries of a map. -/
def RepM:List (Int × V)→List MapEntry→Prop
 | [],[]=>True
 | (k,v) :: es,x :: l=>x.key=.int .i64 k∧v.flat=true∧v.cell=true∧(∀ (Z:Zs) (w:World),RepV Z w v x.val)∧RepM es l
 | _,_=>False

/-- A block of the frame's own. -/
def RelB (P:Program) (φ:Phi) (Z:Zs) (w:World) (v:Value):Blk→Prop
 | .arr e xs=>∃ us z,sz P e=some z∧0<z∧w.ownsRow 0 e z v xs.length us∧RepEs Z w z xs us∧(∀ k,blkOf v=some k→∀ o,Z k o↔o<xs.length * z)
 | .ro xs=>RepV Z w (.sl xs) v
 | .box e z cs=>0<z∧sz P e=some z∧∃ k cur,blkOf v=some k∧w.heap[k]? = some (.cells cur e (0,0))∧cs.length≤cur.size∧RepTs φ Z w cs (cur.toList.take cs.length)∧allC cs∧(∀ o,¬Z k o) ∧
   (v=.pointer (some ⟨k,0,none⟩)∨∃ n c,v=.slice (some ⟨k,0,none⟩) n c∧c * z≤cur.size∧c≤maxLen)
 | .mp es=>∃ k ents clock,v=.map (some k)∧w.heap[k]? = some (.map ents clock)∧RepM es ents.toList∧∀ o,¬Z k o

def isRo:Blk→Bool
 | .ro _=>true
 | _=>false

/-- What handles stand for, is of a plain form. -/
def PhiOk (φ:Phi):Prop:=∀ i u,φ i=some u→u.oneCell'=true

structure RelM (P:Program) (φ:Phi) (Z:Zs) (m:Mem) (n:Nat) (w:World):Prop where
 ok:PhiOk φ
 fresh:∀ i,n≤i→φ i=none
 blk:∀ i b,m i=some b→∃ v,φ i=some v∧RelB P φ Z w v b
 ne:∀ i j a b u v k,m i=some a→m j=some b→φ i=some u→φ j=some v→blkOf u=some k→blkOf v=some k→isRo a=false→isRo b=false→i=j
 zlt:ZOk P Z w
/-- A block that the memory names as its own. -/
def Owned (φ:Phi) (m:Mem) (k:Nat):Prop:=∃ i b v,m i=some b∧isRo b=false∧φ i=some v∧blkOf v=some k

structure Step (φ:Phi) (Z:Zs) (m:Mem) (w:World) (φ':Phi) (Z':Zs) (m':Mem) (w':World):Prop where
 ext:Ext φ φ'
 sub:SubZ Z Z'
 keep:KeepZ Z w w'
 os:w'.os=w.os
 tape:w'.tape=w.tape
 output:w'.output=w.output
 size:w.heap.size≤w'.heap.size
 out:∀ k,k<w.heap.size→¬Owned φ m k→w'.heap[k]? = w.heap[k]?
 own:∀ k,k<w.heap.size→Owned φ' m' k→Owned φ m k
 znew:∀ k o,Z' k o→Z k o∨w.heap.size≤k∨Owned φ m k

theorem Step.refl (φ:Phi) (Z:Zs) (m:Mem) (w:World):Step φ Z m w φ Z m w :=
 ⟨fun _ _ h=>h,fun _ _ h=>h,fun _ _ _=>rfl,rfl,rfl,rfl,Nat.le_refl _,fun _ _ _=>rfl,fun _ _ h=>h,fun _ _ h=>.inl h⟩
theorem Step.trans {φ φ1 φ2:Phi} {Z Z1 Z2:Zs} {m m1 m2:Mem} {w w1 w2:World} (h:Step φ Z m w φ1 Z1 m1 w1) (g:Step φ1 Z1 m1 w1 φ2 Z2 m2 w2):Step φ Z m w φ2 Z2 m2 w2 where
 ext i u hu:=g.ext i u (h.ext i u hu)
 sub k o hz:=g.sub k o (h.sub k o hz)
 keep k o hz:=(g.keep k o (h.sub k o hz)).trans (h.keep k o hz)
 os:=g.os.trans h.os
 tape:=g.tape.trans h.tape
 output:=g.output.trans h.output
 size:=Nat.le_trans h.size g.size
 out k hk ho:=(g.out k (Nat.lt_of_lt_of_le hk h.size) fun ho'=>ho (h.own k hk ho')).trans (h.out k hk ho)
 own k hk ho:=h.own k hk (g.own k (Nat.lt_of_lt_of_le hk h.size) ho)
 znew k o hz:=by
  rcases g.znew k o hz with h1 | h1 | h1
  ·exact h.znew k o h1
  ·exact .inr (.inl (Nat.le_trans h.size h1))
  ·by_cases hk:k<w.heap.size
   ·exact .inr (.inr (h.own k hk h1))
   ·exact .inr (.inl (by omega))

/-- The frame and the abstract state. -/
structure RelS (P:Program) (N:Nat) (φ:Phi) (Z:Zs) (s:S) (a:Act) (w:World):Prop where
 mem:RelM P φ Z s.m s.n w
 tm:∀ t,RepT φ Z w (s.tm t) (a.tmps.getD t undef)
 size:a.tmps.size=N
 defers:a.defers=[]

end TL

namespace TL
open Go Go.RowKit

section
variable {P:Program} {φ φ':Phi} {Z Z':Zs} {m:Mem} {n:Nat} {w w':World}

theorem RepTs.length {cs:List T} {us:List Value} (h:RepTs φ Z w cs us):cs.length=us.length:=by
 induction cs generalizing us with
 | nil=>cases h; rfl
 | cons x xs ih=>cases h with | cons h t=>simp [ih t]
theorem RepVs.length {cs:List V} {us:List Value} (h:RepVs Z w cs us):cs.length=us.length:=by
 induction cs generalizing us with
 | nil=>cases h; rfl
 | cons x xs ih=>cases h with | cons h t=>simp [ih t]
theorem RepCs.length {cs:List V} {us:List Value} (h:RepCs Z w cs us):cs.length=us.length:=by
 induction cs generalizing us with
 | nil=>cases h; rfl
 | cons x xs ih=>cases h with | cons hc h t=>simp [ih t]
theorem RepTs.append {a b:List T} {us vs:List Value} (h:RepTs φ Z w a us) (g:RepTs φ Z w b vs):RepTs φ Z w (a++b) (us++vs):=by
 induction a generalizing us with
 | nil=>cases h; exact g
 | cons x xs ih=>cases h with | cons h t=>exact .cons h (ih t)
theorem RepTs.get {cs:List T} {us:List Value} (h:RepTs φ Z w cs us):∀ (i:Nat) (x:T),cs[i]? = some x→∃ u,us[i]? = some u∧RepT φ Z w x u:=by
 induction cs generalizing us with
 | nil=>intro i x hx; simp at hx
 | cons y ys ih =>
  cases h with
  | cons h t =>
   intro i x hx
   cases i with
   | zero=>simp at hx; subst hx; exact ⟨_,rfl,h⟩
   | succ i=>exact ih t i x (by simpa using hx)
theorem RepTs.take {cs:List T} {us:List Value} (h:RepTs φ Z w cs us) (k:Nat):RepTs φ Z w (cs.take k) (us.take k):=by
 induction cs generalizing us k with
 | nil=>cases h; simpa using RepTs.nil
 | cons y ys ih =>
  cases h with
  | cons h t=>cases k with
   | zero=>simpa using RepTs.nil
   | succ k=>exact .cons h (ih t k)
theorem RepTs.drop {cs:List T} {us:List Value} (h:RepTs φ Z w cs us) (k:Nat):RepTs φ Z w (cs.drop k) (us.drop k):=by
 induction cs generalizing us k with
 | nil=>cases h; simpa using RepTs.nil
 | cons y ys ih =>
  cases h with
  | cons h t=>cases k with
   | zero=>exact .cons h t
   | succ k=>exact ih t k
theorem RepCs.get {cs:List V} {us:List Value} (h:RepCs Z w cs us):∀ (i:Nat) (x:V),cs[i]? = some x→∃ u,us[i]? = some u∧RepV Z w x u:=by
 induction cs generalizing us with
 | nil=>intro i x hx; simp at hx
 | cons y ys ih =>
  cases h with
  | cons hc h t =>
   intro i x hx
   cases i with
   | zero=>simp at hx; subst hx; exact ⟨_,rfl,h⟩
   | succ i=>exact ih t i x (by simpa using hx)
theorem RepCs.take {cs:List V} {us:List Value} (h:RepCs Z w cs us) (k:Nat):RepCs Z w (cs.take k) (us.take k):=by
 induction cs generalizing us k with
 | nil=>cases h; simpa using RepCs.nil
 | cons y ys ih =>
  cases h with
  | cons hc h t=>cases k with
   | zero=>simpa using RepCs.nil
   | succ k=>exact .cons hc h (ih t k)
theorem RepCs.drop {cs:List V} {us:List Value} (h:RepCs Z w cs us) (k:Nat):RepCs Z w (cs.drop k) (us.drop k):=by
 induction cs generalizing us k with
 | nil=>cases h; simpa using RepCs.nil
 | cons y ys ih =>
  cases h with
  | cons hc h t=>cases k with
   | zero=>exact .cons hc h t
   | succ k=>exact ih t k
theorem RepCs.toTs {cs:List V} {us:List Value} (h:RepCs Z w cs us):RepTs φ Z w (cs.map .v) us:=by
 induction cs generalizing us with
 | nil=>cases h; exact .nil
 | cons y ys ih=>cases h with | cons hc h t=>exact .cons (.v h) (ih t)
theorem RepCs.cells {cs:List V} {us:List Value} (h:RepCs Z w cs us):∀ c ∈ cs,c.cell=true:=by
 induction cs generalizing us with
 | nil=>intro c hc; cases hc
 | cons y ys ih =>
  cases h with
  | cons hc h t =>
   intro c hm
   rcases List.mem_cons.1 hm with rfl | hm
   ·exact hc
   ·exact ih t c hm

theorem RepV.one {x:V} {u:Value} (h:RepV Z w x u) (hc:x.cell=true):u.oneCell'=true:=by
 cases h <;> first | rfl | simp [V.cell] at hc
theorem RepT.one {x:T} {u:Value} (h:RepT φ Z w x u) (hc:x.cell=true):u.oneCell'=true∨∃ i,x=.loc i:=by
 cases h with
 | v h=>exact .inl (h.one hc)
 | loc h=>exact .inr ⟨_,rfl⟩
 | agg h=>simp [T.cell] at hc
 | tup h=>simp [T.cell] at hc
 | _=>exact .inl rfl

theorem RepT.one' (hφ:PhiOk φ) {x:T} {u:Value} (h:RepT φ Z w x u) (hc:x.cell=true):u.oneCell'=true:=by
 rcases h.one hc with h1 | ⟨i,rfl⟩
 ·exact h1
 ·cases h with | loc h=>exact hφ _ _ h
theorem cells_one {u:Value} (h:u.oneCell'=true):u.cells = #[u]:=by cases u <;> first | rfl | simp [Value.oneCell'] at h
theorem RepT.toCells (hφ:PhiOk φ) {x:T} {u:Value} (h:RepT φ Z w x u) (hc:allC x.cells):RepTs φ Z w x.cells u.cells.toList:=by
 cases h with
 | agg h=>exact h
 | v h =>
  cases h with
  | agg h=>exact h.toTs
  | tup h=>exact absurd (hc _ (List.mem_singleton.2 rfl)) (by simp [T.cell,V.cell])
  | any u=>exact absurd (hc _ (List.mem_singleton.2 rfl)) (by simp [T.cell,V.cell])
  | bool b=>exact .cons (.v (.bool b)) .nil
  | int k n=>exact .cons (.v (.int k n)) .nil
  | str h=>exact .cons (.v (.str h)) .nil
  | fn h=>exact .cons (.v (.fn h)) .nil
  | nil A c=>exact .cons (.v (.nil A c)) .nil
  | sl h a b c d=>exact .cons (.v (.sl h a b c d)) .nil
  | ref h d=>exact .cons (.v (.ref h d)) .nil
 | tup h=>exact absurd (hc _ (List.mem_singleton.2 rfl)) (by simp [T.cell])
 | loc h=>rw [cells_one (hφ _ _ h)]; exact .cons (.loc h) .nil
 | nil=>exact .cons .nil .nil
 | sv a b c d e=>exact .cons (.sv a b c d e) .nil
 | ptr h=>exact .cons (.ptr h) .nil
 | ptrs h=>exact .cons (.ptrs h) .nil
 | fptr h d=>exact .cons (.fptr h d) .nil
 | fn h=>exact .cons (.fn h) .nil
 | mp h=>exact .cons (.mp h) .nil
 | nf=>exact .cons .nf .nil
theorem RepTs.ones (hφ:PhiOk φ) {cs:List T} {us:List Value} (h:RepTs φ Z w cs us) (hc:allC cs):∀ u ∈ us,u.oneCell'=true:=by
 induction cs generalizing us with
 | nil=>cases h; intro u hu; cases hu
 | cons y ys ih =>
  cases h with
  | cons h t =>
   intro u hu
   rcases List.mem_cons.1 hu with rfl | hu
   ·exact h.one' hφ (hc y (by simp))
   ·exact ih t (fun x hx=>hc x (by simp [hx])) u hu
theorem RepCs.ones {cs:List V} {us:List Value} (h:RepCs Z w cs us):∀ u ∈ us,u.oneCell'=true:=by
 induction cs generalizing us with
 | nil=>cases h; intro u hu; cases hu
 | cons y ys ih =>
  cases h with
  | cons hc h t =>
   intro u hu
   rcases List.mem_cons.1 hu with rfl | hu
   ·exact h.one hc
   ·exact ih t u hu
theorem RepEs.ones {z:Nat} {xs:List V} {us:List Value} (h:RepEs Z w z xs us):∀ u ∈ us,u.oneCell'=true:=by
 induction xs generalizing us z with
 | nil=>cases h; intro u hu; cases hu
 | cons y ys ih =>
  cases h with
  | agg h hl t =>
   intro u hu
   rcases List.mem_append.1 hu with hu | hu
   ·exact h.ones u hu
   ·exact ih t u hu
  | one hc h t =>
   intro u hu
   rcases List.mem_cons.1 hu with rfl | hu
   ·exact h.one hc
   ·exact ih t u hu
theorem RepEs.length {z:Nat} {xs:List V} {us:List Value} (h:RepEs Z w z xs us):us.length=xs.length * z:=by
 induction xs generalizing us z with
 | nil=>cases h; simp
 | cons y ys ih =>
  cases h with
  | agg h hl t=>simp [ih t,hl,Nat.add_mul,Nat.add_comm]
  | one hc h t=>simp [ih t]
theorem RepEs.append {z:Nat} {a b:List V} {us vs:List Value} (h:RepEs Z w z a us) (g:RepEs Z w z b vs):RepEs Z w z (a++b) (us++vs):=by
 induction a generalizing us with
 | nil=>cases h; exact g
 | cons x xs ih =>
  cases h with
  | agg h hl t=>rw [List.append_assoc]; exact .agg h hl (ih t)
  | one hc h t=>exact .one hc h (ih t)
/-- An element's cells. -/
theorem RepEs.get {z:Nat} {xs:List V} {us:List Value} (h:RepEs Z w z xs us):∀ (i:Nat) (x:V),xs[i]? = some x→∃ vs,RepCs Z w x.cells vs∧vs.length=z∧∀ j u,vs[j]? = some u→us[i * z+j]? = some u:=by
 induction xs generalizing us z with
 | nil=>intro i x hx; simp at hx
 | cons y ys ih =>
  intro i x hx
  cases h with
  | @agg _ cs u0 us0 _ h hl t =>
   cases i with
   | zero =>
    simp at hx; subst hx
    refine ⟨_,h,hl,fun j u hu => ?_⟩
    have hj:j<u0.length:=by
     rcases Nat.lt_or_ge j u0.length with h | h
     ·exact h
     ·rw [List.getElem?_eq_none h] at hu; cases hu
    rw [Nat.zero_mul,Nat.zero_add,List.getElem?_append_left hj]; exact hu
   | succ i =>
    obtain ⟨vs,h1,h2,h3⟩:=ih t i x (by simpa using hx)
    refine ⟨vs,h1,h2,fun j u hu => ?_⟩
    have e:(i+1) * z+j=u0.length+(i * z+j):=by rw [hl,Nat.add_mul]; omega
    rw [e,List.getElem?_append_right (by omega),Nat.add_sub_cancel_left]
    exact h3 j u hu
  | @one _ u0 us0 _ hc h t =>
   cases i with
   | zero =>
    simp at hx; subst hx
    have e:y.cells=[y]:=by cases y <;> first | rfl | simp [V.cell] at hc
    refine ⟨[u0],by rw [e]; exact .cons hc h .nil,rfl,fun j u hu => ?_⟩
    cases j with
    | zero=>simpa using hu
    | succ j=>simp at hu
   | succ i =>
    obtain ⟨vs,h1,h2,h3⟩:=ih t i x (by simpa using hx)
    refine ⟨vs,h1,h2,fun j u hu => ?_⟩
    have:=h3 j u hu
    simp only [Nat.mul_one] at this ⊢
    rw [show i+1+j=(i+j)+1 by omega]
    simpa using this
end
end TL

namespace TL
open Go Go.RowKit

def updP (φ:Phi) (i:Nat) (v:Value):Phi:=fun j=>if j=i then some v else φ j
theorem updP_same (φ:Phi) (i:Nat) (v:Value):updP φ i v i=some v:=if_pos rfl
theorem updP_ne (φ:Phi) {i j:Nat} (v:Value) (h:j ≠ i):updP φ i v j=φ j:=if_neg h
theorem ext_updP {φ:Phi} {i:Nat} (v:Value) (h:φ i=none):Ext φ (updP φ i v):=fun j u hu=>by
 rw [updP_ne]; exact hu
 rintro rfl; rw [h] at hu; cases hu

section
variable {P:Program} {φ φ':Phi} {Z Z':Zs} {m:Mem} {n:Nat} {w w':World}

theorem RelB.keep {v:Value} {b:Blk} (h:RelB P φ Z w v b) (he:Ext φ φ') (hs:SubZ Z Z') (hk:KeepZ Z w w')
  (hb:isRo b=false→∀ k,blkOf v=some k→w'.heap[k]? = w.heap[k]? ∧ ∀ o,Z' k o→Z k o):RelB P φ' Z' w' v b:=by
 cases b with
 | ro xs=>exact RepV.mono hs hk h
 | arr e xs =>
  obtain ⟨us,z,h1,h2,h3,h4,h5⟩:=h
  refine ⟨us,z,h1,h2, ?_,h4.mono hs hk,fun k hv o => ?_⟩
  ·refine ⟨h3.1,h3.2.imp id ?_⟩
   rintro ⟨g,cap,cur,rfl,h6,h7,h8⟩
   exact ⟨g,cap,cur,rfl,h6,by rw [(hb rfl g rfl).1]; exact h7,h8⟩
  ·rw [← h5 k hv o]
   exact ⟨(hb rfl k hv).2 o,hs k o⟩
 | box e z cs =>
  obtain ⟨h1,h2,k,cur,h3,h4,h5,h6,h7,h8,h9⟩:=h
  exact ⟨h1,h2,k,cur,h3,by rw [(hb rfl k h3).1]; exact h4,h5,h6.mono he hs hk,h7,fun o ho=>h8 o ((hb rfl k h3).2 o ho),h9⟩
 | mp es =>
  obtain ⟨k,ents,clock,rfl,h4,h5,h6⟩:=h
  exact ⟨k,ents,clock,rfl,by rw [(hb rfl k rfl).1]; exact h4,h5,fun o ho=>h6 o ((hb rfl k rfl).2 o ho)⟩

theorem RelB.lt {v:Value} {b:Blk} (h:RelB P φ Z w v b) (hr:isRo b=false) {k:Nat} (hk:blkOf v=some k):k<w.heap.size:=by
 cases b with
 | ro xs=>cases hr
 | arr e xs =>
  obtain ⟨us,z,h1,h2,h3,h4,h5⟩:=h
  rcases h3.2 with ⟨rfl,_⟩ | ⟨g,cap,cur,rfl,h6,h7,h8⟩
  ·cases hk
  ·cases hk; exact (Array.getElem?_eq_some_iff.1 h7).1
 | box e z cs =>
  obtain ⟨h1,h2,k',cur,h3,h4,h5⟩:=h
  rw [h3] at hk; cases hk
  exact (Array.getElem?_eq_some_iff.1 h4).1
 | mp es =>
  obtain ⟨k',ents,clock,rfl,h4,h5⟩:=h
  cases hk
  exact (Array.getElem?_eq_some_iff.1 h4).1

theorem RelM.owned_lt (hm:RelM P φ Z m n w) {k:Nat} (h:Owned φ m k):k<w.heap.size:=by
 obtain ⟨i,b,v,h1,h2,h3,h4⟩:=h
 obtain ⟨v',h5,h6⟩:=hm.blk i b h1
 rw [h3] at h5; cases h5
 exact h6.lt h2 h4

theorem keepZ_of_heap (h:∀ k o,Z k o→w'.heap[k]? = w.heap[k]?):KeepZ Z w w':=fun k o hz=>World.cell?_of_block (w:=w) (h k o hz)

/-- A new block, its handle a pointer or a slice. -/
theorem RelM.alloc_ (hm:RelM P φ Z m n w) {id:Nat} (hid:id<n) (hφ:φ id=none) (o:Obj) (b:Blk) (v:Value) (Z':Zs) (hs:SubZ Z Z') (hZ:∀ k o,Z' k o→Z k o∨k=w.heap.size) (h1:v.oneCell'=true)
  (hv:blkOf v=some w.heap.size) (hb:RelB P (updP φ id v) Z' (w.alloc o) v b) :
  RelM P (updP φ id v) Z' (updM m id (some b)) n (w.alloc o)∧Step φ Z m w (updP φ id v) Z' (updM m id (some b)) (w.alloc o):=by
 have he:Ext φ (updP φ id v):=ext_updP v hφ
 have hmid:m id=none:=by
  cases h:m id with
  | none=>rfl
  | some b=>obtain ⟨u,hu,_⟩:=hm.blk id b h; rw [hφ] at hu; cases hu
 have hold:∀ k,k<w.heap.size→(w.alloc o).heap[k]? = w.heap[k]? := fun k hk=>heap_alloc_old w o k hk
 have hk:KeepZ Z w (w.alloc o):=keepZ_of_heap fun k o hz=>hold k (hm.zlt.lt k o hz)
 refine ⟨⟨?_, ?_, ?_, ?_, ?_⟩,⟨he,hs,hk,rfl,rfl,rfl,by simp,fun k hk _=>hold k hk, ?_, ?_⟩⟩
 ·intro i u hu
  by_cases hi:i=id
  ·subst hi; rw [updP_same] at hu; cases hu; exact h1
  ·rw [updP_ne _ _ hi] at hu; exact hm.ok i u hu
 ·intro i hi
  rw [updP_ne _ _ (by omega)]; exact hm.fresh i hi
 ·intro i c hc
  by_cases hi:i=id
  ·subst hi; rw [updM_same] at hc; cases hc
   exact ⟨v,updP_same _ _ _,hb⟩
  ·rw [updM_ne _ _ hi] at hc
   obtain ⟨u,hu,hr⟩:=hm.blk i c hc
   refine ⟨u,by rw [updP_ne _ _ hi]; exact hu,hr.keep he hs hk fun hro k hk => ?_⟩
   have hlt:=hr.lt hro hk
   refine ⟨hold k hlt,fun o hz=>(hZ k o hz).resolve_right (by omega)⟩
 ·intro i j a c u u' k hi hj hu hu' hk hk' hra hrc
  by_cases hi':i=id <;> by_cases hj':j=id
  ·rw [hi',hj']
  ·subst hi'
   rw [updP_same] at hu; cases hu
   rw [hv] at hk; cases hk
   rw [updM_ne _ _ hj'] at hj; rw [updP_ne _ _ hj'] at hu'
   obtain ⟨x,hx,hr⟩:=hm.blk j c hj
   rw [hu'] at hx; cases hx
   exact absurd (hr.lt hrc hk') (by omega)
  ·subst hj'
   rw [updP_same] at hu'; cases hu'
   rw [hv] at hk'; cases hk'
   rw [updM_ne _ _ hi'] at hi; rw [updP_ne _ _ hi'] at hu
   obtain ⟨x,hx,hr⟩:=hm.blk i a hi
   rw [hu] at hx; cases hx
   exact absurd (hr.lt hra hk) (by omega)
  ·rw [updM_ne _ _ hi'] at hi; rw [updP_ne _ _ hi'] at hu
   rw [updM_ne _ _ hj'] at hj; rw [updP_ne _ _ hj'] at hu'
   exact hm.ne i j a c u u' k hi hj hu hu' hk hk' hra hrc
 ·refine ⟨fun k o' hz => ?_,hm.zlt.gl.keep hs hk⟩
  rcases hZ k o' hz with h | h
  ·exact Nat.lt_of_lt_of_le (hm.zlt.lt k o' h) (by simp)
  ·simp [h]
 ·rintro k hk ⟨i,c,u,hi,hro,hu,hb⟩
  by_cases hi':i=id
  ·subst hi'; rw [updP_same] at hu; cases hu; rw [hv] at hb; cases hb; omega
  ·rw [updM_ne _ _ hi'] at hi; rw [updP_ne _ _ hi'] at hu
   exact ⟨i,c,u,hi,hro,hu,hb⟩
 ·intro k o' hz
  rcases hZ k o' hz with h | h
  ·exact .inl h
  ·exact .inr (.inl (by omega))

/-- A variable. -/
theorem RelM.allocMut (hm:RelM P φ Z m n w) {id:Nat} (hid:id<n) (hφ:φ id=none) {e:TypeId} {z:Nat} {cs:List T} {cur:Array Value} {v:Value} (hz:0<z) (hsz:sz P e=some z) (hl:cs.length≤cur.size)
  (hr:RepTs φ Z w cs (cur.toList.take cs.length)) (hc:allC cs)
  (hv:v=.pointer (some ⟨w.heap.size,0,none⟩)∨∃ n c,v=.slice (some ⟨w.heap.size,0,none⟩) n c∧cur.size=c * z∧c≤maxLen) :
  RelM P (updP φ id v) Z (updM m id (some (.box e z cs))) n (w.alloc (.cells cur e))∧Step φ Z m w (updP φ id v) Z (updM m id (some (.box e z cs))) (w.alloc (.cells cur e)):=by
 have hb:blkOf v=some w.heap.size:=by rcases hv with rfl | ⟨n,c,rfl,_⟩ <;> rfl
 refine hm.alloc_ hid hφ _ _ v Z (fun _ _ h=>h) (fun _ _ h=>.inl h) (by rcases hv with rfl | ⟨n,c,rfl,_⟩ <;> rfl) hb ⟨hz,hsz,w.heap.size,cur,hb,heap_alloc_new w _,hl, ?_,hc,fun o ho=>absurd (hm.zlt.lt _ o ho) (by omega),hv.imp (fun h=>h) fun ⟨n,c,e1,e2,e3⟩=>⟨n,c,e1,Nat.le_of_eq e2.symm,e3⟩⟩
 exact hr.mono (ext_updP v hφ) (fun _ _ h=>h) (keepZ_of_heap fun k o hz=>heap_alloc_old w _ k (hm.zlt.lt k o hz))

/-- A row that is read. -/
theorem RelM.allocArr (hm:RelM P φ Z m n w) {id:Nat} (hid:id<n) (hφ:φ id=none) {e:TypeId} {z:Nat} {xs:List V} {us:List Value} {cur:Array Value} {c:Nat} (hz:0<z) (hsz:sz P e=some z)
  (hr:RepEs Z w z xs us) (hlc:xs.length≤c) (hcm:c≤maxLen) (hcs:cur.size=c * z) (ht:cur.toList.take (xs.length * z)=us) :
  let v:Value:=.slice (some ⟨w.heap.size,0,none⟩) xs.length c
  let Z':Zs:=fun k o=>Z k o∨(k=w.heap.size∧o<xs.length * z)
  RelM P (updP φ id v) Z' (updM m id (some (.arr e xs))) n (w.alloc (.cells cur e))∧Step φ Z m w (updP φ id v) Z' (updM m id (some (.arr e xs))) (w.alloc (.cells cur e)):=by
 intro v Z'
 refine hm.alloc_ hid hφ _ _ v Z' (fun _ _ h=>.inl h) (fun _ _ h=>h.imp (fun h=>h) (·.1)) rfl rfl ⟨us,z,hsz,hz,⟨hr.length,.inr ⟨w.heap.size,c,cur,rfl,Nat.zero_le _,heap_alloc_new w _,hlc,hcm,hcs,ht⟩⟩, ?_, ?_⟩
 ·exact hr.mono (fun _ _ h=>.inl h) (keepZ_of_heap fun k o hz=>heap_alloc_old w _ k (hm.zlt.lt k o hz))
 ·intro k hk o
  obtain rfl:w.heap.size=k:=by simpa [v,blkOf] using hk
  exact ⟨fun h=>h.elim (fun h=>absurd (hm.zlt.lt _ o h) (by omega)) (·.2),fun h=>.inr ⟨rfl,h⟩⟩

/-- What a slice is read as. -/
theorem RelB.reads {v:Value} {b:Blk} {xs:List V} (h:RelB P φ Z w v b) (hx:(∃ e,b=.arr e xs)∨b=.ro xs):RepV Z w (.sl xs) v:=by
 rcases hx with ⟨e,rfl⟩ | rfl
 ·obtain ⟨us,z,h1,h2,h3,h4,h5⟩:=h
  rcases h3.2 with ⟨rfl,h0⟩ | ⟨g,cap,cur,rfl,h6,h7,h8,h9,h10,h11⟩
  ·obtain rfl:xs=[]:=List.eq_nil_of_length_eq_zero h0
   exact .nil _ _
  ·refine .sl h4 rfl h8 h9 fun i u hu => ?_
   have hi:i<us.length:=by
    rcases Nat.lt_or_ge i us.length with h | h
    ·exact h
    ·rw [List.getElem?_eq_none h] at hu; cases hu
   refine ⟨h3.cells (g:=g) rfl i u hu, ?_⟩
   rw [add_lit]
   rw [h5 g rfl]
   show 0+i<_
   rw [Nat.zero_add,← h3.1]; exact hi
 ·exact h

theorem elems_rep (hm:RelM P φ Z m n w) {t:T} {u:Value} {xs:List V} (h:RepT φ Z w t u) (hx:elems m t=some xs):RepV Z w (.sl xs) u:=by
 cases h with
 | v h =>
  rename_i x
  cases x <;> simp [elems] at hx
  subst hx; exact h
 | nil=>simp [elems] at hx; subst hx; exact .nil _ _
 | @loc id u h =>
  simp only [elems] at hx
  split at hx
  ·rename_i e ys hy
   cases hx
   obtain ⟨u',hu,hr⟩:=hm.blk _ _ hy
   rw [h] at hu; cases hu
   exact hr.reads (.inl ⟨e,rfl⟩)
  ·rename_i ys hy
   cases hx
   obtain ⟨u',hu,hr⟩:=hm.blk _ _ hy
   rw [h] at hu; cases hu
   exact hr
  ·cases hx
 | _=>simp [elems] at hx
end
end TL

set_option linter.unusedVariables false
set_option linter.unusedSimpArgs false
namespace TL
open Go Go.RowKit

section
variable {P:Program} {φ φ':Phi} {Z Z':Zs} {m m':Mem} {n:Nat} {w w':World}

theorem RelM.change (hm:RelM P φ Z m n w) {i0 j0 g:Nat} {b0:Blk} {v0:Value} (hi:m i0=some b0) (hro:isRo b0=false) (hv:φ i0=some v0) (hg:blkOf v0=some g)
  (he:Ext φ φ') (hok:PhiOk φ') (hfr:∀ i,n≤i→φ' i=none) (hs:SubZ Z Z') (hZ:∀ k o,Z' k o→Z k o∨k=g) (hk:KeepZ Z w w')
  (hos:w'.os=w.os) (htape:w'.tape=w.tape) (hout:w'.output=w.output) (hsize:w'.heap.size=w.heap.size) (hheap:∀ k,k ≠ g→w'.heap[k]? = w.heap[k]?)
  (hm':∀ j b,m' j=some b→(m j=some b∧j ≠ i0)∨∃ v,φ' j=some v∧RelB P φ' Z' w' v b∧(isRo b=true∨(blkOf v=some g∧j=j0))) :
  RelM P φ' Z' m' n w'∧Step φ Z m w φ' Z' m' w':=by
 obtain ⟨v0',hv0',hb0⟩:=hm.blk _ _ hi
 rw [hv] at hv0'; cases hv0'
 have hglt:g<w.heap.size:=hb0.lt hro hg
 -- another block that the old memory owns
 have far:∀ j b v k,m j=some b→j ≠ i0→isRo b=false→φ j=some v→blkOf v=some k→k ≠ g:=fun j b v k hj hne hr hv' hk' e=>by
  subst e; exact hne (hm.ne j i0 b b0 v v0 k hj hi hv' hv hk' hg hr hro)
 have hown:∀ k,Owned φ' m' k→Owned φ m k:=by
  rintro k ⟨j,b,v,hj,hr,hv',hb⟩
  rcases hm' j b hj with ⟨h1,_⟩ | ⟨v1,h2,h3,h4⟩
  ·obtain ⟨u,hu,_⟩:=hm.blk j b h1
   have:=he j u hu; rw [hv'] at this; cases this
   exact ⟨j,b,v,h1,hr,hu,hb⟩
  ·rw [hv'] at h2; cases h2
   rcases h4 with h4 | ⟨h4,_⟩
   ·rw [hr] at h4; cases h4
   ·rw [hb] at h4; cases h4; exact ⟨i0,b0,v0,hi,hro,hv,hg⟩
 refine ⟨⟨hok,hfr, ?_, ?_, ?_⟩,⟨he,hs,hk,hos,htape,hout,Nat.le_of_eq hsize.symm, ?_,fun k _ h=>hown k h, ?_⟩⟩
 ·intro j b hj
  rcases hm' j b hj with ⟨h1,hne⟩ | ⟨v,h2,h3,_⟩
  ·obtain ⟨u,hu,hr⟩:=hm.blk j b h1
   refine ⟨u,he j u hu,hr.keep he hs hk fun hro' k hk' => ?_⟩
   have hne':=far j b u k h1 hne hro' hu hk'
   exact ⟨hheap k hne',fun o hz=>(hZ k o hz).resolve_right hne'⟩
  ·exact ⟨v,h2,h3⟩
 ·intro i j a b u v k h1 h2 h3 h4 h5 h6 h7 h8
  rcases hm' i a h1 with ⟨g1,n1⟩ | ⟨v1,g1,_,g2⟩ <;> rcases hm' j b h2 with ⟨g3,n2⟩ | ⟨v2,g3,_,g4⟩
  ·obtain ⟨u',hu,_⟩:=hm.blk i a g1
   have:=he i u' hu; rw [h3] at this; cases this
   obtain ⟨v',hv',_⟩:=hm.blk j b g3
   have:=he j v' hv'; rw [h4] at this; cases this
   exact hm.ne i j a b u v k g1 g3 hu hv' h5 h6 h7 h8
  ·rcases g4 with g4 | ⟨g4,_⟩
   ·rw [h8] at g4; cases g4
   ·rw [h4] at g3; cases g3; rw [h6] at g4; cases g4
    obtain ⟨u',hu,_⟩:=hm.blk i a g1
    have:=he i u' hu; rw [h3] at this; cases this
    exact absurd rfl (far i a u _ g1 n1 h7 hu h5)
  ·rcases g2 with g2 | ⟨g2,_⟩
   ·rw [h7] at g2; cases g2
   ·rw [h3] at g1; cases g1; rw [h5] at g2; cases g2
    obtain ⟨v',hv',_⟩:=hm.blk j b g3
    have:=he j v' hv'; rw [h4] at this; cases this
    exact absurd rfl (far j b v _ g3 n2 h8 hv' h6)
  ·rcases g2 with g2 | ⟨_,g2⟩
   ·rw [h7] at g2; cases g2
   ·rcases g4 with g4 | ⟨_,g4⟩
    ·rw [h8] at g4; cases g4
    ·rw [g2,g4]
 ·refine ⟨fun k o hz => ?_,hm.zlt.gl.keep hs hk⟩
  rw [hsize]
  rcases hZ k o hz with h | h
  ·exact hm.zlt.lt k o h
  ·rw [h]; exact hglt
 ·intro k hk' ho
  exact hheap k fun e=>ho (by subst e; exact ⟨i0,b0,v0,hi,hro,hv,hg⟩)
 ·intro k o hz
  rcases hZ k o hz with h | h
  ·exact .inl h
  ·exact .inr (.inr (by subst h; exact ⟨i0,b0,v0,hi,hro,hv,hg⟩))

/-- A store into a variable or a row of the frame's own. -/
theorem RelM.store_ (hm:RelM P φ Z m n w) {i e z g:Nat} {cs cs':List T} {v:Value} {cur cur':Array Value} (hi:m i=some (.box e z cs)) (hv:φ i=some v) (hg:blkOf v=some g) (hcur:w.heap[g]? = some (.cells cur e (0,0)))
  (hs:cur'.size=cur.size) (hl:cs'.length≤cur.size) (hr:RepTs φ Z w cs' (cur'.toList.take cs'.length)) (hc:allC cs') :
  RelM P φ Z (updM m i (some (.box e z cs'))) n (w.setRow g cur')∧Step φ Z m w φ Z (updM m i (some (.box e z cs'))) (w.setRow g cur'):=by
 obtain ⟨v',hv',hb⟩:=hm.blk _ _ hi
 rw [hv] at hv'; cases hv'
 obtain ⟨h1,h2,k,cur0,h3,h4,h5,h6,h7,h8,h9⟩:=hb
 rw [hg] at h3; cases h3
 rw [hcur] at h4; cases h4
 have hk:KeepZ Z w (w.setRow g cur'):=keepZ_of_heap fun k o hz=>setRow_other w g k cur' (by rintro rfl; exact h8 o hz)
 refine hm.change (i0:=i) (j0:=i) hi rfl hv hg (fun _ _ h=>h) hm.ok hm.fresh (fun _ _ h=>h) (fun _ _ h=>.inl h) hk rfl rfl rfl (by simp) (fun k hk=>setRow_other w g k cur' hk) fun j b hj => ?_
 by_cases hji:j=i
 ·subst hji
  rw [updM_same] at hj; cases hj
  refine .inr ⟨v,hv,⟨h1,h2,g,cur',hg,setRow_heap w g cur cur' e _ hcur,by rw [hs]; exact hl,hr.mono (fun _ _ h=>h) (fun _ _ h=>h) hk,hc,h8, ?_⟩,.inr ⟨hg,rfl⟩⟩
  rcases h9 with h9 | ⟨n',c,h9,h10⟩
  ·exact .inl h9
  ·exact .inr ⟨n',c,h9,by rw [hs]; exact h10.1,h10.2⟩
 ·rw [updM_ne _ _ hji] at hj
  exact .inl ⟨hj,hji⟩
end

section
variable {P:Program} (w:World)
/-- append onto a row of the frame's own: what it comes to, and where it lies. -/
theorem run_append_tl (t ty e : TypeId) (i : TypeInfo) (z : Value) (ht : P.underlying t = some (.slice e)) (hi : P.info? e = some i) (hz : i.zero = some z) (hzs : z.cells.size = i.size) (hsz : 0 < i.size)
    (v : Value) (n : Nat) (xs : List Value) (hown : w.ownsRow 0 e i.size v n xs)
    (A : Option Addr) (m c : Nat) (news : List Value) (hl : news.length = m * i.size) (hA : 0 < m → ∃ a,A = some a ∧ ∀ j u,news[j]? = some u → w.cell? (a.add j) = some u) (h1 : ∀ u ∈ news,u.oneCell' = true)
    (hbytes : (n + m) * i.bytes ≤ 140737488355328) (h63 : n + m ≤ maxLen) :
    ∃ v' w',(Builtin.append_ #[t,t] ty #[v,.slice A m c]).run P w = .ok v' w' ∧ w'.ownsRow 0 e i.size v' (n + m) (xs ++ news) ∧
      ((m = 0 ∧ v' = v ∧ w' = w) ∨
       (∃ g cur cap cur',v = .slice (some ⟨g,0,none⟩) n cap ∧ v' = .slice (some ⟨g,0,none⟩) (n + m) cap ∧ w.heap[g]? = some (.cells cur e (0,0)) ∧ w' = w.setRow g cur' ∧ cur'.size = cur.size) ∨
       (∃ cap cur',v' = .slice (some ⟨w.heap.size,0,none⟩) (n + m) cap ∧ w' = w.drew.alloc (.cells cur' e) ∧ n + m ≤ cap ∧ cap ≤ maxLen ∧ cur'.size = cap * i.size ∧ cur'.toList.take ((n + m) * i.size) = xs ++ news)) := by
  have hsmall : n + m ≤ 9223372036854775807 := by simp only [maxLen] at h63; omega
  have hlen : (xs ++ news).length = (n + m) * i.size := by rw [List.length_append,hown.1,hl,Nat.add_mul]
  by_cases hm : m = 0
  · subst hm
    obtain rfl : news = [] := List.eq_nil_of_length_eq_zero (by simpa using hl)
    have hr : (Builtin.append_ #[t,t] ty #[v,.slice A 0 c]).run P w = .ok v w := by
      rcases hown.2 with ⟨rfl,rfl⟩ | ⟨g,cap,cur,rfl,_,_,hnc,_⟩ <;> cases A <;>
        simp [Builtin.append_,run_underlying ht,Go.sizeOf,typeInfo,hi,Builtin.lenOf,Builtin.firstCells,loadCells,loadCellsFrom,storeCells, *]
    exact ⟨v,w,hr,by simpa using hown,.inl ⟨rfl,rfl,rfl⟩⟩
  obtain ⟨a,rfl,hnews⟩ := hA (by omega)
  have grown : ∀ (old : Nat),old < n + m →
      (w.drew.alloc (.cells (xs.toArray ++ news.toArray ++ Builtin.zeroCells z.cells (grownCap w (n + m) old e - (n + m))) e)).ownsRow 0 e i.size
        (.slice (some ⟨w.heap.size,0,none⟩) (n + m) (grownCap w (n + m) old e)) (n + m) (xs ++ news) ∧ n + m ≤ grownCap w (n + m) old e ∧ grownCap w (n + m) old e ≤ maxLen ∧
      (xs.toArray ++ news.toArray ++ Builtin.zeroCells z.cells (grownCap w (n + m) old e - (n + m))).size = grownCap w (n + m) old e * i.size ∧
      (xs.toArray ++ news.toArray ++ Builtin.zeroCells z.cells (grownCap w (n + m) old e - (n + m))).toList.take ((n + m) * i.size) = xs ++ news := by
    intro old ho
    have hge := grownCap_ge w (n + m) old e
    have hcm : grownCap w (n + m) old e ≤ maxLen := grownCap_le_maxLen w (n + m) old e h63
    have hs : (xs.toArray ++ news.toArray ++ Builtin.zeroCells z.cells (grownCap w (n + m) old e - (n + m))).size = grownCap w (n + m) old e * i.size := by
      simp only [Array.size_append,List.size_toArray,size_zeroCells,hzs,hown.1,hl,← Nat.add_mul]
      congr 1
      omega
    have htk : (xs.toArray ++ news.toArray ++ Builtin.zeroCells z.cells (grownCap w (n + m) old e - (n + m))).toList.take ((n + m) * i.size) = xs ++ news := by
      simp only [Array.toList_append,List.append_assoc]
      rw [← List.append_assoc,← hlen]
      exact List.take_left
    exact ⟨⟨hlen,.inr ⟨w.heap.size,_,_,rfl,Nat.zero_le _,heap_alloc_new w.drew _,hge,hcm,hs,htk⟩⟩,hge,hcm,hs,htk⟩
  rcases hown.2 with ⟨rfl,rfl⟩ | ⟨g,cap,cur,rfl,hbg,hg,hnc,hcm,hcs,htake⟩
  · obtain rfl : xs = [] := List.eq_nil_of_length_eq_zero (by simpa using hown.1)
    have hr := run_append_nil (P := P) w t ty e i z ht hi hz a m c news hl hnews (by omega) (by omega) (by have hb := hbytes; simp only [Nat.zero_add] at hb; omega)
    have hgr := grown 0 (by omega)
    simp only [Nat.zero_add,List.nil_append,Array.empty_append] at hgr ⊢
    exact ⟨_,_,hr,hgr.1,.inr (.inr ⟨_,_,rfl,rfl,hgr.2.1,hgr.2.2.1,hgr.2.2.2.1,hgr.2.2.2.2⟩)⟩
  · by_cases hroom : n + m ≤ cap
    · have hfit : n * i.size + news.length ≤ cur.size := by rw [hl,hcs,← Nat.add_mul]; exact Nat.mul_le_mul_right _ hroom
      have hr := run_append_room (P := P) w t ty e i ht hi g n cap cur hg a m c news hl hnews h1 hroom hfit
      have hsz' : (cur.toList.take (n * i.size) ++ news ++ cur.toList.drop (n * i.size + news.length)).toArray.size = cur.size := by
        simp only [List.size_toArray,List.length_append,List.length_take,List.length_drop,Array.length_toList]; omega
      refine ⟨_,_,hr,⟨hlen,.inr ⟨g,cap,_,rfl,hbg,setRow_heap w g cur _ e _ hg,hroom,hcm,by rw [hsz',hcs], ?_⟩⟩,.inr (.inl ⟨g,cur,cap,_,rfl,rfl,hg,rfl,hsz'⟩)⟩
      rw [htake,← hlen]
      exact List.take_left
    · have holds : ∀ j u,xs[j]? = some u → w.cell? ((⟨g,0,none⟩ : Addr).add j) = some u := hown.cells (g := g) rfl
      have hr := run_append_grow (P := P) w t ty e i z ht hi hz ⟨g,0,none⟩ n cap xs hown.1 holds a m c news hl hnews (by omega) (by omega) (growslice_fits (by omega) hbytes)
      have hgr := grown cap (by omega)
      exact ⟨_,_,hr,hgr.1,.inr (.inr ⟨_,_,rfl,rfl,hgr.2.1,hgr.2.2.1,hgr.2.2.2.1,hgr.2.2.2.2⟩)⟩
/-- A row in a block of its own, whose handle may know less room than the block has. -/
def rowIn (w:World) (e:TypeId) (size:Nat) (v:Value) (n:Nat) (xs:List Value):Prop:=xs.length=n * size ∧
 ((v=.slice none 0 0∧n=0)∨∃ g cap cur,v=.slice (some ⟨g,0,none⟩) n cap∧w.heap[g]? = some (.cells cur e (0,0))∧n≤cap∧cap≤maxLen∧cap * size≤cur.size∧cur.toList.take (n * size)=xs)
/-- The same for a row whose handle may know less room than its block has. -/
theorem run_append_in (t ty e : TypeId) (i : TypeInfo) (z : Value) (ht : P.underlying t = some (.slice e)) (hi : P.info? e = some i) (hz : i.zero = some z) (hzs : z.cells.size = i.size) (hsz : 0 < i.size)
    (v : Value) (n : Nat) (xs : List Value) (hown : rowIn w e i.size v n xs)
    (A : Option Addr) (m c : Nat) (news : List Value) (hl : news.length = m * i.size) (hA : 0 < m → ∃ a,A = some a ∧ ∀ j u,news[j]? = some u → w.cell? (a.add j) = some u) (h1 : ∀ u ∈ news,u.oneCell' = true)
    (hbytes : (n + m) * i.bytes ≤ 140737488355328) (h63 : n + m ≤ maxLen) :
    ∃ v' w',(Builtin.append_ #[t,t] ty #[v,.slice A m c]).run P w = .ok v' w' ∧ rowIn w' e i.size v' (n + m) (xs ++ news) ∧
      ((m = 0 ∧ v' = v ∧ w' = w) ∨
       (∃ g cur cap cur',v = .slice (some ⟨g,0,none⟩) n cap ∧ v' = .slice (some ⟨g,0,none⟩) (n + m) cap ∧ w.heap[g]? = some (.cells cur e (0,0)) ∧ w' = w.setRow g cur' ∧ cur'.size = cur.size) ∨
       (∃ cap cur',v' = .slice (some ⟨w.heap.size,0,none⟩) (n + m) cap ∧ w' = w.drew.alloc (.cells cur' e) ∧ n + m ≤ cap ∧ cap ≤ maxLen ∧ cur'.size = cap * i.size ∧ cur'.toList.take ((n + m) * i.size) = xs ++ news)) := by
  have hsmall : n + m ≤ 9223372036854775807 := by simp only [maxLen] at h63; omega
  have hlen : (xs ++ news).length = (n + m) * i.size := by rw [List.length_append,hown.1,hl,Nat.add_mul]
  by_cases hm : m = 0
  · subst hm
    obtain rfl : news = [] := List.eq_nil_of_length_eq_zero (by simpa using hl)
    have hr : (Builtin.append_ #[t,t] ty #[v,.slice A 0 c]).run P w = .ok v w := by
      rcases hown.2 with ⟨rfl,rfl⟩ | ⟨g,cap,cur,rfl,_,hnc,_⟩ <;> cases A <;>
        simp [Builtin.append_,run_underlying ht,Go.sizeOf,typeInfo,hi,Builtin.lenOf,Builtin.firstCells,loadCells,loadCellsFrom,storeCells, *]
    exact ⟨v,w,hr,by simpa using hown,.inl ⟨rfl,rfl,rfl⟩⟩
  obtain ⟨a,rfl,hnews⟩ := hA (by omega)
  have grown : ∀ (old : Nat),old < n + m →
      rowIn (w.drew.alloc (.cells (xs.toArray ++ news.toArray ++ Builtin.zeroCells z.cells (grownCap w (n + m) old e - (n + m))) e)) e i.size
        (.slice (some ⟨w.heap.size,0,none⟩) (n + m) (grownCap w (n + m) old e)) (n + m) (xs ++ news) ∧ n + m ≤ grownCap w (n + m) old e ∧ grownCap w (n + m) old e ≤ maxLen ∧
      (xs.toArray ++ news.toArray ++ Builtin.zeroCells z.cells (grownCap w (n + m) old e - (n + m))).size = grownCap w (n + m) old e * i.size ∧
      (xs.toArray ++ news.toArray ++ Builtin.zeroCells z.cells (grownCap w (n + m) old e - (n + m))).toList.take ((n + m) * i.size) = xs ++ news := by
    intro old ho
    have hge := grownCap_ge w (n + m) old e
    have hcm : grownCap w (n + m) old e ≤ maxLen := grownCap_le_maxLen w (n + m) old e h63
    have hs : (xs.toArray ++ news.toArray ++ Builtin.zeroCells z.cells (grownCap w (n + m) old e - (n + m))).size = grownCap w (n + m) old e * i.size := by
      simp only [Array.size_append,List.size_toArray,size_zeroCells,hzs,hown.1,hl,← Nat.add_mul]
      congr 1
      omega
    have htk : (xs.toArray ++ news.toArray ++ Builtin.zeroCells z.cells (grownCap w (n + m) old e - (n + m))).toList.take ((n + m) * i.size) = xs ++ news := by
      simp only [Array.toList_append,List.append_assoc]
      rw [← List.append_assoc,← hlen]
      exact List.take_left
    exact ⟨⟨hlen,.inr ⟨w.heap.size,_,_,rfl,heap_alloc_new w.drew _,hge,hcm,Nat.le_of_eq hs.symm,htk⟩⟩,hge,hcm,hs,htk⟩
  rcases hown.2 with ⟨rfl,rfl⟩ | ⟨g,cap,cur,rfl,hg,hnc,hcm,hcs,htake⟩
  · obtain rfl : xs = [] := List.eq_nil_of_length_eq_zero (by simpa using hown.1)
    have hr := run_append_nil (P := P) w t ty e i z ht hi hz a m c news hl hnews (by omega) (by omega) (by have hb := hbytes; simp only [Nat.zero_add] at hb; omega)
    have hgr := grown 0 (by omega)
    simp only [Nat.zero_add,List.nil_append,Array.empty_append] at hgr ⊢
    exact ⟨_,_,hr,hgr.1,.inr (.inr ⟨_,_,rfl,rfl,hgr.2.1,hgr.2.2.1,hgr.2.2.2.1,hgr.2.2.2.2⟩)⟩
  · by_cases hroom : n + m ≤ cap
    · have hfit : n * i.size + news.length ≤ cur.size := by rw [hl,← Nat.add_mul]; exact Nat.le_trans (Nat.mul_le_mul_right _ hroom) hcs
      have hr := run_append_room (P := P) w t ty e i ht hi g n cap cur hg a m c news hl hnews h1 hroom hfit
      have hsz' : (cur.toList.take (n * i.size) ++ news ++ cur.toList.drop (n * i.size + news.length)).toArray.size = cur.size := by
        simp only [List.size_toArray,List.length_append,List.length_take,List.length_drop,Array.length_toList]; omega
      refine ⟨_,_,hr,⟨hlen,.inr ⟨g,cap,_,rfl,setRow_heap w g cur _ e _ hg,hroom,hcm,by rw [hsz']; exact hcs, ?_⟩⟩,.inr (.inl ⟨g,cur,cap,_,rfl,rfl,hg,rfl,hsz'⟩)⟩
      rw [htake,← hlen]
      exact List.take_left
    · have holds : ∀ j u,xs[j]? = some u → w.cell? ((⟨g,0,none⟩ : Addr).add j) = some u := fun j u hj => by
        have hadd : (⟨g,0,none⟩ : Addr).add j = ⟨g,j,none⟩ := by unfold Addr.add; split <;> simp_all
        rw [hadd,cell_of_row w g j cur e (0,0) hg]
        rw [← htake,List.getElem?_take] at hj
        split at hj
        · simpa using hj
        · cases hj
      have hr := run_append_grow (P := P) w t ty e i z ht hi hz ⟨g,0,none⟩ n cap xs hown.1 holds a m c news hl hnews (by omega) (by omega) (growslice_fits (by omega) hbytes)
      have hgr := grown cap (by omega)
      exact ⟨_,_,hr,hgr.1,.inr (.inr ⟨_,_,rfl,rfl,hgr.2.1,hgr.2.2.1,hgr.2.2.2.1,hgr.2.2.2.2⟩)⟩
end
end TL

namespace TL
open Go Go.RowKit

def Done (P:Program) (φ:Phi) (Z:Zs) (m:Mem) (n:Nat) (w:World) (r:Result Next) (E:Eff):Prop :=
 ∃ v w' φ' Z',(r=.ok (.value v) w'∨(r=.ok .skip w'∧v=undef))∧RelM P φ' Z' (applyUs m E.us) n w'∧RepT φ' Z' w' E.val v∧Step φ Z m w φ' Z' (applyUs m E.us) w'

section
variable {P:Program} {φ:Phi} {Z:Zs} {m:Mem} {n:Nat} {w:World}

theorem Done.same {r:Result Next} {x:T} {v:Value} (hm:RelM P φ Z m n w) (hr:r=.ok (.value v) w) (hx:RepT φ Z w x v):Done P φ Z m n w r ⟨x,[]⟩ :=
 ⟨v,w,φ,Z,.inl hr,hm,hx,Step.refl _ _ _ _⟩

theorem obind_eq {α β:Type} {o:Option α} {k:α→Option β} {b:β} (h:obind o k=some b):∃ a,o=some a∧k a=some b:=by
 cases o with
 | none=>simp at h
 | some a=>exact ⟨a,rfl,by simpa using h⟩
theorem tst_eq {β:Type} {c:Prop} [Decidable c] {x:Option β} {b:β} (h:tst c x=some b):c∧x=some b:=by
 unfold tst at h; split at h
 ·exact ⟨‹_›,h⟩
 ·cases h
theorem boolOf_rep {t:T} {u:Value} {b:Bool} (h:RepT φ Z w t u) (hb:boolOf t=some b):u=.bool b:=by
 cases h with
 | v h=>cases h <;> simp [boolOf] at hb; subst hb; rfl
 | _=>simp [boolOf] at hb
theorem int_rep {k:IntKind} {i:Int} {u:Value} (h:RepT φ Z w (.v (.int k i)) u):u=.int k i:=by
 cases h with | v h=>cases h; rfl
theorem str_rep {s:List UInt8} {u:Value} (h:RepT φ Z w (.v (.str s)) u):∃ b:ByteArray,u=.string b∧b.data.toList=s:=by
 cases h with | v h=>cases h with | str h=>exact ⟨_,rfl,h⟩
theorem rep_int (k:IntKind) (i:Int):RepT φ Z w (.v (.int k i)) (.int k i):=.v (.int k i)
theorem rep_bool (b:Bool):RepT φ Z w (.v (.bool b)) (.bool b):=.v (.bool b)

/-! types -/
theorem info_of_sz {t k:Nat} (h:sz P t=some k):∃ i,P.info? t=some i∧i.size=k:=by
 unfold sz at h; cases hi:P.info? t with
 | none=>simp [hi] at h
 | some i=>simp [hi] at h; exact ⟨i,rfl,h⟩
theorem run_sizeOf {t k:Nat} (h:sz P t=some k) (w:World):(Go.sizeOf t).run P w=.ok k w:=by
 obtain ⟨i,h1,h2⟩:=info_of_sz h
 simp [Go.sizeOf,typeInfo,h1,h2]
theorem run_isAgg {t:Nat} {a:Bool} (h:isAg P t=some a) (w:World):(isAgg t).run P w=.ok a w:=by
 unfold isAg at h; cases hu:P.underlying t with
 | none=>simp [hu] at h
 | some d =>
  simp only [hu,Option.map_some,Option.some.injEq] at h
  simp only [isAgg,Sem.run_bind,run_underlying hu,Result.andThen_ok]
  subst h
  cases d <;> rfl
theorem und_of_elT {t e:Nat} (h:elT P t=some e):P.underlying t=some (.slice e):=by
 unfold elT at h; cases hu:P.underlying t with
 | none=>simp [hu] at h
 | some d=>simp [hu] at h; split at h <;> simp at h; subst h; rfl
theorem und_of_isStr {t:Nat} (h:isStr P t=some true):P.underlying t=some .string:=by
 unfold isStr at h; cases hu:P.underlying t with
 | none=>simp [hu] at h
 | some d=>simp only [hu,Option.map_some,Option.some.injEq] at h; split at h <;> simp at h; rfl
theorem und_of_intK {t:Nat} {k:IntKind} (h:intK P t=some k):P.underlying t=some (.int k):=by
 unfold intK at h; cases hu:P.underlying t with
 | none=>simp [hu] at h
 | some d=>simp [hu] at h; split at h <;> simp at h; subst h; rfl

/-! loads -/
theorem cutV_sound {t off:Nat} {cs:List V} {us:List Value} {ad:Addr} {x:T} (h:RepCs Z w cs us)
  (hz:∀ i u,us[i]? = some u→w.cell? (ad.add i)=some u∧Z (ad.add i).block (ad.add i).off) (hx:cutV P t cs off=some x) :
  ∃ v,(loadVar t (ad.add off)).run P w=.ok v w∧RepT φ Z w x v:=by
 unfold cutV at hx
 obtain ⟨k,hk,hx⟩:=obind_eq hx
 obtain ⟨a,ha,hx⟩:=obind_eq hx
 cases a with
 | true =>
  obtain ⟨hle,hx⟩:=tst_eq (by simpa using hx)
  cases hx
  have hl:((us.drop off).take k).length=k:=by rw [List.length_take,List.length_drop,← h.length]; omega
  refine ⟨.agg ((us.drop off).take k).toArray, ?_,.v (.agg ((h.drop off).take k))⟩
  have:=run_loadCells_list (P:=P) w (ad.add off) ((us.drop off).take k) fun j v hv=>by
   rw [add_add]
   refine (hz (off+j) v ?_).1
   rw [List.getElem?_take] at hv
   split at hv
   ·rwa [List.getElem?_drop] at hv
   ·cases hv
  rw [hl] at this
  simp [loadVar,run_isAgg ha,run_sizeOf hk,this]
 | false =>
  simp only [Bool.false_eq_true,if_false,Option.map_eq_some_iff] at hx
  obtain ⟨y,hy,rfl⟩:=hx
  obtain ⟨u,hu,hr⟩:=h.get off y hy
  refine ⟨u, ?_,.v hr⟩
  simp [loadVar,run_isAgg ha,(hz off u hu).1]
theorem cutT_sound {t off:Nat} {cs:List T} {us:List Value} {ad:Addr} {x:T} (h:RepTs φ Z w cs us)
  (hz:∀ i u,us[i]? = some u→w.cell? (ad.add i)=some u) (hx:cutT P t cs off=some x) :
  ∃ v,(loadVar t (ad.add off)).run P w=.ok v w∧RepT φ Z w x v:=by
 unfold cutT at hx
 obtain ⟨k,hk,hx⟩:=obind_eq hx
 obtain ⟨a,ha,hx⟩:=obind_eq hx
 cases a with
 | true =>
  obtain ⟨hle,hx⟩:=tst_eq (by simpa using hx)
  cases hx
  have hl:((us.drop off).take k).length=k:=by rw [List.length_take,List.length_drop,← h.length]; omega
  refine ⟨.agg ((us.drop off).take k).toArray, ?_,.agg ((h.drop off).take k)⟩
  have:=run_loadCells_list (P:=P) w (ad.add off) ((us.drop off).take k) fun j v hv=>by
   rw [add_add]
   refine hz (off+j) v ?_
   rw [List.getElem?_take] at hv
   split at hv
   ·rwa [List.getElem?_drop] at hv
   ·cases hv
  rw [hl] at this
  simp [loadVar,run_isAgg ha,run_sizeOf hk,this]
 | false =>
  simp only [Bool.false_eq_true,if_false] at hx
  obtain ⟨u,hu,hr⟩:=h.get off x hx
  refine ⟨u, ?_,hr⟩
  simp [loadVar,run_isAgg ha,hz off u hu]

/-- What a pointer into a block of the frame's own is. -/
theorem box_at (hm:RelM P φ Z m n w) {id off:Nat} {u:Value} {e:TypeId} {z:Nat} {cs:List T} (h:RepT φ Z w (.ptr id off) u) (hi:m id=some (.box e z cs)) :
  ∃ k cur v,φ id=some v∧blkOf v=some k∧u=.pointer (some ⟨k,off,none⟩)∧w.heap[k]? = some (.cells cur e (0,0))∧cs.length≤cur.size∧RepTs φ Z w cs (cur.toList.take cs.length)∧allC cs:=by
 obtain ⟨v,hv,hb⟩:=hm.blk _ _ hi
 obtain ⟨h1,h2,k,cur,h3,h4,h5,h6,h7,h8,h9⟩:=hb
 cases h with
 | ptr h=>rw [hv] at h; cases h; cases h3; exact ⟨_,cur,_,hv,rfl,rfl,h4,h5,h6,h7⟩
 | ptrs h=>rw [hv] at h; cases h; cases h3; exact ⟨_,cur,_,hv,rfl,rfl,h4,h5,h6,h7⟩
theorem evLoad_sound (hm:RelM P φ Z m n w) {t:Nat} {a x:T} {u:Value} (h:RepT φ Z w a u) (hx:evLoad P t m a=some x):∃ v,(Instr.loadAt t u).run P w=.ok v w∧RepT φ Z w x v:=by
 cases a with
 | ptr id off =>
  simp only [evLoad] at hx
  split at hx
  ·rename_i e z cs hi
   obtain ⟨k,cur,v,_,_,rfl,h4,h5,h6,h7⟩:=box_at hm h hi
   obtain ⟨v,hv,hr⟩:=cutT_sound (P:=P) (ad:=⟨k,0,none⟩) h6 (fun i u hu=>by
    rw [add_lit,Nat.zero_add,cell_of_row w k i cur e (0,0) h4]
    rw [List.getElem?_take] at hu; split at hu
    ·simpa using hu
    ·cases hu) hx
   rw [add_lit,Nat.zero_add] at hv
   exact ⟨v,by simpa [Instr.loadAt,Instr.sureAddr] using hv,hr⟩
  ·cases hx
 | fptr cs off =>
  cases h with
  | fptr h hz =>
   obtain ⟨v,hv,hr⟩:=cutV_sound (φ:=φ) h hz hx
   exact ⟨v,by simpa [Instr.loadAt,Instr.sureAddr] using hv,hr⟩
 | v y =>
  cases h with
  | v h =>
   cases h with
   | ref h hz =>
    obtain ⟨v,hv,hr⟩:=cutV_sound (φ:=φ) h hz hx
    exact ⟨v,by simpa [Instr.loadAt,Instr.sureAddr,add_zero'] using hv,hr⟩
   | _=>simp [evLoad] at hx
 | _=>simp [evLoad] at hx

/-! stores -/
theorem setAt_spec (cs:List T) (off:Nat) (xs:List T) (h:off+xs.length≤cs.length):setAt cs off xs=cs.take off++xs++cs.drop (off+xs.length):=by
 induction xs generalizing cs off with
 | nil=>simp [setAt]
 | cons x xs ih =>
  simp only [setAt,List.length_cons] at h ⊢
  rw [ih _ _ (by rw [List.length_set]; omega)]
  rw [List.set_eq_take_append_cons_drop,if_pos (by omega)]
  have h1:(cs.take off).length=off:=by rw [List.length_take]; omega
  have e1:List.take (off+1) (cs.take off++x :: cs.drop (off+1))=cs.take off++[x]:=by
   rw [List.take_append,h1,List.take_of_length_le (by omega)]
   rw [show off+1-off=1 by omega]; rfl
  have e2:List.drop (off+1+xs.length) (cs.take off++x :: cs.drop (off+1))=cs.drop (off+(xs.length+1)):=by
   rw [List.drop_append,h1,List.drop_of_length_le (by omega),List.nil_append]
   rw [show off+1+xs.length-off=xs.length+1 by omega,List.drop_succ_cons,List.drop_drop]
   congr 1; omega
  rw [e1,e2]; simp
theorem length_setAt (cs:List T) (off:Nat) (xs:List T):(setAt cs off xs).length=cs.length:=by
 induction xs generalizing cs off with
 | nil=>rfl
 | cons x xs ih=>simp [setAt,ih]

theorem evStore_sound (hm:RelM P φ Z m n w) {t:Nat} {a x:T} {u y:Value} {us:Nat × Option Blk} (h:RepT φ Z w a u) (hy:RepT φ Z w x y) (hx:evStore P t m x a=some us) :
  ∃ w',(Instr.storeAt t u y).run P w=.ok () w'∧RelM P φ Z (updM m us.1 us.2) n w'∧Step φ Z m w φ Z (updM m us.1 us.2) w':=by
 cases a with
 | ptr id off =>
  simp only [evStore] at hx
  split at hx
  ·rename_i e z cs hi
   obtain ⟨k,hk,hx⟩:=obind_eq hx
   obtain ⟨⟨hl,hc,hle⟩,hx⟩:=tst_eq hx
   cases hx
   obtain ⟨g,cur,v,hv,hg,rfl,h4,h5,h6,h7⟩:=box_at hm h hi
   have hcells:=hy.toCells hm.ok hc
   have hlen:y.cells.toList.length=k:=by rw [← hcells.length,hl]
   have hones:=hcells.ones hm.ok hc
   have hlk:off+0+y.cells.toList.length≤cur.size:=by omega
   have hst:=run_storeCells_at P g off e y.cells.toList 0 cur w h4 hlk hones
   simp only [Nat.add_zero] at hst
   refine ⟨w.setRow g (cur.toList.take off++y.cells.toList++cur.toList.drop (off+y.cells.toList.length)).toArray, ?_, ?_⟩
   ·have hsz:y.cells.size=k:=by simpa using hlen
    simp [Instr.storeAt,Instr.sureAddr,storeVar,run_sizeOf hk,hsz,hst]
   ·have hs:(cur.toList.take off++y.cells.toList++cur.toList.drop (off+y.cells.toList.length)).toArray.size=cur.size:=by
     simp only [List.size_toArray,List.length_append,List.length_take,List.length_drop,hlen]; simp only [Array.length_toList]; omega
    have hcur:cs.length≤cur.toList.length:=by simpa using h5
    refine hm.store_ hi hv hg h4 hs (by rw [length_setAt]; exact h5) ?_ ?_
    ·rw [length_setAt,setAt_spec _ _ _ (by omega)]
     have ht1:=h6.take off
     have ht2:=h6.drop (off+k)
     rw [List.take_take,Nat.min_eq_left (by omega)] at ht1
     have:(List.take off cur.toList++y.cells.toList++List.drop (off+y.cells.toList.length) cur.toList).toArray.toList.take cs.length=cur.toList.take off++y.cells.toList++(cur.toList.take cs.length).drop (off+k):=by
      have hll:(cur.toList.take off++y.cells.toList).length=off+k:=by simp only [List.length_append,List.length_take,hlen]; omega
      show List.take cs.length (cur.toList.take off++y.cells.toList++_)=_
      rw [List.take_append,hll,List.take_of_length_le (by omega),hlen,List.drop_take]
     rw [this]
     exact (ht1.append hcells).append (by rw [hl]; exact ht2)
    ·rw [setAt_spec _ _ _ (by omega)]
     intro q hq
     simp only [List.mem_append] at hq
     rcases hq with (hq | hq) | hq
     ·exact h7 q (List.mem_of_mem_take hq)
     ·exact hc q hq
     ·exact h7 q (List.mem_of_mem_drop hq)
  ·cases hx
 | _=>simp [evStore] at hx
end
end TL

namespace TL
open Go Go.RowKit

section
variable {P:Program} {φ:Phi} {Z:Zs} {m:Mem} {n:Nat} {w:World}

theorem fo_spec {t f o:Nat} (h:fo P t f=some o):∃ fs g k,P.underlying t=some (.struct fs)∧fs[f]? = some g∧g.offset=o∧sz P g.type=some k∧k ≠ 0:=by
 unfold fo at h
 cases hu:P.underlying t with
 | none=>simp [hu] at h
 | some d =>
  simp only [hu,Option.bind_some] at h
  split at h
  ·rename_i fs
   cases hf:fs[f]? with
   | none=>simp [hf] at h
   | some g =>
    simp only [hf,Option.bind_some] at h
    split at h
    ·cases h
    ·split at h
     ·rename_i h0 h1
      cases h
      obtain ⟨k,hk⟩:=Option.isSome_iff_exists.1 h1
      exact ⟨fs,g,k,rfl,hf,rfl,hk,by rintro rfl; exact h0 hk⟩
     ·cases h
  ·cases h
theorem run_fieldAt {t f o:Nat} (h:fo P t f=some o) (a:Addr):(Instr.fieldAt t (.pointer (some a)) f).run P w=.ok (.pointer (some (a.add o))) w:=by
 obtain ⟨fs,g,k,h1,h2,h3,h4,h5⟩:=fo_spec h
 simp [Instr.fieldAt,run_underlying h1,h2,Instr.sureAddr,fieldPlace,run_sizeOf h4,h5,h3]
theorem evFieldAddr_sound {t f:Nat} {a x:T} {u:Value} (h:RepT φ Z w a u) (hx:evFieldAddr P t f a=some x):∃ v,(Instr.fieldAt t u f).run P w=.ok v w∧RepT φ Z w x v:=by
 cases h with
 | @ptr id off k h =>
  obtain ⟨o,ho,hx⟩:=obind_eq hx; cases hx
  refine ⟨_,run_fieldAt ho _, ?_⟩
  rw [add_lit]; exact .ptr h
 | @ptrs id off k n c h =>
  obtain ⟨o,ho,hx⟩:=obind_eq hx; cases hx
  refine ⟨_,run_fieldAt ho _, ?_⟩
  rw [add_lit]; exact .ptrs h
 | @fptr cs off us ad h hz =>
  obtain ⟨o,ho,hx⟩:=obind_eq hx; cases hx
  refine ⟨_,run_fieldAt ho _, ?_⟩
  rw [add_add]; exact .fptr h hz
 | v h =>
  cases h with
  | ref h hz =>
   obtain ⟨o,ho,hx⟩:=obind_eq hx; cases hx
   exact ⟨_,run_fieldAt ho _,.fptr h hz⟩
  | _=>simp [evFieldAddr] at hx
 | _=>simp [evFieldAddr] at hx

theorem evNilCheck_sound {a x:T} {u:Value} (h:RepT φ Z w a u) (hx:evNilCheck a=some x):x=a∧∃ ad,u=.pointer (some ad):=by
 cases h with
 | ptr h=>cases hx; exact ⟨rfl,_,rfl⟩
 | ptrs h=>cases hx; exact ⟨rfl,_,rfl⟩
 | fptr h hz=>cases hx; exact ⟨rfl,_,rfl⟩
 | v h =>
  cases h with
  | ref h hz=>cases hx; exact ⟨rfl,_,rfl⟩
  | _=>simp [evNilCheck] at hx
 | _=>simp [evNilCheck] at hx

/-- An element's address. -/
theorem RepV.elem {xs:List V} {y:V} {i:Nat} {A:Option Addr} {n c k:Nat} (h:RepV Z w (.sl xs) (.slice A n c)) (hi:xs[i]? = some y) (hk:y.cells.length=k) :
  n=xs.length∧i<n∧∃ ad us,A=some ad∧RepCs Z w y.cells us∧∀ j u,us[j]? = some u→w.cell? ((ad.add (i * k)).add j)=some u∧Z ((ad.add (i * k)).add j).block ((ad.add (i * k)).add j).off:=by
 cases h with
 | nil=>simp at hi
 | @sl z _ us ad _ _ he hn hc hm hz =>
  have hlt:i<xs.length:=by
   rcases Nat.lt_or_ge i xs.length with h | h
   ·exact h
   ·rw [List.getElem?_eq_none h] at hi; cases hi
  obtain ⟨vs,h1,h2,h3⟩:=he.get i y hi
  have hkz:z=k:=by rw [← h2,← h1.length,hk]
  subst hkz
  refine ⟨hn.symm,by omega,ad,vs,rfl,h1,fun j u hu => ?_⟩
  rw [add_add]
  exact hz _ u (h3 j u hu)

theorem fpAt_sound {e t:Nat} {i:Int} {ki:IntKind} {xs:List V} {k:Nat} {x:T} {u:Value} (hv:RepV Z w (.sl xs) u) (he:elT P t=some e) (hk:sz P e=some k) (hx:fpAt k i xs=some x) :
  ∃ v,(Instr.indexAt t u (.int ki i)).run P w=.ok v w∧RepT φ Z w x v:=by
 obtain ⟨h0,hx⟩:=tst_eq hx
 obtain ⟨y,hy,hx⟩:=obind_eq hx
 obtain ⟨⟨hl,hk0⟩,hx⟩:=tst_eq hx
 cases hx
 have hs:∃ A c,u=.slice A xs.length c:=by
  cases hv with
  | nil A c=>exact ⟨A,c,rfl⟩
  | sl _ hn _ _ _=>exact ⟨_,_,by rw [hn]⟩
 obtain ⟨A,c,rfl⟩:=hs
 obtain ⟨_,hlt,ad,us,rfl,h2,h3⟩:=hv.elem hy hl
 have hi:i<(xs.length:Int):=by omega
 refine ⟨.pointer (some (ad.add (i.toNat * k))), ?_, ?_⟩
 ·simp [Instr.indexAt,asIntOf,run_underlying (und_of_elT he),run_sizeOf hk,h0,hi]
 ·have:=RepT.fptr (φ:=φ) (off:=0) h2 h3
  rwa [add_zero'] at this
theorem evIndexAddr_sound (hm:RelM P φ Z m n w) {t:Nat} {a i x:T} {u ui:Value} (h:RepT φ Z w a u) (hi:RepT φ Z w i ui) (hx:evIndexAddr P t m a i=some x) :
  ∃ v,(Instr.indexAt t u ui).run P w=.ok v w∧RepT φ Z w x v:=by
 cases i with
 | v i =>
  cases i with
  | int ki i =>
   obtain rfl:=int_rep hi
   simp only [evIndexAddr] at hx
   obtain ⟨e,he,hx⟩:=obind_eq hx
   obtain ⟨k,hk,hx⟩:=obind_eq hx
   cases a with
   | sv id co len =>
    simp only at hx
    obtain ⟨⟨h0,h1⟩,hx1⟩:=tst_eq hx
    clear hx
    cases hx1
    cases h with
    | @sv _ _ _ kk n' c c' A h hl hmm ha h00 =>
     have:=ha (by omega)
     subst this
     refine ⟨.pointer (some ⟨kk,co+i.toNat * k,none⟩), ?_,.ptrs h⟩
     simp [Instr.indexAt,asIntOf,run_underlying (und_of_elT he),run_sizeOf hk,h0,h1,add_lit]
   | _ =>
    simp only at hx
    obtain ⟨xs,hxs,hx⟩:=obind_eq hx
    exact fpAt_sound (elems_rep hm h hxs) he hk hx
  | _=>simp [evIndexAddr] at hx
 | _=>simp [evIndexAddr] at hx

/-! slices -/
theorem RepEs.take {z:Nat} {xs:List V} {us:List Value} (h:RepEs Z w z xs us) (k:Nat):RepEs Z w z (xs.take k) (us.take (k * z)):=by
 induction xs generalizing us z k with
 | nil=>cases h; simpa using RepEs.nil z
 | cons y ys ih =>
  cases k with
  | zero=>simpa using RepEs.nil z
  | succ k =>
   cases h with
   | @agg _ cs u us' _ h hl t =>
    have:(u++us').take ((k+1) * z)=u++us'.take (k * z):=by
     rw [List.take_append,List.take_of_length_le (by rw [hl,Nat.add_mul]; omega),hl,Nat.add_mul]
     congr 2; omega
    rw [this]; exact .agg h hl (ih t k)
   | one hc h t =>
    have:=ih t k
    simp only [Nat.mul_one] at this ⊢
    exact .one hc h this
theorem RepEs.drop {z:Nat} {xs:List V} {us:List Value} (h:RepEs Z w z xs us) (k:Nat):RepEs Z w z (xs.drop k) (us.drop (k * z)):=by
 induction xs generalizing us z k with
 | nil=>cases h; simpa using RepEs.nil z
 | cons y ys ih =>
  cases k with
  | zero=>simpa using h
  | succ k =>
   cases h with
   | @agg _ cs u us' _ h hl t =>
    have:(u++us').drop ((k+1) * z)=us'.drop (k * z):=by
     rw [List.drop_append,List.drop_of_length_le (by rw [hl,Nat.add_mul]; omega),hl,Nat.add_mul,List.nil_append]
     congr 1; omega
    rw [this]; exact ih t k
   | one hc h t =>
    have:=ih t k
    simp only [Nat.mul_one] at this ⊢
    exact this
theorem allZ_z {k z:Nat} {xs:List V} {us:List Value} (h:RepEs Z w z xs us) (ha:allZ k xs) (hne:xs ≠ []):z=k:=by
 cases xs with
 | nil=>exact absurd rfl hne
 | cons y ys =>
  obtain ⟨vs,h1,h2,_⟩:=h.get 0 y rfl
  rw [← h2,← h1.length]; exact (ha y (by simp)).1

/-- The bounds of a slice expression, as the machine asks them. -/
theorem bounds_sound {lo hi:Option T} {ulo uhi:Option Value} {len cap:Nat} {isS:Bool} {l h:Nat} (hlc:len≤cap) (hlo:∀ t,lo=some t→∃ u,ulo=some u∧RepT φ Z w t u) (hlo':lo=none→ulo=none)
  (hhi:∀ t,hi=some t→∃ u,uhi=some u∧RepT φ Z w t u) (hhi':hi=none→uhi=none) (hx:slRange len lo hi=some (l,h)) :
  (Instr.sliceBounds isS len cap ulo uhi none).run P w=.ok (l,h,cap) w∧l≤h∧h≤len:=by
 unfold slRange at hx
 obtain ⟨hh,hhb,hx⟩:=obind_eq hx
 obtain ⟨ll,hlb,hx⟩:=obind_eq hx
 obtain ⟨⟨h1,h2,h3⟩,hx⟩:=tst_eq hx
 cases hx
 have rh:(match uhi with | some v=>Instr.sliceBound v cap (if isS then .sliceAcap else .sliceAlen) | none=>pure len).run P w=.ok hh.toNat w:=by
  cases hi with
  | none=>rw [hhi' rfl]; simp only [bnd] at hhb; cases hhb; simp
  | some t =>
   obtain ⟨u,rfl,hr⟩:=hhi t rfl
   cases hr with
   | v hr=>cases hr <;> simp only [bnd] at hhb <;> cases hhb; exact run_sliceBound w _ _ _ _ (by omega) (by omega)
   | _=>simp [bnd] at hhb
 have rl:(match ulo with | some v=>Instr.sliceBound v hh.toNat .sliceB | none=>pure 0).run P w=.ok ll.toNat w:=by
  cases lo with
  | none=>rw [hlo' rfl]; simp only [bnd] at hlb; cases hlb; simp
  | some t =>
   obtain ⟨u,rfl,hr⟩:=hlo t rfl
   cases hr with
   | v hr=>cases hr <;> simp only [bnd] at hlb <;> cases hlb; exact run_sliceBound w _ _ _ _ (by omega) (by omega)
   | _=>simp [bnd] at hlb
 refine ⟨?_,by omega,by omega⟩
 unfold Instr.sliceBounds
 simp only [Sem.run_bind,Sem.run_pure,Result.andThen_ok,Option.isSome_none,Bool.false_eq_true,if_false]
 cases uhi <;> cases ulo <;> simp only [Sem.run_pure,Result.andThen_ok] at rh rl ⊢ <;> simp_all

theorem evClip_sound {t:Nat} {a mx x:T} {lo hi:Option T} {u um:Value} {ulo uhi:Option Value} (h:RepT φ Z w a u) (hmx:RepT φ Z w mx um) (hlo':lo=none→ulo=none)
  (hhi:∀ t,hi=some t→∃ u,uhi=some u∧RepT φ Z w t u) (hx:evClip P t lo hi mx a=some x) :
  ∃ v,(Instr.sliceAt t u ulo uhi (some um)).run P w=.ok v w∧RepT φ Z w x v:=by
 unfold evClip at hx
 split at hx
 ·rename_i k1 hh k2 cc xs
  obtain ⟨⟨h1,h2⟩,hx1⟩:=tst_eq hx
  clear hx
  subst h1 h2
  obtain ⟨e,he,hx2⟩:=obind_eq hx1
  obtain ⟨k,hk,hx3⟩:=obind_eq hx2
  cases hx3
  obtain rfl:=hlo' rfl
  obtain ⟨uh,rfl,hrh⟩:=hhi _ rfl
  have eh:uh=.int k1 (xs.length:Int):=by cases hrh with | v hrh=>cases hrh; rfl
  have em:um=.int k2 (xs.length:Int):=by cases hmx with | v hmx=>cases hmx; rfl
  subst eh em
  have run:∀ (A:Option Addr) (l c:Nat),l=xs.length→l≤c→(Instr.sliceAt t (.slice A l c) none (some (.int k1 (xs.length:Int))) (some (.int k2 (xs.length:Int)))).run P w=.ok (.slice (if xs.length=0 then A else A.map (·.add (0 * k))) (xs.length-0) (xs.length-0)) w:=by
   intro A l c hl hc
   have r1:=run_sliceBound (P:=P) w k2 (xs.length:Int) c .slice3Acap (by omega) (by omega)
   have r2:=run_sliceBound (P:=P) w k1 (xs.length:Int) xs.length .slice3B (by omega) (by omega)
   have hb:(Instr.sliceBounds true l c none (some (.int k1 (xs.length:Int))) (some (.int k2 (xs.length:Int)))).run P w=.ok (0,xs.length,xs.length) w:=by
    unfold Instr.sliceBounds
    simp only [Sem.run_bind,if_true,r1,Result.andThen_ok,Int.toNat_natCast,r2,Sem.run_pure]
   simp [Instr.sliceAt,Instr.slice,run_underlying (und_of_elT he),hb,run_sizeOf hk]
  have hv:RepV Z w (.sl xs) u:=by cases h with | v h=>exact h
  cases hv with
  | nil A c=>exact ⟨_,run A 0 c rfl (by omega),by simpa using RepT.v (.nil _ _)⟩
  | @sl z _ us ad nn c hes hn hc hmm hz =>
   refine ⟨_,run (some ad) nn c (by omega) hc,.v ?_⟩
   by_cases h0:xs.length=0
   ·have:xs=[]:=List.length_eq_zero_iff.1 h0
    subst this
    exact .nil _ _
   ·rw [if_neg h0,Nat.sub_zero,Nat.zero_mul,Option.map_some,add_zero']
    exact .sl hes rfl (Nat.le_refl _) (by omega) hz
 ·cases hx

theorem evSlice_sound (hm:RelM P φ Z m n w) {t:Nat} {a x:T} {lo hi:Option T} {u:Value} {ulo uhi:Option Value} (h:RepT φ Z w a u) (hlo:∀ t,lo=some t→∃ u,ulo=some u∧RepT φ Z w t u) (hlo':lo=none→ulo=none)
  (hhi:∀ t,hi=some t→∃ u,uhi=some u∧RepT φ Z w t u) (hhi':hi=none→uhi=none) (hx:evSlice P t m lo hi a=some x) :
  ∃ v,(Instr.sliceAt t u ulo uhi none).run P w=.ok v w∧RepT φ Z w x v:=by
 have general:∀ xs,RepV Z w (.sl xs) u→(obind (elT P t) fun e=>obind (sz P e) fun k=>tst (allZ k xs) (obind (slRange xs.length lo hi) fun p=>some (T.v (.sl ((xs.take p.2).drop p.1)))))=some x →
   ∃ v,(Instr.sliceAt t u ulo uhi none).run P w=.ok v w∧RepT φ Z w x v:=by
  intro xs hv hx
  obtain ⟨e,he,hx⟩:=obind_eq hx
  obtain ⟨k,hk,hx⟩:=obind_eq hx
  obtain ⟨ha,hx⟩:=tst_eq hx
  obtain ⟨⟨l,r⟩,hr,hx⟩:=obind_eq hx
  cases hx
  cases hv with
  | nil A c =>
   obtain ⟨hb,h1,h2⟩:=bounds_sound (P:=P) (w:=w) (isS:=true) (len:=0) (cap:=c) (Nat.zero_le _) hlo hlo' hhi hhi' hr
   refine ⟨.slice (if c=l then A else A.map (·.add (l * k))) (r-l) (c-l), ?_, ?_⟩
   ·simp [Instr.sliceAt,Instr.slice,run_underlying (und_of_elT he),hb,run_sizeOf hk]
   ·have e1:r-l=0:=by simp at h2; omega
    rw [e1]; simpa using RepT.v (.nil _ _)
  | @sl z _ us ad nn c hes hn hc hmm hz =>
   obtain ⟨hb,h1,h2⟩:=bounds_sound (P:=P) (w:=w) (isS:=true) (len:=nn) (cap:=c) hc hlo hlo' hhi hhi' (by rw [← hn]; exact hr)
   refine ⟨.slice (if c=l then some ad else some (ad.add (l * k))) (r-l) (c-l), ?_,.v ?_⟩
   ·simp [Instr.sliceAt,Instr.slice,run_underlying (und_of_elT he),hb,run_sizeOf hk]
   ·by_cases hlr:l=r
    ·subst hlr
     rw [Nat.sub_self,List.drop_of_length_le (by rw [List.length_take]; omega)]
     exact .nil _ _
    ·have hne:xs ≠ []:=by rintro rfl; simp at hn; omega
     obtain rfl:=allZ_z hes ha hne
     rw [if_neg (by omega)]
     refine .sl ((hes.take r).drop l) ?_ (by omega) (by omega) fun i u hu => ?_
     ·rw [List.length_drop,List.length_take]; omega
     ·rw [add_add]
      refine hz _ u ?_
      rw [List.getElem?_drop,List.getElem?_take] at hu
      split at hu
      ·exact hu
      ·cases hu
 cases h with
 | v h =>
  rename_i y
  cases y with
  | str s =>
   obtain ⟨hs,hx⟩:=tst_eq hx
   obtain ⟨⟨l,r⟩,hr,hx⟩:=obind_eq hx
   cases hx
   cases h with
   | @str _ b h =>
    have hsz:s.length=b.size:=by rw [← h,Array.length_toList]; rfl
    obtain ⟨hb,h1,h2⟩:=bounds_sound (P:=P) (w:=w) (isS:=false) (len:=b.size) (cap:=b.size) (Nat.le_refl _) hlo hlo' hhi hhi' (by rw [← hsz]; exact hr)
    refine ⟨.string (b.extract l r), ?_,.v (.str ?_)⟩
    ·simp only [Instr.sliceAt,Instr.slice,Sem.run_bind,run_underlying (und_of_isStr hs),Result.andThen_ok,Option.isSome_none,Bool.false_eq_true,if_false,Sem.run_pure,hb]
    ·rw [ByteArray.data_extract,Array.toList_extract,h,List.extract_eq_take_drop,List.drop_take]
  | sl xs=>exact general xs h (by have h:=hx; simp only [evSlice,elems,obind_some] at h; exact h)
  | _=>simp only [evSlice,elems,obind_none] at hx; obtain ⟨_,_,hx⟩:=obind_eq hx; obtain ⟨_,_,hx⟩:=obind_eq hx; cases hx
 | @sv id co len k n' c c' A h hl hmm ha h00 =>
  simp only [evSlice] at hx
  obtain ⟨e,he,hx⟩:=obind_eq hx
  obtain ⟨kk,hk,hx⟩:=obind_eq hx
  split at hx
  ·rename_i e' z cs hb
   obtain ⟨hzk,hx1⟩:=tst_eq hx
   clear hx; subst hzk
   obtain ⟨⟨l,r⟩,hr,hx2⟩:=obind_eq hx1
   cases hx2
   obtain ⟨hb',h1,h2⟩:=bounds_sound (P:=P) (w:=w) (isS:=true) (len:=len) (cap:=c') hl hlo hlo' hhi hhi' hr
   refine ⟨.slice (if c'=l then A else A.map (·.add (l * z))) (r-l) (c'-l), ?_, ?_⟩
   ·simp [Instr.sliceAt,Instr.slice,run_underlying (und_of_elT he),hb',run_sizeOf hk]
   ·refine .sv h (by omega) (by omega) (fun hp => ?_) (fun h0 => ?_)
    ·have:=ha (by omega)
     subst this
     rw [if_neg (by omega)]
     simp [add_lit]
    ·simp only at h0
     have hz0:0<z:=by
      obtain ⟨v',hv',hbb⟩:=hm.blk _ _ hb
      exact hbb.1
     have hco:co=0:=by omega
     have hl0:l=0:=by
      have:l * z=0:=by omega
      rcases Nat.mul_eq_zero.1 this with h | h
      ·exact h
      ·omega
     obtain ⟨h3,h4⟩:=h00 hco
     subst hl0 h3
     simp [add_zero',h4]
  ·cases hx
 | nil=>exact general [] (.nil _ _) (by have h:=hx; simp only [evSlice,elems,obind_some] at h; exact h)
 | @loc id u h =>
  simp only [evSlice] at hx
  obtain ⟨e,he,hx⟩:=obind_eq hx
  obtain ⟨kk,hk,hx⟩:=obind_eq hx
  obtain ⟨xs,hxs,hx⟩:=obind_eq hx
  refine general xs (elems_rep hm (.loc h) hxs) ?_
  simp only [he,hk,obind_some]; exact hx
 | _=>simp only [evSlice,elems,obind_none] at hx; obtain ⟨_,_,hx⟩:=obind_eq hx; obtain ⟨_,_,hx⟩:=obind_eq hx; cases hx
end
end TL

namespace TL
open Go Go.RowKit

section
variable {P:Program} {φ:Phi} {Z:Zs} {m:Mem} {n:Nat} {w:World}

theorem keep_refl (Z:Zs) (w:World):KeepZ Z w w:=fun _ _ _=>rfl

theorem mapO_spec {α β:Type} {f:α→Option β} {xs:List α} {ys:List β} (h:mapO f xs=some ys):xs.length=ys.length∧∀ (i:Nat) (x:α),xs[i]? = some x→∃ y,ys[i]? = some y∧f x=some y:=by
 induction xs generalizing ys with
 | nil=>simp [mapO] at h; subst h; simp
 | cons x xs ih =>
  simp only [mapO] at h
  cases hf:f x with
  | none=>simp [hf] at h
  | some y =>
   simp only [hf,Option.bind_some,Option.map_eq_some_iff] at h
   obtain ⟨zs,hz,rfl⟩:=h
   obtain ⟨h1,h2⟩:=ih hz
   refine ⟨by simp [h1],fun i x' hx => ?_⟩
   cases i with
   | zero=>simp at hx; subst hx; exact ⟨y,rfl,hf⟩
   | succ i=>exact h2 i x' (by simpa using hx)
theorem mapO_cons {α β:Type} {f:α→Option β} {x:α} {xs:List α} {ys:List β} (h:mapO f (x :: xs)=some ys):∃ y zs,f x=some y∧mapO f xs=some zs∧ys=y :: zs:=by
 simp only [mapO] at h
 cases hf:f x with
 | none=>simp [hf] at h
 | some y =>
  simp only [hf,Option.bind_some,Option.map_eq_some_iff] at h
  obtain ⟨zs,hz,rfl⟩:=h
  exact ⟨y,zs,rfl,hz,rfl⟩

theorem chunk_rep {z:Nat} (hz:0<z):∀ (len:Nat) (xs:List V) (us:List Value),RepCs Z w xs us→xs.length=len * z→RepEs Z w z (chunk z len xs) us:=by
 intro len
 induction len with
 | zero =>
  intro xs us h hl
  obtain rfl:xs=[]:=List.eq_nil_of_length_eq_zero (by simpa using hl)
  cases h; exact .nil z
 | succ len ih =>
  intro xs us h hl
  have hd:=h.drop z
  have ht:=h.take z
  have hu:us=us.take z++us.drop z:=(List.take_append_drop z us).symm
  have hl':(xs.drop z).length=len * z:=by rw [List.length_drop,hl,Nat.add_mul]; omega
  have ih':=ih _ _ hd hl'
  unfold chunk
  by_cases h1:z=1
  ·subst h1
   rw [if_pos rfl]
   cases h with
   | nil=>simp at hl
   | cons hc h t=>exact .one hc h ih'
  ·rw [if_neg h1,hu]
   exact .agg ht (by rw [← ht.length,List.length_take,hl,Nat.add_mul]; omega) ih'
theorem chunk_length (z len:Nat) (xs:List V):(chunk z len xs).length=len:=by
 induction len generalizing xs with
 | zero=>rfl
 | succ n ih=>simp [chunk,ih]

/-- What a call, or whoever reads, sees. -/
theorem bor_sound (hm:RelM P φ Z m n w) {k:Bool} {Zb:Zs} (hs:SubZ Z Zb) (hk:k=true→∀ g,Owned φ m g→∀ o,Zb g o):∀ (d:Nat) (t:T) (u:Value) (x:V),RepT φ Z w t u→bor k m d t=some x→RepV Zb w x u:=by
 intro d
 have base:∀ d t u x,RepT φ Z w t u→(∃ y,t=.v y)∨t=.nil∨(∃ id,t=.loc id)∨(∃ cs,t=.fptr cs 0)→bor k m d t=some x→RepV Zb w x u:=by
  rintro d t u x h (⟨y,rfl⟩ | rfl | ⟨id,rfl⟩ | ⟨cs,rfl⟩) hx
  ·have:bor k m d (.v y)=some y:=by cases d <;> rfl
   rw [this] at hx; cases hx
   cases h with | v h=>exact h.mono hs (keep_refl _ _)
  ·have:bor k m d .nil=some (.sl []):=by cases d <;> rfl
   rw [this] at hx; cases hx
   cases h; exact .nil _ _
  ·have:elems m (.loc id)=(bor k m d (.loc id)).bind fun x=>match x with | .sl xs=>some xs | _=>none:=by
    cases d <;> (simp only [elems,bor]; split <;> simp_all)
   rw [hx] at this
   have hb:∃ xs,x=.sl xs:=by
    cases d <;> (simp only [bor] at hx; split at hx <;> cases hx <;> exact ⟨_,rfl⟩)
   obtain ⟨xs,rfl⟩:=hb
   exact (elems_rep hm h (by simpa using this)).mono hs (keep_refl _ _)
  ·have:bor k m d (.fptr cs 0)=some (.ref cs):=by cases d <;> rfl
   rw [this] at hx; cases hx
   cases h with
   | fptr h hz =>
    rw [add_zero']
    exact .ref (h.mono hs (keep_refl _ _)) fun i u hu=>⟨(hz i u hu).1,hs _ _ (hz i u hu).2⟩
 induction d with
 | zero =>
  intro t u x h hx
  cases t with
  | v y=>exact base 0 _ u x h (.inl ⟨y,rfl⟩) hx
  | nil=>exact base 0 _ u x h (.inr (.inl rfl)) hx
  | loc id=>exact base 0 _ u x h (.inr (.inr (.inl ⟨id,rfl⟩))) hx
  | fptr cs off=>cases off with
   | zero=>exact base 0 _ u x h (.inr (.inr (.inr ⟨cs,rfl⟩))) hx
   | succ o=>simp [bor] at hx
  | _=>simp [bor] at hx
 | succ d ih =>
  have list:∀ ts us xs,RepTs φ Z w ts us→mapO (bor k m d) ts=some xs→RepVs Zb w xs us:=by
   intro ts
   induction ts with
   | nil=>intro us xs h hx; cases h; simp [mapO] at hx; subst hx; exact .nil
   | cons t ts iht =>
    intro us xs h hx
    obtain ⟨y,zs,h1,h2,rfl⟩:=mapO_cons hx
    cases h with | cons h t=>exact .cons (ih _ _ _ h h1) (iht _ _ t h2)
  have cells:∀ us xs,RepVs Zb w xs us→(∀ x ∈ xs,x.cell=true)→RepCs Zb w xs us:=by
   intro us xs h
   induction xs generalizing us with
   | nil=>intro _; cases h; exact .nil
   | cons y ys ihy =>
    intro hc
    cases h with | cons h t=>exact .cons (hc y (by simp)) h (ihy _ t fun x hx=>hc x (by simp [hx]))
  intro t u x h hx
  cases t with
  | v y=>exact base _ _ u x h (.inl ⟨y,rfl⟩) hx
  | nil=>exact base _ _ u x h (.inr (.inl rfl)) hx
  | mp id=>simp [bor] at hx
  | nf=>simp [bor] at hx
  | loc id=>exact base _ _ u x h (.inr (.inr (.inl ⟨id,rfl⟩))) hx
  | fptr cs off=>cases off with
   | zero=>exact base _ _ u x h (.inr (.inr (.inr ⟨cs,rfl⟩))) hx
   | succ o=>simp [bor] at hx
  | agg cs =>
   simp only [bor] at hx
   obtain ⟨xs,h1,hx⟩:=obind_eq hx
   obtain ⟨h2,hx⟩:=tst_eq hx
   cases hx
   cases h with | agg h=>exact .agg (cells _ _ (list _ _ _ h h1) h2)
  | tup cs =>
   simp only [bor,Option.map_eq_some_iff] at hx
   obtain ⟨xs,h1,rfl⟩:=hx
   cases h with | tup h=>exact .tup (list _ _ _ h h1)
  | fn f cs =>
   simp only [bor,Option.map_eq_some_iff] at hx
   obtain ⟨xs,h1,rfl⟩:=hx
   cases h with | fn h=>exact .fn (list _ _ _ h h1)
  | sv id co len =>
   simp only [bor] at hx
   cases k with
   | false=>simp at hx
   | true =>
    have hZ:=hk rfl
    simp only [if_true] at hx
    split at hx
    ·rename_i e z cs hb
     obtain ⟨hle,hx⟩:=tst_eq hx
     obtain ⟨xs,h1,hx⟩:=obind_eq hx
     obtain ⟨h2,hx⟩:=tst_eq hx
     cases hx
     obtain ⟨v,hv,hz0,hsz,g,cur,hg,hcur,hl,hr,hc,hnz,hform⟩:=hm.blk _ _ hb
     cases h with
     | @sv _ _ _ g' n' c c' A h hlc hmm ha h00 =>
      have hgo:=hZ g ⟨id,_,v,hb,rfl,hv,hg⟩
      rw [hv] at h; cases h
      cases hg
      have hcs:=cells _ _ (list _ _ _ ((hr.drop co).take (len * z)) h1) h2
      by_cases hlen:len=0
      ·subst hlen; exact .nil _ _
      ·have:=ha (by omega)
       subst this
       have hxl:xs.length=len * z:=by
        rw [← (mapO_spec h1).1,List.length_take,List.length_drop]; omega
       refine .sl (chunk_rep hz0 len xs _ hcs hxl) (chunk_length _ _ _) hlc hmm fun i u hu => ?_
       rw [add_lit]
       have hglt:=(Array.getElem?_eq_some_iff.1 hcur).1
       refine ⟨?_,hgo _⟩
       rw [cell_of_row w _ (co+i) cur e (0,0) hcur]
       rw [List.getElem?_take] at hu; split at hu
       ·rw [List.getElem?_drop,List.getElem?_take] at hu; split at hu
        ·simpa using hu
        ·cases hu
       ·cases hu
    ·cases hx
  | ptr id off =>
   cases off with
   | succ o=>simp [bor] at hx
   | zero =>
    simp only [bor] at hx
    cases k with
    | false=>simp at hx
    | true =>
     have hZ:=hk rfl
     simp only [if_true] at hx
     split at hx
     ·rename_i e z cs hb
      obtain ⟨xs,h1,hx⟩:=obind_eq hx
      obtain ⟨h2,hx⟩:=tst_eq hx
      cases hx
      obtain ⟨g,cur,v,hv,hg,rfl,hcur,hl,hr,hc⟩:=box_at hm h hb
      refine .ref (cells _ _ (list _ _ _ hr h1) h2) fun i u hu => ?_
      rw [add_lit,Nat.zero_add]
      refine ⟨?_,hZ g ⟨id,_,v,hb,rfl,hv,hg⟩ _⟩
      rw [cell_of_row w _ i cur e (0,0) hcur]
      rw [List.getElem?_take] at hu; split at hu
      ·simpa using hu
      ·cases hu
     ·cases hx
theorem bors_sound (hm:RelM P φ Z m n w) {k:Bool} {Zb:Zs} (hs:SubZ Z Zb) (hk:k=true→∀ g,Owned φ m g→∀ o,Zb g o) {d:Nat} : ∀ (ts:List T) (us:List Value) (xs:List V),RepTs φ Z w ts us→mapO (bor k m d) ts=some xs→RepVs Zb w xs us:=by
 intro ts
 induction ts with
 | nil=>intro us xs h hx; cases h; simp [mapO] at hx; subst hx; exact .nil
 | cons t ts iht =>
  intro us xs h hx
  obtain ⟨y,zs,h1,h2,rfl⟩:=mapO_cons hx
  cases h with | cons h t=>exact .cons (bor_sound hm hs hk d _ _ _ h h1) (iht _ _ t h2)

mutual
theorem flat_rep {Z':Zs} {w':World} : ∀ {x:V} {u:Value},x.flat=true→RepV Z w x u→RepV Z' w' x u
 | .bool b,_,_,.bool _=>.bool b
 | .int k i,_,_,.int _ _=>.int k i
 | .str s,_,_,.str h=>.str h
 | .tup vs,_,h,.tup g=>.tup (flatL_rep (by simpa [V.flat] using h) g)
 | .agg vs,_,h,.agg g=>.agg (flatC_rep (by simpa [V.flat] using h) g)
theorem flatL_rep {Z':Zs} {w':World} : ∀ {x:List V} {u:List Value},flatL x=true→RepVs Z w x u→RepVs Z' w' x u
 | [],_,_,.nil=>.nil
 | x :: xs,_,h,.cons g t=>.cons (flat_rep (by simp [flatL] at h; exact h.1) g) (flatL_rep (by simp [flatL] at h; exact h.2) t)
theorem flatC_rep {Z':Zs} {w':World} : ∀ {x:List V} {u:List Value},flatL x=true→RepCs Z w x u→RepCs Z' w' x u
 | [],_,_,.nil=>.nil
 | x :: xs,_,h,.cons hc g t=>.cons hc (flat_rep (by simp [flatL] at h; exact h.1) g) (flatC_rep (by simp [flatL] at h; exact h.2) t)
end

theorem ba_get (b:ByteArray) (i:Nat):b[i]? = b.data[i]? := by
 by_cases h:i<b.size
 ·rw [getElem?_pos b i h,getElem?_pos b.data i h]; rfl
 ·rw [getElem?_neg b i h,getElem?_neg b.data i h]
theorem evIndex_sound {t:Nat} {a i x:T} {u ui:Value} (h:RepT φ Z w a u) (hi:RepT φ Z w i ui) (hx:evIndex P t i a=some x):∃ v,(Instr.index t u ui).run P w=.ok v w∧RepT φ Z w x v:=by
 cases a with
 | v a =>
  cases a with
  | str s =>
   cases i with
   | v i =>
    cases i with
    | int k i =>
     obtain rfl:=int_rep hi
     obtain ⟨⟨h1,h2⟩,hx⟩:=tst_eq hx
     obtain ⟨c,hc,hx⟩:=obind_eq hx
     cases hx
     obtain ⟨b,rfl,hb⟩:=str_rep h
     refine ⟨.int .u8 c.toNat, ?_,.v (.int _ _)⟩
     have hbc:b[i.toNat]? = some c:=by
      rw [← hb] at hc
      rw [ba_get]; simpa using hc
     simp [Instr.index,asIntOf,run_underlying (und_of_isStr h1),h2,hbc]
    | _=>simp [evIndex] at hx
   | _=>simp [evIndex] at hx
  | _=>simp [evIndex] at hx
 | _=>simp [evIndex] at hx

theorem RepVs.get {cs:List V} {us:List Value} (h:RepVs Z w cs us):∀ (i:Nat) (x:V),cs[i]? = some x→∃ u,us[i]? = some u∧RepV Z w x u:=by
 induction cs generalizing us with
 | nil=>intro i x hx; simp at hx
 | cons y ys ih =>
  cases h with
  | cons h t =>
   intro i x hx
   cases i with
   | zero=>simp at hx; subst hx; exact ⟨_,rfl,h⟩
   | succ i=>exact ih t i x (by simpa using hx)
theorem evExtract_sound {i:Nat} {a x:T} {u:Value} (h:RepT φ Z w a u) (hx:evExtract i a=some x):∃ v,(Instr.extract u i).run P w=.ok v w∧RepT φ Z w x v:=by
 cases h with
 | tup h =>
  obtain ⟨u,h1,h2⟩:=h.get i x hx
  exact ⟨u,by simp [Instr.extract,h1],h2⟩
 | v h =>
  cases h with
  | tup h =>
   simp only [evExtract,Option.map_eq_some_iff] at hx
   obtain ⟨y,hy,rfl⟩:=hx
   obtain ⟨u,h1,h2⟩:=h.get i y hy
   exact ⟨u,by simp [Instr.extract,h1],.v h2⟩
  | _=>simp [evExtract] at hx
 | _=>simp [evExtract] at hx
theorem fld_spec {t f:Nat} {g:TypeId × Nat} (h:fld P t f=some g):∃ fs F,P.underlying t=some (.struct fs)∧fs[f]? = some F∧F.type=g.1∧F.offset=g.2:=by
 unfold fld at h
 cases hu:P.underlying t with
 | none=>simp [hu] at h
 | some d =>
  simp only [hu,Option.bind_some] at h
  split at h
  ·rename_i fs
   cases hf:fs[f]? with
   | none=>simp [hf] at h
   | some F=>simp [hf] at h; subst h; exact ⟨fs,F,rfl,hf,rfl,rfl⟩
  ·cases h
theorem partV_sound {t off:Nat} {cs:List V} {us:List Value} {x:T} (h:RepCs Z w cs us) (hx:cutV P t cs off=some x) :
  ∃ v,(part t us.toArray off).run P w=.ok v w∧RepT φ Z w x v:=by
 unfold cutV at hx
 obtain ⟨k,hk,hx⟩:=obind_eq hx
 obtain ⟨a,ha,hx⟩:=obind_eq hx
 cases a with
 | true =>
  obtain ⟨hle,hx⟩:=tst_eq (by simpa using hx)
  cases hx
  refine ⟨.agg ((us.drop off).take k).toArray, ?_,.v (.agg ((h.drop off).take k))⟩
  simp [part,run_isAgg ha,run_sizeOf hk,List.extract_eq_take_drop]
 | false =>
  simp only [Bool.false_eq_true,if_false,Option.map_eq_some_iff] at hx
  obtain ⟨y,hy,rfl⟩:=hx
  obtain ⟨u,hu,hr⟩:=h.get off y hy
  refine ⟨u, ?_,.v hr⟩
  simp [part,run_isAgg ha,hu]
theorem partT_sound {t off:Nat} {cs:List T} {us:List Value} {x:T} (h:RepTs φ Z w cs us) (hx:cutT P t cs off=some x) :
  ∃ v,(part t us.toArray off).run P w=.ok v w∧RepT φ Z w x v:=by
 unfold cutT at hx
 obtain ⟨k,hk,hx⟩:=obind_eq hx
 obtain ⟨a,ha,hx⟩:=obind_eq hx
 cases a with
 | true =>
  obtain ⟨hle,hx⟩:=tst_eq (by simpa using hx)
  cases hx
  refine ⟨.agg ((us.drop off).take k).toArray, ?_,.agg ((h.drop off).take k)⟩
  simp [part,run_isAgg ha,run_sizeOf hk,List.extract_eq_take_drop]
 | false =>
  simp only [Bool.false_eq_true,if_false] at hx
  obtain ⟨u,hu,hr⟩:=h.get off x hx
  refine ⟨u, ?_,hr⟩
  simp [part,run_isAgg ha,hu]
theorem evField_sound {t f:Nat} {a x:T} {u:Value} (h:RepT φ Z w a u) (hx:evField P t f a=some x):∃ v,(Instr.field t u f).run P w=.ok v w∧RepT φ Z w x v:=by
 cases h with
 | agg h =>
  obtain ⟨g,hg,hx⟩:=obind_eq hx
  obtain ⟨fs,F,h1,h2,h3,h4⟩:=fld_spec hg
  obtain ⟨v,hv,hr⟩:=partT_sound (P:=P) h hx
  refine ⟨v, ?_,hr⟩
  rw [← h3,← h4] at hv
  simp [Instr.field,run_underlying h1,h2,asAgg,hv]
 | v h =>
  cases h with
  | agg h =>
   obtain ⟨g,hg,hx⟩:=obind_eq hx
   obtain ⟨fs,F,h1,h2,h3,h4⟩:=fld_spec hg
   obtain ⟨v,hv,hr⟩:=partV_sound (P:=P) h hx
   refine ⟨v, ?_,hr⟩
   rw [← h3,← h4] at hv
   simp [Instr.field,run_underlying h1,h2,asAgg,hv]
  | _=>simp [evField] at hx
 | _=>simp [evField] at hx
end
end TL

namespace TL
open Go Go.RowKit

section
variable {P:Program} {φ:Phi} {Z:Zs} {m:Mem} {n:Nat} {w:World}

theorem intBin_sound {op : BinOp} {k k' : IntKind} {a b : Int} {r : V} (h : bin op (.int k a) (.int k' b) = some r) (t : Nat) :
    ∃ v,(binOp op t (.int k a) (.int k' b)).run P w = .ok v w ∧ RepV Z w r v := by
  cases op <;> simp only [bin] at h
  case shl =>
    simp only [intBin] at h; split at h; · cases h
    rename_i hb; cases h
    refine ⟨_, ?_,.int _ _⟩
    simp [binOp,Op.shift,hb]
  case shr =>
    simp only [intBin] at h; split at h; · cases h
    rename_i hb; cases h
    refine ⟨_, ?_,.int _ _⟩
    simp [binOp,Op.shift,hb]
  all_goals
    split at h
    · rename_i hk
      subst hk
      simp only [intBin] at h
      first
      | (cases h
         first
         | (refine ⟨.int k _, ?_,.int _ _⟩; simp only [binOp,Op.intArith,ne_eq,not_true_eq_false,if_false,Sem.run_pure]; done)
         | (refine ⟨.int k _, ?_,.int _ _⟩; simp only [binOp,Op.intBits,ne_eq,not_true_eq_false,if_false,Sem.run_pure]; done)
         | (refine ⟨.bool _, ?_,.bool _⟩; simp [binOp,Op.intCmp]; done)
         | (refine ⟨.bool _, ?_,.bool _⟩; simp [binOp,Op.intCmp]; rfl))
      | (split at h
         · cases h
         · rename_i hb; cases h; refine ⟨.int k _, ?_,.int _ _⟩; simp [binOp,Op.intDiv,hb]; done)
      | (split at h
         · cases h
         · rename_i hb; cases h; refine ⟨.int k _, ?_,.int _ _⟩; simp [binOp,Op.intDiv,hb]; rfl)
    · cases h
theorem boolBin_sound {op:BinOp} {a b:Bool} {r:V} (h:bin op (.bool a) (.bool b)=some r) {t:Nat} (x y:Operand) (hb:P.underlying t=some .bool) :
  ∃ v,(do eqGuard op t x y (.bool a) (.bool b); binOp op t (.bool a) (.bool b)).run P w=.ok v w∧RepV Z w r v:=by
 cases op <;> simp only [bin] at h <;> first | (cases h; done) | skip
 ·cases h; exact ⟨.bool (a == b),by simp [eqGuard,binOp,Op.equal,Op.maxDepth,run_equalIn_bool',hb],.bool _⟩
 ·cases h; exact ⟨.bool (!(a == b)),by simp [eqGuard,binOp,Op.equal,Op.maxDepth,run_equalIn_bool',hb],.bool _⟩
theorem strBin_sound {op:BinOp} {a b:ByteArray} {r:V} (h:bin op (.str a.data.toList) (.str b.data.toList)=some r) (t:Nat) :
  ∃ v,(binOp op t (.string a) (.string b)).run P w=.ok v w∧RepV Z w r v:=by
 cases op <;> simp only [bin] at h <;> first | (cases h; done) | skip
 case add =>
  split at h
  ·rename_i hl
   cases h
   refine ⟨.string (a++b), ?_,.str (by simp [ByteArray.data_append])⟩
   have:a.size+b.size≤9223372036854775807:=by
    have e1:a.data.toList.length=a.size:=Array.length_toList
    have e2:b.data.toList.length=b.size:=Array.length_toList
    rw [e1,e2] at hl; omega
   simp [binOp,run_string_add_sum w a b this]
  ·cases h
 case eql =>
  cases h
  have e:(a.toList == b.toList)=decide (a.data.toList=b.data.toList):=by rw [ByteArray.toList_eq,ByteArray.toList_eq]; exact Bool.eq_iff_iff.2 (by simp)
  exact ⟨.bool (a.toList == b.toList),by simp only [binOp,Op.stringOp,Sem.run_pure],e ▸ .bool _⟩
 case neq =>
  cases h
  have e:(!(a.toList == b.toList))=decide (a.data.toList ≠ b.data.toList):=by rw [ByteArray.toList_eq,ByteArray.toList_eq]; exact Bool.eq_iff_iff.2 (by simp)
  exact ⟨.bool (!(a.toList == b.toList)),by simp only [binOp,Op.stringOp,Sem.run_pure],e ▸ .bool _⟩

theorem run_eqGuard_int (op:BinOp) (t:Nat) (x y:Operand) (k k':IntKind) (a b:Int):(eqGuard op t x y (.int k a) (.int k' b)).run P w=.ok () w:=by cases op <;> simp [eqGuard]
theorem run_eqGuard_str (op:BinOp) (t:Nat) (x y:Operand) (a b:ByteArray):(eqGuard op t x y (.string a) (.string b)).run P w=.ok () w:=by cases op <;> simp [eqGuard]

/-! structs that are compared -/
theorem kindsFrom_cons {i:Nat} {f:Field} {fs:List Field} {ks:List Nat} (h:kindsFrom P i (f :: fs)=some ks) :
  f.name ≠ "_" ∧ f.offset = i ∧ ∃ k ks',ks = k :: ks' ∧ kindsFrom P (i + 1) fs = some ks' ∧ (k = 0 ∧ P.underlying f.type = some .bool ∨ k = 1 ∧ (∃ q,P.underlying f.type = some (.int q)) ∨ k = 2 ∧ P.underlying f.type = some .string) := by
 unfold kindsFrom at h
 split at h
 ·rename_i hc
  refine ⟨hc.1,hc.2, ?_⟩
  cases hu:P.underlying f.type with
  | none=>simp [hu] at h
  | some d =>
   rw [hu] at h
   cases d <;> simp only [Option.bind_none,Option.bind_some,Option.map_eq_some_iff] at h <;> first | (cases h; done) | skip
   ·obtain ⟨ks',h1,rfl⟩:=h; exact ⟨0,ks',rfl,h1,.inl ⟨rfl,rfl⟩⟩
   ·obtain ⟨ks',h1,rfl⟩:=h; exact ⟨1,ks',rfl,h1,.inr (.inl ⟨rfl,_,rfl⟩)⟩
   ·obtain ⟨ks',h1,rfl⟩:=h; exact ⟨2,ks',rfl,h1,.inr (.inr ⟨rfl,rfl⟩)⟩
 ·cases h
theorem part_cell {t:Nat} {us:Array Value} {i:Nat} {u:Value} (hu:us[i]? = some u) (h:P.underlying t=some .bool∨(∃ q,P.underlying t=some (.int q))∨P.underlying t=some .string):(part t us i).run P w=.ok u w:=by
 have:(isAgg t).run P w=.ok false w:=by
  rcases h with h | ⟨q,h⟩ | h <;> simp [isAgg,run_underlying h]
 simp [part,this,hu]
theorem eqFields_sound {d:Nat} : ∀ (fs:List Field) (i:Nat) (ks:List Nat) (as bs:List V) (us vs:List Value) (U W:Array Value) (q:Bool),kindsFrom P i fs=some ks→RepCs Z w as us→RepCs Z w bs vs →
  (∀ j,us[j]? = U[i+j]?)→(∀ j,vs[j]? = W[i+j]?)→cellsEq ks as bs=some q→(Op.eqFields (d+1) U W fs).run P w=.ok q w:=by
 intro fs
 induction fs with
 | nil =>
  intro i ks as bs us vs U W q hk ha hb hU hW hq
  simp [kindsFrom] at hk; subst hk
  cases as <;> cases bs <;> simp [cellsEq] at hq
  subst hq; simp [Op.eqFields]
 | cons f fs ih =>
  intro i ks as bs us vs U W q hk ha hb hU hW hq
  obtain ⟨hn,ho,k,ks',rfl,hk',hc⟩:=kindsFrom_cons hk
  have hty:P.underlying f.type=some .bool∨(∃ q,P.underlying f.type=some (.int q))∨P.underlying f.type=some .string:=by
   rcases hc with ⟨_,h⟩ | ⟨_,h⟩ | ⟨_,h⟩
   ·exact .inl h
   ·exact .inr (.inl h)
   ·exact .inr (.inr h)
  cases ha with
  | nil=>rcases hc with ⟨rfl,_⟩ | ⟨rfl,_⟩ | ⟨rfl,_⟩ <;> cases bs <;> simp [cellsEq] at hq
  | @cons a u as us ca ra ta =>
   cases hb with
   | nil=>rcases hc with ⟨rfl,_⟩ | ⟨rfl,_⟩ | ⟨rfl,_⟩ <;> cases a <;> simp [cellsEq] at hq
   | @cons b v bs vs cb rb tb =>
    have hu:U[i]? = some u:=by have:=hU 0; simpa using this.symm
    have hv:W[i]? = some v:=by have:=hW 0; simpa using this.symm
    have hU':∀ j,us[j]? = U[i+1+j]? := fun j=>by have:=hU (j+1); simp only [List.getElem?_cons_succ] at this; rw [this]; congr 1; omega
    have hW':∀ j,vs[j]? = W[i+1+j]? := fun j=>by have:=hW (j+1); simp only [List.getElem?_cons_succ] at this; rw [this]; congr 1; omega
    have step:∀ q1 q2,(Op.equalIn (d+1) f.type u v).run P w=.ok q1 w→cellsEq ks' as bs=some q2→q=(q1 && q2)→(Op.eqFields (d+1) U W (f :: fs)).run P w=.ok q w:=by
     intro q1 q2 h1 h2 h3
     subst ho
     simp only [Op.eqFields,ne_eq,hn,not_false_eq_true,if_true,Sem.run_bind,part_cell hu hty,part_cell hv hty,Result.andThen_ok,h1]
     cases q1
     ·simp [h3]
     ·simp only [Bool.not_true,Bool.false_eq_true,if_false]
      rw [h3,Bool.true_and]
      exact ih _ ks' as bs us vs U W q2 hk' ta tb hU' hW' h2
    rcases hc with ⟨rfl,ht⟩ | ⟨rfl,kq,ht⟩ | ⟨rfl,ht⟩
    ·cases a <;> cases b <;> simp only [cellsEq] at hq <;> first | (cases hq; done) | skip
     simp only [Option.map_eq_some_iff] at hq
     obtain ⟨q2,h2,rfl⟩:=hq
     cases ra; cases rb
     exact step _ q2 (run_equalIn_bool' w d _ _ _ ht) h2 rfl
    ·cases a <;> cases b <;> simp only [cellsEq] at hq <;> first | (cases hq; done) | skip
     obtain ⟨hkk,hq⟩:=tst_eq hq
     simp only [Option.map_eq_some_iff] at hq
     obtain ⟨q2,h2,rfl⟩:=hq
     subst hkk
     cases ra; cases rb
     refine step _ q2 (run_equalIn_int w d _ _ _ _ _ ht) h2 ?_
     congr 1
    ·cases a <;> cases b <;> simp only [cellsEq] at hq <;> first | (cases hq; done) | skip
     simp only [Option.map_eq_some_iff] at hq
     obtain ⟨q2,h2,rfl⟩:=hq
     cases ra with | str ra=>cases rb with | str rb =>
     refine step _ q2 (run_equalIn_string w d _ _ _ ht) h2 ?_
     rw [ByteArray.toList_eq,ByteArray.toList_eq,ra,rb]
     congr 1
     exact Bool.eq_iff_iff.2 (by simp)
theorem eqKinds_spec {t:Nat} {ks:List Nat} (h:eqKinds P t=some ks):P.underlying t=some (.struct (P.fieldsOf t))∧P.stoodInHeld t=false∧P.eqGuardType P.depth t=false∧kindsFrom P 0 (P.fieldsOf t).toList=some ks:=by
 unfold eqKinds at h
 split at h
 ·rename_i fs hu
  split at h
  ·rename_i hc
   simp at hc
   have:P.fieldsOf t=fs:=by simp [Program.fieldsOf,hu]
   rw [this]; exact ⟨hu,hc.1,hc.2,h⟩
  ·cases h
 ·cases h
theorem structEq_sound {op:BinOp} {t:Nat} {ks:List Nat} {a b:V} {u v:Value} {x:T} (x1 y1:Operand) (hk:eqKinds P t=some ks) (ha:RepV Z w a u) (hb:RepV Z w b v) (hx:structEq op ks a b=some x) :
  ∃ r,(do eqGuard op t x1 y1 u v; binOp op t u v).run P w=.ok r w∧RepT φ Z w x r:=by
 obtain ⟨h1,h2,h3,h4⟩:=eqKinds_spec hk
 cases a <;> cases b <;> simp only [structEq] at hx <;> first | (cases hx; done) | skip
 obtain ⟨q,hq,hx⟩:=obind_eq hx
 cases ha with | agg ha=>cases hb with | agg hb =>
 rename_i us vs
 have he:(Op.equalIn 10000 t (.agg us.toArray) (.agg vs.toArray)).run P w=.ok q w:=by
  rw [run_equalIn_struct w 9999 t us.toArray vs.toArray h1 h2]
  exact eqFields_sound (d:=9998) _ 0 ks _ _ us vs us.toArray vs.toArray q h4 ha hb (by simp) (by simp) hq
 cases op <;> simp only at hx <;> first | (cases hx; done) | skip
 ·cases hx; refine ⟨.bool q, ?_,rep_bool _⟩
  simp only [Sem.run_bind,run_eqGuard_agg w .eql t x1 y1 _ _ h3,Result.andThen_ok,run_eql_struct,he]
 ·cases hx; refine ⟨.bool (!q), ?_,rep_bool _⟩
  simp only [Sem.run_bind,run_eqGuard_agg w .neq t x1 y1 _ _ h3,Result.andThen_ok,run_neq_struct,he]

theorem isBool_spec {t:Nat} (h:isBool P t=some true):P.underlying t=some .bool:=by
 unfold isBool at h; cases hu:P.underlying t with
 | none=>simp [hu] at h
 | some d=>simp only [hu,Option.map_some,Option.some.injEq] at h; split at h <;> simp at h; rfl
theorem evBin_sound (hm:RelM P φ Z m n w) {op:BinOp} {t:Nat} {a b x:T} {u v:Value} (x1 y1:Operand) (h:RepT φ Z w a u) (g:RepT φ Z w b v) (hx:evBin P m op t a b=some x) :
  ∃ r,(do eqGuard op t x1 y1 u v; binOp op t u v).run P w=.ok r w∧RepT φ Z w x r:=by
 have struct:(obind (eqKinds P t) fun ks=>obind (bor false m 2 a) fun a=>obind (bor false m 2 b) fun b=>structEq op ks a b)=some x →
   ∃ r,(do eqGuard op t x1 y1 u v; binOp op t u v).run P w=.ok r w∧RepT φ Z w x r:=by
  intro hx
  obtain ⟨ks,hks,hx⟩:=obind_eq hx
  obtain ⟨a',ha,hx⟩:=obind_eq hx
  obtain ⟨b',hb,hx⟩:=obind_eq hx
  exact structEq_sound x1 y1 hks (bor_sound hm (Zb:=Z) (fun _ _ h=>h) (by simp) 2 _ _ _ h ha) (bor_sound hm (Zb:=Z) (fun _ _ h=>h) (by simp) 2 _ _ _ g hb) hx
 unfold evBin at hx
 split at hx
 ·obtain rfl:=int_rep h; obtain rfl:=int_rep g
  obtain ⟨r,hr,hx⟩:=obind_eq hx; cases hx
  obtain ⟨v,h1,h2⟩:=intBin_sound (P:=P) (Z:=Z) (w:=w) hr t
  exact ⟨v,by simp [run_eqGuard_int,h1],.v h2⟩
 ·cases h with | v h=>cases h with | bool=>cases g with | v g=>cases g with | bool =>
  obtain ⟨hb,hx⟩:=tst_eq hx
  obtain ⟨r,hr,hx⟩:=obind_eq hx; cases hx
  obtain ⟨v,h1,h2⟩:=boolBin_sound (P:=P) (Z:=Z) (w:=w) hr x1 y1 (isBool_spec hb)
  exact ⟨v,h1,.v h2⟩
 ·obtain ⟨s,rfl,rfl⟩:=str_rep h; obtain ⟨s',rfl,rfl⟩:=str_rep g
  obtain ⟨r,hr,hx⟩:=obind_eq hx; cases hx
  obtain ⟨v,h1,h2⟩:=strBin_sound (P:=P) (Z:=Z) (w:=w) hr t
  exact ⟨v,by simp [run_eqGuard_str,h1],.v h2⟩
 ·exact struct hx

theorem toBytes_spec:∀ (xs:List V) (s:List UInt8),toBytes xs=some s→∃ ns:List Int,xs=ns.map (V.int .u8)∧s=ns.map fun n=>UInt8.ofNat n.toNat
 | [],s,h=>by simp [toBytes] at h; exact ⟨[],rfl,by simp [h]⟩
 | .int .u8 n :: xs,s,h=>by
  simp only [toBytes,Option.map_eq_some_iff] at h
  obtain ⟨s',h1,rfl⟩:=h
  obtain ⟨ns,rfl,rfl⟩:=toBytes_spec xs s' h1
  exact ⟨n :: ns,rfl,rfl⟩
theorem sl_slice {xs:List V} {u:Value} (h:RepV Z w (.sl xs) u):∃ A l c,u=.slice A l c:=by cases h <;> exact ⟨_,_,_,rfl⟩
theorem bytes_rep {z:Nat} : ∀ (ns:List Int) (us:List Value),RepEs Z w z (ns.map (V.int .u8)) us→us=ns.map (Value.int .u8)
 | [],us,h=>by cases h; rfl
 | n :: ns,us,h=>by
  cases h with
  | one hc h t=>cases h; rw [bytes_rep ns _ t]; rfl
theorem evConvert_sound (hm : RelM P φ Z m n w) {src dst : Nat} {a x : T} {u : Value} (h : RepT φ Z w a u) (hx : evConvert P src dst m a = some x) : ∃ v,(convert src dst u).run P w = .ok v w ∧ RepT φ Z w x v := by
  have general : (tst (isStr P dst = some true) (obind (elT P src) fun e => tst (intK P e = some .u8) (obind (elems m a) fun xs => (toBytes xs).map fun s => T.v (.str s)))) = some x → ∃ v,(convert src dst u).run P w = .ok v w ∧ RepT φ Z w x v := by
    intro hx
    obtain ⟨hd,hx⟩ := tst_eq hx
    obtain ⟨e,he,hx⟩ := obind_eq hx
    obtain ⟨hk,hx⟩ := tst_eq hx
    obtain ⟨xs,hxs,hx⟩ := obind_eq hx
    simp only [Option.map_eq_some_iff] at hx
    obtain ⟨s,hs,rfl⟩ := hx
    obtain ⟨ns,rfl,rfl⟩ := toBytes_spec _ _ hs
    have hr := elems_rep hm h hxs
    obtain ⟨A,l,c,rfl⟩ := sl_slice hr
    rw [run_convert_bytes_string w src dst e A l c (und_of_elT he) (und_of_intK hk) (und_of_isStr hd)]
    cases A with
    | none =>
      have : ns = [] := by
        generalize hq : ns.map (V.int .u8) = ys at hr
        cases hr with
        | nil => simpa using hq
      subst this
      exact ⟨.string ByteArray.empty,by simp [Conv.bytesToString],.v (.str rfl)⟩
    | some ad =>
      have hl : (loadCells ad l).run P w = .ok (ns.map (Value.int .u8)).toArray w ∧ True := by
        refine ⟨?_,trivial⟩
        generalize hq : ns.map (V.int .u8) = ys at hr
        cases hr with
        | nil => obtain rfl : ns = [] := by simpa using hq
                 simp [loadCells,loadCellsFrom]
        | @sl z _ us _ _ _ hes hn hc hmm hz =>
          subst hq
          have hu : us = ns.map (Value.int .u8) := bytes_rep ns us hes
          have := run_loadCells_list (P := P) w ad us fun j v hv => (hz j v hv).1
          rw [hu] at this
          simp only [List.length_map] at this hn
          rw [← hn]; exact this
      refine ⟨_,run_bytesToString w ad l c ns hl.1,.v (.str ?_)⟩
      rw [foldl_push_bytes]
      simp [ByteArray.empty,ByteArray.emptyWithCapacity]
      rfl
  unfold evConvert at hx
  split at hx
  · obtain rfl := int_rep h
    obtain ⟨k',hk',hx⟩ := obind_eq hx
    obtain ⟨k,hk,hx⟩ := obind_eq hx; cases hx
    exact ⟨.int k (k.wrap _),by simp [convert,run_underlying (und_of_intK hk),run_underlying (und_of_intK hk'),Conv.intToInt],rep_int _ _⟩
  · obtain ⟨s,rfl,rfl⟩ := str_rep h
    obtain ⟨⟨h1,h2⟩,hx⟩ := tst_eq hx; cases hx
    exact ⟨.string s,by simp [convert,run_underlying (und_of_isStr h1),run_underlying (und_of_isStr h2)],.v (.str rfl)⟩
  · exact general hx
end
end TL
