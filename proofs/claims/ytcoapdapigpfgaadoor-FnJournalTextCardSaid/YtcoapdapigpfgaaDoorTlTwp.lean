/- TL, part 5: contracts over memory; the transformer. -/
import Derived.Test.YtcoapdapigpfgaaDoorTlGa
import Derived.Orders
namespace TL
open Go Go.RowKit

/-- By definition; not seen as such by simp. -/
theorem nrfl {α : Sort _} {a : α} : a = a := Eq.trans (Eq.refl a) (Eq.refl a)
def bindP {α : Type} (o : Option α) (k : α → Prop) [Hd k] : Prop := ∃ x, o = some x ∧ k x
@[simp] theorem bindP_some {α : Type} (x : α) (k : α → Prop) : bindP (some x) k = k x := by simp [bindP]
@[simp] theorem bindP_none {α : Type} (k : α → Prop) : bindP (none : Option α) k = False := by simp [bindP]

/-- A branch, its condition a Bool. -/
def iteP (c : Bool) (A B : Prop) [Hd A] [Hd B] : Prop := if c then A else B
@[simp] theorem iteP_true (A B : Prop) : iteP true A B = A := nrfl
@[simp] theorem iteP_false (A B : Prop) : iteP false A B = B := nrfl
theorem iteP_intro {c : Bool} {A B : Prop} (h : c = true → A) (h' : c = false → B) : iteP c A B := by cases c <;> simp_all

/-- A contract over abstract memory: called with whatever memory of the frame's own it returns a value and turns memory as told. -/
def FnS (P : Program) (f : Nat) (m : Mem) (n : Nat) (args : List T) (post : T → Mem → Nat → Prop) : Prop :=
  (∃ fn, P.funcs[f]? = some fn ∧ (fn.name == "runtime.NumGoroutine") = false ∧ fn.body.isNone = false) ∧
  ∀ (φ : Phi) (Z : Zs) (w : World) (us : List Value), RelM P φ Z m n w → RepTs φ Z w args us →
    Calls P f us.toArray w fun e w' => ∃ v φ' Z' m' n' t, e = .returned v ∧ RelM P φ' Z' m' n' w' ∧ RepT φ' Z' w' t v ∧ Step φ Z m w φ' Z' m' w' ∧ post t m' n'

/-- A call of a function. -/
def callP (P : Program) (f : Nat) (m : Mem) (n : Nat) (args : List T) (k : T → Mem → Nat → Prop) [Hd k] : Prop :=
  (∃ vs r, FnZ P f vs r ∧ (mapO (bor false m 4) args = some vs ∨ (mapO (bor true m 4) args = some vs ∧ r.flat = true)) ∧ k (.v r) m n) ∨
  (∃ post, FnS P f m n args post ∧ ∀ t m' n', post t m' n' → k t m' n')

/-- The state behind a call. -/
def S.aft (s : S) (d : Option Nat) (x : T) (m : Mem) (n : Nat) [Hd s] [Hd x] : S := { s with tm := match d with | some d => updT s.tm d x | none => s.tm, m := m, n := n }

/-- A slice beside nil: an empty one may be nil or not. -/
def nilP (P : Program) (t : TypeId) (x : T) (k : Bool → Prop) [Hd k] : Prop :=
  (elT P t).isSome = true ∧ match x with
    | .v (.sl xs) => ∀ b : Bool, (b = true → xs = []) → k b
    | .nil => k true
    | _ => False
/-- One operation. -/
def opP (P : Program) (s : S) (o : Oper) (K : S → Prop) [Hd s] [Hd o] [Hd K] : Prop :=
  match o.op with
  | .call { callee := .value g, args, .. } => match s.ev g with
    | .fn f cap => callP P f s.m s.n (args.toList.map s.ev ++ cap) fun t m n => K (s.aft o.dst t m n)
    | .v (.fn f cap) => callP P f s.m s.n (args.toList.map s.ev ++ cap.map .v) fun t m n => K (s.aft o.dst t m n)
    | _ => False
  | .binOp .eql t x (.const (.slice none 0 0)) _ => nilP P t (s.ev x) fun b => K (s.app o.dst ⟨.v (.bool b), []⟩)
  | .binOp .neq t x (.const (.slice none 0 0)) _ => nilP P t (s.ev x) fun b => K (s.app o.dst ⟨.v (.bool !b), []⟩)
  | op => bindP (opF P s.mu s.ev s.m s.n op) fun E => K (s.app o.dst E)

/-- What a place bears whose operation was passed by. -/
abbrev und : T := .v (.tup [])
/-- What a guard reads. -/
def guardOf (b : Bool) : T → Option Bool
  | .v (.bool c) => some (c == b)
  | .v (.tup []) => some false
  | _ => none
@[simp] theorem guardOf_bool (b c : Bool) : guardOf b (.v (.bool c)) = some (c == b) := rfl
@[simp] theorem guardOf_und (b : Bool) : guardOf b (.v (.tup [])) = some false := rfl
def dstOf (all : List Oper) (j : Nat) [Hd all] : Option Nat := (all[j]?).bind (·.dst)
def guardB (all : List Oper) (s : S) (g : Option (Nat × Bool)) [Hd all] [Hd s] : Option Bool :=
  match g with
  | none => some true
  | some (j, b) => obind (dstOf all j) fun d => guardOf b (s.tm d)

def opsP (P : Program) (all l : List Oper) (Q : S → Prop) (s : S) [Hd all] [Hd l] [Hd Q] [Hd s] : Prop :=
  match l with
  | [] => Q s
  | o :: rest => bindP (guardB all s o.guard) fun g => iteP g (opP P s o fun s' => opsP P all rest Q s') (opsP P all rest Q (s.put o.dst und))
termination_by structural l


/-- What a function's results are to others. -/
def outs (P : Program) (s : S) : List ResultVar → Option (List V)
  | [] => some []
  | .tmp t :: rs => obind (bor true s.m 4 (s.tm t)) fun x => obind (outs P s rs) fun xs => some (x :: xs)
  | .cell a t :: rs => obind (evLoad P t s.m (s.tm a)) fun y => obind (bor true s.m 4 y) fun x => obind (outs P s rs) fun xs => some (x :: xs)
def outV : List V → V
  | [x] => x
  | xs => .tup xs

inductive TExit where
  | normal | exit (id : Nat) | ret

/-- The end of a function. -/
def retP (P : Program) (rs : List ResultVar) (R : V → Prop) (e : TExit) (s : S) [Hd R] [Hd s] : Prop :=
  match e with
  | .exit _ => False
  | _ => bindP (outs P s rs) fun vs => R (outV vs)

def thenP (A : S → Prop) (Q : TExit → S → Prop) (e : TExit) (s : S) [Hd A] [Hd Q] [Hd s] : Prop :=
  match e with
  | .normal => A s
  | e => Q e s
def blockP (id : Nat) (Q : TExit → S → Prop) (e : TExit) (s : S) [Hd Q] [Hd s] : Prop :=
  match e with
  | .exit i => if i = id then Q .normal s else Q (.exit i) s
  | e => Q e s

/-- Operations that make nothing and change nothing. -/
def isVal : Op → Bool
  | .alloc _ | .box .. | .buildSlice .. | .makeSlice .. | .store .. => false
  | .call { callee := .builtin .append, .. } => false
  | .call { callee := .builtin _, .. } => true
  | .call _ => false
  | .binOp .eql _ _ (.const (.slice none 0 0)) _ => false
  | .binOp .neq _ _ (.const (.slice none 0 0)) _ => false
  | _ => true
def rst (m : Mem) (l : List Nat) : Mem := fun i => if i ∈ l then m i else none
def S.rs (s : S) (l : List Nat) [Hd s] : S := { s with m := rst s.m l }
def S.wm (s : S) (m : Mem) (n : Nat) [Hd s] : S := { s with m := m, n := n }
def keepP (l : List Nat) (m m' : Mem) : Prop := ∀ i ∈ l, m' i = m i
def opAt (all : List Oper) (j : Nat) [Hd all] : Option Oper := all[j]?
def idsAt (ids : List Nat) (L : List (List Nat)) (i : Nat) : List Nat := (L.getD i []).map fun j => ids.getD j 0
/-- A call of a function without memory, its arguments pure: it may be told before its turn. -/
def pureQ (P : Program) (f : Nat) (args : List T) (k : V → Prop) [Hd args] [Hd k] : Prop := ∃ vs r, FnZ P f vs r ∧ args = vs.map .v ∧ k r
/-- A row that is made of pure values and never written: a pure value. -/
def bldQ (P : Program) (t : TypeId) (len : Nat) (xs : List (Nat × T)) (k : List V → Prop) [Hd xs] [Hd k] : Prop := ∃ (ps : List (Nat × V)) (e : TypeId) (vs : List V), xs = ps.map (fun q => (q.1, T.v q.2)) ∧ evBuildSlice P false t (fun _ => none) 0 len (ps.map fun q => (q.1, T.v q.2)) = some ⟨.loc 0, [(0, some (.arr e vs))]⟩ ∧ k vs
def pureC (P : Program) (s : S) (o : Oper) (k : Option Nat → T → Prop) [Hd s] [Hd o] [Hd k] : Prop :=
  match o.op with
  | .call { callee := .value (.func f), args, .. } => pureQ P f (args.toList.map s.ev) fun r => k o.dst (.v r)
  | .buildSlice t len parts => bldQ P t len (parts.toList.map fun p => (p.1, s.ev p.2)) fun vs => k o.dst (.v (.sl vs))
  | _ => False
/-- The operations of a region whose order is drawn, run in an order in which values come first. -/
def ordP (P : Program) (all : List Oper) (ids : List Nat) (L K : List (List Nat)) (Q : S → Prop) (l : List Nat) (s : S) [Hd all] [Hd ids] [Hd L] [Hd K] [Hd Q] [Hd s] : Prop :=
  match l with
  | [] => Q s
  | i :: rest => iteP (decide (1000 ≤ i)) (bindP (opAt all (i - 1000)) fun o => bindP (guardB all s o.guard) fun g => iteP g (pureC P s o fun d x => ordP P all ids L K Q rest (s.put d x)) (ordP P all ids L K Q rest (s.put o.dst und)))
      (bindP (opAt all i) fun o => bindP (guardB all s o.guard) fun g => iteP g
      (iteP (isVal o.op) (opP P (s.rs (idsAt ids L i)) o fun s' => ordP P all ids L K Q rest (s'.wm s.m s.n)) (opP P s o fun s' => keepP (idsAt ids K i) s.m s'.m ∧ ordP P all ids L K Q rest s'))
      (ordP P all ids L K Q rest (s.put o.dst und)))
termination_by structural l
def freeK (ops : Array Oper) (L K : List (List Nat)) (listed : Array Bool) (i : Nat) : Bool :=
  Region.free .any ops listed i && (List.range ops.size).all fun j => j == i || listed.getD j true || (match ops[j]? with
    | some oj => oj.after.any (fun e => Region.binds .any e && e.on == i) || (L.getD i []).all fun x => (K.getD j []).contains x
    | none => true)
def ordOk (ops : Array Oper) (L K : List (List Nat)) : List Nat → Array Bool → Bool
  | [], listed => (Region.ready .any ops listed).isEmpty
  | i :: rest, listed => if 1000 ≤ i then (match ops[i - 1000]? with
    | some _ => (Region.ready .any ops listed).contains (i - 1000) && freeK ops [] K listed (i - 1000)
    | none => false) && ordOk ops L K rest (listed.setIfInBounds (i - 1000) true) else (match ops[i]? with
    | some o => if isVal o.op then (Region.ready .any ops listed).contains i && freeK ops L K listed i else Region.ready .any ops listed == [i]
    | none => false) && ordOk ops L K rest (listed.setIfInBounds i true)
/-- Orders that part where one of several operations may come first. -/
inductive OT where
  | done | run (l : List Nat) (r : OT) | alt (a b : OT)
def OT.heads : OT → List Nat
  | .run (i :: _) _ => [i]
  | .alt a b => a.heads ++ b.heads
  | _ => []
def OT.size : OT → Nat
  | .done => 0
  | .run l r => l.length + r.size
  | .alt a _ => a.size
def stepOk (ops : Array Oper) (L K : List (List Nat)) (i : Nat) (listed : Array Bool) : Bool := if 1000 ≤ i then (match ops[i - 1000]? with
    | some _ => (Region.ready .any ops listed).contains (i - 1000) && freeK ops [] K listed (i - 1000)
    | none => false) else (match ops[i]? with
    | some o => if isVal o.op then (Region.ready .any ops listed).contains i && freeK ops L K listed i else Region.ready .any ops listed == [i]
    | none => false)
def nextL (i : Nat) (listed : Array Bool) : Array Bool := if 1000 ≤ i then listed.setIfInBounds (i - 1000) true else listed.setIfInBounds i true
def preOk (ops : Array Oper) (L K : List (List Nat)) : List Nat → Array Bool → Bool
  | [], _ => true
  | i :: rest, listed => stepOk ops L K i listed && preOk ops L K rest (nextL i listed)
def aftL : List Nat → Array Bool → Array Bool
  | [], listed => listed
  | i :: rest, listed => aftL rest (nextL i listed)
def effOk (ops : Array Oper) (i : Nat) : Bool := decide (i < 1000) && match ops[i]? with
  | some o => !isVal o.op
  | none => false
def otOk (ops : Array Oper) (L K : List (List Nat)) : OT → Bool → Array Bool → Bool
  | .done, false, listed => (Region.ready .any ops listed).isEmpty
  | .run l r, false, listed => preOk ops L K l listed && otOk ops L K r false (aftL l listed)
  | .alt a b, false, listed => (Region.ready .any ops listed).all (fun i => (a.heads ++ b.heads).contains i) && !(Region.ready .any ops listed).isEmpty && a.size == b.size && otOk ops L K a true listed && otOk ops L K b true listed
  | .run (i :: l) r, true, listed => effOk ops i && preOk ops L K l (listed.setIfInBounds i true) && otOk ops L K r false (aftL l (listed.setIfInBounds i true))
  | .alt a b, true, listed => a.size == b.size && otOk ops L K a true listed && otOk ops L K b true listed
  | _, _, _ => false
def ordT (P : Program) (all : List Oper) (ids : List Nat) (L K : List (List Nat)) (Q : S → Prop) (t : OT) (s : S) [Hd all] [Hd ids] [Hd L] [Hd K] [Hd Q] [Hd s] : Prop :=
  match t with
  | .done => Q s
  | .run l r => ordP P all ids L K (fun s => ordT P all ids L K Q r s) l s
  | .alt a b => ordT P all ids L K Q a s ∧ ordT P all ids L K Q b s
termination_by structural t
def drawP (P : Program) (ops : Array Oper) (Q : S → Prop) (s : S) : Prop :=
  P.follows .mixedOrders = true ∧ ((∃ ord ids L K, Region.noSelect ops = true ∧ ord.length = ops.size ∧ ordOk ops L K ord (Array.replicate ops.size false) = true ∧ ordP P ops.toList ids L K Q ord s) ∨
    ∃ t ids L K, Region.noSelect ops = true ∧ t.size = ops.size ∧ otOk ops L K t false (Array.replicate ops.size false) = true ∧ ordT P ops.toList ids L K Q t s)

def twp (P : Program) (c : Code) (Q : TExit → S → Prop) (s : S) [Hd c] [Hd Q] [Hd s] : Prop :=
  match c with
  | .skip => Q .normal s
  | .seq a b => twp P a (fun e s => thenP (fun s => twp P b Q s) Q e s) s
  | .cond c x y => bindP (boolOf (s.ev c)) fun b => iteP b (twp P x Q s) (twp P y Q s)
  | .block id c => twp P c (fun e s => blockP id Q e s) s
  | .loop c => ∃ (I : S → Prop) (μ : S → Nat), I s ∧ ∀ s, I s → twp P c (fun e s1 => thenP (fun s' => I s' ∧ μ s' < μ s) Q e s1) s
  | .exit i => Q (.exit i) s
  | .ret => Q .ret s
  | .region _ ops draw => if draw then drawP P ops (Q .normal) s else opsP P ops.toList ops.toList (Q .normal) s
  | _ => False
termination_by structural c
end TL
