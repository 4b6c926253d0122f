/- TL, part 2: what memory holds a pure value; contracts; the transformer. -/
import Derived.Test.YtcoapdapigpfgaaTlDefs
import Derived.Below
import Derived.Laws.AppendOwn
namespace TL
open Go Go.RowKit

/-- Sets of cells that stay. -/
abbrev Zs := Nat → Nat → Prop

mutual
inductive RepV (Z : Zs) (w : World) : V → Value → Prop
  | any (u : Value) : RepV Z w .any u
  | bool (b : Bool) : RepV Z w (.bool b) (.bool b)
  | int (k : IntKind) (n : Int) : RepV Z w (.int k n) (.int k n)
  | str {s : List UInt8} {b : ByteArray} (h : b.data.toList = s) : RepV Z w (.str s) (.string b)
  | agg {cs : List V} {us : List Value} (h : RepCs Z w cs us) : RepV Z w (.agg cs) (.agg us.toArray)
  | tup {cs : List V} {us : List Value} (h : RepVs Z w cs us) : RepV Z w (.tup cs) (.tuple us.toArray)
  | fn {f : Nat} {cs : List V} {us : List Value} (h : RepVs Z w cs us) : RepV Z w (.fn f cs) (.func (.func f) #[] us.toArray)
  | nil (A : Option Addr) (c : Nat) : RepV Z w (.sl []) (.slice A 0 c)
  | sl {z : Nat} {xs : List V} {us : List Value} {ad : Addr} {n c : Nat} (h : RepEs Z w z xs us) (hn : xs.length = n) (hc : n ≤ c) (hm : c ≤ maxLen)
      (hz : ∀ i u, us[i]? = some u → w.cell? (ad.add i) = some u ∧ Z (ad.add i).block (ad.add i).off) : RepV Z w (.sl xs) (.slice (some ad) n c)
  | ref {cs : List V} {us : List Value} {ad : Addr} (h : RepCs Z w cs us)
      (hz : ∀ i u, us[i]? = some u → w.cell? (ad.add i) = some u ∧ Z (ad.add i).block (ad.add i).off) : RepV Z w (.ref cs) (.pointer (some ad))
inductive RepVs (Z : Zs) (w : World) : List V → List Value → Prop
  | nil : RepVs Z w [] []
  | cons {x : V} {u : Value} {xs : List V} {us : List Value} (h : RepV Z w x u) (t : RepVs Z w xs us) : RepVs Z w (x :: xs) (u :: us)
inductive RepCs (Z : Zs) (w : World) : List V → List Value → Prop
  | nil : RepCs Z w [] []
  | cons {x : V} {u : Value} {xs : List V} {us : List Value} (hc : x.cell = true) (h : RepV Z w x u) (t : RepCs Z w xs us) : RepCs Z w (x :: xs) (u :: us)
inductive RepEs (Z : Zs) (w : World) : Nat → List V → List Value → Prop
  | nil (z : Nat) : RepEs Z w z [] []
  | agg {z : Nat} {cs : List V} {u us : List Value} {xs : List V} (h : RepCs Z w cs u) (hl : u.length = z) (t : RepEs Z w z xs us) : RepEs Z w z (.agg cs :: xs) (u ++ us)
  | one {x : V} {u : Value} {us : List Value} {xs : List V} (hc : x.cell = true) (h : RepV Z w x u) (t : RepEs Z w 1 xs us) : RepEs Z w 1 (x :: xs) (u :: us)
end

def freshZ (Z : Zs) (a b : Nat) : Zs := fun k o => Z k o ∨ (a ≤ k ∧ k < b)

/-- Which of the library's variables are known to hold what. -/
def GQ (P : Program) (g : Nat) (Q : Value → Prop) : Prop :=
  (P.globalNamed "internal/bytealg.MaxLen" = some g ∧ Q = fun v => ∃ m, v = .int .i64 m) ∨
  ((P.globalNamed "strconv.ErrSyntax" = some g ∨ P.globalNamed "strconv.ErrRange" = some g) ∧ Q = fun v => v = .nilIface ∨ ∃ t p, v = .iface t p)
/-- They hold it, and stay. -/
def Gl (P : Program) (Z : Zs) (w : World) : Prop := ∀ g Q, GQ P g Q → Z g 0 ∧ ∃ v, w.cell? ⟨g, 0, none⟩ = some v ∧ Q v
structure ZOk (P : Program) (Z : Zs) (w : World) : Prop where
  lt : ∀ k o, Z k o → k < w.heap.size
  gl : Gl P Z w

/-- A function's contract over pure values: called in whatever memory that holds the arguments it returns the result; nothing that was there is changed. -/
def FnZ (P : Program) (f : Nat) (args : List V) (r : V) : Prop :=
  (∃ fn, P.funcs[f]? = some fn ∧ (fn.name == "runtime.NumGoroutine") = false ∧ fn.body.isNone = false) ∧
  ∀ (Z : Zs) (w : World) (vs : List Value), ZOk P Z w → RepVs Z w args vs →
    Calls P f vs.toArray w fun e w' => ∃ v, e = .returned v ∧ Below w.heap.size w w' ∧ RepV (freshZ Z w.heap.size w'.heap.size) w' r v
end TL
