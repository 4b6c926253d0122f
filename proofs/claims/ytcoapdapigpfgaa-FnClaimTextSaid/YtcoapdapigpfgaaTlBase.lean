/- TL, part 4: the relation between the abstract state and the machine's; what a step keeps. -/
import Derived.Test.YtcoapdapigpfgaaTlRep
import Derived.Maps.AppendAt
import Derived.Deep.LoopGhost
import Derived.Laws.CopyRow
import Derived.Laws.Rows
namespace TL
open Go Go.RowKit

theorem add_lit (k o i : Nat) : (⟨k, o, none⟩ : Addr).add i = ⟨k, o + i, none⟩ := by unfold Addr.add; split <;> simp_all
theorem add_add (a : Addr) (i j : Nat) : (a.add i).add j = a.add (i + j) := by
  unfold Addr.add; by_cases hi : i = 0 <;> by_cases hj : j = 0 <;> simp [hi, hj, Nat.add_assoc]
theorem add_zero' (a : Addr) : a.add 0 = a := rfl
theorem spot_of_cell {w : World} {a : Addr} {u : Value} (h : w.cell? a = some u) : a.spot = none := by
  unfold World.cell? at h
  split at h
  · split at h
    · cases h
    · rename_i hs; simpa using hs
  · cases h

def SubZ (Z Z' : Zs) : Prop := ∀ k o, Z k o → Z' k o
def KeepZ (Z : Zs) (w w' : World) : Prop := ∀ k o, Z k o → w'.cell? ⟨k, o, none⟩ = w.cell? ⟨k, o, none⟩
theorem Gl.keep {P : Program} {Z Z' : Zs} {w w' : World} (h : Gl P Z w) (hs : SubZ Z Z') (hk : KeepZ Z w w') : Gl P Z' w' := fun g Q hq => by
  obtain ⟨hz, v, hv, hp⟩ := h g Q hq
  exact ⟨hs _ _ hz, v, by rw [hk _ _ hz, hv], hp⟩
theorem KeepZ.at {Z : Zs} {w w' : World} (h : KeepZ Z w w') {a : Addr} {u : Value} (hc : w.cell? a = some u) (hz : Z a.block a.off) : w'.cell? a = some u := by
  obtain ⟨b, o, sp⟩ := a
  obtain rfl : sp = none := spot_of_cell hc
  rw [← hc]; exact h _ _ hz

section
variable {Z Z' : Zs} {w w' : World}
mutual
theorem RepV.mono (hs : SubZ Z Z') (hk : KeepZ Z w w') {x : V} {u : Value} : RepV Z w x u → RepV Z' w' x u
  | .any u => .any u
  | .bool b => .bool b
  | .int k n => .int k n
  | .str h => .str h
  | .agg h => .agg (RepCs.mono hs hk h)
  | .tup h => .tup (RepVs.mono hs hk h)
  | .fn h => .fn (RepVs.mono hs hk h)
  | .nil A c => .nil A c
  | .sl h hn hc hm hz => .sl (RepEs.mono hs hk h) hn hc hm fun i u hu => ⟨hk.at (hz i u hu).1 (hz i u hu).2, hs _ _ (hz i u hu).2⟩
  | .ref h hz => .ref (RepCs.mono hs hk h) fun i u hu => ⟨hk.at (hz i u hu).1 (hz i u hu).2, hs _ _ (hz i u hu).2⟩
theorem RepVs.mono (hs : SubZ Z Z') (hk : KeepZ Z w w') {x : List V} {u : List Value} : RepVs Z w x u → RepVs Z' w' x u
  | .nil => .nil
  | .cons h t => .cons (RepV.mono hs hk h) (RepVs.mono hs hk t)
theorem RepCs.mono (hs : SubZ Z Z') (hk : KeepZ Z w w') {x : List V} {u : List Value} : RepCs Z w x u → RepCs Z' w' x u
  | .nil => .nil
  | .cons hc h t => .cons hc (RepV.mono hs hk h) (RepCs.mono hs hk t)
theorem RepEs.mono (hs : SubZ Z Z') (hk : KeepZ Z w w') {z : Nat} {x : List V} {u : List Value} : RepEs Z w z x u → RepEs Z' w' z x u
  | .nil z => .nil z
  | .agg h hl t => .agg (RepCs.mono hs hk h) hl (RepEs.mono hs hk t)
  | .one hc h t => .one hc (RepV.mono hs hk h) (RepEs.mono hs hk t)
end
end

/-- The values that handles stand for. -/
abbrev Phi := Nat → Option Value
def Ext (φ φ' : Phi) : Prop := ∀ i u, φ i = some u → φ' i = some u

mutual
inductive RepT (φ : Phi) (Z : Zs) (w : World) : T → Value → Prop
  | v {x : V} {u : Value} (h : RepV Z w x u) : RepT φ Z w (.v x) u
  | nil : RepT φ Z w .nil (.slice none 0 0)
  | loc {id : Nat} {u : Value} (h : φ id = some u) : RepT φ Z w (.loc id) u
  | sv {id co len k n c c' : Nat} {A : Option Addr} (h : φ id = some (.slice (some ⟨k, 0, none⟩) n c)) (hl : len ≤ c') (hm : c' ≤ maxLen) (ha : 0 < len → A = some ⟨k, co, none⟩)
      (h0 : co = 0 → A = some ⟨k, 0, none⟩ ∧ c' = c) : RepT φ Z w (.sv id co len) (.slice A len c')
  | ptr {id off k : Nat} (h : φ id = some (.pointer (some ⟨k, 0, none⟩))) : RepT φ Z w (.ptr id off) (.pointer (some ⟨k, off, none⟩))
  | ptrs {id off k n c : Nat} (h : φ id = some (.slice (some ⟨k, 0, none⟩) n c)) : RepT φ Z w (.ptr id off) (.pointer (some ⟨k, off, none⟩))
  | fptr {cs : List V} {off : Nat} {us : List Value} {ad : Addr} (h : RepCs Z w cs us)
      (hz : ∀ i u, us[i]? = some u → w.cell? (ad.add i) = some u ∧ Z (ad.add i).block (ad.add i).off) : RepT φ Z w (.fptr cs off) (.pointer (some (ad.add off)))
  | agg {cs : List T} {us : List Value} (h : RepTs φ Z w cs us) : RepT φ Z w (.agg cs) (.agg us.toArray)
  | tup {cs : List T} {us : List Value} (h : RepTs φ Z w cs us) : RepT φ Z w (.tup cs) (.tuple us.toArray)
  | fn {f : Nat} {cs : List T} {us : List Value} (h : RepTs φ Z w cs us) : RepT φ Z w (.fn f cs) (.func (.func f) #[] us.toArray)
inductive RepTs (φ : Phi) (Z : Zs) (w : World) : List T → List Value → Prop
  | nil : RepTs φ Z w [] []
  | cons {x : T} {u : Value} {xs : List T} {us : List Value} (h : RepT φ Z w x u) (t : RepTs φ Z w xs us) : RepTs φ Z w (x :: xs) (u :: us)
end

section
variable {φ φ' : Phi} {Z Z' : Zs} {w w' : World}
mutual
theorem RepT.mono (he : Ext φ φ') (hs : SubZ Z Z') (hk : KeepZ Z w w') {x : T} {u : Value} : RepT φ Z w x u → RepT φ' Z' w' x u
  | .v h => .v (h.mono hs hk)
  | .nil => .nil
  | .loc h => .loc (he _ _ h)
  | .sv h hl hm ha h0 => .sv (he _ _ h) hl hm ha h0
  | .ptr h => .ptr (he _ _ h)
  | .ptrs h => .ptrs (he _ _ h)
  | .fptr h hz => .fptr (h.mono hs hk) fun i u hu => ⟨hk.at (hz i u hu).1 (hz i u hu).2, hs _ _ (hz i u hu).2⟩
  | .agg h => .agg (RepTs.mono he hs hk h)
  | .tup h => .tup (RepTs.mono he hs hk h)
  | .fn h => .fn (RepTs.mono he hs hk h)
theorem RepTs.mono (he : Ext φ φ') (hs : SubZ Z Z') (hk : KeepZ Z w w') {x : List T} {u : List Value} : RepTs φ Z w x u → RepTs φ' Z' w' x u
  | .nil => .nil
  | .cons h t => .cons (RepT.mono he hs hk h) (RepTs.mono he hs hk t)
end
end

def blkOf : Value → Option Nat
  | .pointer (some a) => some a.block
  | .slice (some a) _ _ => some a.block
  | _ => none

/-- A block of the frame's own. -/
def RelB (P : Program) (φ : Phi) (Z : Zs) (w : World) (v : Value) : Blk → Prop
  | .arr e xs => ∃ us z, sz P e = some z ∧ 0 < z ∧ w.ownsRow 0 e z v xs.length us ∧ RepEs Z w z xs us ∧ (∀ k, blkOf v = some k → ∀ o, Z k o ↔ o < xs.length * z)
  | .ro xs => RepV Z w (.sl xs) v
  | .box e z cs => 0 < z ∧ sz P e = some z ∧ ∃ k cur, blkOf v = some k ∧ w.heap[k]? = some (.cells cur e (0, 0)) ∧ cs.length ≤ cur.size ∧ RepTs φ Z w cs (cur.toList.take cs.length) ∧ allC cs ∧ (∀ o, ¬ Z k o) ∧
      (v = .pointer (some ⟨k, 0, none⟩) ∨ ∃ n c, v = .slice (some ⟨k, 0, none⟩) n c ∧ cur.size = c * z ∧ c ≤ maxLen)

def isRo : Blk → Bool
  | .ro _ => true
  | _ => false

/-- What handles stand for, is of a plain form. -/
def PhiOk (φ : Phi) : Prop := ∀ i u, φ i = some u → u.oneCell' = true

structure RelM (P : Program) (φ : Phi) (Z : Zs) (m : Mem) (n : Nat) (w : World) : Prop where
  ok : PhiOk φ
  fresh : ∀ i, n ≤ i → φ i = none
  blk : ∀ i b, m i = some b → ∃ v, φ i = some v ∧ RelB P φ Z w v b
  ne : ∀ i j a b u v k, m i = some a → m j = some b → φ i = some u → φ j = some v → blkOf u = some k → blkOf v = some k → isRo a = false → isRo b = false → i = j
  zlt : ZOk P Z w
/-- A block that the memory names as its own. -/
def Owned (φ : Phi) (m : Mem) (k : Nat) : Prop := ∃ i b v, m i = some b ∧ isRo b = false ∧ φ i = some v ∧ blkOf v = some k

structure Step (φ : Phi) (Z : Zs) (m : Mem) (w : World) (φ' : Phi) (Z' : Zs) (m' : Mem) (w' : World) : Prop where
  ext : Ext φ φ'
  sub : SubZ Z Z'
  keep : KeepZ Z w w'
  os : w'.os = w.os
  tape : w'.tape = w.tape
  output : w'.output = w.output
  size : w.heap.size ≤ w'.heap.size
  out : ∀ k, k < w.heap.size → ¬ Owned φ m k → w'.heap[k]? = w.heap[k]?
  own : ∀ k, k < w.heap.size → Owned φ' m' k → Owned φ m k
  znew : ∀ k o, Z' k o → Z k o ∨ w.heap.size ≤ k ∨ Owned φ m k

theorem Step.refl (φ : Phi) (Z : Zs) (m : Mem) (w : World) : Step φ Z m w φ Z m w :=
  ⟨fun _ _ h => h, fun _ _ h => h, fun _ _ _ => rfl, rfl, rfl, rfl, Nat.le_refl _, fun _ _ _ => rfl, fun _ _ h => h, fun _ _ h => .inl h⟩
theorem Step.trans {φ φ1 φ2 : Phi} {Z Z1 Z2 : Zs} {m m1 m2 : Mem} {w w1 w2 : World} (h : Step φ Z m w φ1 Z1 m1 w1) (g : Step φ1 Z1 m1 w1 φ2 Z2 m2 w2) : Step φ Z m w φ2 Z2 m2 w2 where
  ext i u hu := g.ext i u (h.ext i u hu)
  sub k o hz := g.sub k o (h.sub k o hz)
  keep k o hz := (g.keep k o (h.sub k o hz)).trans (h.keep k o hz)
  os := g.os.trans h.os
  tape := g.tape.trans h.tape
  output := g.output.trans h.output
  size := Nat.le_trans h.size g.size
  out k hk ho := (g.out k (Nat.lt_of_lt_of_le hk h.size) fun ho' => ho (h.own k hk ho')).trans (h.out k hk ho)
  own k hk ho := h.own k hk (g.own k (Nat.lt_of_lt_of_le hk h.size) ho)
  znew k o hz := by
    rcases g.znew k o hz with h1 | h1 | h1
    · exact h.znew k o h1
    · exact .inr (.inl (Nat.le_trans h.size h1))
    · by_cases hk : k < w.heap.size
      · exact .inr (.inr (h.own k hk h1))
      · exact .inr (.inl (by omega))

/-- The frame and the abstract state. -/
structure RelS (P : Program) (N : Nat) (φ : Phi) (Z : Zs) (s : S) (a : Act) (w : World) : Prop where
  mem : RelM P φ Z s.m s.n w
  tm : ∀ t, RepT φ Z w (s.tm t) (a.tmps.getD t undef)
  size : a.tmps.size = N
  defers : a.defers = []

end TL
