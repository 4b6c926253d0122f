/- Data of the program; the reader of codes. -/
import Derived.Test.YtcoapdapigpfgaaDoorFnsQ1
set_option linter.unusedSimpArgs false
set_option linter.unusedVariables false
set_option maxRecDepth 100000
set_option maxHeartbeats 4000000
namespace TL
open Go Go.Proofs
structure Mark where
  kind : Int
  num : Int
  deriving DecidableEq
structure Claim where
  who : Int
  says : List Mark
  deriving DecidableEq
structure Place where
  people : Int
  story : List Claim
  deriving DecidableEq
/-- Numbers of the machine. -/
def fit (x : Int) : Prop := -9223372036854775808 ≤ x ∧ x < 9223372036854775808
def Mark.fit (m : Mark) : Prop := TL.fit m.kind ∧ TL.fit m.num
def fits (l : List Mark) : Prop := ∀ x ∈ l, x.fit
def Claim.fit (c : Claim) : Prop := TL.fit c.who ∧ fits c.says
def Place.fit (p : Place) : Prop := TL.fit p.people ∧ ∀ c ∈ p.story, c.fit
@[simp] theorem fits_nil : fits [] := by simp [fits]
@[simp] theorem fits_cons (x : Mark) (l : List Mark) : fits (x :: l) ↔ x.fit ∧ fits l := by simp [fits]
@[simp] theorem fits_append (a b : List Mark) : fits (a ++ b) ↔ fits a ∧ fits b := by simp [fits, or_imp, forall_and]
theorem fit_mk {k a : Int} (hk : 0 ≤ k) (hk' : k < 1000) (ha : 0 ≤ a) (ha' : a < 1000) : Mark.fit ⟨k, a⟩ := by
  refine ⟨⟨?_, ?_⟩, ⟨?_, ?_⟩⟩ <;> simp only <;> omega
def Mark.v (m : Mark) : V := .agg [.int .i64 m.kind, .int .i64 m.num]
@[simp] theorem mark_cells (m : Mark) : m.v.cells = [.int .i64 m.kind, .int .i64 m.num] := rfl
theorem drop_cons {α : Type} {l : List α} {i : Nat} (h : i < l.length) : l.drop i = l[i] :: l.drop (i + 1) := List.drop_eq_getElem_cons h
def marksV (l : List Mark) : V := .sl (l.map Mark.v)
def Claim.v (c : Claim) : V := .agg [.int .i64 c.who, marksV c.says]
def storyV (l : List Claim) : V := .sl (l.map Claim.v)
def Place.v (p : Place) : V := .agg [.int .i64 p.people, storyV p.story]
@[simp] theorem updM_idem (m : Mem) (d : Nat) (x y : Option Blk) : updM (updM m d x) d y = updM m d y := by
  funext t; simp only [updM_lit]; split <;> rfl
theorem updM_self {m : Mem} {d : Nat} {x : Option Blk} (h : m d = x) : updM m d x = m := by
  funext t; simp only [updM_lit]; split
  · rename_i e; rw [e, h]
  · rfl
/-- What a reader of codes is in memory. -/
abbrev rdB (bs : List UInt8) (p : Nat) : Blk := .box 128 2 [.v (.sl (bs.map fun b => .int .u8 b.toNat)), .v (.int .i64 p)]
/-- Behind at most K reads. -/
def RdTo (K : Nat) (m : Mem) (rid : Nat) (bs : List UInt8) (p : Nat) (m' : Mem) : Prop := ∃ p', p ≤ p' ∧ p' ≤ p + K ∧ m' = updM m rid (some (rdB bs p'))
theorem pick_at (bs : List UInt8) (p : Nat) (hp : p < 1000000000) (k : Int) (m : Mem) (n rid : Nat) (hm : m rid = some (rdB bs p)) :
    FnS Tryd.prog 77 m n [.ptr rid 0, .v (.int .i64 k)] (fun t m' n' => n ≤ n' ∧ (∃ r : Int, t = .v (.int .i64 r) ∧ 0 ≤ r ∧ (1 ≤ k → r < k)) ∧ m' = updM m rid (some (rdB bs (p + 1)))) :=
  pick_fn bs p hp k m n rid hm
theorem odd_at (bs : List UInt8) (p : Nat) (hp : p < 1000000000) (k : Int) (hk : k < 1000000) (m : Mem) (n rid : Nat) (hm : m rid = some (rdB bs p)) :
    FnS Tryd.prog 80 m n [.ptr rid 0, .v (.int .i64 k)] (fun t m' n' => n ≤ n' ∧ (∃ b : Bool, t = .v (.bool b) ∧ (k ≤ 0 → b = false)) ∧ RdTo 1 m rid bs p m') := by
  by_cases h : 0 < k
  · have hn : ¬ k ≤ 0 := by omega
    refine FnS_of (rs := [.tmp 4]) false Tryd.func80 rfl rfl rfl rfl (Nat.le_of_ble_eq_true rfl) ?_
    simp -dsimp [h]
    refine callS_ (pick_at bs p hp k m n rid hm) ?_
    rintro t m' n' ⟨hn', ⟨r, rfl, _, _⟩, rfl⟩
    simp -dsimp [h, hn]
    exact ⟨hn', p + 1, by omega, by omega, rfl⟩
  · have hn : k ≤ 0 := by omega
    refine FnS_of (rs := [.tmp 4]) false Tryd.func80 rfl rfl rfl rfl (Nat.le_of_ble_eq_true rfl) ?_
    simp -dsimp [h, hn]
    exact ⟨p, by omega, by omega, (updM_self hm).symm⟩
def natOf : T → Nat
  | .v (.int _ k) => k.toNat
  | .sv _ _ n => n
  | _ => 0
@[simp] theorem natOf_int (k : IntKind) (x : Int) : natOf (.v (.int k x)) = x.toNat := rfl
@[simp] theorem natOf_sv (i c n : Nat) : natOf (.sv i c n) = n := rfl
/-- What lies from n on. -/
def upper (n : Nat) (m : Mem) : Mem := fun j => if n ≤ j then m j else none
@[simp] theorem upper_def (n j : Nat) (m : Mem) : upper n m j = if n ≤ j then m j else none := rfl
/-- A row in the frame's memory, or none yet. -/
def IsRow (m : Mem) (lo hi : Nat) (e : Nat) (st : T) (xs : List V) : Prop := (st = .nil ∧ xs = []) ∨ ∃ i, st = .loc i ∧ lo ≤ i ∧ i < hi ∧ m i = some (.arr e xs)
theorem IsRow.cell {m : Mem} {lo hi e : Nat} {st : T} {xs : List V} (h : IsRow m lo hi e st xs) : st.cell = true := by
  rcases h with ⟨rfl, _⟩ | ⟨i, rfl, _⟩ <;> rfl
theorem IsRow.bor {m m' : Mem} {lo hi e n0 : Nat} {st : T} {xs : List V} (h : IsRow m lo hi e st xs) (hn : n0 ≤ lo) (hm : ∀ i, st = .loc i → lo ≤ i → i < hi → m' i = m i) (d : Nat) : bor true (upper n0 m') d st = some (.sl xs) := by
  rcases h with ⟨rfl, rfl⟩ | ⟨i, rfl, h1, h2, h3⟩
  · simp
  · have : n0 ≤ i := by omega
    simp [hm i rfl h1 h2, h3, this]
theorem nes (n : Nat) : (¬ n = n + 1) ∧ (¬ n = n + 1 + 1) ∧ (¬ n = n + 1 + 1 + 1) ∧ (¬ n = n + 1 + 1 + 1 + 1) ∧ (¬ n = n + 1 + 1 + 1 + 1 + 1) ∧ (¬ n = n + 1 + 1 + 1 + 1 + 1 + 1) ∧ (¬ n = n + 1 + 1 + 1 + 1 + 1 + 1 + 1) ∧ (¬ n + 1 = n) ∧ (¬ n + 1 = n + 1 + 1) ∧ (¬ n + 1 = n + 1 + 1 + 1) ∧ (¬ n + 1 = n + 1 + 1 + 1 + 1) ∧ (¬ n + 1 = n + 1 + 1 + 1 + 1 + 1) ∧ (¬ n + 1 = n + 1 + 1 + 1 + 1 + 1 + 1) ∧ (¬ n + 1 = n + 1 + 1 + 1 + 1 + 1 + 1 + 1) ∧ (¬ n + 1 + 1 = n) ∧ (¬ n + 1 + 1 = n + 1) ∧ (¬ n + 1 + 1 = n + 1 + 1 + 1) ∧ (¬ n + 1 + 1 = n + 1 + 1 + 1 + 1) ∧ (¬ n + 1 + 1 = n + 1 + 1 + 1 + 1 + 1) ∧ (¬ n + 1 + 1 = n + 1 + 1 + 1 + 1 + 1 + 1) ∧ (¬ n + 1 + 1 = n + 1 + 1 + 1 + 1 + 1 + 1 + 1) ∧ (¬ n + 1 + 1 + 1 = n) ∧ (¬ n + 1 + 1 + 1 = n + 1) ∧ (¬ n + 1 + 1 + 1 = n + 1 + 1) ∧ (¬ n + 1 + 1 + 1 = n + 1 + 1 + 1 + 1) ∧ (¬ n + 1 + 1 + 1 = n + 1 + 1 + 1 + 1 + 1) ∧ (¬ n + 1 + 1 + 1 = n + 1 + 1 + 1 + 1 + 1 + 1) ∧ (¬ n + 1 + 1 + 1 = n + 1 + 1 + 1 + 1 + 1 + 1 + 1) ∧ (¬ n + 1 + 1 + 1 + 1 = n) ∧ (¬ n + 1 + 1 + 1 + 1 = n + 1) ∧ (¬ n + 1 + 1 + 1 + 1 = n + 1 + 1) ∧ (¬ n + 1 + 1 + 1 + 1 = n + 1 + 1 + 1) ∧ (¬ n + 1 + 1 + 1 + 1 = n + 1 + 1 + 1 + 1 + 1) ∧ (¬ n + 1 + 1 + 1 + 1 = n + 1 + 1 + 1 + 1 + 1 + 1) ∧ (¬ n + 1 + 1 + 1 + 1 = n + 1 + 1 + 1 + 1 + 1 + 1 + 1) ∧ (¬ n + 1 + 1 + 1 + 1 + 1 = n) ∧ (¬ n + 1 + 1 + 1 + 1 + 1 = n + 1) ∧ (¬ n + 1 + 1 + 1 + 1 + 1 = n + 1 + 1) ∧ (¬ n + 1 + 1 + 1 + 1 + 1 = n + 1 + 1 + 1) ∧ (¬ n + 1 + 1 + 1 + 1 + 1 = n + 1 + 1 + 1 + 1) ∧ (¬ n + 1 + 1 + 1 + 1 + 1 = n + 1 + 1 + 1 + 1 + 1 + 1) ∧ (¬ n + 1 + 1 + 1 + 1 + 1 = n + 1 + 1 + 1 + 1 + 1 + 1 + 1) ∧ (¬ n + 1 + 1 + 1 + 1 + 1 + 1 = n) ∧ (¬ n + 1 + 1 + 1 + 1 + 1 + 1 = n + 1) ∧ (¬ n + 1 + 1 + 1 + 1 + 1 + 1 = n + 1 + 1) ∧ (¬ n + 1 + 1 + 1 + 1 + 1 + 1 = n + 1 + 1 + 1) ∧ (¬ n + 1 + 1 + 1 + 1 + 1 + 1 = n + 1 + 1 + 1 + 1) ∧ (¬ n + 1 + 1 + 1 + 1 + 1 + 1 = n + 1 + 1 + 1 + 1 + 1) ∧ (¬ n + 1 + 1 + 1 + 1 + 1 + 1 = n + 1 + 1 + 1 + 1 + 1 + 1 + 1) ∧ (¬ n + 1 + 1 + 1 + 1 + 1 + 1 + 1 = n) ∧ (¬ n + 1 + 1 + 1 + 1 + 1 + 1 + 1 = n + 1) ∧ (¬ n + 1 + 1 + 1 + 1 + 1 + 1 + 1 = n + 1 + 1) ∧ (¬ n + 1 + 1 + 1 + 1 + 1 + 1 + 1 = n + 1 + 1 + 1) ∧ (¬ n + 1 + 1 + 1 + 1 + 1 + 1 + 1 = n + 1 + 1 + 1 + 1) ∧ (¬ n + 1 + 1 + 1 + 1 + 1 + 1 + 1 = n + 1 + 1 + 1 + 1 + 1) ∧ (¬ n + 1 + 1 + 1 + 1 + 1 + 1 + 1 = n + 1 + 1 + 1 + 1 + 1 + 1) := by
  refine ⟨?_, ?_, ?_, ?_, ?_, ?_, ?_, ?_, ?_, ?_, ?_, ?_, ?_, ?_, ?_, ?_, ?_, ?_, ?_, ?_, ?_, ?_, ?_, ?_, ?_, ?_, ?_, ?_, ?_, ?_, ?_, ?_, ?_, ?_, ?_, ?_, ?_, ?_, ?_, ?_, ?_, ?_, ?_, ?_, ?_, ?_, ?_, ?_, ?_, ?_, ?_, ?_, ?_, ?_, ?_, ?_⟩ <;> omega
theorem ft (b : Bool) : b = false ∨ b = true := by cases b <;> simp
theorem far {a n : Nat} (lt : a < n) : (¬ a = n) ∧ (¬ n = a) ∧ (∀ x0, ¬ a = n + x0) ∧ (∀ x0, ¬ n + x0 = a) ∧ (∀ x0 x1, ¬ a = n + x0 + x1) ∧ (∀ x0 x1, ¬ n + x0 + x1 = a) ∧ (∀ x0 x1 x2, ¬ a = n + x0 + x1 + x2) ∧ (∀ x0 x1 x2, ¬ n + x0 + x1 + x2 = a) ∧ (∀ x0 x1 x2 x3, ¬ a = n + x0 + x1 + x2 + x3) ∧ (∀ x0 x1 x2 x3, ¬ n + x0 + x1 + x2 + x3 = a) ∧ (∀ x0 x1 x2 x3 x4, ¬ a = n + x0 + x1 + x2 + x3 + x4) ∧ (∀ x0 x1 x2 x3 x4, ¬ n + x0 + x1 + x2 + x3 + x4 = a) ∧ (∀ x0 x1 x2 x3 x4 x5, ¬ a = n + x0 + x1 + x2 + x3 + x4 + x5) ∧ (∀ x0 x1 x2 x3 x4 x5, ¬ n + x0 + x1 + x2 + x3 + x4 + x5 = a) ∧ (∀ x0 x1 x2 x3 x4 x5 x6, ¬ a = n + x0 + x1 + x2 + x3 + x4 + x5 + x6) ∧ (∀ x0 x1 x2 x3 x4 x5 x6, ¬ n + x0 + x1 + x2 + x3 + x4 + x5 + x6 = a) ∧ (∀ x0 x1 x2 x3 x4 x5 x6 x7, ¬ a = n + x0 + x1 + x2 + x3 + x4 + x5 + x6 + x7) ∧ (∀ x0 x1 x2 x3 x4 x5 x6 x7, ¬ n + x0 + x1 + x2 + x3 + x4 + x5 + x6 + x7 = a) ∧ (∀ x0 x1 x2 x3 x4 x5 x6 x7 x8, ¬ a = n + x0 + x1 + x2 + x3 + x4 + x5 + x6 + x7 + x8) ∧ (∀ x0 x1 x2 x3 x4 x5 x6 x7 x8, ¬ n + x0 + x1 + x2 + x3 + x4 + x5 + x6 + x7 + x8 = a) ∧ (∀ x0 x1 x2 x3 x4 x5 x6 x7 x8 x9, ¬ a = n + x0 + x1 + x2 + x3 + x4 + x5 + x6 + x7 + x8 + x9) ∧ (∀ x0 x1 x2 x3 x4 x5 x6 x7 x8 x9, ¬ n + x0 + x1 + x2 + x3 + x4 + x5 + x6 + x7 + x8 + x9 = a) :=
  ⟨by omega, by omega, fun _ => by omega, fun _ => by omega, fun _ _ => by omega, fun _ _ => by omega, fun _ _ _ => by omega, fun _ _ _ => by omega, fun _ _ _ _ => by omega, fun _ _ _ _ => by omega, fun _ _ _ _ _ => by omega, fun _ _ _ _ _ => by omega, fun _ _ _ _ _ _ => by omega, fun _ _ _ _ _ _ => by omega, fun _ _ _ _ _ _ _ => by omega, fun _ _ _ _ _ _ _ => by omega, fun _ _ _ _ _ _ _ _ => by omega, fun _ _ _ _ _ _ _ _ => by omega, fun _ _ _ _ _ _ _ _ _ => by omega, fun _ _ _ _ _ _ _ _ _ => by omega, fun _ _ _ _ _ _ _ _ _ _ => by omega, fun _ _ _ _ _ _ _ _ _ _ => by omega⟩
end TL
