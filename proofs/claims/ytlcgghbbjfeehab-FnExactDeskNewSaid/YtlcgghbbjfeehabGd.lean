/- TL: parts FnsN2, FnsN7, FnsN8, FnsNT, FnsNR1, FnsNR2, FnsNR5, FnsNU, FnsNW, FnsN9, FnsNX, FnsNR3, TlRow, FnsN12, FnsND, FnsN15, FnsNR4, FnsNR6, FnsN3, FnsN4, FnsN5, FnsN6, FnsN10, FnsNR7, FnsNR8, FnsN13. -/
import Derived.Test.YtlcgghbbjfeehabGc
/- Data of the program; the reader of codes. -/
set_option linter.unusedSimpArgs false
set_option linter.unusedVariables false
set_option maxRecDepth 100000
set_option maxHeartbeats 4000000
namespace TL
open Go Go.Proofs
structure Mark where
  kind : Int
  num : Int
  deriving DecidableEq
structure Claim where
  who : Int
  says : List Mark
  deriving DecidableEq
structure Place where
  people : Int
  story : List Claim
  deriving DecidableEq
/-- Numbers of the machine. -/
def fit (x : Int) : Prop := -9223372036854775808 ≤ x ∧ x < 9223372036854775808
def Mark.fit (m : Mark) : Prop := TL.fit m.kind ∧ TL.fit m.num
def fits (l : List Mark) : Prop := ∀ x ∈ l, x.fit
def Claim.fit (c : Claim) : Prop := TL.fit c.who ∧ fits c.says
def Place.fit (p : Place) : Prop := TL.fit p.people ∧ ∀ c ∈ p.story, c.fit
@[simp] theorem fits_nil : fits [] := by simp [fits]
@[simp] theorem fits_cons (x : Mark) (l : List Mark) : fits (x :: l) ↔ x.fit ∧ fits l := by simp [fits]
@[simp] theorem fits_append (a b : List Mark) : fits (a ++ b) ↔ fits a ∧ fits b := by simp [fits, or_imp, forall_and]
theorem fit_mk {k a : Int} (hk : 0 ≤ k) (hk' : k < 1000) (ha : 0 ≤ a) (ha' : a < 1000) : Mark.fit ⟨k, a⟩ := by
  refine ⟨⟨?_, ?_⟩, ⟨?_, ?_⟩⟩ <;> simp only <;> omega
def Mark.v (m : Mark) : V := .agg [.int .i64 m.kind, .int .i64 m.num]
@[simp] theorem mark_cells (m : Mark) : m.v.cells = [.int .i64 m.kind, .int .i64 m.num] := rfl
theorem drop_cons {α : Type} {l : List α} {i : Nat} (h : i < l.length) : l.drop i = l[i] :: l.drop (i + 1) := List.drop_eq_getElem_cons h
def marksV (l : List Mark) : V := .sl (l.map Mark.v)
def Claim.v (c : Claim) : V := .agg [.int .i64 c.who, marksV c.says]
def storyV (l : List Claim) : V := .sl (l.map Claim.v)
def Place.v (p : Place) : V := .agg [.int .i64 p.people, storyV p.story]
@[simp] theorem updM_idem (m : Mem) (d : Nat) (x y : Option Blk) : updM (updM m d x) d y = updM m d y := by
  funext t; simp only [updM_lit]; split <;> rfl
theorem updM_self {m : Mem} {d : Nat} {x : Option Blk} (h : m d = x) : updM m d x = m := by
  funext t; simp only [updM_lit]; split
  · rename_i e; rw [e, h]
  · rfl
def natOf : T → Nat
  | .v (.int _ k) => k.toNat
  | .sv _ _ n => n
  | _ => 0
@[simp] theorem natOf_int (k : IntKind) (x : Int) : natOf (.v (.int k x)) = x.toNat := rfl
@[simp] theorem natOf_sv (i c n : Nat) : natOf (.sv i c n) = n := rfl
/-- What lies from n on. -/
def upper (n : Nat) (m : Mem) : Mem := fun j => if n ≤ j then m j else none
@[simp] theorem upper_def (n j : Nat) (m : Mem) : upper n m j = if n ≤ j then m j else none := rfl
/-- A row in the frame's memory, or none yet. -/
def IsRow (m : Mem) (lo hi : Nat) (e : Nat) (st : T) (xs : List V) : Prop := (st = .nil ∧ xs = []) ∨ ∃ i, st = .loc i ∧ lo ≤ i ∧ i < hi ∧ m i = some (.arr e xs)
theorem IsRow.cell {m : Mem} {lo hi e : Nat} {st : T} {xs : List V} (h : IsRow m lo hi e st xs) : st.cell = true := by
  rcases h with ⟨rfl, _⟩ | ⟨i, rfl, _⟩ <;> rfl
theorem IsRow.bor {m m' : Mem} {lo hi e n0 : Nat} {st : T} {xs : List V} (h : IsRow m lo hi e st xs) (hn : n0 ≤ lo) (hm : ∀ i, st = .loc i → lo ≤ i → i < hi → m' i = m i) (d : Nat) : bor true (upper n0 m') d st = some (.sl xs) := by
  rcases h with ⟨rfl, rfl⟩ | ⟨i, rfl, h1, h2, h3⟩
  · simp
  · have : n0 ≤ i := by omega
    simp [hm i rfl h1 h2, h3, this]
theorem nes (n : Nat) : (¬ n = n + 1) ∧ (¬ n = n + 1 + 1) ∧ (¬ n = n + 1 + 1 + 1) ∧ (¬ n = n + 1 + 1 + 1 + 1) ∧ (¬ n = n + 1 + 1 + 1 + 1 + 1) ∧ (¬ n = n + 1 + 1 + 1 + 1 + 1 + 1) ∧ (¬ n = n + 1 + 1 + 1 + 1 + 1 + 1 + 1) ∧ (¬ n + 1 = n) ∧ (¬ n + 1 = n + 1 + 1) ∧ (¬ n + 1 = n + 1 + 1 + 1) ∧ (¬ n + 1 = n + 1 + 1 + 1 + 1) ∧ (¬ n + 1 = n + 1 + 1 + 1 + 1 + 1) ∧ (¬ n + 1 = n + 1 + 1 + 1 + 1 + 1 + 1) ∧ (¬ n + 1 = n + 1 + 1 + 1 + 1 + 1 + 1 + 1) ∧ (¬ n + 1 + 1 = n) ∧ (¬ n + 1 + 1 = n + 1) ∧ (¬ n + 1 + 1 = n + 1 + 1 + 1) ∧ (¬ n + 1 + 1 = n + 1 + 1 + 1 + 1) ∧ (¬ n + 1 + 1 = n + 1 + 1 + 1 + 1 + 1) ∧ (¬ n + 1 + 1 = n + 1 + 1 + 1 + 1 + 1 + 1) ∧ (¬ n + 1 + 1 = n + 1 + 1 + 1 + 1 + 1 + 1 + 1) ∧ (¬ n + 1 + 1 + 1 = n) ∧ (¬ n + 1 + 1 + 1 = n + 1) ∧ (¬ n + 1 + 1 + 1 = n + 1 + 1) ∧ (¬ n + 1 + 1 + 1 = n + 1 + 1 + 1 + 1) ∧ (¬ n + 1 + 1 + 1 = n + 1 + 1 + 1 + 1 + 1) ∧ (¬ n + 1 + 1 + 1 = n + 1 + 1 + 1 + 1 + 1 + 1) ∧ (¬ n + 1 + 1 + 1 = n + 1 + 1 + 1 + 1 + 1 + 1 + 1) ∧ (¬ n + 1 + 1 + 1 + 1 = n) ∧ (¬ n + 1 + 1 + 1 + 1 = n + 1) ∧ (¬ n + 1 + 1 + 1 + 1 = n + 1 + 1) ∧ (¬ n + 1 + 1 + 1 + 1 = n + 1 + 1 + 1) ∧ (¬ n + 1 + 1 + 1 + 1 = n + 1 + 1 + 1 + 1 + 1) ∧ (¬ n + 1 + 1 + 1 + 1 = n + 1 + 1 + 1 + 1 + 1 + 1) ∧ (¬ n + 1 + 1 + 1 + 1 = n + 1 + 1 + 1 + 1 + 1 + 1 + 1) ∧ (¬ n + 1 + 1 + 1 + 1 + 1 = n) ∧ (¬ n + 1 + 1 + 1 + 1 + 1 = n + 1) ∧ (¬ n + 1 + 1 + 1 + 1 + 1 = n + 1 + 1) ∧ (¬ n + 1 + 1 + 1 + 1 + 1 = n + 1 + 1 + 1) ∧ (¬ n + 1 + 1 + 1 + 1 + 1 = n + 1 + 1 + 1 + 1) ∧ (¬ n + 1 + 1 + 1 + 1 + 1 = n + 1 + 1 + 1 + 1 + 1 + 1) ∧ (¬ n + 1 + 1 + 1 + 1 + 1 = n + 1 + 1 + 1 + 1 + 1 + 1 + 1) ∧ (¬ n + 1 + 1 + 1 + 1 + 1 + 1 = n) ∧ (¬ n + 1 + 1 + 1 + 1 + 1 + 1 = n + 1) ∧ (¬ n + 1 + 1 + 1 + 1 + 1 + 1 = n + 1 + 1) ∧ (¬ n + 1 + 1 + 1 + 1 + 1 + 1 = n + 1 + 1 + 1) ∧ (¬ n + 1 + 1 + 1 + 1 + 1 + 1 = n + 1 + 1 + 1 + 1) ∧ (¬ n + 1 + 1 + 1 + 1 + 1 + 1 = n + 1 + 1 + 1 + 1 + 1) ∧ (¬ n + 1 + 1 + 1 + 1 + 1 + 1 = n + 1 + 1 + 1 + 1 + 1 + 1 + 1) ∧ (¬ n + 1 + 1 + 1 + 1 + 1 + 1 + 1 = n) ∧ (¬ n + 1 + 1 + 1 + 1 + 1 + 1 + 1 = n + 1) ∧ (¬ n + 1 + 1 + 1 + 1 + 1 + 1 + 1 = n + 1 + 1) ∧ (¬ n + 1 + 1 + 1 + 1 + 1 + 1 + 1 = n + 1 + 1 + 1) ∧ (¬ n + 1 + 1 + 1 + 1 + 1 + 1 + 1 = n + 1 + 1 + 1 + 1) ∧ (¬ n + 1 + 1 + 1 + 1 + 1 + 1 + 1 = n + 1 + 1 + 1 + 1 + 1) ∧ (¬ n + 1 + 1 + 1 + 1 + 1 + 1 + 1 = n + 1 + 1 + 1 + 1 + 1 + 1) := by
  refine ⟨?_, ?_, ?_, ?_, ?_, ?_, ?_, ?_, ?_, ?_, ?_, ?_, ?_, ?_, ?_, ?_, ?_, ?_, ?_, ?_, ?_, ?_, ?_, ?_, ?_, ?_, ?_, ?_, ?_, ?_, ?_, ?_, ?_, ?_, ?_, ?_, ?_, ?_, ?_, ?_, ?_, ?_, ?_, ?_, ?_, ?_, ?_, ?_, ?_, ?_, ?_, ?_, ?_, ?_, ?_, ?_⟩ <;> omega
theorem ft (b : Bool) : b = false ∨ b = true := by cases b <;> simp
theorem far {a n : Nat} (lt : a < n) : (¬ a = n) ∧ (¬ n = a) ∧ (∀ x0, ¬ a = n + x0) ∧ (∀ x0, ¬ n + x0 = a) ∧ (∀ x0 x1, ¬ a = n + x0 + x1) ∧ (∀ x0 x1, ¬ n + x0 + x1 = a) ∧ (∀ x0 x1 x2, ¬ a = n + x0 + x1 + x2) ∧ (∀ x0 x1 x2, ¬ n + x0 + x1 + x2 = a) ∧ (∀ x0 x1 x2 x3, ¬ a = n + x0 + x1 + x2 + x3) ∧ (∀ x0 x1 x2 x3, ¬ n + x0 + x1 + x2 + x3 = a) ∧ (∀ x0 x1 x2 x3 x4, ¬ a = n + x0 + x1 + x2 + x3 + x4) ∧ (∀ x0 x1 x2 x3 x4, ¬ n + x0 + x1 + x2 + x3 + x4 = a) ∧ (∀ x0 x1 x2 x3 x4 x5, ¬ a = n + x0 + x1 + x2 + x3 + x4 + x5) ∧ (∀ x0 x1 x2 x3 x4 x5, ¬ n + x0 + x1 + x2 + x3 + x4 + x5 = a) ∧ (∀ x0 x1 x2 x3 x4 x5 x6, ¬ a = n + x0 + x1 + x2 + x3 + x4 + x5 + x6) ∧ (∀ x0 x1 x2 x3 x4 x5 x6, ¬ n + x0 + x1 + x2 + x3 + x4 + x5 + x6 = a) ∧ (∀ x0 x1 x2 x3 x4 x5 x6 x7, ¬ a = n + x0 + x1 + x2 + x3 + x4 + x5 + x6 + x7) ∧ (∀ x0 x1 x2 x3 x4 x5 x6 x7, ¬ n + x0 + x1 + x2 + x3 + x4 + x5 + x6 + x7 = a) ∧ (∀ x0 x1 x2 x3 x4 x5 x6 x7 x8, ¬ a = n + x0 + x1 + x2 + x3 + x4 + x5 + x6 + x7 + x8) ∧ (∀ x0 x1 x2 x3 x4 x5 x6 x7 x8, ¬ n + x0 + x1 + x2 + x3 + x4 + x5 + x6 + x7 + x8 = a) ∧ (∀ x0 x1 x2 x3 x4 x5 x6 x7 x8 x9, ¬ a = n + x0 + x1 + x2 + x3 + x4 + x5 + x6 + x7 + x8 + x9) ∧ (∀ x0 x1 x2 x3 x4 x5 x6 x7 x8 x9, ¬ n + x0 + x1 + x2 + x3 + x4 + x5 + x6 + x7 + x8 + x9 = a) :=
  ⟨by omega, by omega, fun _ => by omega, fun _ => by omega, fun _ _ => by omega, fun _ _ => by omega, fun _ _ _ => by omega, fun _ _ _ => by omega, fun _ _ _ _ => by omega, fun _ _ _ _ => by omega, fun _ _ _ _ _ => by omega, fun _ _ _ _ _ => by omega, fun _ _ _ _ _ _ => by omega, fun _ _ _ _ _ _ => by omega, fun _ _ _ _ _ _ _ => by omega, fun _ _ _ _ _ _ _ => by omega, fun _ _ _ _ _ _ _ _ => by omega, fun _ _ _ _ _ _ _ _ => by omega, fun _ _ _ _ _ _ _ _ _ => by omega, fun _ _ _ _ _ _ _ _ _ => by omega, fun _ _ _ _ _ _ _ _ _ _ => by omega, fun _ _ _ _ _ _ _ _ _ _ => by omega⟩
end TL

/- Terms, claims, stories, places: what is one. -/
set_option linter.unusedSimpArgs false
set_option linter.unusedVariables false
set_option maxRecDepth 100000
set_option maxHeartbeats 4000000
set_option pp.maxSteps 1500
namespace TL
open Go Go.Proofs
attribute [local simp] marksV storyV codeV Claim.v Place.v
def peopleOk (p : Int) : Bool := decide (1 ≤ p) && decide (p ≤ 4)
def markStep (people : Int) (parts : Nat) (m : Mark) : Option Nat :=
  if m.kind = 0 then (if 0 ≤ m.num ∧ m.num < people then some (parts + 1) else none)
  else if m.kind = 1 then (if 0 ≤ m.num ∧ m.num ≤ people + 1 then some (parts + 1) else none)
  else if m.kind = 2 then (if m.num = 0 ∧ 1 ≤ parts then some parts else none)
  else if m.kind = 3 ∨ m.kind = 4 ∨ m.kind = 5 then (if m.num = 0 ∧ 2 ≤ parts then some (parts - 1) else none)
  else none
def marksRun (people : Int) : Nat → List Mark → Option Nat
  | parts, [] => some parts
  | parts, m :: ms => (markStep people parts m).bind fun q => marksRun people q ms
def termOk (people : Int) (t : List Mark) : Bool := peopleOk people && decide (1 ≤ t.length) && decide (t.length ≤ 15) && decide (marksRun people 0 t = some 1)
theorem markStep_le {people : Int} {parts q : Nat} {m : Mark} (h : markStep people parts m = some q) : q ≤ parts + 1 := by
  unfold markStep at h
  repeat' split at h
  all_goals first | (cases h; done) | (cases h; omega)
def TOI (people : Int) (t : List Mark) (a : Nat) (s : S) : Prop := ∃ (i parts : Nat), s.tm 0 = .v (.int .i64 people) ∧ s.tm 21 = .v (.sl (t.map Mark.v)) ∧ s.tm 22 = .v (.int .i64 t.length) ∧ s.tm 23 = .v (.int .i64 i) ∧ s.tm 5 = .v (.int .i64 parts) ∧ i ≤ t.length ∧ parts ≤ i ∧
  marksRun people parts (t.drop i) = marksRun people 0 t ∧ (a = 1 → i = t.length)
theorem termOk_fn (people : Int) (t : List Mark) : FnZ Try.prog 44 [.int .i64 people, marksV t] (.bool (termOk people t)) := by
  by_cases hp : 1 ≤ people ∧ people ≤ 4
  case neg =>
    have hk : peopleOk people = false := by simp only [peopleOk, Bool.and_eq_false_iff, decide_eq_false_iff_not]; omega
    have hr : termOk people t = false := by simp [termOk, hk]
    rw [hr]
    refine FnZ_of (rs := [.tmp 4]) false Try.func44 rfl rfl rfl rfl (Nat.le_of_ble_eq_true rfl) ?_
    simp -dsimp
    refine call_ (peopleOk_fn people) (by simp) ?_
    rw [show (decide (1 ≤ people) && decide (people ≤ 4)) = false from hk]
    simp -dsimp
  have hk : peopleOk people = true := by simp [peopleOk, hp]
  by_cases hl : 1 ≤ t.length ∧ t.length ≤ 15
  case neg =>
    have hr : termOk people t = false := by
      simp only [termOk, hk, Bool.true_and, Bool.and_eq_false_iff, decide_eq_false_iff_not]; omega
    rw [hr]
    refine FnZ_of (rs := [.tmp 4]) false Try.func44 rfl rfl rfl rfl (Nat.le_of_ble_eq_true rfl) ?_
    simp -dsimp
    refine call_ (peopleOk_fn people) (by simp) ?_
    rw [show (decide (1 ≤ people) && decide (people ≤ 4)) = true from hk]
    by_cases h0 : (t.length : Int) < 1
    · simp -dsimp [h0]
    · have h1 : (15 : Int) < t.length := by omega
      simp -dsimp [h0, h1]
  have h0 : ¬ (t.length : Int) < 1 := by omega
  have h1 : ¬ (15 : Int) < t.length := by omega
  have h1' : (t.length : Int) ≤ 15 := by omega
  have hr : termOk people t = decide (marksRun people 0 t = some 1) := by simp [termOk, hk, hl]
  rw [hr]
  refine FnZ_of (rs := [.tmp 4]) false Try.func44 rfl rfl rfl rfl (Nat.le_of_ble_eq_true rfl) ?_
  simp -dsimp
  refine call_ (peopleOk_fn people) (by simp) ?_
  rw [show (decide (1 ≤ people) && decide (people ≤ 4)) = true from hk]
  simp -dsimp [h0, h1, h1']
  refine twp_loopC (TOI people t 0) (fun s => t.length - natOf (s.tm 23)) (TOI people t 1) ?_ ?_ ?_
  · exact ⟨0, 0, by simp -dsimp, by simp -dsimp, by simp -dsimp, by simp -dsimp, by simp -dsimp, by simp, by simp, by simp, by simp⟩
  · rintro s ⟨i, parts, h0, h21, h22, h23, h5, hi, hpi, hrun, hend⟩
    by_cases hlt : i < t.length
    case neg =>
      simp -dsimp [h23, h22, hlt]
      exact ⟨i, parts, by simp [h0], by simp [h21], by simp [h22], by simp [h23], by simp [h5], hi, hpi, hrun, fun _ => by omega⟩
    have hget : (t.map Mark.v)[i]? = some (.agg [.int .i64 t[i].kind, .int .i64 t[i].num]) := by simp [Mark.v, hlt]
    have hstep := hrun
    rw [drop_cons hlt] at hstep
    simp only [marksRun] at hstep
    have wi : IntKind.wrap .i64 ((i : Int) + 1) = ((i + 1 : Nat) : Int) := by rw [w64 (by omega) (by omega)]; omega
    have wp : IntKind.wrap .i64 ((parts : Int) + 1) = ((parts + 1 : Nat) : Int) := by rw [w64 (by omega) (by omega)]; omega
    have wq : IntKind.wrap .i64 ((parts : Int) - 1) = if 1 ≤ parts then ((parts - 1 : Nat) : Int) else -1 := by rw [w64 (by omega) (by omega)]; split <;> omega
    have hmu : t.length - (i + 1) < t.length - i := by omega
    by_cases k0 : t[i].kind = 0
    · by_cases a0 : 0 ≤ t[i].num ∧ t[i].num < people
      · have hs : markStep people parts t[i] = some (parts + 1) := by simp [markStep, k0, a0]
        rw [hs] at hstep
        simp -dsimp [h0, h5, h23, h22, h21, hlt, hget, wi, wp, wq, k0, show ¬ t[i].num < 0 by omega, show ¬ people ≤ t[i].num by omega, hmu]
        exact ⟨i + 1, parts + 1, by simp -dsimp [h0], by simp -dsimp [h21], by simp -dsimp [h22], by simp -dsimp, by simp -dsimp [h5], by omega, by omega, hstep, by simp⟩
      · have hs : markStep people parts t[i] = none := by simp only [markStep, k0, if_neg a0, if_true]
        rw [hs] at hstep
        have hn : marksRun people 0 t = none := hstep.symm
        by_cases a1 : t[i].num < 0
        · simp -dsimp [h0, h5, h23, h22, h21, hlt, hget, wi, wp, wq, k0, a1, hn]
        · simp -dsimp [h0, h5, h23, h22, h21, hlt, hget, wi, wp, wq, k0, a1, hn, show people ≤ t[i].num by omega]
    by_cases k1 : t[i].kind = 1
    · have w1 : IntKind.wrap .i64 (people + 1) = people + 1 := w64 (by omega) (by omega)
      by_cases a0 : 0 ≤ t[i].num ∧ t[i].num ≤ people + 1
      · have hs : markStep people parts t[i] = some (parts + 1) := by simp [markStep, k1, a0]
        rw [hs] at hstep
        simp -dsimp [h0, h5, h23, h22, h21, hlt, hget, wi, wp, wq, k1, w1, show ¬ t[i].num < 0 by omega, show ¬ people + 1 < t[i].num by omega, hmu]
        exact ⟨i + 1, parts + 1, by simp -dsimp [h0], by simp -dsimp [h21], by simp -dsimp [h22], by simp -dsimp, by simp -dsimp [h5], by omega, by omega, hstep, by simp⟩
      · have hs : markStep people parts t[i] = none := by simp only [markStep, k1, if_neg a0, if_true]; simp
        rw [hs] at hstep
        have hn : marksRun people 0 t = none := hstep.symm
        by_cases a1 : t[i].num < 0
        · simp -dsimp [h0, h5, h23, h22, h21, hlt, hget, wi, wp, wq, k1, a1, hn]
        · simp -dsimp [h0, h5, h23, h22, h21, hlt, hget, wi, wp, wq, k1, a1, hn, w1, show people + 1 < t[i].num by omega]
    by_cases k2 : t[i].kind = 2
    · by_cases a0 : t[i].num = 0 ∧ 1 ≤ parts
      · have hs : markStep people parts t[i] = some (parts) := by simp [markStep, k2, a0]
        rw [hs] at hstep
        simp -dsimp [h0, h5, h23, h22, h21, hlt, hget, wi, wp, wq, k2, a0.1, show ¬ (parts : Int) < 1 by omega, show ¬ parts = 0 by omega, hmu]
        exact ⟨i + 1, parts, by simp -dsimp [h0], by simp -dsimp [h21], by simp -dsimp [h22], by simp -dsimp, by simp -dsimp [h5], by omega, by omega, hstep, by simp⟩
      · have hs : markStep people parts t[i] = none := by simp only [markStep, k2, if_neg a0, if_true]; simp
        rw [hs] at hstep
        have hn : marksRun people 0 t = none := hstep.symm
        by_cases a1 : t[i].num = 0
        · simp -dsimp [h0, h5, h23, h22, h21, hlt, hget, wi, wp, wq, k2, a1, hn, show (parts : Int) < 1 by omega, show parts = 0 by omega]
        · simp -dsimp [h0, h5, h23, h22, h21, hlt, hget, wi, wp, wq, k2, a1, hn]
    by_cases k3 : t[i].kind = 3 ∨ t[i].kind = 4 ∨ t[i].kind = 5
    · by_cases a0 : t[i].num = 0 ∧ 2 ≤ parts
      · have hs : markStep people parts t[i] = some (parts - 1) := by simp [markStep, k0, k1, k2, k3, a0]
        rw [hs] at hstep
        have e1 : ¬ (parts : Int) < 2 := by omega
        have e2 : 1 ≤ parts := by omega
        rcases k3 with k3 | k3 | k3
        all_goals
          simp -dsimp [h0, h5, h23, h22, h21, hlt, hget, wi, wp, wq, k3, a0.1, e1, e2, hmu]
          exact ⟨i + 1, parts - 1, by simp -dsimp [h0], by simp -dsimp [h21], by simp -dsimp [h22], by simp -dsimp, by simp -dsimp [h5], by omega, by omega, hstep, by simp⟩
      · have hs : markStep people parts t[i] = none := by simp only [markStep, if_neg k0, if_neg k1, if_neg k2, if_pos k3, if_neg a0]
        rw [hs] at hstep
        have hn : marksRun people 0 t = none := hstep.symm
        by_cases a1 : t[i].num = 0
        · have e1 : (parts : Int) < 2 := by omega
          rcases k3 with k3 | k3 | k3 <;> simp -dsimp [h0, h5, h23, h22, h21, hlt, hget, wi, wp, wq, k3, a1, hn, e1]
        · rcases k3 with k3 | k3 | k3 <;> simp -dsimp [h0, h5, h23, h22, h21, hlt, hget, wi, wp, wq, k3, a1, hn]
    · have hs : markStep people parts t[i] = none := by simp only [markStep, if_neg k0, if_neg k1, if_neg k2, if_neg k3]
      rw [hs] at hstep
      have hn : marksRun people 0 t = none := hstep.symm
      have k3' := not_or.1 k3
      have k4' := not_or.1 k3'.2
      simp -dsimp [h0, h5, h23, h22, h21, hlt, hget, wi, wp, wq, k0, k1, k2, k3'.1, k4'.1, k4'.2, hn]
  · rintro s ⟨i, parts, h0, h21, h22, h23, h5, hi, hpi, hrun, hend⟩
    simp -dsimp [h5]
    have := hend rfl
    subst this
    simp [marksRun] at hrun
    rw [← hrun]; simp; omega
end TL

/- spec: terms, claims, stories, places. -/
set_option linter.unusedSimpArgs false
set_option linter.unusedVariables false
set_option maxRecDepth 100000
set_option maxHeartbeats 4000000
set_option pp.maxSteps 1500
namespace TL
open Go Go.Proofs
attribute [local simp] marksV storyV codeV Claim.v Place.v
def inR (n a b : Int) : Bool := decide (a ≤ n) && decide (n ≤ b)
theorem inR_true {n a b : Int} : inR n a b = true ↔ a ≤ n ∧ n ≤ b := by simp [inR]
theorem inR_false {n a b : Int} : inR n a b = false ↔ ¬ (a ≤ n ∧ n ≤ b) := by rw [← inR_true]; cases inR n a b <;> simp
theorem l1In_fn (n a b : Int) : FnZ Try.prog 35 [.int .i64 n, .int .i64 a, .int .i64 b] (.bool (inR n a b)) := by
  unfold inR
  refine FnZ_of (rs := [.tmp 6]) false Try.func35 rfl rfl rfl rfl (Nat.le_of_ble_eq_true rfl) ?_
  by_cases h : a ≤ n <;> simp -dsimp [h]
theorem termOk_eq (people : Int) (t : List Mark) : termOk people t = (peopleOk people && decide (marksRun people 0 t = some 1) && decide (t.length ≤ 15)) := by
  cases t with
  | nil => simp [termOk, marksRun]
  | cons x xs =>
    rw [Bool.eq_iff_iff]
    simp only [termOk, Bool.and_eq_true, decide_eq_true_eq, List.length_cons]
    constructor
    · rintro ⟨⟨⟨h1, h2⟩, h3⟩, h4⟩; exact ⟨⟨h1, h4⟩, h3⟩
    · rintro ⟨⟨h1, h4⟩, h3⟩; exact ⟨⟨⟨h1, by omega⟩, h3⟩, h4⟩
def TOS (people : Int) (t : List Mark) (a : Nat) (s : S) : Prop := ∃ (i parts : Nat), s.tm 0 = .v (.int .i64 people) ∧ s.tm 1 = .v (.sl (t.map Mark.v)) ∧ s.tm 6 = .v (.int .i64 i) ∧ s.tm 5 = .v (.int .i64 parts) ∧ i ≤ t.length ∧ parts ≤ i ∧
  marksRun people parts (t.drop i) = marksRun people 0 t ∧ (a = 1 → i = t.length)
theorem termOkS_fn (people : Int) (t : List Mark) (hf : fits t) (hl : t.length < 1000000000000) : FnZ Try.prog 42 [.int .i64 people, marksV t] (.bool (termOk people t)) := by
  rw [termOk_eq]
  refine FnZ_of (rs := [.tmp 4]) false Try.func42 rfl rfl rfl rfl (Nat.le_of_ble_eq_true rfl) ?_
  simp -dsimp
  refine twp_loopC (TOS people t 0) (fun s => t.length - natOf (s.tm 6)) (TOS people t 1) ?_ ?_ ?_
  · exact ⟨0, 0, by simp -dsimp, by simp -dsimp, by simp -dsimp, by simp -dsimp, by simp, by simp, by simp, by simp⟩
  · rintro s ⟨i, parts, h0, h1, h6, h5, hi, hpi, hrun, hend⟩
    by_cases hlt : i < t.length
    case neg =>
      simp -dsimp [h1, h6, hlt]
      exact ⟨i, parts, by simp -dsimp [h0], by simp -dsimp [h1], by simp -dsimp [h6], by simp -dsimp [h5], hi, hpi, hrun, fun _ => by omega⟩
    have hget : (t.map Mark.v)[i]? = some (.agg [.int .i64 t[i].kind, .int .i64 t[i].num]) := by simp [Mark.v, hlt]
    have hv : t[i].v = .agg [.int .i64 t[i].kind, .int .i64 t[i].num] := rfl
    have hfi := hf t[i] (List.getElem_mem _)
    have hfa := hfi.2
    unfold TL.fit at hfa
    have hstep := hrun
    rw [drop_cons hlt] at hstep
    simp only [marksRun] at hstep
    have wi : IntKind.wrap .i64 ((i : Int) + 1) = ((i + 1 : Nat) : Int) := by rw [w64 (by omega) (by omega)]; omega
    have wp : IntKind.wrap .i64 ((parts : Int) + 1) = ((parts + 1 : Nat) : Int) := by rw [w64 (by omega) (by omega)]; omega
    have wq : 2 ≤ parts → IntKind.wrap .i64 ((parts : Int) - 1) = ((parts - 1 : Nat) : Int) := fun h => by rw [w64 (by omega) (by omega)]; omega
    have hmu : t.length - (i + 1) < t.length - i := by omega
    have bad : markStep people parts t[i] = none → marksRun people 0 t = none := fun hs => by rw [hs] at hstep; exact hstep.symm
    by_cases k0 : t[i].kind = 0
    · by_cases a0 : 0 ≤ t[i].num ∧ t[i].num < people
      · have hs : markStep people parts t[i] = some (parts + 1) := by simp [markStep, k0, a0]
        rw [hs] at hstep
        simp -dsimp [h0, h1, h5, h6, hlt, hget, wi, wp, k0, a0.1, a0.2, hmu]
        exact ⟨i + 1, parts + 1, by simp -dsimp [h0], by simp -dsimp [h1], by simp -dsimp, by simp -dsimp [h5], by omega, by omega, hstep, by simp⟩
      · have hn := bad (by simp only [markStep, k0, if_neg a0, if_true])
        by_cases a1 : 0 ≤ t[i].num
        · have a2 : ¬ t[i].num < people := by omega
          simp -dsimp [h0, h1, h5, h6, hlt, hget, wi, wp, k0, a1, a2]
          refine call_ (l1In_fn _ _ _) (by simp -dsimp <;> exact ⟨rfl, rfl, rfl⟩) ?_
          simp -dsimp [k0, hn, show inR 0 3 5 = false from rfl]
        · simp -dsimp [h0, h1, h5, h6, hlt, hget, wi, wp, k0, a1]
          refine call_ (l1In_fn _ _ _) (by simp -dsimp <;> exact ⟨rfl, rfl, rfl⟩) ?_
          simp -dsimp [k0, hn, show inR 0 3 5 = false from rfl]
    by_cases k1 : t[i].kind = 1
    · have w1 : IntKind.wrap .i64 (t[i].num - 1) = if 0 ≤ t[i].num then t[i].num - 1 else IntKind.wrap .i64 (t[i].num - 1) := by
        split
        · exact w64 (by omega) (by omega)
        · rfl
      by_cases a0 : 0 ≤ t[i].num ∧ t[i].num ≤ people + 1
      · have hs : markStep people parts t[i] = some (parts + 1) := by simp [markStep, k1, a0]
        rw [hs] at hstep
        have w2 : IntKind.wrap .i64 (t[i].num - 1) = t[i].num - 1 := w64 (by omega) (by omega)
        by_cases a1 : t[i].num ≤ people
        · simp -dsimp [h0, h1, h5, h6, hlt, hget, wi, wp, k1, a0.1, a1, hmu]
          exact ⟨i + 1, parts + 1, by simp -dsimp [h0], by simp -dsimp [h1], by simp -dsimp, by simp -dsimp [h5], by omega, by omega, hstep, by simp⟩
        · have a2 : t[i].num - 1 = people := by omega
          simp -dsimp [h0, h1, h5, h6, hlt, hget, wi, wp, k1, a0.1, show ¬ t[i].num ≤ people from a1, w2.trans a2, hmu]
          exact ⟨i + 1, parts + 1, by simp -dsimp [h0], by simp -dsimp [h1], by simp -dsimp, by simp -dsimp [h5], by omega, by omega, hstep, by simp⟩
      · have hn := bad (by simp only [markStep, k1, if_neg a0, if_true]; simp)
        by_cases a1 : 0 ≤ t[i].num
        · have a2 : ¬ t[i].num ≤ people := by omega
          have a3 : ¬ t[i].num - 1 = people := by omega
          have w2 : IntKind.wrap .i64 (t[i].num - 1) = t[i].num - 1 := w64 (by omega) (by omega)
          simp -dsimp [h0, h1, h5, h6, hlt, hget, wi, wp, k1, a1, a2, w2, a3]
          refine call_ (l1In_fn _ _ _) (by simp -dsimp <;> exact ⟨rfl, rfl, rfl⟩) ?_
          simp -dsimp [k1, hn, show inR 1 3 5 = false from rfl]
        · simp -dsimp [h0, h1, h5, h6, hlt, hget, wi, wp, k1, a1]
          refine call_ (l1In_fn _ _ _) (by simp -dsimp <;> exact ⟨rfl, rfl, rfl⟩) ?_
          simp -dsimp [k1, hn, show inR 1 3 5 = false from rfl]
    by_cases k2 : t[i].kind = 2
    · by_cases a0 : t[i].num = 0 ∧ 1 ≤ parts
      · have hs : markStep people parts t[i] = some parts := by simp [markStep, k2, a0]
        rw [hs] at hstep
        have e1 : (1 : Int) ≤ parts := by omega
        simp -dsimp [h0, h1, h5, h6, hlt, hget, wi, wp, hv, k2, a0.1, e1, hmu]
        exact ⟨i + 1, parts, by simp -dsimp [h0], by simp -dsimp [h1], by simp -dsimp, by simp -dsimp [h5], by omega, by omega, hstep, by simp⟩
      · have hn := bad (by simp only [markStep, k2, if_neg a0, if_true]; simp)
        by_cases a1 : t[i].num = 0
        · have e1 : ¬ (1 : Int) ≤ parts := by omega
          simp -dsimp [h0, h1, h5, h6, hlt, hget, wi, wp, hv, k2, a1, e1]
          refine call_ (l1In_fn _ _ _) (by simp -dsimp <;> exact ⟨rfl, rfl, rfl⟩) ?_
          simp -dsimp [k2, hn, show inR 2 3 5 = false from rfl]
        · simp -dsimp [h0, h1, h5, h6, hlt, hget, wi, wp, hv, k2, a1]
          refine call_ (l1In_fn _ _ _) (by simp -dsimp <;> exact ⟨rfl, rfl, rfl⟩) ?_
          simp -dsimp [k2, hn, show inR 2 3 5 = false from rfl]
    have hk2 : (decide (t[i].kind = 2)) = false := by simp [k2]
    by_cases k3 : t[i].kind = 3 ∨ t[i].kind = 4 ∨ t[i].kind = 5
    · have hin : inR t[i].kind 3 5 = true := inR_true.2 (by omega)
      by_cases a0 : t[i].num = 0 ∧ 2 ≤ parts
      · have hs : markStep people parts t[i] = some (parts - 1) := by simp [markStep, k0, k1, k2, k3, a0]
        rw [hs] at hstep
        have e1 : (2 : Int) ≤ parts := by omega
        have wq := wq a0.2
        simp -dsimp [h0, h1, h5, h6, hlt, hget, wi, wp, hv, k0, k1, k2]
        refine call_ (l1In_fn _ _ _) (by simp -dsimp <;> exact ⟨rfl, rfl, rfl⟩) ?_
        simp -dsimp [h0, h1, h5, h6, hlt, hget, wi, wp, hin, a0.1, e1, wq, hmu]
        exact ⟨i + 1, parts - 1, by simp -dsimp [h0], by simp -dsimp [h1], by simp -dsimp, by simp -dsimp [h5], by omega, by omega, hstep, by simp⟩
      · have hn := bad (by simp only [markStep, if_neg k0, if_neg k1, if_neg k2, if_pos k3, if_neg a0])
        simp -dsimp [h0, h1, h5, h6, hlt, hget, wi, wp, hv, k0, k1, k2]
        refine call_ (l1In_fn _ _ _) (by simp -dsimp <;> exact ⟨rfl, rfl, rfl⟩) ?_
        by_cases a1 : t[i].num = 0
        · have e1 : ¬ (2 : Int) ≤ parts := by omega
          simp -dsimp [h0, h1, h5, h6, hlt, hget, wi, wp, hin, a1, e1, hn]
        · simp -dsimp [h0, h1, h5, h6, hlt, hget, wi, wp, hin, a1, hn]
    · have hn := bad (by simp only [markStep, if_neg k0, if_neg k1, if_neg k2, if_neg k3])
      have hin : inR t[i].kind 3 5 = false := inR_false.2 (by omega)
      simp -dsimp [h0, h1, h5, h6, hlt, hget, wi, wp, hv, k0, k1, k2]
      refine call_ (l1In_fn _ _ _) (by simp -dsimp <;> exact ⟨rfl, rfl, rfl⟩) ?_
      simp -dsimp [hin, hn]
  · rintro s ⟨i, parts, h0, h1, h6, h5, hi, hpi, hrun, hend⟩
    have := hend rfl
    subst this
    simp [marksRun] at hrun
    simp -dsimp [h0]
    refine call_ (l1In_fn _ _ _) (by simp -dsimp <;> exact ⟨rfl, rfl, rfl⟩) ?_
    have hpk : inR people 1 4 = peopleOk people := rfl
    have hk := ft (peopleOk people)
    rcases hk with hk | hk
    · simp -dsimp [hpk, hk, ← hrun]
    · by_cases e1 : parts = 1
      · have e2 : (parts : Int) = 1 := by omega
        simp -dsimp [h1, h5, e1, hpk, hk, ← hrun]; omega
      · have e2 : ¬ (parts : Int) = 1 := by omega
        simp -dsimp [h1, h5, e1, e2, hpk, hk, ← hrun]
end TL

/- Terms as trees; their texts. -/
set_option linter.unusedSimpArgs false
set_option linter.unusedVariables false
set_option maxRecDepth 100000
set_option maxHeartbeats 4000000
set_option pp.maxSteps 1500
namespace TL
open Go Go.Proofs
attribute [local simp] marksV storyV codeV Claim.v Place.v
inductive Tm where
  | tells (i : Nat) | count (n : Nat) | not (a : Tm) | bin (k : Nat) (a b : Tm)
def Tm.marks : Tm → List Mark
  | .tells i => [⟨0, i⟩]
  | .count n => [⟨1, n⟩]
  | .not a => a.marks ++ [⟨2, 0⟩]
  | .bin k a b => a.marks ++ b.marks ++ [⟨3 + k, 0⟩]
def Tm.kind : Tm → Nat
  | .tells _ => 0
  | .count _ => 1
  | .not _ => 2
  | .bin k _ _ => 3 + k
def Tm.ok : Tm → Prop
  | .tells i => i < 4
  | .count n => n < 6
  | .not a => a.ok
  | .bin k a b => k < 3 ∧ a.ok ∧ b.ok
def par (b : Bool) (s : List UInt8) : List UInt8 := if b then 40 :: (s ++ [41]) else s
def sign (k : Nat) : UInt8 := if k = 0 then 38 else if k = 1 then 124 else 61
def Tm.text : Tm → List UInt8
  | .tells i => [UInt8.ofNat (97 + i)]
  | .count n => [UInt8.ofNat (48 + n)]
  | .not a => 33 :: par (decide (3 ≤ a.kind)) a.text
  | .bin k a b => par (decide (3 + k < a.kind)) a.text ++ sign k :: par (decide (3 + k ≤ b.kind)) b.text
theorem par_len (b : Bool) (s : List UInt8) : (par b s).length ≤ s.length + 2 := by unfold par; split <;> simp
theorem Tm.marks_pos : ∀ T : Tm, 1 ≤ T.marks.length
  | .tells _ => by simp [marks]
  | .count _ => by simp [marks]
  | .not a => by simp [marks]
  | .bin k a b => by simp [marks]; omega
theorem Tm.text_len : ∀ T : Tm, T.text.length ≤ 6 * T.marks.length
  | .tells _ => by simp [text, marks]
  | .count _ => by simp [text, marks]
  | .not a => by
    have := a.text_len; have := par_len (decide (3 ≤ a.kind)) a.text
    simp [text, marks] at *; omega
  | .bin k a b => by
    have := a.text_len; have := b.text_len; have := par_len (decide (3 + k < a.kind)) a.text; have := par_len (decide (3 + k ≤ b.kind)) b.text
    simp [text, marks] at *; omega
theorem Tm.last : ∀ T : Tm, ∃ pre m, T.marks = pre ++ [m] ∧ m.kind = (T.kind : Int)
  | .tells i => ⟨[], ⟨0, i⟩, rfl, rfl⟩
  | .count n => ⟨[], ⟨1, n⟩, rfl, rfl⟩
  | .not a => ⟨a.marks, ⟨2, 0⟩, rfl, rfl⟩
  | .bin k a b => ⟨a.marks ++ b.marks, ⟨3 + k, 0⟩, rfl, by simp [kind]⟩
theorem Tm.kinds : ∀ T : Tm, T.ok → ∀ m ∈ T.marks, 0 ≤ m.kind ∧ m.kind ≤ 5
  | .tells i, _, m, hm => by simp [marks] at hm; subst hm; simp
  | .count n, _, m, hm => by simp [marks] at hm; subst hm; simp
  | .not a, h, m, hm => by
    simp only [marks, List.mem_append, List.mem_singleton] at hm
    rcases hm with hm | rfl
    · exact a.kinds h m hm
    · simp
  | .bin k a b, h, m, hm => by
    simp only [marks, List.mem_append, List.mem_singleton] at hm
    rcases hm with (hm | hm) | rfl
    · exact a.kinds h.2.1 m hm
    · exact b.kinds h.2.2 m hm
    · have := h.1; simp; omega
/-! A row of marks that is a term is a tree. -/
def flat (st : List Tm) : List Mark := st.flatMap Tm.marks
theorem flat_append (a b : List Tm) : flat (a ++ b) = flat a ++ flat b := by simp [flat]
theorem last_of {α : Type} {l : List α} {n : Nat} (h : l.length = n + 1) : ∃ a x, l = a ++ [x] ∧ a.length = n := by
  have hne : l ≠ [] := by rintro rfl; simp at h
  refine ⟨l.dropLast, l.getLast hne, (List.dropLast_concat_getLast hne).symm, by simp [h]⟩
theorem run_tree {people : Int} (hp : people ≤ 4) : ∀ (ms : List Mark) (parts q : Nat) (st : List Tm), st.length = parts → (∀ T ∈ st, T.ok) → marksRun people parts ms = some q → ∃ st' : List Tm, st'.length = q ∧ (∀ T ∈ st', T.ok) ∧ flat st' = flat st ++ ms
  | [], parts, q, st, h1, h2, h3 => by
    simp [marksRun] at h3; exact ⟨st, by omega, h2, by simp⟩
  | m :: ms, parts, q, st, h1, h2, h3 => by
    simp only [marksRun] at h3
    cases e : markStep people parts m with
    | none => rw [e] at h3; cases h3
    | some r =>
      rw [e] at h3
      have go : ∀ st1 : List Tm, st1.length = r → (∀ T ∈ st1, T.ok) → flat st1 = flat st ++ [m] → ∃ st' : List Tm, st'.length = q ∧ (∀ T ∈ st', T.ok) ∧ flat st' = flat st ++ m :: ms := fun st1 a b c => by
        obtain ⟨st', x, y, z⟩ := run_tree hp ms r q st1 a b h3
        exact ⟨st', x, y, by rw [z, c]; simp⟩
      obtain ⟨k, a⟩ := m
      unfold markStep at e
      simp only at e
      split at e
      · rename_i hk; subst hk
        split at e
        · rename_i ha; cases e
          refine go (st ++ [.tells a.toNat]) (by simp; omega) ?_ ?_
          · intro T hT; rcases List.mem_append.1 hT with hT | hT
            · exact h2 T hT
            · cases List.mem_singleton.1 hT; show a.toNat < 4; omega
          · have : ((a.toNat : Nat) : Int) = a := by omega
            simp [flat, Tm.marks, this]
        · cases e
      split at e
      · rename_i hk; subst hk
        split at e
        · rename_i ha; cases e
          refine go (st ++ [.count a.toNat]) (by simp; omega) ?_ ?_
          · intro T hT; rcases List.mem_append.1 hT with hT | hT
            · exact h2 T hT
            · cases List.mem_singleton.1 hT; show a.toNat < 6; omega
          · have : ((a.toNat : Nat) : Int) = a := by omega
            simp [flat, Tm.marks, this]
        · cases e
      split at e
      · rename_i hk; subst hk
        split at e
        · rename_i ha; cases e
          obtain ⟨rfl, hp1⟩ := ha
          obtain ⟨st0, x, rfl, hx⟩ := last_of (l := st) (n := parts - 1) (by omega)
          refine go (st0 ++ [.not x]) (by simp at h1 ⊢; omega) ?_ ?_
          · intro T hT; rcases List.mem_append.1 hT with hT | hT
            · exact h2 T (List.mem_append_left _ hT)
            · cases List.mem_singleton.1 hT; exact h2 x (by simp)
          · simp [flat, Tm.marks]
        · cases e
      split at e
      · rename_i hk
        split at e
        · rename_i ha; cases e
          obtain ⟨rfl, hp1⟩ := ha
          obtain ⟨st0, y, rfl, hy⟩ := last_of (l := st) (n := parts - 1) (by omega)
          obtain ⟨st1, x, rfl, hx⟩ := last_of (l := st0) (n := parts - 2) (by omega)
          refine go (st1 ++ [.bin (k - 3).toNat x y]) (by simp at h1 ⊢; omega) ?_ ?_
          · intro T hT; rcases List.mem_append.1 hT with hT | hT
            · exact h2 T (by simp [hT])
            · cases List.mem_singleton.1 hT; exact ⟨by omega, h2 x (by simp), h2 y (by simp)⟩
          · have : (3 : Int) + ((k - 3).toNat : Nat) = k := by omega
            simp [flat, Tm.marks]; omega
        · cases e
      · cases e
theorem termOk_tree {people : Int} {t : List Mark} (h : termOk people t = true) : ∃ T : Tm, T.ok ∧ T.marks = t := by
  simp only [termOk, peopleOk, Bool.and_eq_true, decide_eq_true_eq] at h
  obtain ⟨st, h1, h2, h3⟩ := run_tree (by omega) t 0 1 [] rfl (by simp) h.2
  obtain ⟨T, rfl⟩ := List.length_eq_one_iff.1 h1
  exact ⟨T, h2 T (by simp), by simpa [flat] using h3⟩
/-! Where the last part begins. -/
def dl (m : Mark) : Int := if m.kind = 0 ∨ m.kind = 1 then -1 else if m.kind = 3 ∨ m.kind = 4 ∨ m.kind = 5 then 1 else 0
def dsum (l : List Mark) : Int := (l.map dl).sum
@[simp] theorem dsum_nil : dsum [] = 0 := rfl
@[simp] theorem dsum_cons (m : Mark) (l : List Mark) : dsum (m :: l) = dl m + dsum l := by simp [dsum]
@[simp] theorem dsum_append (a b : List Mark) : dsum (a ++ b) = dsum a + dsum b := by simp [dsum]
theorem dl_abs (m : Mark) : -1 ≤ dl m ∧ dl m ≤ 1 := by unfold dl; split <;> (try split) <;> omega
theorem dsum_abs : ∀ l : List Mark, -(l.length : Int) ≤ dsum l ∧ dsum l ≤ l.length
  | [] => by simp
  | m :: l => by have := dsum_abs l; have := dl_abs m; simp; omega
theorem Tm.scan : ∀ T : Tm, T.ok → dsum T.marks = -1 ∧ ∀ j, 1 ≤ j → 0 ≤ dsum (T.marks.drop j)
  | .tells i, _ => ⟨by simp [marks, dl], fun j hj => by rw [List.drop_eq_nil_of_le (by simp [marks]; omega)]; simp⟩
  | .count i, _ => ⟨by simp [marks, dl], fun j hj => by rw [List.drop_eq_nil_of_le (by simp [marks]; omega)]; simp⟩
  | .not a, h => by
    obtain ⟨h1, h2⟩ := a.scan h
    have e : dl ⟨2, 0⟩ = 0 := by simp [dl]
    refine ⟨by simp [marks, h1, e], fun j hj => ?_⟩
    have := h2 j hj
    have e3 : 0 ≤ dsum ([(⟨2, 0⟩ : Mark)].drop (j - a.marks.length)) := by
      rcases Nat.eq_zero_or_pos (j - a.marks.length) with h | h
      · rw [h]; simp [e]
      · rw [List.drop_eq_nil_of_le (by simp; omega)]; simp
    simp only [marks, List.drop_append, dsum_append]; omega
  | .bin k a b, h => by
    obtain ⟨h1, h2⟩ := a.scan h.2.1
    obtain ⟨h3, h4⟩ := b.scan h.2.2
    have e : dl ⟨3 + k, 0⟩ = 1 := by have := h.1; unfold dl; rw [if_neg (by simp; omega), if_pos (by simp; omega)]
    refine ⟨by simp [marks, h1, h3, e], fun j hj => ?_⟩
    have := h2 j hj
    simp only [marks, List.drop_append, dsum_append, List.length_append]
    rcases Nat.eq_zero_or_pos (j - a.marks.length) with h0 | h0
    · have e4 : j - (a.marks.length + b.marks.length) = 0 := by omega
      rw [h0, e4]; simp [h3, e]; omega
    · have := h4 _ h0
      have e3 : 0 ≤ dsum ([(⟨3 + k, 0⟩ : Mark)].drop (j - (a.marks.length + b.marks.length))) := by
        rcases Nat.eq_zero_or_pos (j - (a.marks.length + b.marks.length)) with h | h
        · rw [h]; simp [e]
        · rw [List.drop_eq_nil_of_le (by simp; omega)]; simp
      omega
def Ilp (l : List Mark) (p : Nat) (s : S) : Prop := ∃ i : Nat, s.tm 0 = .v (.sl (l.map Mark.v)) ∧ s.tm 4 = .v (.int .i64 i) ∧ i < l.length ∧ p ≤ i ∧ s.tm 3 = .v (.int .i64 (1 + dsum (l.drop (i + 1))))
def intOf : T → Int
  | .v (.int _ z) => z
  | _ => 0
@[simp] theorem intOf_int (k : IntKind) (z : Int) : intOf (.v (.int k z)) = z := rfl
def Ils (l : List Mark) (p e : Nat) (B : List Mark) (x : Nat) (s : S) : Prop := ∃ i : Nat, s.tm 0 = .v (.sl (l.map Mark.v)) ∧ s.tm 6 = .v (.int .i64 ((p : Int) + i - 1)) ∧ i ≤ B.length ∧ s.tm 5 = .v (.int .i64 (1 + dsum (B.drop i))) ∧ (x = 1 → i = 0)
/-! The texts. -/
def Ihe (l : List Mark) (st : List UInt8) (ks : List Int) (m : Mark) (s : S) : Prop := ∃ i : Nat, s.tm 0 = .v (.sl (l.map Mark.v)) ∧ s.tm 5 = .v (.str st) ∧ s.tm 10 = .v (.sl (ks.map (V.int .i64))) ∧ s.tm 11 = .v (.int .i64 ks.length) ∧ s.tm 12 = .v (.int .i64 i) ∧ i ≤ ks.length ∧ m.kind ∉ ks.take i
end TL

/- Reading terms: the plain part. -/
set_option linter.unusedSimpArgs false
set_option linter.unusedVariables false
set_option maxRecDepth 100000
namespace TL
/-- What a reader has read: marks, what is left, whether it was one. -/
structure R where
  ms : List Mark
  rest : List UInt8
  ok : Bool
def rLoop (p : List UInt8 → R) (sg : UInt8) (k : Int) : Nat → List Mark → List UInt8 → R
  | 0, t, s => ⟨t, s, true⟩
  | _ + 1, t, [] => ⟨t, [], true⟩
  | g + 1, t, c :: more => if c = sg then (if (p more).ok = true then rLoop p sg k g (t ++ (p more).ms ++ [⟨k, 0⟩]) (p more).rest else ⟨[], (p more).rest, false⟩) else ⟨t, c :: more, true⟩
def rRow (p : List UInt8 → R) (sg : UInt8) (k : Int) (g : Nat) (s : List UInt8) : R := if (p s).ok = true then rLoop p sg k g (p s).ms (p s).rest else ⟨[], (p s).rest, false⟩
def shut (r : R) : R := match r.rest with
  | [] => ⟨r.ms, [], false⟩
  | c :: q => if c = 41 then ⟨r.ms, q, r.ok⟩ else ⟨r.ms, c :: q, false⟩
def rPart (A : UInt8 → Option Mark) : Nat → List UInt8 → R
  | 0, s => ⟨[], s, false⟩
  | _ + 1, [] => ⟨[], [], false⟩
  | f + 1, c :: s => match A c with
    | some m => ⟨[m], s, true⟩
    | none => if c = 33 then ⟨(rPart A f s).ms ++ [⟨2, 0⟩], (rPart A f s).rest, (rPart A f s).ok⟩
      else if c = 40 then shut (rRow (rRow (rRow (rPart A f) 38 3 f) 124 4 f) 61 5 f s)
      else ⟨[], c :: s, false⟩
def rAnd (A : UInt8 → Option Mark) (f : Nat) (s : List UInt8) : R := rRow (rPart A f) 38 3 f s
def rOr (A : UInt8 → Option Mark) (f : Nat) (s : List UInt8) : R := rRow (rAnd A f) 124 4 f s
def rSame (A : UInt8 → Option Mark) (f : Nat) (s : List UInt8) : R := rRow (rOr A f) 61 5 f s
theorem rPart_open (A : UInt8 → Option Mark) (f : Nat) (s : List UInt8) (h : A 40 = none) : rPart A (f + 1) (40 :: s) = shut (rSame A f s) := by
  show (match A 40 with
    | some m => _
    | none => _) = _
  rw [h]; rfl
theorem rPart_not (A : UInt8 → Option Mark) (f : Nat) (s : List UInt8) (h : A 33 = none) : rPart A (f + 1) (33 :: s) = ⟨(rPart A f s).ms ++ [⟨2, 0⟩], (rPart A f s).rest, (rPart A f s).ok⟩ := by
  show (match A 33 with
    | some m => _
    | none => _) = _
  rw [h]; rfl
theorem rPart_one (A : UInt8 → Option Mark) (f : Nat) (c : UInt8) (s : List UInt8) (m : Mark) (h : A c = some m) : rPart A (f + 1) (c :: s) = ⟨[m], s, true⟩ := by
  show (match A c with
    | some m => _
    | none => _) = _
  rw [h]
/-! How much is read, and what marks there are. -/
def good (p : List UInt8 → R) : Prop := ∀ s, (p s).ms.length + (p s).rest.length ≤ s.length ∧ ∀ m ∈ (p s).ms, 0 ≤ m.kind ∧ m.kind ≤ 5 ∧ 0 ≤ m.num ∧ m.num ≤ 1000
theorem rLoop_good {p : List UInt8 → R} (hp : good p) {sg : UInt8} {k : Int} (h0 : 0 ≤ k) (h5 : k ≤ 5) : ∀ (g : Nat) (t : List Mark) (s : List UInt8), (∀ m ∈ t, 0 ≤ m.kind ∧ m.kind ≤ 5 ∧ 0 ≤ m.num ∧ m.num ≤ 1000) →
    (rLoop p sg k g t s).ms.length + (rLoop p sg k g t s).rest.length ≤ t.length + s.length ∧ ∀ m ∈ (rLoop p sg k g t s).ms, 0 ≤ m.kind ∧ m.kind ≤ 5 ∧ 0 ≤ m.num ∧ m.num ≤ 1000
  | 0, t, s, h => ⟨by simp [rLoop], h⟩
  | g + 1, t, [], h => ⟨by simp [rLoop], h⟩
  | g + 1, t, c :: more, h => by
    simp only [rLoop]
    have := (hp more).1
    split
    · split
      · have ih := rLoop_good hp (sg := sg) h0 h5 g (t ++ (p more).ms ++ [⟨k, 0⟩]) (p more).rest (fun m hm => by
          rcases List.mem_append.1 hm with hm | hm
          · rcases List.mem_append.1 hm with hm | hm
            · exact h m hm
            · exact (hp more).2 m hm
          · cases List.mem_singleton.1 hm; exact ⟨h0, h5, by simp, by simp⟩)
        refine ⟨?_, ih.2⟩
        have := ih.1
        simp at this ⊢; omega
      · refine ⟨by simp; omega, by simp⟩
    · exact ⟨by simp, h⟩
theorem rRow_good {p : List UInt8 → R} (hp : good p) {sg : UInt8} {k : Int} (h0 : 0 ≤ k) (h5 : k ≤ 5) (g : Nat) : good (rRow p sg k g) := fun s => by
  have := hp s
  unfold rRow
  split
  · have h := rLoop_good hp (sg := sg) h0 h5 g (p s).ms (p s).rest this.2
    exact ⟨by omega, h.2⟩
  · exact ⟨by simp; omega, by simp⟩
theorem shut_good {r : R} {n : Nat} (h : r.ms.length + r.rest.length ≤ n) : (shut r).ms.length + (shut r).rest.length ≤ n ∧ (shut r).ms = r.ms := by
  unfold shut
  split
  · rename_i e; rw [e] at h; exact ⟨by simpa using h, rfl⟩
  · rename_i e; rw [e] at h
    split
    · exact ⟨by simp at h ⊢; omega, rfl⟩
    · exact ⟨by simpa using h, rfl⟩
theorem rPart_good {A : UInt8 → Option Mark} (hA : ∀ c m, A c = some m → 0 ≤ m.kind ∧ m.kind ≤ 5 ∧ 0 ≤ m.num ∧ m.num ≤ 1000) : ∀ f, good (rPart A f)
  | 0 => fun s => ⟨by simp [rPart], by simp [rPart]⟩
  | f + 1 => fun s => by
    have ih := rPart_good hA f
    cases s with
    | nil => exact ⟨by simp [rPart], by simp [rPart]⟩
    | cons c s =>
      simp only [rPart]
      split
      · rename_i m e; exact ⟨by simp; omega, fun x hx => by cases List.mem_singleton.1 hx; exact hA c m e⟩
      split
      · have := ih s
        refine ⟨by simp; omega, fun x hx => ?_⟩
        rcases List.mem_append.1 hx with hx | hx
        · exact this.2 x hx
        · cases List.mem_singleton.1 hx; simp
      split
      · have g3 := rRow_good (rRow_good (rRow_good ih (sg := 38) (k := 3) (by omega) (by omega) f) (sg := 124) (k := 4) (by omega) (by omega) f) (sg := 61) (k := 5) (by omega) (by omega) f s
        have h := shut_good (n := s.length) g3.1
        refine ⟨by simp only [List.length_cons]; omega, ?_⟩
        rw [h.2]; exact g3.2
      · exact ⟨by simp, by simp⟩
/-! What was written is read. -/
def noHead (sg : UInt8) (r : List UInt8) : Prop := r.head? ≠ some sg
theorem rLoop_stop {p : List UInt8 → R} {sg : UInt8} {k : Int} (g : Nat) (t : List Mark) {r : List UInt8} (h : noHead sg r) : rLoop p sg k g t r = ⟨t, r, true⟩ := by
  cases g with
  | zero => rfl
  | succ g =>
    cases r with
    | nil => rfl
    | cons c r => simp only [rLoop]; rw [if_neg (fun e => h (by rw [e]; rfl))]
theorem rLoop_step {p : List UInt8 → R} {sg : UInt8} {k : Int} {g : Nat} {t u : List Mark} {s r : List UInt8} (hg : (sg :: s).length ≤ g) (hr : r.length ≤ s.length) (h : p s = ⟨u, r, true⟩) :
    ∃ g', r.length ≤ g' ∧ rLoop p sg k g t (sg :: s) = rLoop p sg k g' (t ++ u ++ [⟨k, 0⟩]) r := by
  cases g with
  | zero => simp at hg
  | succ g =>
    refine ⟨g, by simp at hg; omega, ?_⟩
    simp only [rLoop, if_true, h]
theorem rRow_up {p : List UInt8 → R} {sg : UInt8} {k : Int} {g : Nat} {t : List Mark} {s r : List UInt8} (h : p s = ⟨t, r, true⟩) : rRow p sg k g s = rLoop p sg k g t r := by
  unfold rRow; rw [h]; rfl
structure AOk (A : UInt8 → Option Mark) : Prop where
  letter : ∀ i : Nat, i < 4 → A (UInt8.ofNat (97 + i)) = some ⟨0, i⟩
  digit : ∀ i : Nat, i < 6 → A (UInt8.ofNat (48 + i)) = some ⟨1, i⟩
  bang : A 33 = none
  brak : A 40 = none
/-- How a text is read at each level. -/
structure RT (A : UInt8 → Option Mark) (T : Tm) (s : List UInt8) (b : Bool) : Prop where
  l0 : ∀ f r, (s ++ r).length ≤ f → (b = false → T.kind ≤ 2) → rPart A f (s ++ r) = ⟨T.marks, r, true⟩
  l1 : ∀ f r, (s ++ r).length ≤ f → (b = false → T.kind ≤ 3) → ∃ g, r.length ≤ g ∧ rAnd A f (s ++ r) = rLoop (rPart A f) 38 3 g T.marks r
  l2 : ∀ f r, (s ++ r).length ≤ f → (b = false → T.kind ≤ 4) → noHead 38 r → ∃ g, r.length ≤ g ∧ rOr A f (s ++ r) = rLoop (rAnd A f) 124 4 g T.marks r
  l3 : ∀ f r, (s ++ r).length ≤ f → noHead 38 r → noHead 124 r → ∃ g, r.length ≤ g ∧ rSame A f (s ++ r) = rLoop (rOr A f) 61 5 g T.marks r
theorem lift1 {A : UInt8 → Option Mark} {f : Nat} {t : List Mark} {s r : List UInt8} (hl : (s ++ r).length ≤ f) (h : rPart A f (s ++ r) = ⟨t, r, true⟩) : ∃ g, r.length ≤ g ∧ rAnd A f (s ++ r) = rLoop (rPart A f) 38 3 g t r :=
  ⟨f, by simp at hl; omega, rRow_up h⟩
theorem lift2 {A : UInt8 → Option Mark} {f : Nat} {t : List Mark} {s r : List UInt8} (hl : (s ++ r).length ≤ f) (hn : noHead 38 r) (h : ∃ g, r.length ≤ g ∧ rAnd A f (s ++ r) = rLoop (rPart A f) 38 3 g t r) : ∃ g, r.length ≤ g ∧ rOr A f (s ++ r) = rLoop (rAnd A f) 124 4 g t r := by
  obtain ⟨g, _, h⟩ := h
  rw [rLoop_stop g t hn] at h
  exact ⟨f, by simp at hl; omega, rRow_up h⟩
theorem lift3 {A : UInt8 → Option Mark} {f : Nat} {t : List Mark} {s r : List UInt8} (hl : (s ++ r).length ≤ f) (hn : noHead 124 r) (h : ∃ g, r.length ≤ g ∧ rOr A f (s ++ r) = rLoop (rAnd A f) 124 4 g t r) : ∃ g, r.length ≤ g ∧ rSame A f (s ++ r) = rLoop (rOr A f) 61 5 g t r := by
  obtain ⟨g, _, h⟩ := h
  rw [rLoop_stop g t hn] at h
  exact ⟨f, by simp at hl; omega, rRow_up h⟩
theorem RT.of0 {A : UInt8 → Option Mark} {T : Tm} {s : List UInt8} {b : Bool} (h : ∀ f r, (s ++ r).length ≤ f → rPart A f (s ++ r) = ⟨T.marks, r, true⟩) : RT A T s b :=
  ⟨fun f r hl _ => h f r hl, fun f r hl _ => lift1 hl (h f r hl), fun f r hl _ hn => lift2 hl hn (lift1 hl (h f r hl)), fun f r hl hn hn2 => lift3 hl hn2 (lift2 hl hn (lift1 hl (h f r hl)))⟩
theorem RT.par {A : UInt8 → Option Mark} (hA : AOk A) {T : Tm} (h : RT A T T.text false) (b : Bool) : RT A T (par b T.text) b := by
  cases b with
  | false => exact h
  | true =>
    refine RT.of0 fun f r hl => ?_
    have e : TL.par true T.text ++ r = 40 :: (T.text ++ 41 :: r) := by simp [TL.par]
    rw [e] at hl ⊢
    cases f with
    | zero => simp at hl
    | succ f =>
      obtain ⟨g, _, h3⟩ := h.l3 f (41 :: r) (by simp at hl ⊢; omega) (by simp [noHead]) (by simp [noHead])
      rw [rPart_open A f _ hA.brak, h3, rLoop_stop g _ (by simp [noHead])]
      simp [shut]
theorem RT.tm {A : UInt8 → Option Mark} (hA : AOk A) : ∀ T : Tm, T.ok → RT A T T.text false
  | .tells i, h => RT.of0 fun f r hl => by
    cases f with
    | zero => simp [Tm.text] at hl
    | succ f => exact rPart_one A f _ r _ (hA.letter i h)
  | .count i, h => RT.of0 fun f r hl => by
    cases f with
    | zero => simp [Tm.text] at hl
    | succ f => exact rPart_one A f _ r _ (hA.digit i h)
  | .not a, h => RT.of0 fun f r hl => by
    have e : (Tm.not a).text ++ r = 33 :: (TL.par (decide (3 ≤ a.kind)) a.text ++ r) := rfl
    rw [e] at hl ⊢
    cases f with
    | zero => simp at hl
    | succ f =>
      have ih := ((RT.tm hA a h).par hA (decide (3 ≤ a.kind))).l0 f r (by simp at hl ⊢; omega) (by simp; omega)
      rw [rPart_not A f _ hA.bang, ih]; rfl
  | .bin k a b, h => by
    have ia := (RT.tm hA a h.2.1).par hA (decide (3 + k < a.kind))
    have ib := (RT.tm hA b h.2.2).par hA (decide (3 + k ≤ b.kind))
    have e : ∀ r, (Tm.bin k a b).text ++ r = TL.par (decide (3 + k < a.kind)) a.text ++ sign k :: (TL.par (decide (3 + k ≤ b.kind)) b.text ++ r) := fun r => by simp [Tm.text]
    have em : (Tm.bin k a b).marks = a.marks ++ b.marks ++ [⟨3 + k, 0⟩] := rfl
    have ek : (Tm.bin k a b).kind = 3 + k := rfl
    have hk := h.1
    generalize TL.par (decide (3 + k < a.kind)) a.text = sa at *
    generalize TL.par (decide (3 + k ≤ b.kind)) b.text = sb at *
    generalize (Tm.bin k a b).text = st at *
    have g1 : k = 0 → ∀ f r, (st ++ r).length ≤ f → ∃ g, r.length ≤ g ∧ rAnd A f (st ++ r) = rLoop (rPart A f) 38 3 g (Tm.bin k a b).marks r := by
      rintro rfl f r hl
      rw [e] at hl ⊢
      have la : sign 0 = 38 := rfl
      rw [la] at hl ⊢
      obtain ⟨g, hg, h1⟩ := ia.l1 f _ hl (by simp <;> omega)
      have h2 := ib.l0 f r (by simp at hl ⊢; omega) (by simp; omega)
      obtain ⟨g', hg', h3⟩ := rLoop_step (k := 3) (t := a.marks) hg (by simp) h2
      exact ⟨g', hg', by rw [h1, h3, em]; rfl⟩
    have g2 : k = 1 → ∀ f r, (st ++ r).length ≤ f → noHead 38 r → ∃ g, r.length ≤ g ∧ rOr A f (st ++ r) = rLoop (rAnd A f) 124 4 g (Tm.bin k a b).marks r := by
      rintro rfl f r hl hn
      rw [e] at hl ⊢
      have la : sign 1 = 124 := rfl
      rw [la] at hl ⊢
      obtain ⟨g, hg, h1⟩ := ia.l2 f _ hl (by simp <;> omega) (by simp [noHead])
      obtain ⟨g0, _, h2⟩ := ib.l1 f r (by simp at hl ⊢; omega) (by simp; omega)
      rw [rLoop_stop g0 _ hn] at h2
      obtain ⟨g', hg', h3⟩ := rLoop_step (k := 4) (t := a.marks) hg (by simp) h2
      exact ⟨g', hg', by rw [h1, h3, em]; rfl⟩
    have g3 : k = 2 → ∀ f r, (st ++ r).length ≤ f → noHead 38 r → noHead 124 r → ∃ g, r.length ≤ g ∧ rSame A f (st ++ r) = rLoop (rOr A f) 61 5 g (Tm.bin k a b).marks r := by
      rintro rfl f r hl hn hn2
      rw [e] at hl ⊢
      have la : sign 2 = 61 := rfl
      rw [la] at hl ⊢
      obtain ⟨g, hg, h1⟩ := ia.l3 f _ hl (by simp [noHead]) (by simp [noHead])
      obtain ⟨g0, _, h2⟩ := ib.l2 f r (by simp at hl ⊢; omega) (by simp; omega) hn
      rw [rLoop_stop g0 _ hn2] at h2
      obtain ⟨g', hg', h3⟩ := rLoop_step (k := 5) (t := a.marks) hg (by simp) h2
      exact ⟨g', hg', by rw [h1, h3, em]; rfl⟩
    refine ⟨fun f r hl hq => ?_, fun f r hl hq => ?_, fun f r hl hq hn => ?_, fun f r hl hn hn2 => ?_⟩
    · have := hq rfl; omega
    · have := hq rfl; exact g1 (by omega) f r hl
    · have := hq rfl
      rcases (by omega : k = 0 ∨ k = 1) with hk | hk
      · exact lift2 hl hn (g1 hk f r hl)
      · exact g2 hk f r hl hn
    · rcases (by omega : k = 0 ∨ k = 1 ∨ k = 2) with hk | hk | hk
      · exact lift3 hl hn2 (lift2 hl hn (g1 hk f r hl))
      · exact lift3 hl hn2 (g2 hk f r hl hn)
      · exact g3 hk f r hl hn hn2
theorem read_text {A : UInt8 → Option Mark} (hA : AOk A) (T : Tm) (h : T.ok) (f : Nat) (hf : T.text.length ≤ f) : rSame A f T.text = ⟨T.marks, [], true⟩ := by
  obtain ⟨g, _, e⟩ := (RT.tm hA T h).l3 f [] (by simpa using hf) (by simp [noHead]) (by simp [noHead])
  rw [List.append_nil] at e
  rw [e, rLoop_stop g _ (by simp [noHead])]
theorem rRow_nil {p : List UInt8 → R} {sg : UInt8} {k : Int} {g : Nat} (h : (p []).ok = false) : (rRow p sg k g []).ok = false := by
  unfold rRow; rw [if_neg (by simp [h])]
theorem rPart_nil (A : UInt8 → Option Mark) (f : Nat) : (rPart A f []).ok = false := by cases f <;> rfl
theorem rSame_nil (A : UInt8 → Option Mark) (f : Nat) : (rSame A f []).ok = false := rRow_nil (rRow_nil (rRow_nil (rPart_nil A f)))
/-- The atoms of the program, and of the reference. -/
def atomI (c : UInt8) : Option Mark := if 97 ≤ c.toNat ∧ c.toNat ≤ 122 then some ⟨0, (c.toNat : Int) - 97⟩ else if 48 ≤ c.toNat ∧ c.toNat ≤ 57 then some ⟨1, (c.toNat : Int) - 48⟩ else none
def atomS (c : UInt8) : Option Mark := if 97 ≤ c.toNat ∧ c.toNat ≤ 100 then some ⟨0, (c.toNat : Int) - 97⟩ else if 48 ≤ c.toNat ∧ c.toNat ≤ 53 then some ⟨1, (c.toNat : Int) - 48⟩ else none
theorem atomI_ok : AOk atomI where
  letter i hi := by rcases (by omega : i = 0 ∨ i = 1 ∨ i = 2 ∨ i = 3) with rfl | rfl | rfl | rfl <;> rfl
  digit i hi := by rcases (by omega : i = 0 ∨ i = 1 ∨ i = 2 ∨ i = 3 ∨ i = 4 ∨ i = 5) with rfl | rfl | rfl | rfl | rfl | rfl <;> rfl
  bang := rfl
  brak := rfl
theorem atomS_ok : AOk atomS where
  letter i hi := by rcases (by omega : i = 0 ∨ i = 1 ∨ i = 2 ∨ i = 3) with rfl | rfl | rfl | rfl <;> rfl
  digit i hi := by rcases (by omega : i = 0 ∨ i = 1 ∨ i = 2 ∨ i = 3 ∨ i = 4 ∨ i = 5) with rfl | rfl | rfl | rfl | rfl | rfl <;> rfl
  bang := rfl
  brak := rfl
theorem atomI_good (c : UInt8) (m : Mark) (h : atomI c = some m) : 0 ≤ m.kind ∧ m.kind ≤ 5 ∧ 0 ≤ m.num ∧ m.num ≤ 1000 := by
  unfold atomI at h
  split at h
  · cases h; simp only; omega
  split at h
  · cases h; simp only; omega
  · cases h
theorem atomS_good (c : UInt8) (m : Mark) (h : atomS c = some m) : 0 ≤ m.kind ∧ m.kind ≤ 5 ∧ 0 ≤ m.num ∧ m.num ≤ 1000 := by
  unfold atomS at h
  split at h
  · cases h; simp only; omega
  split at h
  · cases h; simp only; omega
  · cases h
/-- The text of a term. -/
noncomputable def termText (people : Int) (t : List Mark) : List UInt8 := by
  classical exact if h : termOk people t = true then (Classical.choose (termOk_tree h)).text else []
theorem termText_no {people : Int} {t : List Mark} (h : termOk people t = false) : termText people t = [] := by
  unfold termText; rw [dif_neg (by simp [h])]
theorem termText_tree {people : Int} {t : List Mark} (h : termOk people t = true) : ∃ T : Tm, T.ok ∧ T.marks = t ∧ T.text = termText people t := by
  unfold termText; rw [dif_pos h]
  exact ⟨_, (Classical.choose_spec (termOk_tree h)).1, (Classical.choose_spec (termOk_tree h)).2, rfl⟩
theorem termOk_pos {people : Int} {t : List Mark} (h : termOk people t = true) : 1 ≤ t.length := by
  obtain ⟨T, _, rfl, _⟩ := termText_tree h; exact T.marks_pos
theorem tm_text_pos : ∀ T : Tm, T.text ≠ []
  | .tells i => by simp [Tm.text]
  | .count i => by simp [Tm.text]
  | .not a => by simp [Tm.text]
  | .bin k a b => by simp [Tm.text]
theorem termText_pos {people : Int} {t : List Mark} (h : termOk people t = true) : termText people t ≠ [] := by
  obtain ⟨T, _, _, h3⟩ := termText_tree h; rw [← h3]; exact tm_text_pos T
/-- What ReadTerm finds. -/
noncomputable def readT (people : Int) (s : List UInt8) : Option (List Mark) := by
  classical exact if h : s.length ≤ 60 ∧ ∃ t, termOk people t = true ∧ termText people t = s then some (Classical.choose h.2) else none
theorem text_inj {people : Int} {t u : List Mark} (ht : termOk people t = true) (hu : termOk people u = true) (h : termText people t = termText people u) : t = u := by
  obtain ⟨T, a1, a2, a3⟩ := termText_tree ht
  obtain ⟨U, b1, b2, b3⟩ := termText_tree hu
  have e1 := read_text atomI_ok T a1 _ (Nat.le_refl _)
  have e2 := read_text atomI_ok U b1 _ (Nat.le_refl _)
  have : T.text = U.text := by rw [a3, b3, h]
  rw [this, e2] at e1
  have := congrArg R.ms e1
  simp only at this
  rw [← a2, ← b2, this]
theorem readT_some {people : Int} {s : List UInt8} {t : List Mark} (hl : s.length ≤ 60) (h : termOk people t = true) (hs : termText people t = s) : readT people s = some t := by
  have hx : s.length ≤ 60 ∧ ∃ t, termOk people t = true ∧ termText people t = s := ⟨hl, t, h, hs⟩
  unfold readT; rw [dif_pos hx]
  have := Classical.choose_spec hx.2
  exact congrArg some (text_inj this.1 h (by rw [this.2, hs]))
theorem readT_is {people : Int} {s : List UInt8} {t : List Mark} (h : readT people s = some t) : s.length ≤ 60 ∧ termOk people t = true ∧ termText people t = s := by
  unfold readT at h
  split at h
  · rename_i hx; cases h; exact ⟨hx.1, Classical.choose_spec hx.2⟩
  · cases h
theorem readT_none {people : Int} {s : List UInt8} (h : ∀ t, s.length ≤ 60 → termOk people t = true → termText people t ≠ s) : readT people s = none := by
  unfold readT; rw [dif_neg]; rintro ⟨hl, t, h1, h2⟩; exact h t hl h1 h2
/-- What the code does: read, then compare. -/
theorem readT_code {people : Int} {s : List UInt8} {A : UInt8 → Option Mark} (hA : AOk A) (hl : s.length ≤ 60) :
    readT people s = if (rSame A s.length s).ok = true ∧ (rSame A s.length s).rest = [] ∧ termOk people (rSame A s.length s).ms = true ∧ termText people (rSame A s.length s).ms = s then some (rSame A s.length s).ms else none := by
  split
  · rename_i h; exact readT_some hl h.2.2.1 h.2.2.2
  · rename_i h
    refine readT_none fun t _ h1 h2 => h ?_
    obtain ⟨T, a1, a2, a3⟩ := termText_tree h1
    have e := read_text hA T a1 s.length (by rw [a3, h2]; exact Nat.le_refl _)
    rw [a3, h2] at e
    rw [e]
    exact ⟨rfl, rfl, by rw [a2]; exact h1, by rw [a2]; exact h2⟩
end TL

/- Reading terms: the program's code. -/
set_option linter.unusedSimpArgs false
set_option linter.unusedVariables false
set_option maxRecDepth 100000
set_option maxHeartbeats 4000000
set_option pp.maxSteps 1500
namespace TL
open Go Go.Proofs
attribute [local simp] marksV storyV codeV Claim.v Place.v
def cutB (s : List UInt8) (c : UInt8) : List UInt8 × Bool := match s with
  | [] => ([], false)
  | x :: r => if x = c then (r, true) else (x :: r, false)
/-- What a reader gives back: a row of its own. -/
structure RPost (m : Mem) (n : Nat) (r : R) (t : T) (m' : Mem) (n' : Nat) : Prop where
  le : n ≤ n'
  out : ∀ j, j < n → m' j = m j
  res : ∃ st, t = .tup [st, .v (.str r.rest), .v (.bool r.ok)] ∧ IsRow m' n n' 67 st (r.ms.map Mark.v) ∧ (r.ok = true → st ≠ .nil)
abbrev RFn (f : Nat) (L : Nat) (p : List UInt8 → R) : Prop := ∀ s : List UInt8, s.length ≤ L → ∀ m n, FnS Try.prog f m n [.v (.str s)] (RPost m n (p s))
/-- The loop of readRow. -/
def Irr (m0 : Mem) (n0 : Nat) (F : Nat) (p : List UInt8 → R) (sg : UInt8) (k : Int) (f : Nat) (G : R) (s : S) : Prop := ∃ (ms : List Mark) (rest : List UInt8) (ok : Bool) (st : T) (g : Nat),
  s.tm 0 = .v (.str rest) ∧ s.tm 1 = .v (.str [sg]) ∧ s.tm 2 = .v (.int .i64 k) ∧ s.tm 3 = .fn f [] ∧ s.tm 11 = st ∧ s.tm 12 = .v (.bool ok) ∧ s.mu = false ∧ n0 ≤ s.n ∧ (∀ j, j < n0 → s.m j = m0 j) ∧
  IsRow s.m n0 s.n 67 st (ms.map Mark.v) ∧ rest.length ≤ g ∧ rest.length ≤ F ∧ ms.length + rest.length ≤ F ∧ (ok = true → st ≠ .nil ∧ G = rLoop p sg k g ms rest) ∧ (ok = false → G = ⟨[], rest, false⟩)
def lenOf : T → Nat
  | .v (.str s) => s.length + 1
  | .v (.bool b) => if b then 1 else 0
  | _ => 0
@[simp] theorem lenOf_str (s : List UInt8) : lenOf (.v (.str s)) = s.length + 1 := rfl
@[simp] theorem lenOf_bool (b : Bool) : lenOf (.v (.bool b)) = if b then 1 else 0 := rfl
def Xrr (m0 : Mem) (n0 : Nat) (G : R) (s : S) : Prop := ∃ rest : List UInt8, s.tm 0 = .v (.str rest) ∧ G = ⟨[], rest, false⟩ ∧ n0 ≤ s.n ∧ ∀ j, j < n0 → s.m j = m0 j
theorem cutB_len (s : List UInt8) (c : UInt8) : (cutB s c).1.length ≤ s.length := by
  unfold cutB; split
  · simp
  · split <;> simp
theorem cut_no {p : List UInt8 → R} {sg : UInt8} {k : Int} {g : Nat} {ms : List Mark} {rest : List UInt8} (h : (cutB rest sg).2 = false) : rLoop p sg k g ms rest = ⟨ms, rest, true⟩ := by
  cases g with
  | zero => rfl
  | succ g =>
    cases rest with
    | nil => rfl
    | cons c r =>
      simp only [rLoop]
      by_cases hc : c = sg
      · subst hc; simp [cutB] at h
      · rw [if_neg hc]
theorem cut_yes {p : List UInt8 → R} {sg : UInt8} {k : Int} {g : Nat} {ms : List Mark} {rest : List UInt8} (hg : rest.length ≤ g) (h : (cutB rest sg).2 = true) :
    ∃ g', (cutB rest sg).1.length ≤ g' ∧ (cutB rest sg).1.length + 1 = rest.length ∧ rLoop p sg k g ms rest = if (p (cutB rest sg).1).ok = true then rLoop p sg k g' (ms ++ (p (cutB rest sg).1).ms ++ [⟨k, 0⟩]) (p (cutB rest sg).1).rest else ⟨[], (p (cutB rest sg).1).rest, false⟩ := by
  cases rest with
  | nil => cases h
  | cons c r =>
    have hc : c = sg := by
      unfold cutB at h; simp only at h
      split at h
      · assumption
      · cases h
    subst hc
    have e : (cutB (c :: r) c).1 = r := by simp [cutB]
    rw [e]
    cases g with
    | zero => simp at hg
    | succ g => exact ⟨g, by simpa using hg, by simp, by simp only [rLoop, if_true]⟩
theorem pack (s : List UInt8) {r : R} {m m' : Mem} {n n' : Nat} {st : T} (h1 : n ≤ n') (h2 : ∀ j, j < n → m' j = m j) (h3 : IsRow m' n n' 67 st (r.ms.map Mark.v)) (h4 : r.ok = true → st ≠ .nil) : RPost m n r (.tup [st, .v (.str r.rest), .v (.bool r.ok)]) m' n' :=
  ⟨h1, h2, st, rfl, h3, h4⟩
theorem RPost.mk' {r : R} {m m' : Mem} {n n' : Nat} {st : T} {a : List UInt8} {b : Bool} (h1 : n ≤ n') (h2 : ∀ j, j < n → m' j = m j) (h3 : IsRow m' n n' 67 st (r.ms.map Mark.v)) (h4 : b = true → st ≠ .nil) (ha : r.rest = a) (hb : r.ok = b) : RPost m n r (.tup [st, .v (.str a), .v (.bool b)]) m' n' := by
  subst ha; subst hb; exact ⟨h1, h2, st, rfl, h3, h4⟩
/-- What readPart does with its first sign. -/
theorem rPart_letter (f : Nat) (c : UInt8) (s : List UInt8) (h1 : 97 ≤ c.toNat) (h2 : c.toNat ≤ 122) : rPart atomI (f + 1) (c :: s) = ⟨[⟨0, (c.toNat : Int) - 97⟩], s, true⟩ := rPart_one _ _ _ _ _ (if_pos ⟨h1, h2⟩)
theorem rPart_digit (f : Nat) (c : UInt8) (s : List UInt8) (h0 : ¬ (97 ≤ c.toNat ∧ c.toNat ≤ 122)) (h1 : 48 ≤ c.toNat) (h2 : c.toNat ≤ 57) : rPart atomI (f + 1) (c :: s) = ⟨[⟨1, (c.toNat : Int) - 48⟩], s, true⟩ := rPart_one _ _ _ _ _ (by unfold atomI; rw [if_neg h0, if_pos ⟨h1, h2⟩])
theorem rPart_else (A : UInt8 → Option Mark) (f : Nat) (c : UInt8) (s : List UInt8) (h : A c = none) (h1 : c ≠ 33) (h2 : c ≠ 40) : rPart A (f + 1) (c :: s) = ⟨[], c :: s, false⟩ := by
  show (match A c with
    | some m => _
    | none => _) = _
  rw [h]; simp only; rw [if_neg h1, if_neg h2]
theorem atomI_none {c : UInt8} (h0 : ¬ (97 ≤ c.toNat ∧ c.toNat ≤ 122)) (h1 : ¬ (48 ≤ c.toNat ∧ c.toNat ≤ 57)) : atomI c = none := by unfold atomI; rw [if_neg h0, if_neg h1]
end TL

/- Reading terms: the reference's code. -/
set_option linter.unusedSimpArgs false
set_option linter.unusedVariables false
set_option maxRecDepth 100000
set_option maxHeartbeats 4000000
set_option pp.maxSteps 1500
namespace TL
open Go Go.Proofs
attribute [local simp] marksV storyV codeV Claim.v Place.v
theorem drop_one {Tx : List UInt8} {q : Nat} {c : UInt8} {more : List UInt8} (h : Tx.drop q = c :: more) : Tx[q]? = some c ∧ Tx.drop (q + 1) = more ∧ q < Tx.length := by
  have hlt : q < Tx.length := by
    rcases Nat.lt_or_ge q Tx.length with h1 | h1
    · exact h1
    · rw [List.drop_eq_nil_of_le h1] at h; cases h
  rw [drop_cons hlt] at h
  injection h with h1 h2
  exact ⟨by rw [List.getElem?_eq_getElem hlt, h1], h2, hlt⟩
/-- What a reader of the reference gives back. -/
structure SPost (Tx : List UInt8) (L : Nat) (m : Mem) (n : Nat) (r : R) (t : T) (m' : Mem) (n' : Nat) : Prop where
  le : n ≤ n'
  out : ∀ j, j < n → m' j = m j
  res : ∃ (i : Nat) (xs : List Mark) (next : Int), t = .tup [.loc i, .v (.int .i64 next)] ∧ n ≤ i ∧ i < n' ∧ m' i = some (.arr 67 (xs.map Mark.v)) ∧ xs.length ≤ L ∧
    (r.ok = true → xs = r.ms ∧ ∃ q : Nat, next = q ∧ Tx.drop q = r.rest ∧ q ≤ Tx.length) ∧ (r.ok = false → next = -1)
abbrev SFn (f : Nat) (Tx : List UInt8) (F : Nat) (more : List T) (p : List UInt8 → R) : Prop := ∀ q : Nat, q ≤ Tx.length → Tx.length - q ≤ F → ∀ m n, FnS Try.prog f m n ([.v (.str Tx), .v (.int .i64 q)] ++ more) (SPost Tx (Tx.length - q) m n (p (Tx.drop q)))
def numAt : T → Int
  | .v (.int _ z) => z
  | _ => 0
@[simp] theorem numAt_int (k : IntKind) (z : Int) : numAt (.v (.int k z)) = z := rfl
def Isl (Tx : List UInt8) (L : Nat) (m0 : Mem) (n0 : Nat) (p : List UInt8 → R) (sg : UInt8) (k : Int) (G : R) (s : S) : Prop := ∃ (i : Nat) (xs : List Mark) (next : Int),
  s.tm 0 = .v (.str Tx) ∧ s.tm 2 = .v (.int .i64 k) ∧ s.tm 8 = .v (.int .u8 sg.toNat) ∧ s.tm 9 = .loc i ∧ s.tm 10 = .v (.int .i64 next) ∧ s.mu = false ∧ n0 ≤ s.n ∧ (∀ j, j < n0 → s.m j = m0 j) ∧
  n0 ≤ i ∧ i < s.n ∧ s.m i = some (.arr 67 (xs.map Mark.v)) ∧ xs.length ≤ L ∧
  ((next = -1 ∧ G.ok = false) ∨ ∃ (q g : Nat), next = q ∧ q ≤ Tx.length ∧ Tx.length - q ≤ g ∧ Tx.length - q ≤ L ∧ xs.length + (Tx.length - q) ≤ L ∧ G = rLoop p sg k g xs (Tx.drop q))
def Xsl (Tx : List UInt8) (L : Nat) (m0 : Mem) (n0 : Nat) (G : R) (s : S) : Prop := ∃ (i : Nat) (xs : List Mark) (next : Int),
  s.tm 9 = .loc i ∧ s.tm 10 = .v (.int .i64 next) ∧ n0 ≤ s.n ∧ (∀ j, j < n0 → s.m j = m0 j) ∧
  n0 ≤ i ∧ i < s.n ∧ s.m i = some (.arr 67 (xs.map Mark.v)) ∧ xs.length ≤ L ∧
  (G.ok = true → xs = G.ms ∧ ∃ q : Nat, next = q ∧ Tx.drop q = G.rest ∧ q ≤ Tx.length) ∧ (G.ok = false → next = -1)
theorem level_start {Tx : List UInt8} {p : List UInt8 → R} {sg : UInt8} {k : Int} {F L q : Nat} {xs : List Mark} {next : Int} (hF : L ≤ F) (g0 : (p (Tx.drop q)).ms.length + (p (Tx.drop q)).rest.length ≤ L)
    (hok : (p (Tx.drop q)).ok = true → xs = (p (Tx.drop q)).ms ∧ ∃ q' : Nat, next = q' ∧ Tx.drop q' = (p (Tx.drop q)).rest ∧ q' ≤ Tx.length) (hno : (p (Tx.drop q)).ok = false → next = -1) :
    (next = -1 ∧ (rRow p sg k F (Tx.drop q)).ok = false) ∨ ∃ (q' g : Nat), next = q' ∧ q' ≤ Tx.length ∧ Tx.length - q' ≤ g ∧ Tx.length - q' ≤ L ∧ xs.length + (Tx.length - q') ≤ L ∧ rRow p sg k F (Tx.drop q) = rLoop p sg k g xs (Tx.drop q') := by
  have hb := ft (p (Tx.drop q)).ok
  rcases hb with hb | hb
  · left; exact ⟨hno hb, by unfold rRow; rw [if_neg (by simp [hb])]⟩
  · obtain ⟨rfl, q', e1, e2, e3⟩ := hok hb
    have e4 := congrArg List.length e2
    rw [List.length_drop] at e4
    right; exact ⟨q', F, e1, e3, by omega, by omega, by omega, by unfold rRow; rw [if_pos hb, e2]⟩
theorem level_next {Tx : List UInt8} {p : List UInt8 → R} {sg : UInt8} {k : Int} {L L2 : Nat} {xs ys : List Mark} {next : Int} {more : List UInt8} {G : R}
    (hG : ∃ g', more.length ≤ g' ∧ G = if (p more).ok = true then rLoop p sg k g' (xs ++ (p more).ms ++ [(⟨k, 0⟩ : Mark)]) (p more).rest else (⟨[], (p more).rest, false⟩ : R)) (g2 : (p more).ms.length + (p more).rest.length ≤ L2)
    (hok : (p more).ok = true → ys = (p more).ms ∧ ∃ q' : Nat, next = q' ∧ Tx.drop q' = (p more).rest ∧ q' ≤ Tx.length) (hno : (p more).ok = false → next = -1) (h1 : more.length = L2) (h2 : xs.length + 1 + L2 ≤ L) :
    (next = -1 ∧ G.ok = false) ∨ ∃ (q' g : Nat), next = q' ∧ q' ≤ Tx.length ∧ Tx.length - q' ≤ g ∧ Tx.length - q' ≤ L ∧ (xs ++ ys ++ [(⟨k, 0⟩ : Mark)]).length + (Tx.length - q') ≤ L ∧ G = rLoop p sg k g (xs ++ ys ++ [⟨k, 0⟩]) (Tx.drop q') := by
  obtain ⟨g', hg', rfl⟩ := hG
  have hb := ft (p more).ok
  rcases hb with hb | hb
  · left; exact ⟨hno hb, by rw [if_neg (by simp [hb])]⟩
  · obtain ⟨rfl, q', e1, e2, e3⟩ := hok hb
    have e4 := congrArg List.length e2
    rw [List.length_drop] at e4
    right; exact ⟨q', g', e1, e3, by omega, by omega, by simp; omega, by rw [if_pos hb, e2]⟩
theorem level_mu {Tx : List UInt8} {p : List UInt8 → R} {L2 : Nat} {ys : List Mark} {next : Int} {more : List UInt8} (g2 : (p more).ms.length + (p more).rest.length ≤ L2)
    (hok : (p more).ok = true → ys = (p more).ms ∧ ∃ q' : Nat, next = q' ∧ Tx.drop q' = (p more).rest ∧ q' ≤ Tx.length) (hno : (p more).ok = false → next = -1) :
    (if next < 0 then 0 else Tx.length + 1 - next.toNat) ≤ L2 + 1 := by
  have hb := ft (p more).ok
  rcases hb with hb | hb
  · rw [hno hb]; simp
  · obtain ⟨_, q', rfl, e2, e3⟩ := hok hb
    have e4 := congrArg List.length e2
    rw [List.length_drop] at e4
    rw [if_neg (by omega)]; omega
theorem level_step {Tx : List UInt8} {p : List UInt8 → R} {sg : UInt8} {k : Int} {g q : Nat} {xs : List Mark} {more : List UInt8} (hd : Tx.drop q = sg :: more) (hg : Tx.length - q ≤ g) :
    ∃ g', more.length ≤ g' ∧ rLoop p sg k g xs (Tx.drop q) = if (p more).ok = true then rLoop p sg k g' (xs ++ (p more).ms ++ [⟨k, 0⟩]) (p more).rest else ⟨[], (p more).rest, false⟩ := by
  have e4 := congrArg List.length hd
  rw [List.length_drop] at e4
  cases g with
  | zero => simp at e4; omega
  | succ g => exact ⟨g, by simp at e4; omega, by rw [hd]; simp only [rLoop, if_true]⟩
theorem SPost.mk' {Tx : List UInt8} {L : Nat} {r : R} {m m' : Mem} {n n' i : Nat} {next : Int} (xs : List Mark) (h1 : n ≤ n') (h2 : ∀ j, j < n → m' j = m j) (h3 : n ≤ i) (h4 : i < n') (h5 : m' i = some (.arr 67 (xs.map Mark.v))) (h6 : xs.length ≤ L)
    (h7 : r.ok = true → xs = r.ms ∧ ∃ q : Nat, next = q ∧ Tx.drop q = r.rest ∧ q ≤ Tx.length) (h8 : r.ok = false → next = -1) : SPost Tx L m n r (.tup [.loc i, .v (.int .i64 next)]) m' n' := ⟨h1, h2, i, xs, next, rfl, h3, h4, h5, h6, h7, h8⟩
theorem sPart_letter (f : Nat) (c : UInt8) (s : List UInt8) (h1 : 97 ≤ c.toNat) (h2 : c.toNat ≤ 100) : rPart atomS (f + 1) (c :: s) = ⟨[⟨0, (c.toNat : Int) - 97⟩], s, true⟩ := rPart_one _ _ _ _ _ (if_pos ⟨h1, h2⟩)
theorem sPart_digit (f : Nat) (c : UInt8) (s : List UInt8) (h0 : ¬ (97 ≤ c.toNat ∧ c.toNat ≤ 100)) (h1 : 48 ≤ c.toNat) (h2 : c.toNat ≤ 53) : rPart atomS (f + 1) (c :: s) = ⟨[⟨1, (c.toNat : Int) - 48⟩], s, true⟩ := rPart_one _ _ _ _ _ (by unfold atomS; rw [if_neg h0, if_pos ⟨h1, h2⟩])
theorem atomS_none {c : UInt8} (h0 : ¬ (97 ≤ c.toNat ∧ c.toNat ≤ 100)) (h1 : ¬ (48 ≤ c.toNat ∧ c.toNat ≤ 53)) : atomS c = none := by unfold atomS; rw [if_neg h0, if_neg h1]
end TL

/- The texts of terms and claims: what the program writes. -/
set_option linter.unusedSimpArgs false
set_option linter.unusedVariables false
set_option maxRecDepth 100000
set_option maxHeartbeats 4000000
set_option pp.maxSteps 1500
namespace TL
open Go Go.Proofs
attribute [local simp] marksV storyV codeV Claim.v Place.v
theorem Tm.kind_le : ∀ T : Tm, T.ok → T.kind ≤ 5
  | .tells _, _ => by simp [kind]
  | .count _, _ => by simp [kind]
  | .not _, _ => by simp [kind]
  | .bin k a b, h => by have := h.1; simp [kind]; omega
end TL

/- The texts of terms: what the reference writes. -/
set_option linter.unusedSimpArgs false
set_option linter.unusedVariables false
set_option maxRecDepth 100000
set_option maxHeartbeats 4000000
set_option pp.maxSteps 1500
namespace TL
open Go Go.Proofs
attribute [local simp] marksV storyV codeV Claim.v Place.v
end TL

/- Claims, stories, places: what is one. -/
set_option linter.unusedSimpArgs false
set_option linter.unusedVariables false
set_option maxRecDepth 100000
set_option maxHeartbeats 4000000
set_option pp.maxSteps 1500
namespace TL
open Go Go.Proofs
attribute [local simp] marksV storyV codeV Claim.v Place.v
theorem peopleOk_at (p : Int) : FnZ Try.prog 38 [.int .i64 p] (.bool (peopleOk p)) := peopleOk_fn p
def claimOk (people : Int) (c : Claim) : Bool := peopleOk people && decide (0 ≤ c.who) && decide (c.who < people) && termOk people c.says && decide (c.says.length ≤ 13)
def storyOk (people : Int) (story : List Claim) : Bool := story.all (claimOk people) && peopleOk people && decide (story.length ≤ 6)
def placeOk (p : Place) : Bool := storyOk p.people p.story
/-- Rows that fit into a machine. -/
def Claim.fine (c : Claim) : Prop := fits c.says ∧ c.says.length < 1000000000000
def Place.fine (p : Place) : Prop := p.story.length < 1000000000000 ∧ ∀ c ∈ p.story, c.fine
theorem claimOk_fn (people : Int) (c : Claim) : FnZ Try.prog 37 [.int .i64 people, c.v] (.bool (claimOk people c)) := by
  refine FnZ_of (rs := [.tmp 4]) false Try.func37 rfl rfl rfl rfl (Nat.le_of_ble_eq_true rfl) ?_
  have hk := ft (peopleOk people)
  rcases hk with hk | hk
  · simp -dsimp
    refine call_ (peopleOk_at people) (by simp -dsimp) ?_
    simp -dsimp [hk, claimOk]
  · by_cases h1 : 0 ≤ c.who
    case neg =>
      simp -dsimp
      refine call_ (peopleOk_at people) (by simp -dsimp) ?_
      simp -dsimp [hk, claimOk, h1]
    by_cases h2 : c.who < people
    case neg =>
      simp -dsimp
      refine call_ (peopleOk_at people) (by simp -dsimp) ?_
      simp -dsimp [hk, claimOk, h1, h2]
    simp -dsimp
    refine call_ (peopleOk_at people) (by simp -dsimp) ?_
    simp -dsimp [hk, h1, h2]
    refine call_ (termOk_fn people c.says) (by simp -dsimp) ?_
    have ht := ft (termOk people c.says)
    rcases ht with ht | ht
    · simp -dsimp [hk, claimOk, h1, h2, ht]
    · simp -dsimp [hk, claimOk, h1, h2, ht]
      omega
theorem claimOk_eq (people : Int) (c : Claim) : claimOk people c = (decide (0 ≤ c.who) && decide (c.who < people) && termOk people c.says && decide (c.says.length ≤ 13)) := by
  unfold claimOk termOk
  cases peopleOk people <;> simp
theorem claimOkS_fn (people : Int) (c : Claim) (hc : c.fine) : FnZ Try.prog 34 [.int .i64 people, c.v] (.bool (claimOk people c)) := by
  rw [claimOk_eq]
  refine FnZ_of (rs := [.tmp 4]) false Try.func34 rfl rfl rfl rfl (Nat.le_of_ble_eq_true rfl) ?_
  by_cases h1 : 0 ≤ c.who
  case neg => simp -dsimp [h1]
  by_cases h2 : c.who < people
  case neg => simp -dsimp [h1, h2]
  simp -dsimp [h1, h2]
  refine call_ (termOkS_fn people c.says hc.1 hc.2) (by simp -dsimp) ?_
  have ht := ft (termOk people c.says)
  rcases ht with ht | ht
  · simp -dsimp [h1, h2, ht]
  · simp -dsimp [h1, h2, ht]
    omega
def SOI (people : Int) (l : List Claim) (a b c : Nat) (e : Nat) (s : S) : Prop := ∃ i : Nat, s.tm 0 = .v (.int .i64 people) ∧ s.tm a = .v (.sl (l.map Claim.v)) ∧ (c = 0 ∨ s.tm c = .v (.int .i64 l.length)) ∧ s.tm 1 = .v (.sl (l.map Claim.v)) ∧ s.tm b = .v (.int .i64 i) ∧ i ≤ l.length ∧ (l.take i).all (claimOk people) = true ∧ (e = 1 → i = l.length)
theorem all_take_succ {α : Type} {l : List α} {f : α → Bool} {i : Nat} (h : i < l.length) : (l.take (i + 1)).all f = ((l.take i).all f && f l[i]) := by
  rw [List.take_succ_eq_append_getElem h]; simp only [List.all_append, List.all_cons, List.all_nil, Bool.and_true]
theorem all_bad {α : Type} {l : List α} {f : α → Bool} {i : Nat} (h : i < l.length) (hf : f l[i] = false) : l.all f = false := by
  rw [List.all_eq_false]; exact ⟨l[i], List.getElem_mem _, by simp [hf]⟩
theorem storyOk_fn (people : Int) (l : List Claim) (hl : l.length < 1000000000000) : FnZ Try.prog 28 [.int .i64 people, storyV l] (.bool (storyOk people l)) := by
  refine FnZ_of (rs := [.tmp 4]) false Try.func28 rfl rfl rfl rfl (Nat.le_of_ble_eq_true rfl) ?_
  simp -dsimp
  refine twp_loopC (SOI people l 7 9 8 0) (fun s => l.length - natOf (s.tm 9)) (SOI people l 7 9 8 1) ?_ ?_ ?_
  · exact ⟨0, by simp -dsimp, by simp -dsimp, .inr (by simp -dsimp), by simp -dsimp, by simp -dsimp, by simp, by simp, by simp⟩
  · rintro s ⟨i, h0, h7, h8, h1, h9, hi, hall, hend⟩
    have h8 := h8.resolve_left (by decide)
    by_cases hlt : i < l.length
    case neg =>
      simp -dsimp [h9, h8, hlt]
      exact ⟨i, by simp -dsimp [h0], by simp -dsimp [h7], .inr (by simp -dsimp [h8]), by simp -dsimp [h1], by simp -dsimp [h9], hi, hall, fun _ => by omega⟩
    have hget : (l.map Claim.v)[i]? = some l[i].v := by simp [hlt]
    have hcl : l[i].v = .agg [.int .i64 l[i].who, .sl (l[i].says.map Mark.v)] := rfl
    have hall' := all_take_succ (f := claimOk people) hlt
    have wi : IntKind.wrap .i64 ((i : Int) + 1) = ((i + 1 : Nat) : Int) := by rw [w64 (by omega) (by omega)]; omega
    have hmu : l.length - (i + 1) < l.length - i := by omega
    have hbad := all_bad (f := claimOk people) hlt
    simp -dsimp [h9, h8, h7, h0, hlt, hget]
    refine call_ (claimOk_fn people l[i]) (by simp -dsimp) ?_
    have hc := ft (claimOk people l[i])
    rcases hc with hc | hc
    · simp -dsimp [hc, storyOk, hbad hc]
    · simp -dsimp [hc, h9, wi, hmu]
      exact ⟨i + 1, by simp -dsimp [h0], by simp -dsimp [h7], .inr (by simp -dsimp [h8]), by simp -dsimp [h1], by simp -dsimp, by omega, by rw [hall', hall, hc]; rfl, by simp⟩
  · rintro s ⟨i, h0, h7, h8, h1, h9, hi, hall, hend⟩
    have := hend rfl
    subst this
    rw [List.take_length] at hall
    simp -dsimp [h0]
    refine call_ (peopleOk_at people) (by simp -dsimp) ?_
    have hk := ft (peopleOk people)
    rcases hk with hk | hk
    · simp -dsimp [storyOk, hk]
    · simp -dsimp [h1, storyOk, hk, hall]
      omega
theorem storyOkS_fn (people : Int) (l : List Claim) (hl : l.length < 1000000000000) (hf : ∀ c ∈ l, c.fine) : FnZ Try.prog 26 [.int .i64 people, storyV l] (.bool (storyOk people l)) := by
  refine FnZ_of (rs := [.tmp 4]) false Try.func26 rfl rfl rfl rfl (Nat.le_of_ble_eq_true rfl) ?_
  simp -dsimp
  refine twp_loopC (SOI people l 1 5 0 0) (fun s => l.length - natOf (s.tm 5)) (SOI people l 1 5 0 1) ?_ ?_ ?_
  · exact ⟨0, by simp -dsimp, by simp -dsimp, .inl rfl, by simp -dsimp, by simp -dsimp, by simp, by simp, by simp⟩
  · rintro s ⟨i, h0, h7, _, h1, h9, hi, hall, hend⟩
    by_cases hlt : i < l.length
    case neg =>
      simp -dsimp [h9, h1, hlt]
      exact ⟨i, by simp -dsimp [h0], by simp -dsimp [h7], .inl rfl, by simp -dsimp [h1], by simp -dsimp [h9], hi, hall, fun _ => by omega⟩
    have hget : (l.map Claim.v)[i]? = some l[i].v := by simp [hlt]
    have hcl : l[i].v = .agg [.int .i64 l[i].who, .sl (l[i].says.map Mark.v)] := rfl
    have hall' := all_take_succ (f := claimOk people) hlt
    have wi : IntKind.wrap .i64 ((i : Int) + 1) = ((i + 1 : Nat) : Int) := by rw [w64 (by omega) (by omega)]; omega
    have hmu : l.length - (i + 1) < l.length - i := by omega
    have hbad := all_bad (f := claimOk people) hlt
    simp -dsimp [h9, h1, h0, hlt, hget]
    refine call_ (claimOkS_fn people l[i] (hf _ (List.getElem_mem _))) (by simp -dsimp) ?_
    have hc := ft (claimOk people l[i])
    rcases hc with hc | hc
    · simp -dsimp [hc, storyOk, hbad hc]
    · simp -dsimp [hc, h9, wi, hmu]
      exact ⟨i + 1, by simp -dsimp [h0], by simp -dsimp [h7], .inl rfl, by simp -dsimp [h1], by simp -dsimp, by omega, by rw [hall', hall, hc]; rfl, by simp⟩
  · rintro s ⟨i, h0, h7, h8, h1, h9, hi, hall, hend⟩
    have := hend rfl
    subst this
    rw [List.take_length] at hall
    simp -dsimp [h0]
    refine call_ (l1In_fn people 1 4) (by simp -dsimp) ?_
    have hpk : inR people 1 4 = peopleOk people := rfl
    have hk := ft (peopleOk people)
    rcases hk with hk | hk
    · simp -dsimp [storyOk, hk, hpk]
    · simp -dsimp [h1, storyOk, hk, hall, hpk]
      omega
theorem placeOk_fn (p : Place) (hl : p.story.length < 1000000000000) : FnZ Try.prog 17 [p.v] (.bool (placeOk p)) := by
  refine FnZ_of (rs := [.tmp 2]) false Try.func17 rfl rfl rfl rfl (Nat.le_of_ble_eq_true rfl) ?_
  simp -dsimp
  refine call_ (storyOk_fn p.people p.story hl) (by simp -dsimp) ?_
  simp -dsimp [placeOk]
theorem placeOkS_fn (p : Place) (hp : p.fine) : FnZ Try.prog 14 [p.v] (.bool (placeOk p)) := by
  refine FnZ_of (rs := [.tmp 2]) false Try.func14 rfl rfl rfl rfl (Nat.le_of_ble_eq_true rfl) ?_
  simp -dsimp
  refine call_ (storyOkS_fn p.people p.story hp.1 hp.2) (by simp -dsimp) ?_
  simp -dsimp [placeOk]
end TL

/- The texts of claims. -/
set_option linter.unusedSimpArgs false
set_option linter.unusedVariables false
set_option maxRecDepth 100000
set_option maxHeartbeats 4000000
set_option pp.maxSteps 1500
namespace TL
open Go Go.Proofs
attribute [local simp] marksV storyV codeV Claim.v Place.v
theorem claimOk_who {people : Int} {c : Claim} (h : claimOk people c = true) : 0 ≤ c.who ∧ c.who < 4 ∧ termOk people c.says = true ∧ c.says.length ≤ 13 := by
  simp only [claimOk, peopleOk, Bool.and_eq_true, decide_eq_true_eq] at h
  exact ⟨by omega, by omega, h.1.2, h.2⟩
/-- The text of a claim whose term is a tree. -/
def claimText (c : Claim) (T : Tm) : List UInt8 := UInt8.ofNat (97 + c.who.toNat) :: 58 :: T.text
end TL

/- Claims, their texts, and what is read: the plain part. -/
set_option linter.unusedSimpArgs false
set_option linter.unusedVariables false
set_option maxRecDepth 100000
namespace TL
def Tm.bins : Tm → Nat
  | .tells _ => 0
  | .count _ => 0
  | .not a => a.bins
  | .bin _ a b => a.bins + b.bins + 1
theorem Tm.bins_le : ∀ T : Tm, 2 * T.bins + 1 ≤ T.marks.length
  | .tells _ => by simp [bins, marks]
  | .count _ => by simp [bins, marks]
  | .not a => by have := a.bins_le; simp [bins, marks]; omega
  | .bin k a b => by have := a.bins_le; have := b.bins_le; simp [bins, marks]; omega
theorem par_len2 (q : Bool) (T : Tm) (hq : q = true → 3 ≤ T.kind) (h : T.text.length + (if 3 ≤ T.kind then 2 else 0) ≤ T.marks.length + 2 * T.bins) : (par q T.text).length ≤ T.marks.length + 2 * T.bins := by
  cases q with
  | false => simp only [par, Bool.false_eq_true, if_false]; omega
  | true =>
    have := hq rfl
    rw [if_pos this] at h
    simp [par]; omega
theorem Tm.text_len2 : ∀ T : Tm, T.text.length + (if 3 ≤ T.kind then 2 else 0) ≤ T.marks.length + 2 * T.bins
  | .tells _ => by simp [text, marks, kind, bins]
  | .count _ => by simp [text, marks, kind, bins]
  | .not a => by
    have := par_len2 (decide (3 ≤ a.kind)) a (by simp) a.text_len2
    rw [if_neg (by simp [kind])]
    simp only [text, marks, bins, List.length_append, List.length_cons, List.length_nil]; omega
  | .bin k a b => by
    have h1 := par_len2 (decide (3 + k < a.kind)) a (by simp; omega) a.text_len2
    have h2 := par_len2 (decide (3 + k ≤ b.kind)) b (by simp; omega) b.text_len2
    rw [if_pos (by simp [kind])]
    simp only [text, marks, bins, List.length_append, List.length_cons, List.length_nil]; omega
theorem Tm.text_short (T : Tm) : T.text.length + 1 ≤ 2 * T.marks.length := by
  have := T.text_len2; have := T.bins_le
  have h : T.text.length ≤ T.marks.length + 2 * T.bins := by omega
  omega
theorem termText_len {people : Int} {t : List Mark} (h : termOk people t = true) : (termText people t).length + 1 ≤ 2 * t.length := by
  obtain ⟨T, _, h2, h3⟩ := termText_tree h
  rw [← h3, ← h2]; exact T.text_short
theorem termOk_len {people : Int} {t : List Mark} (h : termOk people t = true) : 1 ≤ t.length ∧ t.length ≤ 15 ∧ 1 ≤ people ∧ people ≤ 4 := by
  simp only [termOk, peopleOk, Bool.and_eq_true, decide_eq_true_eq] at h
  omega
/-- No blank, no newline, no comma, no dot, no colon. -/
def plain (c : UInt8) : Prop := c ≠ 32 ∧ c ≠ 10 ∧ c ≠ 44 ∧ c ≠ 46 ∧ c ≠ 58
theorem par_plain {q : Bool} {s : List UInt8} (h : ∀ c ∈ s, plain c) : ∀ c ∈ par q s, plain c := by
  cases q with
  | false => exact h
  | true =>
    intro c hc
    simp only [par, if_true, List.mem_cons, List.mem_append, List.mem_nil_iff, or_false] at hc
    rcases hc with rfl | hc | rfl
    · exact ⟨by decide, by decide, by decide, by decide, by decide⟩
    · exact h c hc
    · exact ⟨by decide, by decide, by decide, by decide, by decide⟩
theorem Tm.text_plain : ∀ T : Tm, T.ok → ∀ c ∈ T.text, plain c
  | .tells i, h, c, hc => by
    have hi : i < 4 := h
    cases List.mem_singleton.1 hc
    rcases (by omega : i = 0 ∨ i = 1 ∨ i = 2 ∨ i = 3) with rfl | rfl | rfl | rfl <;> exact ⟨by decide, by decide, by decide, by decide, by decide⟩
  | .count i, h, c, hc => by
    have hi : i < 6 := h
    cases List.mem_singleton.1 hc
    rcases (by omega : i = 0 ∨ i = 1 ∨ i = 2 ∨ i = 3 ∨ i = 4 ∨ i = 5) with rfl | rfl | rfl | rfl | rfl | rfl <;> exact ⟨by decide, by decide, by decide, by decide, by decide⟩
  | .not a, h, c, hc => by
    rcases List.mem_cons.1 hc with rfl | hc
    · exact ⟨by decide, by decide, by decide, by decide, by decide⟩
    · exact par_plain (a.text_plain h) c hc
  | .bin k a b, h, c, hc => by
    rcases List.mem_append.1 hc with hc | hc
    · exact par_plain (a.text_plain h.2.1) c hc
    rcases List.mem_cons.1 hc with rfl | hc
    · have hk := h.1
      rcases (by omega : k = 0 ∨ k = 1 ∨ k = 2) with rfl | rfl | rfl <;> exact ⟨by decide, by decide, by decide, by decide, by decide⟩
    · exact par_plain (b.text_plain h.2.2) c hc
theorem termText_plain {people : Int} {t : List Mark} (h : termOk people t = true) : ∀ c ∈ termText people t, plain c := by
  obtain ⟨T, h1, _, h3⟩ := termText_tree h
  rw [← h3]; exact T.text_plain h1
/-- The text of a claim. -/
noncomputable def claimTx (people : Int) (c : Claim) : List UInt8 := if claimOk people c = true then UInt8.ofNat (97 + c.who.toNat) :: 58 :: termText people c.says else []
theorem claimOk_all {people : Int} {c : Claim} (h : claimOk people c = true) : 1 ≤ people ∧ people ≤ 4 ∧ 0 ≤ c.who ∧ c.who < people ∧ termOk people c.says = true ∧ c.says.length ≤ 13 := by
  simp only [claimOk, peopleOk, Bool.and_eq_true, decide_eq_true_eq] at h
  exact ⟨by omega, by omega, by omega, by omega, h.1.2, h.2⟩
theorem claimOk_mk {people : Int} {c : Claim} (h0 : 0 ≤ c.who) (h1 : c.who < people) (h2 : termOk people c.says = true) (h3 : c.says.length ≤ 13) : claimOk people c = true := by
  have := termOk_len h2
  simp only [claimOk, peopleOk, Bool.and_eq_true, decide_eq_true_eq]
  exact ⟨⟨⟨⟨⟨by omega, by omega⟩, h0⟩, h1⟩, h2⟩, h3⟩
theorem letter_back {w : Int} (h0 : 0 ≤ w) (h4 : w < 4) : ((UInt8.ofNat (97 + w.toNat)).toNat : Int) - 97 = w := by
  rw [UInt8.toNat_ofNat']; omega
theorem letter_fwd (a : UInt8) (w : Int) (h : w = (a.toNat : Int) - 97) (h0 : 0 ≤ w) : UInt8.ofNat (97 + w.toNat) = a := by
  have := UInt8.toNat_lt a
  apply UInt8.toNat.inj
  rw [UInt8.toNat_ofNat']; omega
theorem claimTx_len {people : Int} {c : Claim} (h : claimOk people c = true) : 3 ≤ (claimTx people c).length ∧ (claimTx people c).length ≤ 27 ∧ (termText people c.says).length ≤ 25 ∧ 1 ≤ (termText people c.says).length := by
  obtain ⟨h1, h2, h3, h4, h5, h6⟩ := claimOk_all h
  have := termText_len h5
  have hp := List.length_pos_iff.2 (termText_pos h5)
  unfold claimTx; rw [if_pos h]; simp; omega
/-- What ReadClaim finds. -/
noncomputable def readC (people : Int) (s : List UInt8) : Option Claim := match s with
  | a :: b :: rest => if b = 58 then (readT people rest).bind fun t => if claimOk people ⟨(a.toNat : Int) - 97, t⟩ = true then some ⟨(a.toNat : Int) - 97, t⟩ else none else none
  | _ => none
theorem readC_text {people : Int} {c : Claim} (h : claimOk people c = true) : readC people (claimTx people c) = some c := by
  obtain ⟨h1, h2, h3, h4, h5, h6⟩ := claimOk_all h
  have hl := (claimTx_len h).2.2.1
  unfold claimTx; rw [if_pos h]
  unfold readC
  simp only [if_true]
  rw [readT_some (by omega) h5 rfl]
  simp only [Option.bind_some]
  rw [letter_back h3 (by omega)]
  exact if_pos h
theorem readC_is {people : Int} {s : List UInt8} {c : Claim} (h : readC people s = some c) : claimOk people c = true ∧ claimTx people c = s := by
  unfold readC at h
  split at h
  · rename_i a b rest
    split at h
    · rename_i hb
      cases e : readT people rest with
      | none => rw [e] at h; cases h
      | some t =>
        rw [e, Option.bind_some] at h
        split at h
        · rename_i hk
          cases h
          obtain ⟨_, h2, h3⟩ := readT_is e
          refine ⟨hk, ?_⟩
          obtain ⟨_, _, g3, _, _, _⟩ := claimOk_all hk
          unfold claimTx
          rw [if_pos hk, letter_fwd a _ rfl g3, hb, h3]
        · cases h
    · cases h
  · cases h
theorem readC_iff {people : Int} {s : List UInt8} {c : Claim} : readC people s = some c ↔ claimOk people c = true ∧ claimTx people c = s :=
  ⟨readC_is, fun h => by rw [← h.2]; exact readC_text h.1⟩
/-- With a further sign behind it, that no term has. -/
theorem readC_more {people : Int} {s : List UInt8} {c : Claim} {x : UInt8} (h : readC people s = some c) (hx : ¬ plain x) : readC people (s ++ [x]) = none := by
  cases e : readC people (s ++ [x]) with
  | none => rfl
  | some d =>
    obtain ⟨h1, h2⟩ := readC_is h
    obtain ⟨g1, g2⟩ := readC_is e
    obtain ⟨_, _, _, _, h5, _⟩ := claimOk_all h1
    obtain ⟨_, _, _, _, g5, _⟩ := claimOk_all g1
    exfalso
    have hp := (claimTx_len h1).2.2.2
    unfold claimTx at h2 g2
    rw [if_pos h1] at h2
    rw [if_pos g1, ← h2] at g2
    have e2 : termText people d.says = termText people c.says ++ [x] := by
      have := congrArg (List.drop 2) g2
      simpa using this
    exact hx (termText_plain g5 x (by rw [e2]; simp))
end TL

/- TL, part 22: rows that are made at once and filled one by one. -/
set_option linter.unusedVariables false
set_option linter.unusedSimpArgs false
namespace TL
open Go
theorem flat_len {k : Nat} : ∀ {bl : List (List T)}, (∀ x ∈ bl, x.length = k) → bl.flatten.length = bl.length * k
  | [], _ => by simp
  | b :: bl, h => by
    have h1 := h b (List.mem_cons_self ..)
    have h2 := flat_len (bl := bl) fun x hx => h x (List.mem_cons_of_mem _ hx)
    rw [List.flatten_cons, List.length_append, h1, h2, List.length_cons, Nat.succ_mul]; omega
theorem setAt_append (a b : List T) : ∀ (xs : List T) (off : Nat), a.length = off → xs.length ≤ b.length → setAt (a ++ b) off xs = a ++ xs ++ b.drop xs.length
  | [], off, h, _ => by simp [setAt]
  | x :: xs, off, h, hl => by
    cases b with
    | nil => simp at hl
    | cons y ys =>
      unfold setAt
      rw [List.set_append_right _ _ (by omega), show off - a.length = 0 by omega, List.set_cons_zero]
      have := setAt_append (a ++ [x]) ys xs (off + 1) (by simp; omega) (by simpa using hl)
      rw [show a ++ x :: ys = a ++ [x] ++ ys by simp, this]; simp
theorem setAt_flat {k : Nat} {bl : List (List T)} {i : Nat} {b : List T} (h : ∀ x ∈ bl, x.length = k) (hb : b.length = k) (hi : i < bl.length) : setAt bl.flatten (i * k) b = (bl.set i b).flatten := by
  have e1 : bl = bl.take i ++ bl[i] :: bl.drop (i + 1) := by rw [← List.drop_eq_getElem_cons hi, List.take_append_drop]
  have l1 : (bl.take i).flatten.length = i * k := by rw [flat_len (k := k) fun x hx => h x (List.mem_of_mem_take hx), List.length_take]; congr 1; omega
  have l2 : bl[i].length = k := h _ (List.getElem_mem _)
  have e2 : bl.flatten = (bl.take i).flatten ++ (bl[i] ++ (bl.drop (i + 1)).flatten) := by
    have e4 : bl.flatten = (bl.take i ++ bl[i] :: bl.drop (i + 1)).flatten := by rw [← e1]
    rw [e4, List.flatten_append, List.flatten_cons]
  have e3 : bl.set i b = bl.take i ++ b :: bl.drop (i + 1) := by rw [List.set_eq_take_append_cons_drop, if_pos hi]
  rw [e2, setAt_append _ _ b _ l1 (by simp; omega), e3, hb]
  rw [List.drop_append_of_le_length (by omega), List.drop_eq_nil_of_le (by omega)]
  simp
/-- The cells of an element. -/
def cellsT (x : V) : List T := x.cells.map .v
/-- A row of which the first i are filled. -/
def filled {α : Type} (v : α → V) (zs : List T) (l : List α) (i : Nat) : List (List T) := (l.take i).map (fun a => cellsT (v a)) ++ List.replicate (l.length - i) zs
/-- Elements of k cells. -/
def ElemOk {α : Type} (v : α → V) (k : Nat) : Prop := ∀ a, (v a).cells.length = k ∧ (∀ c ∈ (v a).cells, c.cell = true) ∧ (if k = 1 then (v a).cells = [v a] else v a = .agg (v a).cells)
theorem filled_len {α : Type} {v : α → V} {zs : List T} {l : List α} {i : Nat} (hi : i ≤ l.length) : (filled v zs l i).length = l.length := by
  simp [filled]; omega
theorem filled_all {α : Type} {v : α → V} {zs : List T} {l : List α} {i k : Nat} (hv : ElemOk v k) (hz : zs.length = k) : ∀ x ∈ filled v zs l i, x.length = k := by
  intro x hx
  rcases List.mem_append.1 hx with hx | hx
  · obtain ⟨a, _, rfl⟩ := List.mem_map.1 hx
    simp [cellsT, (hv a).1]
  · rw [(List.mem_replicate.1 hx).2, hz]
theorem filled_zero {α : Type} (v : α → V) (zs : List T) (l : List α) : (filled v zs l 0).flatten = (List.replicate l.length zs).flatten := by simp [filled]
theorem filled_flat_len {α : Type} {v : α → V} {zs : List T} {l : List α} {i k : Nat} (hv : ElemOk v k) (hz : zs.length = k) (hi : i ≤ l.length) : (filled v zs l i).flatten.length = l.length * k := by
  rw [flat_len (filled_all hv hz), filled_len hi]
theorem filled_set {α : Type} {v : α → V} {zs : List T} {l : List α} {i k : Nat} (hv : ElemOk v k) (hz : zs.length = k) (hi : i < l.length) : setAt (filled v zs l i).flatten (i * k) (cellsT (v l[i])) = (filled v zs l (i + 1)).flatten := by
  rw [setAt_flat (filled_all hv hz) (by simp [cellsT, (hv _).1]) (by rw [filled_len (by omega)]; exact hi)]
  congr 1
  unfold filled
  rw [List.set_append_right _ _ (by simp; omega), List.take_succ_eq_append_getElem hi]
  rw [show l.length - i = (l.length - (i + 1)) + 1 by omega, List.replicate_succ]
  simp only [List.length_map, List.length_take, Nat.min_eq_left (Nat.le_of_lt hi), Nat.sub_self, List.set_cons_zero, List.map_append, List.map_cons, List.map_nil, List.append_assoc, List.cons_append, List.nil_append]
theorem filled_end {α : Type} (v : α → V) (zs : List T) (l : List α) : filled v zs l l.length = l.map fun a => cellsT (v a) := by simp [filled]
theorem mapO_cells {k : Bool} {m : Mem} {d : Nat} : ∀ (xs : List V), mapO (bor k m d) (xs.map .v) = some xs
  | [] => rfl
  | x :: xs => by simp [mapO, mapO_cells xs]
theorem cells_flat {α : Type} (v : α → V) : ∀ l : List α, (l.map fun a => cellsT (v a)).flatten = (l.flatMap fun a => (v a).cells).map T.v
  | [] => rfl
  | x :: xs => by simp only [List.map_cons, List.flatten_cons, cells_flat v xs, List.flatMap_cons, List.map_append]; rfl
theorem chunk_elems {α : Type} {v : α → V} {k : Nat} (hv : ElemOk v k) : ∀ l : List α, chunk k l.length (l.flatMap fun a => (v a).cells) = l.map v
  | [] => rfl
  | a :: l => by
    obtain ⟨h1, h2, h3⟩ := hv a
    simp only [List.length_cons, chunk, List.flatMap_cons, List.map_cons]
    rw [List.drop_append_of_le_length (by omega), List.drop_eq_nil_of_le (by omega), List.nil_append, chunk_elems hv l]
    congr 1
    by_cases hk : k = 1
    · rw [if_pos hk] at h3 ⊢; rw [h3]; rfl
    · rw [if_neg hk] at h3 ⊢
      rw [List.take_append_of_le_length (by omega), List.take_of_length_le (by omega), ← h3]
theorem bor_filled {α : Type} {v : α → V} {k : Nat} (hv : ElemOk v k) {m : Mem} {id e : Nat} {zs : List T} {l : List α} (d : Nat) (hm : m id = some (.box e k (filled v zs l l.length).flatten)) : bor true m (d + 1) (.sv id 0 l.length) = some (.sl (l.map v)) := by
  have hlen : (l.flatMap fun a => (v a).cells).length = l.length * k := by
    induction l with
    | nil => simp
    | cons a l ih => simp only [List.flatMap_cons, List.length_append, (hv a).1, List.length_cons, Nat.succ_mul]; rw [show (l.flatMap fun a => (v a).cells).length = l.length * k from ?_]; · omega
                     clear ih hm
                     induction l with
                     | nil => simp
                     | cons b l ih => simp only [List.flatMap_cons, List.length_append, (hv b).1, List.length_cons, Nat.succ_mul, ih]; omega
  unfold bor
  rw [hm]
  simp only [if_true, filled_end, cells_flat, List.length_map, hlen, Nat.zero_add, Nat.le_refl, tst_true, List.drop_zero]
  rw [List.take_of_length_le (by simp [hlen]), mapO_cells]
  simp only [obind_some]
  rw [tst_pos, chunk_elems hv]
  intro x hx
  obtain ⟨a, _, ha⟩ := List.mem_flatMap.1 hx
  exact (hv a).2.1 x ha
end TL

/- The functions by which the exact laws measure, turn and compare their arguments. -/
set_option linter.unusedSimpArgs false
set_option linter.unusedVariables false
set_option maxRecDepth 100000
set_option maxHeartbeats 4000000
set_option pp.maxSteps 1500
namespace TL
open Go Go.Proofs
attribute [local simp] marksV storyV codeV Claim.v Place.v
theorem elemOk_mark : ElemOk Mark.v 2 := fun a => ⟨rfl, by simp [Mark.v], by simp [Mark.v]⟩
theorem elemOk_claim : ElemOk Claim.v 2 := fun a => ⟨rfl, by simp, by simp⟩
theorem elemOk_place : ElemOk Place.v 2 := fun a => ⟨rfl, by simp, by simp⟩
theorem cellsT_mark (m : Mark) : cellsT m.v = [.v (.int .i64 m.kind), .v (.int .i64 m.num)] := rfl
theorem cellsT_claim (c : Claim) : cellsT c.v = [.v (.int .i64 c.who), .v (.sl (c.says.map Mark.v))] := rfl
theorem cellsT_place (p : Place) : cellsT p.v = [.v (.int .i64 p.people), .v (.sl (p.story.map Claim.v))] := rfl
/-- What is left of a measure. -/
def szR (left : Int) (n : Nat) : Int := if left - n < 0 then -1 else left - n
def Claim.small (c : Claim) : Prop := c.says.length ≤ 1048576
def Place.small (p : Place) : Prop := p.story.length ≤ 1048576 ∧ ∀ c ∈ p.story, c.small
theorem take_eq_succ {α : Type} {a b : List α} {i : Nat} (ha : i < a.length) (hb : i < b.length) (h : a.take i = b.take i) (he : a[i] = b[i]) : a.take (i + 1) = b.take (i + 1) := by
  rw [List.take_succ_eq_append_getElem ha, List.take_succ_eq_append_getElem hb, h, he]
theorem toMark_fn (a : Mark) : FnZ Try.prog 43 [a.v] a.v := by
    refine FnZ_of (rs := [.cell 2 67]) false Try.func43 rfl rfl rfl rfl (Nat.le_of_ble_eq_true rfl) ?_
    simp -dsimp [Mark.v]
def ItoMarkS (l : List Mark) (a : Nat) (s : S) : Prop := ∃ i : Nat, s.tm 0 = .v (.sl (l.map Mark.v)) ∧ s.tm 3 = .sv 0 0 l.length ∧ s.tm 4 = .v (.int .i64 i) ∧ i ≤ l.length ∧ s.m 0 = some (.box 67 2 (filled Mark.v [T.v (.int .i64 0), T.v (.int .i64 0)] l i).flatten) ∧ (a = 1 → i = l.length)
theorem toMarkS_fn (l : List Mark) (hl : l.length ≤ 1048576) : FnZ Try.prog 36 [.sl (l.map Mark.v)] (.sl (l.map Mark.v)) := by
  have b1 : (16 : Int) * l.length ≤ 281474976710656 := by omega
  have b2 : (l.length : Int) ≤ 9223372036854775807 := by omega
  have b3 : (0 : Int) ≤ l.length := by omega
  refine FnZ_of (rs := [.tmp 2]) false Try.func36 rfl rfl rfl rfl (Nat.le_of_ble_eq_true rfl) ?_
  simp -dsimp [b1, b2, b3]
  refine twp_loopC (ItoMarkS l 0) (fun s => l.length - natOf (s.tm 4)) (ItoMarkS l 1) ?_ ?_ ?_
  · exact ⟨0, by simp -dsimp, by simp -dsimp, by simp -dsimp, by omega, by rw [filled_zero]; simp -dsimp, by simp⟩
  · rintro s ⟨i, h0, h3, h4, hi, hm, hend⟩
    by_cases hlt : i < l.length
    case neg =>
      simp -dsimp [h0, h4, hlt]
      exact ⟨i, by simp -dsimp [h0], by simp -dsimp [h3], by simp -dsimp [h4], hi, by simp -dsimp [hm], fun _ => by omega⟩
    have hget : (l.map Mark.v)[i]? = some (l[i].v) := by simp [hlt]
    have wi : IntKind.wrap .i64 ((i : Int) + 1) = ((i + 1 : Nat) : Int) := by rw [w64 (by omega) (by omega)]; omega
    have hmu : l.length - (i + 1) < l.length - i := by omega
    have hfl : (filled Mark.v [T.v (.int .i64 0), T.v (.int .i64 0)] l i).flatten.length = l.length * 2 := filled_flat_len (k := 2) elemOk_mark rfl hi
    have hst := filled_set (v := Mark.v) (zs := [T.v (.int .i64 0), T.v (.int .i64 0)]) (k := 2) elemOk_mark rfl hlt
    have hcv : l[i].v.cells = (l[i].v).cells := rfl
    have hoff : i * 2 + 2 ≤ l.length * 2 := by omega
    have hlt' : (i : Int) < l.length := by omega
    rw [cellsT_mark] at hst
    simp -dsimp [h0, h3, h4, hlt, hget]
    refine call_ (toMark_fn l[i]) (by simp -dsimp [Mark.v]) ?_
    simp -dsimp [Mark.v, h0, h3, h4, hlt, hlt', hm, hfl, hoff, hst, wi, hmu, filled_len]
    exact ⟨i + 1, by simp -dsimp [h0], by simp -dsimp [h3], by simp -dsimp, by omega, by simp -dsimp, by simp⟩
  · rintro s ⟨i, h0, h3, h4, hi, hm, hend⟩
    have := hend rfl
    subst this
    have hb := bor_filled (k := 2) elemOk_mark 3 hm
    simp -dsimp [h3, hb]
theorem toClaim_fn (a : Claim) (hc : a.small) : FnZ Try.prog 27 [a.v] a.v := by
    refine FnZ_of (rs := [.cell 2 55]) false Try.func27 rfl rfl rfl rfl (Nat.le_of_ble_eq_true rfl) ?_
    simp -dsimp [Mark.v]
    refine call_ (toMarkS_fn a.says hc) (by simp -dsimp) ?_
    simp -dsimp [Mark.v]
def ItoClaimS (l : List Claim) (a : Nat) (s : S) : Prop := ∃ i : Nat, s.tm 0 = .v (.sl (l.map Claim.v)) ∧ s.tm 3 = .sv 0 0 l.length ∧ s.tm 4 = .v (.int .i64 i) ∧ i ≤ l.length ∧ s.m 0 = some (.box 55 2 (filled Claim.v [T.v (.int .i64 0), T.nil] l i).flatten) ∧ (a = 1 → i = l.length)
theorem toClaimS_fn (l : List Claim) (hl : l.length ≤ 1048576) (hs : ∀ a ∈ l, a.small) : FnZ Try.prog 16 [.sl (l.map Claim.v)] (.sl (l.map Claim.v)) := by
  have b1 : (32 : Int) * l.length ≤ 281474976710656 := by omega
  have b2 : (l.length : Int) ≤ 9223372036854775807 := by omega
  have b3 : (0 : Int) ≤ l.length := by omega
  refine FnZ_of (rs := [.tmp 2]) false Try.func16 rfl rfl rfl rfl (Nat.le_of_ble_eq_true rfl) ?_
  simp -dsimp [b1, b2, b3]
  refine twp_loopC (ItoClaimS l 0) (fun s => l.length - natOf (s.tm 4)) (ItoClaimS l 1) ?_ ?_ ?_
  · exact ⟨0, by simp -dsimp, by simp -dsimp, by simp -dsimp, by omega, by rw [filled_zero]; simp -dsimp, by simp⟩
  · rintro s ⟨i, h0, h3, h4, hi, hm, hend⟩
    by_cases hlt : i < l.length
    case neg =>
      simp -dsimp [h0, h4, hlt]
      exact ⟨i, by simp -dsimp [h0], by simp -dsimp [h3], by simp -dsimp [h4], hi, by simp -dsimp [hm], fun _ => by omega⟩
    have hget : (l.map Claim.v)[i]? = some (l[i].v) := by simp [hlt]
    have wi : IntKind.wrap .i64 ((i : Int) + 1) = ((i + 1 : Nat) : Int) := by rw [w64 (by omega) (by omega)]; omega
    have hmu : l.length - (i + 1) < l.length - i := by omega
    have hfl : (filled Claim.v [T.v (.int .i64 0), T.nil] l i).flatten.length = l.length * 2 := filled_flat_len (k := 2) elemOk_claim rfl hi
    have hst := filled_set (v := Claim.v) (zs := [T.v (.int .i64 0), T.nil]) (k := 2) elemOk_claim rfl hlt
    have hcv : l[i].v.cells = (l[i].v).cells := rfl
    have hoff : i * 2 + 2 ≤ l.length * 2 := by omega
    have hlt' : (i : Int) < l.length := by omega
    rw [cellsT_claim] at hst
    simp -dsimp [h0, h3, h4, hlt, hget]
    refine call_ (toClaim_fn l[i] (hs _ (List.getElem_mem _))) (by simp -dsimp [Mark.v]) ?_
    simp -dsimp [Mark.v, h0, h3, h4, hlt, hlt', hm, hfl, hoff, hst, wi, hmu, filled_len]
    exact ⟨i + 1, by simp -dsimp [h0], by simp -dsimp [h3], by simp -dsimp, by omega, by simp -dsimp, by simp⟩
  · rintro s ⟨i, h0, h3, h4, hi, hm, hend⟩
    have := hend rfl
    subst this
    have hb := bor_filled (k := 2) elemOk_claim 3 hm
    simp -dsimp [h3, hb]
theorem toPlace_fn (a : Place) (hc : a.small) : FnZ Try.prog 6 [a.v] a.v := by
    refine FnZ_of (rs := [.cell 2 28]) false Try.func6 rfl rfl rfl rfl (Nat.le_of_ble_eq_true rfl) ?_
    simp -dsimp [Mark.v]
    refine call_ (toClaimS_fn a.story hc.1 hc.2) (by simp -dsimp) ?_
    simp -dsimp [Mark.v]
theorem eqMark_fn (a b : Mark) : FnZ Try.prog 45 [a.v, b.v] (.bool (decide (a = b))) := by
  refine FnZ_of (rs := [.tmp 4]) false Try.func45 rfl rfl rfl rfl (Nat.le_of_ble_eq_true rfl) ?_
  by_cases h0 : a.kind = b.kind
  case neg =>
    have e : decide (a = b) = false := by cases a; cases b; simp_all
    simp -dsimp [Mark.v, h0, e]
  by_cases h1 : a.num = b.num
  · have e : decide (a = b) = true := by cases a; cases b; simp_all
    simp -dsimp [Mark.v, h0, h1, e]
  · have e : decide (a = b) = false := by cases a; cases b; simp_all
    simp -dsimp [Mark.v, h0, h1, e]
def IeqMarkS (a b : List Mark) (e : Nat) (s : S) : Prop := ∃ i : Nat, s.tm 0 = .v (.sl (a.map Mark.v)) ∧ s.tm 1 = .v (.sl (b.map Mark.v)) ∧ s.tm 5 = .v (.int .i64 i) ∧ i ≤ a.length ∧ a.take i = b.take i ∧ (e = 1 → i = a.length)
theorem eqMarkS_fn (a b : List Mark) (hl : a.length ≤ 1048576) : FnZ Try.prog 40 [.sl (a.map Mark.v), .sl (b.map Mark.v)] (.bool (decide (a = b))) := by
  refine FnZ_of (rs := [.tmp 4]) false Try.func40 rfl rfl rfl rfl (Nat.le_of_ble_eq_true rfl) ?_
  by_cases hn : a.length = b.length
  case neg =>
    have e : decide (a = b) = false := by simp; rintro rfl; exact hn rfl
    have hn' : ¬ (a.length : Int) = b.length := by omega
    simp -dsimp [hn, hn', e]
  simp -dsimp [hn]
  refine twp_loopC (IeqMarkS a b 0) (fun s => a.length - natOf (s.tm 5)) (IeqMarkS a b 1) ?_ ?_ ?_
  · exact ⟨0, by simp -dsimp, by simp -dsimp, by simp -dsimp, by omega, by simp, by simp⟩
  · rintro s ⟨i, h0, h1, h5, hi, htk, hend⟩
    by_cases hlt : i < a.length
    case neg =>
      have hlt2 : ¬ i < b.length := by omega
      simp -dsimp [h0, h5, hlt, hlt2, hn]
      exact ⟨i, by simp -dsimp [h0], by simp -dsimp [h1], by simp -dsimp [h5], hi, htk, fun _ => by omega⟩
    have hlt2 : i < b.length := by omega
    have hgeta : (a.map Mark.v)[i]? = some (a[i].v) := by simp [hlt]
    have hgetb : (b.map Mark.v)[i]? = some (b[i].v) := by simp [hlt2]
    have wi : IntKind.wrap .i64 ((i : Int) + 1) = ((i + 1 : Nat) : Int) := by rw [w64 (by omega) (by omega)]; omega
    have hmu : a.length - (i + 1) < a.length - i := by omega
    simp -dsimp [h0, h5, hlt, hlt2, hn]
    refine twp_draw (List.range 10) [] (List.replicate 10 []) (List.replicate 10 []) (by kernel_rfl) (by kernel_rfl) (by kernel_rfl) (by kernel_rfl) ?_
    simp -dsimp [List.range_succ, h0, h1, h5, hlt, hlt2, hgeta, hgetb]
    refine call_ (eqMark_fn a[i] b[i]) (by simp -dsimp [Mark.v]) ?_
    have hq := ft (decide (a[i] = b[i]))
    rcases hq with hq | hq
    · have e : decide (a = b) = false := by
        simp at hq ⊢; rintro rfl; exact hq rfl
      simp -dsimp [List.range_succ, hq, e]
    · have hq' : a[i] = b[i] := by simpa using hq
      have htk2 := take_eq_succ hlt hlt2 htk hq'
      have hmu2 : b.length - (i + 1) < b.length - i := by omega
      simp -dsimp [List.range_succ, hq, h5, wi, hmu, hmu2]
      exact ⟨i + 1, by simp -dsimp [h0], by simp -dsimp [h1], by simp -dsimp, by omega, htk2, by simp⟩
  · rintro s ⟨i, h0, h1, h5, hi, htk, hend⟩
    have := hend rfl
    subst this
    rw [List.take_length, hn, List.take_length] at htk
    have e : decide (a = b) = true := by simpa using htk
    simp -dsimp [e]
theorem eqClaim_fn (a b : Claim) (ha : a.small) : FnZ Try.prog 30 [a.v, b.v] (.bool (decide (a = b))) := by
  refine FnZ_of (rs := [.tmp 4]) false Try.func30 rfl rfl rfl rfl (Nat.le_of_ble_eq_true rfl) ?_
  by_cases h0 : a.who = b.who
  case neg =>
    have e : decide (a = b) = false := by cases a; cases b; simp_all
    simp -dsimp [Mark.v, h0, e]
  simp -dsimp [h0]
  refine call_ (eqMarkS_fn a.says b.says ha) (by simp -dsimp) ?_
  have h1 := ft (decide (a.says = b.says))
  rcases h1 with h1 | h1
  · have e : decide (a = b) = false := by cases a; cases b; simp_all
    simp -dsimp [h1, e]
  · have e : decide (a = b) = true := by cases a; cases b; simp_all
    simp -dsimp [h1, e]
def IeqClaimS (a b : List Claim) (e : Nat) (s : S) : Prop := ∃ i : Nat, s.tm 0 = .v (.sl (a.map Claim.v)) ∧ s.tm 1 = .v (.sl (b.map Claim.v)) ∧ s.tm 5 = .v (.int .i64 i) ∧ i ≤ a.length ∧ a.take i = b.take i ∧ (e = 1 → i = a.length)
theorem eqClaimS_fn (a b : List Claim) (hl : a.length ≤ 1048576) (hs : ∀ x ∈ a, x.small) : FnZ Try.prog 20 [.sl (a.map Claim.v), .sl (b.map Claim.v)] (.bool (decide (a = b))) := by
  refine FnZ_of (rs := [.tmp 4]) false Try.func20 rfl rfl rfl rfl (Nat.le_of_ble_eq_true rfl) ?_
  by_cases hn : a.length = b.length
  case neg =>
    have e : decide (a = b) = false := by simp; rintro rfl; exact hn rfl
    have hn' : ¬ (a.length : Int) = b.length := by omega
    simp -dsimp [hn, hn', e]
  simp -dsimp [hn]
  refine twp_loopC (IeqClaimS a b 0) (fun s => a.length - natOf (s.tm 5)) (IeqClaimS a b 1) ?_ ?_ ?_
  · exact ⟨0, by simp -dsimp, by simp -dsimp, by simp -dsimp, by omega, by simp, by simp⟩
  · rintro s ⟨i, h0, h1, h5, hi, htk, hend⟩
    by_cases hlt : i < a.length
    case neg =>
      have hlt2 : ¬ i < b.length := by omega
      simp -dsimp [h0, h5, hlt, hlt2, hn]
      exact ⟨i, by simp -dsimp [h0], by simp -dsimp [h1], by simp -dsimp [h5], hi, htk, fun _ => by omega⟩
    have hlt2 : i < b.length := by omega
    have hgeta : (a.map Claim.v)[i]? = some (a[i].v) := by simp [hlt]
    have hgetb : (b.map Claim.v)[i]? = some (b[i].v) := by simp [hlt2]
    have wi : IntKind.wrap .i64 ((i : Int) + 1) = ((i + 1 : Nat) : Int) := by rw [w64 (by omega) (by omega)]; omega
    have hmu : a.length - (i + 1) < a.length - i := by omega
    simp -dsimp [h0, h5, hlt, hlt2, hn]
    refine twp_draw (List.range 10) [] (List.replicate 10 []) (List.replicate 10 []) (by kernel_rfl) (by kernel_rfl) (by kernel_rfl) (by kernel_rfl) ?_
    simp -dsimp [List.range_succ, h0, h1, h5, hlt, hlt2, hgeta, hgetb]
    refine call_ (eqClaim_fn a[i] b[i] (hs _ (List.getElem_mem _))) (by simp -dsimp [Mark.v]) ?_
    have hq := ft (decide (a[i] = b[i]))
    rcases hq with hq | hq
    · have e : decide (a = b) = false := by
        simp at hq ⊢; rintro rfl; exact hq rfl
      simp -dsimp [List.range_succ, hq, e]
    · have hq' : a[i] = b[i] := by simpa using hq
      have htk2 := take_eq_succ hlt hlt2 htk hq'
      have hmu2 : b.length - (i + 1) < b.length - i := by omega
      simp -dsimp [List.range_succ, hq, h5, wi, hmu, hmu2]
      exact ⟨i + 1, by simp -dsimp [h0], by simp -dsimp [h1], by simp -dsimp, by omega, htk2, by simp⟩
  · rintro s ⟨i, h0, h1, h5, hi, htk, hend⟩
    have := hend rfl
    subst this
    rw [List.take_length, hn, List.take_length] at htk
    have e : decide (a = b) = true := by simpa using htk
    simp -dsimp [e]
theorem eqPlace_fn (a b : Place) (ha : a.small) : FnZ Try.prog 9 [a.v, b.v] (.bool (decide (a = b))) := by
  refine FnZ_of (rs := [.tmp 4]) false Try.func9 rfl rfl rfl rfl (Nat.le_of_ble_eq_true rfl) ?_
  by_cases h0 : a.people = b.people
  case neg =>
    have e : decide (a = b) = false := by cases a; cases b; simp_all
    simp -dsimp [Mark.v, h0, e]
  simp -dsimp [h0]
  refine call_ (eqClaimS_fn a.story b.story ha.1 ha.2) (by simp -dsimp) ?_
  have h1 := ft (decide (a.story = b.story))
  rcases h1 with h1 | h1
  · have e : decide (a = b) = false := by cases a; cases b; simp_all
    simp -dsimp [h1, e]
  · have e : decide (a = b) = true := by cases a; cases b; simp_all
    simp -dsimp [h1, e]
end TL

/- Desks; what is one. -/
set_option linter.unusedSimpArgs false
set_option linter.unusedVariables false
set_option maxRecDepth 100000
set_option maxHeartbeats 4000000
set_option pp.maxSteps 1500
namespace TL
open Go Go.Proofs
attribute [local simp] marksV storyV codeV Claim.v Place.v
structure Desk where
  now : Place
  past : List Place
  deriving DecidableEq
def Desk.v (d : Desk) : V := .agg [.int .i64 d.now.people, storyV d.now.story, .sl (d.past.map Place.v)]
def Desk.small (d : Desk) : Prop := d.now.small ∧ d.past.length ≤ 1048576 ∧ ∀ p ∈ d.past, p.small
attribute [local simp] Desk.v
def deskOk (d : Desk) : Bool := d.past.all placeOk && placeOk d.now && decide (d.past.length ≤ 8)
def IdeskOk (d : Desk) (e : Nat) (s : S) : Prop := ∃ i : Nat, s.tm 1 = .ptr 0 0 ∧ s.m 0 = some (.box 31 3 [.v (.int .i64 d.now.people), .v (storyV d.now.story), .v (.sl (d.past.map Place.v))]) ∧ 1 ≤ s.n ∧ s.tm 6 = .v (.sl (d.past.map Place.v)) ∧ s.tm 7 = .v (.int .i64 d.past.length) ∧ s.tm 8 = .v (.int .i64 i) ∧
  i ≤ d.past.length ∧ (d.past.take i).all placeOk = true ∧ (e = 1 → i = d.past.length)
end TL

/- Copies; desks. -/
set_option linter.unusedSimpArgs false
set_option linter.unusedVariables false
set_option maxRecDepth 100000
set_option maxHeartbeats 4000000
set_option pp.maxSteps 1500
namespace TL
open Go Go.Proofs
attribute [local simp] marksV storyV codeV Claim.v Place.v
attribute [local simp] Desk.v
def IsameMarks (a b : List Mark) (e : Nat) (s : S) : Prop := ∃ i : Nat, s.tm 0 = .v (.sl (a.map Mark.v)) ∧ s.tm 1 = .v (.sl (b.map Mark.v)) ∧ s.tm 5 = .v (.int .i64 i) ∧ i ≤ a.length ∧ a.take i = b.take i ∧ (e = 1 → i = a.length)
def IsameStory (a b : List Claim) (e : Nat) (s : S) : Prop := ∃ i : Nat, s.tm 0 = .v (.sl (a.map Claim.v)) ∧ s.tm 1 = .v (.sl (b.map Claim.v)) ∧ s.tm 5 = .v (.int .i64 i) ∧ i ≤ a.length ∧ a.take i = b.take i ∧ (e = 1 → i = a.length)
def IsameDesk (a b : Desk) (e : Nat) (s : S) : Prop := ∃ i : Nat, s.tm 2 = .ptr 0 0 ∧ s.tm 3 = .ptr 1 0 ∧ s.m 0 = some (.box 31 3 [.v (.int .i64 a.now.people), .v (storyV a.now.story), .v (.sl (a.past.map Place.v))]) ∧
  s.m 1 = some (.box 31 3 [.v (.int .i64 b.now.people), .v (storyV b.now.story), .v (.sl (b.past.map Place.v))]) ∧ s.tm 5 = .v (.int .i64 i) ∧ i ≤ a.past.length ∧ a.past.take i = b.past.take i ∧ (e = 1 → i = a.past.length)
def noDeskV : Desk := ⟨⟨0, []⟩, []⟩
/-- Copies. -/
theorem cloneMarks_fn (l : List Mark) (hl : l.length ≤ 1048576) : FnZ Try.prog 39 [marksV l] (marksV l) := by
  have b1 : l.length * 16 ≤ 140737488355328 := by omega
  refine FnZ_of (rs := [.tmp 2]) false Try.func39 rfl rfl rfl rfl (Nat.le_of_ble_eq_true rfl) ?_
  simp -dsimp [b1]
def IcopyStory (l : List Claim) (e : Nat) (s : S) : Prop := ∃ i id : Nat, s.tm 7 = .v (.sl (l.map Claim.v)) ∧ s.tm 8 = .v (.int .i64 l.length) ∧ s.tm 9 = .v (.int .i64 i) ∧ s.mu = false ∧ i ≤ l.length ∧ s.tm 3 = .loc id ∧ id < s.n ∧ s.m id = some (.arr 55 ((l.take i).map Claim.v)) ∧ (e = 1 → i = l.length)
theorem copyStory_fn (l : List Claim) (hl : l.length ≤ 1048576) (hs : ∀ c ∈ l, c.small) : FnZ Try.prog 29 [storyV l] (storyV l) := by
  refine FnZ_of (rs := [.tmp 2]) false Try.func29 rfl rfl rfl rfl (Nat.le_of_ble_eq_true rfl) ?_
  simp -dsimp
  refine twp_loopC (IcopyStory l 0) (fun s => l.length - natOf (s.tm 9)) (IcopyStory l 1) ?_ ?_ ?_
  · exact ⟨0, 0, by simp -dsimp, by simp -dsimp, by simp -dsimp, by simp -dsimp, by omega, by simp -dsimp, by simp -dsimp, by simp -dsimp, by simp⟩
  · rintro s ⟨i, id, t7, t8, t9, hmu, hi, t3, hid, hm, hend⟩
    by_cases hlt : i < l.length
    case neg =>
      simp -dsimp [t8, t9, hlt]
      exact ⟨i, id, by simp -dsimp [t7], by simp -dsimp [t8], by simp -dsimp [t9], by simp -dsimp [hmu], hi, by simp -dsimp [t3], by simp -dsimp [hid], by simp -dsimp [hm], fun _ => by omega⟩
    have hget : (l.map Claim.v)[i]? = some (l[i].v) := by simp [hlt]
    have wi : IntKind.wrap .i64 ((i : Int) + 1) = ((i + 1 : Nat) : Int) := by rw [w64 (by omega) (by omega)]; omega
    have hmu1 : l.length - (i + 1) < l.length - i := by omega
    have f1 := far hid
    have b1 : (min i l.length + 1) * 32 ≤ 140737488355328 := by omega
    simp -dsimp [t7, t8, t9, hlt, hget]
    refine twp_draw (List.range 10) [s.n] (List.replicate 10 [0]) (List.replicate 10 [0]) (by kernel_rfl) (by kernel_rfl) (by kernel_rfl) (by kernel_rfl) ?_
    simp -dsimp [List.range_succ, t3]
    refine call_ (cloneMarks_fn l[i].says (hs _ (List.getElem_mem _))) (by simp -dsimp) ?_
    simp -dsimp [List.range_succ, t3, t9, hmu, f1, hm, b1, wi, hmu1, nes]
    refine ⟨i + 1, s.n + 1 + 1 + 1, by simp -dsimp [t7], by simp -dsimp [t8], by simp -dsimp, by simp -dsimp [hmu], by omega, by simp -dsimp, by simp -dsimp, ?_, by simp⟩
    have : (l.take (i + 1)).map Claim.v = (l.take i).map Claim.v ++ [l[i].v] := by rw [List.take_succ_eq_append_getElem hlt, List.map_append]; rfl
    rw [this]; simp -dsimp
  · rintro s ⟨i, id, t7, t8, t9, hmu, hi, t3, hid, hm, hend⟩
    have := hend rfl
    subst this
    rw [List.take_length] at hm
    simp -dsimp [t3, hm]
theorem copyPlace_fn (p : Place) (hp : p.small) : FnZ Try.prog 18 [p.v] p.v := by
  refine FnZ_of (rs := [.cell 2 28]) false Try.func18 rfl rfl rfl rfl (Nat.le_of_ble_eq_true rfl) ?_
  simp -dsimp
  refine twp_draw (List.range 7) [0] (List.replicate 7 [0]) (List.replicate 7 [0]) (by kernel_rfl) (by kernel_rfl) (by kernel_rfl) (by kernel_rfl) ?_
  simp -dsimp [List.range_succ]
  refine call_ (copyStory_fn p.story hp.1 hp.2) (by simp -dsimp) ?_
  simp -dsimp [List.range_succ]
end TL

/- Reading terms and claims: the program. -/
set_option linter.unusedSimpArgs false
set_option linter.unusedVariables false
set_option maxRecDepth 100000
set_option maxHeartbeats 4000000
set_option pp.maxSteps 1500
namespace TL
open Go Go.Proofs
attribute [local simp] marksV storyV codeV Claim.v Place.v
def optV (o : Option (List Mark)) : V := .tup [marksV (o.getD []), .bool o.isSome]
theorem readT_long {people : Int} {s : List UInt8} (h : 60 < s.length) : readT people s = none := readT_none fun t hl _ _ => by omega
theorem readT_people {people : Int} {s : List UInt8} (h : peopleOk people = false) : readT people s = none := readT_none fun t _ ht _ => by
  simp only [termOk, Bool.and_eq_true] at ht; rw [h] at ht; simp at ht
theorem peopleOk_fn' (p : Int) : FnZ Try.prog 38 [.int .i64 p] (.bool (peopleOk p)) := peopleOk_fn p
def optC (o : Option Claim) : V := .tup [(o.getD ⟨0, []⟩).v, .bool o.isSome]
end TL

/- Reading terms and claims: the reference. -/
set_option linter.unusedSimpArgs false
set_option linter.unusedVariables false
set_option maxRecDepth 100000
set_option maxHeartbeats 4000000
set_option pp.maxSteps 1500
namespace TL
open Go Go.Proofs
attribute [local simp] marksV storyV codeV Claim.v Place.v
theorem good_fits {ms : List Mark} (h : ∀ m ∈ ms, 0 ≤ m.kind ∧ m.kind ≤ 5 ∧ 0 ≤ m.num ∧ m.num ≤ 1000) : fits ms := fun m hm => by
  obtain ⟨h1, h2, h3, h4⟩ := h m hm
  exact ⟨⟨by omega, by omega⟩, ⟨by omega, by omega⟩⟩
theorem rSame_good {A : UInt8 → Option Mark} (hA : ∀ c m, A c = some m → 0 ≤ m.kind ∧ m.kind ≤ 5 ∧ 0 ≤ m.num ∧ m.num ≤ 1000) (F : Nat) : good (rSame A F) :=
  rRow_good (rRow_good (rRow_good (rPart_good hA F) (sg := 38) (k := 3) (by omega) (by omega) F) (sg := 124) (k := 4) (by omega) (by omega) F) (sg := 61) (k := 5) (by omega) (by omega) F
theorem Tm.nums : ∀ T : Tm, T.ok → ∀ m ∈ T.marks, 0 ≤ m.num ∧ m.num ≤ 5
  | .tells i, h, m, hm => by simp [marks] at hm; subst hm; simp; have : i < 4 := h; omega
  | .count n, h, m, hm => by simp [marks] at hm; subst hm; simp; have : n < 6 := h; omega
  | .not a, h, m, hm => by
    simp only [marks, List.mem_append, List.mem_singleton] at hm
    rcases hm with hm | rfl
    · exact a.nums h m hm
    · simp
  | .bin k a b, h, m, hm => by
    simp only [marks, List.mem_append, List.mem_singleton] at hm
    rcases hm with (hm | hm) | rfl
    · exact a.nums h.2.1 m hm
    · exact b.nums h.2.2 m hm
    · simp
theorem termOk_fits {people : Int} {t : List Mark} (h : termOk people t = true) : fits t := by
  obtain ⟨T, h1, h2, _⟩ := termText_tree h
  subst h2
  intro m hm
  obtain ⟨a1, a2⟩ := T.kinds h1 m hm
  obtain ⟨b1, b2⟩ := T.nums h1 m hm
  exact ⟨⟨by omega, by omega⟩, ⟨by omega, by omega⟩⟩
end TL

/- A drawn term: some row of marks. -/
set_option linter.unusedSimpArgs false
set_option linter.unusedVariables false
set_option maxRecDepth 100000
set_option maxHeartbeats 4000000
set_option pp.maxSteps 1500
namespace TL
open Go Go.Proofs
/-- Marks as cells. -/
def mkT : List Mark → List T
  | [] => []
  | m :: ms => .v (.int .i64 m.kind) :: .v (.int .i64 m.num) :: mkT ms
@[simp] theorem mkT_nil : mkT [] = [] := rfl
theorem mkT_append (a b : List Mark) : mkT (a ++ b) = mkT a ++ mkT b := by
  induction a with
  | nil => rfl
  | cons x xs ih => simp [mkT, ih]
@[simp] theorem mkT_length (a : List Mark) : (mkT a).length = a.length * 2 := by
  induction a with
  | nil => rfl
  | cons x xs ih => simp [mkT, ih]; omega
@[simp] theorem mkT_take (a : List Mark) : (mkT a).take (a.length * 2) = mkT a := List.take_of_length_le (by simp)
@[simp] theorem mkT_cells (a : List Mark) : allC (mkT a) := by
  induction a with
  | nil => simp
  | cons x xs ih => simp [mkT]; exact ih
theorem mkT_one (k a : Int) : [T.v (.int .i64 k), T.v (.int .i64 a)] = mkT [⟨k, a⟩] := rfl
/-- Parts as cells of a row. -/
def partsT (l : List (Nat × List Mark)) : List T := l.map fun q => .sv q.1 0 q.2.length
@[simp] theorem partsT_length (a : List (Nat × List Mark)) : (partsT a).length = a.length := by simp [partsT]
@[simp] theorem partsT_take (a : List (Nat × List Mark)) : (partsT a).take a.length = partsT a := List.take_of_length_le (by simp)
@[simp] theorem partsT_cells (a : List (Nat × List Mark)) : allC (partsT a) := by
  intro x hx; simp only [partsT, List.mem_map] at hx; obtain ⟨q, _, rfl⟩ := hx; rfl
@[simp] theorem partsT_cells_take (a : List (Nat × List Mark)) (k : Nat) : allC ((partsT a).take k) := allC_take (partsT_cells a) k
@[simp] theorem partsT_cells_drop (a : List (Nat × List Mark)) (k : Nat) : allC ((partsT a).drop k) := allC_drop (partsT_cells a) k
def sumLen (l : List (Nat × List Mark)) : Nat := (l.map fun q => q.2.length).sum
theorem sumLen_one {l : List (Nat × List Mark)} (h : ∀ q ∈ l, q.2.length = 1) : sumLen l = l.length := by
  induction l with
  | nil => rfl
  | cons x xs ih =>
    have := ih fun q hq => h q (List.mem_cons_of_mem _ hq)
    have h1 := h x (List.mem_cons_self ..)
    simp only [sumLen, List.map_cons, List.sum_cons, List.length_cons] at this ⊢; omega
theorem sumLen_append (a b : List (Nat × List Mark)) : sumLen (a ++ b) = sumLen a + sumLen b := by simp [sumLen]
theorem sumLen_set {l : List (Nat × List Mark)} {i : Nat} {q x : Nat × List Mark} (h : l[i]? = some q) : sumLen (l.set i x) + q.2.length = sumLen l + x.2.length := by
  induction l generalizing i with
  | nil => cases h
  | cons y ys ih =>
    cases i with
    | zero => cases h; simp [sumLen]; omega
    | succ i => have := ih (i := i) (by simpa using h); simp only [sumLen, List.set_cons_succ, List.map_cons, List.sum_cons] at this ⊢; omega
theorem two_split {α : Type} {l : List α} {i : Nat} (h : i + 1 < l.length) : ∃ a b, l[i]? = some a ∧ l[i + 1]? = some b ∧ l = l.take i ++ [a, b] ++ l.drop (i + 2) := by
  refine ⟨l[i], l[i + 1], List.getElem?_eq_getElem _, List.getElem?_eq_getElem _, ?_⟩
  have h1 : l.drop i = l[i] :: l.drop (i + 1) := List.drop_eq_getElem_cons (by omega)
  have h2 : l.drop (i + 1) = l[i + 1] :: l.drop (i + 2) := List.drop_eq_getElem_cons (by omega)
  rw [List.append_assoc]
  conv => lhs; rw [← List.take_append_drop i l, h1, h2]
  rfl
theorem sumLen_mem {l : List (Nat × List Mark)} {q : Nat × List Mark} (h : q ∈ l) : q.2.length ≤ sumLen l := by
  induction l with
  | nil => cases h
  | cons y ys ih =>
    rcases List.mem_cons.1 h with rfl | h
    · simp [sumLen]
    · have := ih h; simp only [sumLen, List.map_cons, List.sum_cons] at this ⊢; omega
end TL

/- Drawn claims and places. -/
set_option linter.unusedSimpArgs false
set_option linter.unusedVariables false
set_option maxRecDepth 100000
set_option maxHeartbeats 4000000
set_option pp.maxSteps 1500
namespace TL
open Go Go.Proofs
theorem mapO_mkT (k : Bool) (m : Mem) (d : Nat) (l : List Mark) : mapO (bor k m d) (mkT l) = some (l.flatMap fun x => [V.int .i64 x.kind, V.int .i64 x.num]) := by
  induction l with
  | nil => rfl
  | cons x xs ih => simp [mkT, mapO, ih]
theorem chunk_marks (l : List Mark) : chunk 2 l.length (l.flatMap fun x => [V.int .i64 x.kind, V.int .i64 x.num]) = l.map Mark.v := by
  induction l with
  | nil => rfl
  | cons x xs ih => simp [chunk, ih, Mark.v]
theorem bor_marks {m : Mem} {i e : Nat} {ms : List Mark} (d : Nat) (h : m i = some (.box e 2 (mkT ms))) : bor true m (d + 1) (.sv i 0 ms.length) = some (marksV ms) := by
  unfold bor
  simp -dsimp [h, mapO_mkT, marksV, chunk_marks]
  rw [tst_pos]
  · rw [chunk_marks]
  · intro x hx
    obtain ⟨y, _, hy⟩ := List.mem_flatMap.1 hx
    simp at hy; rcases hy with rfl | rfl <;> rfl
/-- A drawn term: pure. -/
def SomeTerm (x : V) : Prop := ∃ ms : List Mark, ms.length ≤ 20 ∧ fits ms ∧ x = marksV ms
/-- A drawn claim. -/
def SomeClaim (x : V) : Prop := ∃ c : Claim, c.says.length ≤ 20 ∧ c.fit ∧ x = c.v
end TL

/- Drawn places. -/
set_option linter.unusedSimpArgs false
set_option linter.unusedVariables false
set_option maxRecDepth 100000
set_option maxHeartbeats 4000000
set_option pp.maxSteps 1500
namespace TL
open Go Go.Proofs
def SomePlace (x : V) : Prop := ∃ q : Place, q.story.length ≤ 10 ∧ (∀ c ∈ q.story, c.says.length ≤ 20) ∧ q.fit ∧ x = q.v
theorem fitBad : Claim.fit ⟨4, [⟨0, 0⟩]⟩ := ⟨⟨by simp, by simp⟩, by simp [fits]; exact fit_mk (by omega) (by omega) (by omega) (by omega)⟩
theorem claim_cells (c : Claim) : c.v.cells = [.int .i64 c.who, marksV c.says] := rfl
end TL

/- Drawn arguments of the statements. -/
set_option linter.unusedSimpArgs false
set_option linter.unusedVariables false
set_option maxRecDepth 100000
set_option maxHeartbeats 4000000
set_option pp.maxSteps 1500
namespace TL
open Go Go.Proofs
/-- What a function that draws from a code leaves: some value of a kind. -/
def Drawn (R : V → Prop) (m : Mem) (n : Nat) (t : T) (m' : Mem) (n' : Nat) : Prop := n ≤ n' ∧ (∃ x, R x ∧ t = .v x) ∧ m' = m
def DrawnPost (R : V → Prop) (m0 : Mem) (n0 : Nat) (t : T) (m' : Mem) (n' : Nat) : Prop := n0 ≤ n' ∧ (∃ x, bor true (upper n0 m') 4 t = some x ∧ R x) ∧ ∀ j, j < n0 → m' j = m0 j
theorem Drawn_of {f : Nat} {args : List T} {R : V → Prop} {m : Mem} {n : Nat} (hf : ∃ fn, Try.prog.funcs[f]? = some fn ∧ (fn.name == "runtime.NumGoroutine") = false ∧ fn.body.isNone = false)
    (h : (∀ j, n ≤ j → m j = none) → FnS Try.prog f m n args (DrawnPost R m n)) : FnS Try.prog f m n args (Drawn R m n) := by
  refine FnS_fresh hf fun hfr => ?_
  refine (h hfr).frz ?_
  rintro t m' n' ⟨hn, ⟨x, hx, hR⟩, hout⟩
  refine ⟨x, m, upper n m', ?_, ?_, ?_, hx, hn, ⟨x, hR, rfl⟩, rfl⟩
  · intro j b hb
    by_cases h : j < n
    · rw [hout j h, hb]
    · rw [hfr j (by omega)] at hb; cases hb
  · intro j b hb
    by_cases h : n ≤ j
    · simpa [h] using hb
    · simp [h] at hb
  · intro j
    by_cases h : n ≤ j
    · left; exact hfr j h
    · right; simp [h]
end TL

/- The law of places. -/
set_option linter.unusedSimpArgs false
set_option linter.unusedVariables false
set_option maxRecDepth 100000
set_option maxHeartbeats 4000000
set_option pp.maxSteps 1500
namespace TL
open Go Go.Proofs
attribute [local simp] marksV storyV codeV Claim.v Place.v
def worldOk (people w : Int) : Bool := peopleOk people && decide (0 ≤ w) && decide (w < 2 ^ people.toNat)
theorem markStep_mono {people : Int} {parts q : Nat} {m : Mark} (h : markStep people parts m = some q) : markStep (people + 1) parts m = some q := by
  unfold markStep at h ⊢
  repeat' split at h
  all_goals first
    | (cases h; done)
    | (simp_all; omega)
    | simp_all
theorem marksRun_mono {people : Int} : ∀ (ms : List Mark) (parts : Nat) (q : Nat), marksRun people parts ms = some q → marksRun (people + 1) parts ms = some q
  | [], parts, q, h => h
  | m :: ms, parts, q, h => by
    simp only [marksRun] at h ⊢
    cases e : markStep people parts m with
    | none => rw [e] at h; cases h
    | some r =>
      rw [e] at h
      rw [markStep_mono e]
      exact marksRun_mono ms r q h
theorem termOk_mono {people : Int} {t : List Mark} (hp : people < 4) (h : termOk people t = true) : termOk (people + 1) t = true := by
  simp only [termOk, peopleOk, Bool.and_eq_true, decide_eq_true_eq] at h ⊢
  obtain ⟨⟨⟨⟨h1, h2⟩, h3⟩, h4⟩, h5⟩ := h
  exact ⟨⟨⟨⟨by omega, by omega⟩, h3⟩, h4⟩, marksRun_mono _ _ _ h5⟩
theorem claimOk_mono {people : Int} {c : Claim} (hp : people < 4) (h : claimOk people c = true) : claimOk (people + 1) c = true := by
  simp only [claimOk, peopleOk, Bool.and_eq_true, decide_eq_true_eq] at h ⊢
  obtain ⟨⟨⟨⟨⟨h1, h2⟩, h3⟩, h4⟩, h5⟩, h6⟩ := h
  exact ⟨⟨⟨⟨⟨by omega, by omega⟩, h3⟩, by omega⟩, termOk_mono hp h5⟩, h6⟩
theorem placeOk_mono {p : Place} (hp : p.people < 4) (h : placeOk p = true) : placeOk ⟨p.people + 1, p.story⟩ = true := by
  simp only [placeOk, storyOk, peopleOk, Bool.and_eq_true, decide_eq_true_eq, List.all_eq_true] at h ⊢
  obtain ⟨⟨h1, h2, h3⟩, h4⟩ := h
  exact ⟨⟨fun c hc => claimOk_mono hp (h1 c hc), by omega, by omega⟩, h4⟩
theorem placeOk_alone {p : Place} (h : placeOk p = true) : placeOk ⟨p.people, []⟩ = true := by
  simp only [placeOk, storyOk, peopleOk, Bool.and_eq_true, decide_eq_true_eq, List.all_eq_true] at h ⊢
  obtain ⟨⟨h1, h2, h3⟩, h4⟩ := h
  exact ⟨⟨by simp, by omega, by omega⟩, by simp⟩
end TL

/- Drawn claims; the law of their texts. -/
set_option linter.unusedSimpArgs false
set_option linter.unusedVariables false
set_option maxRecDepth 100000
set_option maxHeartbeats 4000000
set_option pp.maxSteps 1500
namespace TL
open Go Go.Proofs
attribute [local simp] marksV storyV codeV Claim.v Place.v
/-- A number of people, and a claim. -/
def SomePC (x : V) : Prop := ∃ (people : Int) (c : Claim), 1 ≤ people ∧ people ≤ 4 ∧ c.says.length ≤ 20 ∧ c.fit ∧ x = .tup [.int .i64 people, c.v]
theorem claim_fine {c : Claim} (h : c.says.length ≤ 20) (hf : c.fit) : c.fine := ⟨hf.2, by omega⟩
end TL

/- Drawn texts of claims; the law of reading them. -/
set_option linter.unusedSimpArgs false
set_option linter.unusedVariables false
set_option maxRecDepth 100000
set_option maxHeartbeats 4000000
set_option pp.maxSteps 1500
namespace TL
open Go Go.Proofs
attribute [local simp] marksV storyV codeV Claim.v Place.v
def SomePS (x : V) : Prop := ∃ (people : Int) (s : List UInt8), s.length ≤ 200 ∧ x = .tup [.int .i64 people, .str s]
theorem odd_strs : ∃ vs : List V, vs = [.str [], .str [58], .str [97], .str [33], .str [40], .str [101]] ∧ ∀ r : Int, 0 ≤ r → r < 6 → ∃ x : List UInt8, x.length ≤ 1 ∧ vs[r.toNat]? = some (.str x) := by
  refine ⟨_, rfl, fun r h0 h6 => ?_⟩
  have : r = 0 ∨ r = 1 ∨ r = 2 ∨ r = 3 ∨ r = 4 ∨ r = 5 := by omega
  rcases this with rfl | rfl | rfl | rfl | rfl | rfl
  · exact ⟨[], by simp, rfl⟩
  · exact ⟨[58], by simp, rfl⟩
  · exact ⟨[97], by simp, rfl⟩
  · exact ⟨[33], by simp, rfl⟩
  · exact ⟨[40], by simp, rfl⟩
  · exact ⟨[101], by simp, rfl⟩
theorem readC_small {people : Int} {s : List UInt8} {c : Claim} (h : readC people s = some c) : c.says.length ≤ 13 := by
  have := claimOk_all (readC_is h).1; omega
end TL

/- Measures; the exact law of PlaceOk. -/
set_option linter.unusedSimpArgs false
set_option linter.unusedVariables false
set_option maxRecDepth 100000
set_option maxHeartbeats 4000000
set_option pp.maxSteps 1500
namespace TL
open Go Go.Proofs
attribute [local simp] marksV storyV codeV Claim.v Place.v
def mid (n : Nat) : Prop := n ≤ 9223372036854775807
def Claim.mid (c : Claim) : Prop := TL.mid c.says.length
def Place.mid (p : Place) : Prop := TL.mid p.story.length ∧ ∀ c ∈ p.story, c.mid
theorem szMarkS_fn (l : List Mark) (left : Int) (h0 : 0 ≤ left) (h1 : left ≤ 1048576) (hl : mid l.length) : FnZ Try.prog 33 [marksV l, .int .i64 left] (.int .i64 (szR left l.length)) := by
  unfold mid at hl
  have w : IntKind.wrap .i64 (left - l.length) = left - l.length := w64 (by omega) (by omega)
  refine FnZ_of (rs := [.tmp 4]) false Try.func33 rfl rfl rfl rfl (Nat.le_of_ble_eq_true rfl) ?_
  by_cases h : left - l.length < 0 <;> simp -dsimp [w, h, szR]
theorem szClaim_fn (c : Claim) (left : Int) (h0 : 0 ≤ left) (h1 : left ≤ 1048576) (hl : c.mid) : FnZ Try.prog 25 [c.v, .int .i64 left] (.int .i64 (szR left c.says.length)) := by
  refine FnZ_of (rs := [.tmp 4]) false Try.func25 rfl rfl rfl rfl (Nat.le_of_ble_eq_true rfl) ?_
  simp -dsimp
  refine call_ (szMarkS_fn c.says left h0 h1 hl) (by simp -dsimp) ?_
  by_cases h : left - c.says.length < 0
  · have e : szR left c.says.length = -1 := if_pos h
    simp -dsimp [e]
  · have e : szR left c.says.length = left - c.says.length := if_neg h
    simp -dsimp [e, h]
def saysSum (l : List Claim) : Nat := (l.map fun c => c.says.length).sum
theorem saysSum_take {l : List Claim} {i : Nat} (h : i < l.length) : saysSum (l.take (i + 1)) = saysSum (l.take i) + l[i].says.length := by
  unfold saysSum; rw [List.take_succ_eq_append_getElem h, List.map_append, List.sum_append]; rfl
theorem saysSum_le (l : List Claim) (i : Nat) : saysSum (l.take i) ≤ saysSum l := by
  have e : saysSum l = saysSum (l.take i ++ l.drop i) := by rw [List.take_append_drop]
  rw [e]; unfold saysSum; rw [List.map_append, List.sum_append]; omega
def SZC (l : List Claim) (left : Int) (e : Nat) (s : S) : Prop := ∃ i : Nat, s.tm 0 = .v (.sl (l.map Claim.v)) ∧ s.tm 1 = .v (.int .i64 (left - l.length - saysSum (l.take i))) ∧ s.tm 5 = .v (.int .i64 i) ∧ i ≤ l.length ∧ 0 ≤ left - l.length - saysSum (l.take i) ∧ (e = 1 → i = l.length)
theorem szClaimS_fn (l : List Claim) (left : Int) (h0 : 0 ≤ left) (h1 : left ≤ 1048576) (hl : mid l.length) (hc : ∀ c ∈ l, c.mid) : FnZ Try.prog 13 [storyV l, .int .i64 left] (.int .i64 (szR left (l.length + saysSum l))) := by
  unfold mid at hl
  have w : IntKind.wrap .i64 (left - l.length) = left - l.length := w64 (by omega) (by omega)
  refine FnZ_of (rs := [.tmp 4]) false Try.func13 rfl rfl rfl rfl (Nat.le_of_ble_eq_true rfl) ?_
  by_cases h : left - l.length < 0
  · have e : szR left (l.length + saysSum l) = -1 := if_pos (by omega)
    simp -dsimp [w, h, e]
  simp -dsimp [w, h]
  refine twp_loopC (SZC l left 0) (fun s => l.length - natOf (s.tm 5)) (SZC l left 1) ?_ ?_ ?_
  · exact ⟨0, by simp -dsimp, by simp -dsimp [saysSum], by simp -dsimp, by omega, by simp [saysSum]; omega, by simp⟩
  · rintro s ⟨i, t0, t1, t5, hi, hp, hend⟩
    by_cases hlt : i < l.length
    case neg =>
      simp -dsimp [t0, t5, hlt]
      exact ⟨i, by simp -dsimp [t0], by simp -dsimp [t1], by simp -dsimp [t5], hi, hp, fun _ => by omega⟩
    have hget : (l.map Claim.v)[i]? = some (l[i].v) := by simp [hlt]
    have wi : IntKind.wrap .i64 ((i : Int) + 1) = ((i + 1 : Nat) : Int) := by rw [w64 (by omega) (by omega)]; omega
    have hmu : l.length - (i + 1) < l.length - i := by omega
    have hs := saysSum_take hlt
    have hle := saysSum_le l (i + 1)
    simp -dsimp [t0, t1, t5, hlt, hget]
    refine call_ (szClaim_fn l[i] (left - l.length - saysSum (l.take i)) (by omega) (by omega) (hc _ (List.getElem_mem _))) (by simp -dsimp) ?_
    by_cases hn : left - l.length - saysSum (l.take i) - l[i].says.length < 0
    · have e1 : szR (left - l.length - saysSum (l.take i)) l[i].says.length = -1 := if_pos hn
      have e2 : szR left (l.length + saysSum l) = -1 := if_pos (by omega)
      simp -dsimp [e1, e2]
    · have e1 : szR (left - l.length - saysSum (l.take i)) l[i].says.length = left - l.length - saysSum (l.take (i + 1)) := by rw [szR, if_neg hn]; omega
      have e2 : ¬ left - l.length - saysSum (l.take (i + 1)) < 0 := by omega
      simp -dsimp [e1, e2, t5, wi, hmu]
      exact ⟨i + 1, by simp -dsimp [t0], by simp -dsimp, by simp -dsimp, by omega, by omega, by simp⟩
  · rintro s ⟨i, t0, t1, t5, hi, hp, hend⟩
    have := hend rfl
    subst this
    rw [List.take_length] at t1 hp
    have e : szR left (l.length + saysSum l) = left - l.length - saysSum l := by rw [szR, if_neg (by omega)]; omega
    simp -dsimp [t1, e]
def Place.bulk (p : Place) : Nat := p.story.length + saysSum p.story
theorem szPlace_fn (p : Place) (left : Int) (h0 : 0 ≤ left) (h1 : left ≤ 1048576) (hp : p.mid) : FnZ Try.prog 4 [p.v, .int .i64 left] (.int .i64 (szR left p.bulk)) := by
  refine FnZ_of (rs := [.tmp 4]) false Try.func4 rfl rfl rfl rfl (Nat.le_of_ble_eq_true rfl) ?_
  simp -dsimp
  refine call_ (szClaimS_fn p.story left h0 h1 hp.1 hp.2) (by simp -dsimp) ?_
  by_cases h : left - p.bulk < 0
  · have e : szR left (p.story.length + saysSum p.story) = -1 := if_pos h
    simp -dsimp [e, Place.bulk]
  · have e : szR left (p.story.length + saysSum p.story) = left - p.bulk := if_neg h
    have e2 : szR left p.bulk = left - p.bulk := if_neg h
    simp -dsimp [e, h, e2]
theorem saysSum_mem {l : List Claim} {c : Claim} (h : c ∈ l) : c.says.length ≤ saysSum l := by
  induction l with
  | nil => cases h
  | cons y ys ih =>
    rcases List.mem_cons.1 h with rfl | h
    · simp [saysSum]
    · have := ih h; simp only [saysSum, List.map_cons, List.sum_cons] at this ⊢; omega
theorem Place.small_of {p : Place} (h : ¬ (1048576 : Int) - p.bulk < 0) : p.small := by
  unfold Place.bulk at h
  exact ⟨by omega, fun c hc => by have := saysSum_mem hc; unfold Claim.small; omega⟩
end TL
