/- TL: parts Fns12, FnsD, Fns15, FnsR4, FnsR6, Fns3, Fns4, Fns5, Fns6, Fns10, FnsR7, FnsR8, Fns13, TlOpen, Fns14, FnsR9, FnsE1, FnsL1, FnsE2, FnsE4, FnsE7. -/
import Derived.Test.YtibdhpnjjgppgaaGreatDoorGd
import Derived.Test.YtibdhpnjjgppgaaGreatDoorGe
import Derived.Test.YtibdhpnjjgppgaaGreatDoorGc
import Derived.ChangeArms
import Derived.WideShapes
import Derived.KernelRfl
import Derived.Lib.ItoaNum
import Derived.Test.YtibdhpnjjgppgaaGreatDoorShelfA
import Derived.Shelf.Strings.OnBuilder
import Derived.Shelf.Strconv.Itoa3
import Derived.Lib.Split
import Derived.Lib.SplitLaws
/- The functions by which the exact laws measure, turn and compare their arguments. -/
set_option linter.unusedSimpArgs false
set_option linter.unusedVariables false
set_option maxRecDepth 100000
set_option maxHeartbeats 4000000
set_option pp.maxSteps 1500
namespace TL
open Go Go.Proofs
attribute [local simp] marksV storyV codeV Claim.v Place.v
theorem elemOk_mark : ElemOk Mark.v 2 := fun a => ⟨rfl, by simp [Mark.v], by simp [Mark.v]⟩
theorem elemOk_claim : ElemOk Claim.v 2 := fun a => ⟨rfl, by simp, by simp⟩
theorem elemOk_place : ElemOk Place.v 2 := fun a => ⟨rfl, by simp, by simp⟩
theorem cellsT_mark (m : Mark) : cellsT m.v = [.v (.int .i64 m.kind), .v (.int .i64 m.num)] := rfl
theorem cellsT_claim (c : Claim) : cellsT c.v = [.v (.int .i64 c.who), .v (.sl (c.says.map Mark.v))] := rfl
theorem cellsT_place (p : Place) : cellsT p.v = [.v (.int .i64 p.people), .v (.sl (p.story.map Claim.v))] := rfl
/-- What is left of a measure. -/
def szR (left : Int) (n : Nat) : Int := if left - n < 0 then -1 else left - n
def Claim.small (c : Claim) : Prop := c.says.length ≤ 1048576
def Place.small (p : Place) : Prop := p.story.length ≤ 1048576 ∧ ∀ c ∈ p.story, c.small
theorem take_eq_succ {α : Type} {a b : List α} {i : Nat} (ha : i < a.length) (hb : i < b.length) (h : a.take i = b.take i) (he : a[i] = b[i]) : a.take (i + 1) = b.take (i + 1) := by
  rw [List.take_succ_eq_append_getElem ha, List.take_succ_eq_append_getElem hb, h, he]
theorem toMark_fn (a : Mark) : FnZ Tryz.prog 135 [a.v] a.v := by
    refine FnZ_of (rs := [.cell 2 126]) false Tryz.func135 rfl rfl rfl rfl (Nat.le_of_ble_eq_true rfl) ?_
    simp -dsimp [Mark.v]
def ItoMarkS (l : List Mark) (a : Nat) (s : S) : Prop := ∃ i : Nat, s.tm 0 = .v (.sl (l.map Mark.v)) ∧ s.tm 3 = .sv 0 0 l.length ∧ s.tm 4 = .v (.int .i64 i) ∧ i ≤ l.length ∧ s.m 0 = some (.box 126 2 (filled Mark.v [T.v (.int .i64 0), T.v (.int .i64 0)] l i).flatten) ∧ (a = 1 → i = l.length)
theorem toMarkS_fn (l : List Mark) (hl : l.length ≤ 1048576) : FnZ Tryz.prog 116 [.sl (l.map Mark.v)] (.sl (l.map Mark.v)) := by
  have b1 : (16 : Int) * l.length ≤ 281474976710656 := by omega
  have b2 : (l.length : Int) ≤ 9223372036854775807 := by omega
  have b3 : (0 : Int) ≤ l.length := by omega
  refine FnZ_of (rs := [.tmp 2]) false Tryz.func116 rfl rfl rfl rfl (Nat.le_of_ble_eq_true rfl) ?_
  simp -dsimp [b1, b2, b3]
  refine twp_loopC (ItoMarkS l 0) (fun s => l.length - natOf (s.tm 4)) (ItoMarkS l 1) ?_ ?_ ?_
  · exact ⟨0, by simp -dsimp, by simp -dsimp, by simp -dsimp, by omega, by rw [filled_zero]; simp -dsimp, by simp⟩
  · rintro s ⟨i, h0, h3, h4, hi, hm, hend⟩
    by_cases hlt : i < l.length
    case neg =>
      simp -dsimp [h0, h4, hlt]
      exact ⟨i, by simp -dsimp [h0], by simp -dsimp [h3], by simp -dsimp [h4], hi, by simp -dsimp [hm], fun _ => by omega⟩
    have hget : (l.map Mark.v)[i]? = some (l[i].v) := by simp [hlt]
    have wi : IntKind.wrap .i64 ((i : Int) + 1) = ((i + 1 : Nat) : Int) := by rw [w64 (by omega) (by omega)]; omega
    have hmu : l.length - (i + 1) < l.length - i := by omega
    have hfl : (filled Mark.v [T.v (.int .i64 0), T.v (.int .i64 0)] l i).flatten.length = l.length * 2 := filled_flat_len (k := 2) elemOk_mark rfl hi
    have hst := filled_set (v := Mark.v) (zs := [T.v (.int .i64 0), T.v (.int .i64 0)]) (k := 2) elemOk_mark rfl hlt
    have hcv : l[i].v.cells = (l[i].v).cells := rfl
    have hoff : i * 2 + 2 ≤ l.length * 2 := by omega
    have hlt' : (i : Int) < l.length := by omega
    rw [cellsT_mark] at hst
    simp -dsimp [h0, h3, h4, hlt, hget]
    refine call_ (toMark_fn l[i]) (by simp -dsimp [Mark.v]) ?_
    simp -dsimp [Mark.v, h0, h3, h4, hlt, hlt', hm, hfl, hoff, hst, wi, hmu, filled_len]
    exact ⟨i + 1, by simp -dsimp [h0], by simp -dsimp [h3], by simp -dsimp, by omega, by simp -dsimp, by simp⟩
  · rintro s ⟨i, h0, h3, h4, hi, hm, hend⟩
    have := hend rfl
    subst this
    have hb := bor_filled (k := 2) elemOk_mark 3 hm
    simp -dsimp [h3, hb]
theorem toClaim_fn (a : Claim) (hc : a.small) : FnZ Tryz.prog 90 [a.v] a.v := by
    refine FnZ_of (rs := [.cell 2 74]) false Tryz.func90 rfl rfl rfl rfl (Nat.le_of_ble_eq_true rfl) ?_
    simp -dsimp [Mark.v]
    refine call_ (toMarkS_fn a.says hc) (by simp -dsimp) ?_
    simp -dsimp [Mark.v]
def ItoClaimS (l : List Claim) (a : Nat) (s : S) : Prop := ∃ i : Nat, s.tm 0 = .v (.sl (l.map Claim.v)) ∧ s.tm 3 = .sv 0 0 l.length ∧ s.tm 4 = .v (.int .i64 i) ∧ i ≤ l.length ∧ s.m 0 = some (.box 74 2 (filled Claim.v [T.v (.int .i64 0), T.nil] l i).flatten) ∧ (a = 1 → i = l.length)
theorem toClaimS_fn (l : List Claim) (hl : l.length ≤ 1048576) (hs : ∀ a ∈ l, a.small) : FnZ Tryz.prog 67 [.sl (l.map Claim.v)] (.sl (l.map Claim.v)) := by
  have b1 : (32 : Int) * l.length ≤ 281474976710656 := by omega
  have b2 : (l.length : Int) ≤ 9223372036854775807 := by omega
  have b3 : (0 : Int) ≤ l.length := by omega
  refine FnZ_of (rs := [.tmp 2]) false Tryz.func67 rfl rfl rfl rfl (Nat.le_of_ble_eq_true rfl) ?_
  simp -dsimp [b1, b2, b3]
  refine twp_loopC (ItoClaimS l 0) (fun s => l.length - natOf (s.tm 4)) (ItoClaimS l 1) ?_ ?_ ?_
  · exact ⟨0, by simp -dsimp, by simp -dsimp, by simp -dsimp, by omega, by rw [filled_zero]; simp -dsimp, by simp⟩
  · rintro s ⟨i, h0, h3, h4, hi, hm, hend⟩
    by_cases hlt : i < l.length
    case neg =>
      simp -dsimp [h0, h4, hlt]
      exact ⟨i, by simp -dsimp [h0], by simp -dsimp [h3], by simp -dsimp [h4], hi, by simp -dsimp [hm], fun _ => by omega⟩
    have hget : (l.map Claim.v)[i]? = some (l[i].v) := by simp [hlt]
    have wi : IntKind.wrap .i64 ((i : Int) + 1) = ((i + 1 : Nat) : Int) := by rw [w64 (by omega) (by omega)]; omega
    have hmu : l.length - (i + 1) < l.length - i := by omega
    have hfl : (filled Claim.v [T.v (.int .i64 0), T.nil] l i).flatten.length = l.length * 2 := filled_flat_len (k := 2) elemOk_claim rfl hi
    have hst := filled_set (v := Claim.v) (zs := [T.v (.int .i64 0), T.nil]) (k := 2) elemOk_claim rfl hlt
    have hcv : l[i].v.cells = (l[i].v).cells := rfl
    have hoff : i * 2 + 2 ≤ l.length * 2 := by omega
    have hlt' : (i : Int) < l.length := by omega
    rw [cellsT_claim] at hst
    simp -dsimp [h0, h3, h4, hlt, hget]
    refine call_ (toClaim_fn l[i] (hs _ (List.getElem_mem _))) (by simp -dsimp [Mark.v]) ?_
    simp -dsimp [Mark.v, h0, h3, h4, hlt, hlt', hm, hfl, hoff, hst, wi, hmu, filled_len]
    exact ⟨i + 1, by simp -dsimp [h0], by simp -dsimp [h3], by simp -dsimp, by omega, by simp -dsimp, by simp⟩
  · rintro s ⟨i, h0, h3, h4, hi, hm, hend⟩
    have := hend rfl
    subst this
    have hb := bor_filled (k := 2) elemOk_claim 3 hm
    simp -dsimp [h3, hb]
theorem toPlace_fn (a : Place) (hc : a.small) : FnZ Tryz.prog 32 [a.v] a.v := by
    refine FnZ_of (rs := [.cell 2 34]) false Tryz.func32 rfl rfl rfl rfl (Nat.le_of_ble_eq_true rfl) ?_
    simp -dsimp [Mark.v]
    refine call_ (toClaimS_fn a.story hc.1 hc.2) (by simp -dsimp) ?_
    simp -dsimp [Mark.v]
theorem eqMark_fn (a b : Mark) : FnZ Tryz.prog 145 [a.v, b.v] (.bool (decide (a = b))) := by
  refine FnZ_of (rs := [.tmp 4]) false Tryz.func145 rfl rfl rfl rfl (Nat.le_of_ble_eq_true rfl) ?_
  by_cases h0 : a.kind = b.kind
  case neg =>
    have e : decide (a = b) = false := by cases a; cases b; simp_all
    simp -dsimp [Mark.v, h0, e]
  by_cases h1 : a.num = b.num
  · have e : decide (a = b) = true := by cases a; cases b; simp_all
    simp -dsimp [Mark.v, h0, h1, e]
  · have e : decide (a = b) = false := by cases a; cases b; simp_all
    simp -dsimp [Mark.v, h0, h1, e]
def IeqMarkS (a b : List Mark) (e : Nat) (s : S) : Prop := ∃ i : Nat, s.tm 0 = .v (.sl (a.map Mark.v)) ∧ s.tm 1 = .v (.sl (b.map Mark.v)) ∧ s.tm 5 = .v (.int .i64 i) ∧ i ≤ a.length ∧ a.take i = b.take i ∧ (e = 1 → i = a.length)
theorem eqMarkS_fn (a b : List Mark) (hl : a.length ≤ 1048576) : FnZ Tryz.prog 128 [.sl (a.map Mark.v), .sl (b.map Mark.v)] (.bool (decide (a = b))) := by
  refine FnZ_of (rs := [.tmp 4]) false Tryz.func128 rfl rfl rfl rfl (Nat.le_of_ble_eq_true rfl) ?_
  by_cases hn : a.length = b.length
  case neg =>
    have e : decide (a = b) = false := by simp; rintro rfl; exact hn rfl
    have hn' : ¬ (a.length : Int) = b.length := by omega
    simp -dsimp [hn, hn', e]
  simp -dsimp [hn]
  refine twp_loopC (IeqMarkS a b 0) (fun s => a.length - natOf (s.tm 5)) (IeqMarkS a b 1) ?_ ?_ ?_
  · exact ⟨0, by simp -dsimp, by simp -dsimp, by simp -dsimp, by omega, by simp, by simp⟩
  · rintro s ⟨i, h0, h1, h5, hi, htk, hend⟩
    by_cases hlt : i < a.length
    case neg =>
      have hlt2 : ¬ i < b.length := by omega
      simp -dsimp [h0, h5, hlt, hlt2, hn]
      exact ⟨i, by simp -dsimp [h0], by simp -dsimp [h1], by simp -dsimp [h5], hi, htk, fun _ => by omega⟩
    have hlt2 : i < b.length := by omega
    have hgeta : (a.map Mark.v)[i]? = some (a[i].v) := by simp [hlt]
    have hgetb : (b.map Mark.v)[i]? = some (b[i].v) := by simp [hlt2]
    have wi : IntKind.wrap .i64 ((i : Int) + 1) = ((i + 1 : Nat) : Int) := by rw [w64 (by omega) (by omega)]; omega
    have hmu : a.length - (i + 1) < a.length - i := by omega
    simp -dsimp [h0, h5, hlt, hlt2, hn]
    refine twp_draw (List.range 10) [] (List.replicate 10 []) (List.replicate 10 []) (by kernel_rfl) (by kernel_rfl) (by kernel_rfl) (by kernel_rfl) ?_
    simp -dsimp [List.range_succ, h0, h1, h5, hlt, hlt2, hgeta, hgetb]
    refine call_ (eqMark_fn a[i] b[i]) (by simp -dsimp [Mark.v]) ?_
    have hq := ft (decide (a[i] = b[i]))
    rcases hq with hq | hq
    · have e : decide (a = b) = false := by
        simp at hq ⊢; rintro rfl; exact hq rfl
      simp -dsimp [List.range_succ, hq, e]
    · have hq' : a[i] = b[i] := by simpa using hq
      have htk2 := take_eq_succ hlt hlt2 htk hq'
      have hmu2 : b.length - (i + 1) < b.length - i := by omega
      simp -dsimp [List.range_succ, hq, h5, wi, hmu, hmu2]
      exact ⟨i + 1, by simp -dsimp [h0], by simp -dsimp [h1], by simp -dsimp, by omega, htk2, by simp⟩
  · rintro s ⟨i, h0, h1, h5, hi, htk, hend⟩
    have := hend rfl
    subst this
    rw [List.take_length, hn, List.take_length] at htk
    have e : decide (a = b) = true := by simpa using htk
    simp -dsimp [e]
theorem eqClaim_fn (a b : Claim) (ha : a.small) : FnZ Tryz.prog 102 [a.v, b.v] (.bool (decide (a = b))) := by
  refine FnZ_of (rs := [.tmp 4]) false Tryz.func102 rfl rfl rfl rfl (Nat.le_of_ble_eq_true rfl) ?_
  by_cases h0 : a.who = b.who
  case neg =>
    have e : decide (a = b) = false := by cases a; cases b; simp_all
    simp -dsimp [Mark.v, h0, e]
  simp -dsimp [h0]
  refine call_ (eqMarkS_fn a.says b.says ha) (by simp -dsimp) ?_
  have h1 := ft (decide (a.says = b.says))
  rcases h1 with h1 | h1
  · have e : decide (a = b) = false := by cases a; cases b; simp_all
    simp -dsimp [h1, e]
  · have e : decide (a = b) = true := by cases a; cases b; simp_all
    simp -dsimp [h1, e]
def IeqClaimS (a b : List Claim) (e : Nat) (s : S) : Prop := ∃ i : Nat, s.tm 0 = .v (.sl (a.map Claim.v)) ∧ s.tm 1 = .v (.sl (b.map Claim.v)) ∧ s.tm 5 = .v (.int .i64 i) ∧ i ≤ a.length ∧ a.take i = b.take i ∧ (e = 1 → i = a.length)
theorem eqClaimS_fn (a b : List Claim) (hl : a.length ≤ 1048576) (hs : ∀ x ∈ a, x.small) : FnZ Tryz.prog 77 [.sl (a.map Claim.v), .sl (b.map Claim.v)] (.bool (decide (a = b))) := by
  refine FnZ_of (rs := [.tmp 4]) false Tryz.func77 rfl rfl rfl rfl (Nat.le_of_ble_eq_true rfl) ?_
  by_cases hn : a.length = b.length
  case neg =>
    have e : decide (a = b) = false := by simp; rintro rfl; exact hn rfl
    have hn' : ¬ (a.length : Int) = b.length := by omega
    simp -dsimp [hn, hn', e]
  simp -dsimp [hn]
  refine twp_loopC (IeqClaimS a b 0) (fun s => a.length - natOf (s.tm 5)) (IeqClaimS a b 1) ?_ ?_ ?_
  · exact ⟨0, by simp -dsimp, by simp -dsimp, by simp -dsimp, by omega, by simp, by simp⟩
  · rintro s ⟨i, h0, h1, h5, hi, htk, hend⟩
    by_cases hlt : i < a.length
    case neg =>
      have hlt2 : ¬ i < b.length := by omega
      simp -dsimp [h0, h5, hlt, hlt2, hn]
      exact ⟨i, by simp -dsimp [h0], by simp -dsimp [h1], by simp -dsimp [h5], hi, htk, fun _ => by omega⟩
    have hlt2 : i < b.length := by omega
    have hgeta : (a.map Claim.v)[i]? = some (a[i].v) := by simp [hlt]
    have hgetb : (b.map Claim.v)[i]? = some (b[i].v) := by simp [hlt2]
    have wi : IntKind.wrap .i64 ((i : Int) + 1) = ((i + 1 : Nat) : Int) := by rw [w64 (by omega) (by omega)]; omega
    have hmu : a.length - (i + 1) < a.length - i := by omega
    simp -dsimp [h0, h5, hlt, hlt2, hn]
    refine twp_draw (List.range 10) [] (List.replicate 10 []) (List.replicate 10 []) (by kernel_rfl) (by kernel_rfl) (by kernel_rfl) (by kernel_rfl) ?_
    simp -dsimp [List.range_succ, h0, h1, h5, hlt, hlt2, hgeta, hgetb]
    refine call_ (eqClaim_fn a[i] b[i] (hs _ (List.getElem_mem _))) (by simp -dsimp [Mark.v]) ?_
    have hq := ft (decide (a[i] = b[i]))
    rcases hq with hq | hq
    · have e : decide (a = b) = false := by
        simp at hq ⊢; rintro rfl; exact hq rfl
      simp -dsimp [List.range_succ, hq, e]
    · have hq' : a[i] = b[i] := by simpa using hq
      have htk2 := take_eq_succ hlt hlt2 htk hq'
      have hmu2 : b.length - (i + 1) < b.length - i := by omega
      simp -dsimp [List.range_succ, hq, h5, wi, hmu, hmu2]
      exact ⟨i + 1, by simp -dsimp [h0], by simp -dsimp [h1], by simp -dsimp, by omega, htk2, by simp⟩
  · rintro s ⟨i, h0, h1, h5, hi, htk, hend⟩
    have := hend rfl
    subst this
    rw [List.take_length, hn, List.take_length] at htk
    have e : decide (a = b) = true := by simpa using htk
    simp -dsimp [e]
theorem eqPlace_fn (a b : Place) (ha : a.small) : FnZ Tryz.prog 43 [a.v, b.v] (.bool (decide (a = b))) := by
  refine FnZ_of (rs := [.tmp 4]) false Tryz.func43 rfl rfl rfl rfl (Nat.le_of_ble_eq_true rfl) ?_
  by_cases h0 : a.people = b.people
  case neg =>
    have e : decide (a = b) = false := by cases a; cases b; simp_all
    simp -dsimp [Mark.v, h0, e]
  simp -dsimp [h0]
  refine call_ (eqClaimS_fn a.story b.story ha.1 ha.2) (by simp -dsimp) ?_
  have h1 := ft (decide (a.story = b.story))
  rcases h1 with h1 | h1
  · have e : decide (a = b) = false := by cases a; cases b; simp_all
    simp -dsimp [h1, e]
  · have e : decide (a = b) = true := by cases a; cases b; simp_all
    simp -dsimp [h1, e]
end TL

/- Desks; what is one. -/
set_option linter.unusedSimpArgs false
set_option linter.unusedVariables false
set_option maxRecDepth 100000
set_option maxHeartbeats 4000000
set_option pp.maxSteps 1500
namespace TL
open Go Go.Proofs
attribute [local simp] marksV storyV codeV Claim.v Place.v
structure Desk where
  now : Place
  past : List Place
  deriving DecidableEq
def Desk.v (d : Desk) : V := .agg [.int .i64 d.now.people, storyV d.now.story, .sl (d.past.map Place.v)]
def Desk.small (d : Desk) : Prop := d.now.small ∧ d.past.length ≤ 1048576 ∧ ∀ p ∈ d.past, p.small
attribute [local simp] Desk.v
def deskOk (d : Desk) : Bool := d.past.all placeOk && placeOk d.now && decide (d.past.length ≤ 8)
def IdeskOk (d : Desk) (e : Nat) (s : S) : Prop := ∃ i : Nat, s.tm 1 = .ptr 0 0 ∧ s.m 0 = some (.box 37 3 [.v (.int .i64 d.now.people), .v (storyV d.now.story), .v (.sl (d.past.map Place.v))]) ∧ 1 ≤ s.n ∧ s.tm 6 = .v (.sl (d.past.map Place.v)) ∧ s.tm 7 = .v (.int .i64 d.past.length) ∧ s.tm 8 = .v (.int .i64 i) ∧
  i ≤ d.past.length ∧ (d.past.take i).all placeOk = true ∧ (e = 1 → i = d.past.length)
theorem deskOk_fn (d : Desk) (hl : d.past.length ≤ 1000000000000) (hn : d.now.story.length < 1000000000000) (hs : ∀ p ∈ d.past, p.story.length < 1000000000000) : FnZ Tryz.prog 34 [d.v] (.bool (deskOk d)) := by
  refine FnZ_of (rs := [.tmp 2]) false Tryz.func34 rfl rfl rfl rfl (Nat.le_of_ble_eq_true rfl) ?_
  simp -dsimp
  refine twp_loopC (IdeskOk d 0) (fun s => d.past.length - natOf (s.tm 8)) (IdeskOk d 1) ?_ ?_ ?_
  · exact ⟨0, by simp -dsimp, by simp -dsimp, by simp -dsimp, by simp -dsimp, by simp -dsimp, by simp -dsimp, by omega, by simp, by simp⟩
  · rintro s ⟨i, t1, m0, h1, t6, t7, t8, hi, hall, hend⟩
    by_cases hlt : i < d.past.length
    case neg =>
      simp -dsimp [t7, t8, hlt]
      exact ⟨i, by simp -dsimp [t1], by simp -dsimp [m0], by simp -dsimp; omega, by simp -dsimp [t6], by simp -dsimp [t7], by simp -dsimp [t8], hi, hall, fun _ => by omega⟩
    have hget : (d.past.map Place.v)[i]? = some (d.past[i].v) := by simp [hlt]
    have hall' := all_take_succ (f := placeOk) hlt
    have wi : IntKind.wrap .i64 ((i : Int) + 1) = ((i + 1 : Nat) : Int) := by rw [w64 (by omega) (by omega)]; omega
    have hmu : d.past.length - (i + 1) < d.past.length - i := by omega
    have hbad := all_bad (f := placeOk) hlt
    have f0 := far (show 0 < s.n by omega)
    simp -dsimp [t6, t7, t8, hlt, hget, f0, nes]
    refine call_ (placeOk_fn d.past[i] (hs _ (List.getElem_mem _))) (by simp -dsimp) ?_
    have hc := ft (placeOk d.past[i])
    rcases hc with hc | hc
    · simp -dsimp [hc, deskOk, hbad hc]
    · simp -dsimp [hc, t8, wi, hmu]
      exact ⟨i + 1, by simp -dsimp [t1], by simp -dsimp [m0, f0], by simp -dsimp, by simp -dsimp [t6], by simp -dsimp [t7], by simp -dsimp, by omega, by rw [hall', hall, hc]; rfl, by simp⟩
  · rintro s ⟨i, t1, m0, h1, t6, t7, t8, hi, hall, hend⟩
    have := hend rfl
    subst this
    rw [List.take_length] at hall
    simp -dsimp [t1, m0]
    refine call_ (placeOk_fn d.now hn) (by simp -dsimp) ?_
    have hk := ft (placeOk d.now)
    rcases hk with hk | hk
    · simp -dsimp [deskOk, hk]
    · simp -dsimp [t1, m0, deskOk, hk, hall]
      omega
end TL

/- Copies; desks. -/
set_option linter.unusedSimpArgs false
set_option linter.unusedVariables false
set_option maxRecDepth 100000
set_option maxHeartbeats 4000000
set_option pp.maxSteps 1500
namespace TL
open Go Go.Proofs
attribute [local simp] marksV storyV codeV Claim.v Place.v
attribute [local simp] Desk.v
def IsameMarks (a b : List Mark) (e : Nat) (s : S) : Prop := ∃ i : Nat, s.tm 0 = .v (.sl (a.map Mark.v)) ∧ s.tm 1 = .v (.sl (b.map Mark.v)) ∧ s.tm 5 = .v (.int .i64 i) ∧ i ≤ a.length ∧ a.take i = b.take i ∧ (e = 1 → i = a.length)
def IsameStory (a b : List Claim) (e : Nat) (s : S) : Prop := ∃ i : Nat, s.tm 0 = .v (.sl (a.map Claim.v)) ∧ s.tm 1 = .v (.sl (b.map Claim.v)) ∧ s.tm 5 = .v (.int .i64 i) ∧ i ≤ a.length ∧ a.take i = b.take i ∧ (e = 1 → i = a.length)
def IsameDesk (a b : Desk) (e : Nat) (s : S) : Prop := ∃ i : Nat, s.tm 2 = .ptr 0 0 ∧ s.tm 3 = .ptr 1 0 ∧ s.m 0 = some (.box 37 3 [.v (.int .i64 a.now.people), .v (storyV a.now.story), .v (.sl (a.past.map Place.v))]) ∧
  s.m 1 = some (.box 37 3 [.v (.int .i64 b.now.people), .v (storyV b.now.story), .v (.sl (b.past.map Place.v))]) ∧ s.tm 5 = .v (.int .i64 i) ∧ i ≤ a.past.length ∧ a.past.take i = b.past.take i ∧ (e = 1 → i = a.past.length)
def noDeskV : Desk := ⟨⟨0, []⟩, []⟩
/-- Copies. -/
theorem cloneMarks_fn (l : List Mark) (hl : l.length ≤ 1048576) : FnZ Tryz.prog 94 [marksV l] (marksV l) := by
  have b1 : l.length * 16 ≤ 140737488355328 := by omega
  refine FnZ_of (rs := [.tmp 2]) false Tryz.func94 rfl rfl rfl rfl (Nat.le_of_ble_eq_true rfl) ?_
  simp -dsimp [b1]
def IcopyStory (l : List Claim) (e : Nat) (s : S) : Prop := ∃ i id : Nat, s.tm 7 = .v (.sl (l.map Claim.v)) ∧ s.tm 8 = .v (.int .i64 l.length) ∧ s.tm 9 = .v (.int .i64 i) ∧ s.mu = false ∧ i ≤ l.length ∧ s.tm 3 = .loc id ∧ id < s.n ∧ s.m id = some (.arr 74 ((l.take i).map Claim.v)) ∧ (e = 1 → i = l.length)
theorem copyStory_fn (l : List Claim) (hl : l.length ≤ 1048576) (hs : ∀ c ∈ l, c.small) : FnZ Tryz.prog 72 [storyV l] (storyV l) := by
  refine FnZ_of (rs := [.tmp 2]) false Tryz.func72 rfl rfl rfl rfl (Nat.le_of_ble_eq_true rfl) ?_
  simp -dsimp
  refine twp_loopC (IcopyStory l 0) (fun s => l.length - natOf (s.tm 9)) (IcopyStory l 1) ?_ ?_ ?_
  · exact ⟨0, 0, by simp -dsimp, by simp -dsimp, by simp -dsimp, by simp -dsimp, by omega, by simp -dsimp, by simp -dsimp, by simp -dsimp, by simp⟩
  · rintro s ⟨i, id, t7, t8, t9, hmu, hi, t3, hid, hm, hend⟩
    by_cases hlt : i < l.length
    case neg =>
      simp -dsimp [t8, t9, hlt]
      exact ⟨i, id, by simp -dsimp [t7], by simp -dsimp [t8], by simp -dsimp [t9], by simp -dsimp [hmu], hi, by simp -dsimp [t3], by simp -dsimp [hid], by simp -dsimp [hm], fun _ => by omega⟩
    have hget : (l.map Claim.v)[i]? = some (l[i].v) := by simp [hlt]
    have wi : IntKind.wrap .i64 ((i : Int) + 1) = ((i + 1 : Nat) : Int) := by rw [w64 (by omega) (by omega)]; omega
    have hmu1 : l.length - (i + 1) < l.length - i := by omega
    have f1 := far hid
    have b1 : (min i l.length + 1) * 32 ≤ 140737488355328 := by omega
    simp -dsimp [t7, t8, t9, hlt, hget]
    refine twp_draw (List.range 10) [s.n] (List.replicate 10 [0]) (List.replicate 10 [0]) (by kernel_rfl) (by kernel_rfl) (by kernel_rfl) (by kernel_rfl) ?_
    simp -dsimp [List.range_succ, t3]
    refine call_ (cloneMarks_fn l[i].says (hs _ (List.getElem_mem _))) (by simp -dsimp) ?_
    simp -dsimp [List.range_succ, t3, t9, hmu, f1, hm, b1, wi, hmu1, nes]
    refine ⟨i + 1, s.n + 1 + 1 + 1, by simp -dsimp [t7], by simp -dsimp [t8], by simp -dsimp, by simp -dsimp [hmu], by omega, by simp -dsimp, by simp -dsimp, ?_, by simp⟩
    have : (l.take (i + 1)).map Claim.v = (l.take i).map Claim.v ++ [l[i].v] := by rw [List.take_succ_eq_append_getElem hlt, List.map_append]; rfl
    rw [this]; simp -dsimp
  · rintro s ⟨i, id, t7, t8, t9, hmu, hi, t3, hid, hm, hend⟩
    have := hend rfl
    subst this
    rw [List.take_length] at hm
    simp -dsimp [t3, hm]
theorem copyPlace_fn (p : Place) (hp : p.small) : FnZ Tryz.prog 42 [p.v] p.v := by
  refine FnZ_of (rs := [.cell 2 34]) false Tryz.func42 rfl rfl rfl rfl (Nat.le_of_ble_eq_true rfl) ?_
  simp -dsimp
  refine twp_draw (List.range 7) [0] (List.replicate 7 [0]) (List.replicate 7 [0]) (by kernel_rfl) (by kernel_rfl) (by kernel_rfl) (by kernel_rfl) ?_
  simp -dsimp [List.range_succ]
  refine call_ (copyStory_fn p.story hp.1 hp.2) (by simp -dsimp) ?_
  simp -dsimp [List.range_succ]
end TL

/- Reading terms and claims: the program. -/
set_option linter.unusedSimpArgs false
set_option linter.unusedVariables false
set_option maxRecDepth 100000
set_option maxHeartbeats 4000000
set_option pp.maxSteps 1500
namespace TL
open Go Go.Proofs
attribute [local simp] marksV storyV codeV Claim.v Place.v
theorem termText_fn (people : Int) (t : List Mark) : FnZ Tryz.prog 93 [.int .i64 people, marksV t] (.str (termText people t)) := by
  have hk := ft (termOk people t)
  rcases hk with hk | hk
  · rw [termText_no hk]
    refine FnZ_of (rs := [.tmp 4]) false Tryz.func93 rfl rfl rfl rfl (Nat.le_of_ble_eq_true rfl) ?_
    simp -dsimp
    refine call_ (termOk_fn people t) (by simp -dsimp) ?_
    simp -dsimp [hk]
  · obtain ⟨T, h1, h2, h3⟩ := termText_tree hk
    have hl := (termOk_len hk).2.1
    have ht := textOf_fn T h1 (by rw [h2]; omega)
    rw [h2, h3] at ht
    generalize termText people t = s at *
    refine FnZ_of (rs := [.tmp 4]) false Tryz.func93 rfl rfl rfl rfl (Nat.le_of_ble_eq_true rfl) ?_
    simp -dsimp
    refine call_ (termOk_fn people t) (by simp -dsimp) ?_
    simp -dsimp [hk]
    refine call_ ht (by simp -dsimp) ?_
    simp -dsimp
def optV (o : Option (List Mark)) : V := .tup [marksV (o.getD []), .bool o.isSome]
theorem readT_long {people : Int} {s : List UInt8} (h : 60 < s.length) : readT people s = none := readT_none fun t hl _ _ => by omega
theorem readT_people {people : Int} {s : List UInt8} (h : peopleOk people = false) : readT people s = none := readT_none fun t _ ht _ => by
  simp only [termOk, Bool.and_eq_true] at ht; rw [h] at ht; simp at ht
theorem peopleOk_fn' (p : Int) : FnZ Tryz.prog 91 [.int .i64 p] (.bool (peopleOk p)) := peopleOk_fn p
theorem readTerm_no (people : Int) (s : List UInt8) (hl : s.length ≤ 2000000000) (h : peopleOk people = false ∨ 60 < s.length) : FnZ Tryz.prog 68 [.int .i64 people, .str s] (.tup [.sl [], .bool false]) := by
  have hp := ft (peopleOk people)
  rcases hp with hp | hp
  · refine FnZ_of (rs := [.tmp 4, .tmp 5]) false Tryz.func68 rfl rfl rfl rfl (Nat.le_of_ble_eq_true rfl) ?_
    simp -dsimp
    refine call_ (peopleOk_fn' people) (by simp -dsimp) ?_
    simp -dsimp [hp]
  · have hl2 : (60 : Int) < s.length := by have := h.resolve_left (by simp [hp]); omega
    refine FnZ_of (rs := [.tmp 4, .tmp 5]) false Tryz.func68 rfl rfl rfl rfl (Nat.le_of_ble_eq_true rfl) ?_
    simp -dsimp
    refine call_ (peopleOk_fn' people) (by simp -dsimp) ?_
    simp -dsimp [hp, hl2]
theorem readTerm_fn (people : Int) (s : List UInt8) (hl : s.length ≤ 2000000000) : FnZ Tryz.prog 68 [.int .i64 people, .str s] (optV (readT people s)) := by
  by_cases h60 : s.length ≤ 60
  case neg =>
    have h : 60 < s.length := by omega
    rw [readT_long h]
    exact readTerm_no people s hl (.inr h)
  have hp := ft (peopleOk people)
  rcases hp with hp | hp
  · rw [readT_people hp]
    exact readTerm_no people s hl (.inl hp)
  rw [readT_code atomI_ok h60]
  have hS := readSame_all s.length (by omega) s (Nat.le_refl _)
  have hT := termText_fn people (rSame atomI s.length s).ms
  have hne : (rSame atomI s.length s).ok = true → s ≠ [] := by
    rintro h rfl; rw [rSame_nil] at h; cases h
  have hl60 : ¬ (60 : Int) < s.length := by omega
  generalize rSame atomI s.length s = r at *
  obtain ⟨ms, rest, ok⟩ := r
  simp only at hT hne ⊢
  have htt : termText people ms = s → ok = true → termOk people ms = true := fun h1 h2 => by
    have hk := ft (termOk people ms)
    rcases hk with hk | hk
    · rw [termText_no hk] at h1; exact absurd h1.symm (hne h2)
    · exact hk
  refine FnZ_of (rs := [.tmp 4, .tmp 5]) false Tryz.func68 rfl rfl rfl rfl (Nat.le_of_ble_eq_true rfl) ?_
  simp -dsimp
  refine call_ (peopleOk_fn' people) (by simp -dsimp) ?_
  simp -dsimp [hp, hl60]
  refine callS_ (hS _ _) ?_
  rintro t m2 n2 ⟨hle2, hout2, st2, rfl, hrow2, hnil2⟩
  simp only at hrow2 hnil2 ⊢
  cases ok with
  | false =>
    simp -dsimp [optV]
  | true =>
    by_cases hr : rest = []
    case neg => simp -dsimp [optV, hr]
    subst hr
    rcases hrow2 with ⟨rfl, _⟩ | ⟨i2, rfl, hj0, hj1, hmj⟩
    · exact absurd rfl (hnil2 rfl)
    simp -dsimp
    refine call_ hT (by simp -dsimp [hmj]) ?_
    by_cases he : termText people ms = s
    · have hk := htt he rfl
      simp -dsimp [he, hk, hmj, optV]
    · simp -dsimp [he, optV]
theorem claimBy_fn (people who : Int) (t : List Mark) (hl : t.length ≤ 1048576) : FnZ Tryz.prog 69 [.int .i64 people, .int .i64 who, marksV t] (.tup [(if claimOk people ⟨who, t⟩ = true then (⟨who, t⟩ : Claim) else ⟨0, []⟩).v, .bool (claimOk people ⟨who, t⟩)]) := by
  have hc := claimOk_fn people ⟨who, t⟩
  have hk := ft (claimOk people ⟨who, t⟩)
  refine FnZ_of (rs := [.cell 6 74, .tmp 7]) false Tryz.func69 rfl rfl rfl rfl (Nat.le_of_ble_eq_true rfl) ?_
  simp -dsimp
  refine call_ (cloneMarks_fn t hl) (by simp -dsimp) ?_
  simp -dsimp
  refine call_ hc (by simp -dsimp) ?_
  rcases hk with hk | hk
  · simp -dsimp [hk]
  · simp -dsimp [hk]
def optC (o : Option Claim) : V := .tup [(o.getD ⟨0, []⟩).v, .bool o.isSome]
theorem readClaim_fn (people : Int) (s : List UInt8) (hl : s.length ≤ 2000000000) : FnZ Tryz.prog 36 [.int .i64 people, .str s] (optC (readC people s)) := by
  have zero : ∀ (x : List UInt8), s.length < 3 → readC people s = none := fun _ h => by
    cases e : readC people s with
    | none => rfl
    | some c => have := readC_is e; have := (claimTx_len this.1).1; rw [(readC_is e).2] at this; omega
  by_cases h3 : s.length < 3
  · have h3' : (s.length : Int) < 3 := by omega
    rw [zero [] h3]
    refine FnZ_of (rs := [.cell 4 74, .tmp 5]) false Tryz.func36 rfl rfl rfl rfl (Nat.le_of_ble_eq_true rfl) ?_
    simp -dsimp [h3, h3', optC]
  clear zero
  match s, h3, hl with
  | [], h3, hl => simp at h3
  | [a], h3, hl => simp at h3
  | a :: b :: s, h3, hl =>
    have h3' : ¬ ((s.length : Int) + 1 + 1 < 3) := by simp at h3; omega
    have hls : s.length ≤ 2000000000 := by simp at hl; omega
    have l2 : (2 : Int) ≤ (s.length : Int) + 1 + 1 := by omega
    have l3 : ((s.length : Int) + 1 + 1).toNat = s.length + 1 + 1 := by omega
    by_cases hb : b = 58
    case neg =>
      have e : readC people (a :: b :: s) = none := if_neg hb
      have hb' : ¬ (b.toNat : Int) = 58 := fun h => hb (UInt8.toNat.inj (by show b.toNat = 58; omega))
      rw [e]
      refine FnZ_of (rs := [.cell 4 74, .tmp 5]) false Tryz.func36 rfl rfl rfl rfl (Nat.le_of_ble_eq_true rfl) ?_
      simp -dsimp [h3', hb', optC]
    subst hb
    have e : readC people (a :: 58 :: s) = (readT people s).bind fun t => if claimOk people ⟨(a.toNat : Int) - 97, t⟩ = true then some ⟨(a.toNat : Int) - 97, t⟩ else none := rfl
    rw [e]
    have ht := readTerm_fn people s hls
    have hlt := UInt8.toNat_lt a
    have w1 : IntKind.wrap .i64 ((a.toNat : Int) - 97) = (a.toNat : Int) - 97 := w64 (by omega) (by omega)
    have w2 : IntKind.wrap .i64 (a.toNat : Int) = (a.toNat : Int) := w64 (by omega) (by omega)
    have hle : ∀ t, readT people s = some t → t.length ≤ 1048576 := fun t h => by
      have := (termOk_len (readT_is h).2.1).2.1; omega
    generalize readT people s = o at *
    cases o with
    | none =>
      refine FnZ_of (rs := [.cell 4 74, .tmp 5]) false Tryz.func36 rfl rfl rfl rfl (Nat.le_of_ble_eq_true rfl) ?_
      simp -dsimp [h3', l2, l3, optC]
      refine call_ ht (by simp -dsimp) ?_
      simp -dsimp [optV, optC]
    | some t =>
      have hcb := claimBy_fn people ((a.toNat : Int) - 97) t (hle t rfl)
      have hk := ft (claimOk people ⟨(a.toNat : Int) - 97, t⟩)
      refine FnZ_of (rs := [.cell 4 74, .tmp 5]) false Tryz.func36 rfl rfl rfl rfl (Nat.le_of_ble_eq_true rfl) ?_
      simp -dsimp [h3', l2, l3, optC]
      refine call_ ht (by simp -dsimp) ?_
      simp -dsimp [optV, w1, w2]
      refine call_ hcb (by simp -dsimp) ?_
      rcases hk with hk | hk
      · simp -dsimp [hk, optC]
      · simp -dsimp [hk, optC]
end TL

/- Reading terms and claims: the reference. -/
set_option linter.unusedSimpArgs false
set_option linter.unusedVariables false
set_option maxRecDepth 100000
set_option maxHeartbeats 4000000
set_option pp.maxSteps 1500
namespace TL
open Go Go.Proofs
attribute [local simp] marksV storyV codeV Claim.v Place.v
theorem good_fits {ms : List Mark} (h : ∀ m ∈ ms, 0 ≤ m.kind ∧ m.kind ≤ 5 ∧ 0 ≤ m.num ∧ m.num ≤ 1000) : fits ms := fun m hm => by
  obtain ⟨h1, h2, h3, h4⟩ := h m hm
  exact ⟨⟨by omega, by omega⟩, ⟨by omega, by omega⟩⟩
theorem rSame_good {A : UInt8 → Option Mark} (hA : ∀ c m, A c = some m → 0 ≤ m.kind ∧ m.kind ≤ 5 ∧ 0 ≤ m.num ∧ m.num ≤ 1000) (F : Nat) : good (rSame A F) :=
  rRow_good (rRow_good (rRow_good (rPart_good hA F) (sg := 38) (k := 3) (by omega) (by omega) F) (sg := 124) (k := 4) (by omega) (by omega) F) (sg := 61) (k := 5) (by omega) (by omega) F
theorem Tm.nums : ∀ T : Tm, T.ok → ∀ m ∈ T.marks, 0 ≤ m.num ∧ m.num ≤ 5
  | .tells i, h, m, hm => by simp [marks] at hm; subst hm; simp; have : i < 4 := h; omega
  | .count n, h, m, hm => by simp [marks] at hm; subst hm; simp; have : n < 6 := h; omega
  | .not a, h, m, hm => by
    simp only [marks, List.mem_append, List.mem_singleton] at hm
    rcases hm with hm | rfl
    · exact a.nums h m hm
    · simp
  | .bin k a b, h, m, hm => by
    simp only [marks, List.mem_append, List.mem_singleton] at hm
    rcases hm with (hm | hm) | rfl
    · exact a.nums h.2.1 m hm
    · exact b.nums h.2.2 m hm
    · simp
theorem termOk_fits {people : Int} {t : List Mark} (h : termOk people t = true) : fits t := by
  obtain ⟨T, h1, h2, _⟩ := termText_tree h
  subst h2
  intro m hm
  obtain ⟨a1, a2⟩ := T.kinds h1 m hm
  obtain ⟨b1, b2⟩ := T.nums h1 m hm
  exact ⟨⟨by omega, by omega⟩, ⟨by omega, by omega⟩⟩
theorem readTermS_fn (people : Int) (s : List UInt8) : FnZ Tryz.prog 86 [.int .i64 people, .str s] (optV (readT people s)) := by
  by_cases h60 : s.length ≤ 60
  case neg =>
    have h : 60 < s.length := by omega
    have h' : (60 : Int) < s.length := by omega
    rw [readT_long h]
    refine FnZ_of (rs := [.tmp 4, .tmp 5]) false Tryz.func86 rfl rfl rfl rfl (Nat.le_of_ble_eq_true rfl) ?_
    simp -dsimp [h', optV]
  rw [readT_code atomS_ok h60]
  have hS := l2Level_all s (by omega) s.length (l2Atom_fn s (by omega) s.length) 0 (by omega) (by omega)
  have hgood := rSame_good atomS_good s.length s
  rw [List.drop_zero] at hS
  have hl60 : ¬ (60 : Int) < s.length := by omega
  generalize rSame atomS s.length s = r at *
  obtain ⟨ms, rest, ok⟩ := r
  simp only at hgood
  have hmsl : ms.length ≤ 60 := by have := hgood.1; omega
  have htS := termOkS_fn people ms (good_fits hgood.2) (by omega)
  have hl0 : s.length - 0 = s.length := rfl
  rw [hl0] at hS
  cases ok with
  | false =>
    have hne : ¬ (-1 : Int) = (s.length : Int) := by omega
    refine FnZ_of (rs := [.tmp 4, .tmp 5]) false Tryz.func86 rfl rfl rfl rfl (Nat.le_of_ble_eq_true rfl) ?_
    simp -dsimp [hl60]
    refine callS_ (hS _ _) ?_
    rintro t m2 n2 ⟨hle2, hout2, i2, xs, next2, rfl, hj0, hj1, hmj, hyl, hok2, hno2⟩
    have e1 := hno2 rfl
    simp -dsimp [e1, hne, optV]
  | true =>
    by_cases hr : rest = []
    case neg =>
      refine FnZ_of (rs := [.tmp 4, .tmp 5]) false Tryz.func86 rfl rfl rfl rfl (Nat.le_of_ble_eq_true rfl) ?_
      simp -dsimp [hl60]
      refine callS_ (hS _ _) ?_
      rintro t m2 n2 ⟨hle2, hout2, i2, xs, next2, rfl, hj0, hj1, hmj, hyl, hok2, hno2⟩
      refine (hok2 rfl).2.elim fun q3 hq => ?_
      have e1 := hq.1
      have e2 : s.drop q3 = rest := hq.2.1
      have hne0 : ¬ q3 = s.length := by intro h; rw [h, List.drop_length] at e2; exact hr e2.symm
      have hne : ¬ (q3 : Int) = (s.length : Int) := by omega
      simp -dsimp [e1, hne, hr, optV]
    subst hr
    have hk := ft (termOk people ms)
    rcases hk with hk | hk
    · refine FnZ_of (rs := [.tmp 4, .tmp 5]) false Tryz.func86 rfl rfl rfl rfl (Nat.le_of_ble_eq_true rfl) ?_
      simp -dsimp [hl60]
      refine callS_ (hS _ _) ?_
      rintro t m2 n2 ⟨hle2, hout2, i2, xs, next2, rfl, hj0, hj1, hmj, hyl, hok2, hno2⟩
      refine (hok2 rfl).2.elim fun q3 hq => ?_
      have e0 : xs = ms := (hok2 rfl).1
      have e1 := hq.1
      have e2 : s.drop q3 = [] := hq.2.1
      have e3 := hq.2.2
      have hq3 : q3 = s.length := by have := congrArg List.length e2; rw [List.length_drop] at this; simp at this; omega
      simp -dsimp [e1, hq3]
      refine call_ htS (by simp -dsimp [hmj, e0]) ?_
      simp -dsimp [hk, optV]
    · obtain ⟨T, h1, h2, h3⟩ := termText_tree hk
      have hT := l2Text_fn T h1 (by rw [h2]; omega)
      rw [h2, h3] at hT
      by_cases he : termText people ms = s
      · refine FnZ_of (rs := [.tmp 4, .tmp 5]) false Tryz.func86 rfl rfl rfl rfl (Nat.le_of_ble_eq_true rfl) ?_
        simp -dsimp [hl60]
        refine callS_ (hS _ _) ?_
        rintro t m2 n2 ⟨hle2, hout2, i2, xs, next2, rfl, hj0, hj1, hmj, hyl, hok2, hno2⟩
        refine (hok2 rfl).2.elim fun q3 hq => ?_
        have e0 : xs = ms := (hok2 rfl).1
        have e1 := hq.1
        have e2 : s.drop q3 = [] := hq.2.1
        have e3 := hq.2.2
        have hq3 : q3 = s.length := by have := congrArg List.length e2; rw [List.length_drop] at this; simp at this; omega
        simp -dsimp [e1, hq3]
        refine call_ htS (by simp -dsimp [hmj, e0]) ?_
        simp -dsimp [hk]
        refine call_ hT (by simp -dsimp [hmj, e0]) ?_
        simp -dsimp [he, hk, hmj, e0, optV]
      · refine FnZ_of (rs := [.tmp 4, .tmp 5]) false Tryz.func86 rfl rfl rfl rfl (Nat.le_of_ble_eq_true rfl) ?_
        simp -dsimp [hl60]
        refine callS_ (hS _ _) ?_
        rintro t m2 n2 ⟨hle2, hout2, i2, xs, next2, rfl, hj0, hj1, hmj, hyl, hok2, hno2⟩
        refine (hok2 rfl).2.elim fun q3 hq => ?_
        have e0 : xs = ms := (hok2 rfl).1
        have e1 := hq.1
        have e2 : s.drop q3 = [] := hq.2.1
        have e3 := hq.2.2
        have hq3 : q3 = s.length := by have := congrArg List.length e2; rw [List.length_drop] at this; simp at this; omega
        simp -dsimp [e1, hq3]
        refine call_ htS (by simp -dsimp [hmj, e0]) ?_
        simp -dsimp [hk]
        refine call_ hT (by simp -dsimp [hmj, e0]) ?_
        simp -dsimp [he, hk, optV]
theorem readClaimS_fn (people : Int) (s : List UInt8) (hl : s.length ≤ 2000000000) : FnZ Tryz.prog 60 [.int .i64 people, .str s] (optC (readC people s)) := by
  by_cases h3 : s.length < 3
  · have zero : readC people s = none := by
      cases e : readC people s with
      | none => rfl
      | some c => have := readC_is e; have := (claimTx_len this.1).1; rw [(readC_is e).2] at this; omega
    have h3' : (s.length : Int) < 3 := by omega
    rw [zero]
    refine FnZ_of (rs := [.cell 4 74, .tmp 5]) false Tryz.func60 rfl rfl rfl rfl (Nat.le_of_ble_eq_true rfl) ?_
    simp -dsimp [h3', optC]
  match s, h3, hl with
  | [], h3, hl => simp at h3
  | [a], h3, hl => simp at h3
  | a :: b :: s, h3, hl =>
    have h3' : ¬ ((s.length : Int) + 1 + 1 < 3) := by simp at h3; omega
    have l2 : (2 : Int) ≤ (s.length : Int) + 1 + 1 := by omega
    have l3 : ((s.length : Int) + 1 + 1).toNat = s.length + 1 + 1 := by omega
    have hlt := UInt8.toNat_lt a
    have w1 : IntKind.wrap .i64 ((a.toNat : Int) - 97) = (a.toNat : Int) - 97 := w64 (by omega) (by omega)
    have w2 : IntKind.wrap .i64 (a.toNat : Int) = (a.toNat : Int) := w64 (by omega) (by omega)
    have ht := readTermS_fn people s
    have e : readC people (a :: b :: s) = if b = 58 then (readT people s).bind fun t => if claimOk people ⟨(a.toNat : Int) - 97, t⟩ = true then some ⟨(a.toNat : Int) - 97, t⟩ else none else none := rfl
    have his : ∀ t, readT people s = some t → s.length ≤ 60 ∧ termOk people t = true ∧ termText people t = s := fun t h => readT_is h
    rw [e]
    generalize readT people s = o at *
    cases o with
    | none =>
      have e2 : (if b = 58 then (none : Option (List Mark)).bind (fun t => if claimOk people ⟨(a.toNat : Int) - 97, t⟩ = true then some (⟨(a.toNat : Int) - 97, t⟩ : Claim) else none) else none) = none := by split <;> rfl
      rw [e2]
      refine FnZ_of (rs := [.cell 4 74, .tmp 5]) false Tryz.func60 rfl rfl rfl rfl (Nat.le_of_ble_eq_true rfl) ?_
      simp -dsimp [h3', l2, l3]
      refine call_ ht (by simp -dsimp) ?_
      simp -dsimp [optV, w1, w2, optC]
    | some t =>
      obtain ⟨g1, g2, g3⟩ := his t rfl
      have gl := (termOk_len g2).2.1
      rw [Option.bind_some]
      have hfine : (⟨(a.toNat : Int) - 97, t⟩ : Claim).fine := by
        exact ⟨termOk_fits g2, by simp only; omega⟩
      have hct := claimTxS_fn people ⟨(a.toNat : Int) - 97, t⟩ hfine
      have hk := ft (claimOk people ⟨(a.toNat : Int) - 97, t⟩)
      rcases hk with hk | hk
      · have e2 : (if b = 58 then (if claimOk people ⟨(a.toNat : Int) - 97, t⟩ = true then some (⟨(a.toNat : Int) - 97, t⟩ : Claim) else none) else none) = none := by split <;> simp [hk]
        have e3 : claimTx people ⟨(a.toNat : Int) - 97, t⟩ = [] := by unfold claimTx; rw [if_neg (by simp [hk])]
        rw [e3] at hct
        rw [e2]
        refine FnZ_of (rs := [.cell 4 74, .tmp 5]) false Tryz.func60 rfl rfl rfl rfl (Nat.le_of_ble_eq_true rfl) ?_
        simp -dsimp [h3', l2, l3]
        refine call_ ht (by simp -dsimp) ?_
        simp -dsimp [optV, w1, w2]
        refine call_ hct (by simp -dsimp) ?_
        simp -dsimp [optC]
      · have hwho := (claimOk_all hk).2.2.1
        have e3 : claimTx people ⟨(a.toNat : Int) - 97, t⟩ = a :: 58 :: s := by
          unfold claimTx; rw [if_pos hk, letter_fwd a _ rfl hwho, g3]
        rw [e3] at hct
        by_cases hb : b = 58
        · subst hb
          rw [if_pos rfl, if_pos hk]
          refine FnZ_of (rs := [.cell 4 74, .tmp 5]) false Tryz.func60 rfl rfl rfl rfl (Nat.le_of_ble_eq_true rfl) ?_
          simp -dsimp [h3', l2, l3]
          refine call_ ht (by simp -dsimp) ?_
          simp -dsimp [optV, w1, w2]
          refine call_ hct (by simp -dsimp) ?_
          simp -dsimp [optC]
        · have hb' : ¬ 58 = b := fun h => hb h.symm
          rw [if_neg hb]
          refine FnZ_of (rs := [.cell 4 74, .tmp 5]) false Tryz.func60 rfl rfl rfl rfl (Nat.le_of_ble_eq_true rfl) ?_
          simp -dsimp [h3', l2, l3]
          refine call_ ht (by simp -dsimp) ?_
          simp -dsimp [optV, w1, w2]
          refine call_ hct (by simp -dsimp) ?_
          simp -dsimp [hb, hb', optC]
end TL

/- A drawn term: some row of marks. -/
set_option linter.unusedSimpArgs false
set_option linter.unusedVariables false
set_option maxRecDepth 100000
set_option maxHeartbeats 4000000
set_option pp.maxSteps 1500
namespace TL
open Go Go.Proofs
/-- Marks as cells. -/
def mkT : List Mark → List T
  | [] => []
  | m :: ms => .v (.int .i64 m.kind) :: .v (.int .i64 m.num) :: mkT ms
@[simp] theorem mkT_nil : mkT [] = [] := rfl
theorem mkT_append (a b : List Mark) : mkT (a ++ b) = mkT a ++ mkT b := by
  induction a with
  | nil => rfl
  | cons x xs ih => simp [mkT, ih]
@[simp] theorem mkT_length (a : List Mark) : (mkT a).length = a.length * 2 := by
  induction a with
  | nil => rfl
  | cons x xs ih => simp [mkT, ih]; omega
@[simp] theorem mkT_take (a : List Mark) : (mkT a).take (a.length * 2) = mkT a := List.take_of_length_le (by simp)
@[simp] theorem mkT_cells (a : List Mark) : allC (mkT a) := by
  induction a with
  | nil => simp
  | cons x xs ih => simp [mkT]; exact ih
theorem mkT_one (k a : Int) : [T.v (.int .i64 k), T.v (.int .i64 a)] = mkT [⟨k, a⟩] := rfl
/-- Parts as cells of a row. -/
def partsT (l : List (Nat × List Mark)) : List T := l.map fun q => .sv q.1 0 q.2.length
@[simp] theorem partsT_length (a : List (Nat × List Mark)) : (partsT a).length = a.length := by simp [partsT]
@[simp] theorem partsT_take (a : List (Nat × List Mark)) : (partsT a).take a.length = partsT a := List.take_of_length_le (by simp)
@[simp] theorem partsT_cells (a : List (Nat × List Mark)) : allC (partsT a) := by
  intro x hx; simp only [partsT, List.mem_map] at hx; obtain ⟨q, _, rfl⟩ := hx; rfl
@[simp] theorem partsT_cells_take (a : List (Nat × List Mark)) (k : Nat) : allC ((partsT a).take k) := allC_take (partsT_cells a) k
@[simp] theorem partsT_cells_drop (a : List (Nat × List Mark)) (k : Nat) : allC ((partsT a).drop k) := allC_drop (partsT_cells a) k
def sumLen (l : List (Nat × List Mark)) : Nat := (l.map fun q => q.2.length).sum
theorem sumLen_one {l : List (Nat × List Mark)} (h : ∀ q ∈ l, q.2.length = 1) : sumLen l = l.length := by
  induction l with
  | nil => rfl
  | cons x xs ih =>
    have := ih fun q hq => h q (List.mem_cons_of_mem _ hq)
    have h1 := h x (List.mem_cons_self ..)
    simp only [sumLen, List.map_cons, List.sum_cons, List.length_cons] at this ⊢; omega
theorem sumLen_append (a b : List (Nat × List Mark)) : sumLen (a ++ b) = sumLen a + sumLen b := by simp [sumLen]
theorem sumLen_set {l : List (Nat × List Mark)} {i : Nat} {q x : Nat × List Mark} (h : l[i]? = some q) : sumLen (l.set i x) + q.2.length = sumLen l + x.2.length := by
  induction l generalizing i with
  | nil => cases h
  | cons y ys ih =>
    cases i with
    | zero => cases h; simp [sumLen]; omega
    | succ i => have := ih (i := i) (by simpa using h); simp only [sumLen, List.set_cons_succ, List.map_cons, List.sum_cons] at this ⊢; omega
theorem two_split {α : Type} {l : List α} {i : Nat} (h : i + 1 < l.length) : ∃ a b, l[i]? = some a ∧ l[i + 1]? = some b ∧ l = l.take i ++ [a, b] ++ l.drop (i + 2) := by
  refine ⟨l[i], l[i + 1], List.getElem?_eq_getElem _, List.getElem?_eq_getElem _, ?_⟩
  have h1 : l.drop i = l[i] :: l.drop (i + 1) := List.drop_eq_getElem_cons (by omega)
  have h2 : l.drop (i + 1) = l[i + 1] :: l.drop (i + 2) := List.drop_eq_getElem_cons (by omega)
  rw [List.append_assoc]
  conv => lhs; rw [← List.take_append_drop i l, h1, h2]
  rfl
theorem sumLen_mem {l : List (Nat × List Mark)} {q : Nat × List Mark} (h : q ∈ l) : q.2.length ≤ sumLen l := by
  induction l with
  | nil => cases h
  | cons y ys ih =>
    rcases List.mem_cons.1 h with rfl | h
    · simp [sumLen]
    · have := ih h; simp only [sumLen, List.map_cons, List.sum_cons] at this ⊢; omega
end TL

/- Drawn claims and places. -/
set_option linter.unusedSimpArgs false
set_option linter.unusedVariables false
set_option maxRecDepth 100000
set_option maxHeartbeats 4000000
set_option pp.maxSteps 1500
namespace TL
open Go Go.Proofs
theorem mapO_mkT (k : Bool) (m : Mem) (d : Nat) (l : List Mark) : mapO (bor k m d) (mkT l) = some (l.flatMap fun x => [V.int .i64 x.kind, V.int .i64 x.num]) := by
  induction l with
  | nil => rfl
  | cons x xs ih => simp [mkT, mapO, ih]
theorem chunk_marks (l : List Mark) : chunk 2 l.length (l.flatMap fun x => [V.int .i64 x.kind, V.int .i64 x.num]) = l.map Mark.v := by
  induction l with
  | nil => rfl
  | cons x xs ih => simp [chunk, ih, Mark.v]
theorem bor_marks {m : Mem} {i e : Nat} {ms : List Mark} (d : Nat) (h : m i = some (.box e 2 (mkT ms))) : bor true m (d + 1) (.sv i 0 ms.length) = some (marksV ms) := by
  unfold bor
  simp -dsimp [h, mapO_mkT, marksV, chunk_marks]
  rw [tst_pos]
  · rw [chunk_marks]
  · intro x hx
    obtain ⟨y, _, hy⟩ := List.mem_flatMap.1 hx
    simp at hy; rcases hy with rfl | rfl <;> rfl
/-- A drawn term: pure. -/
def SomeTerm (x : V) : Prop := ∃ ms : List Mark, ms.length ≤ 20 ∧ fits ms ∧ x = marksV ms
/-- A drawn claim. -/
def SomeClaim (x : V) : Prop := ∃ c : Claim, c.says.length ≤ 20 ∧ c.fit ∧ x = c.v
end TL

/- Drawn places. -/
set_option linter.unusedSimpArgs false
set_option linter.unusedVariables false
set_option maxRecDepth 100000
set_option maxHeartbeats 4000000
set_option pp.maxSteps 1500
namespace TL
open Go Go.Proofs
def SomePlace (x : V) : Prop := ∃ q : Place, q.story.length ≤ 10 ∧ (∀ c ∈ q.story, c.says.length ≤ 20) ∧ q.fit ∧ x = q.v
theorem fitBad : Claim.fit ⟨4, [⟨0, 0⟩]⟩ := ⟨⟨by simp, by simp⟩, by simp [fits]; exact fit_mk (by omega) (by omega) (by omega) (by omega)⟩
theorem claim_cells (c : Claim) : c.v.cells = [.int .i64 c.who, marksV c.says] := rfl
end TL

/- Drawn arguments of the statements. -/
set_option linter.unusedSimpArgs false
set_option linter.unusedVariables false
set_option maxRecDepth 100000
set_option maxHeartbeats 4000000
set_option pp.maxSteps 1500
namespace TL
open Go Go.Proofs
/-- What a function that draws from a code leaves: some value of a kind. -/
def Drawn (R : V → Prop) (m : Mem) (n : Nat) (t : T) (m' : Mem) (n' : Nat) : Prop := n ≤ n' ∧ (∃ x, R x ∧ t = .v x) ∧ m' = m
def DrawnPost (R : V → Prop) (m0 : Mem) (n0 : Nat) (t : T) (m' : Mem) (n' : Nat) : Prop := n0 ≤ n' ∧ (∃ x, bor true (upper n0 m') 4 t = some x ∧ R x) ∧ ∀ j, j < n0 → m' j = m0 j
theorem Drawn_of {f : Nat} {args : List T} {R : V → Prop} {m : Mem} {n : Nat} (hf : ∃ fn, Tryz.prog.funcs[f]? = some fn ∧ (fn.name == "runtime.NumGoroutine") = false ∧ fn.body.isNone = false)
    (h : (∀ j, n ≤ j → m j = none) → FnS Tryz.prog f m n args (DrawnPost R m n)) : FnS Tryz.prog f m n args (Drawn R m n) := by
  refine FnS_fresh hf fun hfr => ?_
  refine (h hfr).frz ?_
  rintro t m' n' ⟨hn, ⟨x, hx, hR⟩, hout⟩
  refine ⟨x, m, upper n m', ?_, ?_, ?_, hx, hn, ⟨x, hR, rfl⟩, rfl⟩
  · intro j b hb
    by_cases h : j < n
    · rw [hout j h, hb]
    · rw [hfr j (by omega)] at hb; cases hb
  · intro j b hb
    by_cases h : n ≤ j
    · simpa [h] using hb
    · simp [h] at hb
  · intro j
    by_cases h : n ≤ j
    · left; exact hfr j h
    · right; simp [h]
end TL

/- The law of places. -/
set_option linter.unusedSimpArgs false
set_option linter.unusedVariables false
set_option maxRecDepth 100000
set_option maxHeartbeats 4000000
set_option pp.maxSteps 1500
namespace TL
open Go Go.Proofs
attribute [local simp] marksV storyV codeV Claim.v Place.v
def worldOk (people w : Int) : Bool := peopleOk people && decide (0 ≤ w) && decide (w < 2 ^ people.toNat)
theorem markStep_mono {people : Int} {parts q : Nat} {m : Mark} (h : markStep people parts m = some q) : markStep (people + 1) parts m = some q := by
  unfold markStep at h ⊢
  repeat' split at h
  all_goals first
    | (cases h; done)
    | (simp_all; omega)
    | simp_all
theorem marksRun_mono {people : Int} : ∀ (ms : List Mark) (parts : Nat) (q : Nat), marksRun people parts ms = some q → marksRun (people + 1) parts ms = some q
  | [], parts, q, h => h
  | m :: ms, parts, q, h => by
    simp only [marksRun] at h ⊢
    cases e : markStep people parts m with
    | none => rw [e] at h; cases h
    | some r =>
      rw [e] at h
      rw [markStep_mono e]
      exact marksRun_mono ms r q h
theorem termOk_mono {people : Int} {t : List Mark} (hp : people < 4) (h : termOk people t = true) : termOk (people + 1) t = true := by
  simp only [termOk, peopleOk, Bool.and_eq_true, decide_eq_true_eq] at h ⊢
  obtain ⟨⟨⟨⟨h1, h2⟩, h3⟩, h4⟩, h5⟩ := h
  exact ⟨⟨⟨⟨by omega, by omega⟩, h3⟩, h4⟩, marksRun_mono _ _ _ h5⟩
theorem claimOk_mono {people : Int} {c : Claim} (hp : people < 4) (h : claimOk people c = true) : claimOk (people + 1) c = true := by
  simp only [claimOk, peopleOk, Bool.and_eq_true, decide_eq_true_eq] at h ⊢
  obtain ⟨⟨⟨⟨⟨h1, h2⟩, h3⟩, h4⟩, h5⟩, h6⟩ := h
  exact ⟨⟨⟨⟨⟨by omega, by omega⟩, h3⟩, by omega⟩, termOk_mono hp h5⟩, h6⟩
theorem placeOk_mono {p : Place} (hp : p.people < 4) (h : placeOk p = true) : placeOk ⟨p.people + 1, p.story⟩ = true := by
  simp only [placeOk, storyOk, peopleOk, Bool.and_eq_true, decide_eq_true_eq, List.all_eq_true] at h ⊢
  obtain ⟨⟨h1, h2, h3⟩, h4⟩ := h
  exact ⟨⟨fun c hc => claimOk_mono hp (h1 c hc), by omega, by omega⟩, h4⟩
theorem placeOk_alone {p : Place} (h : placeOk p = true) : placeOk ⟨p.people, []⟩ = true := by
  simp only [placeOk, storyOk, peopleOk, Bool.and_eq_true, decide_eq_true_eq, List.all_eq_true] at h ⊢
  obtain ⟨⟨h1, h2, h3⟩, h4⟩ := h
  exact ⟨⟨by simp, by omega, by omega⟩, by simp⟩
end TL

/- Drawn claims; the law of their texts. -/
set_option linter.unusedSimpArgs false
set_option linter.unusedVariables false
set_option maxRecDepth 100000
set_option maxHeartbeats 4000000
set_option pp.maxSteps 1500
namespace TL
open Go Go.Proofs
attribute [local simp] marksV storyV codeV Claim.v Place.v
/-- A number of people, and a claim. -/
def SomePC (x : V) : Prop := ∃ (people : Int) (c : Claim), 1 ≤ people ∧ people ≤ 4 ∧ c.says.length ≤ 20 ∧ c.fit ∧ x = .tup [.int .i64 people, c.v]
theorem claim_fine20 {c : Claim} (h : c.says.length ≤ 20) (hf : c.fit) : c.fine := ⟨hf.2, by omega⟩
end TL

/- Drawn texts of claims; the law of reading them. -/
set_option linter.unusedSimpArgs false
set_option linter.unusedVariables false
set_option maxRecDepth 100000
set_option maxHeartbeats 4000000
set_option pp.maxSteps 1500
namespace TL
open Go Go.Proofs
attribute [local simp] marksV storyV codeV Claim.v Place.v
def SomePS (x : V) : Prop := ∃ (people : Int) (s : List UInt8), s.length ≤ 200 ∧ x = .tup [.int .i64 people, .str s]
theorem odd_strs : ∃ vs : List V, vs = [.str [], .str [58], .str [97], .str [33], .str [40], .str [101]] ∧ ∀ r : Int, 0 ≤ r → r < 6 → ∃ x : List UInt8, x.length ≤ 1 ∧ vs[r.toNat]? = some (.str x) := by
  refine ⟨_, rfl, fun r h0 h6 => ?_⟩
  have : r = 0 ∨ r = 1 ∨ r = 2 ∨ r = 3 ∨ r = 4 ∨ r = 5 := by omega
  rcases this with rfl | rfl | rfl | rfl | rfl | rfl
  · exact ⟨[], by simp, rfl⟩
  · exact ⟨[58], by simp, rfl⟩
  · exact ⟨[97], by simp, rfl⟩
  · exact ⟨[33], by simp, rfl⟩
  · exact ⟨[40], by simp, rfl⟩
  · exact ⟨[101], by simp, rfl⟩
theorem readC_small {people : Int} {s : List UInt8} {c : Claim} (h : readC people s = some c) : c.says.length ≤ 13 := by
  have := claimOk_all (readC_is h).1; omega
end TL

/- Measures; the exact law of PlaceOk. -/
set_option linter.unusedSimpArgs false
set_option linter.unusedVariables false
set_option maxRecDepth 100000
set_option maxHeartbeats 4000000
set_option pp.maxSteps 1500
namespace TL
open Go Go.Proofs
attribute [local simp] marksV storyV codeV Claim.v Place.v
def mid (n : Nat) : Prop := n ≤ 9223372036854775807
def Claim.mid (c : Claim) : Prop := TL.mid c.says.length
def Place.mid (p : Place) : Prop := TL.mid p.story.length ∧ ∀ c ∈ p.story, c.mid
theorem szMarkS_fn (l : List Mark) (left : Int) (h0 : 0 ≤ left) (h1 : left ≤ 1048576) (hl : mid l.length) : FnZ Tryz.prog 109 [marksV l, .int .i64 left] (.int .i64 (szR left l.length)) := by
  unfold mid at hl
  have w : IntKind.wrap .i64 (left - l.length) = left - l.length := w64 (by omega) (by omega)
  refine FnZ_of (rs := [.tmp 4]) false Tryz.func109 rfl rfl rfl rfl (Nat.le_of_ble_eq_true rfl) ?_
  by_cases h : left - l.length < 0 <;> simp -dsimp [w, h, szR]
theorem szClaim_fn (c : Claim) (left : Int) (h0 : 0 ≤ left) (h1 : left ≤ 1048576) (hl : c.mid) : FnZ Tryz.prog 85 [c.v, .int .i64 left] (.int .i64 (szR left c.says.length)) := by
  refine FnZ_of (rs := [.tmp 4]) false Tryz.func85 rfl rfl rfl rfl (Nat.le_of_ble_eq_true rfl) ?_
  simp -dsimp
  refine call_ (szMarkS_fn c.says left h0 h1 hl) (by simp -dsimp) ?_
  by_cases h : left - c.says.length < 0
  · have e : szR left c.says.length = -1 := if_pos h
    simp -dsimp [e]
  · have e : szR left c.says.length = left - c.says.length := if_neg h
    simp -dsimp [e, h]
def saysSum (l : List Claim) : Nat := (l.map fun c => c.says.length).sum
theorem saysSum_take {l : List Claim} {i : Nat} (h : i < l.length) : saysSum (l.take (i + 1)) = saysSum (l.take i) + l[i].says.length := by
  unfold saysSum; rw [List.take_succ_eq_append_getElem h, List.map_append, List.sum_append]; rfl
theorem saysSum_le (l : List Claim) (i : Nat) : saysSum (l.take i) ≤ saysSum l := by
  have e : saysSum l = saysSum (l.take i ++ l.drop i) := by rw [List.take_append_drop]
  rw [e]; unfold saysSum; rw [List.map_append, List.sum_append]; omega
def SZC (l : List Claim) (left : Int) (e : Nat) (s : S) : Prop := ∃ i : Nat, s.tm 0 = .v (.sl (l.map Claim.v)) ∧ s.tm 1 = .v (.int .i64 (left - l.length - saysSum (l.take i))) ∧ s.tm 5 = .v (.int .i64 i) ∧ i ≤ l.length ∧ 0 ≤ left - l.length - saysSum (l.take i) ∧ (e = 1 → i = l.length)
theorem szClaimS_fn (l : List Claim) (left : Int) (h0 : 0 ≤ left) (h1 : left ≤ 1048576) (hl : mid l.length) (hc : ∀ c ∈ l, c.mid) : FnZ Tryz.prog 58 [storyV l, .int .i64 left] (.int .i64 (szR left (l.length + saysSum l))) := by
  unfold mid at hl
  have w : IntKind.wrap .i64 (left - l.length) = left - l.length := w64 (by omega) (by omega)
  refine FnZ_of (rs := [.tmp 4]) false Tryz.func58 rfl rfl rfl rfl (Nat.le_of_ble_eq_true rfl) ?_
  by_cases h : left - l.length < 0
  · have e : szR left (l.length + saysSum l) = -1 := if_pos (by omega)
    simp -dsimp [w, h, e]
  simp -dsimp [w, h]
  refine twp_loopC (SZC l left 0) (fun s => l.length - natOf (s.tm 5)) (SZC l left 1) ?_ ?_ ?_
  · exact ⟨0, by simp -dsimp, by simp -dsimp [saysSum], by simp -dsimp, by omega, by simp [saysSum]; omega, by simp⟩
  · rintro s ⟨i, t0, t1, t5, hi, hp, hend⟩
    by_cases hlt : i < l.length
    case neg =>
      simp -dsimp [t0, t5, hlt]
      exact ⟨i, by simp -dsimp [t0], by simp -dsimp [t1], by simp -dsimp [t5], hi, hp, fun _ => by omega⟩
    have hget : (l.map Claim.v)[i]? = some (l[i].v) := by simp [hlt]
    have wi : IntKind.wrap .i64 ((i : Int) + 1) = ((i + 1 : Nat) : Int) := by rw [w64 (by omega) (by omega)]; omega
    have hmu : l.length - (i + 1) < l.length - i := by omega
    have hs := saysSum_take hlt
    have hle := saysSum_le l (i + 1)
    simp -dsimp [t0, t1, t5, hlt, hget]
    refine call_ (szClaim_fn l[i] (left - l.length - saysSum (l.take i)) (by omega) (by omega) (hc _ (List.getElem_mem _))) (by simp -dsimp) ?_
    by_cases hn : left - l.length - saysSum (l.take i) - l[i].says.length < 0
    · have e1 : szR (left - l.length - saysSum (l.take i)) l[i].says.length = -1 := if_pos hn
      have e2 : szR left (l.length + saysSum l) = -1 := if_pos (by omega)
      simp -dsimp [e1, e2]
    · have e1 : szR (left - l.length - saysSum (l.take i)) l[i].says.length = left - l.length - saysSum (l.take (i + 1)) := by rw [szR, if_neg hn]; omega
      have e2 : ¬ left - l.length - saysSum (l.take (i + 1)) < 0 := by omega
      simp -dsimp [e1, e2, t5, wi, hmu]
      exact ⟨i + 1, by simp -dsimp [t0], by simp -dsimp, by simp -dsimp, by omega, by omega, by simp⟩
  · rintro s ⟨i, t0, t1, t5, hi, hp, hend⟩
    have := hend rfl
    subst this
    rw [List.take_length] at t1 hp
    have e : szR left (l.length + saysSum l) = left - l.length - saysSum l := by rw [szR, if_neg (by omega)]; omega
    simp -dsimp [t1, e]
def Place.bulk (p : Place) : Nat := p.story.length + saysSum p.story
theorem szPlace_fn (p : Place) (left : Int) (h0 : 0 ≤ left) (h1 : left ≤ 1048576) (hp : p.mid) : FnZ Tryz.prog 25 [p.v, .int .i64 left] (.int .i64 (szR left p.bulk)) := by
  refine FnZ_of (rs := [.tmp 4]) false Tryz.func25 rfl rfl rfl rfl (Nat.le_of_ble_eq_true rfl) ?_
  simp -dsimp
  refine call_ (szClaimS_fn p.story left h0 h1 hp.1 hp.2) (by simp -dsimp) ?_
  by_cases h : left - p.bulk < 0
  · have e : szR left (p.story.length + saysSum p.story) = -1 := if_pos h
    simp -dsimp [e, Place.bulk]
  · have e : szR left (p.story.length + saysSum p.story) = left - p.bulk := if_neg h
    have e2 : szR left p.bulk = left - p.bulk := if_neg h
    simp -dsimp [e, h, e2]
theorem saysSum_mem {l : List Claim} {c : Claim} (h : c ∈ l) : c.says.length ≤ saysSum l := by
  induction l with
  | nil => cases h
  | cons y ys ih =>
    rcases List.mem_cons.1 h with rfl | h
    · simp [saysSum]
    · have := ih h; simp only [saysSum, List.map_cons, List.sum_cons] at this ⊢; omega
theorem Place.small_of {p : Place} (h : ¬ (1048576 : Int) - p.bulk < 0) : p.small := by
  unfold Place.bulk at h
  exact ⟨by omega, fun c hc => by have := saysSum_mem hc; unfold Claim.small; omega⟩
end TL

/- TL, part 21: what the reading of an argument says: the pure value that it is. -/
set_option linter.unusedVariables false
set_option linter.unusedSimpArgs false
namespace TL
open Go Go.RowKit
/-- All that lies in memory. -/
def ZA (w : World) : Zs := fun k _ => k < w.heap.size
/-- Whatever is read at a type is a row of pure cells of a kind. -/
def Opens (P : Program) (w : World) (t : TypeId) (R : List V → Prop) : Prop :=
  ∀ (H : Type) (enc : TypeId × Value → H) (base : Nat) (sp : Nat → Bool) (held : Bool) (fuel : Nat) (cs : List Value) (x : DataW H × List MemPlace), DataW.trod enc P w base sp held fuel t cs = some x → ∃ vs, RepCs (ZA w) w vs cs ∧ R vs
section
variable {P : Program} {w : World} {t : TypeId}
theorem RepCs.append {Z : Zs} {a b : List V} {us vs : List Value} (h : RepCs Z w a us) (g : RepCs Z w b vs) : RepCs Z w (a ++ b) (us ++ vs) := by
  induction a generalizing us with
  | nil => cases h; exact g
  | cons x xs ih => cases h with | cons hc h t => exact .cons hc h (ih t)
theorem Opens.mono {R R' : List V → Prop} (h : Opens P w t R) (hr : ∀ vs, R vs → R' vs) : Opens P w t R' := fun H enc base sp held fuel cs x hx => by
  obtain ⟨vs, h1, h2⟩ := h H enc base sp held fuel cs x hx
  exact ⟨vs, h1, hr vs h2⟩
theorem opens_int {k : IntKind} (ht : P.underlying t = some (.int k)) : Opens P w t fun vs => ∃ n, vs = [.int k n] ∧ (Lit.int k n).wf = true := fun H enc base sp held fuel cs x hx => by
  obtain ⟨n, rfl, _, hw⟩ := DataW.trod_int ht hx
  exact ⟨_, .cons rfl (.int _ _) .nil, n, rfl, hw⟩
theorem opens_bool (ht : P.underlying t = some .bool) : Opens P w t fun vs => ∃ b, vs = [.bool b] := fun H enc base sp held fuel cs x hx => by
  obtain ⟨b, rfl, _⟩ := DataW.trod_bool ht hx
  exact ⟨_, .cons rfl (.bool _) .nil, b, rfl⟩
theorem opens_string (ht : P.underlying t = some .string) : Opens P w t fun vs => ∃ s : List UInt8, vs = [.str s] ∧ s.length ≤ maxLen := fun H enc base sp held fuel cs x hx => by
  obtain ⟨s, rfl, _, hs⟩ := DataW.trod_string ht hx
  exact ⟨_, .cons rfl (.str rfl) .nil, _, rfl, by simpa using hs⟩
theorem opens_slice {e : TypeId} {z : Nat} {α : Type} {v : α → V} {Q : α → Prop} (ht : P.underlying t = some (.slice e)) (hc : P.cellsOf e = z) (hz : 0 < z)
    (ho : Opens P w e fun vs => ∃ a, Q a ∧ (v a = .agg vs ∨ (z = 1 ∧ vs = [v a]))) : Opens P w t fun vs => ∃ l : List α, vs = [.sl (l.map v)] ∧ l.length ≤ maxLen ∧ ∀ a ∈ l, Q a := fun H enc base sp held fuel cs x hx => by
  rcases DataW.trod_slice ht hx with ⟨rfl, _⟩ | ⟨a, len, cap, elems, rest, n, _, rfl, rfl, hb, hl, hm, hlen, hel, _⟩
  · exact ⟨_, .cons rfl (.nil _ _) .nil, [], rfl, by simp, by simp⟩
  · have key : ∀ m k, k + m = len → ∃ (l : List α) (us : List Value), l.length = m ∧ RepEs (ZA w) w z (l.map v) us ∧ (∀ a ∈ l, Q a) ∧ ∀ i u, us[i]? = some u → w.cell? (a.add (k * z + i)) = some u := by
      intro m
      induction m with
      | zero => intro k _; exact ⟨[], [], rfl, .nil z, by simp, by simp⟩
      | succ m ih =>
        intro k hk
        obtain ⟨l, us, h1, h2, h3, h4⟩ := ih (k + 1) (by omega)
        have he := hel k (by omega)
        have : k < elems.length := by omega
        rw [List.getElem?_eq_getElem this, Option.bind_eq_some_iff] at he
        obtain ⟨ci, hci, htr⟩ := he
        obtain ⟨_, hcl, hcell⟩ := World.cells?_some hci
        obtain ⟨vs, hrep, y, hQ, hv⟩ := ho H enc base sp held n ci _ htr
        have hlz : ci.length = z := by rw [hcl, hc]
        refine ⟨y :: l, ci ++ us, by simp [h1], ?_, ?_, ?_⟩
        · rcases hv with hv | ⟨rfl, rfl⟩
          · show RepEs (ZA w) w z (v y :: l.map v) (ci ++ us)
            rw [hv]; exact .agg hrep hlz h2
          · cases hrep with | cons hcc hx' t => cases t; exact .one hcc hx' h2
        · intro b hb; rcases List.mem_cons.1 hb with rfl | hb
          · exact hQ
          · exact h3 b hb
        · intro i u hu
          by_cases hi : i < z
          · rw [List.getElem?_append_left (by omega)] at hu
            have := hcell i (by omega)
            rw [hc, add_add, hu] at this
            exact this
          · rw [List.getElem?_append_right (by omega)] at hu
            have := h4 _ u hu
            rw [hlz, show (k + 1) * z + (i - z) = k * z + i by rw [Nat.succ_mul]; omega] at this
            exact this
    obtain ⟨l, us, h1, h2, h3, h4⟩ := key len 0 (by omega)
    refine ⟨_, .cons rfl (.sl h2 (by simp [h1]) hl hm fun i u hu => ?_) .nil, l, rfl, by omega, h3⟩
    have := h4 i u hu
    rw [Nat.zero_mul, Nat.zero_add] at this
    exact ⟨this, World.block_lt_of_cell? w _ this⟩
theorem opens_struct2 {f0 f1 : Field} {R0 R1 : List V → Prop} (ht : P.underlying t = some (.struct #[f0, f1])) (o0 : f0.offset = 0) (o1 : f1.offset = P.cellsOf f0.type) (hz : P.cellsOf t = P.cellsOf f0.type + P.cellsOf f1.type)
    (h0 : Opens P w f0.type R0) (h1 : Opens P w f1.type R1) : Opens P w t fun vs => ∃ v0 v1, vs = v0 ++ v1 ∧ R0 v0 ∧ R1 v1 := fun H enc base sp held fuel cs x hx => by
  obtain ⟨xs, n, _, _, hcl, hxl, hf⟩ := DataW.trod_struct ht hx
  have e0 := hf 0 f0 rfl
  have e1 := hf 1 f1 rfl
  have hxl : xs.length = 2 := hxl
  rw [List.getElem?_eq_getElem (by omega)] at e0 e1
  obtain ⟨v0, r0, q0⟩ := h0 H enc base sp held n _ _ e0
  obtain ⟨v1, r1, q1⟩ := h1 H enc base sp held n _ _ e1
  refine ⟨v0 ++ v1, ?_, v0, v1, rfl, q0, q1⟩
  have := r0.append r1
  rw [o0, o1, List.drop_zero, List.take_of_length_le (l := cs.drop _) (by simp; omega), List.take_append_drop] at this
  exact this
theorem opens_struct3 {f0 f1 f2 : Field} {R0 R1 R2 : List V → Prop} (ht : P.underlying t = some (.struct #[f0, f1, f2])) (o0 : f0.offset = 0) (o1 : f1.offset = P.cellsOf f0.type) (o2 : f2.offset = P.cellsOf f0.type + P.cellsOf f1.type)
    (hz : P.cellsOf t = P.cellsOf f0.type + P.cellsOf f1.type + P.cellsOf f2.type)
    (h0 : Opens P w f0.type R0) (h1 : Opens P w f1.type R1) (h2 : Opens P w f2.type R2) : Opens P w t fun vs => ∃ v0 v1 v2, vs = v0 ++ v1 ++ v2 ∧ R0 v0 ∧ R1 v1 ∧ R2 v2 := fun H enc base sp held fuel cs x hx => by
  obtain ⟨xs, n, _, _, hcl, hxl, hf⟩ := DataW.trod_struct ht hx
  have e0 := hf 0 f0 rfl
  have e1 := hf 1 f1 rfl
  have e2 := hf 2 f2 rfl
  have hxl : xs.length = 3 := hxl
  rw [List.getElem?_eq_getElem (by omega)] at e0 e1 e2
  obtain ⟨v0, r0, q0⟩ := h0 H enc base sp held n _ _ e0
  obtain ⟨v1, r1, q1⟩ := h1 H enc base sp held n _ _ e1
  obtain ⟨v2, r2, q2⟩ := h2 H enc base sp held n _ _ e2
  refine ⟨v0 ++ v1 ++ v2, ?_, v0, v1, v2, rfl, q0, q1, q2⟩
  have := (r0.append r1).append r2
  rw [o0, o1, o2, List.drop_zero, List.take_of_length_le (l := cs.drop (_ + _)) (by simp; omega)] at this
  have e : cs.take (P.cellsOf f0.type) ++ (cs.drop (P.cellsOf f0.type)).take (P.cellsOf f1.type) ++ cs.drop (P.cellsOf f0.type + P.cellsOf f1.type) = cs := by
    rw [List.append_assoc, ← List.drop_drop, List.take_append_drop, List.take_append_drop]
  rw [e] at this
  exact this
theorem rep_one {R : List V → Prop} {H : Type} {enc : TypeId × Value → H} {base : Nat} {sp : Nat → Bool} {held : Bool} {v : Value} {d : DataW H} {p : List MemPlace} (ho : Opens P w t R) (h : DataW.Trod enc P w base sp held t v d p) (hv : v.cells = #[v]) : ∃ x, RepV (ZA w) w x v ∧ R [x] := by
  obtain ⟨fuel, h⟩ := h
  obtain ⟨vs, h1, h2⟩ := ho H enc base sp held fuel _ _ h
  rw [hv] at h1
  cases h1 with | cons hc hx t => cases t; exact ⟨_, hx, h2⟩
theorem rep_agg {R : List V → Prop} {H : Type} {enc : TypeId × Value → H} {base : Nat} {sp : Nat → Bool} {held : Bool} {cs : Array Value} {d : DataW H} {p : List MemPlace} (ho : Opens P w t R) (h : DataW.Trod enc P w base sp held t (.agg cs) d p) : ∃ vs, RepV (ZA w) w (.agg vs) (.agg cs) ∧ R vs := by
  obtain ⟨fuel, h⟩ := h
  obtain ⟨vs, h1, h2⟩ := ho H enc base sp held fuel _ _ h
  have h1 : RepCs (ZA w) w vs cs.toList := h1
  exact ⟨vs, by have := RepV.agg h1; simpa using this, h2⟩
/-- A law's contract over pure values, for the machine. -/
theorem law_walk {f : Nat} {args : List V} {us : List Value} (law : FnZ P f args (.bool true)) (hgl : Gl P (ZA w) w) (hr : RepVs (ZA w) w args us) :
    Calls P f us.toArray w fun e w' => e = .returned (.bool true) ∧ Below w.heap.size w w' := by
  have hc := law.2 (ZA w) w us ⟨fun _ _ h => h, hgl⟩ hr
  intro c
  obtain ⟨e, w', fr, h1, h2⟩ := hc c
  refine ⟨e, w', fr, ?_, h2⟩
  obtain ⟨v, rfl, hb, hv⟩ := h1
  cases hv
  exact ⟨rfl, hb⟩
end
end TL

/- What the arguments of the exact laws are. -/
set_option linter.unusedVariables false
set_option linter.unusedSimpArgs false
namespace TL
open Go Go.Proofs
theorem fit_wf {n : Int} (h : (Lit.int .i64 n).wf = true) : fit n := by
  simp [Lit.wf, IntKind.min, IntKind.max, IntKind.signed, IntKind.bits] at h
  unfold fit; omega
theorem opens_mark (w : World) : Opens Tryz.prog w 161 fun vs => ∃ a : Mark, a.fit ∧ a.v = .agg vs :=
  (opens_struct2 Tryz.underlying161 rfl (by kernel_rfl) (by kernel_rfl) (opens_int Tryz.underlying3) (opens_int Tryz.underlying3)).mono fun vs h => by
    obtain ⟨v0, v1, rfl, ⟨n0, rfl, w0⟩, ⟨n1, rfl, w1⟩⟩ := h
    exact ⟨⟨n0, n1⟩, ⟨fit_wf w0, fit_wf w1⟩, rfl⟩
theorem opens_marks (w : World) : Opens Tryz.prog w 114 fun vs => ∃ l : List Mark, vs = [.sl (l.map Mark.v)] ∧ l.length ≤ maxLen ∧ ∀ a ∈ l, a.fit :=
  opens_slice Tryz.underlying114 (z := 2) (by kernel_rfl) (by omega) ((opens_mark w).mono fun vs h => by obtain ⟨a, h1, h2⟩ := h; exact ⟨a, h1, .inl h2⟩)
theorem opens_claim (w : World) : Opens Tryz.prog w 116 fun vs => ∃ a : Claim, (a.fit ∧ a.mid) ∧ a.v = .agg vs :=
  (opens_struct2 Tryz.underlying116 rfl (by kernel_rfl) (by kernel_rfl) (opens_int Tryz.underlying3) (opens_marks w)).mono fun vs h => by
    obtain ⟨v0, v1, rfl, ⟨n0, rfl, w0⟩, ⟨l, rfl, hl, hf⟩⟩ := h
    exact ⟨⟨n0, l⟩, ⟨⟨fit_wf w0, hf⟩, by simpa [Claim.mid, mid, maxLen] using hl⟩, rfl⟩
theorem opens_claims (w : World) : Opens Tryz.prog w 22 fun vs => ∃ l : List Claim, vs = [.sl (l.map Claim.v)] ∧ l.length ≤ maxLen ∧ ∀ a ∈ l, a.fit ∧ a.mid :=
  opens_slice Tryz.underlying22 (z := 2) (by kernel_rfl) (by omega) ((opens_claim w).mono fun vs h => by obtain ⟨a, h1, h2⟩ := h; exact ⟨a, h1, .inl h2⟩)
theorem opens_place (w : World) : Opens Tryz.prog w 24 fun vs => ∃ a : Place, (a.fit ∧ a.mid) ∧ a.v = .agg vs :=
  (opens_struct2 Tryz.underlying24 rfl (by kernel_rfl) (by kernel_rfl) (opens_int Tryz.underlying3) (opens_claims w)).mono fun vs h => by
    obtain ⟨v0, v1, rfl, ⟨n0, rfl, w0⟩, ⟨l, rfl, hl, hf⟩⟩ := h
    exact ⟨⟨n0, l⟩, ⟨⟨fit_wf w0, fun c hc => (hf c hc).1⟩, by simpa [mid, maxLen] using hl, fun c hc => (hf c hc).2⟩, rfl⟩
theorem opens_int' (w : World) : Opens Tryz.prog w 3 fun vs => ∃ n : Int, fit n ∧ vs = [.int .i64 n] :=
  (opens_int Tryz.underlying3).mono fun vs h => by obtain ⟨n, rfl, hw⟩ := h; exact ⟨n, fit_wf hw, rfl⟩
theorem opens_code (w : World) : Opens Tryz.prog w 108 fun vs => ∃ bs : List UInt8, vs = [codeV bs] :=
  (opens_slice (α := UInt8) (v := fun b => V.int .u8 b.toNat) (Q := fun _ => True) Tryz.underlying108 (z := 1) (by kernel_rfl) (by omega) ((opens_int Tryz.underlying5).mono fun vs h => by
    obtain ⟨n, rfl, hw⟩ := h
    refine ⟨UInt8.ofNat n.toNat, trivial, .inr ⟨rfl, ?_⟩⟩
    have e : ((UInt8.ofNat n.toNat).toNat : Int) = n := by
      simp [Lit.wf, IntKind.min, IntKind.max, IntKind.signed, IntKind.bits] at hw
      rw [UInt8.toNat_ofNat']; omega
    rw [e])).mono fun vs h => by obtain ⟨l, rfl, _, _⟩ := h; exact ⟨l, rfl⟩
end TL

/- Claims that are read, in memory of the caller's own; the exact law of reading claims. -/
set_option linter.unusedSimpArgs false
set_option linter.unusedVariables false
set_option maxRecDepth 100000
set_option maxHeartbeats 4000000
set_option pp.maxSteps 1500
namespace TL
open Go Go.Proofs
attribute [local simp] marksV storyV codeV Claim.v Place.v
theorem mkT_flat (l : List Mark) : (l.map Mark.v).flatMap (fun x => x.cells.map T.v) = mkT l := by
  induction l with
  | nil => rfl
  | cons a l ih => rw [List.map_cons, List.flatMap_cons, ih]; rfl
theorem mkT_kind (k : Int) : ∀ (l : List Mark) (i : Nat), (h : i < l.length) → (mkT l).set (i * 2) (.v (.int .i64 k)) = mkT (l.set i ⟨k, l[i].num⟩)
  | [], i, h => by simp at h
  | a :: l, 0, h => rfl
  | a :: l, i + 1, h => by
    have e : (i + 1) * 2 = i * 2 + 1 + 1 := by omega
    rw [e]
    show T.v _ :: T.v _ :: (mkT l).set (i * 2) _ = T.v _ :: T.v _ :: mkT (l.set i _)
    rw [mkT_kind k l i (by simpa using h)]; rfl
theorem mkT_num (k : Int) : ∀ (l : List Mark) (i : Nat), (h : i < l.length) → (mkT l).set (i * 2 + 1) (.v (.int .i64 k)) = mkT (l.set i ⟨l[i].kind, k⟩)
  | [], i, h => by simp at h
  | a :: l, 0, h => rfl
  | a :: l, i + 1, h => by
    have e : (i + 1) * 2 + 1 = (i * 2 + 1) + 1 + 1 := by omega
    rw [e]
    show T.v _ :: T.v _ :: (mkT l).set (i * 2 + 1) _ = T.v _ :: T.v _ :: mkT (l.set i _)
    rw [mkT_num k l i (by simpa using h)]; rfl
/-- Marks that count on from k. -/
def cnts (k : Int) : Nat → List Mark
  | 0 => []
  | n + 1 => cnts k n ++ [⟨k + 2 * n, k + 2 * n + 1⟩]
@[simp] theorem cnts_length (k : Int) (n : Nat) : (cnts k n).length = n := by
  induction n with
  | zero => rfl
  | succ n ih => simp [cnts, ih]
theorem cnts_get (k : Int) : ∀ (n i : Nat) (h : i < n), (cnts k n)[i]? = some ⟨k + 2 * i, k + 2 * i + 1⟩
  | n + 1, i, h => by
    unfold cnts
    by_cases hi : i < n
    · rw [List.getElem?_append_left (by simpa using hi)]; exact cnts_get k n i hi
    · have : i = n := by omega
      subst this
      rw [List.getElem?_append_right (by simp)]; simp
theorem cnts_step (k : Int) (l : List Mark) (i : Nat) (h : i < l.length) (a : Int) : ((cnts k i ++ l.drop i).set i ⟨k + 2 * i, a⟩).set i ⟨k + 2 * i, k + 2 * i + 1⟩ = cnts k (i + 1) ++ l.drop (i + 1) := by
  rw [List.set_set, List.set_append_right _ _ (by simp), cnts_length, Nat.sub_self, drop_cons h, List.set_cons_zero]
  simp [cnts]
def Imk (id : Nat) (l : List Mark) (k : Int) (m0 : Mem) (n0 : Nat) (e : Nat) (s : S) : Prop := ∃ i : Nat, s.tm 0 = .sv id 0 l.length ∧ s.tm 1 = .v (.int .i64 (k + 2 * i)) ∧ s.tm 5 = .v (.int .i64 i) ∧ i ≤ l.length ∧ n0 ≤ s.n ∧ s.m = updM m0 id (some (.box 126 2 (mkT (cnts k i ++ l.drop i)))) ∧ (e = 1 → i = l.length)
theorem markMarkS_fn (l : List Mark) (k : Int) (hl : l.length ≤ 1000000000) (hk0 : 0 ≤ k) (hk : k ≤ 100000000000000) (m : Mem) (n id : Nat) (hm : m id = some (.box 126 2 (mkT l))) :
    FnS Tryz.prog 103 m n [.sv id 0 l.length, .v (.int .i64 k)] (fun t m' n' => t = .v (.int .i64 (k + 2 * l.length)) ∧ n ≤ n' ∧ m' = updM m id (some (.box 126 2 (mkT (cnts k l.length))))) := by
  refine FnS_of (rs := [.tmp 4]) false Tryz.func103 rfl rfl rfl rfl (Nat.le_of_ble_eq_true rfl) ?_
  simp -dsimp
  refine twp_loopC (Imk id l k m n 0) (fun s => l.length - natOf (s.tm 5)) (Imk id l k m n 1) ?_ ?_ ?_
  · exact ⟨0, by simp -dsimp, by simp -dsimp, by simp -dsimp, by omega, by simp -dsimp, by simp -dsimp [cnts]; exact (updM_self hm).symm, by simp⟩
  · rintro s ⟨i, t0, t1, t5, hi, hn, hmm, hend⟩
    by_cases hlt : i < l.length
    case neg =>
      simp -dsimp [t0, t5, hlt]
      exact ⟨i, by simp -dsimp [t0], by simp -dsimp [t1], by simp -dsimp [t5], hi, by simp -dsimp [hn], by simp -dsimp [hmm], fun _ => by omega⟩
    have hL : (cnts k i ++ l.drop i).length = l.length := by simp; omega
    have e1 := mkT_kind (k + 2 * i) (cnts k i ++ l.drop i) i (by omega)
    generalize hnum : ((cnts k i ++ l.drop i)[i]'(by omega)).num = nu at *
    have e2 := mkT_num (k + 2 * i + 1) ((cnts k i ++ l.drop i).set i ⟨k + 2 * i, nu⟩) i (by simp; omega)
    have e3 : (((cnts k i ++ l.drop i).set i ⟨k + 2 * i, nu⟩)[i]'(by simp; omega)).kind = k + 2 * i := by simp
    rw [e3, cnts_step k l i hlt] at e2
    have hmi : s.m id = some (.box 126 2 (mkT (cnts k i ++ l.drop i))) := by rw [hmm, updM_same]
    have hlen1 : (mkT (cnts k i ++ l.drop i)).length = l.length * 2 := by rw [mkT_length, hL]
    have hlen2 : (mkT ((cnts k i ++ l.drop i).set i ⟨k + 2 * i, nu⟩)).length = l.length * 2 := by rw [mkT_length, List.length_set, hL]
    have wi : IntKind.wrap .i64 ((i : Int) + 1) = ((i + 1 : Nat) : Int) := by rw [w64 (by omega) (by omega)]; omega
    have w1 : IntKind.wrap .i64 (k + 2 * i + 1) = k + 2 * i + 1 := w64 (by omega) (by omega)
    have w2 : IntKind.wrap .i64 (k + 2 * i + 1 + 1) = k + 2 * ((i + 1 : Nat) : Int) := by rw [w64 (by omega) (by omega)]; omega
    have hmu : l.length - (i + 1) < l.length - i := by omega
    have hlt' : (i : Int) < (l.length : Int) := by omega
    have o1 : i * 2 + 1 ≤ l.length * 2 := by omega
    have o2 : i * 2 + 1 + 1 ≤ l.length * 2 := by omega
    have o3 : i * 2 < l.length * 2 := by omega
    have o4 : i * 2 + 1 < l.length * 2 := by omega
    generalize mkT (cnts k i ++ l.drop i) = c1 at *
    generalize mkT ((cnts k i ++ l.drop i).set i ⟨k + 2 * i, nu⟩) = c2 at *
    generalize hc3 : mkT (cnts k (i + 1) ++ l.drop (i + 1)) = c3 at *
    simp -dsimp [t0, t1, t5, hlt, hlt', hmi, hlen1, hlen2, setAt, e1, e2, w1, w2, wi, hmu, o1, o2, o3, o4]
    refine st_out fun s' ht hm' hn' hu' => ?_
    have a0 := ht 0
    have a1 := ht 1
    have a5 := ht 5
    simp -dsimp [t0] at a0 a1 a5 hm' hn' hu'
    clear ht
    refine ⟨i + 1, a0, by rw [a1]; congr 3, a5, by omega, by omega, ?_, by simp⟩
    rw [hm', hmm, hc3]; simp
  · rintro s ⟨i, t0, t1, t5, hi, hn, hmm, hend⟩
    have hil := hend rfl
    rw [hil, List.drop_length, List.append_nil] at hmm
    rw [hil] at t1
    simp -dsimp [t1]
    exact ⟨hn, hmm⟩
def IhdM (k : Int) (l : Nat) (e : Nat) (s : S) : Prop := ∃ i : Nat, s.tm 0 = .v (.sl ((cnts k l).map Mark.v)) ∧ s.tm 1 = .v (.int .i64 (k + 2 * i)) ∧ s.tm 5 = .v (.int .i64 i) ∧ i ≤ l ∧ (e = 1 → i = l)
theorem heldMarkS_fn (l : Nat) (k : Int) (hl : l ≤ 1000000000) (hk0 : 0 ≤ k) (hk : k ≤ 100000000000000) : FnZ Tryz.prog 104 [.sl ((cnts k l).map Mark.v), .int .i64 k] (.int .i64 (k + 2 * l)) := by
  refine FnZ_of (rs := [.tmp 4]) false Tryz.func104 rfl rfl rfl rfl (Nat.le_of_ble_eq_true rfl) ?_
  simp -dsimp
  refine twp_loopC (IhdM k l 0) (fun s => l - natOf (s.tm 5)) (IhdM k l 1) ?_ ?_ ?_
  · exact ⟨0, by simp -dsimp, by simp -dsimp, by simp -dsimp, by omega, by simp⟩
  · rintro s ⟨i, t0, t1, t5, hi, hend⟩
    by_cases hlt : i < l
    case neg =>
      simp -dsimp [t0, t5, hlt]
      exact ⟨i, by simp -dsimp [t0], by simp -dsimp [t1], by simp -dsimp [t5], hi, fun _ => by omega⟩
    have hget : ((cnts k l).map Mark.v)[i]? = some (Mark.v ⟨k + 2 * i, k + 2 * i + 1⟩) := by rw [List.getElem?_map, cnts_get k l i hlt]; rfl
    have hcl : ((cnts k l).map Mark.v).length = l := by simp
    have wi : IntKind.wrap .i64 ((i : Int) + 1) = ((i + 1 : Nat) : Int) := by rw [w64 (by omega) (by omega)]; omega
    have w1 : IntKind.wrap .i64 (k + 2 * i + 1) = k + 2 * i + 1 := w64 (by omega) (by omega)
    have w2 : IntKind.wrap .i64 (k + 2 * i + 1 + 1) = k + 2 * ((i + 1 : Nat) : Int) := by rw [w64 (by omega) (by omega)]; omega
    have hmu : l - (i + 1) < l - i := by omega
    generalize hrow : (cnts k l).map Mark.v = row at *
    have hlt2 : i < row.length := by omega
    have hget2 : row[i] = Mark.v ⟨k + 2 * i, k + 2 * i + 1⟩ := by rw [List.getElem?_eq_getElem hlt2] at hget; exact Option.some.inj hget
    simp -dsimp [t0, t1, t5, hlt, hlt2, hcl, hget2, w1, w2, wi, hmu]
    refine st_out fun s' ht hm' hn' hu' => ?_
    have a0 := ht 0
    have a1 := ht 1
    have a5 := ht 5
    simp -dsimp [t0] at a0 a1 a5 hm' hn' hu'
    clear ht
    exact ⟨i + 1, by rw [a0, hrow], by rw [a1]; congr 3, a5, by omega, by simp⟩
  · rintro s ⟨i, t0, t1, t5, hi, hend⟩
    have hil := hend rfl
    rw [hil] at t1
    simp -dsimp [t1]
/-- A row of marks in memory of one's own. -/
def OwnRow (m' : Mem) (n n' : Nat) (st : T) (l : List Mark) : Prop := ∃ id, st = .sv id 0 l.length ∧ n ≤ id ∧ id < n' ∧ m' id = some (.box 126 2 (mkT l))
theorem cloneMarks_own (l : List Mark) (h0 : l ≠ []) (hl : l.length ≤ 1048576) (m : Mem) (n : Nat) : FnS Tryz.prog 94 m n [.v (marksV l)] (fun t m' n' => n ≤ n' ∧ (∀ j, j < n → m' j = m j) ∧ OwnRow m' n n' t l) := by
  have b1 : l.length * 16 ≤ 140737488355328 := by omega
  have hfl := mkT_flat l
  refine FnS_of (rs := [.tmp 2]) true Tryz.func94 rfl rfl rfl rfl (Nat.le_of_ble_eq_true rfl) ?_
  simp -dsimp [b1, h0, hfl]
  exact ⟨by omega, fun j hj => by simp [far hj], n + 1, rfl, by omega, by omega, by simp⟩
theorem claimBy_own (people who : Int) (t : List Mark) (hk : claimOk people ⟨who, t⟩ = true) (m : Mem) (n : Nat) :
    FnS Tryz.prog 69 m n [.v (.int .i64 people), .v (.int .i64 who), .v (marksV t)] (fun x m' n' => n ≤ n' ∧ (∀ j, j < n → m' j = m j) ∧ ∃ st, x = .tup [.agg [.v (.int .i64 who), st], .v (.bool true)] ∧ OwnRow m' n n' st t) := by
  have hc := claimOk_fn people ⟨who, t⟩
  rw [hk] at hc
  have ht := (claimOk_all hk).2.2.2.2
  have hl := ht.2
  have h0 : t ≠ [] := by rintro rfl; have := termOk_pos ht.1; simp at this
  simp only at hl h0
  refine FnS_of (rs := [.cell 6 74, .tmp 7]) true Tryz.func69 rfl rfl rfl rfl (Nat.le_of_ble_eq_true rfl) ?_
  simp -dsimp
  refine callS_ (cloneMarks_own t h0 (by omega) _ _) ?_
  rintro x m1 n1 ⟨hn1, hout, id, rfl, hi0, hi1, hmi⟩
  have f1 := far hi1
  have f2 := far (show n < n1 by omega)
  have g1 : ¬ id = n := by omega
  have hmn := hout n (by omega)
  simp -dsimp [f1, f2, g1, Ne.symm g1] at hmn ⊢
  have hb := bor_marks (m := updM m1 n1 (some (.box 74 2 [.v (.int .i64 who), .sv id 0 t.length]))) (i := id) (e := 126) (ms := t) 2 (by simp [f1, hmi])
  refine callM_ hc (by simp -dsimp [f1, f2, hb, hmi]) rfl ?_
  simp -dsimp [f1, f2, g1, Ne.symm g1, hmn]
  refine ⟨by omega, fun j hj => ?_, id, rfl, by omega, by omega, by simp [f1, g1, hmi]⟩
  have q1 : ¬ j = n := by omega
  have q2 : ¬ j = n1 := by omega
  rw [if_neg q1, if_neg q2, hout j (by omega)]; simp [q1]
theorem readC_len' {people : Int} {s : List UInt8} {c : Claim} (h : readC people s = some c) : 3 ≤ s.length ∧ s.length ≤ 27 := by
  obtain ⟨h1, h2⟩ := readC_is h
  rw [← h2]; exact ⟨(claimTx_len h1).1, (claimTx_len h1).2.1⟩
theorem readClaim_own (people : Int) (s : List UInt8) (c : Claim) (hl : s.length ≤ 2000000000) (hr : readC people s = some c) (m : Mem) (n : Nat) :
    FnS Tryz.prog 36 m n [.v (.int .i64 people), .v (.str s)] (fun x m' n' => n ≤ n' ∧ (∀ j, j < n → m' j = m j) ∧ ∃ st, x = .tup [.agg [.v (.int .i64 c.who), st], .v (.bool true)] ∧ OwnRow m' n n' st c.says) := by
  match s, hl, hr with
  | [], hl, hr => cases hr
  | [a], hl, hr => cases hr
  | a :: b :: s, hl, hr =>
    have hlen := readC_len' hr
    simp only [List.length_cons] at hlen
    by_cases hb : b = 58
    case neg => 
      have : readC people (a :: b :: s) = none := if_neg hb
      rw [this] at hr; cases hr
    subst hb
    have e : readC people (a :: 58 :: s) = (readT people s).bind fun t => if claimOk people ⟨(a.toNat : Int) - 97, t⟩ = true then some ⟨(a.toNat : Int) - 97, t⟩ else none := rfl
    rw [e] at hr
    have ht := readTerm_fn people s (by simp at hl; omega)
    cases ho : readT people s with
    | none => rw [ho] at hr; cases hr
    | some t =>
      rw [ho, Option.bind_some] at hr
      rw [ho] at ht
      have hk := ft (claimOk people ⟨(a.toNat : Int) - 97, t⟩)
      rcases hk with hk | hk
      · rw [if_neg (by simp [hk])] at hr; cases hr
      rw [if_pos hk] at hr
      cases hr
      have hlt := UInt8.toNat_lt a
      have w1 : IntKind.wrap .i64 ((a.toNat : Int) - 97) = (a.toNat : Int) - 97 := w64 (by omega) (by omega)
      have w2 : IntKind.wrap .i64 (a.toNat : Int) = (a.toNat : Int) := w64 (by omega) (by omega)
      have h3' : ¬ ((s.length : Int) + 1 + 1 < 3) := by omega
      have l2 : (2 : Int) ≤ (s.length : Int) + 1 + 1 := by omega
      have l3 : ((s.length : Int) + 1 + 1).toNat = s.length + 1 + 1 := by omega
      have hcb := claimBy_own people ((a.toNat : Int) - 97) t hk
      refine FnS_of (rs := [.cell 4 74, .tmp 5]) true Tryz.func36 rfl rfl rfl rfl (Nat.le_of_ble_eq_true rfl) ?_
      simp -dsimp [h3', l2, l3]
      refine call_ ht (by simp -dsimp) ?_
      simp -dsimp [optV, w1, w2]
      refine callS_ (hcb _ _) ?_
      rintro x m1 n1 ⟨hn1, hout, st, rfl, id, rfl, hi0, hi1, hmi⟩
      have f2 := far (show n < n1 by omega)
      have g1 : ¬ id = n := by omega
      have hmn := hout n (by omega)
      simp -dsimp at hmn
      simp -dsimp [f2, g1, Ne.symm g1, hmn]
      refine ⟨by omega, fun j hj => ?_, id, rfl, by omega, by omega, by simp [g1, hmi]⟩
      have q1 : ¬ j = n := by omega
      rw [if_neg q1, hout j (by omega)]; simp [q1]
theorem opens_str (w : World) : Opens Tryz.prog w 9 fun vs => ∃ s : List UInt8, s.length ≤ maxLen ∧ vs = [.str s] :=
  (opens_string Tryz.underlying9).mono fun vs h => by obtain ⟨s, rfl, hl⟩ := h; exact ⟨s, hl, rfl⟩
end TL

/- Deeds and their texts: what they are. -/
set_option linter.unusedSimpArgs false
set_option linter.unusedVariables false
set_option maxRecDepth 100000
set_option maxHeartbeats 4000000
set_option pp.maxSteps 1500
namespace TL
open Go Go.Proofs
structure Deed where
  kind : Int
  num : Int
  words : List UInt8
  deriving DecidableEq
def Deed.v (a : Deed) : V := .agg [.int .i64 a.kind, .int .i64 a.num, .str a.words]
theorem deed_cells (a : Deed) : a.v.cells = [.int .i64 a.kind, .int .i64 a.num, .str a.words] := rfl
attribute [local simp] marksV storyV codeV Claim.v Place.v Deed.v
/-- The decimal text of a small number. -/
def dec (n : Int) : List UInt8 := Go.Lib.decDigits n.toNat
theorem dec_len {n : Int} (h0 : 0 ≤ n) (h : n ≤ 99) : (dec n).length ≤ 2 := by
  unfold dec
  by_cases h1 : n.toNat < 10
  · rw [Go.Lib.decDigits_one h1]; simp
  · rw [Go.Lib.decDigits_two h1 (by omega)]; simp
def txSay : List UInt8 := [115, 97, 121, 32]
def txDrop : List UInt8 := [100, 114, 111, 112, 32]
def txPeople : List UInt8 := [112, 101, 111, 112, 108, 101, 32]
def txLeast : List UInt8 := [108, 101, 97, 115, 116]
def txBack : List UInt8 := [98, 97, 99, 107]
noncomputable def deedTx (a : Deed) : List UInt8 :=
  if a.kind = 0 ∧ a.num = 0 ∧ (readC 4 a.words).isSome = true then txSay ++ a.words
  else if a.words ≠ [] ∨ a.num < 0 ∨ 99 < a.num then []
  else if a.kind = 1 then txDrop ++ dec a.num
  else if a.kind = 2 then txPeople ++ dec a.num
  else if a.kind = 3 ∧ a.num = 0 then txLeast
  else if a.kind = 4 ∧ a.num = 0 then txBack
  else []
theorem readC_len {people : Int} {s : List UInt8} {c : Claim} (h : readC people s = some c) : 3 ≤ s.length ∧ s.length ≤ 27 := by
  obtain ⟨h1, h2⟩ := readC_is h
  rw [← h2]; exact ⟨(claimTx_len h1).1, (claimTx_len h1).2.1⟩
theorem readC_nil (people : Int) : readC people [] = none := rfl
theorem deedTx_len (a : Deed) : (deedTx a).length ≤ 40 := by
  unfold deedTx
  split
  · rename_i h
    cases e : readC 4 a.words with
    | none => rw [e] at h; simp at h
    | some c => have := readC_len e; simp [txSay]; omega
  split
  · simp
  rename_i h
  have h0 : 0 ≤ a.num ∧ a.num ≤ 99 := by
    constructor
    · rcases Int.lt_or_le a.num 0 with h1 | h1
      · exact absurd (.inr (.inl h1)) h
      · exact h1
    · rcases Int.lt_or_le 99 a.num with h1 | h1
      · exact absurd (.inr (.inr h1)) h
      · exact h1
  have := dec_len h0.1 h0.2
  split
  · simp [txDrop]; omega
  split
  · simp [txPeople]; omega
  split
  · simp [txLeast]
  split
  · simp [txBack]
  · simp
/-- Numbers of the reference. -/
theorem l1Number2_fn (n : Int) (h0 : 0 ≤ n) (hn : n ≤ 99) : FnZ Tryz.prog 66 [.int .i64 n] (.str (dec n)) := by
  by_cases h : n < 10
  · have h1 := l1Number_fn n.toNat (by omega)
    have e : ((n.toNat : Nat) : Int) = n := by omega
    rw [e] at h1
    unfold dec
    rw [Go.Lib.decDigits_one (by omega)]; exact h1
  · have h1 := l1Number_fn (n.toNat / 10) (by omega)
    have e : ((n.toNat / 10 : Nat) : Int) = n / 10 := by omega
    rw [e] at h1
    have q1 : n.tdiv 10 = n / 10 := Int.tdiv_eq_ediv_of_nonneg h0
    have q2 : n.tmod 10 = n % 10 := Int.tmod_eq_emod_of_nonneg h0
    have w0 : IntKind.wrap .i64 (n / 10) = n / 10 := w64 (by omega) (by omega)
    have w1 : IntKind.wrap .i64 (48 + n % 10) = 48 + n % 10 := w64 (by omega) (by omega)
    have w2 : IntKind.wrap .u8 (48 + n % 10) = 48 + n % 10 := by rw [IntKind.wrap_u8]; omega
    have w3 : (48 + n % 10).toNat = 48 + n.toNat % 10 := by omega
    unfold dec
    rw [Go.Lib.decDigits_two (by omega) (by omega)]
    refine FnZ_of (rs := [.tmp 2]) false Tryz.func66 rfl rfl rfl rfl (Nat.le_of_ble_eq_true rfl) ?_
    simp -dsimp [h]
    refine twp_draw [0, 1, 1002, 3, 4, 5, 6, 7, 8, 9, 10] [0] (List.replicate 8 [] ++ [[0], [], []]) (List.replicate 7 [0] ++ [[], [0], [0], [0]]) (by kernel_rfl) (by kernel_rfl) (by kernel_rfl) (by kernel_rfl) ?_
    simp -dsimp [List.range_succ, q1, q2, w0, w1, w2, w3]
    refine pure_ h1 (by simp -dsimp) ?_
    simp -dsimp [List.range_succ, q1, q2, w0, w1, w2, w3]
theorem l1In_z (n a b : Int) : FnZ Tryz.prog 61 [.int .i64 n, .int .i64 a, .int .i64 b] (.bool (decide (a ≤ n) && decide (n ≤ b))) := l1In_fn n a b
theorem deedTx_out {a : Deed} (h : a.num < 0 ∨ 99 < a.num) : deedTx a = [] := by
  unfold deedTx; rw [if_neg (by omega), if_pos (.inr h)]
theorem deedTx_say {a : Deed} (h : a.kind = 0 ∧ a.num = 0 ∧ (readC 4 a.words).isSome = true) : deedTx a = txSay ++ a.words := by
  unfold deedTx; rw [if_pos h]
theorem deedTx_words {a : Deed} (h : ¬ (a.kind = 0 ∧ a.num = 0 ∧ (readC 4 a.words).isSome = true)) (hw : a.words ≠ []) : deedTx a = [] := by
  unfold deedTx; rw [if_neg h, if_pos (.inl hw)]
theorem deedTx_none {a : Deed} (h0 : 0 ≤ a.num) (h1 : a.num ≤ 99) (hw : a.words = []) : deedTx a = if a.kind = 1 then txDrop ++ dec a.num else if a.kind = 2 then txPeople ++ dec a.num else if a.kind = 3 ∧ a.num = 0 then txLeast else if a.kind = 4 ∧ a.num = 0 then txBack else [] := by
  unfold deedTx
  rw [if_neg (by rw [hw, readC_nil]; simp), if_neg (by rw [hw]; simp; omega)]
theorem readC_words {s : List UInt8} (h : (readC 4 s).isSome = true) : s ≠ [] := by
  rintro rfl; rw [readC_nil] at h; cases h
/-- The five ways of a deed. -/
theorem deed_ways (a : Deed) : (a.num < 0 ∨ 99 < a.num) ∨ (0 ≤ a.num ∧ a.num ≤ 99 ∧ ((a.words ≠ []) ∨ (a.words = [] ∧ (a.kind = 1 ∨ a.kind = 2 ∨ (a.kind = 3 ∧ a.num = 0) ∨ (a.kind = 4 ∧ a.num = 0) ∨ (¬ a.kind = 1 ∧ ¬ a.kind = 2 ∧ (¬ a.kind = 3 ∨ ¬ a.num = 0) ∧ (¬ a.kind = 4 ∨ ¬ a.num = 0)))))) := by
  by_cases h : a.num < 0 ∨ 99 < a.num
  · exact .inl h
  · refine .inr ⟨by omega, by omega, ?_⟩
    by_cases hw : a.words = []
    · refine .inr ⟨hw, by omega⟩
    · exact .inl hw
theorem deedTextS_fn (a : Deed) (hl : a.words.length ≤ 2000000000) : FnZ Tryz.prog 105 [a.v] (.str (deedTx a)) := by
  have hr := readClaimS_fn 4 a.words hl
  have hin := l1In_z a.num 0 99
  obtain ⟨kind, num, words⟩ := a
  simp only at hr hin hl
  have len5 : ∀ x : List UInt8, x.length ≤ 2 → (5 : Int) + x.length ≤ 9223372036854775807 ∧ (7 : Int) + x.length ≤ 9223372036854775807 := fun x h => ⟨by omega, by omega⟩
  have len4 : (4 : Int) + words.length ≤ 9223372036854775807 := by omega
  rcases deed_ways ⟨kind, num, words⟩ with h | ⟨h0, h1, h⟩
  · rw [deedTx_out h]
    have hb : (decide (0 ≤ num) && decide (num ≤ 99)) = false := by simp at h ⊢; omega
    refine FnZ_of (rs := [.tmp 2]) false Tryz.func105 rfl rfl rfl rfl (Nat.le_of_ble_eq_true rfl) ?_
    simp -dsimp
    refine call_ hin (by simp -dsimp) ?_
    simp -dsimp [hb]
  simp only at h0 h1 h
  have hb : (decide (0 ≤ num) && decide (num ≤ 99)) = true := by simp; omega
  have hd := dec_len h0 h1
  have hnum := l1Number2_fn num h0 h1
  obtain ⟨l5, l7⟩ := len5 _ hd
  rcases h with hw | ⟨hw, h⟩
  · by_cases hs : kind = 0 ∧ num = 0 ∧ (readC 4 words).isSome = true
    · rw [deedTx_say (a := ⟨kind, num, words⟩) hs]
      obtain ⟨rfl, rfl, h3⟩ := hs
      refine FnZ_of (rs := [.tmp 2]) false Tryz.func105 rfl rfl rfl rfl (Nat.le_of_ble_eq_true rfl) ?_
      simp -dsimp
      refine call_ hin (by simp -dsimp) ?_
      simp -dsimp [hw]
      refine call_ hr (by simp -dsimp) ?_
      simp -dsimp [optC, h3, len4, txSay]
    · rw [deedTx_words (a := ⟨kind, num, words⟩) hs hw]
      have hx : ((readC 4 words).isSome && (decide (kind = 0) && decide (num = 0))) = false := by
        rw [Bool.eq_false_iff]; intro h; simp at h; exact hs ⟨h.2.1, h.2.2, h.1⟩
      refine FnZ_of (rs := [.tmp 2]) false Tryz.func105 rfl rfl rfl rfl (Nat.le_of_ble_eq_true rfl) ?_
      simp -dsimp
      refine call_ hin (by simp -dsimp) ?_
      simp -dsimp [hb, hw]
      refine call_ hr (by simp -dsimp) ?_
      have hq := ft (readC 4 words).isSome
      rcases hq with hq | hq
      · simp -dsimp [optC, hq]
      · have hx2 : ¬ (kind = 0 ∧ num = 0) := fun h => hs ⟨h.1, h.2, hq⟩
        by_cases hk : kind = 0
        · have hn : ¬ num = 0 := fun h => hx2 ⟨hk, h⟩
          simp -dsimp [optC, hq, hk, hn]
        · simp -dsimp [optC, hq, hk]
  · subst hw
    rw [deedTx_none (a := ⟨kind, num, []⟩) h0 h1 rfl]
    simp only
    rcases h with rfl | rfl | ⟨rfl, rfl⟩ | ⟨rfl, rfl⟩ | ⟨k1, k2, k3, k4⟩
    · refine FnZ_of (rs := [.tmp 2]) false Tryz.func105 rfl rfl rfl rfl (Nat.le_of_ble_eq_true rfl) ?_
      simp -dsimp
      refine call_ hin (by simp -dsimp) ?_
      simp -dsimp [hb]
      refine call_ hnum (by simp -dsimp) ?_
      simp -dsimp [l5, txDrop]
    · refine FnZ_of (rs := [.tmp 2]) false Tryz.func105 rfl rfl rfl rfl (Nat.le_of_ble_eq_true rfl) ?_
      simp -dsimp
      refine call_ hin (by simp -dsimp) ?_
      simp -dsimp [hb]
      refine call_ hnum (by simp -dsimp) ?_
      simp -dsimp [l7, txPeople]
    · refine FnZ_of (rs := [.tmp 2]) false Tryz.func105 rfl rfl rfl rfl (Nat.le_of_ble_eq_true rfl) ?_
      simp -dsimp
      refine call_ hin (by simp -dsimp) ?_
      simp -dsimp [hb, txLeast]
    · refine FnZ_of (rs := [.tmp 2]) false Tryz.func105 rfl rfl rfl rfl (Nat.le_of_ble_eq_true rfl) ?_
      simp -dsimp
      refine call_ hin (by simp -dsimp) ?_
      simp -dsimp [hb, txBack]
    · have e : (if kind = 1 then txDrop ++ dec num else if kind = 2 then txPeople ++ dec num else if kind = 3 ∧ num = 0 then txLeast else if kind = 4 ∧ num = 0 then txBack else []) = [] := by
        rw [if_neg k1, if_neg k2, if_neg (by omega), if_neg (by omega)]
      rw [e]
      rw [readC_nil] at hr
      by_cases hn : num = 0
      · have k3' : ¬ kind = 3 := by omega
        have k4' : ¬ kind = 4 := by omega
        refine FnZ_of (rs := [.tmp 2]) false Tryz.func105 rfl rfl rfl rfl (Nat.le_of_ble_eq_true rfl) ?_
        simp -dsimp
        refine call_ hin (by simp -dsimp) ?_
        simp -dsimp [hb, k1, k2, k3', k4']
        refine call_ hr (by simp -dsimp) ?_
        simp -dsimp [optC]
      · refine FnZ_of (rs := [.tmp 2]) false Tryz.func105 rfl rfl rfl rfl (Nat.le_of_ble_eq_true rfl) ?_
        simp -dsimp
        refine call_ hin (by simp -dsimp) ?_
        simp -dsimp [hb, k1, k2, hn]
        refine call_ hr (by simp -dsimp) ?_
        simp -dsimp [optC]
end TL

/- The library's functions, off the shelf: texts joined, numbers written, prefixes cut. -/
set_option linter.unusedSimpArgs false
set_option linter.unusedVariables false
set_option maxRecDepth 100000
namespace TL
open Go Go.Proofs Go.RowKit
section
variable {P : Program}
theorem FnZ_calls {f : Nat} {args : List V} {r : V} (hf : ∃ fn, P.funcs[f]? = some fn ∧ (fn.name == "runtime.NumGoroutine") = false ∧ fn.body.isNone = false)
    (h : ∀ (Z : Zs) (w : World) (vs : List Value), ZOk P Z w → RepVs Z w args vs → Calls P f vs.toArray w fun e w' => ∃ v, e = .returned v ∧ Below w.heap.size w w' ∧ RepV (freshZ Z w.heap.size w'.heap.size) w' r v) : FnZ P f args r := ⟨hf, h⟩
theorem calls_mono {f : Nat} {args : Array Value} {w : World} {R R' : Ending → World → Prop} (h : Calls P f args w R) (hR : ∀ e w', R e w' → R' e w') : Calls P f args w R' := h.mono hR
/-- Rows of texts. -/
theorem strs_rep {Z : Zs} {w : World} {z : Nat} : ∀ (xs : List (List UInt8)) (us : List Value), RepEs Z w z (xs.map V.str) us → ∃ bs : List ByteArray, us = bs.map Value.string ∧ bs.map (·.data.toList) = xs
  | [], us, h => by cases h; exact ⟨[], rfl, rfl⟩
  | x :: xs, us, h => by
    cases h with
    | one hc h t =>
      cases h with
      | str hb =>
        obtain ⟨bs, h1, h2⟩ := strs_rep xs _ t
        exact ⟨_ :: bs, by rw [h1]; rfl, by simp [hb, h2]⟩
theorem strs_row {Z : Zs} {w : World} {xs : List (List UInt8)} {u : Value} (h : RepV Z w (.sl (xs.map V.str)) u) : (xs = [] ∧ ∃ A c, u = .slice A 0 c) ∨
    ∃ k o c, ∃ bs : List ByteArray, u = .slice (some ⟨k, o, none⟩) bs.length c ∧ bs.map (·.data.toList) = xs ∧ bs.length ≤ c ∧ bs ≠ [] ∧ (∀ (j : Nat) x, bs[j]? = some x → w.cell? ⟨k, o + j, none⟩ = some (.string x)) ∧ k < w.heap.size := by
  generalize hv : V.sl (xs.map V.str) = v at h
  cases h with
  | nil A c => left; injection hv with hv; exact ⟨by simpa using hv, A, c, rfl⟩
  | @sl z ys us ad n c h hn hc hm hz =>
    injection hv with hv
    subst hv
    obtain ⟨bs, rfl, h2⟩ := strs_rep xs us h
    have hlen : bs.length = n := by rw [← hn, ← h2]; simp
    cases bs with
    | nil => left; exact ⟨by simpa using h2.symm, some ad, c, by rw [← hlen]; rfl⟩
    | cons b bs =>
      right
      have h0 := (hz 0 (.string b) rfl).1
      obtain ⟨k, o, sp⟩ := ad
      obtain rfl : sp = none := spot_of_cell h0
      refine ⟨k, o, c, b :: bs, by rw [hlen], h2, by omega, by simp, fun j x hx => ?_, ?_⟩
      · have := (hz j (.string x) (by rw [List.getElem?_map, hx]; rfl)).1
        rw [add_lit] at this; exact this
      · unfold World.cell? at h0
        split at h0
        · rename_i hb; exact (Array.getElem?_eq_some_iff.1 hb).1
        · cases h0
  | _ => cases hv
theorem join_FnZ {ρ : Go.Shelf.Ren} (L : Go.Proofs.Lays.n156 P ρ) (X : Go.Proofs.Builder.Extra P ρ) (hf : ∃ fn, P.funcs[ρ.f 156]? = some fn ∧ (fn.name == "runtime.NumGoroutine") = false ∧ fn.body.isNone = false) (xs : List (List UInt8)) (sep : List UInt8)
    (hN : xs.length ≤ 140737488355328) (hlen : (Go.Lib.join xs sep).length ≤ 140737488355328) : FnZ P (ρ.f 156) [.sl (xs.map V.str), .str sep] (.str (Go.Lib.join xs sep)) := by
  refine FnZ_calls hf fun Z w vs hz hv => ?_
  cases hv with | cons h1 hv => cases hv with | cons h2 hv => cases hv with | nil =>
    cases h2 with
    | @str _ bsep hb =>
      rcases strs_row h1 with ⟨rfl, A, c, rfl⟩ | ⟨k, o, c, bs, rfl, h2, h3, h4, h5, h6⟩
      · refine calls_mono (Any.strings_Join_none L X A c bsep w) ?_
        rintro e w' ⟨rfl, rfl⟩
        exact ⟨_, rfl, Below.refl _ _, .str rfl⟩
      · have e : bs.map (fun x => x.data.toList) = xs := h2
        refine calls_mono (Any.strings_Join L X k o c bs bsep w h5 h6 (by rw [← e] at hN; simpa using hN) h3 (by rw [e, hb]; exact hlen)) ?_
        rintro e' w' ⟨rfl, hw⟩
        refine ⟨_, rfl, hw, .str ?_⟩
        rw [e, hb]
theorem itoa_FnZ {ρ : Go.Shelf.Ren} (L : Go.Proofs.Lays.n171 P ρ) (hf : ∃ fn, P.funcs[ρ.f 171]? = some fn ∧ (fn.name == "runtime.NumGoroutine") = false ∧ fn.body.isNone = false) (i : Nat) (hi : i < 100) : FnZ P (ρ.f 171) [.int .i64 i] (.str (Go.Lib.decDigits i)) := by
  refine FnZ_calls hf fun Z w vs hz hv => ?_
  cases hv with | cons h1 hv => cases hv with | nil =>
    cases h1
    refine calls_mono (Any.strconv_Itoa_small L i hi w) ?_
    rintro e w' ⟨rfl, rfl⟩
    exact ⟨_, rfl, Below.refl _ _, .str rfl⟩
end
theorem itoa_fn (n : Int) (h0 : 0 ≤ n) (h : n ≤ 99) : FnZ Tryz.prog 75 [.int .i64 n] (.str (dec n)) := by
  have := itoa_FnZ Tryz.lays171 ⟨_, Tryz.func75, rfl, rfl⟩ n.toNat (by omega)
  have e : ((n.toNat : Nat) : Int) = n := by omega
  rw [e] at this
  exact this
theorem join_fn (xs : List (List UInt8)) (sep : List UInt8) (hN : xs.length ≤ 140737488355328) (hlen : (Go.Lib.join xs sep).length ≤ 140737488355328) : FnZ Tryz.prog 76 [.sl (xs.map V.str), .str sep] (.str (Go.Lib.join xs sep)) :=
  join_FnZ Tryz.lays156 Tryz.Builder_Extra_156 ⟨_, Tryz.func76, rfl, rfl⟩ xs sep hN hlen
end TL

/- The program's texts of deeds. -/
set_option linter.unusedSimpArgs false
set_option linter.unusedVariables false
set_option maxRecDepth 100000
set_option maxHeartbeats 4000000
set_option pp.maxSteps 1500
namespace TL
open Go Go.Proofs
attribute [local simp] marksV storyV codeV Claim.v Place.v Deed.v
theorem deedText_fn (a : Deed) (hl : a.words.length ≤ 2000000000) : FnZ Tryz.prog 132 [a.v] (.str (deedTx a)) := by
  have hr := readClaim_fn 4 a.words hl
  obtain ⟨kind, num, words⟩ := a
  simp only at hr hl
  have len5 : ∀ x : List UInt8, x.length ≤ 2 → (5 : Int) + x.length ≤ 9223372036854775807 ∧ (7 : Int) + x.length ≤ 9223372036854775807 := fun x h => ⟨by omega, by omega⟩
  have len4 : (4 : Int) + words.length ≤ 9223372036854775807 := by omega
  by_cases hs : kind = 0 ∧ num = 0 ∧ (readC 4 words).isSome = true
  · rw [deedTx_say (a := ⟨kind, num, words⟩) hs]
    obtain ⟨rfl, rfl, h3⟩ := hs
    refine FnZ_of (rs := [.tmp 2]) false Tryz.func132 rfl rfl rfl rfl (Nat.le_of_ble_eq_true rfl) ?_
    simp -dsimp
    refine call_ hr (by simp -dsimp) ?_
    simp -dsimp [optC, h3, len4, txSay]
  have first : ∀ (X : Prop), (kind = 0 → num = 0 → (readC 4 words).isSome = false → X) → (kind = 0 → ¬ num = 0 → X) → (¬ kind = 0 → X) → X := fun X h1 h2 h3 => by
    by_cases hk : kind = 0
    · by_cases hn : num = 0
      · refine h1 hk hn ?_
        have hq := ft (readC 4 words).isSome
        rcases hq with hq | hq
        · exact hq
        · exact absurd ⟨hk, hn, hq⟩ hs
      · exact h2 hk hn
    · exact h3 hk
  -- what comes when it is not said
  have core : (words ≠ [] ∨ num < 0 ∨ 99 < num) ∨ (words = [] ∧ 0 ≤ num ∧ num ≤ 99) := by
    by_cases hw : words = []
    · by_cases hn : num < 0 ∨ 99 < num
      · exact .inl (.inr hn)
      · exact .inr ⟨hw, by omega, by omega⟩
    · exact .inl (.inl hw)
  rcases core with hc | ⟨rfl, h0, h1⟩
  · have e : deedTx ⟨kind, num, words⟩ = [] := by unfold deedTx; rw [if_neg hs, if_pos hc]
    rw [e]
    have cases3 : (¬ words = []) ∨ (words = [] ∧ num < 0) ∨ (words = [] ∧ ¬ num < 0 ∧ 99 < num) := by
      by_cases hw : words = []
      · rcases hc with h | h | h
        · exact absurd hw h
        · exact .inr (.inl ⟨hw, h⟩)
        · exact .inr (.inr ⟨hw, by omega, h⟩)
      · exact .inl hw
    refine first _ (fun hk hn hq => ?_) (fun hk hn => ?_) (fun hk => ?_)
    · subst hk; subst hn
      rcases cases3 with h | ⟨_, h⟩ | ⟨_, _, h⟩
      · refine FnZ_of (rs := [.tmp 2]) false Tryz.func132 rfl rfl rfl rfl (Nat.le_of_ble_eq_true rfl) ?_
        simp -dsimp
        refine call_ hr (by simp -dsimp) ?_
        simp -dsimp [optC, hq, h]
      · omega
      · omega
    · rcases cases3 with h | ⟨hw, h⟩ | ⟨hw, h, h2⟩
      · refine FnZ_of (rs := [.tmp 2]) false Tryz.func132 rfl rfl rfl rfl (Nat.le_of_ble_eq_true rfl) ?_
        simp -dsimp
        refine call_ hr (by simp -dsimp) ?_
        simp -dsimp [optC, hk, hn, h]
      · refine FnZ_of (rs := [.tmp 2]) false Tryz.func132 rfl rfl rfl rfl (Nat.le_of_ble_eq_true rfl) ?_
        simp -dsimp
        refine call_ hr (by simp -dsimp) ?_
        simp -dsimp [optC, hk, hn, hw, h]
      · refine FnZ_of (rs := [.tmp 2]) false Tryz.func132 rfl rfl rfl rfl (Nat.le_of_ble_eq_true rfl) ?_
        simp -dsimp
        refine call_ hr (by simp -dsimp) ?_
        simp -dsimp [optC, hk, hn, hw, h, h2]
    · rcases cases3 with h | ⟨hw, h⟩ | ⟨hw, h, h2⟩
      · refine FnZ_of (rs := [.tmp 2]) false Tryz.func132 rfl rfl rfl rfl (Nat.le_of_ble_eq_true rfl) ?_
        simp -dsimp
        refine call_ hr (by simp -dsimp) ?_
        simp -dsimp [optC, hk, h]
      · refine FnZ_of (rs := [.tmp 2]) false Tryz.func132 rfl rfl rfl rfl (Nat.le_of_ble_eq_true rfl) ?_
        simp -dsimp
        refine call_ hr (by simp -dsimp) ?_
        simp -dsimp [optC, hk, hw, h]
      · refine FnZ_of (rs := [.tmp 2]) false Tryz.func132 rfl rfl rfl rfl (Nat.le_of_ble_eq_true rfl) ?_
        simp -dsimp
        refine call_ hr (by simp -dsimp) ?_
        simp -dsimp [optC, hk, hw, h, h2]
  · rw [deedTx_none (a := ⟨kind, num, []⟩) h0 h1 rfl]
    have hd := dec_len h0 h1
    have hnum := itoa_fn num h0 h1
    obtain ⟨l5, l7⟩ := len5 _ hd
    have n0 : ¬ num < 0 := by omega
    have n1 : ¬ 99 < num := by omega
    rw [readC_nil] at hr
    simp only
    have ways : kind = 1 ∨ kind = 2 ∨ (kind = 3 ∧ num = 0) ∨ (kind = 4 ∧ num = 0) ∨ (¬ kind = 1 ∧ ¬ kind = 2 ∧ (¬ kind = 3 ∨ ¬ num = 0) ∧ (¬ kind = 4 ∨ ¬ num = 0)) := by omega
    rcases ways with rfl | rfl | ⟨rfl, rfl⟩ | ⟨rfl, rfl⟩ | ⟨k1, k2, k3, k4⟩
    · refine FnZ_of (rs := [.tmp 2]) false Tryz.func132 rfl rfl rfl rfl (Nat.le_of_ble_eq_true rfl) ?_
      simp -dsimp
      refine call_ hr (by simp -dsimp) ?_
      simp -dsimp [optC, n0, n1]
      refine call_ hnum (by simp -dsimp) ?_
      simp -dsimp [l5, txDrop]
    · refine FnZ_of (rs := [.tmp 2]) false Tryz.func132 rfl rfl rfl rfl (Nat.le_of_ble_eq_true rfl) ?_
      simp -dsimp
      refine call_ hr (by simp -dsimp) ?_
      simp -dsimp [optC, n0, n1]
      refine call_ hnum (by simp -dsimp) ?_
      simp -dsimp [l7, txPeople]
    · refine FnZ_of (rs := [.tmp 2]) false Tryz.func132 rfl rfl rfl rfl (Nat.le_of_ble_eq_true rfl) ?_
      simp -dsimp
      refine call_ hr (by simp -dsimp) ?_
      simp -dsimp [optC, txLeast]
    · refine FnZ_of (rs := [.tmp 2]) false Tryz.func132 rfl rfl rfl rfl (Nat.le_of_ble_eq_true rfl) ?_
      simp -dsimp
      refine call_ hr (by simp -dsimp) ?_
      simp -dsimp [optC, txBack]
    · have e : (if kind = 1 then txDrop ++ dec num else if kind = 2 then txPeople ++ dec num else if kind = 3 ∧ num = 0 then txLeast else if kind = 4 ∧ num = 0 then txBack else []) = [] := by
        rw [if_neg k1, if_neg k2, if_neg (by omega), if_neg (by omega)]
      rw [e]
      by_cases hn : num = 0
      · have k3' : ¬ kind = 3 := by omega
        have k4' : ¬ kind = 4 := by omega
        by_cases hk : kind = 0
        · refine FnZ_of (rs := [.tmp 2]) false Tryz.func132 rfl rfl rfl rfl (Nat.le_of_ble_eq_true rfl) ?_
          simp -dsimp
          refine call_ hr (by simp -dsimp) ?_
          simp -dsimp [optC, hn, hk]
        · refine FnZ_of (rs := [.tmp 2]) false Tryz.func132 rfl rfl rfl rfl (Nat.le_of_ble_eq_true rfl) ?_
          simp -dsimp
          refine call_ hr (by simp -dsimp) ?_
          simp -dsimp [optC, hn, hk, k1, k2, k3', k4']
      · by_cases hk : kind = 0
        · refine FnZ_of (rs := [.tmp 2]) false Tryz.func132 rfl rfl rfl rfl (Nat.le_of_ble_eq_true rfl) ?_
          simp -dsimp
          refine call_ hr (by simp -dsimp) ?_
          simp -dsimp [optC, hn, hk, n0, n1]
        · by_cases h3 : kind = 3
          · refine FnZ_of (rs := [.tmp 2]) false Tryz.func132 rfl rfl rfl rfl (Nat.le_of_ble_eq_true rfl) ?_
            simp -dsimp
            refine call_ hr (by simp -dsimp) ?_
            simp -dsimp [optC, hn, h3, n0, n1]
          · by_cases h4 : kind = 4
            · refine FnZ_of (rs := [.tmp 2]) false Tryz.func132 rfl rfl rfl rfl (Nat.le_of_ble_eq_true rfl) ?_
              simp -dsimp
              refine call_ hr (by simp -dsimp) ?_
              simp -dsimp [optC, hn, h4, n0, n1]
            · refine FnZ_of (rs := [.tmp 2]) false Tryz.func132 rfl rfl rfl rfl (Nat.le_of_ble_eq_true rfl) ?_
              simp -dsimp
              refine call_ hr (by simp -dsimp) ?_
              simp -dsimp [optC, hn, hk, h3, h4, k1, k2, n0, n1]
end TL

/- The texts of places. -/
set_option linter.unusedSimpArgs false
set_option linter.unusedVariables false
set_option maxRecDepth 100000
set_option maxHeartbeats 4000000
set_option pp.maxSteps 1500
namespace TL
open Go Go.Proofs
attribute [local simp] marksV storyV codeV Claim.v Place.v Deed.v
/-- The texts of claims with commas between them. -/
noncomputable def storyTx (people : Int) (l : List Claim) : List UInt8 := Go.Lib.join (l.map (claimTx people)) [44]
noncomputable def placeTx (p : Place) : List UInt8 := if placeOk p = true then dec p.people ++ 32 :: (if p.story = [] then [46] else storyTx p.people p.story) else []
theorem claim_cellsE (c : Claim) : c.v.cells = [.int .i64 c.who, marksV c.says] := rfl
theorem claimTx_short (people : Int) (c : Claim) : (claimTx people c).length ≤ 27 := by
  have hk := ft (claimOk people c)
  rcases hk with hk | hk
  · unfold claimTx; rw [if_neg (by simp [hk])]; simp
  · exact (claimTx_len hk).2.1
theorem joinTail_len (xs : List (List UInt8)) (h : ∀ x ∈ xs, x.length ≤ 27) : (Go.Lib.joinTail [44] xs).length ≤ 28 * xs.length := by
  induction xs with
  | nil => simp [Go.Lib.joinTail]
  | cons x xs ih =>
    have h1 := h x (List.mem_cons_self ..)
    have h2 := ih fun y hy => h y (List.mem_cons_of_mem _ hy)
    simp only [Go.Lib.joinTail, List.map_cons, List.flatten_cons, List.length_append, List.length_cons, List.length_nil] at h2 ⊢
    omega
theorem join_len (xs : List (List UInt8)) (h : ∀ x ∈ xs, x.length ≤ 27) : (Go.Lib.join xs [44]).length ≤ 28 * xs.length + 27 := by
  cases xs with
  | nil => simp [Go.Lib.join_nil]
  | cons x xs =>
    rw [Go.Lib.join_cons]
    have h1 := h x (List.mem_cons_self ..)
    have h2 := joinTail_len xs fun y hy => h y (List.mem_cons_of_mem _ hy)
    simp only [List.length_append, List.length_cons]; omega
theorem storyTx_len (people : Int) (l : List Claim) : (storyTx people l).length ≤ 28 * l.length + 27 := by
  have := join_len (l.map (claimTx people)) (fun x hx => by obtain ⟨c, _, rfl⟩ := List.mem_map.1 hx; exact claimTx_short people c)
  simpa [storyTx] using this
theorem placeOk_all {p : Place} (h : placeOk p = true) : 1 ≤ p.people ∧ p.people ≤ 4 ∧ p.story.length ≤ 6 ∧ ∀ c ∈ p.story, claimOk p.people c = true := by
  simp only [placeOk, storyOk, peopleOk, Bool.and_eq_true, decide_eq_true_eq, List.all_eq_true] at h
  exact ⟨by omega, by omega, by omega, h.1.1⟩
theorem placeTx_no {p : Place} (h : placeOk p = false) : placeTx p = [] := by unfold placeTx; rw [if_neg (by simp [h])]
/-- The program. -/
def Ipt (p : Place) (e : Nat) (s : S) : Prop := ∃ i id : Nat, s.tm 1 = .ptr 0 0 ∧ s.m 0 = some (.box 34 2 [.v (.int .i64 p.people), .v (storyV p.story)]) ∧ s.tm 3 = .loc id ∧ 0 < id ∧ id < s.n ∧ s.m id = some (.arr 9 (((p.story.take i).map (claimTx p.people)).map V.str)) ∧
  s.tm 11 = .v (.sl (p.story.map Claim.v)) ∧ s.tm 12 = .v (.int .i64 p.story.length) ∧ s.tm 13 = .v (.int .i64 i) ∧ s.mu = false ∧ i ≤ p.story.length ∧ (e = 1 → i = p.story.length)
theorem placeText_fn (p : Place) (hl : p.story.length < 1000000000000) : FnZ Tryz.prog 41 [p.v] (.str (placeTx p)) := by
  have hok := placeOk_fn p hl
  have hk := ft (placeOk p)
  rcases hk with hk | hk
  · rw [placeTx_no hk]
    refine FnZ_of (rs := [.tmp 2]) false Tryz.func41 rfl rfl rfl rfl (Nat.le_of_ble_eq_true rfl) ?_
    simp -dsimp
    refine call_ hok (by simp -dsimp) ?_
    simp -dsimp [hk]
  obtain ⟨hp1, hp4, hl6, hcl⟩ := placeOk_all hk
  have hit := itoa_fn p.people (by omega) (by omega)
  have hdl := dec_len (n := p.people) (by omega) (by omega)
  have hst := storyTx_len p.people p.story
  have e0 : placeTx p = dec p.people ++ 32 :: (if p.story = [] then [46] else storyTx p.people p.story) := by unfold placeTx; rw [if_pos hk]
  rw [e0]
  refine FnZ_of (rs := [.tmp 2]) false Tryz.func41 rfl rfl rfl rfl (Nat.le_of_ble_eq_true rfl) ?_
  simp -dsimp
  refine call_ hok (by simp -dsimp) ?_
  simp -dsimp [hk]
  refine twp_loopC (Ipt p 0) (fun s => p.story.length - natOf (s.tm 13)) (Ipt p 1) ?_ ?_ ?_
  · exact ⟨0, 1, by simp -dsimp, by simp -dsimp, by simp -dsimp, by omega, by simp -dsimp, by simp -dsimp, by simp -dsimp, by simp -dsimp, by simp -dsimp, by simp -dsimp, by omega, by simp⟩
  · rintro s ⟨i, id, t1, m0, t3, hid0, hid, hm, t11, t12, t13, hmu, hi, hend⟩
    by_cases hlt : i < p.story.length
    case neg =>
      simp -dsimp [t12, t13, hlt]
      exact ⟨i, id, by simp -dsimp [t1], by simp -dsimp [m0], by simp -dsimp [t3], hid0, by simp -dsimp [hid], by simp -dsimp [hm], by simp -dsimp [t11], by simp -dsimp [t12], by simp -dsimp [t13], by simp -dsimp [hmu], hi, fun _ => by omega⟩
    have hget : (p.story.map Claim.v)[i]? = some (p.story[i].v) := by simp [hlt]
    have wi : IntKind.wrap .i64 ((i : Int) + 1) = ((i + 1 : Nat) : Int) := by rw [w64 (by omega) (by omega)]; omega
    have hmu1 : p.story.length - (i + 1) < p.story.length - i := by omega
    have f1 := far hid
    have f0 := far (show 0 < s.n by omega)
    have g0 : ¬ id = 0 := by omega
    have b1 : (min i p.story.length + 1) * 16 ≤ 140737488355328 := by omega
    have hct := claimTx_fn p.people p.story[i]
    have hnx : ((p.story.take (i + 1)).map (claimTx p.people)).map V.str = ((p.story.take i).map (claimTx p.people)).map V.str ++ [.str (claimTx p.people p.story[i])] := by
      rw [List.take_succ_eq_append_getElem hlt, List.map_append, List.map_append]; rfl
    simp -dsimp [t1, t3, t11, t12, t13, hlt, hget, m0, hmu, f0, f1, claim_cellsE]
    refine call_ hct (by simp -dsimp) ?_
    simp -dsimp [t1, t3, t11, t12, t13, m0, hm, hmu, f0, f1, b1, wi, hmu1, nes, g0, Ne.symm g0]
    refine st_out fun s' ht hm' hn' hu' => ?_
    have a1 := ht 1
    have a3 := ht 3
    have a11 := ht 11
    have a12 := ht 12
    have a13 := ht 13
    simp -dsimp [t1, t11, t12] at a1 a3 a11 a12 a13 hm' hn' hu'
    clear ht
    refine ⟨i + 1, _, a1, by simp [hm', f0, g0, Ne.symm g0, m0], a3, by omega, by omega, ?_, a11, a12, a13, by rw [hu', hmu], by omega, by simp⟩
    rw [hnx]; simp [hm', nes]
  · rintro s ⟨i, id, t1, m0, t3, hid0, hid, hm, t11, t12, t13, hmu, hi, hend⟩
    have hil := hend rfl
    rw [hil, List.take_length] at hm
    have f1 := far hid
    have f0 := far (show 0 < s.n by omega)
    have g0 : ¬ id = 0 := by omega
    by_cases hs : p.story = []
    · have hm2 : s.m id = some (.arr 9 []) := by rw [hm, hs]; rfl
      have hj := join_fn [[46]] [44] (by simp) (by rw [Go.Lib.join_one]; simp)
      rw [Go.Lib.join_one] at hj
      have e1 : (if p.story = [] then [46] else storyTx p.people p.story) = ([46] : List UInt8) := if_pos hs
      have b1 : ((dec p.people).length : Int) + 1 ≤ 9223372036854775807 := by omega
      have b2 : ((dec p.people).length : Int) + 1 + 1 ≤ 9223372036854775807 := by omega
      have b3 : ((dec p.people).length : Int) + (1 + 1) ≤ 9223372036854775807 := by omega
      rw [e1]
      generalize dec p.people = d at *
      simp -dsimp [t1, t3, m0, hm2, hmu, f0, f1, nes, g0, Ne.symm g0]
      refine call_ hit (by simp -dsimp) ?_
      simp -dsimp [t1, t3, m0, hm2, hmu, f0, f1, nes, g0, Ne.symm g0, b1]
      refine call_ hj (by simp -dsimp [f0, f1, nes, g0]) ?_
      simp -dsimp [b1, b2, b3]
    · have hlen : ¬ ((p.story.map (claimTx p.people)).map V.str) = [] := by simpa using hs
      have hlen2 : ¬ (((p.story.map (claimTx p.people)).map V.str).length : Int) = 0 := fun h => hlen (List.length_eq_zero_iff.1 (by omega))
      have hj := join_fn (p.story.map (claimTx p.people)) [44] (by simp; omega) (Nat.le_trans hst (by omega))
      have hj : FnZ Tryz.prog 76 [.sl ((p.story.map (claimTx p.people)).map V.str), .str [44]] (.str (storyTx p.people p.story)) := hj
      have e1 : (if p.story = [] then [46] else storyTx p.people p.story) = storyTx p.people p.story := if_neg hs
      have b1 : ((dec p.people).length : Int) + 1 ≤ 9223372036854775807 := by omega
      have b2 : ((dec p.people).length : Int) + 1 + (storyTx p.people p.story).length ≤ 9223372036854775807 := by omega
      have b3 : ((dec p.people).length : Int) + (1 + (storyTx p.people p.story).length) ≤ 9223372036854775807 := by omega
      rw [e1]
      generalize dec p.people = d at *
      generalize storyTx p.people p.story = st at *
      generalize (p.story.map (claimTx p.people)).map V.str = row at *
      simp -dsimp [t1, t3, m0, hm, hmu, f0, f1, nes, g0, Ne.symm g0, hlen, hlen2]
      refine call_ hit (by simp -dsimp) ?_
      simp -dsimp [t1, t3, m0, hm, hmu, f0, f1, nes, g0, Ne.symm g0, b1]
      refine call_ hj (by simp -dsimp [hm]) ?_
      simp -dsimp [b1, b2, b3]
/-- The reference. -/
def Ispt (p : Place) (e : Nat) (s : S) : Prop := ∃ i : Nat, s.tm 1 = .ptr 0 0 ∧ s.m 0 = some (.box 34 2 [.v (.int .i64 p.people), .v (storyV p.story)]) ∧ s.tm 3 = .v (.str (storyTx p.people (p.story.take i))) ∧
  s.tm 4 = .v (.int .i64 i) ∧ s.mu = false ∧ i ≤ p.story.length ∧ (e = 1 → i = p.story.length)
@[simp] theorem storyTx_nil (people : Int) : storyTx people [] = [] := rfl
theorem storyTx_zero (people : Int) (l : List Claim) : storyTx people (l.take 0) = [] := rfl
theorem storyTx_first (people : Int) (l : List Claim) (h : 0 < l.length) : storyTx people (l.take 1) = claimTx people l[0] := by
  cases l with
  | nil => simp at h
  | cons c l => simp [storyTx, Go.Lib.join_one]
theorem join_snoc (x : List UInt8) (xs : List (List UInt8)) (y : List UInt8) : Go.Lib.join ((x :: xs) ++ [y]) [44] = Go.Lib.join (x :: xs) [44] ++ [44] ++ y := by
  rw [List.cons_append, Go.Lib.join_cons, Go.Lib.join_cons]
  simp [Go.Lib.joinTail]
theorem storyTx_next (people : Int) (l : List Claim) (i : Nat) (h0 : 0 < i) (h : i < l.length) : storyTx people (l.take (i + 1)) = storyTx people (l.take i) ++ [44] ++ claimTx people l[i] := by
  unfold storyTx
  rw [List.take_succ_eq_append_getElem h, List.map_append]
  cases l with
  | nil => simp at h
  | cons c l =>
    cases i with
    | zero => omega
    | succ i => simp only [List.take_succ_cons, List.map_cons, List.map_nil]; exact join_snoc _ _ _
theorem placeTextS_fn (p : Place) (hf : p.fine) : FnZ Tryz.prog 31 [p.v] (.str (placeTx p)) := by
  have hok := placeOkS_fn p hf
  have hk := ft (placeOk p)
  rcases hk with hk | hk
  · rw [placeTx_no hk]
    refine FnZ_of (rs := [.tmp 2]) false Tryz.func31 rfl rfl rfl rfl (Nat.le_of_ble_eq_true rfl) ?_
    simp -dsimp
    refine call_ hok (by simp -dsimp) ?_
    simp -dsimp [hk]
  obtain ⟨hp1, hp4, hl6, hcl⟩ := placeOk_all hk
  have hit := l1Number2_fn p.people (by omega) (by omega)
  have hdl := dec_len (n := p.people) (by omega) (by omega)
  have hst := storyTx_len p.people p.story
  have e0 : placeTx p = dec p.people ++ 32 :: (if p.story = [] then [46] else storyTx p.people p.story) := by unfold placeTx; rw [if_pos hk]
  rw [e0]
  refine FnZ_of (rs := [.tmp 2]) false Tryz.func31 rfl rfl rfl rfl (Nat.le_of_ble_eq_true rfl) ?_
  simp -dsimp
  refine call_ hok (by simp -dsimp) ?_
  simp -dsimp [hk]
  refine twp_loopC (Ispt p 0) (fun s => p.story.length - natOf (s.tm 4)) (Ispt p 1) ?_ ?_ ?_
  · exact ⟨0, by simp -dsimp, by simp -dsimp, by simp -dsimp [storyTx_zero], by simp -dsimp, by simp -dsimp, by omega, by simp⟩
  · rintro s ⟨i, t1, m0, t3, t4, hmu, hi, hend⟩
    by_cases hlt : i < p.story.length
    case neg =>
      simp -dsimp [t1, t4, m0, hlt]
      exact ⟨i, by simp -dsimp [t1], by simp -dsimp [m0], by simp -dsimp [t3], by simp -dsimp [t4], by simp -dsimp [hmu], hi, fun _ => by omega⟩
    have hget : (p.story.map Claim.v)[i]? = some (p.story[i].v) := by simp [hlt]
    have wi : IntKind.wrap .i64 ((i : Int) + 1) = ((i + 1 : Nat) : Int) := by rw [w64 (by omega) (by omega)]; omega
    have hmu1 : p.story.length - (i + 1) < p.story.length - i := by omega
    have hct := claimTxS_fn p.people p.story[i] (hf.2 _ (List.getElem_mem _))
    have hcl2 := claimTx_short p.people p.story[i]
    have hst2 := storyTx_len p.people (p.story.take i)
    rw [List.length_take] at hst2
    by_cases hi0 : i = 0
    · have hnx : storyTx p.people (p.story.take (i + 1)) = claimTx p.people p.story[i] := by
        subst hi0; exact storyTx_first p.people p.story hlt
      have t3' : s.tm 3 = .v (.str []) := by rw [t3, hi0]; rfl
      have hi1 : ¬ 0 < i := by omega
      have hi1' : ¬ (0 : Int) < (i : Int) := by omega
      have b2 : ((claimTx p.people p.story[i]).length : Int) ≤ 9223372036854775807 := by omega
      simp -dsimp [t1, t3', t4, m0, hlt, hi1, hi1']
      refine twp_draw (List.range 11) [0] (List.replicate 11 [0]) (List.replicate 11 [0]) (by kernel_rfl) (by kernel_rfl) (by kernel_rfl) (by kernel_rfl) ?_
      simp -dsimp [List.range_succ, t1, t3', t4, m0, hget, hlt, claim_cellsE]
      refine call_ hct (by simp -dsimp) ?_
      simp -dsimp [List.range_succ, t1, t3', t4, m0, hget, b2, wi, hmu1]
      exact ⟨i + 1, by simp -dsimp [t1], by simp -dsimp [m0], by simp -dsimp [hnx], by simp -dsimp, by simp -dsimp [hmu], by omega, by simp⟩
    · have hi1 : 0 < i := by omega
      have hi1' : (0 : Int) < (i : Int) := by omega
      have hnx := storyTx_next p.people p.story i hi1 hlt
      generalize hX : storyTx p.people (p.story.take i) = X at *
      have b0 : (X.length : Int) + 1 ≤ 9223372036854775807 := by omega
      have b1 : (X.length : Int) + 1 + (claimTx p.people p.story[i]).length ≤ 9223372036854775807 := by omega
      have b2 : (X.length : Int) + (1 + (claimTx p.people p.story[i]).length) ≤ 9223372036854775807 := by omega
      simp -dsimp [t1, t3, t4, m0, hlt, hi1, hi1', b0]
      refine twp_draw (List.range 11) [0] (List.replicate 11 [0]) (List.replicate 11 [0]) (by kernel_rfl) (by kernel_rfl) (by kernel_rfl) (by kernel_rfl) ?_
      simp -dsimp [List.range_succ, t1, t3, t4, m0, hget, hlt, claim_cellsE, b0]
      refine call_ hct (by simp -dsimp) ?_
      simp -dsimp [List.range_succ, t1, t3, t4, m0, hget, b0, b1, b2, wi, hmu1]
      exact ⟨i + 1, by simp -dsimp [t1], by simp -dsimp [m0], by simp -dsimp [hnx], by simp -dsimp, by simp -dsimp [hmu], by omega, by simp⟩
  · rintro s ⟨i, t1, m0, t3, t4, hmu, hi, hend⟩
    have hil := hend rfl
    rw [hil, List.take_length] at t3
    by_cases hs : p.story = []
    · have e1 : (if p.story = [] then [46] else storyTx p.people p.story) = ([46] : List UInt8) := if_pos hs
      have b1 : ((dec p.people).length : Int) + 1 ≤ 9223372036854775807 := by omega
      have b2 : ((dec p.people).length : Int) + 1 + 1 ≤ 9223372036854775807 := by omega
      have b3 : ((dec p.people).length : Int) + (1 + 1) ≤ 9223372036854775807 := by omega
      have hl0 : (p.story.length : Int) = 0 := by rw [hs]; rfl
      rw [e1]
      generalize dec p.people = d at *
      simp -dsimp [t1, t3, m0, hs, hl0]
      refine call_ hit (by simp -dsimp) ?_
      simp -dsimp [b1, b2, b3]
    · have e1 : (if p.story = [] then [46] else storyTx p.people p.story) = storyTx p.people p.story := if_neg hs
      have b1 : ((dec p.people).length : Int) + 1 ≤ 9223372036854775807 := by omega
      have b2 : ((dec p.people).length : Int) + 1 + (storyTx p.people p.story).length ≤ 9223372036854775807 := by omega
      have b3 : ((dec p.people).length : Int) + (1 + (storyTx p.people p.story).length) ≤ 9223372036854775807 := by omega
      rw [e1]
      generalize dec p.people = d at *
      generalize storyTx p.people p.story = st at *
      simp -dsimp [t1, t3, m0, hs]
      refine call_ hit (by simp -dsimp) ?_
      simp -dsimp [t1, t3, m0, b1, b2, b3]
end TL

/- Reading places: the plain part. -/
set_option linter.unusedSimpArgs false
set_option linter.unusedVariables false
set_option maxRecDepth 100000
namespace TL
/-- Cut at every such sign. -/
def cutGo (c : UInt8) : List UInt8 → List UInt8 → List (List UInt8)
  | acc, [] => [acc]
  | acc, x :: xs => if x = c then acc :: cutGo c [] xs else cutGo c (acc ++ [x]) xs
def cutAt (c : UInt8) (s : List UInt8) : List (List UInt8) := cutGo c [] s
theorem cutGo_clean {c : UInt8} : ∀ (x acc r : List UInt8), (∀ y ∈ x, y ≠ c) → cutGo c acc (x ++ r) = cutGo c (acc ++ x) r
  | [], acc, r, _ => by simp
  | y :: x, acc, r, h => by
    have h1 : y ≠ c := h y (List.mem_cons_self ..)
    rw [List.cons_append]
    show (if y = c then _ else _) = _
    rw [if_neg h1, cutGo_clean x _ r fun z hz => h z (List.mem_cons_of_mem _ hz)]
    simp
theorem cutAt_app {c : UInt8} {x r : List UInt8} (h : ∀ y ∈ x, y ≠ c) : cutAt c (x ++ c :: r) = x :: cutAt c r := by
  unfold cutAt
  rw [cutGo_clean x [] _ h]
  show (if c = c then _ else _) = _
  rw [if_pos rfl]; rfl
theorem cutAt_none {c : UInt8} {x : List UInt8} (h : ∀ y ∈ x, y ≠ c) : cutAt c x = [x] := by
  have := cutGo_clean x [] [] h
  rw [List.append_nil] at this
  unfold cutAt; rw [this]; rfl
theorem cut_first (c : UInt8) : ∀ s : List UInt8, (∀ y ∈ s, y ≠ c) ∨ ∃ x r, s = x ++ c :: r ∧ ∀ y ∈ x, y ≠ c
  | [] => .inl (by simp)
  | y :: s => by
    by_cases h : y = c
    · exact .inr ⟨[], s, by rw [h]; rfl, by simp⟩
    · rcases cut_first c s with h1 | ⟨x, r, h1, h2⟩
      · exact .inl fun z hz => by
          rcases List.mem_cons.1 hz with rfl | hz
          · exact h
          · exact h1 z hz
      · exact .inr ⟨y :: x, r, by rw [h1]; rfl, fun z hz => by
          rcases List.mem_cons.1 hz with rfl | hz
          · exact h
          · exact h2 z hz⟩
theorem cutGo_len (c : UInt8) : ∀ s acc, (cutGo c acc s).length ≤ s.length + 1
  | [], acc => by simp [cutGo]
  | x :: s, acc => by
    show (if x = c then acc :: cutGo c [] s else cutGo c (acc ++ [x]) s).length ≤ _
    have h1 := cutGo_len c s []
    have h2 := cutGo_len c s (acc ++ [x])
    split
    · simp only [List.length_cons]; omega
    · simp only [List.length_cons]; omega
theorem cutAt_len (c : UInt8) (s : List UInt8) : (cutAt c s).length ≤ s.length + 1 := cutGo_len c s []
theorem cutGo_piece (c : UInt8) : ∀ s acc, ∀ x ∈ cutGo c acc s, x.length ≤ acc.length + s.length
  | [], acc, x, h => by
    cases List.mem_singleton.1 h; simp
  | y :: s, acc, x, h => by
    have h : x ∈ (if y = c then acc :: cutGo c [] s else cutGo c (acc ++ [y]) s) := h
    split at h
    · rcases List.mem_cons.1 h with rfl | h
      · simp
      · have := cutGo_piece c s [] x h; simp at this ⊢; omega
    · have := cutGo_piece c s _ x h; simp at this ⊢; omega
theorem cutAt_piece {c : UInt8} {s x : List UInt8} (h : x ∈ cutAt c s) : x.length ≤ s.length := by
  have := cutGo_piece c s [] x h; simpa using this
theorem occ_head {c : UInt8} {s : List UInt8} {j : Nat} : Go.Lib.occAt s [c] j = (s[j]? == some c) := by
  unfold Go.Lib.occAt
  have e : (s.drop j).head? = s[j]? := by simp
  cases h : s.drop j with
  | nil => rw [h] at e; rw [← e]; rfl
  | cons y r =>
    rw [h] at e; rw [← e]
    simp only [List.isPrefixOf, List.head?_cons, Bool.and_true]
    by_cases hy : c = y
    · simp [hy]
    · have hy2 : ¬ y = c := fun h => hy h.symm
      have e1 : (c == y) = false := by simp [hy]
      rw [e1]; simp [hy2]
theorem index_clean {c : UInt8} {s : List UInt8} (h : ∀ y ∈ s, y ≠ c) : Go.Lib.index s [c] = -1 := by
  refine Go.Lib.index_none fun j _ => ?_
  rw [occ_head]
  cases e : s[j]? with
  | none => rfl
  | some y => have := h y (List.mem_of_getElem? e); simpa using this
theorem index_at {c : UInt8} {x r : List UInt8} (h : ∀ y ∈ x, y ≠ c) : Go.Lib.index (x ++ c :: r) [c] = (x.length : Nat) := by
  refine Go.Lib.index_first (by simp) ?_ fun j hj => ?_
  · rw [occ_head]; simp
  · rw [occ_head, List.getElem?_append_left hj]
    have := h x[j] (List.getElem_mem hj)
    simpa [hj] using this
theorem splitK_cut (c : UInt8) : ∀ (n : Nat) (s : List UInt8), s.length ≤ n → Go.Lib.splitK [c] 0 (Go.Lib.count s [c]) s = cutAt c s
  | n, s, hn => by
    rcases cut_first c s with h | ⟨x, r, rfl, h⟩
    · rw [cutAt_none h, Go.Lib.count_miss (index_clean h)]; rfl
    · have hi := index_at (r := r) h
      have hne : ([c] : List UInt8) ≠ [] := by simp
      have hd : (x ++ c :: r).drop (x.length + [c].length) = r := by
        rw [List.drop_append, List.drop_of_length_le (by simp)]; simp
      rw [cutAt_app h, Go.Lib.count_hit hne hi, hd, Nat.add_comm, Go.Lib.splitK, hi]
      rw [if_neg (by simp)]
      have e1 : ((x.length : Nat) : Int).toNat = x.length := by omega
      rw [e1, hd, Nat.add_zero]
      cases n with
      | zero => simp at hn
      | succ n =>
        rw [splitK_cut c n r (by simp at hn; omega)]
        congr 1
        rw [List.take_append_of_le_length (Nat.le_refl _), List.take_length]
theorem split_is_cut (c : UInt8) (s : List UInt8) : Go.Lib.splitK [c] 0 (Go.Lib.count s [c]) s = cutAt c s := splitK_cut c s.length s (Nat.le_refl _)
theorem cut_join {c : UInt8} : ∀ (xs : List (List UInt8)) (x : List UInt8), (∀ y ∈ x, y ≠ c) → (∀ z ∈ xs, ∀ y ∈ z, y ≠ c) → cutAt c (Go.Lib.join (x :: xs) [c]) = x :: xs
  | [], x, h, _ => by rw [Go.Lib.join_one]; exact cutAt_none h
  | z :: xs, x, h, hs => by
    have e : Go.Lib.join (x :: z :: xs) [c] = x ++ c :: Go.Lib.join (z :: xs) [c] := by
      rw [Go.Lib.join_cons, Go.Lib.join_cons]
      simp [Go.Lib.joinTail]
    rw [e, cutAt_app h, cut_join xs z (hs z (List.mem_cons_self ..)) fun w hw => hs w (List.mem_cons_of_mem _ hw)]
/-! Claims' texts. -/
theorem ofNat_plain {w : Int} (h0 : 0 ≤ w) (h4 : w < 4) : plain (UInt8.ofNat (97 + w.toNat)) := by
  rcases (by omega : w = 0 ∨ w = 1 ∨ w = 2 ∨ w = 3) with rfl | rfl | rfl | rfl <;> exact ⟨by decide, by decide, by decide, by decide, by decide⟩
theorem claimTx_clean {people : Int} {c : Claim} (h : claimOk people c = true) : ∀ y ∈ claimTx people c, y ≠ 44 ∧ y ≠ 32 ∧ y ≠ 10 ∧ y ≠ 46 := by
  obtain ⟨h1, h2, h3, h4, h5, h6⟩ := claimOk_all h
  intro y hy
  unfold claimTx at hy
  rw [if_pos h] at hy
  rcases List.mem_cons.1 hy with rfl | hy
  · have := ofNat_plain h3 (by omega); exact ⟨this.2.2.1, this.1, this.2.1, this.2.2.2.1⟩
  rcases List.mem_cons.1 hy with rfl | hy
  · exact ⟨by decide, by decide, by decide, by decide⟩
  · have := termText_plain h5 y hy; exact ⟨this.2.2.1, this.1, this.2.1, this.2.2.2.1⟩
theorem join_mem {y c : UInt8} : ∀ (xs : List (List UInt8)), y ∈ Go.Lib.join xs [c] → y = c ∨ ∃ x ∈ xs, y ∈ x
  | [], h => by rw [Go.Lib.join_nil] at h; simp at h
  | [x], h => by rw [Go.Lib.join_one] at h; exact .inr ⟨x, by simp, h⟩
  | x :: z :: xs, h => by
    have e : Go.Lib.join (x :: z :: xs) [c] = x ++ c :: Go.Lib.join (z :: xs) [c] := by
      rw [Go.Lib.join_cons, Go.Lib.join_cons]
      simp [Go.Lib.joinTail]
    rw [e] at h
    rcases List.mem_append.1 h with h | h
    · exact .inr ⟨x, by simp, h⟩
    rcases List.mem_cons.1 h with h | h
    · exact .inl h
    · rcases join_mem _ h with h | ⟨w, hw, h⟩
      · exact .inl h
      · exact .inr ⟨w, List.mem_cons_of_mem _ hw, h⟩
theorem story_cut {people : Int} {l : List Claim} (hl : l ≠ []) (h : ∀ c ∈ l, claimOk people c = true) : cutAt 44 (storyTx people l) = l.map (claimTx people) := by
  cases l with
  | nil => exact absurd rfl hl
  | cons c l =>
    unfold storyTx
    rw [List.map_cons]
    refine cut_join _ _ (fun y hy => (claimTx_clean (h c (List.mem_cons_self ..)) y hy).1) fun z hz y hy => ?_
    obtain ⟨d, hd, rfl⟩ := List.mem_map.1 hz
    exact (claimTx_clean (h d (List.mem_cons_of_mem _ hd)) y hy).1
theorem story_plain {people : Int} {l : List Claim} (h : ∀ c ∈ l, claimOk people c = true) : ∀ y ∈ storyTx people l, y ≠ 32 ∧ y ≠ 10 ∧ y ≠ 46 := fun y hy => by
  rcases join_mem _ hy with rfl | ⟨x, hx, hy⟩
  · exact ⟨by decide, by decide, by decide⟩
  · obtain ⟨d, hd, rfl⟩ := List.mem_map.1 hx
    have := claimTx_clean (h d hd) y hy
    exact ⟨this.2.1, this.2.2.1, this.2.2.2⟩
theorem story_reads {people : Int} {l : List Claim} (hl : l ≠ []) (h : ∀ c ∈ l, claimOk people c = true) : (cutAt 44 (storyTx people l)).map (readC people) = l.map some := by
  rw [story_cut hl h, List.map_map]
  exact List.map_congr_left fun c hc => readC_text (h c hc)
/-- What stands behind the blank. -/
noncomputable def restTx (p : Place) : List UInt8 := if p.story = [] then [46] else storyTx p.people p.story
theorem dec_digit {n : Int} (h0 : 1 ≤ n) (h4 : n ≤ 4) : dec n = [UInt8.ofNat (48 + n.toNat)] := by
  unfold dec Go.Lib.decDigits; rcases (by omega : n = 1 ∨ n = 2 ∨ n = 3 ∨ n = 4) with rfl | rfl | rfl | rfl <;> rfl
theorem placeTx_shape {p : Place} (h : placeOk p = true) : placeTx p = UInt8.ofNat (48 + p.people.toNat) :: 32 :: restTx p := by
  obtain ⟨h1, h2, _, _⟩ := placeOk_all h
  unfold placeTx restTx
  rw [if_pos h, dec_digit h1 h2]; rfl
theorem story_pos {p : Place} (h : placeOk p = true) (hs : p.story ≠ []) : 3 ≤ (storyTx p.people p.story).length := by
  obtain ⟨h1, h2, _, h4⟩ := placeOk_all h
  obtain ⟨people, story⟩ := p
  cases story with
  | nil => exact absurd rfl hs
  | cons c l =>
    have := (claimTx_len (h4 c (List.mem_cons_self ..))).1
    unfold storyTx
    rw [List.map_cons, Go.Lib.join_cons]
    simp only [List.length_append]; simp only at this ⊢; omega
theorem restTx_dot {p : Place} (h : placeOk p = true) : restTx p = [46] ↔ p.story = [] := by
  unfold restTx
  constructor
  · intro e
    by_cases hs : p.story = []
    · exact hs
    · rw [if_neg hs] at e
      have := story_pos h hs; rw [e] at this; simp at this
  · intro e; rw [if_pos e]
theorem restTx_pos {p : Place} (h : placeOk p = true) : restTx p ≠ [] := by
  unfold restTx
  split
  · simp
  · rename_i hs; intro e; have := story_pos h hs; rw [e] at this; simp at this
theorem restTx_plain {p : Place} (h : placeOk p = true) : ∀ y ∈ restTx p, y ≠ 32 ∧ y ≠ 10 := by
  obtain ⟨_, _, _, h4⟩ := placeOk_all h
  unfold restTx
  split
  · intro y hy; cases List.mem_singleton.1 hy; exact ⟨by decide, by decide⟩
  · intro y hy; have := story_plain h4 y hy; exact ⟨this.1, this.2.1⟩
theorem rest_reads {p : Place} (h : placeOk p = true) (hd : restTx p ≠ [46]) : (cutAt 44 (restTx p)).map (readC p.people) = p.story.map some := by
  obtain ⟨_, _, _, h4⟩ := placeOk_all h
  have hs : p.story ≠ [] := fun e => hd ((restTx_dot h).2 e)
  unfold restTx
  rw [if_neg hs]
  exact story_reads hs h4
theorem digit_inj {a b : Int} (ha : 1 ≤ a) (ha4 : a ≤ 4) (hb : 1 ≤ b) (hb4 : b ≤ 4) (h : UInt8.ofNat (48 + a.toNat) = UInt8.ofNat (48 + b.toNat)) : a = b := by
  have := congrArg UInt8.toNat h
  rw [UInt8.toNat_ofNat', UInt8.toNat_ofNat'] at this; omega
theorem map_some_inj {l m : List Claim} (h : l.map some = m.map some) : l = m := by
  have := congrArg (List.filterMap id) h
  simpa [List.filterMap_map] using this
theorem placeTx_inj {p q : Place} (hp : placeOk p = true) (hq : placeOk q = true) (h : placeTx p = placeTx q) : p = q := by
  rw [placeTx_shape hp, placeTx_shape hq] at h
  obtain ⟨a1, a2, _, _⟩ := placeOk_all hp
  obtain ⟨b1, b2, _, _⟩ := placeOk_all hq
  have h1 := (List.cons.inj h).1
  have h2 := (List.cons.inj (List.cons.inj h).2).2
  have e1 := digit_inj a1 a2 b1 b2 h1
  have e2 : p.story = q.story := by
    by_cases hd : restTx p = [46]
    · rw [(restTx_dot hp).1 hd, (restTx_dot hq).1 (by rw [← h2]; exact hd)]
    · have r1 := rest_reads hp hd
      have r2 := rest_reads hq (by rw [← h2]; exact hd)
      rw [← h2, ← e1, r1] at r2
      exact map_some_inj r2
  obtain ⟨pp, ps⟩ := p
  obtain ⟨qp, qs⟩ := q
  simp only at e1 e2
  rw [e1, e2]
theorem placeTx_pos {p : Place} (h : placeOk p = true) : placeTx p ≠ [] := by rw [placeTx_shape h]; simp
theorem placeTx_ok {p : Place} (h : placeTx p ≠ []) : placeOk p = true := by
  have hk := ft (placeOk p)
  rcases hk with hk | hk
  · exact absurd (placeTx_no hk) h
  · exact hk
/-- What ReadPlace finds. -/
noncomputable def readP (s : List UInt8) : Option Place := by
  classical exact if h : ∃ p, placeOk p = true ∧ placeTx p = s then some (Classical.choose h) else none
theorem readP_some {s : List UInt8} {p : Place} (h : placeOk p = true) (hs : placeTx p = s) : readP s = some p := by
  have hx : ∃ p, placeOk p = true ∧ placeTx p = s := ⟨p, h, hs⟩
  unfold readP; rw [dif_pos hx]
  have := Classical.choose_spec hx
  exact congrArg some (placeTx_inj this.1 h (by rw [this.2, hs]))
theorem readP_is {s : List UInt8} {p : Place} (h : readP s = some p) : placeOk p = true ∧ placeTx p = s := by
  unfold readP at h
  split at h
  · rename_i hx; cases h; exact Classical.choose_spec hx
  · cases h
theorem readP_none {s : List UInt8} (h : ∀ p, placeOk p = true → placeTx p ≠ s) : readP s = none := by
  unfold readP; rw [dif_neg]; rintro ⟨p, h1, h2⟩; exact h p h1 h2
/-- How a text falls apart. -/
def parts (s : List UInt8) (D : Int) (rest : List UInt8) : Prop := s ≠ [] ∧ ∀ p, placeOk p = true → placeTx p = s → D = p.people ∧ rest = restTx p
theorem readP_piece {s rest : List UInt8} {D : Int} (h : parts s D rest) (hd : rest ≠ [46]) (x : List UInt8) (hx : x ∈ cutAt 44 rest) (hn : readC D x = none) : readP s = none := by
  refine readP_none fun p hp hs => ?_
  obtain ⟨rfl, rfl⟩ := h.2 p hp hs
  have := rest_reads hp hd
  have hm : readC p.people x ∈ (cutAt 44 (restTx p)).map (readC p.people) := List.mem_map_of_mem hx
  rw [this, hn] at hm
  simp at hm
theorem readP_end {s rest : List UInt8} {D : Int} {l : List Claim} (h : parts s D rest) (hl : rest = [46] ∧ l = [] ∨ rest ≠ [46] ∧ (cutAt 44 rest).map (readC D) = l.map some) :
    readP s = if placeTx ⟨D, l⟩ = s then some ⟨D, l⟩ else none := by
  split
  · rename_i hs
    exact readP_some (placeTx_ok (by rw [hs]; exact h.1)) hs
  · rename_i hne
    refine readP_none fun p hp hs => hne ?_
    obtain ⟨rfl, rfl⟩ := h.2 p hp hs
    have e : p.story = l := by
      rcases hl with ⟨h1, h2⟩ | ⟨h1, h2⟩
      · rw [h2]; exact (restTx_dot hp).1 h1
      · rw [rest_reads hp h1] at h2; exact map_some_inj h2
    rw [← e]; exact hs
theorem parts_one {a : UInt8} {rest : List UInt8} : parts (a :: 32 :: rest) ((a.toNat : Int) - 48) rest := ⟨by simp, fun p hp hs => by
  obtain ⟨h1, h2, _, _⟩ := placeOk_all hp
  rw [placeTx_shape hp] at hs
  have e1 := (List.cons.inj hs).1
  have e2 := (List.cons.inj (List.cons.inj hs).2).2
  refine ⟨?_, e2.symm⟩
  have := congrArg UInt8.toNat e1
  rw [UInt8.toNat_ofNat'] at this; omega⟩
theorem last_in {p w s : List UInt8} {c : UInt8} (hw : w ≠ []) (h : p ++ w = s ++ [c]) : c ∈ w := by
  have h1 := congrArg List.getLast? h
  rw [List.getLast?_append, List.getLast?_append] at h1
  cases e : w.getLast? with
  | none => exact absurd (List.getLast?_eq_none_iff.1 e) hw
  | some y =>
    rw [e] at h1
    simp at h1
    rw [← h1]; exact List.mem_of_getLast? e
/-- With a further sign behind it, that no place has at its end. -/
theorem readP_more {s : List UInt8} {c : UInt8} (hc : c = 32 ∨ c = 10) : readP (s ++ [c]) = none := readP_none fun p hp hs => by
  rw [placeTx_shape hp] at hs
  have h1 : [UInt8.ofNat (48 + p.people.toNat), 32] ++ restTx p = s ++ [c] := hs
  have := restTx_plain hp c (last_in (restTx_pos hp) h1)
  rcases hc with rfl | rfl
  · exact this.1 rfl
  · exact this.2 rfl
end TL
