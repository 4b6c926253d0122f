/- The functions by which the exact laws measure, turn and compare their arguments. -/
import Derived.Test.YtcoapdapigpfgaaDoorFnsQ2
import Derived.Test.YtcoapdapigpfgaaDoorTlRow
set_option linter.unusedSimpArgs false
set_option linter.unusedVariables false
set_option maxRecDepth 100000
set_option maxHeartbeats 4000000
set_option pp.maxSteps 1500
namespace TL
open Go Go.Proofs
attribute [local simp] marksV storyV codeV Claim.v Place.v
theorem elemOk_mark : ElemOk Mark.v 2 := fun a => ⟨rfl, by simp [Mark.v], by simp [Mark.v]⟩
theorem elemOk_claim : ElemOk Claim.v 2 := fun a => ⟨rfl, by simp, by simp⟩
theorem elemOk_place : ElemOk Place.v 2 := fun a => ⟨rfl, by simp, by simp⟩
theorem cellsT_mark (m : Mark) : cellsT m.v = [.v (.int .i64 m.kind), .v (.int .i64 m.num)] := rfl
theorem cellsT_claim (c : Claim) : cellsT c.v = [.v (.int .i64 c.who), .v (.sl (c.says.map Mark.v))] := rfl
theorem cellsT_place (p : Place) : cellsT p.v = [.v (.int .i64 p.people), .v (.sl (p.story.map Claim.v))] := rfl
/-- What is left of a measure. -/
def szR (left : Int) (n : Nat) : Int := if left - n < 0 then -1 else left - n
def Claim.small (c : Claim) : Prop := c.says.length ≤ 1048576
def Place.small (p : Place) : Prop := p.story.length ≤ 1048576 ∧ ∀ c ∈ p.story, c.small
theorem take_eq_succ {α : Type} {a b : List α} {i : Nat} (ha : i < a.length) (hb : i < b.length) (h : a.take i = b.take i) (he : a[i] = b[i]) : a.take (i + 1) = b.take (i + 1) := by
  rw [List.take_succ_eq_append_getElem ha, List.take_succ_eq_append_getElem hb, h, he]
theorem toMark_fn (a : Mark) : FnZ Tryd.prog 139 [a.v] a.v := by
    refine FnZ_of (rs := [.cell 2 126]) false Tryd.func139 rfl rfl rfl rfl (Nat.le_of_ble_eq_true rfl) ?_
    simp -dsimp [Mark.v]
def ItoMarkS (l : List Mark) (a : Nat) (s : S) : Prop := ∃ i : Nat, s.tm 0 = .v (.sl (l.map Mark.v)) ∧ s.tm 3 = .sv 0 0 l.length ∧ s.tm 4 = .v (.int .i64 i) ∧ i ≤ l.length ∧ s.m 0 = some (.box 126 2 (filled Mark.v [T.v (.int .i64 0), T.v (.int .i64 0)] l i).flatten) ∧ (a = 1 → i = l.length)
theorem toMarkS_fn (l : List Mark) (hl : l.length ≤ 1048576) : FnZ Tryd.prog 114 [.sl (l.map Mark.v)] (.sl (l.map Mark.v)) := by
  have b1 : (16 : Int) * l.length ≤ 281474976710656 := by omega
  have b2 : (l.length : Int) ≤ 9223372036854775807 := by omega
  have b3 : (0 : Int) ≤ l.length := by omega
  refine FnZ_of (rs := [.tmp 2]) false Tryd.func114 rfl rfl rfl rfl (Nat.le_of_ble_eq_true rfl) ?_
  simp -dsimp [b1, b2, b3]
  refine twp_loopC (ItoMarkS l 0) (fun s => l.length - natOf (s.tm 4)) (ItoMarkS l 1) ?_ ?_ ?_
  · exact ⟨0, by simp -dsimp, by simp -dsimp, by simp -dsimp, by omega, by rw [filled_zero]; simp -dsimp, by simp⟩
  · rintro s ⟨i, h0, h3, h4, hi, hm, hend⟩
    by_cases hlt : i < l.length
    case neg =>
      simp -dsimp [h0, h4, hlt]
      exact ⟨i, by simp -dsimp [h0], by simp -dsimp [h3], by simp -dsimp [h4], hi, by simp -dsimp [hm], fun _ => by omega⟩
    have hget : (l.map Mark.v)[i]? = some (l[i].v) := by simp [hlt]
    have wi : IntKind.wrap .i64 ((i : Int) + 1) = ((i + 1 : Nat) : Int) := by rw [w64 (by omega) (by omega)]; omega
    have hmu : l.length - (i + 1) < l.length - i := by omega
    have hfl : (filled Mark.v [T.v (.int .i64 0), T.v (.int .i64 0)] l i).flatten.length = l.length * 2 := filled_flat_len (k := 2) elemOk_mark rfl hi
    have hst := filled_set (v := Mark.v) (zs := [T.v (.int .i64 0), T.v (.int .i64 0)]) (k := 2) elemOk_mark rfl hlt
    have hcv : l[i].v.cells = (l[i].v).cells := rfl
    have hoff : i * 2 + 2 ≤ l.length * 2 := by omega
    have hlt' : (i : Int) < l.length := by omega
    rw [cellsT_mark] at hst
    simp -dsimp [h0, h3, h4, hlt, hget]
    refine call_ (toMark_fn l[i]) (by simp -dsimp [Mark.v]) ?_
    simp -dsimp [Mark.v, h0, h3, h4, hlt, hlt', hm, hfl, hoff, hst, wi, hmu, filled_len]
    exact ⟨i + 1, by simp -dsimp [h0], by simp -dsimp [h3], by simp -dsimp, by omega, by simp -dsimp, by simp⟩
  · rintro s ⟨i, h0, h3, h4, hi, hm, hend⟩
    have := hend rfl
    subst this
    have hb := bor_filled (k := 2) elemOk_mark 3 hm
    simp -dsimp [h3, hb]
theorem toClaim_fn (a : Claim) (hc : a.small) : FnZ Tryd.prog 89 [a.v] a.v := by
    refine FnZ_of (rs := [.cell 2 80]) false Tryd.func89 rfl rfl rfl rfl (Nat.le_of_ble_eq_true rfl) ?_
    simp -dsimp [Mark.v]
    refine call_ (toMarkS_fn a.says hc) (by simp -dsimp) ?_
    simp -dsimp [Mark.v]
def ItoClaimS (l : List Claim) (a : Nat) (s : S) : Prop := ∃ i : Nat, s.tm 0 = .v (.sl (l.map Claim.v)) ∧ s.tm 3 = .sv 0 0 l.length ∧ s.tm 4 = .v (.int .i64 i) ∧ i ≤ l.length ∧ s.m 0 = some (.box 80 2 (filled Claim.v [T.v (.int .i64 0), T.nil] l i).flatten) ∧ (a = 1 → i = l.length)
theorem toClaimS_fn (l : List Claim) (hl : l.length ≤ 1048576) (hs : ∀ a ∈ l, a.small) : FnZ Tryd.prog 61 [.sl (l.map Claim.v)] (.sl (l.map Claim.v)) := by
  have b1 : (32 : Int) * l.length ≤ 281474976710656 := by omega
  have b2 : (l.length : Int) ≤ 9223372036854775807 := by omega
  have b3 : (0 : Int) ≤ l.length := by omega
  refine FnZ_of (rs := [.tmp 2]) false Tryd.func61 rfl rfl rfl rfl (Nat.le_of_ble_eq_true rfl) ?_
  simp -dsimp [b1, b2, b3]
  refine twp_loopC (ItoClaimS l 0) (fun s => l.length - natOf (s.tm 4)) (ItoClaimS l 1) ?_ ?_ ?_
  · exact ⟨0, by simp -dsimp, by simp -dsimp, by simp -dsimp, by omega, by rw [filled_zero]; simp -dsimp, by simp⟩
  · rintro s ⟨i, h0, h3, h4, hi, hm, hend⟩
    by_cases hlt : i < l.length
    case neg =>
      simp -dsimp [h0, h4, hlt]
      exact ⟨i, by simp -dsimp [h0], by simp -dsimp [h3], by simp -dsimp [h4], hi, by simp -dsimp [hm], fun _ => by omega⟩
    have hget : (l.map Claim.v)[i]? = some (l[i].v) := by simp [hlt]
    have wi : IntKind.wrap .i64 ((i : Int) + 1) = ((i + 1 : Nat) : Int) := by rw [w64 (by omega) (by omega)]; omega
    have hmu : l.length - (i + 1) < l.length - i := by omega
    have hfl : (filled Claim.v [T.v (.int .i64 0), T.nil] l i).flatten.length = l.length * 2 := filled_flat_len (k := 2) elemOk_claim rfl hi
    have hst := filled_set (v := Claim.v) (zs := [T.v (.int .i64 0), T.nil]) (k := 2) elemOk_claim rfl hlt
    have hcv : l[i].v.cells = (l[i].v).cells := rfl
    have hoff : i * 2 + 2 ≤ l.length * 2 := by omega
    have hlt' : (i : Int) < l.length := by omega
    rw [cellsT_claim] at hst
    simp -dsimp [h0, h3, h4, hlt, hget]
    refine call_ (toClaim_fn l[i] (hs _ (List.getElem_mem _))) (by simp -dsimp [Mark.v]) ?_
    simp -dsimp [Mark.v, h0, h3, h4, hlt, hlt', hm, hfl, hoff, hst, wi, hmu, filled_len]
    exact ⟨i + 1, by simp -dsimp [h0], by simp -dsimp [h3], by simp -dsimp, by omega, by simp -dsimp, by simp⟩
  · rintro s ⟨i, h0, h3, h4, hi, hm, hend⟩
    have := hend rfl
    subst this
    have hb := bor_filled (k := 2) elemOk_claim 3 hm
    simp -dsimp [h3, hb]
theorem toPlace_fn (a : Place) (hc : a.small) : FnZ Tryd.prog 21 [a.v] a.v := by
    refine FnZ_of (rs := [.cell 2 36]) false Tryd.func21 rfl rfl rfl rfl (Nat.le_of_ble_eq_true rfl) ?_
    simp -dsimp [Mark.v]
    refine call_ (toClaimS_fn a.story hc.1 hc.2) (by simp -dsimp) ?_
    simp -dsimp [Mark.v]
theorem eqMark_fn (a b : Mark) : FnZ Tryd.prog 142 [a.v, b.v] (.bool (decide (a = b))) := by
  refine FnZ_of (rs := [.tmp 4]) false Tryd.func142 rfl rfl rfl rfl (Nat.le_of_ble_eq_true rfl) ?_
  by_cases h0 : a.kind = b.kind
  case neg =>
    have e : decide (a = b) = false := by cases a; cases b; simp_all
    simp -dsimp [Mark.v, h0, e]
  by_cases h1 : a.num = b.num
  · have e : decide (a = b) = true := by cases a; cases b; simp_all
    simp -dsimp [Mark.v, h0, h1, e]
  · have e : decide (a = b) = false := by cases a; cases b; simp_all
    simp -dsimp [Mark.v, h0, h1, e]
def IeqMarkS (a b : List Mark) (e : Nat) (s : S) : Prop := ∃ i : Nat, s.tm 0 = .v (.sl (a.map Mark.v)) ∧ s.tm 1 = .v (.sl (b.map Mark.v)) ∧ s.tm 5 = .v (.int .i64 i) ∧ i ≤ a.length ∧ a.take i = b.take i ∧ (e = 1 → i = a.length)
theorem eqMarkS_fn (a b : List Mark) (hl : a.length ≤ 1048576) : FnZ Tryd.prog 120 [.sl (a.map Mark.v), .sl (b.map Mark.v)] (.bool (decide (a = b))) := by
  refine FnZ_of (rs := [.tmp 4]) false Tryd.func120 rfl rfl rfl rfl (Nat.le_of_ble_eq_true rfl) ?_
  by_cases hn : a.length = b.length
  case neg =>
    have e : decide (a = b) = false := by simp; rintro rfl; exact hn rfl
    have hn' : ¬ (a.length : Int) = b.length := by omega
    simp -dsimp [hn, hn', e]
  simp -dsimp [hn]
  refine twp_loopC (IeqMarkS a b 0) (fun s => a.length - natOf (s.tm 5)) (IeqMarkS a b 1) ?_ ?_ ?_
  · exact ⟨0, by simp -dsimp, by simp -dsimp, by simp -dsimp, by omega, by simp, by simp⟩
  · rintro s ⟨i, h0, h1, h5, hi, htk, hend⟩
    by_cases hlt : i < a.length
    case neg =>
      have hlt2 : ¬ i < b.length := by omega
      simp -dsimp [h0, h5, hlt, hlt2, hn]
      exact ⟨i, by simp -dsimp [h0], by simp -dsimp [h1], by simp -dsimp [h5], hi, htk, fun _ => by omega⟩
    have hlt2 : i < b.length := by omega
    have hgeta : (a.map Mark.v)[i]? = some (a[i].v) := by simp [hlt]
    have hgetb : (b.map Mark.v)[i]? = some (b[i].v) := by simp [hlt2]
    have wi : IntKind.wrap .i64 ((i : Int) + 1) = ((i + 1 : Nat) : Int) := by rw [w64 (by omega) (by omega)]; omega
    have hmu : a.length - (i + 1) < a.length - i := by omega
    simp -dsimp [h0, h5, hlt, hlt2, hn]
    refine twp_draw (List.range 10) [] (List.replicate 10 []) (List.replicate 10 []) (by kernel_rfl) (by kernel_rfl) (by kernel_rfl) (by kernel_rfl) ?_
    simp -dsimp [List.range_succ, h0, h1, h5, hlt, hlt2, hgeta, hgetb]
    refine call_ (eqMark_fn a[i] b[i]) (by simp -dsimp [Mark.v]) ?_
    have hq := ft (decide (a[i] = b[i]))
    rcases hq with hq | hq
    · have e : decide (a = b) = false := by
        simp at hq ⊢; rintro rfl; exact hq rfl
      simp -dsimp [List.range_succ, hq, e]
    · have hq' : a[i] = b[i] := by simpa using hq
      have htk2 := take_eq_succ hlt hlt2 htk hq'
      have hmu2 : b.length - (i + 1) < b.length - i := by omega
      simp -dsimp [List.range_succ, hq, h5, wi, hmu, hmu2]
      exact ⟨i + 1, by simp -dsimp [h0], by simp -dsimp [h1], by simp -dsimp, by omega, htk2, by simp⟩
  · rintro s ⟨i, h0, h1, h5, hi, htk, hend⟩
    have := hend rfl
    subst this
    rw [List.take_length, hn, List.take_length] at htk
    have e : decide (a = b) = true := by simpa using htk
    simp -dsimp [e]
theorem eqClaim_fn (a b : Claim) (ha : a.small) : FnZ Tryd.prog 95 [a.v, b.v] (.bool (decide (a = b))) := by
  refine FnZ_of (rs := [.tmp 4]) false Tryd.func95 rfl rfl rfl rfl (Nat.le_of_ble_eq_true rfl) ?_
  by_cases h0 : a.who = b.who
  case neg =>
    have e : decide (a = b) = false := by cases a; cases b; simp_all
    simp -dsimp [Mark.v, h0, e]
  simp -dsimp [h0]
  refine call_ (eqMarkS_fn a.says b.says ha) (by simp -dsimp) ?_
  have h1 := ft (decide (a.says = b.says))
  rcases h1 with h1 | h1
  · have e : decide (a = b) = false := by cases a; cases b; simp_all
    simp -dsimp [h1, e]
  · have e : decide (a = b) = true := by cases a; cases b; simp_all
    simp -dsimp [h1, e]
def IeqClaimS (a b : List Claim) (e : Nat) (s : S) : Prop := ∃ i : Nat, s.tm 0 = .v (.sl (a.map Claim.v)) ∧ s.tm 1 = .v (.sl (b.map Claim.v)) ∧ s.tm 5 = .v (.int .i64 i) ∧ i ≤ a.length ∧ a.take i = b.take i ∧ (e = 1 → i = a.length)
theorem eqClaimS_fn (a b : List Claim) (hl : a.length ≤ 1048576) (hs : ∀ x ∈ a, x.small) : FnZ Tryd.prog 64 [.sl (a.map Claim.v), .sl (b.map Claim.v)] (.bool (decide (a = b))) := by
  refine FnZ_of (rs := [.tmp 4]) false Tryd.func64 rfl rfl rfl rfl (Nat.le_of_ble_eq_true rfl) ?_
  by_cases hn : a.length = b.length
  case neg =>
    have e : decide (a = b) = false := by simp; rintro rfl; exact hn rfl
    have hn' : ¬ (a.length : Int) = b.length := by omega
    simp -dsimp [hn, hn', e]
  simp -dsimp [hn]
  refine twp_loopC (IeqClaimS a b 0) (fun s => a.length - natOf (s.tm 5)) (IeqClaimS a b 1) ?_ ?_ ?_
  · exact ⟨0, by simp -dsimp, by simp -dsimp, by simp -dsimp, by omega, by simp, by simp⟩
  · rintro s ⟨i, h0, h1, h5, hi, htk, hend⟩
    by_cases hlt : i < a.length
    case neg =>
      have hlt2 : ¬ i < b.length := by omega
      simp -dsimp [h0, h5, hlt, hlt2, hn]
      exact ⟨i, by simp -dsimp [h0], by simp -dsimp [h1], by simp -dsimp [h5], hi, htk, fun _ => by omega⟩
    have hlt2 : i < b.length := by omega
    have hgeta : (a.map Claim.v)[i]? = some (a[i].v) := by simp [hlt]
    have hgetb : (b.map Claim.v)[i]? = some (b[i].v) := by simp [hlt2]
    have wi : IntKind.wrap .i64 ((i : Int) + 1) = ((i + 1 : Nat) : Int) := by rw [w64 (by omega) (by omega)]; omega
    have hmu : a.length - (i + 1) < a.length - i := by omega
    simp -dsimp [h0, h5, hlt, hlt2, hn]
    refine twp_draw (List.range 10) [] (List.replicate 10 []) (List.replicate 10 []) (by kernel_rfl) (by kernel_rfl) (by kernel_rfl) (by kernel_rfl) ?_
    simp -dsimp [List.range_succ, h0, h1, h5, hlt, hlt2, hgeta, hgetb]
    refine call_ (eqClaim_fn a[i] b[i] (hs _ (List.getElem_mem _))) (by simp -dsimp [Mark.v]) ?_
    have hq := ft (decide (a[i] = b[i]))
    rcases hq with hq | hq
    · have e : decide (a = b) = false := by
        simp at hq ⊢; rintro rfl; exact hq rfl
      simp -dsimp [List.range_succ, hq, e]
    · have hq' : a[i] = b[i] := by simpa using hq
      have htk2 := take_eq_succ hlt hlt2 htk hq'
      have hmu2 : b.length - (i + 1) < b.length - i := by omega
      simp -dsimp [List.range_succ, hq, h5, wi, hmu, hmu2]
      exact ⟨i + 1, by simp -dsimp [h0], by simp -dsimp [h1], by simp -dsimp, by omega, htk2, by simp⟩
  · rintro s ⟨i, h0, h1, h5, hi, htk, hend⟩
    have := hend rfl
    subst this
    rw [List.take_length, hn, List.take_length] at htk
    have e : decide (a = b) = true := by simpa using htk
    simp -dsimp [e]
theorem eqPlace_fn (a b : Place) (ha : a.small) : FnZ Tryd.prog 23 [a.v, b.v] (.bool (decide (a = b))) := by
  refine FnZ_of (rs := [.tmp 4]) false Tryd.func23 rfl rfl rfl rfl (Nat.le_of_ble_eq_true rfl) ?_
  by_cases h0 : a.people = b.people
  case neg =>
    have e : decide (a = b) = false := by cases a; cases b; simp_all
    simp -dsimp [Mark.v, h0, e]
  simp -dsimp [h0]
  refine call_ (eqClaimS_fn a.story b.story ha.1 ha.2) (by simp -dsimp) ?_
  have h1 := ft (decide (a.story = b.story))
  rcases h1 with h1 | h1
  · have e : decide (a = b) = false := by cases a; cases b; simp_all
    simp -dsimp [h1, e]
  · have e : decide (a = b) = true := by cases a; cases b; simp_all
    simp -dsimp [h1, e]
end TL
