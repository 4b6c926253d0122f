/- Measures; the exact law of PlaceOk. -/
import Derived.Test.YtcoapdapigpfgaaDoorFnsQ12
import Derived.Test.YtcoapdapigpfgaaDoorFnsQ9
set_option linter.unusedSimpArgs false
set_option linter.unusedVariables false
set_option maxRecDepth 100000
set_option maxHeartbeats 4000000
set_option pp.maxSteps 1500
namespace TL
open Go Go.Proofs
attribute [local simp] marksV storyV codeV Claim.v Place.v
def mid (n : Nat) : Prop := n ≤ 9223372036854775807
def Claim.mid (c : Claim) : Prop := TL.mid c.says.length
def Place.mid (p : Place) : Prop := TL.mid p.story.length ∧ ∀ c ∈ p.story, c.mid
theorem szMarkS_fn (l : List Mark) (left : Int) (h0 : 0 ≤ left) (h1 : left ≤ 1048576) (hl : mid l.length) : FnZ Tryd.prog 110 [marksV l, .int .i64 left] (.int .i64 (szR left l.length)) := by
  unfold mid at hl
  have w : IntKind.wrap .i64 (left - l.length) = left - l.length := w64 (by omega) (by omega)
  refine FnZ_of (rs := [.tmp 4]) false Tryd.func110 rfl rfl rfl rfl (Nat.le_of_ble_eq_true rfl) ?_
  by_cases h : left - l.length < 0 <;> simp -dsimp [w, h, szR]
theorem szClaim_fn (c : Claim) (left : Int) (h0 : 0 ≤ left) (h1 : left ≤ 1048576) (hl : c.mid) : FnZ Tryd.prog 85 [c.v, .int .i64 left] (.int .i64 (szR left c.says.length)) := by
  refine FnZ_of (rs := [.tmp 4]) false Tryd.func85 rfl rfl rfl rfl (Nat.le_of_ble_eq_true rfl) ?_
  simp -dsimp
  refine call_ (szMarkS_fn c.says left h0 h1 hl) (by simp -dsimp) ?_
  by_cases h : left - c.says.length < 0
  · have e : szR left c.says.length = -1 := if_pos h
    simp -dsimp [e]
  · have e : szR left c.says.length = left - c.says.length := if_neg h
    simp -dsimp [e, h]
def saysSum (l : List Claim) : Nat := (l.map fun c => c.says.length).sum
theorem saysSum_take {l : List Claim} {i : Nat} (h : i < l.length) : saysSum (l.take (i + 1)) = saysSum (l.take i) + l[i].says.length := by
  unfold saysSum; rw [List.take_succ_eq_append_getElem h, List.map_append, List.sum_append]; rfl
theorem saysSum_le (l : List Claim) (i : Nat) : saysSum (l.take i) ≤ saysSum l := by
  have e : saysSum l = saysSum (l.take i ++ l.drop i) := by rw [List.take_append_drop]
  rw [e]; unfold saysSum; rw [List.map_append, List.sum_append]; omega
def SZC (l : List Claim) (left : Int) (e : Nat) (s : S) : Prop := ∃ i : Nat, s.tm 0 = .v (.sl (l.map Claim.v)) ∧ s.tm 1 = .v (.int .i64 (left - l.length - saysSum (l.take i))) ∧ s.tm 5 = .v (.int .i64 i) ∧ i ≤ l.length ∧ 0 ≤ left - l.length - saysSum (l.take i) ∧ (e = 1 → i = l.length)
theorem szClaimS_fn (l : List Claim) (left : Int) (h0 : 0 ≤ left) (h1 : left ≤ 1048576) (hl : mid l.length) (hc : ∀ c ∈ l, c.mid) : FnZ Tryd.prog 58 [storyV l, .int .i64 left] (.int .i64 (szR left (l.length + saysSum l))) := by
  unfold mid at hl
  have w : IntKind.wrap .i64 (left - l.length) = left - l.length := w64 (by omega) (by omega)
  refine FnZ_of (rs := [.tmp 4]) false Tryd.func58 rfl rfl rfl rfl (Nat.le_of_ble_eq_true rfl) ?_
  by_cases h : left - l.length < 0
  · have e : szR left (l.length + saysSum l) = -1 := if_pos (by omega)
    simp -dsimp [w, h, e]
  simp -dsimp [w, h]
  refine twp_loopC (SZC l left 0) (fun s => l.length - natOf (s.tm 5)) (SZC l left 1) ?_ ?_ ?_
  · exact ⟨0, by simp -dsimp, by simp -dsimp [saysSum], by simp -dsimp, by omega, by simp [saysSum]; omega, by simp⟩
  · rintro s ⟨i, t0, t1, t5, hi, hp, hend⟩
    by_cases hlt : i < l.length
    case neg =>
      simp -dsimp [t0, t5, hlt]
      exact ⟨i, by simp -dsimp [t0], by simp -dsimp [t1], by simp -dsimp [t5], hi, hp, fun _ => by omega⟩
    have hget : (l.map Claim.v)[i]? = some (l[i].v) := by simp [hlt]
    have wi : IntKind.wrap .i64 ((i : Int) + 1) = ((i + 1 : Nat) : Int) := by rw [w64 (by omega) (by omega)]; omega
    have hmu : l.length - (i + 1) < l.length - i := by omega
    have hs := saysSum_take hlt
    have hle := saysSum_le l (i + 1)
    simp -dsimp [t0, t1, t5, hlt, hget]
    refine call_ (szClaim_fn l[i] (left - l.length - saysSum (l.take i)) (by omega) (by omega) (hc _ (List.getElem_mem _))) (by simp -dsimp) ?_
    by_cases hn : left - l.length - saysSum (l.take i) - l[i].says.length < 0
    · have e1 : szR (left - l.length - saysSum (l.take i)) l[i].says.length = -1 := if_pos hn
      have e2 : szR left (l.length + saysSum l) = -1 := if_pos (by omega)
      simp -dsimp [e1, e2]
    · have e1 : szR (left - l.length - saysSum (l.take i)) l[i].says.length = left - l.length - saysSum (l.take (i + 1)) := by rw [szR, if_neg hn]; omega
      have e2 : ¬ left - l.length - saysSum (l.take (i + 1)) < 0 := by omega
      simp -dsimp [e1, e2, t5, wi, hmu]
      exact ⟨i + 1, by simp -dsimp [t0], by simp -dsimp, by simp -dsimp, by omega, by omega, by simp⟩
  · rintro s ⟨i, t0, t1, t5, hi, hp, hend⟩
    have := hend rfl
    subst this
    rw [List.take_length] at t1 hp
    have e : szR left (l.length + saysSum l) = left - l.length - saysSum l := by rw [szR, if_neg (by omega)]; omega
    simp -dsimp [t1, e]
def Place.bulk (p : Place) : Nat := p.story.length + saysSum p.story
theorem szPlace_fn (p : Place) (left : Int) (h0 : 0 ≤ left) (h1 : left ≤ 1048576) (hp : p.mid) : FnZ Tryd.prog 19 [p.v, .int .i64 left] (.int .i64 (szR left p.bulk)) := by
  refine FnZ_of (rs := [.tmp 4]) false Tryd.func19 rfl rfl rfl rfl (Nat.le_of_ble_eq_true rfl) ?_
  simp -dsimp
  refine call_ (szClaimS_fn p.story left h0 h1 hp.1 hp.2) (by simp -dsimp) ?_
  by_cases h : left - p.bulk < 0
  · have e : szR left (p.story.length + saysSum p.story) = -1 := if_pos h
    simp -dsimp [e, Place.bulk]
  · have e : szR left (p.story.length + saysSum p.story) = left - p.bulk := if_neg h
    have e2 : szR left p.bulk = left - p.bulk := if_neg h
    simp -dsimp [e, h, e2]
theorem saysSum_mem {l : List Claim} {c : Claim} (h : c ∈ l) : c.says.length ≤ saysSum l := by
  induction l with
  | nil => cases h
  | cons y ys ih =>
    rcases List.mem_cons.1 h with rfl | h
    · simp [saysSum]
    · have := ih h; simp only [saysSum, List.map_cons, List.sum_cons] at this ⊢; omega
theorem Place.small_of {p : Place} (h : ¬ (1048576 : Int) - p.bulk < 0) : p.small := by
  unfold Place.bulk at h
  exact ⟨by omega, fun c hc => by have := saysSum_mem hc; unfold Claim.small; omega⟩
end TL
