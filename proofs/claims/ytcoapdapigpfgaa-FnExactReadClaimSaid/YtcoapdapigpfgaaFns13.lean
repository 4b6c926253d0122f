/- Measures; the exact law of PlaceOk. -/
import Derived.Test.YtcoapdapigpfgaaFns12
import Derived.Test.YtcoapdapigpfgaaFns9
set_option linter.unusedSimpArgs false
set_option linter.unusedVariables false
set_option maxRecDepth 100000
set_option maxHeartbeats 4000000
set_option pp.maxSteps 1500
namespace TL
open Go Go.Proofs
attribute [local simp] marksV storyV codeV Claim.v Place.v
def mid (n : Nat) : Prop := n ≤ 9223372036854775807
def Claim.mid (c : Claim) : Prop := TL.mid c.says.length
def Place.mid (p : Place) : Prop := TL.mid p.story.length ∧ ∀ c ∈ p.story, c.mid
def saysSum (l : List Claim) : Nat := (l.map fun c => c.says.length).sum
theorem saysSum_take {l : List Claim} {i : Nat} (h : i < l.length) : saysSum (l.take (i + 1)) = saysSum (l.take i) + l[i].says.length := by
  unfold saysSum; rw [List.take_succ_eq_append_getElem h, List.map_append, List.sum_append]; rfl
theorem saysSum_le (l : List Claim) (i : Nat) : saysSum (l.take i) ≤ saysSum l := by
  have e : saysSum l = saysSum (l.take i ++ l.drop i) := by rw [List.take_append_drop]
  rw [e]; unfold saysSum; rw [List.map_append, List.sum_append]; omega
def SZC (l : List Claim) (left : Int) (e : Nat) (s : S) : Prop := ∃ i : Nat, s.tm 0 = .v (.sl (l.map Claim.v)) ∧ s.tm 1 = .v (.int .i64 (left - l.length - saysSum (l.take i))) ∧ s.tm 5 = .v (.int .i64 i) ∧ i ≤ l.length ∧ 0 ≤ left - l.length - saysSum (l.take i) ∧ (e = 1 → i = l.length)
def Place.bulk (p : Place) : Nat := p.story.length + saysSum p.story
theorem saysSum_mem {l : List Claim} {c : Claim} (h : c ∈ l) : c.says.length ≤ saysSum l := by
  induction l with
  | nil => cases h
  | cons y ys ih =>
    rcases List.mem_cons.1 h with rfl | h
    · simp [saysSum]
    · have := ih h; simp only [saysSum, List.map_cons, List.sum_cons] at this ⊢; omega
theorem Place.small_of {p : Place} (h : ¬ (1048576 : Int) - p.bulk < 0) : p.small := by
  unfold Place.bulk at h
  exact ⟨by omega, fun c hc => by have := saysSum_mem hc; unfold Claim.small; omega⟩
end TL
