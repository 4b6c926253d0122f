/- The exact law of the texts of deeds. -/
import Derived.Test.YtcoapdapigpfgaaDoorFnsQE2
import Derived.Test.YtcoapdapigpfgaaDoorFnsQ14
set_option linter.unusedSimpArgs false
set_option linter.unusedVariables false
set_option maxRecDepth 100000
set_option maxHeartbeats 4000000
set_option pp.maxSteps 1500
namespace TL
open Go Go.Proofs
attribute [local simp] marksV storyV codeV Claim.v Place.v Deed.v
def Deed.fit (a : Deed) : Prop := TL.fit a.kind ∧ TL.fit a.num ∧ a.words.length ≤ 9223372036854775807
theorem szDeed_fn (a : Deed) (left : Int) (h0 : 0 ≤ left) (h1 : left ≤ 1048576) (hl : a.words.length ≤ 9223372036854775807) : FnZ Tryd.prog 15 [a.v, .int .i64 left] (.int .i64 (szR left a.words.length)) := by
  obtain ⟨kind, num, words⟩ := a
  simp only at hl
  have w1 : IntKind.wrap .i64 (left - words.length) = left - words.length := w64 (by omega) (by omega)
  unfold szR
  refine FnZ_of (rs := [.tmp 4]) false Tryd.func15 rfl rfl rfl rfl (Nat.le_of_ble_eq_true rfl) ?_
  by_cases h : left - words.length < 0
  · simp -dsimp [w1, h]
  · simp -dsimp [w1, h]
theorem toDeed_fn (a : Deed) : FnZ Tryd.prog 17 [a.v] a.v := by
  refine FnZ_of (rs := [.cell 2 26]) false Tryd.func17 rfl rfl rfl rfl (Nat.le_of_ble_eq_true rfl) ?_
  simp -dsimp
theorem opens_deed (w : World) : Opens Tryd.prog w 23 fun vs => ∃ a : Deed, a.fit ∧ a.v = .agg vs :=
  (opens_struct3 Tryd.underlying23 rfl (by kernel_rfl) (by kernel_rfl) (by kernel_rfl) (opens_int Tryd.underlying3) (opens_int Tryd.underlying3) (opens_string Tryd.underlying9)).mono fun vs h => by
    obtain ⟨v0, v1, v2, rfl, ⟨n0, rfl, w0⟩, ⟨n1, rfl, w1⟩, ⟨s, rfl, hl⟩⟩ := h
    exact ⟨⟨n0, n1, s⟩, ⟨fit_wf w0, fit_wf w1, by simpa [maxLen] using hl⟩, rfl⟩
theorem exactDeedText_row (a : Deed) (hf : a.fit) : FnZ Tryd.prog 3 [a.v] (.bool true) := by
  have hsz := szDeed_fn a 1048576 (by omega) (by omega) hf.2.2
  by_cases hz : (1048576 : Int) - a.words.length < 0
  · have e : szR 1048576 a.words.length = -1 := if_pos hz
    refine FnZ_of (rs := [.tmp 2]) false Tryd.func3 rfl rfl rfl rfl (Nat.le_of_ble_eq_true rfl) ?_
    simp -dsimp
    refine call_ hsz (by simp -dsimp) ?_
    simp -dsimp [e]
  · have e : szR 1048576 a.words.length = 1048576 - a.words.length := if_neg hz
    have h1 := deedTextS_fn a (by omega)
    have h2 := deedText_fn a (by omega)
    generalize deedTx a = s at *
    refine FnZ_of (rs := [.tmp 2]) false Tryd.func3 rfl rfl rfl rfl (Nat.le_of_ble_eq_true rfl) ?_
    simp -dsimp
    refine call_ hsz (by simp -dsimp) ?_
    simp -dsimp [e, hz]
    refine call_ (toDeed_fn a) (by simp -dsimp) ?_
    simp -dsimp
    refine call_ h1 (by simp -dsimp) ?_
    simp -dsimp
    refine call_ (toDeed_fn a) (by simp -dsimp) ?_
    simp -dsimp
    refine call_ h2 (by simp -dsimp) ?_
    simp -dsimp
end TL
