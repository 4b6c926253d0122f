/- The program's texts of deeds. -/
import Derived.Test.YtcoapdapigpfgaaDoorFnsQL1
set_option linter.unusedSimpArgs false
set_option linter.unusedVariables false
set_option maxRecDepth 100000
set_option maxHeartbeats 4000000
set_option pp.maxSteps 1500
namespace TL
open Go Go.Proofs
attribute [local simp] marksV storyV codeV Claim.v Place.v Deed.v
theorem deedText_fn (a : Deed) (hl : a.words.length ≤ 2000000000) : FnZ Tryd.prog 18 [a.v] (.str (deedTx a)) := by
  have hr := readClaim_fn 4 a.words hl
  obtain ⟨kind, num, words⟩ := a
  simp only at hr hl
  have len5 : ∀ x : List UInt8, x.length ≤ 2 → (5 : Int) + x.length ≤ 9223372036854775807 ∧ (7 : Int) + x.length ≤ 9223372036854775807 := fun x h => ⟨by omega, by omega⟩
  have len4 : (4 : Int) + words.length ≤ 9223372036854775807 := by omega
  by_cases hs : kind = 0 ∧ num = 0 ∧ (readC 4 words).isSome = true
  · rw [deedTx_say (a := ⟨kind, num, words⟩) hs]
    obtain ⟨rfl, rfl, h3⟩ := hs
    refine FnZ_of (rs := [.tmp 2]) false Tryd.func18 rfl rfl rfl rfl (Nat.le_of_ble_eq_true rfl) ?_
    simp -dsimp
    refine call_ hr (by simp -dsimp) ?_
    simp -dsimp [optC, h3, len4, txSay]
  have first : ∀ (X : Prop), (kind = 0 → num = 0 → (readC 4 words).isSome = false → X) → (kind = 0 → ¬ num = 0 → X) → (¬ kind = 0 → X) → X := fun X h1 h2 h3 => by
    by_cases hk : kind = 0
    · by_cases hn : num = 0
      · refine h1 hk hn ?_
        have hq := ft (readC 4 words).isSome
        rcases hq with hq | hq
        · exact hq
        · exact absurd ⟨hk, hn, hq⟩ hs
      · exact h2 hk hn
    · exact h3 hk
  -- what comes when it is not said
  have core : (words ≠ [] ∨ num < 0 ∨ 99 < num) ∨ (words = [] ∧ 0 ≤ num ∧ num ≤ 99) := by
    by_cases hw : words = []
    · by_cases hn : num < 0 ∨ 99 < num
      · exact .inl (.inr hn)
      · exact .inr ⟨hw, by omega, by omega⟩
    · exact .inl (.inl hw)
  rcases core with hc | ⟨rfl, h0, h1⟩
  · have e : deedTx ⟨kind, num, words⟩ = [] := by unfold deedTx; rw [if_neg hs, if_pos hc]
    rw [e]
    have cases3 : (¬ words = []) ∨ (words = [] ∧ num < 0) ∨ (words = [] ∧ ¬ num < 0 ∧ 99 < num) := by
      by_cases hw : words = []
      · rcases hc with h | h | h
        · exact absurd hw h
        · exact .inr (.inl ⟨hw, h⟩)
        · exact .inr (.inr ⟨hw, by omega, h⟩)
      · exact .inl hw
    refine first _ (fun hk hn hq => ?_) (fun hk hn => ?_) (fun hk => ?_)
    · subst hk; subst hn
      rcases cases3 with h | ⟨_, h⟩ | ⟨_, _, h⟩
      · refine FnZ_of (rs := [.tmp 2]) false Tryd.func18 rfl rfl rfl rfl (Nat.le_of_ble_eq_true rfl) ?_
        simp -dsimp
        refine call_ hr (by simp -dsimp) ?_
        simp -dsimp [optC, hq, h]
      · omega
      · omega
    · rcases cases3 with h | ⟨hw, h⟩ | ⟨hw, h, h2⟩
      · refine FnZ_of (rs := [.tmp 2]) false Tryd.func18 rfl rfl rfl rfl (Nat.le_of_ble_eq_true rfl) ?_
        simp -dsimp
        refine call_ hr (by simp -dsimp) ?_
        simp -dsimp [optC, hk, hn, h]
      · refine FnZ_of (rs := [.tmp 2]) false Tryd.func18 rfl rfl rfl rfl (Nat.le_of_ble_eq_true rfl) ?_
        simp -dsimp
        refine call_ hr (by simp -dsimp) ?_
        simp -dsimp [optC, hk, hn, hw, h]
      · refine FnZ_of (rs := [.tmp 2]) false Tryd.func18 rfl rfl rfl rfl (Nat.le_of_ble_eq_true rfl) ?_
        simp -dsimp
        refine call_ hr (by simp -dsimp) ?_
        simp -dsimp [optC, hk, hn, hw, h, h2]
    · rcases cases3 with h | ⟨hw, h⟩ | ⟨hw, h, h2⟩
      · refine FnZ_of (rs := [.tmp 2]) false Tryd.func18 rfl rfl rfl rfl (Nat.le_of_ble_eq_true rfl) ?_
        simp -dsimp
        refine call_ hr (by simp -dsimp) ?_
        simp -dsimp [optC, hk, h]
      · refine FnZ_of (rs := [.tmp 2]) false Tryd.func18 rfl rfl rfl rfl (Nat.le_of_ble_eq_true rfl) ?_
        simp -dsimp
        refine call_ hr (by simp -dsimp) ?_
        simp -dsimp [optC, hk, hw, h]
      · refine FnZ_of (rs := [.tmp 2]) false Tryd.func18 rfl rfl rfl rfl (Nat.le_of_ble_eq_true rfl) ?_
        simp -dsimp
        refine call_ hr (by simp -dsimp) ?_
        simp -dsimp [optC, hk, hw, h, h2]
  · rw [deedTx_none (a := ⟨kind, num, []⟩) h0 h1 rfl]
    have hd := dec_len h0 h1
    have hnum := itoa_fn num h0 h1
    obtain ⟨l5, l7⟩ := len5 _ hd
    have n0 : ¬ num < 0 := by omega
    have n1 : ¬ 99 < num := by omega
    rw [readC_nil] at hr
    simp only
    have ways : kind = 1 ∨ kind = 2 ∨ (kind = 3 ∧ num = 0) ∨ (kind = 4 ∧ num = 0) ∨ (¬ kind = 1 ∧ ¬ kind = 2 ∧ (¬ kind = 3 ∨ ¬ num = 0) ∧ (¬ kind = 4 ∨ ¬ num = 0)) := by omega
    rcases ways with rfl | rfl | ⟨rfl, rfl⟩ | ⟨rfl, rfl⟩ | ⟨k1, k2, k3, k4⟩
    · refine FnZ_of (rs := [.tmp 2]) false Tryd.func18 rfl rfl rfl rfl (Nat.le_of_ble_eq_true rfl) ?_
      simp -dsimp
      refine call_ hr (by simp -dsimp) ?_
      simp -dsimp [optC, n0, n1]
      refine call_ hnum (by simp -dsimp) ?_
      simp -dsimp [l5, txDrop]
    · refine FnZ_of (rs := [.tmp 2]) false Tryd.func18 rfl rfl rfl rfl (Nat.le_of_ble_eq_true rfl) ?_
      simp -dsimp
      refine call_ hr (by simp -dsimp) ?_
      simp -dsimp [optC, n0, n1]
      refine call_ hnum (by simp -dsimp) ?_
      simp -dsimp [l7, txPeople]
    · refine FnZ_of (rs := [.tmp 2]) false Tryd.func18 rfl rfl rfl rfl (Nat.le_of_ble_eq_true rfl) ?_
      simp -dsimp
      refine call_ hr (by simp -dsimp) ?_
      simp -dsimp [optC, txLeast]
    · refine FnZ_of (rs := [.tmp 2]) false Tryd.func18 rfl rfl rfl rfl (Nat.le_of_ble_eq_true rfl) ?_
      simp -dsimp
      refine call_ hr (by simp -dsimp) ?_
      simp -dsimp [optC, txBack]
    · have e : (if kind = 1 then txDrop ++ dec num else if kind = 2 then txPeople ++ dec num else if kind = 3 ∧ num = 0 then txLeast else if kind = 4 ∧ num = 0 then txBack else []) = [] := by
        rw [if_neg k1, if_neg k2, if_neg (by omega), if_neg (by omega)]
      rw [e]
      by_cases hn : num = 0
      · have k3' : ¬ kind = 3 := by omega
        have k4' : ¬ kind = 4 := by omega
        by_cases hk : kind = 0
        · refine FnZ_of (rs := [.tmp 2]) false Tryd.func18 rfl rfl rfl rfl (Nat.le_of_ble_eq_true rfl) ?_
          simp -dsimp
          refine call_ hr (by simp -dsimp) ?_
          simp -dsimp [optC, hn, hk]
        · refine FnZ_of (rs := [.tmp 2]) false Tryd.func18 rfl rfl rfl rfl (Nat.le_of_ble_eq_true rfl) ?_
          simp -dsimp
          refine call_ hr (by simp -dsimp) ?_
          simp -dsimp [optC, hn, hk, k1, k2, k3', k4']
      · by_cases hk : kind = 0
        · refine FnZ_of (rs := [.tmp 2]) false Tryd.func18 rfl rfl rfl rfl (Nat.le_of_ble_eq_true rfl) ?_
          simp -dsimp
          refine call_ hr (by simp -dsimp) ?_
          simp -dsimp [optC, hn, hk, n0, n1]
        · by_cases h3 : kind = 3
          · refine FnZ_of (rs := [.tmp 2]) false Tryd.func18 rfl rfl rfl rfl (Nat.le_of_ble_eq_true rfl) ?_
            simp -dsimp
            refine call_ hr (by simp -dsimp) ?_
            simp -dsimp [optC, hn, h3, n0, n1]
          · by_cases h4 : kind = 4
            · refine FnZ_of (rs := [.tmp 2]) false Tryd.func18 rfl rfl rfl rfl (Nat.le_of_ble_eq_true rfl) ?_
              simp -dsimp
              refine call_ hr (by simp -dsimp) ?_
              simp -dsimp [optC, hn, h4, n0, n1]
            · refine FnZ_of (rs := [.tmp 2]) false Tryd.func18 rfl rfl rfl rfl (Nat.le_of_ble_eq_true rfl) ?_
              simp -dsimp
              refine call_ hr (by simp -dsimp) ?_
              simp -dsimp [optC, hn, hk, h3, h4, k1, k2, n0, n1]
end TL
