/- The exact laws of stores that are mended and acted at. -/
import Derived.Test.YtjcmndkbepamhaaGreatDoorGj
import Derived.Test.YtjcmndkbepamhaaGreatDoorGf
set_option linter.unusedSimpArgs false
set_option linter.unusedVariables false
set_option maxRecDepth 100000
set_option maxHeartbeats 4000000
set_option pp.maxSteps 1500
namespace TL
open Go Go.Proofs
attribute [local simp] marksV storyV codeV Claim.v Place.v Store.v Deed.v
theorem exactStoreMend_row (s : Store) (h : s.mid) : FnZ Tryz.prog 3 [s.v] (.bool true) := by
  have hsz := szStore_fn s h
  by_cases hz : szR 1048576 s.bulk < 0
  · generalize szR 1048576 s.bulk = z at *
    refine FnZ_of (rs := [.tmp 2]) false Tryz.func3 rfl rfl rfl rfl (Nat.le_of_ble_eq_true rfl) ?_
    simp -dsimp [Store.v]
    refine call_ hsz (by simp -dsimp [Store.v]) ?_
    simp -dsimp [hz]
  · have small := store_ready hz
    have h1 := storeMendS_fn s small
    have h2 := storeMend_fn s small
    have h3 := toStore_fn s
    have heq := eqStore_fn (storeMend s) (storeMend s)
    generalize szR 1048576 s.bulk = z at *
    generalize storeOk s = o at *
    generalize storeMend s = c at *
    obtain ⟨c1, c2, c3⟩ := c
    refine FnZ_of (rs := [.tmp 2]) false Tryz.func3 rfl rfl rfl rfl (Nat.le_of_ble_eq_true rfl) ?_
    simp -dsimp [Store.v]
    refine call_ hsz (by simp -dsimp [Store.v]) ?_
    simp -dsimp [hz]
    refine call_ h3 (by simp -dsimp [Store.v]) ?_
    simp -dsimp [Store.v]
    refine call_ h1 (by simp -dsimp [Store.v]) ?_
    simp -dsimp [Store.v]
    refine call_ h3 (by simp -dsimp [Store.v]) ?_
    simp -dsimp [Store.v]
    refine call_ h2 (by simp -dsimp [Store.v]) ?_
    simp -dsimp [Store.v]
    refine call_ heq (by simp -dsimp [Store.v]) ?_
    simp -dsimp
theorem exactStoreAct_row (s : Store) (h : s.mid) (a : Deed) (hf : a.fit) : FnZ Tryz.prog 4 [s.v, a.v] (.bool true) := by
  have hsz := szStore_fn s h
  by_cases hz : szR 1048576 s.bulk < 0
  · generalize szR 1048576 s.bulk = z at *
    obtain ⟨a1, a2, a3⟩ := a
    refine FnZ_of (rs := [.tmp 4]) false Tryz.func4 rfl rfl rfl rfl (Nat.le_of_ble_eq_true rfl) ?_
    simp -dsimp [Store.v, nes, nes8, nes9]
    refine call_ hsz (by simp -dsimp [Store.v]) ?_
    simp -dsimp [hz]
  have small := store_ready hz
  have hz1 : szR 1048576 s.bulk ≤ 1048576 := by unfold szR; split <;> omega
  generalize szR 1048576 s.bulk = z at *
  have hsd := szDeed_fn a z (by omega) hz1 hf.2.2
  by_cases hy : szR z a.words.length < 0
  · generalize szR z a.words.length = y at *
    obtain ⟨a1, a2, a3⟩ := a
    refine FnZ_of (rs := [.tmp 4]) false Tryz.func4 rfl rfl rfl rfl (Nat.le_of_ble_eq_true rfl) ?_
    simp -dsimp [Store.v, nes, nes8, nes9]
    refine call_ hsz (by simp -dsimp [Store.v]) ?_
    simp -dsimp [hz]
    refine call_ hsd (by simp -dsimp) ?_
    simp -dsimp [hy, nes]
  have hw : a.words.length ≤ 1048576 := by unfold szR at hy; split at hy <;> omega
  generalize szR z a.words.length = y at *
  have h1 := storeActS_fn s a small (by omega)
  have h2 := storeAct_fn s a small (by omega)
  have h3 := toStore_fn s
  have h4 := toDeed_fn a
  have heq := eqStore_fn (storeAct s a) (storeAct s a)
  generalize actOk s a = o at *
  generalize storeAct s a = c at *
  obtain ⟨c1, c2, c3⟩ := c
  clear hf
  obtain ⟨a1, a2, a3⟩ := a
  refine FnZ_of (rs := [.tmp 4]) false Tryz.func4 rfl rfl rfl rfl (Nat.le_of_ble_eq_true rfl) ?_
  simp -dsimp [Store.v, nes, nes8, nes9]
  refine call_ hsz (by simp -dsimp [Store.v]) ?_
  simp -dsimp [hz]
  refine call_ hsd (by simp -dsimp) ?_
  simp -dsimp [hy, nes]
  refine twp_drawT (.run [0, 2] (.alt (.run [1] (.alt (.run [3] (.alt (.run [4, 5, 6, 7, 8, 9, 10] .done) (.run [8, 4, 5, 6, 7, 9, 10] .done))) (.run [8, 3, 4, 5, 6, 7, 9, 10] .done))) (.run [8, 1, 3, 4, 5, 6, 7, 9, 10] .done))) [0, 1] (List.replicate 11 [0, 1]) (List.replicate 11 [0, 1]) (by kernel_rfl) (by kernel_rfl) (by kernel_rfl) (by kernel_rfl) ?_
  simp -dsimp [Store.v, nes, nes8, nes9]
  refine ordT_both ?_ ?_
  · simp -dsimp [Store.v, nes, nes8, nes9]
    refine call_ h3 (by simp -dsimp [Store.v]) ?_
    simp -dsimp [Store.v, nes, nes8, nes9]
    refine ordT_both ?_ ?_
    · simp -dsimp [Store.v, nes, nes8, nes9]
      refine call_ h4 (by simp -dsimp [Store.v]) ?_
      simp -dsimp [Store.v, nes, nes8, nes9]
      refine ordT_both ?_ ?_
      · simp -dsimp [Store.v, nes, nes8, nes9]
        refine call_ h1 (by simp -dsimp [Store.v]) ?_
        simp -dsimp [Store.v, nes, nes8, nes9]
        refine twp_drawT (.run [0, 2] (.alt (.run [1] (.alt (.run [3] (.alt (.run [4, 5, 6, 7, 8, 9, 10] .done) (.run [8, 4, 5, 6, 7, 9, 10] .done))) (.run [8, 3, 4, 5, 6, 7, 9, 10] .done))) (.run [8, 1, 3, 4, 5, 6, 7, 9, 10] .done))) [0, 1] (List.replicate 11 [0, 1]) (List.replicate 11 [0, 1]) (by kernel_rfl) (by kernel_rfl) (by kernel_rfl) (by kernel_rfl) ?_
        simp -dsimp [Store.v, nes, nes8, nes9]
        refine ordT_both ?_ ?_
        · simp -dsimp [Store.v, nes, nes8, nes9]
          refine call_ h3 (by simp -dsimp [Store.v]) ?_
          simp -dsimp [Store.v, nes, nes8, nes9]
          refine ordT_both ?_ ?_
          · simp -dsimp [Store.v, nes, nes8, nes9]
            refine call_ h4 (by simp -dsimp [Store.v]) ?_
            simp -dsimp [Store.v, nes, nes8, nes9]
            refine ordT_both ?_ ?_
            · simp -dsimp [Store.v, nes, nes8, nes9]
              refine call_ h2 (by simp -dsimp [Store.v]) ?_
              simp -dsimp [Store.v, nes, nes8, nes9]
              refine call_ heq (by simp -dsimp [Store.v]) ?_
              simp -dsimp [nes, nes8, nes9]
            · simp -dsimp [Store.v, nes, nes8, nes9]
              refine call_ h2 (by simp -dsimp [Store.v]) ?_
              simp -dsimp [Store.v, nes, nes8, nes9]
              refine call_ heq (by simp -dsimp [Store.v]) ?_
              simp -dsimp [nes, nes8, nes9]
          · simp -dsimp [Store.v, nes, nes8, nes9]
            refine call_ h4 (by simp -dsimp [Store.v]) ?_
            simp -dsimp [Store.v, nes, nes8, nes9]
            refine call_ h2 (by simp -dsimp [Store.v]) ?_
            simp -dsimp [Store.v, nes, nes8, nes9]
            refine call_ heq (by simp -dsimp [Store.v]) ?_
            simp -dsimp [nes, nes8, nes9]
        · simp -dsimp [Store.v, nes, nes8, nes9]
          refine call_ h3 (by simp -dsimp [Store.v]) ?_
          simp -dsimp [Store.v, nes, nes8, nes9]
          refine call_ h4 (by simp -dsimp [Store.v]) ?_
          simp -dsimp [Store.v, nes, nes8, nes9]
          refine call_ h2 (by simp -dsimp [Store.v]) ?_
          simp -dsimp [Store.v, nes, nes8, nes9]
          refine call_ heq (by simp -dsimp [Store.v]) ?_
          simp -dsimp [nes, nes8, nes9]
      · simp -dsimp [Store.v, nes, nes8, nes9]
        refine call_ h1 (by simp -dsimp [Store.v]) ?_
        simp -dsimp [Store.v, nes, nes8, nes9]
        refine twp_drawT (.run [0, 2] (.alt (.run [1] (.alt (.run [3] (.alt (.run [4, 5, 6, 7, 8, 9, 10] .done) (.run [8, 4, 5, 6, 7, 9, 10] .done))) (.run [8, 3, 4, 5, 6, 7, 9, 10] .done))) (.run [8, 1, 3, 4, 5, 6, 7, 9, 10] .done))) [0, 1] (List.replicate 11 [0, 1]) (List.replicate 11 [0, 1]) (by kernel_rfl) (by kernel_rfl) (by kernel_rfl) (by kernel_rfl) ?_
        simp -dsimp [Store.v, nes, nes8, nes9]
        refine ordT_both ?_ ?_
        · simp -dsimp [Store.v, nes, nes8, nes9]
          refine call_ h3 (by simp -dsimp [Store.v]) ?_
          simp -dsimp [Store.v, nes, nes8, nes9]
          refine ordT_both ?_ ?_
          · simp -dsimp [Store.v, nes, nes8, nes9]
            refine call_ h4 (by simp -dsimp [Store.v]) ?_
            simp -dsimp [Store.v, nes, nes8, nes9]
            refine ordT_both ?_ ?_
            · simp -dsimp [Store.v, nes, nes8, nes9]
              refine call_ h2 (by simp -dsimp [Store.v]) ?_
              simp -dsimp [Store.v, nes, nes8, nes9]
              refine call_ heq (by simp -dsimp [Store.v]) ?_
              simp -dsimp [nes, nes8, nes9]
            · simp -dsimp [Store.v, nes, nes8, nes9]
              refine call_ h2 (by simp -dsimp [Store.v]) ?_
              simp -dsimp [Store.v, nes, nes8, nes9]
              refine call_ heq (by simp -dsimp [Store.v]) ?_
              simp -dsimp [nes, nes8, nes9]
          · simp -dsimp [Store.v, nes, nes8, nes9]
            refine call_ h4 (by simp -dsimp [Store.v]) ?_
            simp -dsimp [Store.v, nes, nes8, nes9]
            refine call_ h2 (by simp -dsimp [Store.v]) ?_
            simp -dsimp [Store.v, nes, nes8, nes9]
            refine call_ heq (by simp -dsimp [Store.v]) ?_
            simp -dsimp [nes, nes8, nes9]
        · simp -dsimp [Store.v, nes, nes8, nes9]
          refine call_ h3 (by simp -dsimp [Store.v]) ?_
          simp -dsimp [Store.v, nes, nes8, nes9]
          refine call_ h4 (by simp -dsimp [Store.v]) ?_
          simp -dsimp [Store.v, nes, nes8, nes9]
          refine call_ h2 (by simp -dsimp [Store.v]) ?_
          simp -dsimp [Store.v, nes, nes8, nes9]
          refine call_ heq (by simp -dsimp [Store.v]) ?_
          simp -dsimp [nes, nes8, nes9]
    · simp -dsimp [Store.v, nes, nes8, nes9]
      refine call_ h4 (by simp -dsimp [Store.v]) ?_
      simp -dsimp [Store.v, nes, nes8, nes9]
      refine call_ h1 (by simp -dsimp [Store.v]) ?_
      simp -dsimp [Store.v, nes, nes8, nes9]
      refine twp_drawT (.run [0, 2] (.alt (.run [1] (.alt (.run [3] (.alt (.run [4, 5, 6, 7, 8, 9, 10] .done) (.run [8, 4, 5, 6, 7, 9, 10] .done))) (.run [8, 3, 4, 5, 6, 7, 9, 10] .done))) (.run [8, 1, 3, 4, 5, 6, 7, 9, 10] .done))) [0, 1] (List.replicate 11 [0, 1]) (List.replicate 11 [0, 1]) (by kernel_rfl) (by kernel_rfl) (by kernel_rfl) (by kernel_rfl) ?_
      simp -dsimp [Store.v, nes, nes8, nes9]
      refine ordT_both ?_ ?_
      · simp -dsimp [Store.v, nes, nes8, nes9]
        refine call_ h3 (by simp -dsimp [Store.v]) ?_
        simp -dsimp [Store.v, nes, nes8, nes9]
        refine ordT_both ?_ ?_
        · simp -dsimp [Store.v, nes, nes8, nes9]
          refine call_ h4 (by simp -dsimp [Store.v]) ?_
          simp -dsimp [Store.v, nes, nes8, nes9]
          refine ordT_both ?_ ?_
          · simp -dsimp [Store.v, nes, nes8, nes9]
            refine call_ h2 (by simp -dsimp [Store.v]) ?_
            simp -dsimp [Store.v, nes, nes8, nes9]
            refine call_ heq (by simp -dsimp [Store.v]) ?_
            simp -dsimp [nes, nes8, nes9]
          · simp -dsimp [Store.v, nes, nes8, nes9]
            refine call_ h2 (by simp -dsimp [Store.v]) ?_
            simp -dsimp [Store.v, nes, nes8, nes9]
            refine call_ heq (by simp -dsimp [Store.v]) ?_
            simp -dsimp [nes, nes8, nes9]
        · simp -dsimp [Store.v, nes, nes8, nes9]
          refine call_ h4 (by simp -dsimp [Store.v]) ?_
          simp -dsimp [Store.v, nes, nes8, nes9]
          refine call_ h2 (by simp -dsimp [Store.v]) ?_
          simp -dsimp [Store.v, nes, nes8, nes9]
          refine call_ heq (by simp -dsimp [Store.v]) ?_
          simp -dsimp [nes, nes8, nes9]
      · simp -dsimp [Store.v, nes, nes8, nes9]
        refine call_ h3 (by simp -dsimp [Store.v]) ?_
        simp -dsimp [Store.v, nes, nes8, nes9]
        refine call_ h4 (by simp -dsimp [Store.v]) ?_
        simp -dsimp [Store.v, nes, nes8, nes9]
        refine call_ h2 (by simp -dsimp [Store.v]) ?_
        simp -dsimp [Store.v, nes, nes8, nes9]
        refine call_ heq (by simp -dsimp [Store.v]) ?_
        simp -dsimp [nes, nes8, nes9]
  · simp -dsimp [Store.v, nes, nes8, nes9]
    refine call_ h3 (by simp -dsimp [Store.v]) ?_
    simp -dsimp [Store.v, nes, nes8, nes9]
    refine call_ h4 (by simp -dsimp [Store.v]) ?_
    simp -dsimp [Store.v, nes, nes8, nes9]
    refine call_ h1 (by simp -dsimp [Store.v]) ?_
    simp -dsimp [Store.v, nes, nes8, nes9]
    refine twp_drawT (.run [0, 2] (.alt (.run [1] (.alt (.run [3] (.alt (.run [4, 5, 6, 7, 8, 9, 10] .done) (.run [8, 4, 5, 6, 7, 9, 10] .done))) (.run [8, 3, 4, 5, 6, 7, 9, 10] .done))) (.run [8, 1, 3, 4, 5, 6, 7, 9, 10] .done))) [0, 1] (List.replicate 11 [0, 1]) (List.replicate 11 [0, 1]) (by kernel_rfl) (by kernel_rfl) (by kernel_rfl) (by kernel_rfl) ?_
    simp -dsimp [Store.v, nes, nes8, nes9]
    refine ordT_both ?_ ?_
    · simp -dsimp [Store.v, nes, nes8, nes9]
      refine call_ h3 (by simp -dsimp [Store.v]) ?_
      simp -dsimp [Store.v, nes, nes8, nes9]
      refine ordT_both ?_ ?_
      · simp -dsimp [Store.v, nes, nes8, nes9]
        refine call_ h4 (by simp -dsimp [Store.v]) ?_
        simp -dsimp [Store.v, nes, nes8, nes9]
        refine ordT_both ?_ ?_
        · simp -dsimp [Store.v, nes, nes8, nes9]
          refine call_ h2 (by simp -dsimp [Store.v]) ?_
          simp -dsimp [Store.v, nes, nes8, nes9]
          refine call_ heq (by simp -dsimp [Store.v]) ?_
          simp -dsimp [nes, nes8, nes9]
        · simp -dsimp [Store.v, nes, nes8, nes9]
          refine call_ h2 (by simp -dsimp [Store.v]) ?_
          simp -dsimp [Store.v, nes, nes8, nes9]
          refine call_ heq (by simp -dsimp [Store.v]) ?_
          simp -dsimp [nes, nes8, nes9]
      · simp -dsimp [Store.v, nes, nes8, nes9]
        refine call_ h4 (by simp -dsimp [Store.v]) ?_
        simp -dsimp [Store.v, nes, nes8, nes9]
        refine call_ h2 (by simp -dsimp [Store.v]) ?_
        simp -dsimp [Store.v, nes, nes8, nes9]
        refine call_ heq (by simp -dsimp [Store.v]) ?_
        simp -dsimp [nes, nes8, nes9]
    · simp -dsimp [Store.v, nes, nes8, nes9]
      refine call_ h3 (by simp -dsimp [Store.v]) ?_
      simp -dsimp [Store.v, nes, nes8, nes9]
      refine call_ h4 (by simp -dsimp [Store.v]) ?_
      simp -dsimp [Store.v, nes, nes8, nes9]
      refine call_ h2 (by simp -dsimp [Store.v]) ?_
      simp -dsimp [Store.v, nes, nes8, nes9]
      refine call_ heq (by simp -dsimp [Store.v]) ?_
      simp -dsimp [nes, nes8, nes9]
end TL
