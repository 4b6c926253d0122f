/- New stores. -/
import Derived.Test.YtjcmndkbepamhaaGreatDoorGj
import Derived.Test.YtjcmndkbepamhaaGreatDoorGi
set_option linter.unusedSimpArgs false
set_option linter.unusedVariables false
set_option maxRecDepth 100000
set_option maxHeartbeats 4000000
set_option pp.maxSteps 1500
namespace TL
open Go Go.Proofs
attribute [local simp] marksV storyV codeV Claim.v Place.v Store.v
theorem lawStoreNew (bs : List UInt8) : FnZ Tryz.prog 8 [codeV bs] (.bool true) := by
  refine FnZ_of (rs := [.tmp 2]) false Tryz.func8 rfl rfl rfl rfl (Nat.le_of_ble_eq_true rfl) ?_
  by_cases h : (1048576 : Int) < bs.length
  · simp -dsimp [nes, nes8, nes9, h]
  simp -dsimp [nes, nes8, nes9, h]
  refine callS_ (drawStoreNew_z bs _ _) ?_
  rintro t m1 n1 ⟨hn1, ⟨x, hx, rfl⟩, rfl⟩
  obtain ⟨q, hq1, hq2, hq3, rfl⟩ := hx
  have fine : q.fine := ⟨by omega, fun c hc => ⟨(hq3.2 c hc).2, by have := hq2 c hc; omega⟩⟩
  have small : q.small := ⟨by omega, fun c hc => by have := hq2 c hc; unfold Claim.small; omega⟩
  have h1 := storeNew_fn q (by omega)
  have h2 := storeNewS_fn q fine
  have h4 := deskNew_fn q small
  have hk := ft (placeOk q)
  rcases hk with hk | hk
  · have e : storeNew q = noStore := if_neg (by simp [hk])
    rw [hk, e] at h1 h2
    simp -dsimp [nes, nes8, nes9]
    refine call_ h1 (by simp -dsimp) ?_
    simp -dsimp [nes, nes8, nes9, noStore]
    refine call_ h2 (by simp -dsimp) ?_
    simp -dsimp [nes, nes8, nes9, noStore]
    refine call_ alive_fn (by simp -dsimp) ?_
    simp -dsimp [nes, nes8, nes9]
  · obtain ⟨n1, n2⟩ := new_done hk
    have e : storeNew q = ⟨placeTx q, [], 0⟩ := if_pos hk
    have e2 : deskNew q = ⟨q, []⟩ := if_pos hk
    have hl := placeTx_len q
    have sx : Store.small ⟨placeTx q, [], 0⟩ := ⟨by simp only; omega, by simp⟩
    have h3 := storeOpen_fn ⟨placeTx q, [], 0⟩ sx
    have h5 := storeOk_fn ⟨placeTx q, [], 0⟩ sx
    have h6 := sameDesk_fn ⟨q, []⟩ ⟨q, []⟩ ⟨small, by simp, by simp⟩
    have e3 : storeOpen ⟨placeTx q, [], 0⟩ = ⟨q, []⟩ := by unfold storeOpen; rw [if_pos n1, n2]
    rw [n1, e3] at h3
    rw [n1] at h5
    rw [hk, e] at h1 h2
    rw [hk, e2] at h4
    generalize placeTx q = tx at *
    simp -dsimp [nes, nes8, nes9]
    refine call_ h1 (by simp -dsimp) ?_
    simp -dsimp [nes, nes8, nes9]
    refine call_ h2 (by simp -dsimp) ?_
    simp -dsimp [nes, nes8, nes9]
    refine call_ h3 (by simp -dsimp) ?_
    simp -dsimp [nes, nes8, nes9, Desk.v]
    refine call_ h4 (by simp -dsimp) ?_
    simp -dsimp [nes, nes8, nes9, Desk.v]
    refine call_ h5 (by simp -dsimp) ?_
    simp -dsimp [nes, nes8, nes9, Desk.v]
    refine call_ h6 (by simp -dsimp [Desk.v]) ?_
    simp -dsimp [nes, nes8, nes9]
end TL
