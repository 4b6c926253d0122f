/- The law of new desks. -/
import Derived.Test.YtheoggobfpgpnaaFns16
import Derived.Test.YtheoggobfpgpnaaFns10
set_option linter.unusedSimpArgs false
set_option linter.unusedVariables false
set_option maxRecDepth 100000
set_option maxHeartbeats 4000000
set_option pp.maxSteps 1500
namespace TL
open Go Go.Proofs
attribute [local simp] marksV storyV codeV Claim.v Place.v Desk.v
theorem drawDeskNew_z (bs : List UInt8) (m : Mem) (n : Nat) : FnS Try.prog 26 m n [.v (codeV bs)] (Drawn SomePlace m n) := by
  refine Drawn_of ⟨_, Try.func26, rfl, rfl⟩ fun hfr => ?_
  refine FnS_of (rs := [.cell 2 25]) false Try.func26 rfl rfl rfl rfl (Nat.le_of_ble_eq_true rfl) ?_
  simp -dsimp
  refine callS_ (open_at bs _ _) ?_
  rintro t m1 n1 ⟨rfl, rfl, rfl⟩
  simp -dsimp
  refine callS_ (place_z (bs.take 2000) 0 (by omega) 3 (by omega) (by omega) _ _ _ (by omega) (by simp)) ?_
  rintro t m2 n2 ⟨hn2, ⟨x, hx, rfl⟩, p2, hp1, hp2, rfl⟩
  obtain ⟨q, hq1, hq2, hq3, rfl⟩ := hx
  simp -dsimp
  refine ⟨by omega, ⟨_, by simp <;> rfl, ⟨q, hq1, hq2, hq3, rfl⟩⟩, fun j j1 => ?_⟩
  simp [far j1]
theorem lawDeskNew (bs : List UInt8) : FnZ Try.prog 7 [codeV bs] (.bool true) := by
  refine FnZ_of (rs := [.tmp 2]) false Try.func7 rfl rfl rfl rfl (Nat.le_of_ble_eq_true rfl) ?_
  by_cases h : (1048576 : Int) < bs.length
  · simp -dsimp [h]
  simp -dsimp [h]
  refine callS_ (drawDeskNew_z bs _ _) ?_
  rintro t m1 n1 ⟨hn1, ⟨x, hx, rfl⟩, rfl⟩
  obtain ⟨p, hq1, hq2, hq3, rfl⟩ := hx
  have small : p.small := ⟨by omega, fun c hc => by have := hq2 c hc; unfold Claim.small; omega⟩
  have f0 := far (show 0 < n1 + 1 by omega)
  have sd : (deskNew p).small := by
    unfold deskNew noDeskV; split
    · exact ⟨small, by simp, by simp⟩
    · exact ⟨⟨by simp, by simp⟩, by simp, by simp⟩
  simp -dsimp
  refine call_ (deskNew_fn p small) (by simp -dsimp) ?_
  simp -dsimp [nes]
  refine call_ (deskNewS_fn p small hq3) (by simp -dsimp) ?_
  simp -dsimp [nes]
  refine call_ (sameDesk_fn (deskNew p) (deskNew p) sd) (by simp -dsimp) ?_
  have hk := ft (placeOk p)
  rcases hk with hk | hk
  · have e : deskNew p = noDeskV := by simp [deskNew, hk]
    simp -dsimp [hk, nes]
    refine call_ (noDesk_fn (deskNew p) sd) (by simp -dsimp) ?_
    simp -dsimp [e, nes]
    refine call_ (placeOk_fn p (by omega)) (by simp -dsimp) ?_
    simp -dsimp [hk]
    refine call_ alive_fn (by simp -dsimp) ?_
    simp -dsimp
  · have e : deskNew p = ⟨p, []⟩ := by simp [deskNew, hk]
    simp -dsimp [hk, nes, e]
    refine call_ (deskOk_fn ⟨p, []⟩ (by simp) (by simp; omega) (by simp)) (by simp -dsimp) ?_
    have hd : deskOk ⟨p, []⟩ = true := by simp [deskOk, hk]
    simp -dsimp [hd, nes]
    refine call_ (samePlace_fn p p small) (by simp -dsimp) ?_
    simp -dsimp [nes]
end TL
