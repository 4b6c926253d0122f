/- Places' texts are read. -/
import Derived.Test.YtcoapdapigpfgaaDoorFnsQGE
import Derived.Test.YtcoapdapigpfgaaDoorFnsQGR
import Derived.Test.YtcoapdapigpfgaaDoorFnsQ10
import Derived.Test.YtcoapdapigpfgaaDoorFnsQ15
set_option linter.unusedSimpArgs false
set_option linter.unusedVariables false
set_option maxRecDepth 100000
set_option maxHeartbeats 4000000
set_option pp.maxSteps 1500
namespace TL
open Go Go.Proofs
theorem drawPlaceText_z (bs : List UInt8) (m : Mem) (n : Nat) : FnS Tryd.prog 32 m n [.v (codeV bs)] (Drawn SomePlace m n) := by
  refine Drawn_of ⟨_, Tryd.func32, rfl, rfl⟩ fun hfr => ?_
  refine FnS_of (rs := [.cell 2 36]) false Tryd.func32 rfl rfl rfl rfl (Nat.le_of_ble_eq_true rfl) ?_
  simp -dsimp
  refine callS_ (open_at bs _ _) ?_
  rintro t m1 n1 ⟨rfl, rfl, rfl⟩
  simp -dsimp
  refine callS_ (place_z (bs.take 2000) 0 (by omega) 9 (by omega) (by omega) _ _ _ (by omega) (by simp)) ?_
  rintro t m2 n2 ⟨hn2, ⟨x, hx, rfl⟩, p2, hp1, hp2, rfl⟩
  obtain ⟨q, hq1, hq2, hq3, rfl⟩ := hx
  simp -dsimp [Place.v, storyV]
  refine ⟨by omega, ⟨_, by simp; rfl, ⟨q, hq1, hq2, hq3, rfl⟩⟩, fun j j1 => ?_⟩
  simp [far j1]
attribute [local simp] marksV storyV codeV Claim.v Place.v
theorem placeTx_len (p : Place) : (placeTx p).length ≤ 28 * p.story.length + 40 := by
  have hk := ft (placeOk p)
  rcases hk with hk | hk
  · rw [placeTx_no hk]; simp
  · rw [placeTx_shape hk]
    have := storyTx_len p.people p.story
    unfold restTx
    split
    · simp
    · simp only [List.length_cons]; omega
theorem lawPlaceText (bs : List UInt8) : FnZ Tryd.prog 7 [codeV bs] (.bool true) := by
  refine FnZ_of (rs := [.tmp 2]) false Tryd.func7 rfl rfl rfl rfl (Nat.le_of_ble_eq_true rfl) ?_
  by_cases h : (1048576 : Int) < bs.length
  · simp -dsimp [h]
  simp -dsimp [h]
  refine callS_ (drawPlaceText_z bs _ _) ?_
  rintro t m1 n1 ⟨hn1, ⟨x, hx, rfl⟩, rfl⟩
  obtain ⟨q, hq1, hq2, hq3, rfl⟩ := hx
  have fine : q.fine := ⟨by omega, fun c hc => ⟨(hq3.2 c hc).2, by have := hq2 c hc; omega⟩⟩
  have small : q.small := ⟨by omega, fun c hc => by have := hq2 c hc; unfold Claim.small; omega⟩
  have ht := placeText_fn q (by omega)
  have hts := placeTextS_fn q fine
  have hl := placeTx_len q
  have hrp := readPlace_fn (placeTx q) (by omega)
  have hok := placeOk_fn q (by omega)
  have hsm := samePlace_fn q q small
  have hk := ft (placeOk q)
  have hread : placeOk q = true → readP (placeTx q) = some q := fun h => readP_some h rfl
  have hpos : placeOk q = true → placeTx q ≠ [] := placeTx_pos
  have hno : placeOk q = false → placeTx q = [] := placeTx_no
  generalize placeTx q = tx at *
  simp -dsimp
  refine call_ ht (by simp -dsimp) ?_
  simp -dsimp
  refine call_ hts (by simp -dsimp) ?_
  rcases hk with hk | hk
  · have e := hno hk
    simp -dsimp [e]
    refine call_ hok (by simp -dsimp) ?_
    simp -dsimp [hk]
    refine call_ alive_fn (by simp -dsimp) ?_
    simp -dsimp
  · have e := hpos hk
    rw [hread hk] at hrp
    simp -dsimp [e]
    refine call_ hrp (by simp -dsimp) ?_
    simp -dsimp [optP]
    refine call_ hsm (by simp -dsimp) ?_
    simp -dsimp
end TL
