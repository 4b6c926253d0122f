/- The exact law of ClaimText. -/
import Derived.Test.YtheoggobfpgpnaaFnsX
import Derived.Test.YtheoggobfpgpnaaFns14
set_option linter.unusedSimpArgs false
set_option linter.unusedVariables false
set_option maxRecDepth 100000
set_option maxHeartbeats 4000000
set_option pp.maxSteps 1500
namespace TL
open Go Go.Proofs
attribute [local simp] marksV storyV codeV Claim.v Place.v
theorem exactClaimText_go (people : Int) (c : Claim) (hm : c.mid) (hsm : ¬ (1048576 : Int) - c.says.length < 0) (st : List UInt8) (h1 : FnZ Try.prog 17 [.int .i64 people, c.v] (.str st)) (h2 : FnZ Try.prog 19 [.int .i64 people, c.v] (.str st)) :
    FnZ Try.prog 5 [.int .i64 people, c.v] (.bool true) := by
  have small : c.small := by unfold Claim.small; omega
  have e : szR 1048576 c.says.length = 1048576 - c.says.length := if_neg hsm
  refine FnZ_of (rs := [.tmp 4]) false Try.func5 rfl rfl rfl rfl (Nat.le_of_ble_eq_true rfl) ?_
  simp -dsimp
  refine call_ (szClaim_fn c 1048576 (by omega) (by omega) hm) (by simp -dsimp) ?_
  simp -dsimp [e, hsm]
  refine call_ (toClaim_fn c small) (by simp -dsimp) ?_
  simp -dsimp
  refine call_ h1 (by simp -dsimp) ?_
  simp -dsimp
  refine call_ (toClaim_fn c small) (by simp -dsimp) ?_
  simp -dsimp
  refine call_ h2 (by simp -dsimp) ?_
  simp -dsimp
  refine twp_draw (List.range 5) [0, 1] [[1], [0], [], [], []] (List.replicate 5 [0, 1]) (by kernel_rfl) (by kernel_rfl) (by kernel_rfl) (by kernel_rfl) ?_
  simp -dsimp [List.range_succ]
  refine call_ (toClaim_fn c small) (by simp -dsimp) ?_
  simp -dsimp [List.range_succ]
  refine call_ (eqClaim_fn c c small) (by simp -dsimp) ?_
  simp -dsimp [List.range_succ]
theorem exactClaimText_row (people : Int) (hp : fit people) (c : Claim) (h : c.fit ∧ c.mid) : FnZ Try.prog 5 [.int .i64 people, c.v] (.bool true) := by
  obtain ⟨hf, hm⟩ := h
  by_cases hz : (1048576 : Int) - c.says.length < 0
  · have e : szR 1048576 c.says.length = -1 := if_pos hz
    refine FnZ_of (rs := [.tmp 4]) false Try.func5 rfl rfl rfl rfl (Nat.le_of_ble_eq_true rfl) ?_
    simp -dsimp
    refine call_ (szClaim_fn c 1048576 (by omega) (by omega) hm) (by simp -dsimp) ?_
    simp -dsimp [e]
  have fine : c.fine := ⟨hf.2, by omega⟩
  have hk := ft (claimOk people c)
  rcases hk with hk | hk
  · exact exactClaimText_go people c hm hz [] (claimTextS_no people c fine hk) (claimText_no people c hk)
  · obtain ⟨T, hT, hTm⟩ := termOk_tree (claimOk_who hk).2.2.1
    exact exactClaimText_go people c hm hz _ (claimTextS_fn people c fine hk T hT hTm) (claimText_fn people c hk T hT hTm)
end TL
