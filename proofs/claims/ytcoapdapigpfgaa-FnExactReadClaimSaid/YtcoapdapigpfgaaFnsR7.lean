/- Drawn claims; the law of their texts. -/
import Derived.Test.YtcoapdapigpfgaaFnsR6
import Derived.Test.YtcoapdapigpfgaaFns10
set_option linter.unusedSimpArgs false
set_option linter.unusedVariables false
set_option maxRecDepth 100000
set_option maxHeartbeats 4000000
set_option pp.maxSteps 1500
namespace TL
open Go Go.Proofs
attribute [local simp] marksV storyV codeV Claim.v Place.v
/-- A number of people, and a claim. -/
def SomePC (x : V) : Prop := ∃ (people : Int) (c : Claim), 1 ≤ people ∧ people ≤ 4 ∧ c.says.length ≤ 20 ∧ c.fit ∧ x = .tup [.int .i64 people, c.v]
theorem claimed_z (bs : List UInt8) (p : Nat) (hp : p < 700000000) (k : Int) (hk0 : 0 ≤ k) (hk : k < 100000) (m : Mem) (n rid : Nat) (hr : rid < n) (hm : m rid = some (rdB bs p)) :
    FnS Try.prog 22 m n [.ptr rid 0, .v (.int .i64 k)] (Draws SomePC 60 m n rid bs p) := by
  refine Draws_of hr ⟨_, Try.func22, rfl, rfl⟩ fun hfr => ?_
  refine FnS_of (rs := [.tmp 4, .cell 5 25]) false Try.func22 rfl rfl rfl rfl (Nat.le_of_ble_eq_true rfl) ?_
  have f1 := far hr
  simp -dsimp
  refine callS_ (pick_at bs p (by omega) _ _ _ rid (by simp [hm]; omega)) ?_
  rintro t m1 n1 ⟨hn1, ⟨r, rfl, hr0, hr1⟩, rfl⟩
  have hr1 := hr1 (by omega)
  have w1 : IntKind.wrap .i64 (1 + r) = 1 + r := w64 (by omega) (by omega)
  simp -dsimp [w1]
  refine callS_ (claim_z bs (p + 1) (by omega) (1 + r) k (by omega) hk0 hk _ _ rid (by omega) (by simp)) ?_
  rintro t m2 n2 ⟨hn2, ⟨x, ⟨c, hc1, hc2, rfl⟩, rfl⟩, p2, hp1, hp2, rfl⟩
  have f2 := far (show rid < n2 by omega)
  have f3 := far (show n < n2 by omega)
  simp -dsimp [f1, f2, f3, claim_cells]
  refine ⟨by omega, ⟨_, by simp [f1, f2, f3], 1 + r, c, by omega, by omega, hc1, hc2, rfl⟩, fun j j1 j2 => ?_, p2, by omega, by omega, by simp [f1, f2, f3]⟩
  simp [far j1, far (show j < n2 by omega), j2]
theorem drawClaimText_z (bs : List UInt8) (m : Mem) (n : Nat) : FnS Try.prog 7 m n [.v (codeV bs)] (Drawn SomePC m n) := by
  refine Drawn_of ⟨_, Try.func7, rfl, rfl⟩ fun hfr => ?_
  refine FnS_of (rs := [.tmp 2, .cell 3 25]) false Try.func7 rfl rfl rfl rfl (Nat.le_of_ble_eq_true rfl) ?_
  simp -dsimp
  refine callS_ (open_at bs _ _) ?_
  rintro t m1 n1 ⟨rfl, rfl, rfl⟩
  simp -dsimp
  refine callS_ (claimed_z (bs.take 2000) 0 (by omega) 9 (by omega) (by omega) _ _ _ (by omega) (by simp)) ?_
  rintro t m2 n2 ⟨hn2, ⟨x, hx, rfl⟩, p2, hp1, hp2, rfl⟩
  obtain ⟨people, c, a1, a2, a3, a4, rfl⟩ := hx
  have f3 := far (show n < n2 by omega)
  simp -dsimp [claim_cells, f3]
  refine ⟨by omega, ⟨_, by simp [f3], people, c, a1, a2, a3, a4, rfl⟩, fun j j1 => ?_⟩
  simp [far j1, far (show j < n2 by omega)]
theorem claim_fine {c : Claim} (h : c.says.length ≤ 20) (hf : c.fit) : c.fine := ⟨hf.2, by omega⟩
theorem lawClaimText (bs : List UInt8) : FnZ Try.prog 3 [codeV bs] (.bool true) := by
  refine FnZ_of (rs := [.tmp 2]) false Try.func3 rfl rfl rfl rfl (Nat.le_of_ble_eq_true rfl) ?_
  by_cases h : (1048576 : Int) < bs.length
  · simp -dsimp [h]
  simp -dsimp [h]
  refine callS_ (drawClaimText_z bs _ _) ?_
  rintro t m1 n1 ⟨hn1, ⟨x, hx, rfl⟩, rfl⟩
  obtain ⟨people, c, a1, a2, a3, a4, rfl⟩ := hx
  have fine := claim_fine a3 a4
  simp -dsimp
  refine call_ (claimTx_fn people c) (by simp -dsimp) ?_
  simp -dsimp
  refine call_ (claimTxS_fn people c fine) (by simp -dsimp) ?_
  have hk := ft (claimOk people c)
  rcases hk with hk | hk
  · have e : claimTx people c = [] := by unfold claimTx; rw [if_neg (by simp [hk])]
    simp -dsimp [e]
    refine call_ (claimOk_fn people c) (by simp -dsimp) ?_
    simp -dsimp [hk]
    refine call_ alive_fn (by simp -dsimp) ?_
    simp -dsimp
  · have hl := claimTx_len hk
    have hne : ¬ claimTx people c = [] := by intro e; rw [e] at hl; simp at hl
    have hr := readClaim_fn people (claimTx people c) (by omega)
    rw [readC_text hk] at hr
    have hs := sameClaim_fn c c (by unfold Claim.small; omega)
    simp -dsimp [hne]
    refine call_ hr (by simp -dsimp) ?_
    simp -dsimp [optC]
    refine call_ hs (by simp -dsimp) ?_
    simp -dsimp
end TL
