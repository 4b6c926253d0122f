/- Drawn texts of claims; the law of reading them. -/
import Derived.Test.YtcoapdapigpfgaaFnsR7
set_option linter.unusedSimpArgs false
set_option linter.unusedVariables false
set_option maxRecDepth 100000
set_option maxHeartbeats 4000000
set_option pp.maxSteps 1500
namespace TL
open Go Go.Proofs
attribute [local simp] marksV storyV codeV Claim.v Place.v
def SomePS (x : V) : Prop := ∃ (people : Int) (s : List UInt8), s.length ≤ 200 ∧ x = .tup [.int .i64 people, .str s]
theorem odd_strs : ∃ vs : List V, vs = [.str [], .str [58], .str [97], .str [33], .str [40], .str [101]] ∧ ∀ r : Int, 0 ≤ r → r < 6 → ∃ x : List UInt8, x.length ≤ 1 ∧ vs[r.toNat]? = some (.str x) := by
  refine ⟨_, rfl, fun r h0 h6 => ?_⟩
  have : r = 0 ∨ r = 1 ∨ r = 2 ∨ r = 3 ∨ r = 4 ∨ r = 5 := by omega
  rcases this with rfl | rfl | rfl | rfl | rfl | rfl
  · exact ⟨[], by simp, rfl⟩
  · exact ⟨[58], by simp, rfl⟩
  · exact ⟨[97], by simp, rfl⟩
  · exact ⟨[33], by simp, rfl⟩
  · exact ⟨[40], by simp, rfl⟩
  · exact ⟨[101], by simp, rfl⟩
theorem drawReadClaim_z (bs : List UInt8) (m : Mem) (n : Nat) : FnS Try.prog 18 m n [.v (codeV bs)] (Drawn SomePS m n) := by
  refine Drawn_of ⟨_, Try.func18, rfl, rfl⟩ fun hfr => ?_
  obtain ⟨vs, hvs, hel⟩ := odd_strs
  refine FnS_of (rs := [.tmp 2, .tmp 3]) false Try.func18 rfl rfl rfl rfl (Nat.le_of_ble_eq_true rfl) ?_
  simp -dsimp
  refine callS_ (open_at bs _ _) ?_
  rintro t m1 n1 ⟨rfl, rfl, rfl⟩
  simp -dsimp
  refine callS_ (claimed_z (bs.take 2000) 0 (by omega) 0 (by omega) (by omega) _ _ _ (by omega) (by simp)) ?_
  rintro t m2 n2 ⟨hn2, ⟨x, hx, rfl⟩, p2, hp1, hp2, rfl⟩
  obtain ⟨people, c, a1, a2, a3, a4, rfl⟩ := hx
  have f3 := far (show n < n2 by omega)
  have hct := claimTxS_fn people c (claim_fine a3 a4)
  have hlen : (claimTx people c).length ≤ 27 := by
    have hk := ft (claimOk people c)
    rcases hk with hk | hk
    · unfold claimTx; rw [if_neg (by simp [hk])]; simp
    · exact (claimTx_len hk).2.1
  generalize claimTx people c = s at *
  simp -dsimp [f3, claim_cells]
  refine call_ hct (by simp -dsimp) ?_
  simp -dsimp [f3]
  refine callS_ (pick_at (bs.take 2000) p2 (by omega) _ _ _ n (by simp [f3])) ?_
  rintro t m3 n3 ⟨hn3, ⟨r, rfl, hr0, hr1⟩, rfl⟩
  have f4 := far (show n < n3 by omega)
  have f5 := far (show n2 < n3 by omega)
  by_cases hgo : r = 0 ∧ 0 < s.length
  case neg =>
    have fin : (decide (r = 0) && decide (0 < s.length)) = false := by simpa using hgo
    by_cases hr : r = 0
    · have hs0 : ¬ 0 < s.length := fun h => hgo ⟨hr, h⟩
      have hs : s = [] := List.length_eq_zero_iff.1 (by omega)
      simp -dsimp [hr, hs]
      refine ⟨by omega, ⟨_, by simp, people, [], by simp, rfl⟩, fun j j1 => ?_⟩
      simp [far j1, far (show j < n2 by omega), far (show j < n3 by omega)]
    · simp -dsimp [hr]
      refine ⟨by omega, ⟨_, by simp, people, s, by omega, rfl⟩, fun j j1 => ?_⟩
      simp [far j1, far (show j < n2 by omega), far (show j < n3 by omega)]
  have hr := hgo.1
  have hs := hgo.2
  have hs' : (0 : Int) < s.length := by omega
  have hsn : ¬ s = [] := by intro e; rw [e] at hs; simp at hs
  simp -dsimp [hr, hs, hs', hsn, f3, f4, f5]
  refine callS_ (pick_at (bs.take 2000) (p2 + 1) (by omega) _ _ _ n (by simp [f3, f4, f5])) ?_
  rintro t m4 n4 ⟨hn4, ⟨k, rfl, hk0, hk1⟩, rfl⟩
  have hk1 := hk1 (by omega)
  have f6 := far (show n < n4 by omega)
  have f7 := far (show n2 < n4 by omega)
  simp -dsimp
  refine twp_draw [0, 1, 2, 3, 1004, 5, 10, 11, 12, 6, 7, 8, 9, 13, 14, 15, 16, 17, 18] [] (List.replicate 19 []) (List.replicate 19 []) (by kernel_rfl) (by kernel_rfl) (by kernel_rfl) (by kernel_rfl) ?_
  have hkl : k ≤ (s.length : Int) := by omega
  simp -dsimp [List.range_succ, f3, f4, f5, f6, f7, hk0, hkl]
  refine bld_ [(0, .str []), (1, .str [58]), (2, .str [97]), (3, .str [33]), (4, .str [40]), (5, .str [101])] 9 vs (by simp -dsimp) (by rw [hvs]; simp -dsimp) ?_
  clear hvs
  simp -dsimp [List.range_succ, f3, f4, f5, f6, f7, hk0, hkl]
  refine callS_ (pick_at (bs.take 2000) (p2 + 1 + 1) (by omega) _ _ _ n (by simp [f3, f4, f5, f6, f7])) ?_
  rintro t m5 n5 ⟨hn5, ⟨r2, rfl, hr20, hr21⟩, rfl⟩
  have hr21 := hr21 (by omega)
  have f8 := far (show n < n5 by omega)
  refine (hel r2 hr20 hr21).elim fun x hx => ?_
  have hx1 := hx.1
  have hx2 := hx.2
  have hm1 : min k.toNat s.length = k.toNat := by omega
  have b1 : ((min k.toNat s.length : Nat) : Int) + x.length ≤ 9223372036854775807 := by omega
  simp -dsimp [List.range_succ, hr20, hx2, b1]
  refine callS_ (pick_at (bs.take 2000) (p2 + 1 + 1 + 1) (by omega) _ _ _ n (by simp [f3, f4, f5, f6, f7, f8])) ?_
  rintro t m6 n6 ⟨hn6, ⟨r3, rfl, hr30, hr31⟩, rfl⟩
  have hr31 := hr31 (by omega)
  have f9 := far (show n < n6 by omega)
  have w1 : IntKind.wrap .i64 (k + r3) = k + r3 := w64 (by omega) (by omega)
  have z0 : 0 ≤ k + r3 := by omega
  have z1 : k + r3 ≤ (s.length : Int) := by omega
  have b2 : ((min k.toNat s.length : Nat) : Int) + x.length + ((s.length - (k + r3).toNat : Nat) : Int) ≤ 9223372036854775807 := by omega
  have b3 : ((min k.toNat s.length : Nat) : Int) + (x.length + ((s.length - (k + r3).toNat : Nat) : Int)) ≤ 9223372036854775807 := by omega
  simp -dsimp [List.range_succ, w1, z0, z1, b2, b3]
  refine ⟨by omega, ⟨_, by simp, people, s.take k.toNat ++ (x ++ s.drop (k + r3).toNat), by simp; omega, rfl⟩, fun j j1 => ?_⟩
  simp [far j1, far (show j < n2 by omega)]
theorem readC_small {people : Int} {s : List UInt8} {c : Claim} (h : readC people s = some c) : c.says.length ≤ 13 := by
  have := claimOk_all (readC_is h).1; omega
theorem lawReadClaim (bs : List UInt8) : FnZ Try.prog 5 [codeV bs] (.bool true) := by
  refine FnZ_of (rs := [.tmp 2]) false Try.func5 rfl rfl rfl rfl (Nat.le_of_ble_eq_true rfl) ?_
  by_cases h : (1048576 : Int) < bs.length
  · simp -dsimp [h]
  simp -dsimp [h]
  refine callS_ (drawReadClaim_z bs _ _) ?_
  rintro t m1 n1 ⟨hn1, ⟨x, hx, rfl⟩, rfl⟩
  obtain ⟨people, s, a1, rfl⟩ := hx
  have h1 := readClaim_fn people s (by omega)
  have h2 := readClaimS_fn people s (by omega)
  have hmore := readClaim_fn people (s ++ [58]) (by simp; omega)
  have b1 : (s.length : Int) + 1 ≤ 9223372036854775807 := by omega
  cases hr : readC people s with
  | none =>
    rw [hr] at h1 h2
    have hs := sameClaim_fn ⟨0, []⟩ ⟨0, []⟩ (by simp [Claim.small])
    simp -dsimp
    refine call_ h1 (by simp -dsimp) ?_
    simp -dsimp [optC]
    refine call_ h2 (by simp -dsimp) ?_
    simp -dsimp [optC]
    refine call_ hs (by simp -dsimp) ?_
    simp -dsimp
    refine call_ alive_fn (by simp -dsimp) ?_
    simp -dsimp
  | some c =>
    have hm := readC_more (x := 58) hr (by unfold plain; simp)
    rw [hm] at hmore
    rw [hr] at h1 h2
    have hc := (readC_is hr).1
    have htx := claimTx_fn people c
    rw [(readC_is hr).2] at htx
    have hok := claimOk_fn people c
    have hsm := readC_small hr
    have hs := sameClaim_fn c c (by unfold Claim.small; omega)
    simp -dsimp
    refine call_ h1 (by simp -dsimp) ?_
    simp -dsimp [optC]
    refine call_ h2 (by simp -dsimp) ?_
    simp -dsimp [optC]
    refine call_ hs (by simp -dsimp) ?_
    simp -dsimp [b1]
    refine call_ hmore (by simp -dsimp) ?_
    simp -dsimp [optC, nes]
    refine call_ htx (by simp -dsimp) ?_
    simp -dsimp [nes]
    refine call_ hok (by simp -dsimp) ?_
    simp -dsimp [hc]
end TL
