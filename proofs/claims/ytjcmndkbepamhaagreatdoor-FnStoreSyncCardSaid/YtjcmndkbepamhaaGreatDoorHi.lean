/- TL: parts FnsD3, FnsE15o, FnsE15b, FnsS0, FnsS1, FnsS2a, FnsE13, FnsE17s, FnsE16, FnsV1, FnsV2, FnsV7, FnsGDb, FnsGF. -/
import Derived.Test.YtjcmndkbepamhaaGreatDoorHg
import Derived.Test.YtjcmndkbepamhaaGreatDoorHh
import Derived.Test.YtjcmndkbepamhaaGreatDoorHf
import Derived.Test.YtjcmndkbepamhaaGreatDoorHe
import Derived.Test.YtjcmndkbepamhaaGreatDoorHc
import Derived.Test.YtjcmndkbepamhaaGreatDoorShelfB
import Derived.KernelRfl
/- Deeds at a desk: the program. -/
set_option linter.unusedSimpArgs false
set_option linter.unusedVariables false
set_option maxRecDepth 100000
set_option maxHeartbeats 4000000
set_option pp.maxSteps 1500
namespace TL
open Go Go.Proofs
attribute [local simp] marksV storyV codeV Claim.v Place.v Deed.v Desk.v
theorem do_bad1 (d : Desk) (kind num : Int) (words : List UInt8) (hd : d.small) (hk : deskOk d = true) (h0 : ¬ kind = 0) (hw : ¬ words = []) : FnZ Tryz.prog 40 [d.v, (⟨kind, num, words⟩ : Deed).v] (.tup [d.v, .bool false]) := by
  have hok := deskOk_fn d (by have := hd.2.1; omega) (by have := hd.1.1; omega) (fun p hp => by have := (hd.2.2 p hp).1; omega)
  rw [hk] at hok
  have hcopy := fun m n => copyDesk_own d hd m n
  refine FnZ_of (rs := [.cell 4 53, .tmp 5]) false Tryz.func40 rfl rfl rfl rfl (Nat.le_of_ble_eq_true rfl) ?_
  simp -dsimp
  refine call_ hok (by simp -dsimp) ?_
  simp -dsimp
  refine callL_ (vs := [d.v]) (hcopy _ _) (by simp -dsimp) ?_
  rintro t m1 n1 ⟨hn1, hout, id, st, rfl, hi0, hi1, him, hst, hne⟩
  have k0 := hout 0 (by omega)
  have k1 := hout 1 (by omega)
  have k2 := hout 2 (by omega)
  simp -dsimp at k0 k1 k2
  have f0 := far (show 0 < n1 by omega)
  have f1 := far (show 1 < n1 by omega)
  have f2 := far (show 2 < n1 by omega)
  have z1 : ¬ n1 = 0 := by omega
  have z2 : ¬ n1 = 1 := by omega
  have z3 : ¬ n1 = 2 := by omega
  have g1 := far hi1
  have y0 : ¬ id = 0 := by omega
  have y1 : ¬ id = 1 := by omega
  have y2 : ¬ id = 2 := by omega
  have yn : ¬ id = n1 := by omega
  have hc := hst.cell
  rcases hst with ⟨rfl, hs0⟩ | ⟨r, rfl, hr0, hr1, hrm⟩
  · have hp0 : d.past = [] := by simpa using hs0
    simp -dsimp [nes8 n1, k0, k1, k2, f0, f1, f2, z1, z2, z3, nes, g1, y0, y1, y2, yn, Ne.symm y0, Ne.symm y1, Ne.symm y2, him, h0, hw, hp0]
  · have g2 := far hr1
    have x0 : ¬ r = 0 := by omega
    have x1 : ¬ r = 1 := by omega
    have x2 : ¬ r = 2 := by omega
    have xi : ¬ r = id := fun h => hne (by rw [h])
    simp -dsimp [nes8 n1, k0, k1, k2, f0, f1, f2, z1, z2, z3, nes, g1, y0, y1, y2, yn, Ne.symm y0, Ne.symm y1, Ne.symm y2, him, g2, x0, x1, x2, xi, Ne.symm x0, Ne.symm x1, Ne.symm x2, Ne.symm xi, hrm, h0, hw]
theorem do_bad2 (d : Desk) (num : Int) (words : List UInt8) (hd : d.small) (hk : deskOk d = true) (h0 : ¬ num = 0) : FnZ Tryz.prog 40 [d.v, (⟨0, num, words⟩ : Deed).v] (.tup [d.v, .bool false]) := by
  have hok := deskOk_fn d (by have := hd.2.1; omega) (by have := hd.1.1; omega) (fun p hp => by have := (hd.2.2 p hp).1; omega)
  rw [hk] at hok
  have hcopy := fun m n => copyDesk_own d hd m n
  refine FnZ_of (rs := [.cell 4 53, .tmp 5]) false Tryz.func40 rfl rfl rfl rfl (Nat.le_of_ble_eq_true rfl) ?_
  simp -dsimp
  refine call_ hok (by simp -dsimp) ?_
  simp -dsimp
  refine callL_ (vs := [d.v]) (hcopy _ _) (by simp -dsimp) ?_
  rintro t m1 n1 ⟨hn1, hout, id, st, rfl, hi0, hi1, him, hst, hne⟩
  have k0 := hout 0 (by omega)
  have k1 := hout 1 (by omega)
  have k2 := hout 2 (by omega)
  simp -dsimp at k0 k1 k2
  have f0 := far (show 0 < n1 by omega)
  have f1 := far (show 1 < n1 by omega)
  have f2 := far (show 2 < n1 by omega)
  have z1 : ¬ n1 = 0 := by omega
  have z2 : ¬ n1 = 1 := by omega
  have z3 : ¬ n1 = 2 := by omega
  have g1 := far hi1
  have y0 : ¬ id = 0 := by omega
  have y1 : ¬ id = 1 := by omega
  have y2 : ¬ id = 2 := by omega
  have yn : ¬ id = n1 := by omega
  have hc := hst.cell
  rcases hst with ⟨rfl, hs0⟩ | ⟨r, rfl, hr0, hr1, hrm⟩
  · have hp0 : d.past = [] := by simpa using hs0
    simp -dsimp [nes8 n1, k0, k1, k2, f0, f1, f2, z1, z2, z3, nes, g1, y0, y1, y2, yn, Ne.symm y0, Ne.symm y1, Ne.symm y2, him, h0, hp0]
  · have g2 := far hr1
    have x0 : ¬ r = 0 := by omega
    have x1 : ¬ r = 1 := by omega
    have x2 : ¬ r = 2 := by omega
    have xi : ¬ r = id := fun h => hne (by rw [h])
    simp -dsimp [nes8 n1, k0, k1, k2, f0, f1, f2, z1, z2, z3, nes, g1, y0, y1, y2, yn, Ne.symm y0, Ne.symm y1, Ne.symm y2, him, g2, x0, x1, x2, xi, Ne.symm x0, Ne.symm x1, Ne.symm x2, Ne.symm xi, hrm, h0]
theorem do_bad3 (d : Desk) (kind num : Int) (hd : d.small) (hk : deskOk d = true) (h0 : ¬ kind = 0) (h1 : ¬ kind = 1) (h2 : ¬ kind = 2) (h3 : ¬ num = 0) : FnZ Tryz.prog 40 [d.v, (⟨kind, num, []⟩ : Deed).v] (.tup [d.v, .bool false]) := by
  have hok := deskOk_fn d (by have := hd.2.1; omega) (by have := hd.1.1; omega) (fun p hp => by have := (hd.2.2 p hp).1; omega)
  rw [hk] at hok
  have hcopy := fun m n => copyDesk_own d hd m n
  refine FnZ_of (rs := [.cell 4 53, .tmp 5]) false Tryz.func40 rfl rfl rfl rfl (Nat.le_of_ble_eq_true rfl) ?_
  simp -dsimp
  refine call_ hok (by simp -dsimp) ?_
  simp -dsimp
  refine callL_ (vs := [d.v]) (hcopy _ _) (by simp -dsimp) ?_
  rintro t m1 n1 ⟨hn1, hout, id, st, rfl, hi0, hi1, him, hst, hne⟩
  have k0 := hout 0 (by omega)
  have k1 := hout 1 (by omega)
  have k2 := hout 2 (by omega)
  simp -dsimp at k0 k1 k2
  have f0 := far (show 0 < n1 by omega)
  have f1 := far (show 1 < n1 by omega)
  have f2 := far (show 2 < n1 by omega)
  have z1 : ¬ n1 = 0 := by omega
  have z2 : ¬ n1 = 1 := by omega
  have z3 : ¬ n1 = 2 := by omega
  have g1 := far hi1
  have y0 : ¬ id = 0 := by omega
  have y1 : ¬ id = 1 := by omega
  have y2 : ¬ id = 2 := by omega
  have yn : ¬ id = n1 := by omega
  have hc := hst.cell
  rcases hst with ⟨rfl, hs0⟩ | ⟨r, rfl, hr0, hr1, hrm⟩
  · have hp0 : d.past = [] := by simpa using hs0
    simp -dsimp [nes8 n1, k0, k1, k2, f0, f1, f2, z1, z2, z3, nes, g1, y0, y1, y2, yn, Ne.symm y0, Ne.symm y1, Ne.symm y2, him, h0, h1, h2, h3, hp0]
  · have g2 := far hr1
    have x0 : ¬ r = 0 := by omega
    have x1 : ¬ r = 1 := by omega
    have x2 : ¬ r = 2 := by omega
    have xi : ¬ r = id := fun h => hne (by rw [h])
    simp -dsimp [nes8 n1, k0, k1, k2, f0, f1, f2, z1, z2, z3, nes, g1, y0, y1, y2, yn, Ne.symm y0, Ne.symm y1, Ne.symm y2, him, g2, x0, x1, x2, xi, Ne.symm x0, Ne.symm x1, Ne.symm x2, Ne.symm xi, hrm, h0, h1, h2, h3]
theorem do_other (d : Desk) (kind : Int) (hd : d.small) (hk : deskOk d = true) (h0 : ¬ kind = 0) (h1 : ¬ kind = 1) (h2 : ¬ kind = 2) (h3 : ¬ kind = 3) (h4 : ¬ kind = 4) : FnZ Tryz.prog 40 [d.v, (⟨kind, 0, []⟩ : Deed).v] (.tup [d.v, .bool false]) := by
  have hok := deskOk_fn d (by have := hd.2.1; omega) (by have := hd.1.1; omega) (fun p hp => by have := (hd.2.2 p hp).1; omega)
  rw [hk] at hok
  have hcopy := fun m n => copyDesk_own d hd m n
  refine FnZ_of (rs := [.cell 4 53, .tmp 5]) false Tryz.func40 rfl rfl rfl rfl (Nat.le_of_ble_eq_true rfl) ?_
  simp -dsimp
  refine call_ hok (by simp -dsimp) ?_
  simp -dsimp
  refine callL_ (vs := [d.v]) (hcopy _ _) (by simp -dsimp) ?_
  rintro t m1 n1 ⟨hn1, hout, id, st, rfl, hi0, hi1, him, hst, hne⟩
  have k0 := hout 0 (by omega)
  have k1 := hout 1 (by omega)
  have k2 := hout 2 (by omega)
  simp -dsimp at k0 k1 k2
  have f0 := far (show 0 < n1 by omega)
  have f1 := far (show 1 < n1 by omega)
  have f2 := far (show 2 < n1 by omega)
  have z1 : ¬ n1 = 0 := by omega
  have z2 : ¬ n1 = 1 := by omega
  have z3 : ¬ n1 = 2 := by omega
  have g1 := far hi1
  have y0 : ¬ id = 0 := by omega
  have y1 : ¬ id = 1 := by omega
  have y2 : ¬ id = 2 := by omega
  have yn : ¬ id = n1 := by omega
  have hc := hst.cell
  rcases hst with ⟨rfl, hs0⟩ | ⟨r, rfl, hr0, hr1, hrm⟩
  · have hp0 : d.past = [] := by simpa using hs0
    simp -dsimp [nes8 n1, k0, k1, k2, f0, f1, f2, z1, z2, z3, nes, g1, y0, y1, y2, yn, Ne.symm y0, Ne.symm y1, Ne.symm y2, him, h0, h1, h2, h3, h4, hp0]
  · have g2 := far hr1
    have x0 : ¬ r = 0 := by omega
    have x1 : ¬ r = 1 := by omega
    have x2 : ¬ r = 2 := by omega
    have xi : ¬ r = id := fun h => hne (by rw [h])
    simp -dsimp [nes8 n1, k0, k1, k2, f0, f1, f2, z1, z2, z3, nes, g1, y0, y1, y2, yn, Ne.symm y0, Ne.symm y1, Ne.symm y2, him, g2, x0, x1, x2, xi, Ne.symm x0, Ne.symm x1, Ne.symm x2, Ne.symm xi, hrm, h0, h1, h2, h3, h4]
theorem do_nosay (d : Desk) (words : List UInt8) (hd : d.small) (hk : deskOk d = true) (hr : readC d.now.people words = none) (hwl : words.length ≤ 1000000000) : FnZ Tryz.prog 40 [d.v, (⟨0, 0, words⟩ : Deed).v] (.tup [d.v, .bool false]) := by
  have hok := deskOk_fn d (by have := hd.2.1; omega) (by have := hd.1.1; omega) (fun p hp => by have := (hd.2.2 p hp).1; omega)
  rw [hk] at hok
  have hcopy := fun m n => copyDesk_own d hd m n
  have hrc := readClaim_fn d.now.people words (by omega)
  rw [hr] at hrc
  refine FnZ_of (rs := [.cell 4 53, .tmp 5]) false Tryz.func40 rfl rfl rfl rfl (Nat.le_of_ble_eq_true rfl) ?_
  simp -dsimp
  refine call_ hok (by simp -dsimp) ?_
  simp -dsimp
  refine callL_ (vs := [d.v]) (hcopy _ _) (by simp -dsimp) ?_
  rintro t m1 n1 ⟨hn1, hout, id, st, rfl, hi0, hi1, him, hst, hne⟩
  have k0 := hout 0 (by omega)
  have k1 := hout 1 (by omega)
  have k2 := hout 2 (by omega)
  simp -dsimp at k0 k1 k2
  have f0 := far (show 0 < n1 by omega)
  have f1 := far (show 1 < n1 by omega)
  have f2 := far (show 2 < n1 by omega)
  have z1 : ¬ n1 = 0 := by omega
  have z2 : ¬ n1 = 1 := by omega
  have z3 : ¬ n1 = 2 := by omega
  have g1 := far hi1
  have y0 : ¬ id = 0 := by omega
  have y1 : ¬ id = 1 := by omega
  have y2 : ¬ id = 2 := by omega
  have yn : ¬ id = n1 := by omega
  have hc := hst.cell
  rcases hst with ⟨rfl, hs0⟩ | ⟨r, rfl, hr0, hr1, hrm⟩
  · have hp0 : d.past = [] := by simpa using hs0
    simp -dsimp [nes8 n1, k0, k1, k2, f0, f1, f2, z1, z2, z3, nes, g1, y0, y1, y2, yn, Ne.symm y0, Ne.symm y1, Ne.symm y2, him, hp0, hc]
    refine twp_draw [0, 1, 2, 3, 4, 5, 1006, 7, 8, 9, 10, 11, 12] [1, n1] (List.replicate 13 [0, 1]) (List.replicate 13 [0, 1]) (by kernel_rfl) (by kernel_rfl) (by kernel_rfl) (by kernel_rfl) ?_
    simp -dsimp [List.range_succ, nes8 n1, k0, k1, k2, f0, f1, f2, z1, z2, z3, nes, g1, y0, y1, y2, yn, Ne.symm y0, Ne.symm y1, Ne.symm y2, him, hp0, hc]
    refine pure_ hrc (by simp -dsimp [nes8 n1, k0, k1, k2, f0, f1, f2, z1, z2, z3, nes, g1, y0, y1, y2, yn, Ne.symm y0, Ne.symm y1, Ne.symm y2, him, hp0, hc]) ?_
    simp -dsimp [List.range_succ, nes8 n1, k0, k1, k2, f0, f1, f2, z1, z2, z3, nes, g1, y0, y1, y2, yn, Ne.symm y0, Ne.symm y1, Ne.symm y2, him, hp0, hc, optC]

  · have g2 := far hr1
    have x0 : ¬ r = 0 := by omega
    have x1 : ¬ r = 1 := by omega
    have x2 : ¬ r = 2 := by omega
    have xi : ¬ r = id := fun h => hne (by rw [h])
    simp -dsimp [nes8 n1, k0, k1, k2, f0, f1, f2, z1, z2, z3, nes, g1, y0, y1, y2, yn, Ne.symm y0, Ne.symm y1, Ne.symm y2, him, g2, x0, x1, x2, xi, Ne.symm x0, Ne.symm x1, Ne.symm x2, Ne.symm xi, hrm, hc]
    refine twp_draw [0, 1, 2, 3, 4, 5, 1006, 7, 8, 9, 10, 11, 12] [1, n1] (List.replicate 13 [0, 1]) (List.replicate 13 [0, 1]) (by kernel_rfl) (by kernel_rfl) (by kernel_rfl) (by kernel_rfl) ?_
    simp -dsimp [List.range_succ, nes8 n1, k0, k1, k2, f0, f1, f2, z1, z2, z3, nes, g1, y0, y1, y2, yn, Ne.symm y0, Ne.symm y1, Ne.symm y2, him, g2, x0, x1, x2, xi, Ne.symm x0, Ne.symm x1, Ne.symm x2, Ne.symm xi, hrm, hc]
    refine pure_ hrc (by simp -dsimp [nes8 n1, k0, k1, k2, f0, f1, f2, z1, z2, z3, nes, g1, y0, y1, y2, yn, Ne.symm y0, Ne.symm y1, Ne.symm y2, him, g2, x0, x1, x2, xi, Ne.symm x0, Ne.symm x1, Ne.symm x2, Ne.symm xi, hrm, hc]) ?_
    simp -dsimp [List.range_succ, nes8 n1, k0, k1, k2, f0, f1, f2, z1, z2, z3, nes, g1, y0, y1, y2, yn, Ne.symm y0, Ne.symm y1, Ne.symm y2, him, g2, x0, x1, x2, xi, Ne.symm x0, Ne.symm x1, Ne.symm x2, Ne.symm xi, hrm, hc, optC]

theorem do_nodrop1 (d : Desk) (num : Int) (hd : d.small) (hk : deskOk d = true) (h0 : num < 0) : FnZ Tryz.prog 40 [d.v, (⟨1, num, []⟩ : Deed).v] (.tup [d.v, .bool false]) := by
  have hok := deskOk_fn d (by have := hd.2.1; omega) (by have := hd.1.1; omega) (fun p hp => by have := (hd.2.2 p hp).1; omega)
  rw [hk] at hok
  have hcopy := fun m n => copyDesk_own d hd m n
  refine FnZ_of (rs := [.cell 4 53, .tmp 5]) false Tryz.func40 rfl rfl rfl rfl (Nat.le_of_ble_eq_true rfl) ?_
  simp -dsimp
  refine call_ hok (by simp -dsimp) ?_
  simp -dsimp
  refine callL_ (vs := [d.v]) (hcopy _ _) (by simp -dsimp) ?_
  rintro t m1 n1 ⟨hn1, hout, id, st, rfl, hi0, hi1, him, hst, hne⟩
  have k0 := hout 0 (by omega)
  have k1 := hout 1 (by omega)
  have k2 := hout 2 (by omega)
  simp -dsimp at k0 k1 k2
  have f0 := far (show 0 < n1 by omega)
  have f1 := far (show 1 < n1 by omega)
  have f2 := far (show 2 < n1 by omega)
  have z1 : ¬ n1 = 0 := by omega
  have z2 : ¬ n1 = 1 := by omega
  have z3 : ¬ n1 = 2 := by omega
  have g1 := far hi1
  have y0 : ¬ id = 0 := by omega
  have y1 : ¬ id = 1 := by omega
  have y2 : ¬ id = 2 := by omega
  have yn : ¬ id = n1 := by omega
  have hc := hst.cell
  rcases hst with ⟨rfl, hs0⟩ | ⟨r, rfl, hr0, hr1, hrm⟩
  · have hp0 : d.past = [] := by simpa using hs0
    simp -dsimp [nes8 n1, k0, k1, k2, f0, f1, f2, z1, z2, z3, nes, g1, y0, y1, y2, yn, Ne.symm y0, Ne.symm y1, Ne.symm y2, him, hp0, hc, h0]
    refine twp_draw (List.range 13) [1, n1, id] (List.replicate 13 [0, 1, 2]) (List.replicate 13 [0, 1, 2]) (by kernel_rfl) (by kernel_rfl) (by kernel_rfl) (by kernel_rfl) ?_
    simp -dsimp [List.range_succ, nes8 n1, k0, k1, k2, f0, f1, f2, z1, z2, z3, nes, g1, y0, y1, y2, yn, Ne.symm y0, Ne.symm y1, Ne.symm y2, him, hp0, hc, h0]
  · have g2 := far hr1
    have x0 : ¬ r = 0 := by omega
    have x1 : ¬ r = 1 := by omega
    have x2 : ¬ r = 2 := by omega
    have xi : ¬ r = id := fun h => hne (by rw [h])
    simp -dsimp [nes8 n1, k0, k1, k2, f0, f1, f2, z1, z2, z3, nes, g1, y0, y1, y2, yn, Ne.symm y0, Ne.symm y1, Ne.symm y2, him, g2, x0, x1, x2, xi, Ne.symm x0, Ne.symm x1, Ne.symm x2, Ne.symm xi, hrm, hc, h0]
    refine twp_draw (List.range 13) [1, n1, id] (List.replicate 13 [0, 1, 2]) (List.replicate 13 [0, 1, 2]) (by kernel_rfl) (by kernel_rfl) (by kernel_rfl) (by kernel_rfl) ?_
    simp -dsimp [List.range_succ, nes8 n1, k0, k1, k2, f0, f1, f2, z1, z2, z3, nes, g1, y0, y1, y2, yn, Ne.symm y0, Ne.symm y1, Ne.symm y2, him, g2, x0, x1, x2, xi, Ne.symm x0, Ne.symm x1, Ne.symm x2, Ne.symm xi, hrm, hc, h0]
theorem do_nodrop2 (d : Desk) (num : Int) (hd : d.small) (hk : deskOk d = true) (h0 : ¬ num < 0) (h1 : (d.now.story.length : Int) ≤ num) : FnZ Tryz.prog 40 [d.v, (⟨1, num, []⟩ : Deed).v] (.tup [d.v, .bool false]) := by
  have hok := deskOk_fn d (by have := hd.2.1; omega) (by have := hd.1.1; omega) (fun p hp => by have := (hd.2.2 p hp).1; omega)
  rw [hk] at hok
  have hcopy := fun m n => copyDesk_own d hd m n
  refine FnZ_of (rs := [.cell 4 53, .tmp 5]) false Tryz.func40 rfl rfl rfl rfl (Nat.le_of_ble_eq_true rfl) ?_
  simp -dsimp
  refine call_ hok (by simp -dsimp) ?_
  simp -dsimp
  refine callL_ (vs := [d.v]) (hcopy _ _) (by simp -dsimp) ?_
  rintro t m1 n1 ⟨hn1, hout, id, st, rfl, hi0, hi1, him, hst, hne⟩
  have k0 := hout 0 (by omega)
  have k1 := hout 1 (by omega)
  have k2 := hout 2 (by omega)
  simp -dsimp at k0 k1 k2
  have f0 := far (show 0 < n1 by omega)
  have f1 := far (show 1 < n1 by omega)
  have f2 := far (show 2 < n1 by omega)
  have z1 : ¬ n1 = 0 := by omega
  have z2 : ¬ n1 = 1 := by omega
  have z3 : ¬ n1 = 2 := by omega
  have g1 := far hi1
  have y0 : ¬ id = 0 := by omega
  have y1 : ¬ id = 1 := by omega
  have y2 : ¬ id = 2 := by omega
  have yn : ¬ id = n1 := by omega
  have hc := hst.cell
  rcases hst with ⟨rfl, hs0⟩ | ⟨r, rfl, hr0, hr1, hrm⟩
  · have hp0 : d.past = [] := by simpa using hs0
    simp -dsimp [nes8 n1, k0, k1, k2, f0, f1, f2, z1, z2, z3, nes, g1, y0, y1, y2, yn, Ne.symm y0, Ne.symm y1, Ne.symm y2, him, hp0, hc, h0, h1]
    refine twp_draw (List.range 13) [1, n1, id] (List.replicate 13 [0, 1, 2]) (List.replicate 13 [0, 1, 2]) (by kernel_rfl) (by kernel_rfl) (by kernel_rfl) (by kernel_rfl) ?_
    simp -dsimp [List.range_succ, nes8 n1, k0, k1, k2, f0, f1, f2, z1, z2, z3, nes, g1, y0, y1, y2, yn, Ne.symm y0, Ne.symm y1, Ne.symm y2, him, hp0, hc, h0, h1]
  · have g2 := far hr1
    have x0 : ¬ r = 0 := by omega
    have x1 : ¬ r = 1 := by omega
    have x2 : ¬ r = 2 := by omega
    have xi : ¬ r = id := fun h => hne (by rw [h])
    simp -dsimp [nes8 n1, k0, k1, k2, f0, f1, f2, z1, z2, z3, nes, g1, y0, y1, y2, yn, Ne.symm y0, Ne.symm y1, Ne.symm y2, him, g2, x0, x1, x2, xi, Ne.symm x0, Ne.symm x1, Ne.symm x2, Ne.symm xi, hrm, hc, h0, h1]
    refine twp_draw (List.range 13) [1, n1, id] (List.replicate 13 [0, 1, 2]) (List.replicate 13 [0, 1, 2]) (by kernel_rfl) (by kernel_rfl) (by kernel_rfl) (by kernel_rfl) ?_
    simp -dsimp [List.range_succ, nes8 n1, k0, k1, k2, f0, f1, f2, z1, z2, z3, nes, g1, y0, y1, y2, yn, Ne.symm y0, Ne.symm y1, Ne.symm y2, him, g2, x0, x1, x2, xi, Ne.symm x0, Ne.symm x1, Ne.symm x2, Ne.symm xi, hrm, hc, h0, h1]
theorem do_noback (d : Desk)  (hd : d.small) (hk : deskOk d = true) (he : d.past = []) : FnZ Tryz.prog 40 [d.v, (⟨4, 0, []⟩ : Deed).v] (.tup [d.v, .bool false]) := by
  have hok := deskOk_fn d (by have := hd.2.1; omega) (by have := hd.1.1; omega) (fun p hp => by have := (hd.2.2 p hp).1; omega)
  rw [hk] at hok
  have hcopy := fun m n => copyDesk_own d hd m n
  refine FnZ_of (rs := [.cell 4 53, .tmp 5]) false Tryz.func40 rfl rfl rfl rfl (Nat.le_of_ble_eq_true rfl) ?_
  simp -dsimp
  refine call_ hok (by simp -dsimp) ?_
  simp -dsimp
  refine callL_ (vs := [d.v]) (hcopy _ _) (by simp -dsimp) ?_
  rintro t m1 n1 ⟨hn1, hout, id, st, rfl, hi0, hi1, him, hst, hne⟩
  have k0 := hout 0 (by omega)
  have k1 := hout 1 (by omega)
  have k2 := hout 2 (by omega)
  simp -dsimp at k0 k1 k2
  have f0 := far (show 0 < n1 by omega)
  have f1 := far (show 1 < n1 by omega)
  have f2 := far (show 2 < n1 by omega)
  have z1 : ¬ n1 = 0 := by omega
  have z2 : ¬ n1 = 1 := by omega
  have z3 : ¬ n1 = 2 := by omega
  have g1 := far hi1
  have y0 : ¬ id = 0 := by omega
  have y1 : ¬ id = 1 := by omega
  have y2 : ¬ id = 2 := by omega
  have yn : ¬ id = n1 := by omega
  have hc := hst.cell
  rcases hst with ⟨rfl, hs0⟩ | ⟨r, rfl, hr0, hr1, hrm⟩
  · have hp0 : d.past = [] := by simpa using hs0
    have w0 : IntKind.wrap .i64 (-1) = -1 := rfl
    simp -dsimp [nes8 n1, k0, k1, k2, f0, f1, f2, z1, z2, z3, nes, g1, y0, y1, y2, yn, Ne.symm y0, Ne.symm y1, Ne.symm y2, him, hc, hp0, w0]
  · have g2 := far hr1
    have x0 : ¬ r = 0 := by omega
    have x1 : ¬ r = 1 := by omega
    have x2 : ¬ r = 2 := by omega
    have xi : ¬ r = id := fun h => hne (by rw [h])
    rw [he] at hrm
    have hp0 := he
    have w0 : IntKind.wrap .i64 (-1) = -1 := rfl
    simp -dsimp [nes8 n1, k0, k1, k2, f0, f1, f2, z1, z2, z3, nes, g1, y0, y1, y2, yn, Ne.symm y0, Ne.symm y1, Ne.symm y2, him, g2, x0, x1, x2, xi, Ne.symm x0, Ne.symm x1, Ne.symm x2, Ne.symm xi, hrm, hc, hp0, w0]
theorem do_back (d : Desk)  (hd : d.small) (hk : deskOk d = true) (hne0 : d.past ≠ []) : FnZ Tryz.prog 40 [d.v, (⟨4, 0, []⟩ : Deed).v] (.tup [(⟨d.past.getLast?.getD d.now, d.past.dropLast⟩ : Desk).v, .bool true]) := by
  have hok := deskOk_fn d (by have := hd.2.1; omega) (by have := hd.1.1; omega) (fun p hp => by have := (hd.2.2 p hp).1; omega)
  rw [hk] at hok
  have hcopy := fun m n => copyDesk_own d hd m n
  have hpos : 0 < d.past.length := List.length_pos_iff.2 hne0
  have hl8 := hd.2.1
  have w1 : IntKind.wrap .i64 ((d.past.length : Int) - 1) = (d.past.length : Int) - 1 := w64 (by omega) (by omega)
  refine FnZ_of (rs := [.cell 4 53, .tmp 5]) false Tryz.func40 rfl rfl rfl rfl (Nat.le_of_ble_eq_true rfl) ?_
  simp -dsimp
  refine call_ hok (by simp -dsimp) ?_
  simp -dsimp
  refine callL_ (vs := [d.v]) (hcopy _ _) (by simp -dsimp) ?_
  rintro t m1 n1 ⟨hn1, hout, id, st, rfl, hi0, hi1, him, hst, hne⟩
  have k0 := hout 0 (by omega)
  have k1 := hout 1 (by omega)
  have k2 := hout 2 (by omega)
  simp -dsimp at k0 k1 k2
  have f0 := far (show 0 < n1 by omega)
  have f1 := far (show 1 < n1 by omega)
  have f2 := far (show 2 < n1 by omega)
  have z1 : ¬ n1 = 0 := by omega
  have z2 : ¬ n1 = 1 := by omega
  have z3 : ¬ n1 = 2 := by omega
  have g1 := far hi1
  have y0 : ¬ id = 0 := by omega
  have y1 : ¬ id = 1 := by omega
  have y2 : ¬ id = 2 := by omega
  have yn : ¬ id = n1 := by omega
  have hc := hst.cell
  rcases hst with ⟨rfl, hs0⟩ | ⟨r, rfl, hr0, hr1, hrm⟩
  · have hp0 : d.past = [] := by simpa using hs0
    exact absurd hp0 hne0
  · have g2 := far hr1
    have x0 : ¬ r = 0 := by omega
    have x1 : ¬ r = 1 := by omega
    have x2 : ¬ r = 2 := by omega
    have xi : ¬ r = id := fun h => hne (by rw [h])
    obtain ⟨l1, l2, l3, l4, l5, l6⟩ := last_facts (q := d.now) hne0
    have hcl := clip_fn d.past.dropLast (by simp; omega)
    have p1 : (1 : Int) ≤ d.past.length := by omega
    have p2 : 1 ≤ d.past.length := by omega
    have p3 : ¬ (d.past.length : Int) - 1 < 0 := by omega
    have p4 : ¬ (d.past.length : Int) < 1 := by omega
    have zp : allZ 2 (List.map Place.v d.past) := fun x hx => by obtain ⟨p, _, rfl⟩ := List.mem_map.1 hx; exact ⟨by simp, by simp⟩
    generalize d.past.getLast?.getD d.now = q at *
    simp -dsimp [nes8 n1, k0, k1, k2, f0, f1, f2, z1, z2, z3, nes, g1, y0, y1, y2, yn, Ne.symm y0, Ne.symm y1, Ne.symm y2, him, g2, x0, x1, x2, xi, Ne.symm x0, Ne.symm x1, Ne.symm x2, Ne.symm xi, hrm, hc, w1, p1, p2, p3, p4, l1, l4, l5, l6]
    refine twp_draw (List.range 13) [n1, r] (List.replicate 13 [0, 1]) (List.replicate 13 [0, 1]) (by kernel_rfl) (by kernel_rfl) (by kernel_rfl) (by kernel_rfl) ?_
    simp -dsimp [List.range_succ, nes8 n1, k0, k1, k2, f0, f1, f2, z1, z2, z3, nes, g1, y0, y1, y2, yn, Ne.symm y0, Ne.symm y1, Ne.symm y2, him, g2, x0, x1, x2, xi, Ne.symm x0, Ne.symm x1, Ne.symm x2, Ne.symm xi, hrm, hc, w1, p1, p2, p3, p4, l1, l2, l3, l4, l5, l6, zp]
    refine call_ hcl (by simp -dsimp [l3]) ?_
    simp -dsimp [List.range_succ, nes8 n1, k0, k1, k2, f0, f1, f2, z1, z2, z3, nes, g1, y0, y1, y2, yn, Ne.symm y0, Ne.symm y1, Ne.symm y2, him, g2, x0, x1, x2, xi, Ne.symm x0, Ne.symm x1, Ne.symm x2, Ne.symm xi, hrm, hc, w1, p1, p2, p3, p4, l1, l2, l3, l4, l5, l6]
theorem back_no {a : Deed} (h : ¬ (a.kind = 4 ∧ a.num = 0 ∧ a.words = [])) : isBack a = false := by
  simp only [isBack, decide_eq_false_iff_not]; rintro rfl; exact h ⟨rfl, rfl, rfl⟩
theorem deskDo_fn (d : Desk) (a : Deed) (hd : d.small) (ha : a.words.length ≤ 1000000000) : FnZ Tryz.prog 40 [d.v, a.v] (.tup [(deskDo d a).1.v, .bool (deskDo d a).2]) := by
  have hk := ft (deskOk d)
  rcases hk with hk | hk
  · have hok := deskOk_fn d (by have := hd.2.1; omega) (by have := hd.1.1; omega) (fun p hp => by have := (hd.2.2 p hp).1; omega)
    rw [deskDo_no hk]
    rw [hk] at hok
    obtain ⟨a1, a2, a3⟩ := a
    refine FnZ_of (rs := [.cell 4 53, .tmp 5]) false Tryz.func40 rfl rfl rfl rfl (Nat.le_of_ble_eq_true rfl) ?_
    simp -dsimp
    refine call_ hok (by simp -dsimp) ?_
    simp -dsimp [noDeskV]
  obtain ⟨hpast, hnow, hp8⟩ := deskOk_iff.1 hk
  have ml := (made_fine d.now a hnow).2.1
  obtain ⟨kind, num, words⟩ := a
  simp only at ha
  have zero : ∀ a : Deed, isBack a = false → made d.now a = ⟨0, []⟩ → FnZ Tryz.prog 40 [d.v, a.v] (.tup [d.v, .bool false]) → FnZ Tryz.prog 40 [d.v, a.v] (.tup [(deskDo d a).1.v, .bool (deskDo d a).2]) := fun a h1 h2 h3 => by
    rw [deskDo_zero hk h1 h2]; exact h3
  by_cases k0 : kind = 0
  · subst k0
    by_cases n0 : num = 0
    · subst n0
      have hb : isBack ⟨0, 0, words⟩ = false := back_no (by simp)
      cases hr : readC d.now.people words with
      | none => exact zero _ hb (by simp [made, hr]) (do_nosay d words hd hk hr ha)
      | some c =>
        have hm : made d.now ⟨0, 0, words⟩ = ⟨d.now.people, d.now.story ++ [c]⟩ := by simp [made, hr]
        rw [deskDo_made hk hb]
        exact do_say d words c hd hk _ ml hr ha hm
    · exact zero _ (back_no (by simp)) (by simp [made, n0]) (do_bad2 d num words hd hk n0)
  by_cases hw : words = []
  case neg => exact zero _ (back_no (by simp [hw])) (by simp [made, k0, hw]) (do_bad1 d kind num words hd hk k0 hw)
  subst hw
  by_cases k1 : kind = 1
  · subst k1
    have hb : isBack ⟨1, num, []⟩ = false := back_no (by simp)
    by_cases h0 : num < 0
    · exact zero _ hb (by simp [made]; omega) (do_nodrop1 d num hd hk h0)
    · by_cases h1 : (d.now.story.length : Int) ≤ num
      · exact zero _ hb (by simp [made]; omega) (do_nodrop2 d num hd hk h0 h1)
      · obtain ⟨k, rfl⟩ := Int.eq_ofNat_of_zero_le (show 0 ≤ num by omega)
        have hm : made d.now ⟨1, (k : Int), []⟩ = ⟨d.now.people, d.now.story.eraseIdx k⟩ := by
          unfold made; rw [if_neg (by simp), if_pos ⟨rfl, rfl, by simp, by simp; omega⟩]; rfl
        rw [deskDo_made hk hb]
        exact do_drop d k hd hk _ ml (by omega) hm
  by_cases k2 : kind = 2
  · subst k2
    have hb : isBack ⟨2, num, []⟩ = false := back_no (by simp)
    have hm : made d.now ⟨2, num, []⟩ = ⟨num, d.now.story⟩ := by simp [made]
    rw [deskDo_made hk hb]
    exact do_people d num hd hk _ ml hm
  by_cases n0 : num = 0
  case neg => exact zero _ (back_no (by simp [n0])) (by simp [made, k0, k1, k2, n0]) (do_bad3 d kind num hd hk k0 k1 k2 n0)
  subst n0
  by_cases k3 : kind = 3
  · subst k3
    have hb : isBack ⟨3, 0, []⟩ = false := back_no (by simp)
    have hm : made d.now ⟨3, 0, []⟩ = ⟨d.now.people, least d.now.people.toNat d.now.story⟩ := by simp [made]
    rw [deskDo_made hk hb]
    exact do_least d hd hk _ ml hm
  by_cases k4 : kind = 4
  · subst k4
    by_cases he : d.past = []
    · rw [deskDo_bad hk (good_back (by rfl)) (by simp [he])]
      exact do_noback d hd hk he
    · rw [deskDo_back hk (by rfl) he]
      exact do_back d hd hk he
  exact zero _ (back_no (by simp [k4])) (by simp [made, k0, k1, k2, k3]) (do_other d kind hd hk k0 k1 k2 k3 k4)
end TL

/- A deed that may be none. -/
set_option linter.unusedSimpArgs false
set_option linter.unusedVariables false
set_option maxRecDepth 100000
set_option maxHeartbeats 4000000
set_option pp.maxSteps 1500
namespace TL
open Go Go.Proofs
def optD (o : Option Deed) : V := .tup [(o.getD ⟨0, 0, []⟩).v, .bool o.isSome]
end TL

/- Deeds read: the program and the reference, and the exact law. -/
set_option linter.unusedSimpArgs false
set_option linter.unusedVariables false
set_option maxRecDepth 100000
set_option maxHeartbeats 4000000
set_option pp.maxSteps 1500
namespace TL
open Go Go.Proofs
attribute [local simp] marksV storyV codeV Claim.v Place.v Deed.v
/-! The reference. -/
def Isrd (s : List UInt8) (l : List Deed) (e : Nat) (y : S) : Prop := ∃ i id : Nat, y.tm 0 = .v (.str s) ∧ y.tm 2 = .ptr 0 0 ∧ y.m 0 = some (.box 35 3 [.v (.int .i64 0), .v (.int .i64 0), .v (.str [])]) ∧ y.tm 5 = .loc id ∧ 0 < id ∧ id < y.n ∧
  y.m id = some (.arr 35 (l.map Deed.v)) ∧ y.tm 7 = .v (.int .i64 i) ∧ y.mu = false ∧ i ≤ l.length ∧ (∀ a ∈ l.take i, s ≠ [] → deedTx a ≠ s) ∧ (e = 1 → i = l.length)
theorem deedS_two {s x r : List UInt8} (h : cutAt 32 s = [x, r]) : deedS s = [⟨3, 0, []⟩, ⟨4, 0, []⟩, ⟨0, 0, r⟩, ⟨1, digS r, []⟩, ⟨2, digS r, []⟩] := by
  unfold deedS; rw [h]; rfl
theorem deedS_not {s : List UInt8} (h : (cutAt 32 s).length ≠ 2) : deedS s = [⟨3, 0, []⟩, ⟨4, 0, []⟩] := by
  unfold deedS
  generalize cutAt 32 s = ps at h
  match ps, h with
  | [], _ => rfl
  | [_], _ => rfl
  | [_, _], h => exact absurd rfl h
  | _ :: _ :: _ :: _, _ => rfl
theorem readDeedS_fn (s : List UInt8) (hl : s.length ≤ 2000000000) : FnZ Tryz.prog 73 [.str s] (optD (readD s)) := by
  have hcut := l1Cut_fn s 32 hl
  have e32 : (((32 : UInt8).toNat : Nat) : Int) = 32 := rfl
  rw [e32] at hcut
  have hno := readD_none' (s := s)
  have hyes : ∀ a, s ≠ [] → deedTx a = s → readD s = some a := fun a => readD_some
  have hlen : ∀ a ∈ deedS s, a.words.length ≤ 2000000000 := by
    by_cases h2 : (cutAt 32 s).length = 2
    · have h3 : ∃ x rest, cutAt 32 s = [x, rest] := by
        generalize cutAt 32 s = ps at h2
        match ps, h2 with
        | [x, r], _ => exact ⟨x, r, rfl⟩
      obtain ⟨x, r, h5⟩ := h3
      have hrl : r.length ≤ s.length := cutAt_piece (c := 32) (by rw [h5]; simp)
      rw [deedS_two h5]
      intro a ha
      simp only [List.mem_cons, List.mem_nil_iff, or_false] at ha
      rcases ha with rfl | rfl | rfl | rfl | rfl <;> simp <;> omega
    · rw [deedS_not h2]
      intro a ha
      simp only [List.mem_cons, List.mem_nil_iff, or_false] at ha
      rcases ha with rfl | rfl <;> simp
  have hll : (deedS s).length ≤ 5 := by
    by_cases h2 : (cutAt 32 s).length = 2
    · have h3 : ∃ x rest, cutAt 32 s = [x, rest] := by
        generalize cutAt 32 s = ps at h2
        match ps, h2 with
        | [x, r], _ => exact ⟨x, r, rfl⟩
      obtain ⟨x, r, h5⟩ := h3
      rw [deedS_two h5]; simp
    · rw [deedS_not h2]; simp
  by_cases h2 : (cutAt 32 s).length = 2
  case pos =>
    have h3 : ∃ x rest, cutAt 32 s = [x, rest] := by
      generalize cutAt 32 s = ps at h2
      match ps, h2 with
      | [x, r], _ => exact ⟨x, r, rfl⟩
    refine h3.elim fun x h4 => h4.elim fun r h5 => ?_
    clear h3 h4 h2
    have hrl : r.length ≤ s.length := cutAt_piece (c := 32) (by rw [h5]; simp)
    have hdg := l1Digits_fn r (by omega)
    have hds := deedS_two h5
    rw [h5] at hcut
    generalize deedS s = l at *
    generalize digS r = D at *
    clear h5
    refine FnZ_of (rs := [.cell 2 35, .tmp 3]) false Tryz.func73 rfl rfl rfl rfl (Nat.le_of_ble_eq_true rfl) ?_
    simp -dsimp
    refine call_ hcut (by simp -dsimp) ?_
    simp -dsimp
    refine call_ hdg (by simp -dsimp) ?_
    simp -dsimp
    refine twp_loopC (Isrd s l 0) (fun y => l.length - natOf (y.tm 7)) (Isrd s l 1) ?_ ?_ ?_
    · refine ⟨0, _, by simp -dsimp, by simp -dsimp, by simp -dsimp, by simp -dsimp; rfl, by simp -dsimp, by simp -dsimp, by simp -dsimp [hds], by simp -dsimp, by simp -dsimp, by omega, by simp, by simp⟩
    · rintro y ⟨i, id, t0, t2, m0, t5, hid0, hid, hm, t7, hmu, hi, hall, hend⟩
      by_cases hlt : i < l.length
      case neg =>
        simp -dsimp [t5, t7, hm, hlt]
        exact ⟨i, id, by simp -dsimp [t0], by simp -dsimp [t2], by simp -dsimp [m0], by simp -dsimp [t5], hid0, by simp -dsimp [hid], by simp -dsimp [hm], by simp -dsimp [t7], by simp -dsimp [hmu], hi, hall, fun _ => by omega⟩
      have hget : (l.map Deed.v)[i]? = some (l[i].v) := by simp [hlt]
      have wi : IntKind.wrap .i64 ((i : Int) + 1) = ((i + 1 : Nat) : Int) := by rw [w64 (by omega) (by omega)]; omega
      have hmu1 : l.length - (i + 1) < l.length - i := by omega
      have hdt := deedTextS_fn l[i] (hlen _ (List.getElem_mem _))
      have f0 := far (show 0 < y.n by omega)
      have f1 := far hid
      by_cases hs : s = []
      · have hnx : ∀ a ∈ l.take (i + 1), s ≠ [] → deedTx a ≠ s := fun a _ h => absurd hs h
        simp -dsimp [t0, t5, t7, hm, hlt, hs, wi, hmu1]
        exact ⟨i + 1, id, by simp -dsimp [t0, hs], by simp -dsimp [t2], by simp -dsimp [m0], by simp -dsimp [t5], hid0, by simp -dsimp [hid], by simp -dsimp [hm], by simp -dsimp, by simp -dsimp [hmu], by omega, fun a _ h => absurd rfl h, by simp⟩
      · by_cases he : deedTx l[i] = s
        · rw [hyes _ hs he]
          rw [he] at hdt
          simp -dsimp [t0, t5, t7, hm, hlt, hs, hget]
          refine call_ hdt (by simp -dsimp) ?_
          simp -dsimp [t0, t2, t5, t7, m0, hm, hget, hlt, f0, f1, optD]
        · have hnx : ∀ a ∈ l.take (i + 1), s ≠ [] → deedTx a ≠ s := fun a ha h => by
            rw [List.take_succ_eq_append_getElem hlt] at ha
            rcases List.mem_append.1 ha with ha | ha
            · exact hall a ha h
            · rw [List.mem_singleton.1 ha]; exact he
          simp -dsimp [t0, t5, t7, hm, hlt, hs, hget]
          refine call_ hdt (by simp -dsimp) ?_
          simp -dsimp [t0, he, t7, wi, hmu1]
          exact ⟨i + 1, id, by simp -dsimp [t0], by simp -dsimp [t2], by simp -dsimp [m0], by simp -dsimp [t5], hid0, by simp -dsimp [hid], by simp -dsimp [hm], by simp -dsimp, by simp -dsimp [hmu], by omega, hnx, by simp⟩
    · rintro y ⟨i, id, t0, t2, m0, t5, hid0, hid, hm, t7, hmu, hi, hall, hend⟩
      have hil := hend rfl
      rw [hil, List.take_length] at hall
      rw [hno hall]
      have f0 := far (show 0 < y.n by omega)
      simp -dsimp [t2, m0, f0, optD]
  case neg =>
    have h2' : ¬ ((cutAt 32 s).length : Int) = 2 := by omega
    have hds := deedS_not h2
    generalize deedS s = l at *
    refine FnZ_of (rs := [.cell 2 35, .tmp 3]) false Tryz.func73 rfl rfl rfl rfl (Nat.le_of_ble_eq_true rfl) ?_
    simp -dsimp
    refine call_ hcut (by simp -dsimp) ?_
    simp -dsimp [h2, h2']
    refine twp_loopC (Isrd s l 0) (fun y => l.length - natOf (y.tm 7)) (Isrd s l 1) ?_ ?_ ?_
    · refine ⟨0, _, by simp -dsimp, by simp -dsimp, by simp -dsimp, by simp -dsimp; rfl, by simp -dsimp, by simp -dsimp, by simp -dsimp [hds], by simp -dsimp, by simp -dsimp, by omega, by simp, by simp⟩
    · rintro y ⟨i, id, t0, t2, m0, t5, hid0, hid, hm, t7, hmu, hi, hall, hend⟩
      by_cases hlt : i < l.length
      case neg =>
        simp -dsimp [t5, t7, hm, hlt]
        exact ⟨i, id, by simp -dsimp [t0], by simp -dsimp [t2], by simp -dsimp [m0], by simp -dsimp [t5], hid0, by simp -dsimp [hid], by simp -dsimp [hm], by simp -dsimp [t7], by simp -dsimp [hmu], hi, hall, fun _ => by omega⟩
      have hget : (l.map Deed.v)[i]? = some (l[i].v) := by simp [hlt]
      have wi : IntKind.wrap .i64 ((i : Int) + 1) = ((i + 1 : Nat) : Int) := by rw [w64 (by omega) (by omega)]; omega
      have hmu1 : l.length - (i + 1) < l.length - i := by omega
      have hdt := deedTextS_fn l[i] (hlen _ (List.getElem_mem _))
      have f0 := far (show 0 < y.n by omega)
      have f1 := far hid
      by_cases hs : s = []
      · have hnx : ∀ a ∈ l.take (i + 1), s ≠ [] → deedTx a ≠ s := fun a _ h => absurd hs h
        simp -dsimp [t0, t5, t7, hm, hlt, hs, wi, hmu1]
        exact ⟨i + 1, id, by simp -dsimp [t0, hs], by simp -dsimp [t2], by simp -dsimp [m0], by simp -dsimp [t5], hid0, by simp -dsimp [hid], by simp -dsimp [hm], by simp -dsimp, by simp -dsimp [hmu], by omega, fun a _ h => absurd rfl h, by simp⟩
      · by_cases he : deedTx l[i] = s
        · rw [hyes _ hs he]
          rw [he] at hdt
          simp -dsimp [t0, t5, t7, hm, hlt, hs, hget]
          refine call_ hdt (by simp -dsimp) ?_
          simp -dsimp [t0, t2, t5, t7, m0, hm, hget, hlt, f0, f1, optD]
        · have hnx : ∀ a ∈ l.take (i + 1), s ≠ [] → deedTx a ≠ s := fun a ha h => by
            rw [List.take_succ_eq_append_getElem hlt] at ha
            rcases List.mem_append.1 ha with ha | ha
            · exact hall a ha h
            · rw [List.mem_singleton.1 ha]; exact he
          simp -dsimp [t0, t5, t7, hm, hlt, hs, hget]
          refine call_ hdt (by simp -dsimp) ?_
          simp -dsimp [t0, he, t7, wi, hmu1]
          exact ⟨i + 1, id, by simp -dsimp [t0], by simp -dsimp [t2], by simp -dsimp [m0], by simp -dsimp [t5], hid0, by simp -dsimp [hid], by simp -dsimp [hm], by simp -dsimp, by simp -dsimp [hmu], by omega, hnx, by simp⟩
    · rintro y ⟨i, id, t0, t2, m0, t5, hid0, hid, hm, t7, hmu, hi, hall, hend⟩
      have hil := hend rfl
      rw [hil, List.take_length] at hall
      rw [hno hall]
      have f0 := far (show 0 < y.n by omega)
      simp -dsimp [t2, m0, f0, optD]
end TL

/- Journals are read: the reference. -/
set_option linter.unusedSimpArgs false
set_option linter.unusedVariables false
set_option maxRecDepth 100000
set_option maxHeartbeats 4000000
set_option pp.maxSteps 1500
namespace TL
open Go Go.Proofs
attribute [local simp] marksV storyV codeV Claim.v Place.v Deed.v
theorem deed_cells0 (a : Deed) : a.v.cells = [.int .i64 a.kind, .int .i64 a.num, .str a.words] := rfl
def Irs (s : List UInt8) (e : Nat) (y : S) : Prop := ∃ (l : List Deed) (mid rest : List UInt8) (id : Nat), y.tm 0 = .v (.str s) ∧ y.tm 4 = .loc id ∧ id < y.n ∧ y.m id = some (.arr 35 (l.map Deed.v)) ∧ y.tm 5 = .v (.int .i64 (jr l deedTx).length) ∧ y.tm 6 = .v (.int .i64 ((jr l deedTx).length + mid.length : Nat)) ∧ y.mu = false ∧
  s = jr l deedTx ++ (mid ++ rest) ∧ (∀ a ∈ l, deedTx a ≠ []) ∧ (∀ y ∈ mid, y ≠ 10) ∧ (e = 1 → rest = [])
theorem readJournalS_fn (s : List UInt8) (hl : s.length ≤ 2000000000) : FnZ Tryz.prog 45 [.str s] (.tup [.sl ((readJ s).1.map Deed.v), .int .i64 (readJ s).2]) := by
  generalize hJ : readJ s = J
  refine FnZ_of (rs := [.tmp 2, .tmp 3]) false Tryz.func45 rfl rfl rfl rfl (Nat.le_of_ble_eq_true rfl) ?_
  simp -dsimp
  refine twp_loopC (Irs s 0) (fun y => s.length - natOf (y.tm 6)) (Irs s 1) ?_ ?_ ?_
  · exact ⟨[], [], s, 0, by simp -dsimp, by simp -dsimp, by simp -dsimp, by simp -dsimp, by simp -dsimp [jr], by simp -dsimp [jr], by simp -dsimp, by simp [jr], by simp, by simp, by simp⟩
  · rintro y ⟨l, mid, rest, id, t0, t4, hid, hm, t5, t6, hmu, hs, hne, hmid, hend⟩
    have hlen : s.length = (jr l deedTx).length + (mid.length + rest.length) := by rw [hs]; simp
    have happ := readJ_app hne (mid ++ rest)
    rw [← hs, hJ] at happ
    have hjl := jr_long l
    have hdt : (s.take ((jr l deedTx).length + mid.length)).drop (jr l deedTx).length = mid := by
      rw [hs, ← List.append_assoc, List.take_left' (by simp), List.drop_left]
    have hget : s[(jr l deedTx).length + mid.length]? = rest.head? := by
      rw [hs, List.getElem?_append_right (by omega), List.getElem?_append_right (by omega)]
      have : (jr l deedTx).length + mid.length - (jr l deedTx).length - mid.length = 0 := by omega
      rw [this, List.head?_eq_getElem?]
    have hnext : ∀ a, deedTx a = mid → mid ≠ [] → jr (l ++ [a]) deedTx = jr l deedTx ++ (mid ++ [10]) := fun a h _ => by rw [jr_append, jr_cons, h]; simp [jr]
    generalize hF : (jr l deedTx).length = F at *
    cases rest with
    | nil =>
      have hlt : ¬ F + mid.length < s.length := by simp at hlen; omega
      have hlt' : ¬ ((F + mid.length : Nat) : Int) < s.length := by omega
      have hlt'' : ¬ (F : Int) + mid.length < s.length := by omega
      simp -dsimp [t0, t6, hlt, hlt', hlt'']
      exact ⟨l, mid, [], id, by simp -dsimp [t0], by simp -dsimp [t4], by simp -dsimp; omega, by simp -dsimp [hm], by simp -dsimp [t5, hF], by simp -dsimp [t6, hF], by simp -dsimp [hmu], hs, hne, hmid, fun _ => rfl⟩
    | cons c r =>
      simp only [List.length_cons] at hlen
      have hlt : F + mid.length < s.length := by omega
      have hlt' : ((F + mid.length : Nat) : Int) < s.length := by omega
      have hlt'' : (F : Int) + mid.length < s.length := by omega
      have hT : ((F : Int) + mid.length).toNat = F + mid.length := by omega
      have hT1 : ((F : Int) + mid.length + 1).toNat = F + mid.length + 1 := by omega
      have hle1 : (F : Int) ≤ (F : Int) + mid.length := by omega
      have hle2 : (F : Int) + mid.length ≤ s.length := by omega
      have hle3 : F + mid.length ≤ s.length := by omega
      have wi : IntKind.wrap .i64 ((F : Int) + mid.length + 1) = ((F + mid.length + 1 : Nat) : Int) := by rw [w64 (by omega) (by omega)]; omega
      have hmu1 : s.length - (F + mid.length + 1) < s.length - (F + mid.length) := by omega
      have z0 : (0 : Int) ≤ (F : Int) + mid.length := by omega
      simp only [List.head?_cons] at hget
      have hgE : s[F + mid.length]'hlt = c := Option.some.inj ((List.getElem?_eq_getElem hlt).symm.trans hget)
      have f1 := far hid
      by_cases hc : c = 10
      case neg =>
        have hc' : ¬ (c.toNat : Int) = 10 := fun e => hc (UInt8.toNat_inj.1 (by have : (10 : UInt8).toNat = 10 := rfl; omega))
        have hc'' : ¬ c.toNat = 10 := fun e => hc (UInt8.toNat_inj.1 (by have : (10 : UInt8).toNat = 10 := rfl; omega))
        simp -dsimp [t0, t4, t5, t6, hlt, hlt', hlt'', hT, hget, hgE, hc, hc', hc'', wi, hmu1, z0, hT1]
        refine ⟨l, mid ++ [c], r, id, by simp -dsimp [t0], by simp -dsimp [t4], by simp -dsimp; omega, by simp -dsimp [hm], by simp -dsimp [t5, hF], by simp -dsimp [hF]; omega, by simp -dsimp [hmu], by rw [hs]; simp, hne, fun y hy => ?_, by simp⟩
        rcases List.mem_append.1 hy with hy | hy
        · exact hmid y hy
        · rw [List.mem_singleton.1 hy]; exact hc
      subst hc
      have hrd := readDeedS_fn mid (by omega)
      have hcase : ∀ a, readD mid = some a → mid ≠ [] ∧ deedTx a = mid := fun a h => readD_is h
      cases ho : readD mid with
      | none =>
        rw [ho] at hrd
        rw [readJ_halt hmid ho] at happ
        simp only [List.append_nil, Nat.add_zero] at happ
        rw [happ]
        simp -dsimp [t0, t4, t5, t6, hlt, hlt', hlt'', hT, hget, hgE, wi, z0, hle1, hle2, hle3, hdt]
        refine call_ hrd (by simp -dsimp) ?_
        simp -dsimp [optD, t4, t5, hm, f1]
      | some a =>
        rw [ho] at hrd
        obtain ⟨hx, ha⟩ := hcase a ho
        have hj' := hnext a ha hx
        have hjl' : (jr (l ++ [a]) deedTx).length = F + mid.length + 1 := by rw [hj']; simp [hF]; omega
        have b1 : (l.length + 1) * 32 ≤ 140737488355328 := by omega
        simp -dsimp [t0, t4, t5, t6, hlt, hlt', hlt'', hT, hget, hgE, wi, z0, hle1, hle2, hle3, hdt]
        refine call_ hrd (by simp -dsimp) ?_
        simp -dsimp [optD, t4, t5, t6, hm, f1, hmu, b1, wi, hmu1, nes, hT, hT1]
        refine st_out fun s' ht hm' hn' hu' => ?_
        have a0 := ht 0
        have a4 := ht 4
        have a5 := ht 5
        have a6 := ht 6
        simp -dsimp [t0] at a0 a4 a5 a6 hm' hn' hu'
        clear ht
        refine ⟨l ++ [a], [], r, _, a0, a4, by omega, ?_, by rw [a5, hjl']; push_cast; rfl, by rw [a6, hjl']; push_cast; simp, by rw [hu', hmu], by rw [hs, hj']; simp, fun b hb => ?_, by simp, by simp⟩
        · simp [hm', nes, f1]
        · rcases List.mem_append.1 hb with hb | hb
          · exact hne b hb
          · rw [List.mem_singleton.1 hb, ha]; exact hx
  · rintro y ⟨l, mid, rest, id, t0, t4, hid, hm, t5, t6, hmu, hs, hne, hmid, hend⟩
    obtain rfl := hend rfl
    have happ := readJ_app hne (mid ++ [])
    rw [← hs, hJ, List.append_nil, readJ_clean hmid] at happ
    simp only [List.append_nil, Nat.add_zero] at happ
    rw [happ]
    simp -dsimp [t4, t5, hm]
end TL

/- Deeds, one after the other. -/
set_option linter.unusedSimpArgs false
set_option linter.unusedVariables false
set_option maxRecDepth 100000
set_option maxHeartbeats 4000000
set_option pp.maxSteps 1500
namespace TL
open Go Go.Proofs
attribute [local simp] marksV storyV codeV Claim.v Place.v Deed.v Desk.v
theorem words_short {a : Deed} (h : deedTx a ≠ []) : a.words.length ≤ 1000000000 := by
  rcases deed_cases h with ⟨w, rfl, ⟨d, hd⟩, _⟩ | ⟨n, h0, h9, rfl, _⟩ | ⟨n, h0, h9, rfl, _⟩ | ⟨rfl, _⟩ | ⟨rfl, _⟩
  · have := readC_len hd; simp only; omega
  · simp
  · simp
  · simp
  · simp
theorem copyDesk_v (d : Desk) (hd : d.small) (m : Mem) (n : Nat) : FnS Tryz.prog 67 m n [.v d.v] (Drawn (fun x => x = d.v) m n) := by
  refine Drawn_of ⟨_, Tryz.func67, rfl, rfl⟩ fun hfr => ?_
  refine (copyDesk_own d hd m n).weak ?_
  rintro t m' n' ⟨hn, hout, id, st, rfl, h0, h1, him, hst, hne⟩
  refine ⟨hn, ⟨d.v, ?_, rfl⟩, hout⟩
  have hb := hst.bor (n0 := n) (m' := m') (Nat.le_refl _) (fun i _ _ _ => rfl) 3
  have h0' : n ≤ id := h0
  simp [hb, him, h0']
theorem l15Copy_v (d : Desk) (hd : d.small) (m : Mem) (n : Nat) : FnS Tryz.prog 75 m n [.v d.v] (Drawn (fun x => x = d.v) m n) := by
  refine Drawn_of ⟨_, Tryz.func75, rfl, rfl⟩ fun hfr => ?_
  refine (l15Copy_own d hd m n).weak ?_
  rintro t m' n' ⟨hn, hout, st, rfl, hst⟩
  refine ⟨hn, ⟨d.v, ?_, rfl⟩, hout⟩
  have hb := hst.bor (n0 := n) (m' := m') (Nat.le_refl _) (fun i _ _ _ => rfl) 3
  simp [hb]
theorem doAll_succ {d : Desk} {l : List Deed} {i : Nat} (h : i < l.length) : doAll d (l.take (i + 1)) = doStep (doAll d (l.take i)) l[i] := by
  unfold doAll
  rw [List.take_succ_eq_append_getElem h, List.foldl_append]; rfl
noncomputable def Ida (d : Desk) (l : List Deed) (e : Nat) (s : S) : Prop := ∃ i : Nat, s.tm 2 = .ptr 0 0 ∧ s.tm 4 = .ptr 1 0 ∧ s.tm 6 = .v (.int .i64 (doAll d (l.take i)).2) ∧ s.tm 13 = .v (.sl (l.map Deed.v)) ∧ s.tm 14 = .v (.int .i64 l.length) ∧ s.tm 15 = .v (.int .i64 i) ∧ i ≤ l.length ∧ 2 ≤ s.n ∧
  s.m 0 = some (.box 53 3 [.v (.int .i64 (doAll d (l.take i)).1.now.people), .v (storyV (doAll d (l.take i)).1.now.story), .v (.sl ((doAll d (l.take i)).1.past.map Place.v))]) ∧ s.m 1 = some (.box 53 3 [.v (.int .i64 0), .nil, .nil]) ∧ (e = 1 → i = l.length)
theorem doAll_fn (d : Desk) (l : List Deed) (hk : deskOk d = true) (hl : l.length ≤ 1048576) (hw : ∀ a ∈ l, a.words.length ≤ 1000000000) : FnZ Tryz.prog 79 [d.v, .sl (l.map Deed.v)] (.tup [(doAll d l).1.v, .int .i64 (doAll d l).2]) := by
  have hcv := fun m n => copyDesk_v d (desk_fine hk).1 m n
  refine FnZ_of (rs := [.cell 4 53, .tmp 5]) false Tryz.func79 rfl rfl rfl rfl (Nat.le_of_ble_eq_true rfl) ?_
  simp -dsimp
  refine callL_ (vs := [d.v]) (hcv _ _) (by simp -dsimp) ?_
  rintro t m1 n1 ⟨hn1, ⟨x, rfl, rfl⟩, rfl⟩
  have f0 := far (show 0 < n1 by omega)
  have f1 := far (show 1 < n1 by omega)
  simp -dsimp [f0, f1]
  refine twp_loopC (Ida d l 0) (fun s => l.length - natOf (s.tm 15)) (Ida d l 1) ?_ ?_ ?_
  · exact ⟨0, by simp -dsimp, by simp -dsimp, by simp -dsimp [doAll], by simp -dsimp, by simp -dsimp, by simp -dsimp, by omega, (by simp -dsimp <;> omega), by simp -dsimp [doAll], by simp -dsimp, by simp⟩
  · rintro s ⟨i, t2, t4, t6, t13, t14, t15, hi, hn, m0, m1, hend⟩
    by_cases hlt : i < l.length
    case neg =>
      simp -dsimp [t14, t15, hlt]
      exact ⟨i, by simp -dsimp [t2], by simp -dsimp [t4], by simp -dsimp [t6], by simp -dsimp [t13], by simp -dsimp [t14], by simp -dsimp [t15], hi, by simp -dsimp; omega, by simp -dsimp [m0], by simp -dsimp [m1], fun _ => by omega⟩
    have hget : (l.map Deed.v)[i]? = some (l[i].v) := by simp [hlt]
    have wi : IntKind.wrap .i64 ((i : Int) + 1) = ((i + 1 : Nat) : Int) := by rw [w64 (by omega) (by omega)]; omega
    have hmu1 : l.length - (i + 1) < l.length - i := by omega
    have f0 := far (show 0 < s.n by omega)
    have f1 := far (show 1 < s.n by omega)
    have hD := doAll_ok (l.take i) d hk
    have hcall := deskDo_fn (doAll d (l.take i)).1 l[i] (desk_fine hD).1 (hw _ (List.getElem_mem _))
    have hs := doAll_succ (d := d) hlt
    have hcnt := doAll_len (l.take i) d
    have hcl : (l.take i).length ≤ i := by simp; omega
    have wc : IntKind.wrap .i64 (((doAll d (l.take i)).2 : Int) + 1) = (((doAll d (l.take i)).2 + 1 : Nat) : Int) := by rw [w64 (by omega) (by omega)]; omega
    have hyes : (deskDo (doAll d (l.take i)).1 l[i]).2 = true → doAll d (l.take (i + 1)) = ((deskDo (doAll d (l.take i)).1 l[i]).1, (doAll d (l.take i)).2 + 1) := fun h => by rw [hs]; exact if_pos h
    have hno : (deskDo (doAll d (l.take i)).1 l[i]).2 = false → doAll d (l.take (i + 1)) = doAll d (l.take i) := fun h => by rw [hs]; exact if_neg (by simp [h])
    clear hs hD hcnt hcl
    generalize deskDo (doAll d (l.take i)).1 l[i] = E at *
    generalize doAll d (l.take i) = R at *
    obtain ⟨⟨⟨E1, E2⟩, E3⟩, E4⟩ := E
    obtain ⟨⟨⟨D1, D2⟩, D3⟩, c⟩ := R
    generalize hx : l[i] = a at *
    obtain ⟨a1, a2, a3⟩ := a
    simp only at t6 m0 hcall wc hyes hno
    simp -dsimp [t2, t13, t14, t15, hlt, hget, m0, f0, f1, nes, hx]
    refine call_ hcall (by simp -dsimp) ?_
    cases E4 with
    | false =>
      have hR := hno rfl
      simp -dsimp [t2, t6, t15, m0, f0, f1, nes, wi, hmu1]
      exact ⟨i + 1, by simp -dsimp [t2], by simp -dsimp [t4], by simp -dsimp [t6, hR], by simp -dsimp [t13], by simp -dsimp [t14], by simp -dsimp, by omega, (by simp -dsimp <;> omega), by simp -dsimp [m0, f0, f1, hR], by simp -dsimp [m1, f0, f1], by simp⟩
    | true =>
      have hR := hyes rfl
      simp -dsimp [t2, t6, t15, m0, f0, f1, nes, wi, hmu1, wc]
      exact ⟨i + 1, by simp -dsimp [t2], by simp -dsimp [t4], by simp -dsimp [hR], by simp -dsimp [t13], by simp -dsimp [t14], by simp -dsimp, by omega, (by simp -dsimp <;> omega), by simp -dsimp [f0, f1, hR], by simp -dsimp [m1, f0, f1], by simp⟩
  · rintro s ⟨i, t2, t4, t6, t13, t14, t15, hi, hn, m0, m1, hend⟩
    have := hend rfl
    subst this
    rw [List.take_length] at m0 t6
    generalize doAll d l = R at *
    obtain ⟨⟨⟨D1, D2⟩, D3⟩, c⟩ := R
    simp -dsimp [t2, t4, t6, m0, m1]
noncomputable def Ir15 (d : Desk) (l : List Deed) (q : Nat) (e : Nat) (s : S) : Prop := ∃ i : Nat, s.tm 1 = .v (.sl (l.map Deed.v)) ∧ s.tm 4 = .ptr 1 0 ∧ s.tm 6 = .ptr q 0 ∧ s.tm 7 = .v (.int .i64 (doAll d (l.take i)).2) ∧ s.tm 8 = .v (.int .i64 i) ∧ i ≤ l.length ∧ q < s.n ∧
  s.m q = some (.box 53 3 [.v (.int .i64 (doAll d (l.take i)).1.now.people), .v (storyV (doAll d (l.take i)).1.now.story), .v (.sl ((doAll d (l.take i)).1.past.map Place.v))]) ∧ s.m 1 = some (.box 53 3 [.v (.int .i64 0), .nil, .nil]) ∧ (e = 1 → i = l.length)
theorem doAllS_fn (d : Desk) (l : List Deed) (hk : deskOk d = true) (hl : l.length ≤ 1048576) (hw : ∀ a ∈ l, a.words.length ≤ 1000000000) : FnZ Tryz.prog 72 [d.v, .sl (l.map Deed.v)] (.tup [(doAll d l).1.v, .int .i64 (doAll d l).2]) := by
  have hcv := fun m n => l15Copy_v d (desk_fine hk).1 m n
  refine FnZ_of (rs := [.cell 4 53, .tmp 5]) false Tryz.func72 rfl rfl rfl rfl (Nat.le_of_ble_eq_true rfl) ?_
  simp -dsimp
  refine callL_ (vs := [d.v]) (hcv _ _) (by simp -dsimp) ?_
  rintro t m1 q ⟨hn1, ⟨x, rfl, rfl⟩, rfl⟩
  have q1 : ¬ q = 1 := by omega
  have f0 := far (show 0 < q by omega)
  have f1 := far (show 1 < q by omega)
  simp -dsimp [f0, f1]
  refine twp_loopC (Ir15 d l q 0) (fun s => l.length - natOf (s.tm 8)) (Ir15 d l q 1) ?_ ?_ ?_
  · exact ⟨0, by simp -dsimp, by simp -dsimp, by simp -dsimp, by simp -dsimp [doAll], by simp -dsimp, by omega, (by simp -dsimp <;> omega), by simp -dsimp [doAll], by simp -dsimp [f1], by simp⟩
  · rintro s ⟨i, t1, t4, t6, t7, t8, hi, hn, m0, m1, hend⟩
    by_cases hlt : i < l.length
    case neg =>
      simp -dsimp [t1, t8, hlt]
      exact ⟨i, by simp -dsimp [t1], by simp -dsimp [t4], by simp -dsimp [t6], by simp -dsimp [t7], by simp -dsimp [t8], hi, by simp -dsimp; omega, by simp -dsimp [m0], by simp -dsimp [m1], fun _ => by omega⟩
    have hget : (l.map Deed.v)[i]? = some (l[i].v) := by simp [hlt]
    have wi : IntKind.wrap .i64 ((i : Int) + 1) = ((i + 1 : Nat) : Int) := by rw [w64 (by omega) (by omega)]; omega
    have hmu1 : l.length - (i + 1) < l.length - i := by omega
    have f0 := far (show q < s.n by omega)
    have f1 := far (show 1 < s.n by omega)
    have hD := doAll_ok (l.take i) d hk
    have hcall := deskDoS_fn (doAll d (l.take i)).1 l[i] (desk_fine hD).1 (desk_fine hD).2.1 (hw _ (List.getElem_mem _))
    have hs := doAll_succ (d := d) hlt
    have hcnt := doAll_len (l.take i) d
    have hcl : (l.take i).length ≤ i := by simp; omega
    have wc : IntKind.wrap .i64 (((doAll d (l.take i)).2 : Int) + 1) = (((doAll d (l.take i)).2 + 1 : Nat) : Int) := by rw [w64 (by omega) (by omega)]; omega
    have hyes : (deskDo (doAll d (l.take i)).1 l[i]).2 = true → doAll d (l.take (i + 1)) = ((deskDo (doAll d (l.take i)).1 l[i]).1, (doAll d (l.take i)).2 + 1) := fun h => by rw [hs]; exact if_pos h
    have hno : (deskDo (doAll d (l.take i)).1 l[i]).2 = false → doAll d (l.take (i + 1)) = doAll d (l.take i) := fun h => by rw [hs]; exact if_neg (by simp [h])
    clear hs hD hcnt hcl
    generalize deskDo (doAll d (l.take i)).1 l[i] = E at *
    generalize doAll d (l.take i) = R at *
    obtain ⟨⟨⟨E1, E2⟩, E3⟩, E4⟩ := E
    obtain ⟨⟨⟨D1, D2⟩, D3⟩, c⟩ := R
    generalize hx : l[i] = a at *
    obtain ⟨a1, a2, a3⟩ := a
    simp only at t7 m0 hcall wc hyes hno
    simp -dsimp [t1, t8, hlt]
    refine twp_drawT (.run [0, 1, 2, 3, 4] (.alt (.run [5, 6, 7, 8, 9, 10, 11] .done) (.run [9, 5, 6, 7, 8, 10, 11] .done))) [q] (List.replicate 12 [0]) (List.replicate 12 [0]) (by kernel_rfl) (by kernel_rfl) (by kernel_rfl) (by kernel_rfl) ?_
    simp -dsimp [t1, t6, t8, hlt, hget, m0, f0, f1, nes, hx]
    refine ordT_both ?_ ?_
    · simp -dsimp [t1, t6, t8, hlt, hget, m0, f0, f1, nes, hx]
      refine call_ hcall (by simp -dsimp) ?_
      cases E4 with
      | false =>
        have hR := hno rfl
        simp -dsimp [t1, t6, t7, t8, m0, f0, f1, nes, wi, hmu1]
        exact ⟨i + 1, by simp -dsimp [t1], by simp -dsimp [t4], by simp -dsimp [t6], by simp -dsimp [t7, hR], by simp -dsimp, by omega, (by simp -dsimp <;> omega), by simp -dsimp [m0, f0, f1, hR], by simp -dsimp [m1, f0, f1], by simp⟩
      | true =>
        have hR := hyes rfl
        have q1' : ¬ 1 = q := by omega
        simp -dsimp [t1, t6, t7, t8, m0, f0, f1, nes, wi, hmu1, wc]
        exact ⟨i + 1, by simp -dsimp [t1], by simp -dsimp [t4], by simp -dsimp [t6], by simp -dsimp [hR], by simp -dsimp, by omega, (by simp -dsimp <;> omega), by simp -dsimp [f0, f1, hR], by simp -dsimp [m1, f0, f1, q1, q1'], by simp⟩
    · simp -dsimp [t1, t6, t8, hlt, hget, m0, f0, f1, nes, hx]
      refine call_ hcall (by simp -dsimp) ?_
      cases E4 with
      | false =>
        have hR := hno rfl
        simp -dsimp [t1, t6, t7, t8, m0, f0, f1, nes, wi, hmu1]
        exact ⟨i + 1, by simp -dsimp [t1], by simp -dsimp [t4], by simp -dsimp [t6], by simp -dsimp [t7, hR], by simp -dsimp, by omega, (by simp -dsimp <;> omega), by simp -dsimp [m0, f0, f1, hR], by simp -dsimp [m1, f0, f1], by simp⟩
      | true =>
        have hR := hyes rfl
        have q1' : ¬ 1 = q := by omega
        simp -dsimp [t1, t6, t7, t8, m0, f0, f1, nes, wi, hmu1, wc]
        exact ⟨i + 1, by simp -dsimp [t1], by simp -dsimp [t4], by simp -dsimp [t6], by simp -dsimp [hR], by simp -dsimp, by omega, (by simp -dsimp <;> omega), by simp -dsimp [f0, f1, hR], by simp -dsimp [m1, f0, f1, q1, q1'], by simp⟩
  · rintro s ⟨i, t1, t4, t6, t7, t8, hi, hn, m0, m1, hend⟩
    have := hend rfl
    subst this
    rw [List.take_length] at m0 t7
    generalize doAll d l = R at *
    obtain ⟨⟨⟨D1, D2⟩, D3⟩, c⟩ := R
    simp -dsimp [t4, t6, t7, m0, m1, q1]
end TL

/- Stores: mended, opened, acted at: the reference. -/
set_option linter.unusedSimpArgs false
set_option linter.unusedVariables false
set_option maxRecDepth 100000
set_option maxHeartbeats 4000000
set_option pp.maxSteps 1500
namespace TL
open Go Go.Proofs
attribute [local simp] marksV storyV codeV Claim.v Place.v Store.v Desk.v Deed.v
theorem storeMendS_fn (s : Store) (h : s.small) : FnZ Tryz.prog 13 [s.v] (.tup [(storeMend s).v, .bool (storeOk s)]) := by
  have ho := storeOkS_fn s h
  have hj := readJournalS_fn s.log h.2
  have hle := readJ_le s.log
  have hk := ft (storeOk s)
  unfold storeMend
  generalize storeOk s = o at *
  generalize readJ s.log = J at *
  obtain ⟨s1, s2, s3⟩ := s
  obtain ⟨J1, J2⟩ := J
  simp only at hle hj ⊢
  have hle' : (J2 : Int) ≤ s2.length := by omega
  refine FnZ_of (rs := [.cell 2 25, .tmp 3]) false Tryz.func13 rfl rfl rfl rfl (Nat.le_of_ble_eq_true rfl) ?_
  simp -dsimp
  refine call_ ho (by simp -dsimp) ?_
  rcases hk with rfl | rfl
  · simp -dsimp [noStore]
  · simp -dsimp
    refine call_ hj (by simp -dsimp) ?_
    simp -dsimp [hle, hle']
    refine twp_draw (List.range 13) [0, 1] (List.replicate 13 [0]) (List.replicate 11 [0, 1] ++ [[0], [0, 1]]) (by kernel_rfl) (by kernel_rfl) (by kernel_rfl) (by kernel_rfl) ?_
    simp -dsimp [List.range_succ, hle, hle']
theorem storeOpenS_fn (s : Store) (h : s.small) : FnZ Tryz.prog 42 [s.v] (.tup [(storeOpen s).v, .bool (storeOk s)]) := by
  have ho := storeOkS_fn s h
  have hk := ft (storeOk s)
  rcases hk with hk | hk
  · unfold storeOpen
    rw [if_neg (by simp [hk])]
    rw [hk] at ho ⊢
    obtain ⟨s1, s2, s3⟩ := s
    refine FnZ_of (rs := [.cell 2 53, .tmp 3]) false Tryz.func42 rfl rfl rfl rfl (Nat.le_of_ble_eq_true rfl) ?_
    simp -dsimp
    refine call_ ho (by simp -dsimp) ?_
    simp -dsimp [noDeskV]
  have hr := readPlaceS_fn s.saved h.1
  have hj := readJournalS_fn s.log h.2
  have hp := placeOf_ok (storeOk_iff.1 hk).1
  rw [hp.2.2] at hr
  have hw : ∀ a ∈ (readJ s.log).1, a.words.length ≤ 1000000000 := fun a ha => words_short (readJ_all _ a ha)
  have hd := doAllS_fn ⟨placeOf s, []⟩ (readJ s.log).1 (desk_new hp.1) (by have := readJ_many s.log; have := (storeOk_iff.1 hk).2.1; omega) hw
  unfold storeOpen opened
  rw [if_pos hk]
  rw [hk] at ho ⊢
  generalize doAll ⟨placeOf s, []⟩ (readJ s.log).1 = R at *
  generalize readJ s.log = J at *
  generalize placeOf s = p at *
  clear hk hp
  obtain ⟨s1, s2, s3⟩ := s
  obtain ⟨J1, J2⟩ := J
  obtain ⟨⟨⟨R1, R2⟩, R3⟩, R4⟩ := R
  obtain ⟨p1, p2⟩ := p
  simp only at hr hj hd ⊢
  refine FnZ_of (rs := [.cell 2 53, .tmp 3]) false Tryz.func42 rfl rfl rfl rfl (Nat.le_of_ble_eq_true rfl) ?_
  simp -dsimp
  refine call_ ho (by simp -dsimp) ?_
  simp -dsimp
  refine call_ hr (by simp -dsimp) ?_
  simp -dsimp [optP]
  refine call_ hj (by simp -dsimp) ?_
  simp -dsimp
  refine call_ hd (by simp -dsimp) ?_
  simp -dsimp
theorem storeActS_fn (s : Store) (a : Deed) (h : s.small) (ha : a.words.length ≤ 1000000000) : FnZ Tryz.prog 18 [s.v, a.v] (.tup [(storeAct s a).v, .bool (actOk s a)]) := by
  have ho := storeOkS_fn s h
  have hk := ft (storeOk s)
  rcases hk with hk | hk
  · obtain ⟨e1, e2⟩ := storeAct_out (a := a) hk
    rw [e1, e2]
    rw [hk] at ho
    obtain ⟨s1, s2, s3⟩ := s
    obtain ⟨a1, a2, a3⟩ := a
    refine FnZ_of (rs := [.cell 4 25, .tmp 5]) false Tryz.func18 rfl rfl rfl rfl (Nat.le_of_ble_eq_true rfl) ?_
    simp -dsimp
    refine call_ ho (by simp -dsimp) ?_
    simp -dsimp [noStore]
  have hj := readJournalS_fn s.log h.2
  have hop := storeOpenS_fn s h
  have eo : storeOpen s = opened s := if_pos hk
  rw [eo, hk] at hop
  have hd := deskDoS_fn (opened s) a (desk_fine (opened_ok hk)).1 (desk_fine (opened_ok hk)).2.1 ha
  have ht := deedTextS_fn a (by omega)
  have htl := deedTx_len a
  have hll := (storeOk_iff.1 hk).2.1
  have hA : actOk s a = (decide ((readJ s.log).2 = s.log.length) && (deskDo (opened s) a).2 && !decide (deedTx a = []) && decide (s.log.length + (deedTx a).length + 1 ≤ 1000)) := by unfold actOk; rw [hk]; rfl
  unfold storeAct
  rw [hA, hk]
  rw [hk] at ho
  clear hA eo
  generalize deskDo (opened s) a = E at *
  generalize opened s = D at *
  generalize deedTx a = tx at *
  generalize readJ s.log = J at *
  clear hk h ha
  obtain ⟨s1, s2, s3⟩ := s
  obtain ⟨a1, a2, a3⟩ := a
  obtain ⟨J1, J2⟩ := J
  obtain ⟨⟨D1, D2⟩, D3⟩ := D
  obtain ⟨⟨⟨E1, E2⟩, E3⟩, E4⟩ := E
  simp only at hj hd hll ⊢
  have b1 : (s2.length : Int) + tx.length ≤ 9223372036854775807 := by omega
  have b2 : (s2.length : Int) + (tx.length + 1) ≤ 9223372036854775807 := by omega
  have b3 : (s2.length : Int) + tx.length + 1 ≤ 9223372036854775807 := by omega
  have w1 : IntKind.wrap .i64 ((s2.length : Int) + tx.length) = (s2.length : Int) + tx.length := w64 (by omega) (by omega)
  have w2 : IntKind.wrap .i64 ((s2.length : Int) + tx.length + 1) = (s2.length : Int) + tx.length + 1 := w64 (by omega) (by omega)
  refine FnZ_of (rs := [.cell 4 25, .tmp 5]) false Tryz.func18 rfl rfl rfl rfl (Nat.le_of_ble_eq_true rfl) ?_
  simp -dsimp
  refine call_ ho (by simp -dsimp) ?_
  simp -dsimp
  refine call_ hj (by simp -dsimp) ?_
  simp -dsimp
  refine call_ hop (by simp -dsimp) ?_
  simp -dsimp
  refine call_ hd (by simp -dsimp) ?_
  simp -dsimp
  refine call_ ht (by simp -dsimp) ?_
  by_cases q1 : J2 = s2.length
  case neg =>
    have q1' : ¬ (J2 : Int) = s2.length := by omega
    simp -dsimp [q1, q1']
  have q1' : (J2 : Int) = s2.length := by omega
  cases E4 with
  | false => simp -dsimp [q1, q1']
  | true =>
    by_cases q2 : tx = []
    · simp -dsimp [q1, q1', q2]
    by_cases q3 : s2.length + tx.length + 1 ≤ 1000
    · have q3' : ¬ (1000 : Int) < (s2.length : Int) + (tx.length + 1) := by omega
      have q3'' : ¬ (1000 : Int) < (s2.length : Int) + tx.length + 1 := by omega
      simp -dsimp [q1, q1', q2, q3, q3', q3'', w1, w2, b1, b2, b3]
    · have q3' : (1000 : Int) < (s2.length : Int) + (tx.length + 1) := by omega
      have q3'' : (1000 : Int) < (s2.length : Int) + tx.length + 1 := by omega
      simp -dsimp [q1, q1', q2, q3, q3', q3'', w1, w2, b1, b2, b3]
end TL

/- Places' texts are read. -/
set_option linter.unusedSimpArgs false
set_option linter.unusedVariables false
set_option maxRecDepth 100000
set_option maxHeartbeats 4000000
set_option pp.maxSteps 1500
namespace TL
open Go Go.Proofs
attribute [local simp] marksV storyV codeV Claim.v Place.v
theorem placeTx_len (p : Place) : (placeTx p).length ≤ 28 * p.story.length + 40 := by
  have hk := ft (placeOk p)
  rcases hk with hk | hk
  · rw [placeTx_no hk]; simp
  · rw [placeTx_shape hk]
    have := storyTx_len p.people p.story
    unfold restTx
    split
    · simp
    · simp only [List.length_cons]; omega
end TL

/- Texts that are spoilt. -/
set_option linter.unusedSimpArgs false
set_option linter.unusedVariables false
set_option maxRecDepth 100000
set_option maxHeartbeats 4000000
set_option pp.maxSteps 1500
namespace TL
open Go Go.Proofs
attribute [local simp] marksV storyV codeV Claim.v Place.v Deed.v
/-! Texts that are spoilt. -/
def SomeStr (x : V) : Prop := ∃ s : List UInt8, s.length ≤ 2000 ∧ x = .str s
theorem spoil_strs : ∃ vs : List V, vs = [.str [], .str [48], .str [32], .str [10], .str [49], .str [98, 97, 99, 107]] ∧ ∀ r : Int, 0 ≤ r → r < 6 → ∃ x : List UInt8, x.length ≤ 4 ∧ vs[r.toNat]? = some (.str x) := by
  refine ⟨_, rfl, fun r h0 h6 => ?_⟩
  have : r = 0 ∨ r = 1 ∨ r = 2 ∨ r = 3 ∨ r = 4 ∨ r = 5 := by omega
  rcases this with rfl | rfl | rfl | rfl | rfl | rfl
  · exact ⟨[], by simp, rfl⟩
  · exact ⟨[48], by simp, rfl⟩
  · exact ⟨[32], by simp, rfl⟩
  · exact ⟨[10], by simp, rfl⟩
  · exact ⟨[49], by simp, rfl⟩
  · exact ⟨[98, 97, 99, 107], by simp, rfl⟩
theorem spoil_z (bs : List UInt8) (p : Nat) (hp : p < 600000000) (s : List UInt8) (hs : s.length ≤ 1500) (m : Mem) (n rid : Nat) (hr : rid < n) (hm : m rid = some (rdB bs p)) :
    FnS Tryz.prog 82 m n [.ptr rid 0, .v (.str s)] (Draws SomeStr 10 m n rid bs p) := by
  refine Draws_of hr ⟨_, Tryz.func82, rfl, rfl⟩ fun hfr => ?_
  obtain ⟨vs, hvs, hel⟩ := spoil_strs
  refine FnS_of (rs := [.tmp 4]) false Tryz.func82 rfl rfl rfl rfl (Nat.le_of_ble_eq_true rfl) ?_
  have f1 := far hr
  by_cases h0 : s = []
  · simp -dsimp [h0]
    refine ⟨by omega, ⟨_, by simp, [10], by simp, rfl⟩, fun j j1 j2 => ?_, p, by omega, by omega, by simp [hm]⟩
    simp
  have hl0 : ¬ (s.length : Int) = 0 := fun h => h0 (List.length_eq_zero_iff.1 (by omega))
  have hl1 : 0 < s.length := List.length_pos_iff.2 h0
  simp -dsimp [h0, hl0]
  refine callS_ (pick_at bs p (by omega) _ _ _ rid (by simp [hm])) ?_
  rintro t m1 n1 ⟨hn1, ⟨k, rfl, hk0, hk1⟩, rfl⟩
  have hk1 := hk1 (by omega)
  have hkl : k ≤ (s.length : Int) := by omega
  have f2 := far (show rid < n1 by omega)
  simp -dsimp
  refine twp_draw [0, 1, 2, 4, 9, 10, 11, 12, 1003, 5, 6, 7, 8, 13, 14] [] (List.replicate 15 []) (List.replicate 15 []) (by kernel_rfl) (by kernel_rfl) (by kernel_rfl) (by kernel_rfl) ?_
  have w1 : IntKind.wrap .i64 (k + 1) = k + 1 := w64 (by omega) (by omega)
  have z0 : 0 ≤ k + 1 := by omega
  have z1 : k + 1 ≤ (s.length : Int) := by omega
  simp -dsimp [List.range_succ, f1, f2, hk0, hkl, w1, z0, z1]
  refine bld_ [(0, .str []), (1, .str [48]), (2, .str [32]), (3, .str [10]), (4, .str [49]), (5, .str [98, 97, 99, 107])] 9 vs (by simp -dsimp) (by rw [hvs]; simp -dsimp) ?_
  clear hvs
  simp -dsimp [List.range_succ, f1, f2, hk0, hkl, w1, z0, z1]
  refine callS_ (pick_at bs (p + 1) (by omega) _ _ _ rid (by simp [f1, f2])) ?_
  rintro t m2 n2 ⟨hn2, ⟨r2, rfl, hr20, hr21⟩, rfl⟩
  have hr21 := hr21 (by decide)
  refine (hel r2 hr20 hr21).elim fun x hx => ?_
  have hx1 := hx.1
  have hx2 := hx.2
  have hm1 : min k.toNat s.length = k.toNat := by omega
  have b1 : ((min k.toNat s.length : Nat) : Int) + x.length ≤ 9223372036854775807 := by omega
  have b2 : ((min k.toNat s.length : Nat) : Int) + x.length + ((s.length - (k + 1).toNat : Nat) : Int) ≤ 9223372036854775807 := by omega
  have b3 : ((min k.toNat s.length : Nat) : Int) + (x.length + ((s.length - (k + 1).toNat : Nat) : Int)) ≤ 9223372036854775807 := by omega
  simp -dsimp [List.range_succ, hr20, hx2, b1, b2, b3]
  refine ⟨by omega, ⟨_, by simp, s.take k.toNat ++ (x ++ s.drop (k + 1).toNat), by simp; omega, rfl⟩, fun j j1 j2 => ?_, p + 1 + 1, by omega, by omega, by simp⟩
  simp [far j1, j2]
end TL

/- Drawn deeds. -/
set_option linter.unusedSimpArgs false
set_option linter.unusedVariables false
set_option maxRecDepth 100000
set_option maxHeartbeats 4000000
set_option pp.maxSteps 1500
namespace TL
open Go Go.Proofs
attribute [local simp] marksV storyV codeV Claim.v Place.v Deed.v
def SomeDeed (x : V) : Prop := ∃ a : Deed, a.words.length ≤ 200 ∧ x = a.v
theorem deed_kinds : ∃ vs : List V, vs = [.int .i64 0, .int .i64 0, .int .i64 0, .int .i64 1, .int .i64 2, .int .i64 3, .int .i64 4] ∧ ∀ r : Int, 0 ≤ r → r < 7 → ∃ k : Int, 0 ≤ k ∧ k ≤ 4 ∧ vs[r.toNat]? = some (.int .i64 k) := by
  refine ⟨_, rfl, fun r h0 h6 => ?_⟩
  have : r = 0 ∨ r = 1 ∨ r = 2 ∨ r = 3 ∨ r = 4 ∨ r = 5 ∨ r = 6 := by omega
  rcases this with rfl | rfl | rfl | rfl | rfl | rfl | rfl
  · exact ⟨0, by omega, by omega, rfl⟩
  · exact ⟨0, by omega, by omega, rfl⟩
  · exact ⟨0, by omega, by omega, rfl⟩
  · exact ⟨1, by omega, by omega, rfl⟩
  · exact ⟨2, by omega, by omega, rfl⟩
  · exact ⟨3, by omega, by omega, rfl⟩
  · exact ⟨4, by omega, by omega, rfl⟩
def DI (m0 : Mem) (n0 rid : Nat) (bs : List UInt8) (p : Nat) (q : Place) (s : S) : Prop := ∃ (kind : Int) (id p' : Nat), s.tm 0 = .ptr rid 0 ∧ s.tm 3 = .ptr n0 0 ∧ s.tm 4 = .ptr (n0 + 1) 0 ∧ s.tm 5 = .ptr id 0 ∧ s.mu = false ∧ n0 + 1 < id ∧ id < s.n ∧
  s.m n0 = some (.box 48 2 [.v (.int .i64 q.people), .v (storyV q.story)]) ∧ s.m (n0 + 1) = some (.box 35 3 [.v (.int .i64 0), .v (.int .i64 0), .v (.str [])]) ∧
  s.m id = some (.box 35 3 [.v (.int .i64 kind), .v (.int .i64 0), .v (.str [])]) ∧ s.m rid = some (rdB bs p') ∧ p ≤ p' ∧ p' ≤ p + 2 ∧ (∀ j, j < n0 → j ≠ rid → s.m j = m0 j)
def DI2 (m0 : Mem) (n0 rid : Nat) (bs : List UInt8) (p : Nat) (s : S) : Prop := ∃ (kind num : Int) (words : List UInt8) (id p' : Nat), s.tm 0 = .ptr rid 0 ∧ s.tm 4 = .ptr (n0 + 1) 0 ∧ s.tm 5 = .ptr id 0 ∧ s.mu = false ∧ n0 + 1 < id ∧ id < s.n ∧
  s.m (n0 + 1) = some (.box 35 3 [.v (.int .i64 0), .v (.int .i64 0), .v (.str [])]) ∧
  s.m id = some (.box 35 3 [.v (.int .i64 kind), .v (.int .i64 num), .v (.str words)]) ∧ words.length ≤ 100 ∧ s.m rid = some (rdB bs p') ∧ p ≤ p' ∧ p' ≤ p + 60 ∧ (∀ j, j < n0 → j ≠ rid → s.m j = m0 j)
theorem sixty {r : Int} (h0 : 0 ≤ r) (h : r < 60) : ∃ k : Int, r.tdiv 59 = k ∧ 0 ≤ k ∧ k ≤ 1 := ⟨_, rfl, by rw [Int.tdiv_eq_ediv_of_nonneg h0]; omega, by rw [Int.tdiv_eq_ediv_of_nonneg h0]; omega⟩
theorem deed_zX (bs : List UInt8) (p : Nat) (hp : p < 600000000) (q : Place) (hq : q.story.length ≤ 1000) (X : T) (hX : X.cells = [.v (.int .i64 q.people), .v (storyV q.story)]) (m : Mem) (n rid : Nat) (hr : rid < n) (hm : m rid = some (rdB bs p)) :
    FnS Tryz.prog 66 m n [.ptr rid 0, X] (Draws SomeDeed 100 m n rid bs p) := by
  refine Draws_of hr ⟨_, Tryz.func66, rfl, rfl⟩ fun hfr => ?_
  obtain ⟨vs, hvs, hel⟩ := deed_kinds
  refine FnS_of (rs := [.cell 4 35]) false Tryz.func66 rfl rfl rfl rfl (Nat.le_of_ble_eq_true rfl) ?_
  have f1 := far hr
  simp -dsimp [hX]
  refine twp_cutQ (DI m n rid bs p q) ?_ ?_
  · refine twp_drawT (.run [1, 5, 1000] (.alt (.run [11, 2, 3, 4, 6, 7, 8, 9, 10, 12] .done) (.run [2, 3, 4] (.alt (.run [11, 6, 7, 8, 9, 10, 12] .done) (.run [6, 7, 8, 9, 10, 11, 12] .done))))) [] (List.replicate 13 []) (List.replicate 13 []) (by kernel_rfl) (by kernel_rfl) (by kernel_rfl) (by kernel_rfl) ?_
    simp -dsimp [List.range_succ, f1]
    refine bld_ [(0, .int .i64 0), (1, .int .i64 0), (2, .int .i64 0), (3, .int .i64 1), (4, .int .i64 2), (5, .int .i64 3), (6, .int .i64 4)] 3 vs (by simp -dsimp) (by rw [hvs]; simp -dsimp) ?_
    clear hvs
    simp -dsimp [List.range_succ, f1]
    refine ordT_both ?_ ?_
    · simp -dsimp [List.range_succ, f1]
      refine callS_ (pick_at bs p (by omega) _ _ _ rid (by simp [hm, f1])) ?_
      rintro t m1 n1 ⟨hn1, ⟨r, rfl, hr0, hr1⟩, rfl⟩
      have hr1 := hr1 (by decide)
      refine (hel r hr0 hr1).elim fun k hk => ?_
      have k0 := hk.1
      have k4 := hk.2.1
      have kg := hk.2.2
      have g1 := far (show rid < n1 by omega)
      simp -dsimp [List.range_succ, f1, hr0, kg]
      refine callS_ (pick_at bs (p + 1) (by omega) _ _ _ rid (by simp [f1, g1])) ?_
      rintro t m2 n2 ⟨hn2, ⟨r2, rfl, hr20, hr21⟩, rfl⟩
      have hr21 := hr21 (by decide)
      refine (sixty hr20 hr21).elim fun k2 hk2 => ?_
      have e2 := hk2.1
      have e20 := hk2.2.1
      have e21 := hk2.2.2
      have w1 : IntKind.wrap .i64 k2 = k2 := w64 (by omega) (by omega)
      have w2 : IntKind.wrap .i64 (k2 * 5) = k2 * 5 := w64 (by omega) (by omega)
      have w3 : IntKind.wrap .i64 (k + k2 * 5) = k + k2 * 5 := w64 (by omega) (by omega)
      have g2 := far (show rid < n2 by omega)
      have g3 := far (show n < n2 by omega)
      have g4 := far (show n + 1 < n2 by omega)
      have g5 := far (show n < n1 by omega)
      have g6 := far (show n + 1 < n1 by omega)
      have g7 := far (show n < n + 1 + 1 by omega)
      have g8 := far (show n + 1 < n + 1 + 1 by omega)
      simp -dsimp [List.range_succ, f1, g1, g2, g3, g4, e2, w1, w2, w3]
      refine ⟨k + k2 * 5, n + 1 + 1, p + 1 + 1, by simp -dsimp, by simp -dsimp, by simp -dsimp, by simp -dsimp, by simp -dsimp, by omega, by simp -dsimp <;> omega, by simp -dsimp [f1, g1, g2, g3, g4, g5, g6, g7, g8], by simp -dsimp [f1, g1, g2, g3, g4, g5, g6, g7, g8], by simp -dsimp [f1, g1, g2, g3, g4, g5, g6, g7, g8], by simp -dsimp [f1, g1, g2, g3, g4, g5, g6, g7, g8], by omega, by omega, fun j j1 j2 => ?_⟩
      simp -dsimp [far j1, far (show j < n1 by omega), far (show j < n2 by omega), j2, Ne.symm j2]
    · simp -dsimp [List.range_succ, f1]
      refine callS_ (pick_at bs p (by omega) _ _ _ rid (by simp [hm, f1])) ?_
      rintro t m1 n1 ⟨hn1, ⟨r, rfl, hr0, hr1⟩, rfl⟩
      have hr1 := hr1 (by decide)
      refine (hel r hr0 hr1).elim fun k hk => ?_
      have k0 := hk.1
      have k4 := hk.2.1
      have kg := hk.2.2
      have g1 := far (show rid < n1 by omega)
      simp -dsimp [List.range_succ, f1, hr0, kg]
      refine ordT_both ?_ ?_
      · simp -dsimp [List.range_succ, f1, g1]
        refine callS_ (pick_at bs (p + 1) (by omega) _ _ _ rid (by simp [f1, g1])) ?_
        rintro t m2 n2 ⟨hn2, ⟨r2, rfl, hr20, hr21⟩, rfl⟩
        have hr21 := hr21 (by decide)
        refine (sixty hr20 hr21).elim fun k2 hk2 => ?_
        have e2 := hk2.1
        have e20 := hk2.2.1
        have e21 := hk2.2.2
        have w1 : IntKind.wrap .i64 k2 = k2 := w64 (by omega) (by omega)
        have w2 : IntKind.wrap .i64 (k2 * 5) = k2 * 5 := w64 (by omega) (by omega)
        have w3 : IntKind.wrap .i64 (k + k2 * 5) = k + k2 * 5 := w64 (by omega) (by omega)
        have g2 := far (show rid < n2 by omega)
        have g3 := far (show n < n2 by omega)
        have g4 := far (show n + 1 < n2 by omega)
        have g5 := far (show n < n1 by omega)
        have g6 := far (show n + 1 < n1 by omega)
        have g7 := far (show n < n + 1 + 1 by omega)
        have g8 := far (show n + 1 < n + 1 + 1 by omega)
        simp -dsimp [List.range_succ, f1, g1, g2, g3, g4, e2, w1, w2, w3]
        refine ⟨k + k2 * 5, n1, p + 1 + 1, by simp -dsimp, by simp -dsimp, by simp -dsimp, by simp -dsimp, by simp -dsimp, by omega, by simp -dsimp <;> omega, by simp -dsimp [f1, g1, g2, g3, g4, g5, g6, g7, g8], by simp -dsimp [f1, g1, g2, g3, g4, g5, g6, g7, g8], by simp -dsimp [f1, g1, g2, g3, g4, g5, g6, g7, g8], by simp -dsimp [f1, g1, g2, g3, g4, g5, g6, g7, g8], by omega, by omega, fun j j1 j2 => ?_⟩
        simp -dsimp [far j1, far (show j < n1 by omega), far (show j < n2 by omega), j2, Ne.symm j2]
      · simp -dsimp [List.range_succ, f1, g1]
        refine callS_ (pick_at bs (p + 1) (by omega) _ _ _ rid (by simp [f1, g1])) ?_
        rintro t m2 n2 ⟨hn2, ⟨r2, rfl, hr20, hr21⟩, rfl⟩
        have hr21 := hr21 (by decide)
        refine (sixty hr20 hr21).elim fun k2 hk2 => ?_
        have e2 := hk2.1
        have e20 := hk2.2.1
        have e21 := hk2.2.2
        have w1 : IntKind.wrap .i64 k2 = k2 := w64 (by omega) (by omega)
        have w2 : IntKind.wrap .i64 (k2 * 5) = k2 * 5 := w64 (by omega) (by omega)
        have w3 : IntKind.wrap .i64 (k + k2 * 5) = k + k2 * 5 := w64 (by omega) (by omega)
        have g2 := far (show rid < n2 by omega)
        have g3 := far (show n < n2 by omega)
        have g4 := far (show n + 1 < n2 by omega)
        have g5 := far (show n < n1 by omega)
        have g6 := far (show n + 1 < n1 by omega)
        have g7 := far (show n < n + 1 + 1 by omega)
        have g8 := far (show n + 1 < n + 1 + 1 by omega)
        simp -dsimp [List.range_succ, f1, g1, g2, g3, g4, e2, w1, w2, w3]
        refine ⟨k + k2 * 5, n2, p + 1 + 1, by simp -dsimp, by simp -dsimp, by simp -dsimp, by simp -dsimp, by simp -dsimp, by omega, by simp -dsimp <;> omega, by simp -dsimp [f1, g1, g2, g3, g4, g5, g6, g7, g8], by simp -dsimp [f1, g1, g2, g3, g4, g5, g6, g7, g8], by simp -dsimp [f1, g1, g2, g3, g4, g5, g6, g7, g8], by simp -dsimp [f1, g1, g2, g3, g4, g5, g6, g7, g8], by omega, by omega, fun j j1 j2 => ?_⟩
        simp -dsimp [far j1, far (show j < n1 by omega), far (show j < n2 by omega), j2, Ne.symm j2]
  · intro s hs
    refine twp_cut (DI2 m n rid bs p) ?_ ?_
    · obtain ⟨kind, id, p', t0, t3, t4, t5, hmu, hid0, hid, m0, m1, mid, mrd, hp0, hp2, hout⟩ := hs
      have d0 : ¬ rid = id := by omega
      have d1 : ¬ n = id := by omega
      have d2 : ¬ n + 1 = id := by omega
      have d3 : ¬ id = rid := by omega
      have e1 : ¬ n + 1 = rid := by omega
      have e2 : ¬ rid = n + 1 := by omega
      have h1 := far hid
      have h2 := far (show rid < s.n by omega)
      have h3 := far (show n < s.n by omega)
      have h4 := far (show n + 1 < s.n by omega)
      by_cases k0 : kind = 0
      · have hpe : ∃ w : Int, max q.people 1 = w ∧ 1 ≤ w := ⟨_, rfl, by omega⟩
        have hpe2 : ∃ w : Int, min (max q.people 1) 4 = w ∧ 1 ≤ w ∧ w ≤ 4 := ⟨_, rfl, by omega, by omega⟩
        refine hpe2.elim fun w hw => ?_
        have hw1 := hw.1
        have hw2 := hw.2.1
        have hw3 := hw.2.2
        simp -dsimp [t0, t3, t4, t5, mid, m0, k0, hw1, h1, h2, h3]
        refine callS_ (claim_z bs p' (by omega) w 0 (by omega) (by omega) (by omega) _ _ rid (by omega) (by simp [mrd])) ?_
        rintro t m2 n2 ⟨hn2, ⟨x, ⟨c, cl, cf, rfl⟩, rfl⟩, p3, hp3, hp4, rfl⟩
        have hct := claimTxS_fn w c ⟨cf.2, by omega⟩
        have hcl := claimTx_short w c
        have h5 := far (show id < n2 by omega)
        generalize claimTx w c = cx at *
        simp -dsimp [t0, t3, t4, t5, mid, m0, h1, h2, h3, h5, d3]
        refine call_ hct (by simp -dsimp) ?_
        simp -dsimp [t0, t3, t4, t5, mid, m0, h1, h2, h3, h5, d3]
        refine ⟨0, 0, cx, id, p3, by simp -dsimp [t0], by simp -dsimp [t4], by simp -dsimp [t5], by simp -dsimp [hmu], hid0, by simp -dsimp <;> omega, by simp -dsimp [d2, e1, e2, m1], by simp -dsimp [k0], by omega, by simp -dsimp [d0, d3], by omega, by omega, fun j j1 j2 => ?_⟩
        simp -dsimp [show ¬ j = id by omega, j2, hout j j1 j2]
      by_cases k1 : kind = 1
      · have hl1 : ∃ w : Int, max (q.story.length : Int) 1 = w ∧ 1 ≤ w ∧ w ≤ 1000 := ⟨_, rfl, by omega, by omega⟩
        refine hl1.elim fun w hw => ?_
        have hw1 := hw.1
        have hw2 := hw.2.1
        have hw3 := hw.2.2
        simp -dsimp [t0, t3, t4, t5, mid, m0, k0, k1, hw1, h1, h2, h3]
        refine callS_ (pick_at bs p' (by omega) _ _ _ rid (by simp [mrd])) ?_
        rintro t m2 n2 ⟨hn2, ⟨r, rfl, hr0, hr1⟩, rfl⟩
        simp -dsimp [t0, t3, t4, t5, mid, m0, h1, h2, h3, d3]
        refine ⟨1, r, [], id, p' + 1, by simp -dsimp [t0], by simp -dsimp [t4], by simp -dsimp [t5], by simp -dsimp [hmu], hid0, by simp -dsimp <;> omega, by simp -dsimp [d2, e1, e2, m1], by simp -dsimp [k1], by simp, by simp -dsimp [d0, d3], by omega, by omega, fun j j1 j2 => ?_⟩
        simp -dsimp [show ¬ j = id by omega, j2, hout j j1 j2]
      by_cases k2 : kind = 2
      · simp -dsimp [t0, t3, t4, t5, mid, m0, k0, k1, k2, h1, h2, h3]
        refine callS_ (pick_at bs p' (by omega) _ _ _ rid (by simp [mrd])) ?_
        rintro t m2 n2 ⟨hn2, ⟨r, rfl, hr0, hr1⟩, rfl⟩
        have hr1 := hr1 (by decide)
        have wr : IntKind.wrap .i64 (1 + r) = 1 + r := w64 (by omega) (by omega)
        simp -dsimp [t0, t3, t4, t5, mid, m0, h1, h2, h3, d3, wr]
        refine ⟨2, 1 + r, [], id, p' + 1, by simp -dsimp [t0], by simp -dsimp [t4], by simp -dsimp [t5], by simp -dsimp [hmu], hid0, by simp -dsimp <;> omega, by simp -dsimp [d2, e1, e2, m1], by simp -dsimp [k2], by simp, by simp -dsimp [d0, d3], by omega, by omega, fun j j1 j2 => ?_⟩
        simp -dsimp [show ¬ j = id by omega, j2, hout j j1 j2]
      · simp -dsimp [t0, t3, t4, t5, mid, m0, k0, k1, k2, h1, h2, h3]
        exact ⟨kind, 0, [], id, p', by simp -dsimp [t0], by simp -dsimp [t4], by simp -dsimp [t5], by simp -dsimp [hmu], hid0, by simp -dsimp [hid], by simp -dsimp [m1], by simp -dsimp [mid], by simp, by simp -dsimp [mrd], by omega, by omega, fun j j1 j2 => by simp -dsimp [hout j j1 j2]⟩
    · rintro s ⟨kind, num, words, id, p', t0, t4, t5, hmu, hid0, hid, m1, mid, hwl, mrd, hp0, hp2, hout⟩
      have d0 : ¬ rid = id := by omega
      have d1 : ¬ n + 1 = id := by omega
      have d2 : ¬ n + 1 = rid := by omega
      have d3 : ¬ id = rid := by omega
      have d4 : ¬ id = n + 1 := by omega
      have e2 : ¬ rid = n + 1 := by omega
      have h1 := far hid
      have h2 := far (show rid < s.n by omega)
      have h4 := far (show n + 1 < s.n by omega)
      simp -dsimp [t0]
      refine callS_ (odd_at bs p' (by omega) _ (by omega) _ _ rid (by simp [mrd])) ?_
      rintro t m2 n2 ⟨hn2, ⟨b, rfl, _⟩, p3, hp3, hp4, rfl⟩
      cases b with
      | false =>
        simp -dsimp [t0, t4, t5, mid, m1, d0, d1, d2, d3, d4]
        refine ⟨by omega, ⟨_, by simp, ⟨kind, num, words⟩, by simp only; omega, rfl⟩, fun j j1 j2 => ?_, p3, by omega, by omega, by simp [d0, d1, d2, d3, d4, e2, h1, h2, h4]⟩
        simp [far j1, far (show j < s.n by omega), far (show j < n2 by omega), show ¬ j = id by omega, show ¬ j = n + 1 by omega, j2, hout j j1 j2]
      | true =>
        have h5 := far (show id < n2 by omega)
        have h6 := far (show rid < n2 by omega)
        have h7 := far (show n + 1 < n2 by omega)
        simp -dsimp [t0, t4, t5, mid, m1, d0, d1, d2, d3, d4]
        refine callS_ (pick_at bs p3 (by omega) _ _ _ rid (by simp)) ?_
        rintro t m3 n3 ⟨hn3, ⟨r, rfl, hr0, hr1⟩, rfl⟩
        have hr1 := hr1 (by decide)
        have g5 := far (show id < n3 by omega)
        have g6 := far (show rid < n3 by omega)
        have g7 := far (show n + 1 < n3 by omega)
        have hr4 : r = 0 ∨ r = 1 := by omega
        rcases hr4 with rfl | rfl
        · simp -dsimp [t0, t4, t5, mid, m1, hmu, d0, d1, d2, d3, d4, g5, g6, g7]
          refine callS_ (pick_at bs (p3 + 1) (by omega) _ _ _ rid (by simp [g6])) ?_
          rintro t m4 n4 ⟨hn4, ⟨r2, rfl, hr20, hr21⟩, rfl⟩
          have hr21 := hr21 (by decide)
          have hr5 : r2 = 0 ∨ r2 = 1 := by omega
          have g8 := far (show n3 < n4 by omega)
          rcases hr5 with rfl | rfl
          · simp -dsimp [t0, t4, t5, mid, m1, hmu, d0, d1, d2, d3, d4, g5, g6, g7, g8]
            refine ⟨by omega, ⟨_, by simp, ⟨kind, -1, words⟩, by simp only; omega, rfl⟩, fun j j1 j2 => ?_, p3 + 1 + 1, by omega, by omega, by simp [d0, d1, d2, d3, d4, e2, h1, h2, h4, g6]⟩
            simp [far j1, far (show j < s.n by omega), far (show j < n2 by omega), far (show j < n3 by omega), show ¬ j = id by omega, show ¬ j = n + 1 by omega, j2, hout j j1 j2]
          · simp -dsimp [t0, t4, t5, mid, m1, hmu, d0, d1, d2, d3, d4, g5, g6, g7, g8]
            refine ⟨by omega, ⟨_, by simp, ⟨kind, 100, words⟩, by simp only; omega, rfl⟩, fun j j1 j2 => ?_, p3 + 1 + 1, by omega, by omega, by simp [d0, d1, d2, d3, d4, e2, h1, h2, h4, g6]⟩
            simp [far j1, far (show j < s.n by omega), far (show j < n2 by omega), far (show j < n3 by omega), show ¬ j = id by omega, show ¬ j = n + 1 by omega, j2, hout j j1 j2]
        · simp -dsimp [t0, t4, t5, mid, m1, hmu, d0, d1, d2, d3, d4, g5, g6, g7]
          refine callS_ (pick_at bs (p3 + 1) (by omega) _ _ _ rid (by simp [g6])) ?_
          rintro t m4 n4 ⟨hn4, ⟨r2, rfl, hr20, hr21⟩, rfl⟩
          have hr21 := hr21 (by decide)
          have hr5 : r2 = 0 ∨ r2 = 1 ∨ r2 = 2 ∨ r2 = 3 := by omega
          have g8 := far (show n3 < n4 by omega)
          rcases hr5 with rfl | rfl | rfl | rfl
          · simp -dsimp [t0, t4, t5, mid, m1, hmu, d0, d1, d2, d3, d4, g5, g6, g7, g8]
            refine ⟨by omega, ⟨_, by simp, ⟨kind, num, [97, 58, 40, 98, 41]⟩, by simp, rfl⟩, fun j j1 j2 => ?_, p3 + 1 + 1, by omega, by omega, by simp [d0, d1, d2, d3, d4, e2, h1, h2, h4, g6]⟩
            simp [far j1, far (show j < s.n by omega), far (show j < n2 by omega), far (show j < n3 by omega), show ¬ j = id by omega, show ¬ j = n + 1 by omega, j2, hout j j1 j2]
          · simp -dsimp [t0, t4, t5, mid, m1, hmu, d0, d1, d2, d3, d4, g5, g6, g7, g8]
            refine ⟨by omega, ⟨_, by simp, ⟨kind, num, [101, 58, 97]⟩, by simp, rfl⟩, fun j j1 j2 => ?_, p3 + 1 + 1, by omega, by omega, by simp [d0, d1, d2, d3, d4, e2, h1, h2, h4, g6]⟩
            simp [far j1, far (show j < s.n by omega), far (show j < n2 by omega), far (show j < n3 by omega), show ¬ j = id by omega, show ¬ j = n + 1 by omega, j2, hout j j1 j2]
          · simp -dsimp [t0, t4, t5, mid, m1, hmu, d0, d1, d2, d3, d4, g5, g6, g7, g8]
            refine ⟨by omega, ⟨_, by simp, ⟨kind, num, [97, 32, 97]⟩, by simp, rfl⟩, fun j j1 j2 => ?_, p3 + 1 + 1, by omega, by omega, by simp [d0, d1, d2, d3, d4, e2, h1, h2, h4, g6]⟩
            simp [far j1, far (show j < s.n by omega), far (show j < n2 by omega), far (show j < n3 by omega), show ¬ j = id by omega, show ¬ j = n + 1 by omega, j2, hout j j1 j2]
          · simp -dsimp [t0, t4, t5, mid, m1, hmu, d0, d1, d2, d3, d4, g5, g6, g7, g8]
            refine ⟨by omega, ⟨_, by simp, ⟨kind, num, [97, 58]⟩, by simp, rfl⟩, fun j j1 j2 => ?_, p3 + 1 + 1, by omega, by omega, by simp [d0, d1, d2, d3, d4, e2, h1, h2, h4, g6]⟩
            simp [far j1, far (show j < s.n by omega), far (show j < n2 by omega), far (show j < n3 by omega), show ¬ j = id by omega, show ¬ j = n + 1 by omega, j2, hout j j1 j2]
theorem deed_z (bs : List UInt8) (p : Nat) (hp : p < 600000000) (q : Place) (hq : q.story.length ≤ 1000) (m : Mem) (n rid : Nat) (hr : rid < n) (hm : m rid = some (rdB bs p)) :
    FnS Tryz.prog 66 m n [.ptr rid 0, .v q.v] (Draws SomeDeed 100 m n rid bs p) := deed_zX bs p hp q hq _ rfl m n rid hr hm
theorem deed_zA (bs : List UInt8) (p : Nat) (hp : p < 600000000) (q : Place) (hq : q.story.length ≤ 1000) (m : Mem) (n rid : Nat) (hr : rid < n) (hm : m rid = some (rdB bs p)) :
    FnS Tryz.prog 66 m n [.ptr rid 0, .agg [.v (.int .i64 q.people), .v (storyV q.story)]] (Draws SomeDeed 100 m n rid bs p) := deed_zX bs p hp q hq _ rfl m n rid hr hm
end TL

/- Drawn stores. -/
set_option linter.unusedSimpArgs false
set_option linter.unusedVariables false
set_option maxRecDepth 100000
set_option maxHeartbeats 4000000
set_option pp.maxSteps 1500
namespace TL
open Go Go.Proofs
attribute [local simp] marksV storyV codeV Claim.v Place.v Deed.v Desk.v Store.v
def Store.tiny (s : Store) : Prop := s.saved.length ≤ 2000 ∧ s.log.length ≤ 2000
theorem Store.tiny.small {s : Store} (h : s.tiny) : s.small := ⟨by have := h.1; omega, by have := h.2; omega⟩
def SomeStore (x : V) : Prop := ∃ s : Store, s.tiny ∧ x = s.v
def Store.tight (s : Store) : Prop := s.saved.length ≤ 400 ∧ s.log.length ≤ 1000 ∧ 0 ≤ s.sure ∧ s.sure ≤ 1000
theorem Store.tight.small {s : Store} (h : s.tight) : s.small := ⟨by have := h.1; omega, by have := h.2.1; omega⟩
theorem noStore_tight : noStore.tight := ⟨by simp [noStore], by simp [noStore], by simp [noStore], by simp [noStore]⟩
theorem act_tight {s : Store} (h : s.tight) (a : Deed) : (storeAct s a).tight := by
  cases ha : actOk s a
  · cases ho : storeOk s
    · rw [(storeAct_out ho).1]; exact noStore_tight
    · rw [storeAct_no ha ho]; exact h
  · obtain ⟨a1, a2, a3, a4, a5, a6⟩ := act_done ha
    have := (storeOk_iff.1 a1).2.1
    exact ⟨by rw [a6]; exact h.1, this, by rw [a5]; exact h.2.2.1, by rw [a5]; exact h.2.2.2⟩
theorem sync_tight {s : Store} (h : s.tight) : (storeSync s).tight := by
  unfold storeSync; split
  · exact ⟨h.1, h.2.1, by simp, by have := h.2.1; simp only; omega⟩
  · exact noStore_tight
theorem crash_tight {s : Store} (h : s.tight) (k : Int) : (storeCrash s k).tight := by
  unfold storeCrash; split
  · exact ⟨h.1, by have := h.2.1; simp; omega, h.2.2.1, h.2.2.2⟩
  · exact noStore_tight
theorem new_tight {q : Place} (h : q.story.length ≤ 10) : (storeNew q).tight := by
  unfold storeNew; split
  · exact ⟨by have := placeTx_len q; simp only; omega, by simp, by simp, by simp⟩
  · exact noStore_tight
def sC (s : Store) : List T := [.v (.str s.saved), .v (.str s.log), .v (.int .i64 s.sure)]
structure StEnv (m0 : Mem) (n0 rid : Nat) (bs : List UInt8) (k : Int) (s : S) (id : Nat) (st : Store) (p : Nat) : Prop where
  t0 : s.tm 0 = .ptr rid 0
  t1 : s.tm 1 = .v (.int .i64 k)
  t4 : s.tm 4 = .ptr n0 0
  t5 : s.tm 5 = .ptr id 0
  mu : s.mu = false
  i0 : n0 < id
  i1 : id < s.n
  mz : s.m n0 = some (.box 25 3 [.v (.str []), .v (.str []), .v (.int .i64 0)])
  mid : s.m id = some (.box 25 3 (sC st))
  rd : s.m rid = some (rdB bs p)
  out : ∀ j, j < n0 → j ≠ rid → s.m j = m0 j
  ok : st.tight
def LSt (m0 : Mem) (n0 rid : Nat) (bs : List UInt8) (k : Int) (p : Nat) (e : Nat) (s : S) : Prop := ∃ (c id p' : Nat) (st : Store), StEnv m0 n0 rid bs k s id st p' ∧ s.tm 7 = .v (.int .i64 c) ∧ c ≤ 6 ∧ p ≤ p' ∧ p' + 103 * c ≤ p + 900 ∧ (e = 1 → c = 0)
def LS6 (m0 : Mem) (n0 rid : Nat) (bs : List UInt8) (k : Int) (p c : Nat) (s : S) : Prop := ∃ (id id10 p' : Nat) (st x : Store) (b : Bool), StEnv m0 n0 rid bs k s id st p' ∧ s.tm 7 = .v (.int .i64 c) ∧ s.tm 10 = .ptr id10 0 ∧ s.tm 11 = .v (.bool b) ∧ n0 < id10 ∧ id10 < s.n ∧ id10 ≠ id ∧
  s.m id10 = some (.box 25 3 (sC x)) ∧ x.tight ∧ p ≤ p' ∧ p' + 103 * (c - 1) + 2 ≤ p + 900
def LS9 (m0 : Mem) (n0 rid : Nat) (bs : List UInt8) (k : Int) (p c : Nat) (s : S) : Prop := ∃ (id p' : Nat) (st : Store), StEnv m0 n0 rid bs k s id st p' ∧ s.tm 7 = .v (.int .i64 c) ∧ p ≤ p' ∧ p' + 103 * (c - 1) + 2 ≤ p + 900
/-- Behind the loop. -/
def LSe (m0 : Mem) (n0 rid : Nat) (bs : List UInt8) (k : Int) (p g : Nat) (s : S) : Prop := ∃ (id p' : Nat) (st : Store), StEnv m0 n0 rid bs k s id st p' ∧ p ≤ p' ∧ p' ≤ p + g
theorem open_short (s : Store) : (storeOpen s).now.story.length ≤ 1000 := by
  unfold storeOpen; split
  · rename_i h; have := (place_fine (deskOk_iff.1 (opened_ok h)).2.1).2.2.2; omega
  · simp [noDeskV]
theorem store_z (bs : List UInt8) (p : Nat) (hp : p < 500000000) (k : Int) (hk0 : 0 ≤ k) (hk : k < 100000) (m : Mem) (n rid : Nat) (hr : rid < n) (hm : m rid = some (rdB bs p)) :
    FnS Tryz.prog 50 m n [.ptr rid 0, .v (.int .i64 k)] (Draws SomeStore 1000 m n rid bs p) := by
  refine Draws_of hr ⟨_, Tryz.func50, rfl, rfl⟩ fun hfr => ?_
  refine FnS_of (rs := [.cell 4 25]) false Tryz.func50 rfl rfl rfl rfl (Nat.le_of_ble_eq_true rfl) ?_
  have f1 := far hr
  simp -dsimp
  refine callS_ (place_z bs p (by omega) 0 (by omega) (by omega) _ _ rid (by omega) (by simp [hm, f1])) ?_
  rintro t m1 n1 ⟨hn1, ⟨x, ⟨q, hq1, hq2, hq3, rfl⟩, rfl⟩, p1, hp1, hp2, rfl⟩
  have fine : q.fine := ⟨by omega, fun c hc => ⟨(hq3.2 c hc).2, by have := hq2 c hc; omega⟩⟩
  have hnew := storeNewS_fn q fine
  have htn := new_tight hq1
  generalize storeNew q = X at *
  generalize placeOk q = okq at *
  obtain ⟨x1, x2, x3⟩ := X
  have g1 := far (show rid < n1 by omega)
  have g2 := far (show n < n1 by omega)
  have g3 : ¬ n = rid := by omega
  simp -dsimp [g1, g2, g3]
  refine call_ hnew (by simp -dsimp) ?_
  simp -dsimp [g1, g2, g3, nes]
  refine callS_ (pick_at bs p1 (by omega) _ _ _ rid (by simp [g1, g2, f1])) ?_
  rintro t m2 n2 ⟨hn2, ⟨r, rfl, hr0, hr1⟩, rfl⟩
  have hr1 := hr1 (by decide)
  obtain ⟨r, rfl⟩ := Int.eq_ofNat_of_zero_le hr0
  have h1 := far (show rid < n2 by omega)
  have h2 := far (show n < n2 by omega)
  have h3 := far (show n1 < n2 by omega)
  have d0 : ¬ rid = n1 := by omega
  have d1 : ¬ n1 = rid := by omega
  have d2 : ¬ n1 = n := by omega
  have d3 : ¬ n = n1 := by omega
  simp -dsimp
  refine twp_loopC (LSt m n rid bs k p 0) (fun s => natOf (s.tm 7)) (LSt m n rid bs k p 1) ?_ ?_ ?_
  · refine ⟨r, n1, p1 + 1, ⟨x1, x2, x3⟩, ⟨by simp -dsimp, by simp -dsimp, by simp -dsimp, by simp -dsimp, by simp -dsimp, by omega, (by simp -dsimp <;> omega), by simp -dsimp [g1, g2, g3, d0, d1, d2, d3, f1], by simp -dsimp [sC, g1, g2, g3, d0, d1, d2, d3, f1], by simp -dsimp, fun j j1 j2 => ?_, htn⟩, by simp -dsimp, by omega, by omega, by omega, by simp⟩
    simp -dsimp [far j1, far (show j < n1 by omega), j2]
  · rintro s ⟨c, id, p', st, e, t7, hc6, hp0, hpc, hend⟩
    obtain ⟨t0, t1, t4, t5, hmu, i0, i1, mz, mid, rd, out, tight⟩ := e
    by_cases hc : 0 < c
    case neg =>
      have hc0 : c = 0 := by omega
      simp -dsimp [t7, hc, hc0]
      exact ⟨c, id, p', st, ⟨by simp -dsimp [t0], by simp -dsimp [t1], by simp -dsimp [t4], by simp -dsimp [t5], by simp -dsimp [hmu], i0, by simp -dsimp [i1], by simp -dsimp [mz], by simp -dsimp [mid], by simp -dsimp [rd], fun j j1 j2 => by simp -dsimp [out j j1 j2], tight⟩, by simp -dsimp [t7], hc6, hp0, hpc, fun _ => hc0⟩
    have a0 : ¬ rid = id := by omega
    have a1 : ¬ id = rid := by omega
    have a2 : ¬ n = id := by omega
    have a3 : ¬ id = n := by omega
    have a4 : ¬ n = rid := by omega
    have a5 : ¬ rid = n := by omega
    have h1 := far i1
    have h2 := far (show rid < s.n by omega)
    have h3 := far (show n < s.n by omega)
    have wc : IntKind.wrap .i64 ((c : Int) - 1) = ((c - 1 : Nat) : Int) := by rw [w64 (by omega) (by omega)]; omega
    have hmu1 : c - 1 < c := by omega
    have hms : natOf (s.tm 7) = c := by rw [t7]; simp
    have hop := storeOpenS_fn st tight.small
    have hshort := open_short st
    have hacts := fun a ha => storeActS_fn st a tight.small ha
    have htacts := fun a => act_tight tight a
    generalize storeOpen st = D at *
    generalize storeOk st = oks at *
    obtain ⟨⟨D1, D2⟩, D3⟩ := D
    have mid' := mid
    obtain ⟨s1, s2, s3⟩ := st
    unfold sC at mid
    simp only at mid hshort
    simp -dsimp [t0, t5, t7, hc, mid, h1, h2, h3]
    refine call_ hop (by simp -dsimp) ?_
    simp -dsimp [t0, t5, t7, mid, h1, h2, h3, nes]
    refine twp_cutQ (LS6 m n rid bs k p c) ?_ ?_
    · refine twp_drawT (.run [0, 1, 2, 3] (.alt (.run [4] (.alt (.run [5, 6, 7, 8, 9, 10, 11] .done) (.run [9, 5, 6, 7, 8, 10, 11] .done))) (.run [9, 4, 5, 6, 7, 8, 10, 11] .done))) [id, s.n] (List.replicate 12 [0, 1]) (List.replicate 12 [0, 1]) (by kernel_rfl) (by kernel_rfl) (by kernel_rfl) (by kernel_rfl) ?_
      simp -dsimp [t0, t5, t7, mid, h1, h2, h3, a0, a1, nes]
      refine ordT_both ?_ ?_
      · simp -dsimp [t0, t5, t7, mid, h1, h2, h3, a0, a1, nes]
        refine callS_ (deed_zA bs p' (by omega) ⟨D1, D2⟩ hshort _ _ rid (by omega) (by simp [rd, h1, h2, h3])) ?_
        rintro t m3 n3 ⟨hn3, ⟨x, ⟨a, ha, rfl⟩, rfl⟩, p3, hp3, hp4, rfl⟩
        have hact := hacts a (by omega)
        have htact := htacts a
        generalize storeAct ⟨s1, s2, s3⟩ a = X at *
        generalize actOk ⟨s1, s2, s3⟩ a = b at *
        obtain ⟨x1, x2, x3⟩ := X
        obtain ⟨y1, y2, y3⟩ := a
        have b1 := far (show id < n3 by omega)
        have b2 := far (show rid < n3 by omega)
        have b3 := far (show n < n3 by omega)
        have b4 := far (show s.n < n3 by omega)
        simp -dsimp [t0, t5, t7, mid, h1, h2, h3, a0, a1, nes, b1, b2, b3, b4]
        refine ordT_both ?_ ?_
        · simp -dsimp [t0, t5, t7, mid, h1, h2, h3, a0, a1, nes, b1, b2, b3, b4]
          refine call_ hact (by simp -dsimp) ?_
          simp -dsimp [t0, t5, t7, mid, h1, h2, h3, a0, a1, nes, b1, b2, b3, b4]
          exact ⟨id, n3, p3, ⟨s1, s2, s3⟩, ⟨x1, x2, x3⟩, b, ⟨by simp -dsimp [t0], by simp -dsimp [t1], by simp -dsimp [t4], by simp -dsimp [t5], by simp -dsimp [hmu], i0, (by simp -dsimp <;> omega), by simp -dsimp [mz, a2, a4, h3, b3], by simp -dsimp [sC, mid, a1, h1, b1], by simp -dsimp [b2], fun j j1 j2 => by simp -dsimp [far (show j < n3 by omega), far (show j < s.n by omega), j2, out j j1 j2], tight⟩, by simp -dsimp [t7], by simp -dsimp, by simp -dsimp, by omega, (by simp -dsimp <;> omega), by omega, by simp -dsimp [sC], htact, by omega, by omega⟩
        · simp -dsimp [t0, t5, t7, mid, h1, h2, h3, a0, a1, nes, b1, b2, b3, b4]
          refine call_ hact (by simp -dsimp) ?_
          simp -dsimp [t0, t5, t7, mid, h1, h2, h3, a0, a1, nes, b1, b2, b3, b4]
          exact ⟨id, n3, p3, ⟨s1, s2, s3⟩, ⟨x1, x2, x3⟩, b, ⟨by simp -dsimp [t0], by simp -dsimp [t1], by simp -dsimp [t4], by simp -dsimp [t5], by simp -dsimp [hmu], i0, (by simp -dsimp <;> omega), by simp -dsimp [mz, a2, a4, h3, b3], by simp -dsimp [sC, mid, a1, h1, b1], by simp -dsimp [b2], fun j j1 j2 => by simp -dsimp [far (show j < n3 by omega), far (show j < s.n by omega), j2, out j j1 j2], tight⟩, by simp -dsimp [t7], by simp -dsimp, by simp -dsimp, by omega, (by simp -dsimp <;> omega), by omega, by simp -dsimp [sC], htact, by omega, by omega⟩
      · simp -dsimp [t0, t5, t7, mid, h1, h2, h3, a0, a1, nes]
        refine callS_ (deed_zA bs p' (by omega) ⟨D1, D2⟩ hshort _ _ rid (by omega) (by simp [rd, h1, h2, h3])) ?_
        rintro t m3 n3 ⟨hn3, ⟨x, ⟨a, ha, rfl⟩, rfl⟩, p3, hp3, hp4, rfl⟩
        have hact := hacts a (by omega)
        have htact := htacts a
        generalize storeAct ⟨s1, s2, s3⟩ a = X at *
        generalize actOk ⟨s1, s2, s3⟩ a = b at *
        obtain ⟨x1, x2, x3⟩ := X
        obtain ⟨y1, y2, y3⟩ := a
        have b1 := far (show id < n3 by omega)
        have b2 := far (show rid < n3 by omega)
        have b3 := far (show n < n3 by omega)
        have b4 := far (show s.n < n3 by omega)
        simp -dsimp [t0, t5, t7, mid, h1, h2, h3, a0, a1, nes, b1, b2, b3, b4]
        refine call_ hact (by simp -dsimp) ?_
        simp -dsimp [t0, t5, t7, mid, h1, h2, h3, a0, a1, nes, b1, b2, b3, b4]
        exact ⟨id, s.n + 1 + 1, p3, ⟨s1, s2, s3⟩, ⟨x1, x2, x3⟩, b, ⟨by simp -dsimp [t0], by simp -dsimp [t1], by simp -dsimp [t4], by simp -dsimp [t5], by simp -dsimp [hmu], i0, (by simp -dsimp <;> omega), by simp -dsimp [mz, a2, a4, h3, b3], by simp -dsimp [sC, mid, a1, h1, b1], by simp -dsimp [b2, h2], fun j j1 j2 => by simp -dsimp [far (show j < n3 by omega), far (show j < s.n by omega), j2, out j j1 j2], tight⟩, by simp -dsimp [t7], by simp -dsimp, by simp -dsimp, by omega, (by simp -dsimp <;> omega), by omega, by simp -dsimp [sC], htact, by omega, by omega⟩
    · clear mid' hop hacts htacts hshort mid mz rd out tight t0 t1 t4 t5 t7 hmu
      rintro s ⟨id, id10, p', st, x, b, e, t7, t10, t11, j0, j1, j2, mx, tx, hp0, hpc⟩
      obtain ⟨t0, t1, t4, t5, hmu, i0, i1, mz, mid, rd, out, tight⟩ := e
      have a0 : ¬ rid = id := by omega
      have a1 : ¬ id = rid := by omega
      have a2 : ¬ n = id := by omega
      have a3 : ¬ id = n := by omega
      have a4 : ¬ n = rid := by omega
      have a5 : ¬ rid = n := by omega
      have h1 := far i1
      have h2 := far (show rid < s.n by omega)
      have h3 := far (show n < s.n by omega)
      have jx := far j1
      obtain ⟨s1, s2, s3⟩ := st
      obtain ⟨x1, x2, x3⟩ := x
      unfold sC at mid mx
      simp only at mid mx
      -- the store of this round
      have hst : ∃ z : Store, z.tight ∧ z = (if b = true then ⟨x1, x2, x3⟩ else ⟨s1, s2, s3⟩) := ⟨_, by split; exact tx; exact tight, rfl⟩
      refine hst.elim fun z hz => ?_
      have tz := hz.1
      have ez := hz.2
      clear hz hst
      have hsy := storeSyncS_fn z tz.small
      have tsy := sync_tight tz
      generalize storeSync z = Y at *
      generalize storeOk z = oy at *
      obtain ⟨y1, y2, y3⟩ := Y
      have hb := ft b
      rcases hb with rfl | rfl
      · simp only [Bool.false_eq_true, if_false] at ez
        subst ez
        simp -dsimp [t0, t1, t4, t5, t7, t11, mid, rd, h1, h2, h3, a0, a1, a2, a3, a4, a5, nes, wc, hmu1, hms, t10, mx, jx, j2, Ne.symm j2]
        refine callS_ (pick_at bs p' (by omega) _ _ _ rid (by simp [rd, a0])) ?_
        rintro t m3 n3 ⟨hn3, ⟨r, rfl, hr0, hr1⟩, rfl⟩
        have b1 := far (show id < n3 by omega)
        have b2 := far (show rid < n3 by omega)
        have b3 := far (show n < n3 by omega)
        by_cases r0 : r = 0
        · simp -dsimp [t0, t1, t4, t5, t7, t11, mid, rd, h1, h2, h3, a0, a1, a2, a3, a4, a5, nes, wc, hmu1, hms, t10, mx, jx, j2, Ne.symm j2, r0]
          refine call_ hsy (by simp -dsimp) ?_
          simp -dsimp [t0, t1, t4, t5, t7, t11, mid, rd, h1, h2, h3, a0, a1, a2, a3, a4, a5, nes, wc, hmu1, hms, t10, mx, jx, j2, Ne.symm j2, r0]
          exact ⟨c - 1, id, p' + 1, ⟨y1, y2, y3⟩, ⟨by simp -dsimp [t0], by simp -dsimp [t1], by simp -dsimp [t4], by simp -dsimp [t5], by simp -dsimp [hmu], i0, (by simp -dsimp <;> omega), by simp -dsimp [mz, t0, t1, t4, t5, t7, t11, mid, rd, h1, h2, h3, a0, a1, a2, a3, a4, a5, nes, wc, hmu1, hms, t10, mx, jx, j2, Ne.symm j2, b1, b2, b3], by simp -dsimp [sC, t0, t1, t4, t5, t7, t11, mid, rd, h1, h2, h3, a0, a1, a2, a3, a4, a5, nes, wc, hmu1, hms, t10, mx, jx, j2, Ne.symm j2, b1, b2, b3], by simp -dsimp [t0, t1, t4, t5, t7, t11, mid, rd, h1, h2, h3, a0, a1, a2, a3, a4, a5, nes, wc, hmu1, hms, t10, mx, jx, j2, Ne.symm j2, b1, b2, b3], fun j j1 j2 => by simp -dsimp [b1, b2, b3, far (show j < s.n by omega), show ¬ j = id by omega, j2, out j j1 j2], tsy⟩, by simp -dsimp [t7, wc], by omega, by omega, by omega, by simp⟩
        · by_cases r1 : r = 1
          · simp -dsimp [t0, t1, t4, t5, t7, t11, mid, rd, h1, h2, h3, a0, a1, a2, a3, a4, a5, nes, wc, hmu1, hms, t10, mx, jx, j2, Ne.symm j2, r0, r1]
            refine twp_draw (List.range 11) [id] (List.replicate 9 [0] ++ [[], []]) (List.replicate 10 [0] ++ [[]]) (by kernel_rfl) (by kernel_rfl) (by kernel_rfl) (by kernel_rfl) ?_
            simp -dsimp [List.range_succ, t0, t1, t4, t5, t7, t11, mid, rd, h1, h2, h3, a0, a1, a2, a3, a4, a5, nes, wc, hmu1, hms, t10, mx, jx, j2, Ne.symm j2, r0, r1]
            refine callS_ (pick_at bs (p' + 1) (by omega) _ _ _ rid (by simp [a0])) ?_
            rintro t m4 n4 ⟨hn4, ⟨r2, rfl, hr20, hr21⟩, rfl⟩
            have hr21 := hr21 (by decide)
            have c1 := far (show id < n4 by omega)
            have c2 := far (show rid < n4 by omega)
            have c3 := far (show n < n4 by omega)
            have tz2 := tz.2.2
            have tz1 := tz.2.1
            simp only at tz2 tz1
            have wz : IntKind.wrap .i64 (s3 + r2) = s3 + r2 := w64 (by omega) (by omega)
            simp -dsimp [List.range_succ, t0, t1, t4, t5, t7, t11, mid, rd, h1, h2, h3, a0, a1, a2, a3, a4, a5, nes, wc, hmu1, hms, t10, mx, jx, j2, Ne.symm j2, r0, r1, c1, c2, c3, wz]
            exact ⟨c - 1, id, p' + 1 + 1, ⟨s1, s2, min (s2.length : Int) (s3 + r2)⟩, ⟨by simp -dsimp [t0], by simp -dsimp [t1], by simp -dsimp [t4], by simp -dsimp [t5], by simp -dsimp [hmu], i0, (by simp -dsimp <;> omega), by simp -dsimp [mz, t0, t1, t4, t5, t7, t11, mid, rd, h1, h2, h3, a0, a1, a2, a3, a4, a5, nes, wc, hmu1, hms, t10, mx, jx, j2, Ne.symm j2, b1, b2, b3, c1, c2, c3], by simp -dsimp [sC, t0, t1, t4, t5, t7, t11, mid, rd, h1, h2, h3, a0, a1, a2, a3, a4, a5, nes, wc, hmu1, hms, t10, mx, jx, j2, Ne.symm j2, b1, b2, b3, c1, c2, c3], by simp -dsimp [t0, t1, t4, t5, t7, t11, mid, rd, h1, h2, h3, a0, a1, a2, a3, a4, a5, nes, wc, hmu1, hms, t10, mx, jx, j2, Ne.symm j2, b1, b2, b3, c1, c2, c3], fun j j1 j2 => by simp -dsimp [b1, b2, b3, c1, c2, c3, far (show j < s.n by omega), show ¬ j = id by omega, j2, out j j1 j2], ⟨tz.1, tz.2.1, by simp only; omega, by simp only; omega⟩⟩, by simp -dsimp [t7, wc], by omega, by omega, by omega, by simp⟩
          · simp -dsimp [t0, t1, t4, t5, t7, t11, mid, rd, h1, h2, h3, a0, a1, a2, a3, a4, a5, nes, wc, hmu1, hms, t10, mx, jx, j2, Ne.symm j2, r0, r1]
            exact ⟨c - 1, id, p' + 1, ⟨s1, s2, s3⟩, ⟨by simp -dsimp [t0], by simp -dsimp [t1], by simp -dsimp [t4], by simp -dsimp [t5], by simp -dsimp [hmu], i0, (by simp -dsimp <;> omega), by simp -dsimp [mz, t0, t1, t4, t5, t7, t11, mid, rd, h1, h2, h3, a0, a1, a2, a3, a4, a5, nes, wc, hmu1, hms, t10, mx, jx, j2, Ne.symm j2, b1, b2, b3], by simp -dsimp [sC, t0, t1, t4, t5, t7, t11, mid, rd, h1, h2, h3, a0, a1, a2, a3, a4, a5, nes, wc, hmu1, hms, t10, mx, jx, j2, Ne.symm j2, b1, b2, b3], by simp -dsimp [t0, t1, t4, t5, t7, t11, mid, rd, h1, h2, h3, a0, a1, a2, a3, a4, a5, nes, wc, hmu1, hms, t10, mx, jx, j2, Ne.symm j2, b1, b2, b3], fun j j1 j2 => by simp -dsimp [b1, b2, b3, far (show j < s.n by omega), show ¬ j = id by omega, j2, out j j1 j2], tz⟩, by simp -dsimp [t7, wc], by omega, by omega, by omega, by simp⟩
      · simp only [eq_self, if_true] at ez
        subst ez
        simp -dsimp [t0, t1, t4, t5, t7, t11, mid, rd, h1, h2, h3, a0, a1, a2, a3, a4, a5, nes, wc, hmu1, hms, t10, mx, jx, j2, Ne.symm j2]
        refine callS_ (pick_at bs p' (by omega) _ _ _ rid (by simp [rd, a0])) ?_
        rintro t m3 n3 ⟨hn3, ⟨r, rfl, hr0, hr1⟩, rfl⟩
        have b1 := far (show id < n3 by omega)
        have b2 := far (show rid < n3 by omega)
        have b3 := far (show n < n3 by omega)
        by_cases r0 : r = 0
        · simp -dsimp [t0, t1, t4, t5, t7, t11, mid, rd, h1, h2, h3, a0, a1, a2, a3, a4, a5, nes, wc, hmu1, hms, t10, mx, jx, j2, Ne.symm j2, r0]
          refine call_ hsy (by simp -dsimp) ?_
          simp -dsimp [t0, t1, t4, t5, t7, t11, mid, rd, h1, h2, h3, a0, a1, a2, a3, a4, a5, nes, wc, hmu1, hms, t10, mx, jx, j2, Ne.symm j2, r0]
          exact ⟨c - 1, id, p' + 1, ⟨y1, y2, y3⟩, ⟨by simp -dsimp [t0], by simp -dsimp [t1], by simp -dsimp [t4], by simp -dsimp [t5], by simp -dsimp [hmu], i0, (by simp -dsimp <;> omega), by simp -dsimp [mz, t0, t1, t4, t5, t7, t11, mid, rd, h1, h2, h3, a0, a1, a2, a3, a4, a5, nes, wc, hmu1, hms, t10, mx, jx, j2, Ne.symm j2, b1, b2, b3], by simp -dsimp [sC, t0, t1, t4, t5, t7, t11, mid, rd, h1, h2, h3, a0, a1, a2, a3, a4, a5, nes, wc, hmu1, hms, t10, mx, jx, j2, Ne.symm j2, b1, b2, b3], by simp -dsimp [t0, t1, t4, t5, t7, t11, mid, rd, h1, h2, h3, a0, a1, a2, a3, a4, a5, nes, wc, hmu1, hms, t10, mx, jx, j2, Ne.symm j2, b1, b2, b3], fun j j1 j2 => by simp -dsimp [b1, b2, b3, far (show j < s.n by omega), show ¬ j = id by omega, j2, out j j1 j2], tsy⟩, by simp -dsimp [t7, wc], by omega, by omega, by omega, by simp⟩
        · by_cases r1 : r = 1
          · simp -dsimp [t0, t1, t4, t5, t7, t11, mid, rd, h1, h2, h3, a0, a1, a2, a3, a4, a5, nes, wc, hmu1, hms, t10, mx, jx, j2, Ne.symm j2, r0, r1]
            refine twp_draw (List.range 11) [id] (List.replicate 9 [0] ++ [[], []]) (List.replicate 10 [0] ++ [[]]) (by kernel_rfl) (by kernel_rfl) (by kernel_rfl) (by kernel_rfl) ?_
            simp -dsimp [List.range_succ, t0, t1, t4, t5, t7, t11, mid, rd, h1, h2, h3, a0, a1, a2, a3, a4, a5, nes, wc, hmu1, hms, t10, mx, jx, j2, Ne.symm j2, r0, r1]
            refine callS_ (pick_at bs (p' + 1) (by omega) _ _ _ rid (by simp [a0])) ?_
            rintro t m4 n4 ⟨hn4, ⟨r2, rfl, hr20, hr21⟩, rfl⟩
            have hr21 := hr21 (by decide)
            have c1 := far (show id < n4 by omega)
            have c2 := far (show rid < n4 by omega)
            have c3 := far (show n < n4 by omega)
            have tz2 := tz.2.2
            have tz1 := tz.2.1
            simp only at tz2 tz1
            have wz : IntKind.wrap .i64 (x3 + r2) = x3 + r2 := w64 (by omega) (by omega)
            simp -dsimp [List.range_succ, t0, t1, t4, t5, t7, t11, mid, rd, h1, h2, h3, a0, a1, a2, a3, a4, a5, nes, wc, hmu1, hms, t10, mx, jx, j2, Ne.symm j2, r0, r1, c1, c2, c3, wz]
            exact ⟨c - 1, id, p' + 1 + 1, ⟨x1, x2, min (x2.length : Int) (x3 + r2)⟩, ⟨by simp -dsimp [t0], by simp -dsimp [t1], by simp -dsimp [t4], by simp -dsimp [t5], by simp -dsimp [hmu], i0, (by simp -dsimp <;> omega), by simp -dsimp [mz, t0, t1, t4, t5, t7, t11, mid, rd, h1, h2, h3, a0, a1, a2, a3, a4, a5, nes, wc, hmu1, hms, t10, mx, jx, j2, Ne.symm j2, b1, b2, b3, c1, c2, c3], by simp -dsimp [sC, t0, t1, t4, t5, t7, t11, mid, rd, h1, h2, h3, a0, a1, a2, a3, a4, a5, nes, wc, hmu1, hms, t10, mx, jx, j2, Ne.symm j2, b1, b2, b3, c1, c2, c3], by simp -dsimp [t0, t1, t4, t5, t7, t11, mid, rd, h1, h2, h3, a0, a1, a2, a3, a4, a5, nes, wc, hmu1, hms, t10, mx, jx, j2, Ne.symm j2, b1, b2, b3, c1, c2, c3], fun j j1 j2 => by simp -dsimp [b1, b2, b3, c1, c2, c3, far (show j < s.n by omega), show ¬ j = id by omega, j2, out j j1 j2], ⟨tz.1, tz.2.1, by simp only; omega, by simp only; omega⟩⟩, by simp -dsimp [t7, wc], by omega, by omega, by omega, by simp⟩
          · simp -dsimp [t0, t1, t4, t5, t7, t11, mid, rd, h1, h2, h3, a0, a1, a2, a3, a4, a5, nes, wc, hmu1, hms, t10, mx, jx, j2, Ne.symm j2, r0, r1]
            exact ⟨c - 1, id, p' + 1, ⟨x1, x2, x3⟩, ⟨by simp -dsimp [t0], by simp -dsimp [t1], by simp -dsimp [t4], by simp -dsimp [t5], by simp -dsimp [hmu], i0, (by simp -dsimp <;> omega), by simp -dsimp [mz, t0, t1, t4, t5, t7, t11, mid, rd, h1, h2, h3, a0, a1, a2, a3, a4, a5, nes, wc, hmu1, hms, t10, mx, jx, j2, Ne.symm j2, b1, b2, b3], by simp -dsimp [sC, t0, t1, t4, t5, t7, t11, mid, rd, h1, h2, h3, a0, a1, a2, a3, a4, a5, nes, wc, hmu1, hms, t10, mx, jx, j2, Ne.symm j2, b1, b2, b3], by simp -dsimp [t0, t1, t4, t5, t7, t11, mid, rd, h1, h2, h3, a0, a1, a2, a3, a4, a5, nes, wc, hmu1, hms, t10, mx, jx, j2, Ne.symm j2, b1, b2, b3], fun j j1 j2 => by simp -dsimp [b1, b2, b3, far (show j < s.n by omega), show ¬ j = id by omega, j2, out j j1 j2], tz⟩, by simp -dsimp [t7, wc], by omega, by omega, by omega, by simp⟩
  · rintro s ⟨c, id, p', st, e, t7, hc6, hp0, hpc, hend⟩
    obtain rfl := hend rfl
    obtain ⟨t0, t1, t4, t5, hmu, i0, i1, mz, mid, rd, out, tight⟩ := e
    have a0 : ¬ rid = id := by omega
    have a1 : ¬ id = rid := by omega
    have a2 : ¬ n = id := by omega
    have a3 : ¬ id = n := by omega
    have a4 : ¬ n = rid := by omega
    have a5 : ¬ rid = n := by omega
    have h1 := far i1
    have h2 := far (show rid < s.n by omega)
    have h3 := far (show n < s.n by omega)
    obtain ⟨s1, s2, s3⟩ := st
    unfold sC at mid
    simp only at mid
    simp -dsimp [t0]
    refine callS_ (pick_at bs p' (by omega) _ _ _ rid (by simp [rd])) ?_
    rintro t m3 n3 ⟨hn3, ⟨r, rfl, hr0, hr1⟩, rfl⟩
    have b1 := far (show id < n3 by omega)
    have b2 := far (show rid < n3 by omega)
    have b3 := far (show n < n3 by omega)
    by_cases r0 : r = 0
    · have hcr := fun kk => storeCrashS_fn ⟨s1, s2, s3⟩ kk tight.small
      have tcr := fun kk => crash_tight tight kk
      simp -dsimp [t0, t1, t4, t5, mz, mid, rd, h1, h2, h3, a0, a1, a2, a3, a4, a5, nes, r0, b1, b2, b3]
      refine twp_draw (List.range 18) [id] (List.replicate 12 [0] ++ [[], [], [], [], [], []]) (List.replicate 17 [0] ++ [[]]) (by kernel_rfl) (by kernel_rfl) (by kernel_rfl) (by kernel_rfl) ?_
      simp -dsimp [List.range_succ, t0, t1, t4, t5, mz, mid, rd, h1, h2, h3, a0, a1, a2, a3, a4, a5, nes, r0, b1, b2, b3]
      refine callS_ (pick_at bs (p' + 1) (by omega) _ _ _ rid (by simp)) ?_
      rintro t m4 n4 ⟨hn4, ⟨r2, rfl, hr20, hr21⟩, rfl⟩
      have c1 := far (show id < n4 by omega)
      have c2 := far (show rid < n4 by omega)
      have c3 := far (show n < n4 by omega)
      have hcr2 := hcr (IntKind.wrap .i64 (s3 + r2))
      have tz := tcr (IntKind.wrap .i64 (s3 + r2))
      generalize storeCrash ⟨s1, s2, s3⟩ (IntKind.wrap .i64 (s3 + r2)) = Z at *
      generalize crashOk ⟨s1, s2, s3⟩ (IntKind.wrap .i64 (s3 + r2)) = okz at *
      obtain ⟨z1, z2, z3⟩ := Z
      simp -dsimp [List.range_succ, t0, t1, t4, t5, mz, mid, rd, h1, h2, h3, a0, a1, a2, a3, a4, a5, nes, r0, b1, b2, b3, c1, c2, c3]
      refine call_ hcr2 (by simp -dsimp) ?_
      simp -dsimp [List.range_succ, t0, t1, t4, t5, mz, mid, rd, h1, h2, h3, a0, a1, a2, a3, a4, a5, nes, r0, b1, b2, b3, c1, c2, c3]
      refine callS_ (odd_at bs (p' + 1 + 1) (by omega) k (by omega) _ _ rid (by simp [t0, t1, t4, t5, mz, mid, rd, h1, h2, h3, a0, a1, a2, a3, a4, a5, nes, r0, b1, b2, b3, c1, c2, c3])) ?_
      rintro t m5 n5 ⟨hn5, ⟨bb, rfl, hbb⟩, P2, hP2, hP3, rfl⟩
      have v1 := far (show id < n5 by omega)
      have v2 := far (show rid < n5 by omega)
      have v3 := far (show n < n5 by omega)
      have hb := ft bb
      rcases hb with rfl | rfl
      · simp -dsimp [t0, t1, t4, t5, mz, mid, rd, h1, h2, h3, a0, a1, a2, a3, a4, a5, nes, r0, b1, b2, b3, c1, c2, c3, v1, v2, v3]
        refine ⟨by omega, ⟨_, by simp -dsimp [t0, t1, t4, t5, mz, mid, rd, h1, h2, h3, a0, a1, a2, a3, a4, a5, nes, r0, b1, b2, b3, c1, c2, c3, v1, v2, v3] <;> rfl, ⟨z1, z2, z3⟩, ⟨by have := tz.1; simp only at this ⊢; omega, by have := tz.2.1; simp only at this ⊢; omega⟩, rfl⟩, fun j j1 j2 => ?_, P2, by omega, by omega, by simp -dsimp [t0, t1, t4, t5, mz, mid, rd, h1, h2, h3, a0, a1, a2, a3, a4, a5, nes, r0, b1, b2, b3, c1, c2, c3, v1, v2, v3]⟩
        simp -dsimp [t0, t1, t4, t5, mz, mid, rd, h1, h2, h3, a0, a1, a2, a3, a4, a5, nes, r0, b1, b2, b3, c1, c2, c3, v1, v2, v3, show ¬ j = n by omega, show ¬ j = id by omega, far (show j < s.n by omega), j2, out j j1 j2]
      · simp -dsimp [t0, t1, t4, t5, mz, mid, rd, h1, h2, h3, a0, a1, a2, a3, a4, a5, nes, r0, b1, b2, b3, c1, c2, c3, v1, v2, v3]
        refine callS_ (pick_at bs P2 (by omega) _ _ _ rid (by simp)) ?_
        rintro t m6 n6 ⟨hn6, ⟨r3, rfl, hr30, hr31⟩, rfl⟩
        have w1 := far (show id < n6 by omega)
        have w2 := far (show rid < n6 by omega)
        have w3 := far (show n < n6 by omega)
        by_cases q0 : r3 = 0
        · simp -dsimp [t0, t1, t4, t5, mz, mid, rd, h1, h2, h3, a0, a1, a2, a3, a4, a5, nes, r0, b1, b2, b3, c1, c2, c3, v1, v2, v3, w1, w2, w3, q0]
          refine callS_ (spoil_z bs (P2 + 1) (by omega) z1 (by have := tz.1; simp only at this; omega) _ _ rid (by omega) (by simp)) ?_
          rintro t m7 n7 ⟨hn7, ⟨x, ⟨y, hy, rfl⟩, rfl⟩, P4, hP4, hP5, rfl⟩
          have u1 := far (show id < n7 by omega)
          have u2 := far (show rid < n7 by omega)
          have u3 := far (show n < n7 by omega)
          simp -dsimp [t0, t1, t4, t5, mz, mid, rd, h1, h2, h3, a0, a1, a2, a3, a4, a5, nes, r0, b1, b2, b3, c1, c2, c3, v1, v2, v3, w1, w2, w3, q0, u1, u2, u3]
          refine ⟨by omega, ⟨_, by simp -dsimp [t0, t1, t4, t5, mz, mid, rd, h1, h2, h3, a0, a1, a2, a3, a4, a5, nes, r0, b1, b2, b3, c1, c2, c3, v1, v2, v3, w1, w2, w3, u1, u2, u3] <;> rfl, ⟨y, z2, z3⟩, ⟨hy, by have := tz.2.1; simp only at this ⊢; omega⟩, rfl⟩, fun j j1 j2 => ?_, P4, by omega, by omega, by simp -dsimp [t0, t1, t4, t5, mz, mid, rd, h1, h2, h3, a0, a1, a2, a3, a4, a5, nes, r0, b1, b2, b3, c1, c2, c3, v1, v2, v3, w1, w2, w3, u1, u2, u3]⟩
          simp -dsimp [t0, t1, t4, t5, mz, mid, rd, h1, h2, h3, a0, a1, a2, a3, a4, a5, nes, r0, b1, b2, b3, c1, c2, c3, v1, v2, v3, w1, w2, w3, u1, u2, u3, show ¬ j = n by omega, show ¬ j = id by omega, far (show j < s.n by omega), j2, out j j1 j2]
        by_cases q1 : r3 = 1
        · simp -dsimp [t0, t1, t4, t5, mz, mid, rd, h1, h2, h3, a0, a1, a2, a3, a4, a5, nes, r0, b1, b2, b3, c1, c2, c3, v1, v2, v3, w1, w2, w3, q0, q1]
          refine ⟨by omega, ⟨_, by simp -dsimp [t0, t1, t4, t5, mz, mid, rd, h1, h2, h3, a0, a1, a2, a3, a4, a5, nes, r0, b1, b2, b3, c1, c2, c3, v1, v2, v3, w1, w2, w3] <;> rfl, ⟨z1, z2, IntKind.wrap .i64 ((z2.length : Int) + 1)⟩, ⟨by have := tz.1; simp only at this ⊢; omega, by have := tz.2.1; simp only at this ⊢; omega⟩, rfl⟩, fun j j1 j2 => ?_, P2 + 1, by omega, by omega, by simp -dsimp [t0, t1, t4, t5, mz, mid, rd, h1, h2, h3, a0, a1, a2, a3, a4, a5, nes, r0, b1, b2, b3, c1, c2, c3, v1, v2, v3, w1, w2, w3]⟩
          simp -dsimp [t0, t1, t4, t5, mz, mid, rd, h1, h2, h3, a0, a1, a2, a3, a4, a5, nes, r0, b1, b2, b3, c1, c2, c3, v1, v2, v3, w1, w2, w3, show ¬ j = n by omega, show ¬ j = id by omega, far (show j < s.n by omega), j2, out j j1 j2]
        · simp -dsimp [t0, t1, t4, t5, mz, mid, rd, h1, h2, h3, a0, a1, a2, a3, a4, a5, nes, r0, b1, b2, b3, c1, c2, c3, v1, v2, v3, w1, w2, w3, q0, q1]
          refine callS_ (spoil_z bs (P2 + 1) (by omega) z2 (by have := tz.2.1; simp only at this; omega) _ _ rid (by omega) (by simp)) ?_
          rintro t m7 n7 ⟨hn7, ⟨x, ⟨y, hy, rfl⟩, rfl⟩, P4, hP4, hP5, rfl⟩
          have u1 := far (show id < n7 by omega)
          have u2 := far (show rid < n7 by omega)
          have u3 := far (show n < n7 by omega)
          simp -dsimp [t0, t1, t4, t5, mz, mid, rd, h1, h2, h3, a0, a1, a2, a3, a4, a5, nes, r0, b1, b2, b3, c1, c2, c3, v1, v2, v3, w1, w2, w3, q0, q1, u1, u2, u3]
          refine ⟨by omega, ⟨_, by simp -dsimp [t0, t1, t4, t5, mz, mid, rd, h1, h2, h3, a0, a1, a2, a3, a4, a5, nes, r0, b1, b2, b3, c1, c2, c3, v1, v2, v3, w1, w2, w3, u1, u2, u3] <;> rfl, ⟨z1, y, z3⟩, ⟨by have := tz.1; simp only at this ⊢; omega, hy⟩, rfl⟩, fun j j1 j2 => ?_, P4, by omega, by omega, by simp -dsimp [t0, t1, t4, t5, mz, mid, rd, h1, h2, h3, a0, a1, a2, a3, a4, a5, nes, r0, b1, b2, b3, c1, c2, c3, v1, v2, v3, w1, w2, w3, u1, u2, u3]⟩
          simp -dsimp [t0, t1, t4, t5, mz, mid, rd, h1, h2, h3, a0, a1, a2, a3, a4, a5, nes, r0, b1, b2, b3, c1, c2, c3, v1, v2, v3, w1, w2, w3, u1, u2, u3, show ¬ j = n by omega, show ¬ j = id by omega, far (show j < s.n by omega), j2, out j j1 j2]
    · have tz := tight
      simp -dsimp [t0, t1, t4, t5, mz, mid, rd, h1, h2, h3, a0, a1, a2, a3, a4, a5, nes, r0, b1, b2, b3]
      refine callS_ (odd_at bs (p' + 1) (by omega) k (by omega) _ _ rid (by simp [t0, t1, t4, t5, mz, mid, rd, h1, h2, h3, a0, a1, a2, a3, a4, a5, nes, r0, b1, b2, b3])) ?_
      rintro t m5 n5 ⟨hn5, ⟨bb, rfl, hbb⟩, P2, hP2, hP3, rfl⟩
      have v1 := far (show id < n5 by omega)
      have v2 := far (show rid < n5 by omega)
      have v3 := far (show n < n5 by omega)
      have hb := ft bb
      rcases hb with rfl | rfl
      · simp -dsimp [t0, t1, t4, t5, mz, mid, rd, h1, h2, h3, a0, a1, a2, a3, a4, a5, nes, r0, b1, b2, b3, v1, v2, v3]
        refine ⟨by omega, ⟨_, by simp -dsimp [t0, t1, t4, t5, mz, mid, rd, h1, h2, h3, a0, a1, a2, a3, a4, a5, nes, r0, b1, b2, b3, v1, v2, v3] <;> rfl, ⟨s1, s2, s3⟩, ⟨by have := tz.1; simp only at this ⊢; omega, by have := tz.2.1; simp only at this ⊢; omega⟩, rfl⟩, fun j j1 j2 => ?_, P2, by omega, by omega, by simp -dsimp [t0, t1, t4, t5, mz, mid, rd, h1, h2, h3, a0, a1, a2, a3, a4, a5, nes, r0, b1, b2, b3, v1, v2, v3]⟩
        simp -dsimp [t0, t1, t4, t5, mz, mid, rd, h1, h2, h3, a0, a1, a2, a3, a4, a5, nes, r0, b1, b2, b3, v1, v2, v3, show ¬ j = n by omega, show ¬ j = id by omega, far (show j < s.n by omega), j2, out j j1 j2]
      · simp -dsimp [t0, t1, t4, t5, mz, mid, rd, h1, h2, h3, a0, a1, a2, a3, a4, a5, nes, r0, b1, b2, b3, v1, v2, v3]
        refine callS_ (pick_at bs P2 (by omega) _ _ _ rid (by simp)) ?_
        rintro t m6 n6 ⟨hn6, ⟨r3, rfl, hr30, hr31⟩, rfl⟩
        have w1 := far (show id < n6 by omega)
        have w2 := far (show rid < n6 by omega)
        have w3 := far (show n < n6 by omega)
        by_cases q0 : r3 = 0
        · simp -dsimp [t0, t1, t4, t5, mz, mid, rd, h1, h2, h3, a0, a1, a2, a3, a4, a5, nes, r0, b1, b2, b3, v1, v2, v3, w1, w2, w3, q0]
          refine callS_ (spoil_z bs (P2 + 1) (by omega) s1 (by have := tz.1; simp only at this; omega) _ _ rid (by omega) (by simp)) ?_
          rintro t m7 n7 ⟨hn7, ⟨x, ⟨y, hy, rfl⟩, rfl⟩, P4, hP4, hP5, rfl⟩
          have u1 := far (show id < n7 by omega)
          have u2 := far (show rid < n7 by omega)
          have u3 := far (show n < n7 by omega)
          simp -dsimp [t0, t1, t4, t5, mz, mid, rd, h1, h2, h3, a0, a1, a2, a3, a4, a5, nes, r0, b1, b2, b3, v1, v2, v3, w1, w2, w3, q0, u1, u2, u3]
          refine ⟨by omega, ⟨_, by simp -dsimp [t0, t1, t4, t5, mz, mid, rd, h1, h2, h3, a0, a1, a2, a3, a4, a5, nes, r0, b1, b2, b3, v1, v2, v3, w1, w2, w3, u1, u2, u3] <;> rfl, ⟨y, s2, s3⟩, ⟨hy, by have := tz.2.1; simp only at this ⊢; omega⟩, rfl⟩, fun j j1 j2 => ?_, P4, by omega, by omega, by simp -dsimp [t0, t1, t4, t5, mz, mid, rd, h1, h2, h3, a0, a1, a2, a3, a4, a5, nes, r0, b1, b2, b3, v1, v2, v3, w1, w2, w3, u1, u2, u3]⟩
          simp -dsimp [t0, t1, t4, t5, mz, mid, rd, h1, h2, h3, a0, a1, a2, a3, a4, a5, nes, r0, b1, b2, b3, v1, v2, v3, w1, w2, w3, u1, u2, u3, show ¬ j = n by omega, show ¬ j = id by omega, far (show j < s.n by omega), j2, out j j1 j2]
        by_cases q1 : r3 = 1
        · simp -dsimp [t0, t1, t4, t5, mz, mid, rd, h1, h2, h3, a0, a1, a2, a3, a4, a5, nes, r0, b1, b2, b3, v1, v2, v3, w1, w2, w3, q0, q1]
          refine ⟨by omega, ⟨_, by simp -dsimp [t0, t1, t4, t5, mz, mid, rd, h1, h2, h3, a0, a1, a2, a3, a4, a5, nes, r0, b1, b2, b3, v1, v2, v3, w1, w2, w3] <;> rfl, ⟨s1, s2, IntKind.wrap .i64 ((s2.length : Int) + 1)⟩, ⟨by have := tz.1; simp only at this ⊢; omega, by have := tz.2.1; simp only at this ⊢; omega⟩, rfl⟩, fun j j1 j2 => ?_, P2 + 1, by omega, by omega, by simp -dsimp [t0, t1, t4, t5, mz, mid, rd, h1, h2, h3, a0, a1, a2, a3, a4, a5, nes, r0, b1, b2, b3, v1, v2, v3, w1, w2, w3]⟩
          simp -dsimp [t0, t1, t4, t5, mz, mid, rd, h1, h2, h3, a0, a1, a2, a3, a4, a5, nes, r0, b1, b2, b3, v1, v2, v3, w1, w2, w3, show ¬ j = n by omega, show ¬ j = id by omega, far (show j < s.n by omega), j2, out j j1 j2]
        · simp -dsimp [t0, t1, t4, t5, mz, mid, rd, h1, h2, h3, a0, a1, a2, a3, a4, a5, nes, r0, b1, b2, b3, v1, v2, v3, w1, w2, w3, q0, q1]
          refine callS_ (spoil_z bs (P2 + 1) (by omega) s2 (by have := tz.2.1; simp only at this; omega) _ _ rid (by omega) (by simp)) ?_
          rintro t m7 n7 ⟨hn7, ⟨x, ⟨y, hy, rfl⟩, rfl⟩, P4, hP4, hP5, rfl⟩
          have u1 := far (show id < n7 by omega)
          have u2 := far (show rid < n7 by omega)
          have u3 := far (show n < n7 by omega)
          simp -dsimp [t0, t1, t4, t5, mz, mid, rd, h1, h2, h3, a0, a1, a2, a3, a4, a5, nes, r0, b1, b2, b3, v1, v2, v3, w1, w2, w3, q0, q1, u1, u2, u3]
          refine ⟨by omega, ⟨_, by simp -dsimp [t0, t1, t4, t5, mz, mid, rd, h1, h2, h3, a0, a1, a2, a3, a4, a5, nes, r0, b1, b2, b3, v1, v2, v3, w1, w2, w3, u1, u2, u3] <;> rfl, ⟨s1, y, s3⟩, ⟨by have := tz.1; simp only at this ⊢; omega, hy⟩, rfl⟩, fun j j1 j2 => ?_, P4, by omega, by omega, by simp -dsimp [t0, t1, t4, t5, mz, mid, rd, h1, h2, h3, a0, a1, a2, a3, a4, a5, nes, r0, b1, b2, b3, v1, v2, v3, w1, w2, w3, u1, u2, u3]⟩
          simp -dsimp [t0, t1, t4, t5, mz, mid, rd, h1, h2, h3, a0, a1, a2, a3, a4, a5, nes, r0, b1, b2, b3, v1, v2, v3, w1, w2, w3, u1, u2, u3, show ¬ j = n by omega, show ¬ j = id by omega, far (show j < s.n by omega), j2, out j j1 j2]
theorem drawStoreOk_z (bs : List UInt8) (m : Mem) (n : Nat) : FnS Tryz.prog 21 m n [.v (codeV bs)] (Drawn SomeStore m n) := by
  refine Drawn_of ⟨_, Tryz.func21, rfl, rfl⟩ fun hfr => ?_
  refine FnS_of (rs := [.cell 2 25]) false Tryz.func21 rfl rfl rfl rfl (Nat.le_of_ble_eq_true rfl) ?_
  simp -dsimp
  refine callS_ (open_at bs _ _) ?_
  rintro t m1 n1 ⟨rfl, rfl, rfl⟩
  simp -dsimp
  refine callS_ (store_z (bs.take 2000) 0 (by omega) 2 (by omega) (by omega) _ _ _ (by omega) (by simp)) ?_
  rintro t m2 n2 ⟨hn2, ⟨x, ⟨s, hs, rfl⟩, rfl⟩, p2, hp1, hp2, rfl⟩
  simp -dsimp [Store.v]
  refine ⟨by omega, ⟨_, by simp <;> rfl, ⟨s, hs, rfl⟩⟩, fun j j1 => ?_⟩
  simp [far j1]
theorem drawStoreOpen_z (bs : List UInt8) (m : Mem) (n : Nat) : FnS Tryz.prog 41 m n [.v (codeV bs)] (Drawn SomeStore m n) := by
  refine Drawn_of ⟨_, Tryz.func41, rfl, rfl⟩ fun hfr => ?_
  refine FnS_of (rs := [.cell 2 25]) false Tryz.func41 rfl rfl rfl rfl (Nat.le_of_ble_eq_true rfl) ?_
  simp -dsimp
  refine callS_ (open_at bs _ _) ?_
  rintro t m1 n1 ⟨rfl, rfl, rfl⟩
  simp -dsimp
  refine callS_ (store_z (bs.take 2000) 0 (by omega) 9 (by omega) (by omega) _ _ _ (by omega) (by simp)) ?_
  rintro t m2 n2 ⟨hn2, ⟨x, ⟨s, hs, rfl⟩, rfl⟩, p2, hp1, hp2, rfl⟩
  simp -dsimp [Store.v]
  refine ⟨by omega, ⟨_, by simp <;> rfl, ⟨s, hs, rfl⟩⟩, fun j j1 => ?_⟩
  simp [far j1]
theorem drawStoreSync_z (bs : List UInt8) (m : Mem) (n : Nat) : FnS Tryz.prog 28 m n [.v (codeV bs)] (Drawn SomeStore m n) := by
  refine Drawn_of ⟨_, Tryz.func28, rfl, rfl⟩ fun hfr => ?_
  refine FnS_of (rs := [.cell 2 25]) false Tryz.func28 rfl rfl rfl rfl (Nat.le_of_ble_eq_true rfl) ?_
  simp -dsimp
  refine callS_ (open_at bs _ _) ?_
  rintro t m1 n1 ⟨rfl, rfl, rfl⟩
  simp -dsimp
  refine callS_ (store_z (bs.take 2000) 0 (by omega) 9 (by omega) (by omega) _ _ _ (by omega) (by simp)) ?_
  rintro t m2 n2 ⟨hn2, ⟨x, ⟨s, hs, rfl⟩, rfl⟩, p2, hp1, hp2, rfl⟩
  simp -dsimp [Store.v]
  refine ⟨by omega, ⟨_, by simp <;> rfl, ⟨s, hs, rfl⟩⟩, fun j j1 => ?_⟩
  simp [far j1]
theorem drawStoreMend_z (bs : List UInt8) (m : Mem) (n : Nat) : FnS Tryz.prog 37 m n [.v (codeV bs)] (Drawn SomeStore m n) := by
  refine Drawn_of ⟨_, Tryz.func37, rfl, rfl⟩ fun hfr => ?_
  refine FnS_of (rs := [.cell 2 25]) false Tryz.func37 rfl rfl rfl rfl (Nat.le_of_ble_eq_true rfl) ?_
  simp -dsimp
  refine callS_ (open_at bs _ _) ?_
  rintro t m1 n1 ⟨rfl, rfl, rfl⟩
  simp -dsimp
  refine callS_ (store_z (bs.take 2000) 0 (by omega) 6 (by omega) (by omega) _ _ _ (by omega) (by simp)) ?_
  rintro t m2 n2 ⟨hn2, ⟨x, ⟨s, hs, rfl⟩, rfl⟩, p2, hp1, hp2, rfl⟩
  simp -dsimp [Store.v]
  refine ⟨by omega, ⟨_, by simp <;> rfl, ⟨s, hs, rfl⟩⟩, fun j j1 => ?_⟩
  simp [far j1]
theorem drawStoreNew_z (bs : List UInt8) (m : Mem) (n : Nat) : FnS Tryz.prog 31 m n [.v (codeV bs)] (Drawn SomePlace m n) := by
  refine Drawn_of ⟨_, Tryz.func31, rfl, rfl⟩ fun hfr => ?_
  refine FnS_of (rs := [.cell 2 48]) false Tryz.func31 rfl rfl rfl rfl (Nat.le_of_ble_eq_true rfl) ?_
  simp -dsimp
  refine callS_ (open_at bs _ _) ?_
  rintro t m1 n1 ⟨rfl, rfl, rfl⟩
  simp -dsimp
  refine callS_ (place_z (bs.take 2000) 0 (by omega) 4 (by omega) (by omega) _ _ _ (by omega) (by simp)) ?_
  rintro t m2 n2 ⟨hn2, ⟨x, hx, rfl⟩, p2, hp1, hp2, rfl⟩
  obtain ⟨q, hq1, hq2, hq3, rfl⟩ := hx
  simp -dsimp [Place.v, storyV]
  refine ⟨by omega, ⟨_, by simp <;> rfl, ⟨q, hq1, hq2, hq3, rfl⟩⟩, fun j j1 => ?_⟩
  simp [far j1]
def SomeStoreInt (x : V) : Prop := ∃ (s : Store) (k : Int), s.tiny ∧ x = .tup [s.v, .int .i64 k]
theorem drawStoreCrash_z (bs : List UInt8) (m : Mem) (n : Nat) : FnS Tryz.prog 25 m n [.v (codeV bs)] (Drawn SomeStoreInt m n) := by
  refine Drawn_of ⟨_, Tryz.func25, rfl, rfl⟩ fun hfr => ?_
  refine FnS_of (rs := [.cell 2 25, .tmp 3]) false Tryz.func25 rfl rfl rfl rfl (Nat.le_of_ble_eq_true rfl) ?_
  simp -dsimp
  refine callS_ (open_at bs _ _) ?_
  rintro t m1 n1 ⟨rfl, rfl, rfl⟩
  simp -dsimp
  refine callS_ (store_z (bs.take 2000) 0 (by omega) 9 (by omega) (by omega) _ _ _ (by omega) (by simp)) ?_
  rintro t m2 n2 ⟨hn2, ⟨x, ⟨s, hs, rfl⟩, rfl⟩, p2, hp1, hp2, rfl⟩
  obtain ⟨s1, s2, s3⟩ := s
  have f1 := far (show n + 1 < n2 by omega)
  have f2 := far (show n < n2 by omega)
  simp -dsimp [f1, f2, nes]
  refine twp_draw [0, 1, 2, 3, 4, 5, 6, 7, 8, 9, 10, 11, 14, 18, 12, 13, 15, 16, 17, 19, 20, 21, 22, 23, 24] [n2] (List.replicate 25 [0]) (List.replicate 25 [0]) (by kernel_rfl) (by kernel_rfl) (by kernel_rfl) (by kernel_rfl) ?_
  simp -dsimp [List.range_succ, f1, f2, nes]
  refine callS_ (pick_at (bs.take 2000) p2 (by omega) _ _ _ (n + 1) (by simp [f1, f2])) ?_
  rintro t m3 n3 ⟨hn3, ⟨r, rfl, hr0, hr1⟩, rfl⟩
  have g1 := far (show n + 1 < n3 by omega)
  have g2 := far (show n < n3 by omega)
  have g3 := far (show n2 < n3 by omega)
  simp -dsimp [List.range_succ, f1, f2, g1, g2, g3, nes]
  refine callS_ (pick_at (bs.take 2000) (p2 + 1) (by omega) _ _ _ (n + 1) (by simp [f1, f2])) ?_
  rintro t m4 n4 ⟨hn4, ⟨r4, rfl, hr40, hr41⟩, rfl⟩
  have i1 := far (show n + 1 < n4 by omega)
  have i2 := far (show n < n4 by omega)
  have i3 := far (show n2 < n4 by omega)
  simp -dsimp [List.range_succ, f1, f2, g1, g2, g3, i1, i2, i3, nes]
  refine callS_ (pick_at (bs.take 2000) (p2 + 1 + 1) (by omega) _ _ _ (n + 1) (by simp [f1, f2])) ?_
  rintro t m5 n5 ⟨hn5, ⟨r5, rfl, hr50, hr51⟩, rfl⟩
  have j1 := far (show n + 1 < n5 by omega)
  have j2 := far (show n < n5 by omega)
  have j3 := far (show n2 < n5 by omega)
  simp -dsimp [List.range_succ, f1, f2, g1, g2, g3, i1, i2, i3, j1, j2, j3, nes]
  refine ⟨by omega, ⟨_, by simp <;> rfl, ⟨⟨s1, s2, s3⟩, _, hs, rfl⟩⟩, fun j j1 => ?_⟩
  simp [far j1, far (show j < n2 by omega), show ¬ j = n + 1 by omega]
def SomeStoreDeed (x : V) : Prop := ∃ (s : Store) (a : Deed), s.tiny ∧ a.words.length ≤ 200 ∧ x = .tup [s.v, a.v]
theorem drawStoreAct_z (bs : List UInt8) (m : Mem) (n : Nat) : FnS Tryz.prog 39 m n [.v (codeV bs)] (Drawn SomeStoreDeed m n) := by
  refine Drawn_of ⟨_, Tryz.func39, rfl, rfl⟩ fun hfr => ?_
  refine FnS_of (rs := [.cell 2 25, .cell 3 35]) false Tryz.func39 rfl rfl rfl rfl (Nat.le_of_ble_eq_true rfl) ?_
  simp -dsimp
  refine callS_ (open_at bs _ _) ?_
  rintro t m1 n1 ⟨rfl, rfl, rfl⟩
  simp -dsimp
  refine callS_ (store_z (bs.take 2000) 0 (by omega) 9 (by omega) (by omega) _ _ _ (by omega) (by simp)) ?_
  rintro t m2 n2 ⟨hn2, ⟨x, ⟨s, hs, rfl⟩, rfl⟩, p2, hp1, hp2, rfl⟩
  have hop := storeOpenS_fn s hs.small
  have hshort := open_short s
  generalize storeOpen s = D at *
  generalize storeOk s = oks at *
  obtain ⟨⟨D1, D2⟩, D3⟩ := D
  obtain ⟨s1, s2, s3⟩ := s
  have f1 := far (show n + 1 < n2 by omega)
  have f2 := far (show n < n2 by omega)
  have f3 := far (show n + 1 + 1 < n2 by omega)
  simp -dsimp [f1, f2, f3, nes]
  refine call_ hop (by simp -dsimp) ?_
  simp -dsimp [f1, f2, f3, nes]
  refine twp_draw (List.range 7) [n2, n2 + 1 + 1] (List.replicate 7 [0, 1]) (List.replicate 7 [0, 1]) (by kernel_rfl) (by kernel_rfl) (by kernel_rfl) (by kernel_rfl) ?_
  simp -dsimp [List.range_succ, f1, f2, f3, nes]
  refine callS_ (deed_zA (bs.take 2000) p2 (by omega) ⟨D1, D2⟩ hshort _ _ (n + 1 + 1) (by omega) (by simp [f1, f2, f3])) ?_
  rintro t m3 n3 ⟨hn3, ⟨x, ⟨a, ha, rfl⟩, rfl⟩, p3, hp3, hp4, rfl⟩
  obtain ⟨y1, y2, y3⟩ := a
  have g1 := far (show n + 1 < n3 by omega)
  have g2 := far (show n < n3 by omega)
  have g3 := far (show n + 1 + 1 < n3 by omega)
  have g4 := far (show n2 < n3 by omega)
  have g5 := far (show n2 + 1 + 1 < n3 by omega)
  simp -dsimp [List.range_succ, f1, f2, f3, g1, g2, g3, g4, g5, nes]
  refine ⟨by omega, ⟨_, by simp <;> rfl, ⟨⟨s1, s2, s3⟩, ⟨y1, y2, y3⟩, hs, ha, rfl⟩⟩, fun j j1 => ?_⟩
  simp [far j1, far (show j < n2 by omega), far (show j < n3 by omega), show ¬ j = n + 1 by omega, show ¬ j = n + 1 + 1 by omega]
end TL

/- Laws of stores: sound ones, crashes, syncs. -/
set_option linter.unusedSimpArgs false
set_option linter.unusedVariables false
set_option maxRecDepth 100000
set_option maxHeartbeats 4000000
set_option pp.maxSteps 1500
namespace TL
open Go Go.Proofs
attribute [local simp] marksV storyV codeV Claim.v Place.v Store.v
theorem noStore_no : storeOk noStore = false := by
  cases h : storeOk noStore
  · rfl
  · have := (placeOf_ok (s := noStore) (storeOk_iff.1 h).1)
    exact absurd this.2.1 (placeTx_pos this.1)
theorem lawStoreOk (bs : List UInt8) : FnZ Tryz.prog 5 [codeV bs] (.bool true) := by
  refine FnZ_of (rs := [.tmp 2]) false Tryz.func5 rfl rfl rfl rfl (Nat.le_of_ble_eq_true rfl) ?_
  by_cases h : (1048576 : Int) < bs.length
  · simp -dsimp [nes, nes8, nes9, h]
  simp -dsimp [nes, nes8, nes9, h]
  refine callS_ (drawStoreOk_z bs _ _) ?_
  rintro t m1 n1 ⟨hn1, ⟨x, ⟨s, hs, rfl⟩, rfl⟩, rfl⟩
  have small := hs.small
  have h1 := storeOk_fn s small
  have h2 := storeOkS_fn s small
  have h3 := storeOk_fn ⟨s.saved, [], 0⟩ ⟨small.1, by simp⟩
  have h4 := storeOk_fn ⟨s.saved, s.log, 0⟩ small
  have h5 := storeOk_fn noStore ⟨by simp [noStore], by simp [noStore]⟩
  have e3 : storeOk s = true → storeOk ⟨s.saved, [], 0⟩ = true := fun h => by
    obtain ⟨g1, g2, g3, g4⟩ := storeOk_iff.1 h
    exact storeOk_iff.2 ⟨g1, by simp, by simp, by simp⟩
  have e4 : storeOk s = true → storeOk ⟨s.saved, s.log, 0⟩ = true := fun h => by
    obtain ⟨g1, g2, g3, g4⟩ := storeOk_iff.1 h
    exact storeOk_iff.2 ⟨g1, g2, by simp, by simp⟩
  rw [noStore_no] at h5
  have hk := ft (storeOk s)
  generalize storeOk s = o at *
  generalize storeOk ⟨s.saved, [], 0⟩ = o3 at *
  generalize storeOk ⟨s.saved, s.log, 0⟩ = o4 at *
  clear hs small
  obtain ⟨s1, s2, s3⟩ := s
  simp -dsimp [nes, nes8, nes9]
  refine call_ h1 (by simp -dsimp) ?_
  simp -dsimp [nes, nes8, nes9]
  refine call_ h2 (by simp -dsimp) ?_
  rcases hk with rfl | rfl
  · simp -dsimp [nes, nes8, nes9]
    refine call_ h5 (by simp -dsimp [noStore]) ?_
    simp -dsimp [nes, nes8, nes9]
    refine call_ alive_fn (by simp -dsimp) ?_
    simp -dsimp [nes, nes8, nes9]
  · obtain rfl := e3 rfl
    obtain rfl := e4 rfl
    simp -dsimp [nes, nes8, nes9]
    refine call_ h3 (by simp -dsimp) ?_
    simp -dsimp [nes, nes8, nes9]
    refine call_ h4 (by simp -dsimp) ?_
    simp -dsimp [nes, nes8, nes9]
    refine call_ h5 (by simp -dsimp [noStore]) ?_
    simp -dsimp [nes, nes8, nes9]
    refine call_ alive_fn (by simp -dsimp) ?_
    simp -dsimp [nes, nes8, nes9]
theorem lawStoreCrash (bs : List UInt8) : FnZ Tryz.prog 6 [codeV bs] (.bool true) := by
  refine FnZ_of (rs := [.tmp 2]) false Tryz.func6 rfl rfl rfl rfl (Nat.le_of_ble_eq_true rfl) ?_
  by_cases h : (1048576 : Int) < bs.length
  · simp -dsimp [nes, nes8, nes9, h]
  simp -dsimp [nes, nes8, nes9, h]
  refine callS_ (drawStoreCrash_z bs _ _) ?_
  rintro t m1 n1 ⟨hn1, ⟨x, ⟨s, k, hs, rfl⟩, rfl⟩, rfl⟩
  have small := hs.small
  have h1 := storeCrash_fn s k small
  have h2 := storeCrashS_fn s k small
  have hk := ft (crashOk s k)
  rcases hk with hk | hk
  · rw [hk, crash_no hk] at h1 h2
    clear hs small
    obtain ⟨s1, s2, s3⟩ := s
    simp -dsimp [nes, nes8, nes9]
    refine call_ h1 (by simp -dsimp) ?_
    simp -dsimp [nes, nes8, nes9, noStore]
    refine call_ h2 (by simp -dsimp) ?_
    simp -dsimp [nes, nes8, nes9, noStore]
    refine call_ alive_fn (by simp -dsimp) ?_
    simp -dsimp [nes, nes8, nes9]
  · obtain ⟨a1, a2, a3, a4, a5, a6, a7, a8, a9⟩ := crash_again hk
    have sx : (storeCrash s k).small := by rw [a9]; exact ⟨small.1, by have := small.2; simp; omega⟩
    have h3 := storeCrash_fn (storeCrash s k) k sx
    have h4 := storeCrash_fn (storeCrash s k) s.sure sx
    have h5 := storeCrash_fn s s.sure small
    have h6 := storeOk_fn (storeCrash s k) sx
    rw [a4, a5] at h3
    rw [a6, a8] at h4
    rw [a7] at h5
    rw [a1] at h6
    rw [hk] at h1 h2
    generalize storeCrash s s.sure = z at *
    generalize storeCrash s k = x at *
    clear hs small a9 a8 a7 a6 a5 a4 a1 hk
    obtain ⟨s1, s2, s3⟩ := s
    obtain ⟨x1, x2, x3⟩ := x
    obtain ⟨z1, z2, z3⟩ := z
    simp only at a2 a3
    subst a2
    simp -dsimp [nes, nes8, nes9]
    refine call_ h1 (by simp -dsimp) ?_
    simp -dsimp [nes, nes8, nes9]
    refine call_ h2 (by simp -dsimp) ?_
    simp -dsimp [nes, nes8, nes9]
    refine call_ h3 (by simp -dsimp) ?_
    simp -dsimp [nes, nes8, nes9]
    refine call_ h4 (by simp -dsimp) ?_
    simp -dsimp [nes, nes8, nes9]
    refine call_ h5 (by simp -dsimp) ?_
    simp -dsimp [nes, nes8, nes9]
    refine call_ h6 (by simp -dsimp) ?_
    simp -dsimp [nes, nes8, nes9, a3]
end TL

/- What is sure cannot be lost. -/
set_option linter.unusedSimpArgs false
set_option linter.unusedVariables false
set_option maxRecDepth 100000
set_option maxHeartbeats 4000000
set_option pp.maxSteps 1500
namespace TL
open Go Go.Proofs
attribute [local simp] marksV storyV codeV Claim.v Place.v Store.v
def Isy (x : Store) (q : Nat) (e : Nat) (s : S) : Prop := ∃ k : Nat, s.tm 4 = .ptr q 0 ∧ q < s.n ∧ s.m q = some (.box 25 3 [.v (.str x.saved), .v (.str x.log), .v (.int .i64 x.sure)]) ∧ s.tm 8 = .v (.int .i64 k) ∧ k ≤ x.log.length ∧ (e = 1 → k = x.log.length)
theorem lawStoreSync (bs : List UInt8) : FnZ Tryz.prog 7 [codeV bs] (.bool true) := by
  refine FnZ_of (rs := [.tmp 2]) false Tryz.func7 rfl rfl rfl rfl (Nat.le_of_ble_eq_true rfl) ?_
  by_cases h : (1048576 : Int) < bs.length
  · simp -dsimp [nes, nes8, nes9, h]
  simp -dsimp [nes, nes8, nes9, h]
  refine callS_ (drawStoreSync_z bs _ _) ?_
  rintro t m1 n1 ⟨hn1, ⟨x, ⟨s, hs, rfl⟩, rfl⟩, rfl⟩
  have small := hs.small
  have h1 := storeSync_fn s small
  have h2 := storeSyncS_fn s small
  have hk := ft (storeOk s)
  rcases hk with hk | hk
  · have e : storeSync s = noStore := if_neg (by simp [hk])
    rw [hk, e] at h1 h2
    clear hs small
    obtain ⟨s1, s2, s3⟩ := s
    simp -dsimp [nes, nes8, nes9]
    refine call_ h1 (by simp -dsimp) ?_
    simp -dsimp [nes, nes8, nes9, noStore]
    refine call_ h2 (by simp -dsimp) ?_
    simp -dsimp [nes, nes8, nes9, noStore]
    refine call_ alive_fn (by simp -dsimp) ?_
    simp -dsimp [nes, nes8, nes9]
  · have e : storeSync s = ⟨s.saved, s.log, s.log.length⟩ := if_pos hk
    have ok2 : storeOk ⟨s.saved, s.log, s.log.length⟩ = true := by
      obtain ⟨g1, g2, g3, g4⟩ := storeOk_iff.1 hk
      exact storeOk_iff.2 ⟨g1, g2, by simp, by simp⟩
    have hcr := fun k => storeCrash_fn ⟨s.saved, s.log, s.log.length⟩ k small
    have hno : ∀ k : Int, k < s.log.length → crashOk ⟨s.saved, s.log, s.log.length⟩ k = false := fun k hlt => by
      cases hq : crashOk ⟨s.saved, s.log, s.log.length⟩ k
      · rfl
      · have := (crash_iff.1 hq).2.1; simp only at this; omega
    have hyes : crashOk ⟨s.saved, s.log, s.log.length⟩ s.log.length = true := crash_iff.2 ⟨ok2, by simp, by simp⟩
    have hsame : storeCrash ⟨s.saved, s.log, s.log.length⟩ s.log.length = ⟨s.saved, s.log, s.log.length⟩ := by unfold storeCrash; rw [if_pos hyes]; simp
    have hcl := hcr s.log.length
    rw [hyes, hsame] at hcl
    have h3 := storeSync_fn ⟨s.saved, s.log, s.log.length⟩ small
    have e3 : storeSync ⟨s.saved, s.log, s.log.length⟩ = ⟨s.saved, s.log, s.log.length⟩ := if_pos ok2
    rw [ok2, e3] at h3
    rw [hk, e] at h1 h2
    have hl2 := hs.2
    clear hs small hk e e3 hyes hsame ok2
    obtain ⟨s1, s2, s3⟩ := s
    simp only at h1 h2 h3 hcl hno hcr hl2
    simp -dsimp [nes, nes8, nes9]
    refine call_ h1 (by simp -dsimp) ?_
    simp -dsimp [nes, nes8, nes9]
    refine call_ h2 (by simp -dsimp) ?_
    simp -dsimp [nes, nes8, nes9]
    refine twp_loopC (Isy ⟨s1, s2, s2.length⟩ (n1 + 1 + 1) 0) (fun s => s2.length - natOf (s.tm 8)) (Isy ⟨s1, s2, s2.length⟩ (n1 + 1 + 1) 1) ?_ ?_ ?_
    · exact ⟨0, by simp -dsimp, (by simp -dsimp <;> omega), by simp -dsimp [nes], by simp -dsimp, by omega, by simp⟩
    · rintro s ⟨k, t4, hq, mq, t8, hk, hend⟩
      simp only at mq hk hend
      by_cases hlt : k < s2.length
      case neg =>
        simp -dsimp [nes, nes8, nes9, t4, t8, mq, hlt]
        exact ⟨k, by simp -dsimp [t4], by simp -dsimp [hq], by simp -dsimp [mq], by simp -dsimp [t8], hk, fun _ => by simp only; omega⟩
      have hlt' : (k : Int) < s2.length := by omega
      have wi : IntKind.wrap .i64 ((k : Int) + 1) = ((k + 1 : Nat) : Int) := by rw [w64 (by omega) (by omega)]; omega
      have hmu1 : s2.length - (k + 1) < s2.length - k := by omega
      have f1 := far hq
      have hc := hcr k
      rw [hno k hlt'] at hc
      generalize storeCrash ⟨s1, s2, s2.length⟩ k = Z at *
      obtain ⟨z1, z2, z3⟩ := Z
      simp -dsimp [nes, nes8, nes9, t4, t8, mq, hlt, hlt']
      refine call_ hc (by simp -dsimp) ?_
      simp -dsimp [nes, nes8, nes9, t4, t8, mq, f1, nes, wi, hmu1]
      exact ⟨k + 1, by simp -dsimp [t4], (by simp -dsimp <;> omega), by simp -dsimp [mq, f1], by simp -dsimp, by simp only; omega, by simp⟩
    · rintro s ⟨k, t4, hq, mq, t8, hk, hend⟩
      simp only at mq
      have f1 := far hq
      simp -dsimp [nes, nes8, nes9, t4, mq]
      refine call_ hcl (by simp -dsimp) ?_
      simp -dsimp [nes, nes8, nes9, t4, mq, f1, nes]
      refine call_ h3 (by simp -dsimp) ?_
      simp -dsimp [nes, nes8, nes9, t4, mq, f1, nes]
end TL

/- A cell lies in its block. -/
namespace TL
open Go
theorem lt_of_cell {W : World} {g : Nat} {v : Value} (h : W.cell? ⟨g, 0, none⟩ = some v) : g < W.heap.size := by
  unfold World.cell? at h
  split at h
  · rename_i hb; exact (Array.getElem?_eq_some_iff.1 hb).1
  · cases h
end TL

/- The library's variables at the start: what the world's shape gives. -/
namespace TL
open Go Go.Proofs
theorem gl_start {W : World} (h : W.ShapedOpen Tryz.prog) : Gl Tryz.prog (ZA W) W := by
  have n1 : Tryz.prog.globalNamed "internal/bytealg.MaxLen" = some 0 := by kernel_rfl
  have hm : ∃ m, W.cell? ⟨0, 0, none⟩ = some (.int .i64 m) := Tryz.laysM145.s1_3 W h
  rintro g Q ⟨e, rfl⟩
  rw [n1] at e; cases e
  obtain ⟨m, hm⟩ := hm
  exact ⟨lt_of_cell hm, _, hm, m, rfl⟩
end TL
