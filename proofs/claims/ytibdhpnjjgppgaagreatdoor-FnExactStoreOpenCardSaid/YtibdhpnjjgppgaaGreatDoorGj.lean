/- TL: parts FnsD3, FnsJGa, FnsJGb, FnsJGc, FnsJGd, FnsJG, FnsE3, FnsE6, FnsE18p, FnsE5. -/
import Derived.Test.YtibdhpnjjgppgaaGreatDoorGi
import Derived.Test.YtibdhpnjjgppgaaGreatDoorGh
import Derived.Test.YtibdhpnjjgppgaaGreatDoorGf
/- Deeds at a desk: the program. -/
set_option linter.unusedSimpArgs false
set_option linter.unusedVariables false
set_option maxRecDepth 100000
set_option maxHeartbeats 4000000
set_option pp.maxSteps 1500
namespace TL
open Go Go.Proofs
attribute [local simp] marksV storyV codeV Claim.v Place.v Deed.v Desk.v
theorem do_bad1 (d : Desk) (kind num : Int) (words : List UInt8) (hd : d.small) (hk : deskOk d = true) (h0 : ¬ kind = 0) (hw : ¬ words = []) : FnZ Tryz.prog 11 [d.v, (⟨kind, num, words⟩ : Deed).v] (.tup [d.v, .bool false]) := by
  have hok := deskOk_fn d (by have := hd.2.1; omega) (by have := hd.1.1; omega) (fun p hp => by have := (hd.2.2 p hp).1; omega)
  rw [hk] at hok
  have hcopy := fun m n => copyDesk_own d hd m n
  refine FnZ_of (rs := [.cell 4 37, .tmp 5]) false Tryz.func11 rfl rfl rfl rfl (Nat.le_of_ble_eq_true rfl) ?_
  simp -dsimp
  refine call_ hok (by simp -dsimp) ?_
  simp -dsimp
  refine callL_ (vs := [d.v]) (hcopy _ _) (by simp -dsimp) ?_
  rintro t m1 n1 ⟨hn1, hout, id, st, rfl, hi0, hi1, him, hst, hne⟩
  have k0 := hout 0 (by omega)
  have k1 := hout 1 (by omega)
  have k2 := hout 2 (by omega)
  simp -dsimp at k0 k1 k2
  have f0 := far (show 0 < n1 by omega)
  have f1 := far (show 1 < n1 by omega)
  have f2 := far (show 2 < n1 by omega)
  have z1 : ¬ n1 = 0 := by omega
  have z2 : ¬ n1 = 1 := by omega
  have z3 : ¬ n1 = 2 := by omega
  have g1 := far hi1
  have y0 : ¬ id = 0 := by omega
  have y1 : ¬ id = 1 := by omega
  have y2 : ¬ id = 2 := by omega
  have yn : ¬ id = n1 := by omega
  have hc := hst.cell
  rcases hst with ⟨rfl, hs0⟩ | ⟨r, rfl, hr0, hr1, hrm⟩
  · have hp0 : d.past = [] := by simpa using hs0
    simp -dsimp [nes8 n1, k0, k1, k2, f0, f1, f2, z1, z2, z3, nes, g1, y0, y1, y2, yn, Ne.symm y0, Ne.symm y1, Ne.symm y2, him, h0, hw, hp0]
  · have g2 := far hr1
    have x0 : ¬ r = 0 := by omega
    have x1 : ¬ r = 1 := by omega
    have x2 : ¬ r = 2 := by omega
    have xi : ¬ r = id := fun h => hne (by rw [h])
    simp -dsimp [nes8 n1, k0, k1, k2, f0, f1, f2, z1, z2, z3, nes, g1, y0, y1, y2, yn, Ne.symm y0, Ne.symm y1, Ne.symm y2, him, g2, x0, x1, x2, xi, Ne.symm x0, Ne.symm x1, Ne.symm x2, Ne.symm xi, hrm, h0, hw]
theorem do_bad2 (d : Desk) (num : Int) (words : List UInt8) (hd : d.small) (hk : deskOk d = true) (h0 : ¬ num = 0) : FnZ Tryz.prog 11 [d.v, (⟨0, num, words⟩ : Deed).v] (.tup [d.v, .bool false]) := by
  have hok := deskOk_fn d (by have := hd.2.1; omega) (by have := hd.1.1; omega) (fun p hp => by have := (hd.2.2 p hp).1; omega)
  rw [hk] at hok
  have hcopy := fun m n => copyDesk_own d hd m n
  refine FnZ_of (rs := [.cell 4 37, .tmp 5]) false Tryz.func11 rfl rfl rfl rfl (Nat.le_of_ble_eq_true rfl) ?_
  simp -dsimp
  refine call_ hok (by simp -dsimp) ?_
  simp -dsimp
  refine callL_ (vs := [d.v]) (hcopy _ _) (by simp -dsimp) ?_
  rintro t m1 n1 ⟨hn1, hout, id, st, rfl, hi0, hi1, him, hst, hne⟩
  have k0 := hout 0 (by omega)
  have k1 := hout 1 (by omega)
  have k2 := hout 2 (by omega)
  simp -dsimp at k0 k1 k2
  have f0 := far (show 0 < n1 by omega)
  have f1 := far (show 1 < n1 by omega)
  have f2 := far (show 2 < n1 by omega)
  have z1 : ¬ n1 = 0 := by omega
  have z2 : ¬ n1 = 1 := by omega
  have z3 : ¬ n1 = 2 := by omega
  have g1 := far hi1
  have y0 : ¬ id = 0 := by omega
  have y1 : ¬ id = 1 := by omega
  have y2 : ¬ id = 2 := by omega
  have yn : ¬ id = n1 := by omega
  have hc := hst.cell
  rcases hst with ⟨rfl, hs0⟩ | ⟨r, rfl, hr0, hr1, hrm⟩
  · have hp0 : d.past = [] := by simpa using hs0
    simp -dsimp [nes8 n1, k0, k1, k2, f0, f1, f2, z1, z2, z3, nes, g1, y0, y1, y2, yn, Ne.symm y0, Ne.symm y1, Ne.symm y2, him, h0, hp0]
  · have g2 := far hr1
    have x0 : ¬ r = 0 := by omega
    have x1 : ¬ r = 1 := by omega
    have x2 : ¬ r = 2 := by omega
    have xi : ¬ r = id := fun h => hne (by rw [h])
    simp -dsimp [nes8 n1, k0, k1, k2, f0, f1, f2, z1, z2, z3, nes, g1, y0, y1, y2, yn, Ne.symm y0, Ne.symm y1, Ne.symm y2, him, g2, x0, x1, x2, xi, Ne.symm x0, Ne.symm x1, Ne.symm x2, Ne.symm xi, hrm, h0]
theorem do_bad3 (d : Desk) (kind num : Int) (hd : d.small) (hk : deskOk d = true) (h0 : ¬ kind = 0) (h1 : ¬ kind = 1) (h2 : ¬ kind = 2) (h3 : ¬ num = 0) : FnZ Tryz.prog 11 [d.v, (⟨kind, num, []⟩ : Deed).v] (.tup [d.v, .bool false]) := by
  have hok := deskOk_fn d (by have := hd.2.1; omega) (by have := hd.1.1; omega) (fun p hp => by have := (hd.2.2 p hp).1; omega)
  rw [hk] at hok
  have hcopy := fun m n => copyDesk_own d hd m n
  refine FnZ_of (rs := [.cell 4 37, .tmp 5]) false Tryz.func11 rfl rfl rfl rfl (Nat.le_of_ble_eq_true rfl) ?_
  simp -dsimp
  refine call_ hok (by simp -dsimp) ?_
  simp -dsimp
  refine callL_ (vs := [d.v]) (hcopy _ _) (by simp -dsimp) ?_
  rintro t m1 n1 ⟨hn1, hout, id, st, rfl, hi0, hi1, him, hst, hne⟩
  have k0 := hout 0 (by omega)
  have k1 := hout 1 (by omega)
  have k2 := hout 2 (by omega)
  simp -dsimp at k0 k1 k2
  have f0 := far (show 0 < n1 by omega)
  have f1 := far (show 1 < n1 by omega)
  have f2 := far (show 2 < n1 by omega)
  have z1 : ¬ n1 = 0 := by omega
  have z2 : ¬ n1 = 1 := by omega
  have z3 : ¬ n1 = 2 := by omega
  have g1 := far hi1
  have y0 : ¬ id = 0 := by omega
  have y1 : ¬ id = 1 := by omega
  have y2 : ¬ id = 2 := by omega
  have yn : ¬ id = n1 := by omega
  have hc := hst.cell
  rcases hst with ⟨rfl, hs0⟩ | ⟨r, rfl, hr0, hr1, hrm⟩
  · have hp0 : d.past = [] := by simpa using hs0
    simp -dsimp [nes8 n1, k0, k1, k2, f0, f1, f2, z1, z2, z3, nes, g1, y0, y1, y2, yn, Ne.symm y0, Ne.symm y1, Ne.symm y2, him, h0, h1, h2, h3, hp0]
  · have g2 := far hr1
    have x0 : ¬ r = 0 := by omega
    have x1 : ¬ r = 1 := by omega
    have x2 : ¬ r = 2 := by omega
    have xi : ¬ r = id := fun h => hne (by rw [h])
    simp -dsimp [nes8 n1, k0, k1, k2, f0, f1, f2, z1, z2, z3, nes, g1, y0, y1, y2, yn, Ne.symm y0, Ne.symm y1, Ne.symm y2, him, g2, x0, x1, x2, xi, Ne.symm x0, Ne.symm x1, Ne.symm x2, Ne.symm xi, hrm, h0, h1, h2, h3]
theorem do_other (d : Desk) (kind : Int) (hd : d.small) (hk : deskOk d = true) (h0 : ¬ kind = 0) (h1 : ¬ kind = 1) (h2 : ¬ kind = 2) (h3 : ¬ kind = 3) (h4 : ¬ kind = 4) : FnZ Tryz.prog 11 [d.v, (⟨kind, 0, []⟩ : Deed).v] (.tup [d.v, .bool false]) := by
  have hok := deskOk_fn d (by have := hd.2.1; omega) (by have := hd.1.1; omega) (fun p hp => by have := (hd.2.2 p hp).1; omega)
  rw [hk] at hok
  have hcopy := fun m n => copyDesk_own d hd m n
  refine FnZ_of (rs := [.cell 4 37, .tmp 5]) false Tryz.func11 rfl rfl rfl rfl (Nat.le_of_ble_eq_true rfl) ?_
  simp -dsimp
  refine call_ hok (by simp -dsimp) ?_
  simp -dsimp
  refine callL_ (vs := [d.v]) (hcopy _ _) (by simp -dsimp) ?_
  rintro t m1 n1 ⟨hn1, hout, id, st, rfl, hi0, hi1, him, hst, hne⟩
  have k0 := hout 0 (by omega)
  have k1 := hout 1 (by omega)
  have k2 := hout 2 (by omega)
  simp -dsimp at k0 k1 k2
  have f0 := far (show 0 < n1 by omega)
  have f1 := far (show 1 < n1 by omega)
  have f2 := far (show 2 < n1 by omega)
  have z1 : ¬ n1 = 0 := by omega
  have z2 : ¬ n1 = 1 := by omega
  have z3 : ¬ n1 = 2 := by omega
  have g1 := far hi1
  have y0 : ¬ id = 0 := by omega
  have y1 : ¬ id = 1 := by omega
  have y2 : ¬ id = 2 := by omega
  have yn : ¬ id = n1 := by omega
  have hc := hst.cell
  rcases hst with ⟨rfl, hs0⟩ | ⟨r, rfl, hr0, hr1, hrm⟩
  · have hp0 : d.past = [] := by simpa using hs0
    simp -dsimp [nes8 n1, k0, k1, k2, f0, f1, f2, z1, z2, z3, nes, g1, y0, y1, y2, yn, Ne.symm y0, Ne.symm y1, Ne.symm y2, him, h0, h1, h2, h3, h4, hp0]
  · have g2 := far hr1
    have x0 : ¬ r = 0 := by omega
    have x1 : ¬ r = 1 := by omega
    have x2 : ¬ r = 2 := by omega
    have xi : ¬ r = id := fun h => hne (by rw [h])
    simp -dsimp [nes8 n1, k0, k1, k2, f0, f1, f2, z1, z2, z3, nes, g1, y0, y1, y2, yn, Ne.symm y0, Ne.symm y1, Ne.symm y2, him, g2, x0, x1, x2, xi, Ne.symm x0, Ne.symm x1, Ne.symm x2, Ne.symm xi, hrm, h0, h1, h2, h3, h4]
theorem do_nosay (d : Desk) (words : List UInt8) (hd : d.small) (hk : deskOk d = true) (hr : readC d.now.people words = none) (hwl : words.length ≤ 1000000000) : FnZ Tryz.prog 11 [d.v, (⟨0, 0, words⟩ : Deed).v] (.tup [d.v, .bool false]) := by
  have hok := deskOk_fn d (by have := hd.2.1; omega) (by have := hd.1.1; omega) (fun p hp => by have := (hd.2.2 p hp).1; omega)
  rw [hk] at hok
  have hcopy := fun m n => copyDesk_own d hd m n
  have hrc := readClaim_fn d.now.people words (by omega)
  rw [hr] at hrc
  refine FnZ_of (rs := [.cell 4 37, .tmp 5]) false Tryz.func11 rfl rfl rfl rfl (Nat.le_of_ble_eq_true rfl) ?_
  simp -dsimp
  refine call_ hok (by simp -dsimp) ?_
  simp -dsimp
  refine callL_ (vs := [d.v]) (hcopy _ _) (by simp -dsimp) ?_
  rintro t m1 n1 ⟨hn1, hout, id, st, rfl, hi0, hi1, him, hst, hne⟩
  have k0 := hout 0 (by omega)
  have k1 := hout 1 (by omega)
  have k2 := hout 2 (by omega)
  simp -dsimp at k0 k1 k2
  have f0 := far (show 0 < n1 by omega)
  have f1 := far (show 1 < n1 by omega)
  have f2 := far (show 2 < n1 by omega)
  have z1 : ¬ n1 = 0 := by omega
  have z2 : ¬ n1 = 1 := by omega
  have z3 : ¬ n1 = 2 := by omega
  have g1 := far hi1
  have y0 : ¬ id = 0 := by omega
  have y1 : ¬ id = 1 := by omega
  have y2 : ¬ id = 2 := by omega
  have yn : ¬ id = n1 := by omega
  have hc := hst.cell
  rcases hst with ⟨rfl, hs0⟩ | ⟨r, rfl, hr0, hr1, hrm⟩
  · have hp0 : d.past = [] := by simpa using hs0
    simp -dsimp [nes8 n1, k0, k1, k2, f0, f1, f2, z1, z2, z3, nes, g1, y0, y1, y2, yn, Ne.symm y0, Ne.symm y1, Ne.symm y2, him, hp0, hc]
    refine twp_draw [0, 1, 2, 3, 4, 5, 1006, 7, 8, 9, 10, 11, 12] [1, n1] (List.replicate 13 [0, 1]) (List.replicate 13 [0, 1]) (by kernel_rfl) (by kernel_rfl) (by kernel_rfl) (by kernel_rfl) ?_
    simp -dsimp [List.range_succ, nes8 n1, k0, k1, k2, f0, f1, f2, z1, z2, z3, nes, g1, y0, y1, y2, yn, Ne.symm y0, Ne.symm y1, Ne.symm y2, him, hp0, hc]
    refine pure_ hrc (by simp -dsimp [nes8 n1, k0, k1, k2, f0, f1, f2, z1, z2, z3, nes, g1, y0, y1, y2, yn, Ne.symm y0, Ne.symm y1, Ne.symm y2, him, hp0, hc]) ?_
    simp -dsimp [List.range_succ, nes8 n1, k0, k1, k2, f0, f1, f2, z1, z2, z3, nes, g1, y0, y1, y2, yn, Ne.symm y0, Ne.symm y1, Ne.symm y2, him, hp0, hc, optC]

  · have g2 := far hr1
    have x0 : ¬ r = 0 := by omega
    have x1 : ¬ r = 1 := by omega
    have x2 : ¬ r = 2 := by omega
    have xi : ¬ r = id := fun h => hne (by rw [h])
    simp -dsimp [nes8 n1, k0, k1, k2, f0, f1, f2, z1, z2, z3, nes, g1, y0, y1, y2, yn, Ne.symm y0, Ne.symm y1, Ne.symm y2, him, g2, x0, x1, x2, xi, Ne.symm x0, Ne.symm x1, Ne.symm x2, Ne.symm xi, hrm, hc]
    refine twp_draw [0, 1, 2, 3, 4, 5, 1006, 7, 8, 9, 10, 11, 12] [1, n1] (List.replicate 13 [0, 1]) (List.replicate 13 [0, 1]) (by kernel_rfl) (by kernel_rfl) (by kernel_rfl) (by kernel_rfl) ?_
    simp -dsimp [List.range_succ, nes8 n1, k0, k1, k2, f0, f1, f2, z1, z2, z3, nes, g1, y0, y1, y2, yn, Ne.symm y0, Ne.symm y1, Ne.symm y2, him, g2, x0, x1, x2, xi, Ne.symm x0, Ne.symm x1, Ne.symm x2, Ne.symm xi, hrm, hc]
    refine pure_ hrc (by simp -dsimp [nes8 n1, k0, k1, k2, f0, f1, f2, z1, z2, z3, nes, g1, y0, y1, y2, yn, Ne.symm y0, Ne.symm y1, Ne.symm y2, him, g2, x0, x1, x2, xi, Ne.symm x0, Ne.symm x1, Ne.symm x2, Ne.symm xi, hrm, hc]) ?_
    simp -dsimp [List.range_succ, nes8 n1, k0, k1, k2, f0, f1, f2, z1, z2, z3, nes, g1, y0, y1, y2, yn, Ne.symm y0, Ne.symm y1, Ne.symm y2, him, g2, x0, x1, x2, xi, Ne.symm x0, Ne.symm x1, Ne.symm x2, Ne.symm xi, hrm, hc, optC]

theorem do_nodrop1 (d : Desk) (num : Int) (hd : d.small) (hk : deskOk d = true) (h0 : num < 0) : FnZ Tryz.prog 11 [d.v, (⟨1, num, []⟩ : Deed).v] (.tup [d.v, .bool false]) := by
  have hok := deskOk_fn d (by have := hd.2.1; omega) (by have := hd.1.1; omega) (fun p hp => by have := (hd.2.2 p hp).1; omega)
  rw [hk] at hok
  have hcopy := fun m n => copyDesk_own d hd m n
  refine FnZ_of (rs := [.cell 4 37, .tmp 5]) false Tryz.func11 rfl rfl rfl rfl (Nat.le_of_ble_eq_true rfl) ?_
  simp -dsimp
  refine call_ hok (by simp -dsimp) ?_
  simp -dsimp
  refine callL_ (vs := [d.v]) (hcopy _ _) (by simp -dsimp) ?_
  rintro t m1 n1 ⟨hn1, hout, id, st, rfl, hi0, hi1, him, hst, hne⟩
  have k0 := hout 0 (by omega)
  have k1 := hout 1 (by omega)
  have k2 := hout 2 (by omega)
  simp -dsimp at k0 k1 k2
  have f0 := far (show 0 < n1 by omega)
  have f1 := far (show 1 < n1 by omega)
  have f2 := far (show 2 < n1 by omega)
  have z1 : ¬ n1 = 0 := by omega
  have z2 : ¬ n1 = 1 := by omega
  have z3 : ¬ n1 = 2 := by omega
  have g1 := far hi1
  have y0 : ¬ id = 0 := by omega
  have y1 : ¬ id = 1 := by omega
  have y2 : ¬ id = 2 := by omega
  have yn : ¬ id = n1 := by omega
  have hc := hst.cell
  rcases hst with ⟨rfl, hs0⟩ | ⟨r, rfl, hr0, hr1, hrm⟩
  · have hp0 : d.past = [] := by simpa using hs0
    simp -dsimp [nes8 n1, k0, k1, k2, f0, f1, f2, z1, z2, z3, nes, g1, y0, y1, y2, yn, Ne.symm y0, Ne.symm y1, Ne.symm y2, him, hp0, hc, h0]
    refine twp_draw (List.range 13) [1, n1, id] (List.replicate 13 [0, 1, 2]) (List.replicate 13 [0, 1, 2]) (by kernel_rfl) (by kernel_rfl) (by kernel_rfl) (by kernel_rfl) ?_
    simp -dsimp [List.range_succ, nes8 n1, k0, k1, k2, f0, f1, f2, z1, z2, z3, nes, g1, y0, y1, y2, yn, Ne.symm y0, Ne.symm y1, Ne.symm y2, him, hp0, hc, h0]
  · have g2 := far hr1
    have x0 : ¬ r = 0 := by omega
    have x1 : ¬ r = 1 := by omega
    have x2 : ¬ r = 2 := by omega
    have xi : ¬ r = id := fun h => hne (by rw [h])
    simp -dsimp [nes8 n1, k0, k1, k2, f0, f1, f2, z1, z2, z3, nes, g1, y0, y1, y2, yn, Ne.symm y0, Ne.symm y1, Ne.symm y2, him, g2, x0, x1, x2, xi, Ne.symm x0, Ne.symm x1, Ne.symm x2, Ne.symm xi, hrm, hc, h0]
    refine twp_draw (List.range 13) [1, n1, id] (List.replicate 13 [0, 1, 2]) (List.replicate 13 [0, 1, 2]) (by kernel_rfl) (by kernel_rfl) (by kernel_rfl) (by kernel_rfl) ?_
    simp -dsimp [List.range_succ, nes8 n1, k0, k1, k2, f0, f1, f2, z1, z2, z3, nes, g1, y0, y1, y2, yn, Ne.symm y0, Ne.symm y1, Ne.symm y2, him, g2, x0, x1, x2, xi, Ne.symm x0, Ne.symm x1, Ne.symm x2, Ne.symm xi, hrm, hc, h0]
theorem do_nodrop2 (d : Desk) (num : Int) (hd : d.small) (hk : deskOk d = true) (h0 : ¬ num < 0) (h1 : (d.now.story.length : Int) ≤ num) : FnZ Tryz.prog 11 [d.v, (⟨1, num, []⟩ : Deed).v] (.tup [d.v, .bool false]) := by
  have hok := deskOk_fn d (by have := hd.2.1; omega) (by have := hd.1.1; omega) (fun p hp => by have := (hd.2.2 p hp).1; omega)
  rw [hk] at hok
  have hcopy := fun m n => copyDesk_own d hd m n
  refine FnZ_of (rs := [.cell 4 37, .tmp 5]) false Tryz.func11 rfl rfl rfl rfl (Nat.le_of_ble_eq_true rfl) ?_
  simp -dsimp
  refine call_ hok (by simp -dsimp) ?_
  simp -dsimp
  refine callL_ (vs := [d.v]) (hcopy _ _) (by simp -dsimp) ?_
  rintro t m1 n1 ⟨hn1, hout, id, st, rfl, hi0, hi1, him, hst, hne⟩
  have k0 := hout 0 (by omega)
  have k1 := hout 1 (by omega)
  have k2 := hout 2 (by omega)
  simp -dsimp at k0 k1 k2
  have f0 := far (show 0 < n1 by omega)
  have f1 := far (show 1 < n1 by omega)
  have f2 := far (show 2 < n1 by omega)
  have z1 : ¬ n1 = 0 := by omega
  have z2 : ¬ n1 = 1 := by omega
  have z3 : ¬ n1 = 2 := by omega
  have g1 := far hi1
  have y0 : ¬ id = 0 := by omega
  have y1 : ¬ id = 1 := by omega
  have y2 : ¬ id = 2 := by omega
  have yn : ¬ id = n1 := by omega
  have hc := hst.cell
  rcases hst with ⟨rfl, hs0⟩ | ⟨r, rfl, hr0, hr1, hrm⟩
  · have hp0 : d.past = [] := by simpa using hs0
    simp -dsimp [nes8 n1, k0, k1, k2, f0, f1, f2, z1, z2, z3, nes, g1, y0, y1, y2, yn, Ne.symm y0, Ne.symm y1, Ne.symm y2, him, hp0, hc, h0, h1]
    refine twp_draw (List.range 13) [1, n1, id] (List.replicate 13 [0, 1, 2]) (List.replicate 13 [0, 1, 2]) (by kernel_rfl) (by kernel_rfl) (by kernel_rfl) (by kernel_rfl) ?_
    simp -dsimp [List.range_succ, nes8 n1, k0, k1, k2, f0, f1, f2, z1, z2, z3, nes, g1, y0, y1, y2, yn, Ne.symm y0, Ne.symm y1, Ne.symm y2, him, hp0, hc, h0, h1]
  · have g2 := far hr1
    have x0 : ¬ r = 0 := by omega
    have x1 : ¬ r = 1 := by omega
    have x2 : ¬ r = 2 := by omega
    have xi : ¬ r = id := fun h => hne (by rw [h])
    simp -dsimp [nes8 n1, k0, k1, k2, f0, f1, f2, z1, z2, z3, nes, g1, y0, y1, y2, yn, Ne.symm y0, Ne.symm y1, Ne.symm y2, him, g2, x0, x1, x2, xi, Ne.symm x0, Ne.symm x1, Ne.symm x2, Ne.symm xi, hrm, hc, h0, h1]
    refine twp_draw (List.range 13) [1, n1, id] (List.replicate 13 [0, 1, 2]) (List.replicate 13 [0, 1, 2]) (by kernel_rfl) (by kernel_rfl) (by kernel_rfl) (by kernel_rfl) ?_
    simp -dsimp [List.range_succ, nes8 n1, k0, k1, k2, f0, f1, f2, z1, z2, z3, nes, g1, y0, y1, y2, yn, Ne.symm y0, Ne.symm y1, Ne.symm y2, him, g2, x0, x1, x2, xi, Ne.symm x0, Ne.symm x1, Ne.symm x2, Ne.symm xi, hrm, hc, h0, h1]
theorem do_noback (d : Desk)  (hd : d.small) (hk : deskOk d = true) (he : d.past = []) : FnZ Tryz.prog 11 [d.v, (⟨4, 0, []⟩ : Deed).v] (.tup [d.v, .bool false]) := by
  have hok := deskOk_fn d (by have := hd.2.1; omega) (by have := hd.1.1; omega) (fun p hp => by have := (hd.2.2 p hp).1; omega)
  rw [hk] at hok
  have hcopy := fun m n => copyDesk_own d hd m n
  refine FnZ_of (rs := [.cell 4 37, .tmp 5]) false Tryz.func11 rfl rfl rfl rfl (Nat.le_of_ble_eq_true rfl) ?_
  simp -dsimp
  refine call_ hok (by simp -dsimp) ?_
  simp -dsimp
  refine callL_ (vs := [d.v]) (hcopy _ _) (by simp -dsimp) ?_
  rintro t m1 n1 ⟨hn1, hout, id, st, rfl, hi0, hi1, him, hst, hne⟩
  have k0 := hout 0 (by omega)
  have k1 := hout 1 (by omega)
  have k2 := hout 2 (by omega)
  simp -dsimp at k0 k1 k2
  have f0 := far (show 0 < n1 by omega)
  have f1 := far (show 1 < n1 by omega)
  have f2 := far (show 2 < n1 by omega)
  have z1 : ¬ n1 = 0 := by omega
  have z2 : ¬ n1 = 1 := by omega
  have z3 : ¬ n1 = 2 := by omega
  have g1 := far hi1
  have y0 : ¬ id = 0 := by omega
  have y1 : ¬ id = 1 := by omega
  have y2 : ¬ id = 2 := by omega
  have yn : ¬ id = n1 := by omega
  have hc := hst.cell
  rcases hst with ⟨rfl, hs0⟩ | ⟨r, rfl, hr0, hr1, hrm⟩
  · have hp0 : d.past = [] := by simpa using hs0
    have w0 : IntKind.wrap .i64 (-1) = -1 := rfl
    simp -dsimp [nes8 n1, k0, k1, k2, f0, f1, f2, z1, z2, z3, nes, g1, y0, y1, y2, yn, Ne.symm y0, Ne.symm y1, Ne.symm y2, him, hc, hp0, w0]
  · have g2 := far hr1
    have x0 : ¬ r = 0 := by omega
    have x1 : ¬ r = 1 := by omega
    have x2 : ¬ r = 2 := by omega
    have xi : ¬ r = id := fun h => hne (by rw [h])
    rw [he] at hrm
    have hp0 := he
    have w0 : IntKind.wrap .i64 (-1) = -1 := rfl
    simp -dsimp [nes8 n1, k0, k1, k2, f0, f1, f2, z1, z2, z3, nes, g1, y0, y1, y2, yn, Ne.symm y0, Ne.symm y1, Ne.symm y2, him, g2, x0, x1, x2, xi, Ne.symm x0, Ne.symm x1, Ne.symm x2, Ne.symm xi, hrm, hc, hp0, w0]
theorem do_back (d : Desk)  (hd : d.small) (hk : deskOk d = true) (hne0 : d.past ≠ []) : FnZ Tryz.prog 11 [d.v, (⟨4, 0, []⟩ : Deed).v] (.tup [(⟨d.past.getLast?.getD d.now, d.past.dropLast⟩ : Desk).v, .bool true]) := by
  have hok := deskOk_fn d (by have := hd.2.1; omega) (by have := hd.1.1; omega) (fun p hp => by have := (hd.2.2 p hp).1; omega)
  rw [hk] at hok
  have hcopy := fun m n => copyDesk_own d hd m n
  have hpos : 0 < d.past.length := List.length_pos_iff.2 hne0
  have hl8 := hd.2.1
  have w1 : IntKind.wrap .i64 ((d.past.length : Int) - 1) = (d.past.length : Int) - 1 := w64 (by omega) (by omega)
  refine FnZ_of (rs := [.cell 4 37, .tmp 5]) false Tryz.func11 rfl rfl rfl rfl (Nat.le_of_ble_eq_true rfl) ?_
  simp -dsimp
  refine call_ hok (by simp -dsimp) ?_
  simp -dsimp
  refine callL_ (vs := [d.v]) (hcopy _ _) (by simp -dsimp) ?_
  rintro t m1 n1 ⟨hn1, hout, id, st, rfl, hi0, hi1, him, hst, hne⟩
  have k0 := hout 0 (by omega)
  have k1 := hout 1 (by omega)
  have k2 := hout 2 (by omega)
  simp -dsimp at k0 k1 k2
  have f0 := far (show 0 < n1 by omega)
  have f1 := far (show 1 < n1 by omega)
  have f2 := far (show 2 < n1 by omega)
  have z1 : ¬ n1 = 0 := by omega
  have z2 : ¬ n1 = 1 := by omega
  have z3 : ¬ n1 = 2 := by omega
  have g1 := far hi1
  have y0 : ¬ id = 0 := by omega
  have y1 : ¬ id = 1 := by omega
  have y2 : ¬ id = 2 := by omega
  have yn : ¬ id = n1 := by omega
  have hc := hst.cell
  rcases hst with ⟨rfl, hs0⟩ | ⟨r, rfl, hr0, hr1, hrm⟩
  · have hp0 : d.past = [] := by simpa using hs0
    exact absurd hp0 hne0
  · have g2 := far hr1
    have x0 : ¬ r = 0 := by omega
    have x1 : ¬ r = 1 := by omega
    have x2 : ¬ r = 2 := by omega
    have xi : ¬ r = id := fun h => hne (by rw [h])
    obtain ⟨l1, l2, l3, l4, l5, l6⟩ := last_facts (q := d.now) hne0
    have hcl := clip_fn d.past.dropLast (by simp; omega)
    have p1 : (1 : Int) ≤ d.past.length := by omega
    have p2 : 1 ≤ d.past.length := by omega
    have p3 : ¬ (d.past.length : Int) - 1 < 0 := by omega
    have p4 : ¬ (d.past.length : Int) < 1 := by omega
    have zp : allZ 2 (List.map Place.v d.past) := fun x hx => by obtain ⟨p, _, rfl⟩ := List.mem_map.1 hx; exact ⟨by simp, by simp⟩
    generalize d.past.getLast?.getD d.now = q at *
    simp -dsimp [nes8 n1, k0, k1, k2, f0, f1, f2, z1, z2, z3, nes, g1, y0, y1, y2, yn, Ne.symm y0, Ne.symm y1, Ne.symm y2, him, g2, x0, x1, x2, xi, Ne.symm x0, Ne.symm x1, Ne.symm x2, Ne.symm xi, hrm, hc, w1, p1, p2, p3, p4, l1, l4, l5, l6]
    refine twp_draw (List.range 13) [n1, r] (List.replicate 13 [0, 1]) (List.replicate 13 [0, 1]) (by kernel_rfl) (by kernel_rfl) (by kernel_rfl) (by kernel_rfl) ?_
    simp -dsimp [List.range_succ, nes8 n1, k0, k1, k2, f0, f1, f2, z1, z2, z3, nes, g1, y0, y1, y2, yn, Ne.symm y0, Ne.symm y1, Ne.symm y2, him, g2, x0, x1, x2, xi, Ne.symm x0, Ne.symm x1, Ne.symm x2, Ne.symm xi, hrm, hc, w1, p1, p2, p3, p4, l1, l2, l3, l4, l5, l6, zp]
    refine call_ hcl (by simp -dsimp [l3]) ?_
    simp -dsimp [List.range_succ, nes8 n1, k0, k1, k2, f0, f1, f2, z1, z2, z3, nes, g1, y0, y1, y2, yn, Ne.symm y0, Ne.symm y1, Ne.symm y2, him, g2, x0, x1, x2, xi, Ne.symm x0, Ne.symm x1, Ne.symm x2, Ne.symm xi, hrm, hc, w1, p1, p2, p3, p4, l1, l2, l3, l4, l5, l6]
theorem back_no {a : Deed} (h : ¬ (a.kind = 4 ∧ a.num = 0 ∧ a.words = [])) : isBack a = false := by
  simp only [isBack, decide_eq_false_iff_not]; rintro rfl; exact h ⟨rfl, rfl, rfl⟩
theorem deskDo_fn (d : Desk) (a : Deed) (hd : d.small) (ha : a.words.length ≤ 1000000000) : FnZ Tryz.prog 11 [d.v, a.v] (.tup [(deskDo d a).1.v, .bool (deskDo d a).2]) := by
  have hk := ft (deskOk d)
  rcases hk with hk | hk
  · have hok := deskOk_fn d (by have := hd.2.1; omega) (by have := hd.1.1; omega) (fun p hp => by have := (hd.2.2 p hp).1; omega)
    rw [deskDo_no hk]
    rw [hk] at hok
    obtain ⟨a1, a2, a3⟩ := a
    refine FnZ_of (rs := [.cell 4 37, .tmp 5]) false Tryz.func11 rfl rfl rfl rfl (Nat.le_of_ble_eq_true rfl) ?_
    simp -dsimp
    refine call_ hok (by simp -dsimp) ?_
    simp -dsimp [noDeskV]
  obtain ⟨hpast, hnow, hp8⟩ := deskOk_iff.1 hk
  have ml := (made_fine d.now a hnow).2.1
  obtain ⟨kind, num, words⟩ := a
  simp only at ha
  have zero : ∀ a : Deed, isBack a = false → made d.now a = ⟨0, []⟩ → FnZ Tryz.prog 11 [d.v, a.v] (.tup [d.v, .bool false]) → FnZ Tryz.prog 11 [d.v, a.v] (.tup [(deskDo d a).1.v, .bool (deskDo d a).2]) := fun a h1 h2 h3 => by
    rw [deskDo_zero hk h1 h2]; exact h3
  by_cases k0 : kind = 0
  · subst k0
    by_cases n0 : num = 0
    · subst n0
      have hb : isBack ⟨0, 0, words⟩ = false := back_no (by simp)
      cases hr : readC d.now.people words with
      | none => exact zero _ hb (by simp [made, hr]) (do_nosay d words hd hk hr ha)
      | some c =>
        have hm : made d.now ⟨0, 0, words⟩ = ⟨d.now.people, d.now.story ++ [c]⟩ := by simp [made, hr]
        rw [deskDo_made hk hb]
        exact do_say d words c hd hk _ ml hr ha hm
    · exact zero _ (back_no (by simp)) (by simp [made, n0]) (do_bad2 d num words hd hk n0)
  by_cases hw : words = []
  case neg => exact zero _ (back_no (by simp [hw])) (by simp [made, k0, hw]) (do_bad1 d kind num words hd hk k0 hw)
  subst hw
  by_cases k1 : kind = 1
  · subst k1
    have hb : isBack ⟨1, num, []⟩ = false := back_no (by simp)
    by_cases h0 : num < 0
    · exact zero _ hb (by simp [made]; omega) (do_nodrop1 d num hd hk h0)
    · by_cases h1 : (d.now.story.length : Int) ≤ num
      · exact zero _ hb (by simp [made]; omega) (do_nodrop2 d num hd hk h0 h1)
      · obtain ⟨k, rfl⟩ := Int.eq_ofNat_of_zero_le (show 0 ≤ num by omega)
        have hm : made d.now ⟨1, (k : Int), []⟩ = ⟨d.now.people, d.now.story.eraseIdx k⟩ := by
          unfold made; rw [if_neg (by simp), if_pos ⟨rfl, rfl, by simp, by simp; omega⟩]; rfl
        rw [deskDo_made hk hb]
        exact do_drop d k hd hk _ ml (by omega) hm
  by_cases k2 : kind = 2
  · subst k2
    have hb : isBack ⟨2, num, []⟩ = false := back_no (by simp)
    have hm : made d.now ⟨2, num, []⟩ = ⟨num, d.now.story⟩ := by simp [made]
    rw [deskDo_made hk hb]
    exact do_people d num hd hk _ ml hm
  by_cases n0 : num = 0
  case neg => exact zero _ (back_no (by simp [n0])) (by simp [made, k0, k1, k2, n0]) (do_bad3 d kind num hd hk k0 k1 k2 n0)
  subst n0
  by_cases k3 : kind = 3
  · subst k3
    have hb : isBack ⟨3, 0, []⟩ = false := back_no (by simp)
    have hm : made d.now ⟨3, 0, []⟩ = ⟨d.now.people, least d.now.people.toNat d.now.story⟩ := by simp [made]
    rw [deskDo_made hk hb]
    exact do_least d hd hk _ ml hm
  by_cases k4 : kind = 4
  · subst k4
    by_cases he : d.past = []
    · rw [deskDo_bad hk (good_back (by rfl)) (by simp [he])]
      exact do_noback d hd hk he
    · rw [deskDo_back hk (by rfl) he]
      exact do_back d hd hk he
  exact zero _ (back_no (by simp [k4])) (by simp [made, k0, k1, k2, k3]) (do_other d kind hd hk k0 k1 k2 k3 k4)
end TL

/- Deeds at a desk, results of the caller's own: the program. -/
set_option linter.unusedSimpArgs false
set_option linter.unusedVariables false
set_option maxRecDepth 100000
set_option maxHeartbeats 4000000
set_option pp.maxSteps 1500
namespace TL
open Go Go.Proofs
attribute [local simp] marksV storyV codeV Claim.v Place.v Deed.v Desk.v
/-- A desk and a truth of the caller's own. -/
def PostK (R : Desk × Bool) (t : T) (m' : Mem) (n' : Nat) : Prop := ∃ sn P, t = .tup [dT R.1 sn P, .v (.bool R.2)] ∧ OwnD m' 0 n' sn P R.1
theorem desk_says {d : Desk} (hk : deskOk d = true) : (∀ c ∈ d.now.story, c.says ≠ []) ∧ (∀ p ∈ d.past, ∀ c ∈ p.story, c.says ≠ []) := by
  obtain ⟨hpast, hnow, _⟩ := deskOk_iff.1 hk
  have h : ∀ p : Place, placeOk p = true → ∀ c ∈ p.story, c.says ≠ [] := fun p hp c hc h0 => by
    have := termOk_pos (claimOk_all ((placeOk_all hp).2.2.2 c hc)).2.2.2.2.1
    rw [h0] at this; simp at this
  exact ⟨h _ hnow, fun p hp => h p (hpast p hp)⟩
theorem copyDesk_k (d : Desk) (hd : d.small) (hk : deskOk d = true) (m : Mem) (n : Nat) : FnS Tryz.prog 35 m n [.v d.v] (DeepK d m n) :=
  (copyDesk_deep d hd (desk_says hk).1 (desk_says hk).2 m n).weak fun _ _ _ h => h.own
theorem clip_own (i l : Nat) (hl : l ≤ 1048576) (m : Mem) (n : Nat) : FnS Tryz.prog 39 m n [.sv i 0 l] (fun t m' n' => t = .sv i 0 l ∧ m' = m ∧ n ≤ n') := by
  refine FnS_of (rs := [.tmp 2]) false Tryz.func39 rfl rfl rfl rfl (Nat.le_of_ble_eq_true rfl) ?_
  simp -dsimp [evClipM]
theorem do_people_k (d : Desk) (num : Int) (hd : d.small) (hk : deskOk d = true) (X : Place) (hXl : X.story.length ≤ 7) (hX : X = ⟨num, d.now.story⟩) :
    FnS Tryz.prog 11 (fun _ => none) 0 [.v d.v, .v (⟨2, num, []⟩ : Deed).v] (PostK (if (placeOk X && !decide (placeTx X = placeTx d.now)) = true then ((⟨X, keep8 (d.past ++ [d.now])⟩, true) : Desk × Bool) else (d, false))) := by
  have hpo := placeOk_fn X (by omega)
  have hpt := placeText_fn X (by omega)
  have hpn := placeText_fn d.now (by have := hd.1.1; omega)
  have hcn := copyPlace_fn d.now hd.1
  have hok := deskOk_fn d (by have := hd.2.1; omega) (by have := hd.1.1; omega) (fun p hp => by have := (hd.2.2 p hp).1; omega)
  rw [hk] at hok
  obtain ⟨hpast, hnow, hp8⟩ := deskOk_iff.1 hk
  have hcopy := fun m n => copyDesk_own d hd m n
  have hcopyK := fun m n => copyDesk_k d hd hk m n
  have fullb : (d.past.length + 1) * 32 ≤ 140737488355328 := by omega
  have zplaces : allZ 2 (List.map Place.v d.past ++ [d.now.v]) := fun x hx => by
    rcases List.mem_append.1 hx with hx | hx
    · obtain ⟨p, _, rfl⟩ := List.mem_map.1 hx; exact ⟨by simp, by simp⟩
    · rw [List.mem_singleton.1 hx]; exact ⟨by simp, by simp⟩
  have hR : placeOk X = true → ∀ l, keep8 (d.past ++ [d.now]) = l → ∀ m n, FnS Tryz.prog 35 m n [.v (⟨X, l⟩ : Desk).v] (DeepK ⟨X, l⟩ m n) := fun hX l hl m n => by
    have ok : deskOk ⟨X, l⟩ = true := deskOk_iff.2 ⟨fun p hp => by
      rw [← hl] at hp
      rcases List.mem_append.1 (keep8_mem hp) with h1 | h1
      · exact hpast p h1
      · rw [List.mem_singleton.1 h1]; exact hnow, hX, by rw [← hl]; exact keep8_len _ (by simp; omega)⟩
    exact copyDesk_k ⟨X, l⟩ (desk_fine ok).1 ok m n
  have hkX := ft (placeOk X)
  have htx : placeTx X = placeTx d.now ∨ ¬ placeTx X = placeTx d.now := Classical.em _
  generalize placeTx X = tX at *
  generalize placeTx d.now = tN at *
  generalize placeOk X = okX at *
  subst hX
  refine FnS_of (rs := [.cell 4 37, .tmp 5]) false Tryz.func11 rfl rfl rfl rfl (Nat.le_of_ble_eq_true rfl) ?_
  simp -dsimp
  refine call_ hok (by simp -dsimp) ?_
  simp -dsimp
  refine callL_ (vs := [d.v]) (hcopy _ _) (by simp -dsimp) ?_
  rintro t m1 n1 ⟨hn1, hout, id, st, rfl, hi0, hi1, him, hst, hne⟩
  have k0 := hout 0 (by omega)
  have k1 := hout 1 (by omega)
  have k2 := hout 2 (by omega)
  simp -dsimp at k0 k1 k2
  have f0 := far (show 0 < n1 by omega)
  have f1 := far (show 1 < n1 by omega)
  have f2 := far (show 2 < n1 by omega)
  have z1 : ¬ n1 = 0 := by omega
  have z2 : ¬ n1 = 1 := by omega
  have z3 : ¬ n1 = 2 := by omega
  have g1 := far hi1
  have y0 : ¬ id = 0 := by omega
  have y1 : ¬ id = 1 := by omega
  have y2 : ¬ id = 2 := by omega
  have yn : ¬ id = n1 := by omega
  have hc := hst.cell
  rcases hst with ⟨rfl, hs0⟩ | ⟨r, rfl, hr0, hr1, hrm⟩
  · have hp0 : d.past = [] := by simpa using hs0
    simp -dsimp [nes8 n1, k0, k1, k2, f0, f1, f2, z1, z2, z3, nes, g1, y0, y1, y2, yn, Ne.symm y0, Ne.symm y1, Ne.symm y2, him, hc]
    refine twp_draw [0, 1, 2, 3, 4, 5, 6, 7, 8, 10, 11, 9, 12, 13, 14] [0, n1] (List.replicate 15 [0, 1]) (List.replicate 15 [0, 1]) (by kernel_rfl) (by kernel_rfl) (by kernel_rfl) (by kernel_rfl) ?_
    simp -dsimp [nes8 n1, k0, k1, k2, f0, f1, f2, z1, z2, z3, nes, g1, y0, y1, y2, yn, Ne.symm y0, Ne.symm y1, Ne.symm y2, him, hc, hp0]
    refine call_ hpo (by simp -dsimp [nes8 n1, k0, k1, k2, f0, f1, f2, z1, z2, z3, nes, g1, y0, y1, y2, yn, Ne.symm y0, Ne.symm y1, Ne.symm y2, him, hc, hp0]) ?_
    rcases hkX with rfl | rfl
    · simp -dsimp [nes8 n1, k0, k1, k2, f0, f1, f2, z1, z2, z3, nes, g1, y0, y1, y2, yn, Ne.symm y0, Ne.symm y1, Ne.symm y2, him, hc, hp0]
      refine callL_ (vs := [d.v]) (hcopyK _ _) (by simp -dsimp [hc, hp0]) ?_
      rintro t m2 n2 ⟨hn2, hout2, sn2, P2, rfl, hown2⟩
      have q2 := hout2 2 (by omega)
      simp -dsimp [nes8 n1, k0, k1, k2, f0, f1, f2, z1, z2, z3, nes, g1, y0, y1, y2, yn, Ne.symm y0, Ne.symm y1, Ne.symm y2, him] at q2
      have hfc := hown2.facts
      have hc2 := hfc.1
      have hcs2 := hfc.2.1
      have hcP2 := hfc.2.2.1
      have hcsP2 := hfc.2.2.2
      clear hfc
      simp -dsimp [dT, q2, hc2, hcs2, hcP2, hcsP2]
      exact ⟨sn2, P2, rfl, hown2.keep (Nat.zero_le _) (by omega) fun j j1 j2 => by simp [show ¬ j = 2 by omega]⟩
    simp -dsimp [nes8 n1, k0, k1, k2, f0, f1, f2, z1, z2, z3, nes, g1, y0, y1, y2, yn, Ne.symm y0, Ne.symm y1, Ne.symm y2, him, hc, hp0]
    refine call_ hpt (by simp -dsimp [nes8 n1, k0, k1, k2, f0, f1, f2, z1, z2, z3, nes, g1, y0, y1, y2, yn, Ne.symm y0, Ne.symm y1, Ne.symm y2, him, hc, hp0]) ?_
    simp -dsimp [nes8 n1, k0, k1, k2, f0, f1, f2, z1, z2, z3, nes, g1, y0, y1, y2, yn, Ne.symm y0, Ne.symm y1, Ne.symm y2, him, hc, hp0]
    refine call_ hpn (by simp -dsimp) ?_
    rcases htx with rfl | htx
    · simp -dsimp [nes8 n1, k0, k1, k2, f0, f1, f2, z1, z2, z3, nes, g1, y0, y1, y2, yn, Ne.symm y0, Ne.symm y1, Ne.symm y2, him, hc, hp0]
      refine callL_ (vs := [d.v]) (hcopyK _ _) (by simp -dsimp [hc, hp0]) ?_
      rintro t m2 n2 ⟨hn2, hout2, sn2, P2, rfl, hown2⟩
      have q2 := hout2 2 (by omega)
      simp -dsimp [nes8 n1, k0, k1, k2, f0, f1, f2, z1, z2, z3, nes, g1, y0, y1, y2, yn, Ne.symm y0, Ne.symm y1, Ne.symm y2, him] at q2
      have hfc := hown2.facts
      have hc2 := hfc.1
      have hcs2 := hfc.2.1
      have hcP2 := hfc.2.2.1
      have hcsP2 := hfc.2.2.2
      clear hfc
      simp -dsimp [dT, q2, hc2, hcs2, hcP2, hcsP2]
      exact ⟨sn2, P2, rfl, hown2.keep (Nat.zero_le _) (by omega) fun j j1 j2 => by simp [show ¬ j = 2 by omega]⟩
    have hRs := hR rfl
    simp -dsimp [nes8 n1, k0, k1, k2, f0, f1, f2, z1, z2, z3, nes, g1, y0, y1, y2, yn, Ne.symm y0, Ne.symm y1, Ne.symm y2, him, hc, hp0, htx]
    refine twp_draw (List.range 9) [0, n1] (List.replicate 9 [0, 1]) (List.replicate 8 [0, 1] ++ [[0]]) (by kernel_rfl) (by kernel_rfl) (by kernel_rfl) (by kernel_rfl) ?_
    simp -dsimp [List.range_succ, nes8 n1, k0, k1, k2, f0, f1, f2, z1, z2, z3, nes, g1, y0, y1, y2, yn, Ne.symm y0, Ne.symm y1, Ne.symm y2, him, hc, hp0, htx]
    refine call_ hcn (by simp -dsimp) ?_
    have hR2 := hRs [d.now] (by rw [hp0]; rfl)
    simp -dsimp [List.range_succ, nes8 n1, k0, k1, k2, f0, f1, f2, z1, z2, z3, nes, g1, y0, y1, y2, yn, Ne.symm y0, Ne.symm y1, Ne.symm y2, him, hc, hp0, htx]
    refine callL_ (vs := [(⟨⟨num, d.now.story⟩, [d.now]⟩ : Desk).v]) (hR2 _ _) (by simp -dsimp [nes8 n1, k0, k1, k2, f0, f1, f2, z1, z2, z3, nes, g1, y0, y1, y2, yn, Ne.symm y0, Ne.symm y1, Ne.symm y2, him, hc, hp0]) ?_
    rintro t m2 n2 ⟨hn2, hout2, sn2, P2, rfl, hown2⟩
    have q2 := hout2 2 (by omega)
    simp -dsimp [nes8 n1, k0, k1, k2, f0, f1, f2, z1, z2, z3, nes, g1, y0, y1, y2, yn, Ne.symm y0, Ne.symm y1, Ne.symm y2, him] at q2
    have hfc := hown2.facts
    have hc2 := hfc.1
    have hcs2 := hfc.2.1
    have hcP2 := hfc.2.2.1
    have hcsP2 := hfc.2.2.2
    clear hfc
    simp -dsimp [dT, q2, hc2, hcs2, hcP2, hcsP2, htx, hp0, keep8]
    exact ⟨sn2, P2, rfl, hown2.keep (Nat.zero_le _) (by omega) fun j j1 j2 => by simp [show ¬ j = 2 by omega]⟩
  · have g2 := far hr1
    have x0 : ¬ r = 0 := by omega
    have x1 : ¬ r = 1 := by omega
    have x2 : ¬ r = 2 := by omega
    have xi : ¬ r = id := fun h => hne (by rw [h])
    simp -dsimp [nes8 n1, k0, k1, k2, f0, f1, f2, z1, z2, z3, nes, g1, y0, y1, y2, yn, Ne.symm y0, Ne.symm y1, Ne.symm y2, him, g2, x0, x1, x2, xi, Ne.symm x0, Ne.symm x1, Ne.symm x2, Ne.symm xi, hrm, hc]
    refine twp_draw [0, 1, 2, 3, 4, 5, 6, 7, 8, 10, 11, 9, 12, 13, 14] [0, n1] (List.replicate 15 [0, 1]) (List.replicate 15 [0, 1]) (by kernel_rfl) (by kernel_rfl) (by kernel_rfl) (by kernel_rfl) ?_
    simp -dsimp [nes8 n1, k0, k1, k2, f0, f1, f2, z1, z2, z3, nes, g1, y0, y1, y2, yn, Ne.symm y0, Ne.symm y1, Ne.symm y2, him, g2, x0, x1, x2, xi, Ne.symm x0, Ne.symm x1, Ne.symm x2, Ne.symm xi, hrm, hc]
    refine call_ hpo (by simp -dsimp [nes8 n1, k0, k1, k2, f0, f1, f2, z1, z2, z3, nes, g1, y0, y1, y2, yn, Ne.symm y0, Ne.symm y1, Ne.symm y2, him, g2, x0, x1, x2, xi, Ne.symm x0, Ne.symm x1, Ne.symm x2, Ne.symm xi, hrm, hc]) ?_
    rcases hkX with rfl | rfl
    · simp -dsimp [nes8 n1, k0, k1, k2, f0, f1, f2, z1, z2, z3, nes, g1, y0, y1, y2, yn, Ne.symm y0, Ne.symm y1, Ne.symm y2, him, g2, x0, x1, x2, xi, Ne.symm x0, Ne.symm x1, Ne.symm x2, Ne.symm xi, hrm, hc]
      refine callL_ (vs := [d.v]) (hcopyK _ _) (by simp -dsimp [hc]) ?_
      rintro t m2 n2 ⟨hn2, hout2, sn2, P2, rfl, hown2⟩
      have q2 := hout2 2 (by omega)
      simp -dsimp [nes8 n1, k0, k1, k2, f0, f1, f2, z1, z2, z3, nes, g1, y0, y1, y2, yn, Ne.symm y0, Ne.symm y1, Ne.symm y2, him, g2, x0, x1, x2, xi, Ne.symm x0, Ne.symm x1, Ne.symm x2, Ne.symm xi, hrm] at q2
      have hfc := hown2.facts
      have hc2 := hfc.1
      have hcs2 := hfc.2.1
      have hcP2 := hfc.2.2.1
      have hcsP2 := hfc.2.2.2
      clear hfc
      simp -dsimp [dT, q2, hc2, hcs2, hcP2, hcsP2]
      exact ⟨sn2, P2, rfl, hown2.keep (Nat.zero_le _) (by omega) fun j j1 j2 => by simp [show ¬ j = 2 by omega]⟩
    simp -dsimp [nes8 n1, k0, k1, k2, f0, f1, f2, z1, z2, z3, nes, g1, y0, y1, y2, yn, Ne.symm y0, Ne.symm y1, Ne.symm y2, him, g2, x0, x1, x2, xi, Ne.symm x0, Ne.symm x1, Ne.symm x2, Ne.symm xi, hrm, hc]
    refine call_ hpt (by simp -dsimp [nes8 n1, k0, k1, k2, f0, f1, f2, z1, z2, z3, nes, g1, y0, y1, y2, yn, Ne.symm y0, Ne.symm y1, Ne.symm y2, him, g2, x0, x1, x2, xi, Ne.symm x0, Ne.symm x1, Ne.symm x2, Ne.symm xi, hrm, hc]) ?_
    simp -dsimp [nes8 n1, k0, k1, k2, f0, f1, f2, z1, z2, z3, nes, g1, y0, y1, y2, yn, Ne.symm y0, Ne.symm y1, Ne.symm y2, him, g2, x0, x1, x2, xi, Ne.symm x0, Ne.symm x1, Ne.symm x2, Ne.symm xi, hrm, hc]
    refine call_ hpn (by simp -dsimp) ?_
    rcases htx with rfl | htx
    · simp -dsimp [nes8 n1, k0, k1, k2, f0, f1, f2, z1, z2, z3, nes, g1, y0, y1, y2, yn, Ne.symm y0, Ne.symm y1, Ne.symm y2, him, g2, x0, x1, x2, xi, Ne.symm x0, Ne.symm x1, Ne.symm x2, Ne.symm xi, hrm, hc]
      refine callL_ (vs := [d.v]) (hcopyK _ _) (by simp -dsimp [hc]) ?_
      rintro t m2 n2 ⟨hn2, hout2, sn2, P2, rfl, hown2⟩
      have q2 := hout2 2 (by omega)
      simp -dsimp [nes8 n1, k0, k1, k2, f0, f1, f2, z1, z2, z3, nes, g1, y0, y1, y2, yn, Ne.symm y0, Ne.symm y1, Ne.symm y2, him, g2, x0, x1, x2, xi, Ne.symm x0, Ne.symm x1, Ne.symm x2, Ne.symm xi, hrm] at q2
      have hfc := hown2.facts
      have hc2 := hfc.1
      have hcs2 := hfc.2.1
      have hcP2 := hfc.2.2.1
      have hcsP2 := hfc.2.2.2
      clear hfc
      simp -dsimp [dT, q2, hc2, hcs2, hcP2, hcsP2]
      exact ⟨sn2, P2, rfl, hown2.keep (Nat.zero_le _) (by omega) fun j j1 j2 => by simp [show ¬ j = 2 by omega]⟩
    have hRs := hR rfl
    simp -dsimp [nes8 n1, k0, k1, k2, f0, f1, f2, z1, z2, z3, nes, g1, y0, y1, y2, yn, Ne.symm y0, Ne.symm y1, Ne.symm y2, him, g2, x0, x1, x2, xi, Ne.symm x0, Ne.symm x1, Ne.symm x2, Ne.symm xi, hrm, hc, htx]
    refine twp_draw (List.range 9) [0, n1] (List.replicate 9 [0, 1]) (List.replicate 8 [0, 1] ++ [[0]]) (by kernel_rfl) (by kernel_rfl) (by kernel_rfl) (by kernel_rfl) ?_
    simp -dsimp [List.range_succ, nes8 n1, k0, k1, k2, f0, f1, f2, z1, z2, z3, nes, g1, y0, y1, y2, yn, Ne.symm y0, Ne.symm y1, Ne.symm y2, him, g2, x0, x1, x2, xi, Ne.symm x0, Ne.symm x1, Ne.symm x2, Ne.symm xi, hrm, hc, htx]
    refine call_ hcn (by simp -dsimp) ?_
    by_cases h8 : d.past.length = 8
    · have e8 : (d.past.length : Int) = 8 := by omega
      have ek : keep8 (d.past ++ [d.now]) = (d.past ++ [d.now]).tail := by unfold keep8; rw [if_pos (by simp [h8])]; simp
      have hR2 := hRs (d.past ++ [d.now]).tail ek
      have tk : List.take 9 (List.map Place.v d.past ++ [d.now.v]) = List.map Place.v d.past ++ [d.now.v] := List.take_of_length_le (by simp [h8])
      have zk : allZ 2 (List.map Place.v d.past ++ [d.now.v]).tail := fun x hx => zplaces x (List.mem_of_mem_tail hx)
      simp only [Place.v, storyV] at tk zk
      simp -dsimp [List.range_succ, nes8 n1, k0, k1, k2, f0, f1, f2, z1, z2, z3, nes, g1, y0, y1, y2, yn, Ne.symm y0, Ne.symm y1, Ne.symm y2, him, g2, x0, x1, x2, xi, Ne.symm x0, Ne.symm x1, Ne.symm x2, Ne.symm xi, hrm, hc, htx, fullb, h8, e8, tk, zk]
      refine callL_ (vs := [(⟨⟨num, d.now.story⟩, (d.past ++ [d.now]).tail⟩ : Desk).v]) (hR2 _ _) (by simp -dsimp [nes8 n1, k0, k1, k2, f0, f1, f2, z1, z2, z3, nes, g1, y0, y1, y2, yn, Ne.symm y0, Ne.symm y1, Ne.symm y2, him, g2, x0, x1, x2, xi, Ne.symm x0, Ne.symm x1, Ne.symm x2, Ne.symm xi, hrm, hc, List.map_tail, List.map_append]) ?_
      rintro t m2 n2 ⟨hn2, hout2, sn2, P2, rfl, hown2⟩
      have q2 := hout2 2 (by omega)
      simp -dsimp [nes8 n1, k0, k1, k2, f0, f1, f2, z1, z2, z3, nes, g1, y0, y1, y2, yn, Ne.symm y0, Ne.symm y1, Ne.symm y2, him, g2, x0, x1, x2, xi, Ne.symm x0, Ne.symm x1, Ne.symm x2, Ne.symm xi, hrm] at q2
      have hfc := hown2.facts
      have hc2 := hfc.1
      have hcs2 := hfc.2.1
      have hcP2 := hfc.2.2.1
      have hcsP2 := hfc.2.2.2
      clear hfc
      simp -dsimp [dT, q2, hc2, hcs2, hcP2, hcsP2, htx, ek]
      exact ⟨sn2, P2, rfl, hown2.keep (Nat.zero_le _) (by omega) fun j j1 j2 => by simp [show ¬ j = 2 by omega]⟩
    · have e8 : d.past.length < 8 := by omega
      have e8' : ¬ (8 : Int) < (d.past.length : Int) + 1 := by omega
      have e8'' : ¬ 8 < d.past.length + 1 := by omega
      have ek : keep8 (d.past ++ [d.now]) = d.past ++ [d.now] := by unfold keep8; rw [if_neg (by simp; omega)]
      have hR2 := hRs (d.past ++ [d.now]) ek
      simp -dsimp [List.range_succ, nes8 n1, k0, k1, k2, f0, f1, f2, z1, z2, z3, nes, g1, y0, y1, y2, yn, Ne.symm y0, Ne.symm y1, Ne.symm y2, him, g2, x0, x1, x2, xi, Ne.symm x0, Ne.symm x1, Ne.symm x2, Ne.symm xi, hrm, hc, htx, fullb, h8, e8, e8', e8'']
      refine callL_ (vs := [(⟨⟨num, d.now.story⟩, d.past ++ [d.now]⟩ : Desk).v]) (hR2 _ _) (by simp -dsimp [nes8 n1, k0, k1, k2, f0, f1, f2, z1, z2, z3, nes, g1, y0, y1, y2, yn, Ne.symm y0, Ne.symm y1, Ne.symm y2, him, g2, x0, x1, x2, xi, Ne.symm x0, Ne.symm x1, Ne.symm x2, Ne.symm xi, hrm, hc]) ?_
      rintro t m2 n2 ⟨hn2, hout2, sn2, P2, rfl, hown2⟩
      have q2 := hout2 2 (by omega)
      simp -dsimp [nes8 n1, k0, k1, k2, f0, f1, f2, z1, z2, z3, nes, g1, y0, y1, y2, yn, Ne.symm y0, Ne.symm y1, Ne.symm y2, him, g2, x0, x1, x2, xi, Ne.symm x0, Ne.symm x1, Ne.symm x2, Ne.symm xi, hrm] at q2
      have hfc := hown2.facts
      have hc2 := hfc.1
      have hcs2 := hfc.2.1
      have hcP2 := hfc.2.2.1
      have hcsP2 := hfc.2.2.2
      clear hfc
      simp -dsimp [dT, q2, hc2, hcs2, hcP2, hcsP2, htx, ek]
      exact ⟨sn2, P2, rfl, hown2.keep (Nat.zero_le _) (by omega) fun j j1 j2 => by simp [show ¬ j = 2 by omega]⟩
end TL

/- Deeds at a desk, results of the caller's own: the program. -/
set_option linter.unusedSimpArgs false
set_option linter.unusedVariables false
set_option maxRecDepth 100000
set_option maxHeartbeats 4000000
set_option pp.maxSteps 1500
namespace TL
open Go Go.Proofs
attribute [local simp] marksV storyV codeV Claim.v Place.v Deed.v Desk.v
theorem do_least_k (d : Desk)  (hd : d.small) (hk : deskOk d = true) (X : Place) (hXl : X.story.length ≤ 7) (hX : X = ⟨d.now.people, least d.now.people.toNat d.now.story⟩) :
    FnS Tryz.prog 11 (fun _ => none) 0 [.v d.v, .v (⟨3, 0, []⟩ : Deed).v] (PostK (if (placeOk X && !decide (placeTx X = placeTx d.now)) = true then ((⟨X, keep8 (d.past ++ [d.now])⟩, true) : Desk × Bool) else (d, false))) := by
  have hpo := placeOk_fn X (by omega)
  have hpt := placeText_fn X (by omega)
  have hpn := placeText_fn d.now (by have := hd.1.1; omega)
  have hcn := copyPlace_fn d.now hd.1
  have hok := deskOk_fn d (by have := hd.2.1; omega) (by have := hd.1.1; omega) (fun p hp => by have := (hd.2.2 p hp).1; omega)
  rw [hk] at hok
  obtain ⟨hpast, hnow, hp8⟩ := deskOk_iff.1 hk
  have hcopy := fun m n => copyDesk_own d hd m n
  have hcopyK := fun m n => copyDesk_k d hd hk m n
  have fullb : (d.past.length + 1) * 32 ≤ 140737488355328 := by omega
  have zplaces : allZ 2 (List.map Place.v d.past ++ [d.now.v]) := fun x hx => by
    rcases List.mem_append.1 hx with hx | hx
    · obtain ⟨p, _, rfl⟩ := List.mem_map.1 hx; exact ⟨by simp, by simp⟩
    · rw [List.mem_singleton.1 hx]; exact ⟨by simp, by simp⟩
  have hR : placeOk X = true → ∀ l, keep8 (d.past ++ [d.now]) = l → ∀ m n, FnS Tryz.prog 35 m n [.v (⟨X, l⟩ : Desk).v] (DeepK ⟨X, l⟩ m n) := fun hX l hl m n => by
    have ok : deskOk ⟨X, l⟩ = true := deskOk_iff.2 ⟨fun p hp => by
      rw [← hl] at hp
      rcases List.mem_append.1 (keep8_mem hp) with h1 | h1
      · exact hpast p h1
      · rw [List.mem_singleton.1 h1]; exact hnow, hX, by rw [← hl]; exact keep8_len _ (by simp; omega)⟩
    exact copyDesk_k ⟨X, l⟩ (desk_fine ok).1 ok m n
  have hls := leastStory_fn d.now.people d.now.story hnow
  have hkX := ft (placeOk X)
  have htx : placeTx X = placeTx d.now ∨ ¬ placeTx X = placeTx d.now := Classical.em _
  generalize placeTx X = tX at *
  generalize placeTx d.now = tN at *
  generalize placeOk X = okX at *
  subst hX
  generalize least d.now.people.toNat d.now.story = R at *
  refine FnS_of (rs := [.cell 4 37, .tmp 5]) false Tryz.func11 rfl rfl rfl rfl (Nat.le_of_ble_eq_true rfl) ?_
  simp -dsimp
  refine call_ hok (by simp -dsimp) ?_
  simp -dsimp
  refine callL_ (vs := [d.v]) (hcopy _ _) (by simp -dsimp) ?_
  rintro t m1 n1 ⟨hn1, hout, id, st, rfl, hi0, hi1, him, hst, hne⟩
  have k0 := hout 0 (by omega)
  have k1 := hout 1 (by omega)
  have k2 := hout 2 (by omega)
  simp -dsimp at k0 k1 k2
  have f0 := far (show 0 < n1 by omega)
  have f1 := far (show 1 < n1 by omega)
  have f2 := far (show 2 < n1 by omega)
  have z1 : ¬ n1 = 0 := by omega
  have z2 : ¬ n1 = 1 := by omega
  have z3 : ¬ n1 = 2 := by omega
  have g1 := far hi1
  have y0 : ¬ id = 0 := by omega
  have y1 : ¬ id = 1 := by omega
  have y2 : ¬ id = 2 := by omega
  have yn : ¬ id = n1 := by omega
  have hc := hst.cell
  rcases hst with ⟨rfl, hs0⟩ | ⟨r, rfl, hr0, hr1, hrm⟩
  · have hp0 : d.past = [] := by simpa using hs0
    simp -dsimp [nes8 n1, k0, k1, k2, f0, f1, f2, z1, z2, z3, nes, g1, y0, y1, y2, yn, Ne.symm y0, Ne.symm y1, Ne.symm y2, him, hc]
    refine twp_draw (List.range 16) [n1] (List.replicate 12 [0] ++ [[], [], [], []]) (List.replicate 15 [0] ++ [[]]) (by kernel_rfl) (by kernel_rfl) (by kernel_rfl) (by kernel_rfl) ?_
    simp -dsimp [List.range_succ, nes8 n1, k0, k1, k2, f0, f1, f2, z1, z2, z3, nes, g1, y0, y1, y2, yn, Ne.symm y0, Ne.symm y1, Ne.symm y2, him, hc]
    refine call_ hls (by simp -dsimp [nes8 n1, k0, k1, k2, f0, f1, f2, z1, z2, z3, nes, g1, y0, y1, y2, yn, Ne.symm y0, Ne.symm y1, Ne.symm y2, him, hc]) ?_
    simp -dsimp [List.range_succ, nes8 n1, k0, k1, k2, f0, f1, f2, z1, z2, z3, nes, g1, y0, y1, y2, yn, Ne.symm y0, Ne.symm y1, Ne.symm y2, him, hc]
    refine twp_draw [0, 1, 2, 3, 4, 5, 6, 7, 8, 10, 11, 9, 12, 13, 14] [0, n1] (List.replicate 15 [0, 1]) (List.replicate 15 [0, 1]) (by kernel_rfl) (by kernel_rfl) (by kernel_rfl) (by kernel_rfl) ?_
    simp -dsimp [nes8 n1, k0, k1, k2, f0, f1, f2, z1, z2, z3, nes, g1, y0, y1, y2, yn, Ne.symm y0, Ne.symm y1, Ne.symm y2, him, hc, hp0]
    refine call_ hpo (by simp -dsimp [nes8 n1, k0, k1, k2, f0, f1, f2, z1, z2, z3, nes, g1, y0, y1, y2, yn, Ne.symm y0, Ne.symm y1, Ne.symm y2, him, hc, hp0]) ?_
    rcases hkX with rfl | rfl
    · simp -dsimp [nes8 n1, k0, k1, k2, f0, f1, f2, z1, z2, z3, nes, g1, y0, y1, y2, yn, Ne.symm y0, Ne.symm y1, Ne.symm y2, him, hc, hp0]
      refine callL_ (vs := [d.v]) (hcopyK _ _) (by simp -dsimp [hc, hp0]) ?_
      rintro t m2 n2 ⟨hn2, hout2, sn2, P2, rfl, hown2⟩
      have q2 := hout2 2 (by omega)
      simp -dsimp [nes8 n1, k0, k1, k2, f0, f1, f2, z1, z2, z3, nes, g1, y0, y1, y2, yn, Ne.symm y0, Ne.symm y1, Ne.symm y2, him] at q2
      have hfc := hown2.facts
      have hc2 := hfc.1
      have hcs2 := hfc.2.1
      have hcP2 := hfc.2.2.1
      have hcsP2 := hfc.2.2.2
      clear hfc
      simp -dsimp [dT, q2, hc2, hcs2, hcP2, hcsP2]
      exact ⟨sn2, P2, rfl, hown2.keep (Nat.zero_le _) (by omega) fun j j1 j2 => by simp [show ¬ j = 2 by omega]⟩
    simp -dsimp [nes8 n1, k0, k1, k2, f0, f1, f2, z1, z2, z3, nes, g1, y0, y1, y2, yn, Ne.symm y0, Ne.symm y1, Ne.symm y2, him, hc, hp0]
    refine call_ hpt (by simp -dsimp [nes8 n1, k0, k1, k2, f0, f1, f2, z1, z2, z3, nes, g1, y0, y1, y2, yn, Ne.symm y0, Ne.symm y1, Ne.symm y2, him, hc, hp0]) ?_
    simp -dsimp [nes8 n1, k0, k1, k2, f0, f1, f2, z1, z2, z3, nes, g1, y0, y1, y2, yn, Ne.symm y0, Ne.symm y1, Ne.symm y2, him, hc, hp0]
    refine call_ hpn (by simp -dsimp) ?_
    rcases htx with rfl | htx
    · simp -dsimp [nes8 n1, k0, k1, k2, f0, f1, f2, z1, z2, z3, nes, g1, y0, y1, y2, yn, Ne.symm y0, Ne.symm y1, Ne.symm y2, him, hc, hp0]
      refine callL_ (vs := [d.v]) (hcopyK _ _) (by simp -dsimp [hc, hp0]) ?_
      rintro t m2 n2 ⟨hn2, hout2, sn2, P2, rfl, hown2⟩
      have q2 := hout2 2 (by omega)
      simp -dsimp [nes8 n1, k0, k1, k2, f0, f1, f2, z1, z2, z3, nes, g1, y0, y1, y2, yn, Ne.symm y0, Ne.symm y1, Ne.symm y2, him] at q2
      have hfc := hown2.facts
      have hc2 := hfc.1
      have hcs2 := hfc.2.1
      have hcP2 := hfc.2.2.1
      have hcsP2 := hfc.2.2.2
      clear hfc
      simp -dsimp [dT, q2, hc2, hcs2, hcP2, hcsP2]
      exact ⟨sn2, P2, rfl, hown2.keep (Nat.zero_le _) (by omega) fun j j1 j2 => by simp [show ¬ j = 2 by omega]⟩
    have hRs := hR rfl
    simp -dsimp [nes8 n1, k0, k1, k2, f0, f1, f2, z1, z2, z3, nes, g1, y0, y1, y2, yn, Ne.symm y0, Ne.symm y1, Ne.symm y2, him, hc, hp0, htx]
    refine twp_draw (List.range 9) [0, n1] (List.replicate 9 [0, 1]) (List.replicate 8 [0, 1] ++ [[0]]) (by kernel_rfl) (by kernel_rfl) (by kernel_rfl) (by kernel_rfl) ?_
    simp -dsimp [List.range_succ, nes8 n1, k0, k1, k2, f0, f1, f2, z1, z2, z3, nes, g1, y0, y1, y2, yn, Ne.symm y0, Ne.symm y1, Ne.symm y2, him, hc, hp0, htx]
    refine call_ hcn (by simp -dsimp) ?_
    have hR2 := hRs [d.now] (by rw [hp0]; rfl)
    simp -dsimp [List.range_succ, nes8 n1, k0, k1, k2, f0, f1, f2, z1, z2, z3, nes, g1, y0, y1, y2, yn, Ne.symm y0, Ne.symm y1, Ne.symm y2, him, hc, hp0, htx]
    refine callL_ (vs := [(⟨⟨d.now.people, R⟩, [d.now]⟩ : Desk).v]) (hR2 _ _) (by simp -dsimp [nes8 n1, k0, k1, k2, f0, f1, f2, z1, z2, z3, nes, g1, y0, y1, y2, yn, Ne.symm y0, Ne.symm y1, Ne.symm y2, him, hc, hp0]) ?_
    rintro t m2 n2 ⟨hn2, hout2, sn2, P2, rfl, hown2⟩
    have q2 := hout2 2 (by omega)
    simp -dsimp [nes8 n1, k0, k1, k2, f0, f1, f2, z1, z2, z3, nes, g1, y0, y1, y2, yn, Ne.symm y0, Ne.symm y1, Ne.symm y2, him] at q2
    have hfc := hown2.facts
    have hc2 := hfc.1
    have hcs2 := hfc.2.1
    have hcP2 := hfc.2.2.1
    have hcsP2 := hfc.2.2.2
    clear hfc
    simp -dsimp [dT, q2, hc2, hcs2, hcP2, hcsP2, htx, hp0, keep8]
    exact ⟨sn2, P2, rfl, hown2.keep (Nat.zero_le _) (by omega) fun j j1 j2 => by simp [show ¬ j = 2 by omega]⟩
  · have g2 := far hr1
    have x0 : ¬ r = 0 := by omega
    have x1 : ¬ r = 1 := by omega
    have x2 : ¬ r = 2 := by omega
    have xi : ¬ r = id := fun h => hne (by rw [h])
    simp -dsimp [nes8 n1, k0, k1, k2, f0, f1, f2, z1, z2, z3, nes, g1, y0, y1, y2, yn, Ne.symm y0, Ne.symm y1, Ne.symm y2, him, g2, x0, x1, x2, xi, Ne.symm x0, Ne.symm x1, Ne.symm x2, Ne.symm xi, hrm, hc]
    refine twp_draw (List.range 16) [n1] (List.replicate 12 [0] ++ [[], [], [], []]) (List.replicate 15 [0] ++ [[]]) (by kernel_rfl) (by kernel_rfl) (by kernel_rfl) (by kernel_rfl) ?_
    simp -dsimp [List.range_succ, nes8 n1, k0, k1, k2, f0, f1, f2, z1, z2, z3, nes, g1, y0, y1, y2, yn, Ne.symm y0, Ne.symm y1, Ne.symm y2, him, g2, x0, x1, x2, xi, Ne.symm x0, Ne.symm x1, Ne.symm x2, Ne.symm xi, hrm, hc]
    refine call_ hls (by simp -dsimp [nes8 n1, k0, k1, k2, f0, f1, f2, z1, z2, z3, nes, g1, y0, y1, y2, yn, Ne.symm y0, Ne.symm y1, Ne.symm y2, him, g2, x0, x1, x2, xi, Ne.symm x0, Ne.symm x1, Ne.symm x2, Ne.symm xi, hrm, hc]) ?_
    simp -dsimp [List.range_succ, nes8 n1, k0, k1, k2, f0, f1, f2, z1, z2, z3, nes, g1, y0, y1, y2, yn, Ne.symm y0, Ne.symm y1, Ne.symm y2, him, g2, x0, x1, x2, xi, Ne.symm x0, Ne.symm x1, Ne.symm x2, Ne.symm xi, hrm, hc]
    refine twp_draw [0, 1, 2, 3, 4, 5, 6, 7, 8, 10, 11, 9, 12, 13, 14] [0, n1] (List.replicate 15 [0, 1]) (List.replicate 15 [0, 1]) (by kernel_rfl) (by kernel_rfl) (by kernel_rfl) (by kernel_rfl) ?_
    simp -dsimp [nes8 n1, k0, k1, k2, f0, f1, f2, z1, z2, z3, nes, g1, y0, y1, y2, yn, Ne.symm y0, Ne.symm y1, Ne.symm y2, him, g2, x0, x1, x2, xi, Ne.symm x0, Ne.symm x1, Ne.symm x2, Ne.symm xi, hrm, hc]
    refine call_ hpo (by simp -dsimp [nes8 n1, k0, k1, k2, f0, f1, f2, z1, z2, z3, nes, g1, y0, y1, y2, yn, Ne.symm y0, Ne.symm y1, Ne.symm y2, him, g2, x0, x1, x2, xi, Ne.symm x0, Ne.symm x1, Ne.symm x2, Ne.symm xi, hrm, hc]) ?_
    rcases hkX with rfl | rfl
    · simp -dsimp [nes8 n1, k0, k1, k2, f0, f1, f2, z1, z2, z3, nes, g1, y0, y1, y2, yn, Ne.symm y0, Ne.symm y1, Ne.symm y2, him, g2, x0, x1, x2, xi, Ne.symm x0, Ne.symm x1, Ne.symm x2, Ne.symm xi, hrm, hc]
      refine callL_ (vs := [d.v]) (hcopyK _ _) (by simp -dsimp [hc]) ?_
      rintro t m2 n2 ⟨hn2, hout2, sn2, P2, rfl, hown2⟩
      have q2 := hout2 2 (by omega)
      simp -dsimp [nes8 n1, k0, k1, k2, f0, f1, f2, z1, z2, z3, nes, g1, y0, y1, y2, yn, Ne.symm y0, Ne.symm y1, Ne.symm y2, him, g2, x0, x1, x2, xi, Ne.symm x0, Ne.symm x1, Ne.symm x2, Ne.symm xi, hrm] at q2
      have hfc := hown2.facts
      have hc2 := hfc.1
      have hcs2 := hfc.2.1
      have hcP2 := hfc.2.2.1
      have hcsP2 := hfc.2.2.2
      clear hfc
      simp -dsimp [dT, q2, hc2, hcs2, hcP2, hcsP2]
      exact ⟨sn2, P2, rfl, hown2.keep (Nat.zero_le _) (by omega) fun j j1 j2 => by simp [show ¬ j = 2 by omega]⟩
    simp -dsimp [nes8 n1, k0, k1, k2, f0, f1, f2, z1, z2, z3, nes, g1, y0, y1, y2, yn, Ne.symm y0, Ne.symm y1, Ne.symm y2, him, g2, x0, x1, x2, xi, Ne.symm x0, Ne.symm x1, Ne.symm x2, Ne.symm xi, hrm, hc]
    refine call_ hpt (by simp -dsimp [nes8 n1, k0, k1, k2, f0, f1, f2, z1, z2, z3, nes, g1, y0, y1, y2, yn, Ne.symm y0, Ne.symm y1, Ne.symm y2, him, g2, x0, x1, x2, xi, Ne.symm x0, Ne.symm x1, Ne.symm x2, Ne.symm xi, hrm, hc]) ?_
    simp -dsimp [nes8 n1, k0, k1, k2, f0, f1, f2, z1, z2, z3, nes, g1, y0, y1, y2, yn, Ne.symm y0, Ne.symm y1, Ne.symm y2, him, g2, x0, x1, x2, xi, Ne.symm x0, Ne.symm x1, Ne.symm x2, Ne.symm xi, hrm, hc]
    refine call_ hpn (by simp -dsimp) ?_
    rcases htx with rfl | htx
    · simp -dsimp [nes8 n1, k0, k1, k2, f0, f1, f2, z1, z2, z3, nes, g1, y0, y1, y2, yn, Ne.symm y0, Ne.symm y1, Ne.symm y2, him, g2, x0, x1, x2, xi, Ne.symm x0, Ne.symm x1, Ne.symm x2, Ne.symm xi, hrm, hc]
      refine callL_ (vs := [d.v]) (hcopyK _ _) (by simp -dsimp [hc]) ?_
      rintro t m2 n2 ⟨hn2, hout2, sn2, P2, rfl, hown2⟩
      have q2 := hout2 2 (by omega)
      simp -dsimp [nes8 n1, k0, k1, k2, f0, f1, f2, z1, z2, z3, nes, g1, y0, y1, y2, yn, Ne.symm y0, Ne.symm y1, Ne.symm y2, him, g2, x0, x1, x2, xi, Ne.symm x0, Ne.symm x1, Ne.symm x2, Ne.symm xi, hrm] at q2
      have hfc := hown2.facts
      have hc2 := hfc.1
      have hcs2 := hfc.2.1
      have hcP2 := hfc.2.2.1
      have hcsP2 := hfc.2.2.2
      clear hfc
      simp -dsimp [dT, q2, hc2, hcs2, hcP2, hcsP2]
      exact ⟨sn2, P2, rfl, hown2.keep (Nat.zero_le _) (by omega) fun j j1 j2 => by simp [show ¬ j = 2 by omega]⟩
    have hRs := hR rfl
    simp -dsimp [nes8 n1, k0, k1, k2, f0, f1, f2, z1, z2, z3, nes, g1, y0, y1, y2, yn, Ne.symm y0, Ne.symm y1, Ne.symm y2, him, g2, x0, x1, x2, xi, Ne.symm x0, Ne.symm x1, Ne.symm x2, Ne.symm xi, hrm, hc, htx]
    refine twp_draw (List.range 9) [0, n1] (List.replicate 9 [0, 1]) (List.replicate 8 [0, 1] ++ [[0]]) (by kernel_rfl) (by kernel_rfl) (by kernel_rfl) (by kernel_rfl) ?_
    simp -dsimp [List.range_succ, nes8 n1, k0, k1, k2, f0, f1, f2, z1, z2, z3, nes, g1, y0, y1, y2, yn, Ne.symm y0, Ne.symm y1, Ne.symm y2, him, g2, x0, x1, x2, xi, Ne.symm x0, Ne.symm x1, Ne.symm x2, Ne.symm xi, hrm, hc, htx]
    refine call_ hcn (by simp -dsimp) ?_
    by_cases h8 : d.past.length = 8
    · have e8 : (d.past.length : Int) = 8 := by omega
      have ek : keep8 (d.past ++ [d.now]) = (d.past ++ [d.now]).tail := by unfold keep8; rw [if_pos (by simp [h8])]; simp
      have hR2 := hRs (d.past ++ [d.now]).tail ek
      have tk : List.take 9 (List.map Place.v d.past ++ [d.now.v]) = List.map Place.v d.past ++ [d.now.v] := List.take_of_length_le (by simp [h8])
      have zk : allZ 2 (List.map Place.v d.past ++ [d.now.v]).tail := fun x hx => zplaces x (List.mem_of_mem_tail hx)
      simp only [Place.v, storyV] at tk zk
      simp -dsimp [List.range_succ, nes8 n1, k0, k1, k2, f0, f1, f2, z1, z2, z3, nes, g1, y0, y1, y2, yn, Ne.symm y0, Ne.symm y1, Ne.symm y2, him, g2, x0, x1, x2, xi, Ne.symm x0, Ne.symm x1, Ne.symm x2, Ne.symm xi, hrm, hc, htx, fullb, h8, e8, tk, zk]
      refine callL_ (vs := [(⟨⟨d.now.people, R⟩, (d.past ++ [d.now]).tail⟩ : Desk).v]) (hR2 _ _) (by simp -dsimp [nes8 n1, k0, k1, k2, f0, f1, f2, z1, z2, z3, nes, g1, y0, y1, y2, yn, Ne.symm y0, Ne.symm y1, Ne.symm y2, him, g2, x0, x1, x2, xi, Ne.symm x0, Ne.symm x1, Ne.symm x2, Ne.symm xi, hrm, hc, List.map_tail, List.map_append]) ?_
      rintro t m2 n2 ⟨hn2, hout2, sn2, P2, rfl, hown2⟩
      have q2 := hout2 2 (by omega)
      simp -dsimp [nes8 n1, k0, k1, k2, f0, f1, f2, z1, z2, z3, nes, g1, y0, y1, y2, yn, Ne.symm y0, Ne.symm y1, Ne.symm y2, him, g2, x0, x1, x2, xi, Ne.symm x0, Ne.symm x1, Ne.symm x2, Ne.symm xi, hrm] at q2
      have hfc := hown2.facts
      have hc2 := hfc.1
      have hcs2 := hfc.2.1
      have hcP2 := hfc.2.2.1
      have hcsP2 := hfc.2.2.2
      clear hfc
      simp -dsimp [dT, q2, hc2, hcs2, hcP2, hcsP2, htx, ek]
      exact ⟨sn2, P2, rfl, hown2.keep (Nat.zero_le _) (by omega) fun j j1 j2 => by simp [show ¬ j = 2 by omega]⟩
    · have e8 : d.past.length < 8 := by omega
      have e8' : ¬ (8 : Int) < (d.past.length : Int) + 1 := by omega
      have e8'' : ¬ 8 < d.past.length + 1 := by omega
      have ek : keep8 (d.past ++ [d.now]) = d.past ++ [d.now] := by unfold keep8; rw [if_neg (by simp; omega)]
      have hR2 := hRs (d.past ++ [d.now]) ek
      simp -dsimp [List.range_succ, nes8 n1, k0, k1, k2, f0, f1, f2, z1, z2, z3, nes, g1, y0, y1, y2, yn, Ne.symm y0, Ne.symm y1, Ne.symm y2, him, g2, x0, x1, x2, xi, Ne.symm x0, Ne.symm x1, Ne.symm x2, Ne.symm xi, hrm, hc, htx, fullb, h8, e8, e8', e8'']
      refine callL_ (vs := [(⟨⟨d.now.people, R⟩, d.past ++ [d.now]⟩ : Desk).v]) (hR2 _ _) (by simp -dsimp [nes8 n1, k0, k1, k2, f0, f1, f2, z1, z2, z3, nes, g1, y0, y1, y2, yn, Ne.symm y0, Ne.symm y1, Ne.symm y2, him, g2, x0, x1, x2, xi, Ne.symm x0, Ne.symm x1, Ne.symm x2, Ne.symm xi, hrm, hc]) ?_
      rintro t m2 n2 ⟨hn2, hout2, sn2, P2, rfl, hown2⟩
      have q2 := hout2 2 (by omega)
      simp -dsimp [nes8 n1, k0, k1, k2, f0, f1, f2, z1, z2, z3, nes, g1, y0, y1, y2, yn, Ne.symm y0, Ne.symm y1, Ne.symm y2, him, g2, x0, x1, x2, xi, Ne.symm x0, Ne.symm x1, Ne.symm x2, Ne.symm xi, hrm] at q2
      have hfc := hown2.facts
      have hc2 := hfc.1
      have hcs2 := hfc.2.1
      have hcP2 := hfc.2.2.1
      have hcsP2 := hfc.2.2.2
      clear hfc
      simp -dsimp [dT, q2, hc2, hcs2, hcP2, hcsP2, htx, ek]
      exact ⟨sn2, P2, rfl, hown2.keep (Nat.zero_le _) (by omega) fun j j1 j2 => by simp [show ¬ j = 2 by omega]⟩
end TL

/- Deeds at a desk, results of the caller's own: the program. -/
set_option linter.unusedSimpArgs false
set_option linter.unusedVariables false
set_option maxRecDepth 100000
set_option maxHeartbeats 4000000
set_option pp.maxSteps 1500
namespace TL
open Go Go.Proofs
attribute [local simp] marksV storyV codeV Claim.v Place.v Deed.v Desk.v
theorem do_drop_k (d : Desk) (k : Nat) (hd : d.small) (hk : deskOk d = true) (X : Place) (hXl : X.story.length ≤ 7) (hlt : k < d.now.story.length) (hX : X = ⟨d.now.people, d.now.story.eraseIdx k⟩) :
    FnS Tryz.prog 11 (fun _ => none) 0 [.v d.v, .v (⟨1, (k : Int), []⟩ : Deed).v] (PostK (if (placeOk X && !decide (placeTx X = placeTx d.now)) = true then ((⟨X, keep8 (d.past ++ [d.now])⟩, true) : Desk × Bool) else (d, false))) := by
  have hpo := placeOk_fn X (by omega)
  have hpt := placeText_fn X (by omega)
  have hpn := placeText_fn d.now (by have := hd.1.1; omega)
  have hcn := copyPlace_fn d.now hd.1
  have hok := deskOk_fn d (by have := hd.2.1; omega) (by have := hd.1.1; omega) (fun p hp => by have := (hd.2.2 p hp).1; omega)
  rw [hk] at hok
  obtain ⟨hpast, hnow, hp8⟩ := deskOk_iff.1 hk
  have hcopy := fun m n => copyDesk_own d hd m n
  have hcopyK := fun m n => copyDesk_k d hd hk m n
  have fullb : (d.past.length + 1) * 32 ≤ 140737488355328 := by omega
  have zplaces : allZ 2 (List.map Place.v d.past ++ [d.now.v]) := fun x hx => by
    rcases List.mem_append.1 hx with hx | hx
    · obtain ⟨p, _, rfl⟩ := List.mem_map.1 hx; exact ⟨by simp, by simp⟩
    · rw [List.mem_singleton.1 hx]; exact ⟨by simp, by simp⟩
  have hR : placeOk X = true → ∀ l, keep8 (d.past ++ [d.now]) = l → ∀ m n, FnS Tryz.prog 35 m n [.v (⟨X, l⟩ : Desk).v] (DeepK ⟨X, l⟩ m n) := fun hX l hl m n => by
    have ok : deskOk ⟨X, l⟩ = true := deskOk_iff.2 ⟨fun p hp => by
      rw [← hl] at hp
      rcases List.mem_append.1 (keep8_mem hp) with h1 | h1
      · exact hpast p h1
      · rw [List.mem_singleton.1 h1]; exact hnow, hX, by rw [← hl]; exact keep8_len _ (by simp; omega)⟩
    exact copyDesk_k ⟨X, l⟩ (desk_fine ok).1 ok m n
  have hw := without_fn d.now.story k hlt (by have := hd.1.1; omega)
  have hkX := ft (placeOk X)
  have htx : placeTx X = placeTx d.now ∨ ¬ placeTx X = placeTx d.now := Classical.em _
  generalize placeTx X = tX at *
  generalize placeTx d.now = tN at *
  generalize placeOk X = okX at *
  subst hX
  have c1 : ¬ (d.now.story.length : Int) ≤ k := by omega
  have c2 : ¬ d.now.story.length ≤ k := by omega
  have c3 : ¬ (k : Int) < 0 := by omega
  generalize d.now.story.eraseIdx k = R at *
  refine FnS_of (rs := [.cell 4 37, .tmp 5]) false Tryz.func11 rfl rfl rfl rfl (Nat.le_of_ble_eq_true rfl) ?_
  simp -dsimp
  refine call_ hok (by simp -dsimp) ?_
  simp -dsimp
  refine callL_ (vs := [d.v]) (hcopy _ _) (by simp -dsimp) ?_
  rintro t m1 n1 ⟨hn1, hout, id, st, rfl, hi0, hi1, him, hst, hne⟩
  have k0 := hout 0 (by omega)
  have k1 := hout 1 (by omega)
  have k2 := hout 2 (by omega)
  simp -dsimp at k0 k1 k2
  have f0 := far (show 0 < n1 by omega)
  have f1 := far (show 1 < n1 by omega)
  have f2 := far (show 2 < n1 by omega)
  have z1 : ¬ n1 = 0 := by omega
  have z2 : ¬ n1 = 1 := by omega
  have z3 : ¬ n1 = 2 := by omega
  have g1 := far hi1
  have y0 : ¬ id = 0 := by omega
  have y1 : ¬ id = 1 := by omega
  have y2 : ¬ id = 2 := by omega
  have yn : ¬ id = n1 := by omega
  have hc := hst.cell
  rcases hst with ⟨rfl, hs0⟩ | ⟨r, rfl, hr0, hr1, hrm⟩
  · have hp0 : d.past = [] := by simpa using hs0
    simp -dsimp [nes8 n1, k0, k1, k2, f0, f1, f2, z1, z2, z3, nes, g1, y0, y1, y2, yn, Ne.symm y0, Ne.symm y1, Ne.symm y2, him, hc, c1, c2, c3]
    refine twp_draw (List.range 13) [1, n1, id] (List.replicate 13 [0, 1, 2]) (List.replicate 13 [0, 1, 2]) (by kernel_rfl) (by kernel_rfl) (by kernel_rfl) (by kernel_rfl) ?_
    simp -dsimp [List.range_succ, nes8 n1, k0, k1, k2, f0, f1, f2, z1, z2, z3, nes, g1, y0, y1, y2, yn, Ne.symm y0, Ne.symm y1, Ne.symm y2, him, hc, c1, c2, c3]
    refine twp_draw (List.range 11) [1, n1] (List.replicate 8 [0, 1] ++ [[], [], []]) (List.replicate 10 [0, 1] ++ [[0]]) (by kernel_rfl) (by kernel_rfl) (by kernel_rfl) (by kernel_rfl) ?_
    simp -dsimp [List.range_succ, nes8 n1, k0, k1, k2, f0, f1, f2, z1, z2, z3, nes, g1, y0, y1, y2, yn, Ne.symm y0, Ne.symm y1, Ne.symm y2, him, hc, c1, c2, c3]
    refine call_ hw (by simp -dsimp [nes8 n1, k0, k1, k2, f0, f1, f2, z1, z2, z3, nes, g1, y0, y1, y2, yn, Ne.symm y0, Ne.symm y1, Ne.symm y2, him, hc, c1, c2, c3]) ?_
    simp -dsimp [List.range_succ, nes8 n1, k0, k1, k2, f0, f1, f2, z1, z2, z3, nes, g1, y0, y1, y2, yn, Ne.symm y0, Ne.symm y1, Ne.symm y2, him, hc, c1, c2, c3]
    refine twp_draw [0, 1, 2, 3, 4, 5, 6, 7, 8, 10, 11, 9, 12, 13, 14] [0, n1] (List.replicate 15 [0, 1]) (List.replicate 15 [0, 1]) (by kernel_rfl) (by kernel_rfl) (by kernel_rfl) (by kernel_rfl) ?_
    simp -dsimp [nes8 n1, k0, k1, k2, f0, f1, f2, z1, z2, z3, nes, g1, y0, y1, y2, yn, Ne.symm y0, Ne.symm y1, Ne.symm y2, him, hc, c1, c2, c3, hp0]
    refine call_ hpo (by simp -dsimp [nes8 n1, k0, k1, k2, f0, f1, f2, z1, z2, z3, nes, g1, y0, y1, y2, yn, Ne.symm y0, Ne.symm y1, Ne.symm y2, him, hc, c1, c2, c3, hp0]) ?_
    rcases hkX with rfl | rfl
    · simp -dsimp [nes8 n1, k0, k1, k2, f0, f1, f2, z1, z2, z3, nes, g1, y0, y1, y2, yn, Ne.symm y0, Ne.symm y1, Ne.symm y2, him, hc, c1, c2, c3, hp0]
      refine callL_ (vs := [d.v]) (hcopyK _ _) (by simp -dsimp [hc, c1, c2, c3, hp0]) ?_
      rintro t m2 n2 ⟨hn2, hout2, sn2, P2, rfl, hown2⟩
      have q2 := hout2 2 (by omega)
      simp -dsimp [nes8 n1, k0, k1, k2, f0, f1, f2, z1, z2, z3, nes, g1, y0, y1, y2, yn, Ne.symm y0, Ne.symm y1, Ne.symm y2, him] at q2
      have hfc := hown2.facts
      have hc2 := hfc.1
      have hcs2 := hfc.2.1
      have hcP2 := hfc.2.2.1
      have hcsP2 := hfc.2.2.2
      clear hfc
      simp -dsimp [dT, q2, hc2, hcs2, hcP2, hcsP2]
      exact ⟨sn2, P2, rfl, hown2.keep (Nat.zero_le _) (by omega) fun j j1 j2 => by simp [show ¬ j = 2 by omega]⟩
    simp -dsimp [nes8 n1, k0, k1, k2, f0, f1, f2, z1, z2, z3, nes, g1, y0, y1, y2, yn, Ne.symm y0, Ne.symm y1, Ne.symm y2, him, hc, c1, c2, c3, hp0]
    refine call_ hpt (by simp -dsimp [nes8 n1, k0, k1, k2, f0, f1, f2, z1, z2, z3, nes, g1, y0, y1, y2, yn, Ne.symm y0, Ne.symm y1, Ne.symm y2, him, hc, c1, c2, c3, hp0]) ?_
    simp -dsimp [nes8 n1, k0, k1, k2, f0, f1, f2, z1, z2, z3, nes, g1, y0, y1, y2, yn, Ne.symm y0, Ne.symm y1, Ne.symm y2, him, hc, c1, c2, c3, hp0]
    refine call_ hpn (by simp -dsimp) ?_
    rcases htx with rfl | htx
    · simp -dsimp [nes8 n1, k0, k1, k2, f0, f1, f2, z1, z2, z3, nes, g1, y0, y1, y2, yn, Ne.symm y0, Ne.symm y1, Ne.symm y2, him, hc, c1, c2, c3, hp0]
      refine callL_ (vs := [d.v]) (hcopyK _ _) (by simp -dsimp [hc, c1, c2, c3, hp0]) ?_
      rintro t m2 n2 ⟨hn2, hout2, sn2, P2, rfl, hown2⟩
      have q2 := hout2 2 (by omega)
      simp -dsimp [nes8 n1, k0, k1, k2, f0, f1, f2, z1, z2, z3, nes, g1, y0, y1, y2, yn, Ne.symm y0, Ne.symm y1, Ne.symm y2, him] at q2
      have hfc := hown2.facts
      have hc2 := hfc.1
      have hcs2 := hfc.2.1
      have hcP2 := hfc.2.2.1
      have hcsP2 := hfc.2.2.2
      clear hfc
      simp -dsimp [dT, q2, hc2, hcs2, hcP2, hcsP2]
      exact ⟨sn2, P2, rfl, hown2.keep (Nat.zero_le _) (by omega) fun j j1 j2 => by simp [show ¬ j = 2 by omega]⟩
    have hRs := hR rfl
    simp -dsimp [nes8 n1, k0, k1, k2, f0, f1, f2, z1, z2, z3, nes, g1, y0, y1, y2, yn, Ne.symm y0, Ne.symm y1, Ne.symm y2, him, hc, c1, c2, c3, hp0, htx]
    refine twp_draw (List.range 9) [0, n1] (List.replicate 9 [0, 1]) (List.replicate 8 [0, 1] ++ [[0]]) (by kernel_rfl) (by kernel_rfl) (by kernel_rfl) (by kernel_rfl) ?_
    simp -dsimp [List.range_succ, nes8 n1, k0, k1, k2, f0, f1, f2, z1, z2, z3, nes, g1, y0, y1, y2, yn, Ne.symm y0, Ne.symm y1, Ne.symm y2, him, hc, c1, c2, c3, hp0, htx]
    refine call_ hcn (by simp -dsimp) ?_
    have hR2 := hRs [d.now] (by rw [hp0]; rfl)
    simp -dsimp [List.range_succ, nes8 n1, k0, k1, k2, f0, f1, f2, z1, z2, z3, nes, g1, y0, y1, y2, yn, Ne.symm y0, Ne.symm y1, Ne.symm y2, him, hc, c1, c2, c3, hp0, htx]
    refine callL_ (vs := [(⟨⟨d.now.people, R⟩, [d.now]⟩ : Desk).v]) (hR2 _ _) (by simp -dsimp [nes8 n1, k0, k1, k2, f0, f1, f2, z1, z2, z3, nes, g1, y0, y1, y2, yn, Ne.symm y0, Ne.symm y1, Ne.symm y2, him, hc, c1, c2, c3, hp0]) ?_
    rintro t m2 n2 ⟨hn2, hout2, sn2, P2, rfl, hown2⟩
    have q2 := hout2 2 (by omega)
    simp -dsimp [nes8 n1, k0, k1, k2, f0, f1, f2, z1, z2, z3, nes, g1, y0, y1, y2, yn, Ne.symm y0, Ne.symm y1, Ne.symm y2, him] at q2
    have hfc := hown2.facts
    have hc2 := hfc.1
    have hcs2 := hfc.2.1
    have hcP2 := hfc.2.2.1
    have hcsP2 := hfc.2.2.2
    clear hfc
    simp -dsimp [dT, q2, hc2, hcs2, hcP2, hcsP2, htx, hp0, keep8]
    exact ⟨sn2, P2, rfl, hown2.keep (Nat.zero_le _) (by omega) fun j j1 j2 => by simp [show ¬ j = 2 by omega]⟩
  · have g2 := far hr1
    have x0 : ¬ r = 0 := by omega
    have x1 : ¬ r = 1 := by omega
    have x2 : ¬ r = 2 := by omega
    have xi : ¬ r = id := fun h => hne (by rw [h])
    simp -dsimp [nes8 n1, k0, k1, k2, f0, f1, f2, z1, z2, z3, nes, g1, y0, y1, y2, yn, Ne.symm y0, Ne.symm y1, Ne.symm y2, him, g2, x0, x1, x2, xi, Ne.symm x0, Ne.symm x1, Ne.symm x2, Ne.symm xi, hrm, hc, c1, c2, c3]
    refine twp_draw (List.range 13) [1, n1, id] (List.replicate 13 [0, 1, 2]) (List.replicate 13 [0, 1, 2]) (by kernel_rfl) (by kernel_rfl) (by kernel_rfl) (by kernel_rfl) ?_
    simp -dsimp [List.range_succ, nes8 n1, k0, k1, k2, f0, f1, f2, z1, z2, z3, nes, g1, y0, y1, y2, yn, Ne.symm y0, Ne.symm y1, Ne.symm y2, him, g2, x0, x1, x2, xi, Ne.symm x0, Ne.symm x1, Ne.symm x2, Ne.symm xi, hrm, hc, c1, c2, c3]
    refine twp_draw (List.range 11) [1, n1] (List.replicate 8 [0, 1] ++ [[], [], []]) (List.replicate 10 [0, 1] ++ [[0]]) (by kernel_rfl) (by kernel_rfl) (by kernel_rfl) (by kernel_rfl) ?_
    simp -dsimp [List.range_succ, nes8 n1, k0, k1, k2, f0, f1, f2, z1, z2, z3, nes, g1, y0, y1, y2, yn, Ne.symm y0, Ne.symm y1, Ne.symm y2, him, g2, x0, x1, x2, xi, Ne.symm x0, Ne.symm x1, Ne.symm x2, Ne.symm xi, hrm, hc, c1, c2, c3]
    refine call_ hw (by simp -dsimp [nes8 n1, k0, k1, k2, f0, f1, f2, z1, z2, z3, nes, g1, y0, y1, y2, yn, Ne.symm y0, Ne.symm y1, Ne.symm y2, him, g2, x0, x1, x2, xi, Ne.symm x0, Ne.symm x1, Ne.symm x2, Ne.symm xi, hrm, hc, c1, c2, c3]) ?_
    simp -dsimp [List.range_succ, nes8 n1, k0, k1, k2, f0, f1, f2, z1, z2, z3, nes, g1, y0, y1, y2, yn, Ne.symm y0, Ne.symm y1, Ne.symm y2, him, g2, x0, x1, x2, xi, Ne.symm x0, Ne.symm x1, Ne.symm x2, Ne.symm xi, hrm, hc, c1, c2, c3]
    refine twp_draw [0, 1, 2, 3, 4, 5, 6, 7, 8, 10, 11, 9, 12, 13, 14] [0, n1] (List.replicate 15 [0, 1]) (List.replicate 15 [0, 1]) (by kernel_rfl) (by kernel_rfl) (by kernel_rfl) (by kernel_rfl) ?_
    simp -dsimp [nes8 n1, k0, k1, k2, f0, f1, f2, z1, z2, z3, nes, g1, y0, y1, y2, yn, Ne.symm y0, Ne.symm y1, Ne.symm y2, him, g2, x0, x1, x2, xi, Ne.symm x0, Ne.symm x1, Ne.symm x2, Ne.symm xi, hrm, hc, c1, c2, c3]
    refine call_ hpo (by simp -dsimp [nes8 n1, k0, k1, k2, f0, f1, f2, z1, z2, z3, nes, g1, y0, y1, y2, yn, Ne.symm y0, Ne.symm y1, Ne.symm y2, him, g2, x0, x1, x2, xi, Ne.symm x0, Ne.symm x1, Ne.symm x2, Ne.symm xi, hrm, hc, c1, c2, c3]) ?_
    rcases hkX with rfl | rfl
    · simp -dsimp [nes8 n1, k0, k1, k2, f0, f1, f2, z1, z2, z3, nes, g1, y0, y1, y2, yn, Ne.symm y0, Ne.symm y1, Ne.symm y2, him, g2, x0, x1, x2, xi, Ne.symm x0, Ne.symm x1, Ne.symm x2, Ne.symm xi, hrm, hc, c1, c2, c3]
      refine callL_ (vs := [d.v]) (hcopyK _ _) (by simp -dsimp [hc, c1, c2, c3]) ?_
      rintro t m2 n2 ⟨hn2, hout2, sn2, P2, rfl, hown2⟩
      have q2 := hout2 2 (by omega)
      simp -dsimp [nes8 n1, k0, k1, k2, f0, f1, f2, z1, z2, z3, nes, g1, y0, y1, y2, yn, Ne.symm y0, Ne.symm y1, Ne.symm y2, him, g2, x0, x1, x2, xi, Ne.symm x0, Ne.symm x1, Ne.symm x2, Ne.symm xi, hrm] at q2
      have hfc := hown2.facts
      have hc2 := hfc.1
      have hcs2 := hfc.2.1
      have hcP2 := hfc.2.2.1
      have hcsP2 := hfc.2.2.2
      clear hfc
      simp -dsimp [dT, q2, hc2, hcs2, hcP2, hcsP2]
      exact ⟨sn2, P2, rfl, hown2.keep (Nat.zero_le _) (by omega) fun j j1 j2 => by simp [show ¬ j = 2 by omega]⟩
    simp -dsimp [nes8 n1, k0, k1, k2, f0, f1, f2, z1, z2, z3, nes, g1, y0, y1, y2, yn, Ne.symm y0, Ne.symm y1, Ne.symm y2, him, g2, x0, x1, x2, xi, Ne.symm x0, Ne.symm x1, Ne.symm x2, Ne.symm xi, hrm, hc, c1, c2, c3]
    refine call_ hpt (by simp -dsimp [nes8 n1, k0, k1, k2, f0, f1, f2, z1, z2, z3, nes, g1, y0, y1, y2, yn, Ne.symm y0, Ne.symm y1, Ne.symm y2, him, g2, x0, x1, x2, xi, Ne.symm x0, Ne.symm x1, Ne.symm x2, Ne.symm xi, hrm, hc, c1, c2, c3]) ?_
    simp -dsimp [nes8 n1, k0, k1, k2, f0, f1, f2, z1, z2, z3, nes, g1, y0, y1, y2, yn, Ne.symm y0, Ne.symm y1, Ne.symm y2, him, g2, x0, x1, x2, xi, Ne.symm x0, Ne.symm x1, Ne.symm x2, Ne.symm xi, hrm, hc, c1, c2, c3]
    refine call_ hpn (by simp -dsimp) ?_
    rcases htx with rfl | htx
    · simp -dsimp [nes8 n1, k0, k1, k2, f0, f1, f2, z1, z2, z3, nes, g1, y0, y1, y2, yn, Ne.symm y0, Ne.symm y1, Ne.symm y2, him, g2, x0, x1, x2, xi, Ne.symm x0, Ne.symm x1, Ne.symm x2, Ne.symm xi, hrm, hc, c1, c2, c3]
      refine callL_ (vs := [d.v]) (hcopyK _ _) (by simp -dsimp [hc, c1, c2, c3]) ?_
      rintro t m2 n2 ⟨hn2, hout2, sn2, P2, rfl, hown2⟩
      have q2 := hout2 2 (by omega)
      simp -dsimp [nes8 n1, k0, k1, k2, f0, f1, f2, z1, z2, z3, nes, g1, y0, y1, y2, yn, Ne.symm y0, Ne.symm y1, Ne.symm y2, him, g2, x0, x1, x2, xi, Ne.symm x0, Ne.symm x1, Ne.symm x2, Ne.symm xi, hrm] at q2
      have hfc := hown2.facts
      have hc2 := hfc.1
      have hcs2 := hfc.2.1
      have hcP2 := hfc.2.2.1
      have hcsP2 := hfc.2.2.2
      clear hfc
      simp -dsimp [dT, q2, hc2, hcs2, hcP2, hcsP2]
      exact ⟨sn2, P2, rfl, hown2.keep (Nat.zero_le _) (by omega) fun j j1 j2 => by simp [show ¬ j = 2 by omega]⟩
    have hRs := hR rfl
    simp -dsimp [nes8 n1, k0, k1, k2, f0, f1, f2, z1, z2, z3, nes, g1, y0, y1, y2, yn, Ne.symm y0, Ne.symm y1, Ne.symm y2, him, g2, x0, x1, x2, xi, Ne.symm x0, Ne.symm x1, Ne.symm x2, Ne.symm xi, hrm, hc, c1, c2, c3, htx]
    refine twp_draw (List.range 9) [0, n1] (List.replicate 9 [0, 1]) (List.replicate 8 [0, 1] ++ [[0]]) (by kernel_rfl) (by kernel_rfl) (by kernel_rfl) (by kernel_rfl) ?_
    simp -dsimp [List.range_succ, nes8 n1, k0, k1, k2, f0, f1, f2, z1, z2, z3, nes, g1, y0, y1, y2, yn, Ne.symm y0, Ne.symm y1, Ne.symm y2, him, g2, x0, x1, x2, xi, Ne.symm x0, Ne.symm x1, Ne.symm x2, Ne.symm xi, hrm, hc, c1, c2, c3, htx]
    refine call_ hcn (by simp -dsimp) ?_
    by_cases h8 : d.past.length = 8
    · have e8 : (d.past.length : Int) = 8 := by omega
      have ek : keep8 (d.past ++ [d.now]) = (d.past ++ [d.now]).tail := by unfold keep8; rw [if_pos (by simp [h8])]; simp
      have hR2 := hRs (d.past ++ [d.now]).tail ek
      have tk : List.take 9 (List.map Place.v d.past ++ [d.now.v]) = List.map Place.v d.past ++ [d.now.v] := List.take_of_length_le (by simp [h8])
      have zk : allZ 2 (List.map Place.v d.past ++ [d.now.v]).tail := fun x hx => zplaces x (List.mem_of_mem_tail hx)
      simp only [Place.v, storyV] at tk zk
      simp -dsimp [List.range_succ, nes8 n1, k0, k1, k2, f0, f1, f2, z1, z2, z3, nes, g1, y0, y1, y2, yn, Ne.symm y0, Ne.symm y1, Ne.symm y2, him, g2, x0, x1, x2, xi, Ne.symm x0, Ne.symm x1, Ne.symm x2, Ne.symm xi, hrm, hc, c1, c2, c3, htx, fullb, h8, e8, tk, zk]
      refine callL_ (vs := [(⟨⟨d.now.people, R⟩, (d.past ++ [d.now]).tail⟩ : Desk).v]) (hR2 _ _) (by simp -dsimp [nes8 n1, k0, k1, k2, f0, f1, f2, z1, z2, z3, nes, g1, y0, y1, y2, yn, Ne.symm y0, Ne.symm y1, Ne.symm y2, him, g2, x0, x1, x2, xi, Ne.symm x0, Ne.symm x1, Ne.symm x2, Ne.symm xi, hrm, hc, c1, c2, c3, List.map_tail, List.map_append]) ?_
      rintro t m2 n2 ⟨hn2, hout2, sn2, P2, rfl, hown2⟩
      have q2 := hout2 2 (by omega)
      simp -dsimp [nes8 n1, k0, k1, k2, f0, f1, f2, z1, z2, z3, nes, g1, y0, y1, y2, yn, Ne.symm y0, Ne.symm y1, Ne.symm y2, him, g2, x0, x1, x2, xi, Ne.symm x0, Ne.symm x1, Ne.symm x2, Ne.symm xi, hrm] at q2
      have hfc := hown2.facts
      have hc2 := hfc.1
      have hcs2 := hfc.2.1
      have hcP2 := hfc.2.2.1
      have hcsP2 := hfc.2.2.2
      clear hfc
      simp -dsimp [dT, q2, hc2, hcs2, hcP2, hcsP2, htx, ek]
      exact ⟨sn2, P2, rfl, hown2.keep (Nat.zero_le _) (by omega) fun j j1 j2 => by simp [show ¬ j = 2 by omega]⟩
    · have e8 : d.past.length < 8 := by omega
      have e8' : ¬ (8 : Int) < (d.past.length : Int) + 1 := by omega
      have e8'' : ¬ 8 < d.past.length + 1 := by omega
      have ek : keep8 (d.past ++ [d.now]) = d.past ++ [d.now] := by unfold keep8; rw [if_neg (by simp; omega)]
      have hR2 := hRs (d.past ++ [d.now]) ek
      simp -dsimp [List.range_succ, nes8 n1, k0, k1, k2, f0, f1, f2, z1, z2, z3, nes, g1, y0, y1, y2, yn, Ne.symm y0, Ne.symm y1, Ne.symm y2, him, g2, x0, x1, x2, xi, Ne.symm x0, Ne.symm x1, Ne.symm x2, Ne.symm xi, hrm, hc, c1, c2, c3, htx, fullb, h8, e8, e8', e8'']
      refine callL_ (vs := [(⟨⟨d.now.people, R⟩, d.past ++ [d.now]⟩ : Desk).v]) (hR2 _ _) (by simp -dsimp [nes8 n1, k0, k1, k2, f0, f1, f2, z1, z2, z3, nes, g1, y0, y1, y2, yn, Ne.symm y0, Ne.symm y1, Ne.symm y2, him, g2, x0, x1, x2, xi, Ne.symm x0, Ne.symm x1, Ne.symm x2, Ne.symm xi, hrm, hc, c1, c2, c3]) ?_
      rintro t m2 n2 ⟨hn2, hout2, sn2, P2, rfl, hown2⟩
      have q2 := hout2 2 (by omega)
      simp -dsimp [nes8 n1, k0, k1, k2, f0, f1, f2, z1, z2, z3, nes, g1, y0, y1, y2, yn, Ne.symm y0, Ne.symm y1, Ne.symm y2, him, g2, x0, x1, x2, xi, Ne.symm x0, Ne.symm x1, Ne.symm x2, Ne.symm xi, hrm] at q2
      have hfc := hown2.facts
      have hc2 := hfc.1
      have hcs2 := hfc.2.1
      have hcP2 := hfc.2.2.1
      have hcsP2 := hfc.2.2.2
      clear hfc
      simp -dsimp [dT, q2, hc2, hcs2, hcP2, hcsP2, htx, ek]
      exact ⟨sn2, P2, rfl, hown2.keep (Nat.zero_le _) (by omega) fun j j1 j2 => by simp [show ¬ j = 2 by omega]⟩
end TL

/- Deeds at a desk, results of the caller's own: the program. -/
set_option linter.unusedSimpArgs false
set_option linter.unusedVariables false
set_option maxRecDepth 100000
set_option maxHeartbeats 4000000
set_option pp.maxSteps 1500
namespace TL
open Go Go.Proofs
attribute [local simp] marksV storyV codeV Claim.v Place.v Deed.v Desk.v
theorem do_say_k (d : Desk) (words : List UInt8) (c : Claim) (hd : d.small) (hk : deskOk d = true) (X : Place) (hXl : X.story.length ≤ 7) (hr : readC d.now.people words = some c) (hwl : words.length ≤ 1000000000) (hX : X = ⟨d.now.people, d.now.story ++ [c]⟩) :
    FnS Tryz.prog 11 (fun _ => none) 0 [.v d.v, .v (⟨0, 0, words⟩ : Deed).v] (PostK (if (placeOk X && !decide (placeTx X = placeTx d.now)) = true then ((⟨X, keep8 (d.past ++ [d.now])⟩, true) : Desk × Bool) else (d, false))) := by
  have hpo := placeOk_fn X (by omega)
  have hpt := placeText_fn X (by omega)
  have hpn := placeText_fn d.now (by have := hd.1.1; omega)
  have hcn := copyPlace_fn d.now hd.1
  have hok := deskOk_fn d (by have := hd.2.1; omega) (by have := hd.1.1; omega) (fun p hp => by have := (hd.2.2 p hp).1; omega)
  rw [hk] at hok
  obtain ⟨hpast, hnow, hp8⟩ := deskOk_iff.1 hk
  have hcopy := fun m n => copyDesk_own d hd m n
  have hcopyK := fun m n => copyDesk_k d hd hk m n
  have fullb : (d.past.length + 1) * 32 ≤ 140737488355328 := by omega
  have zplaces : allZ 2 (List.map Place.v d.past ++ [d.now.v]) := fun x hx => by
    rcases List.mem_append.1 hx with hx | hx
    · obtain ⟨p, _, rfl⟩ := List.mem_map.1 hx; exact ⟨by simp, by simp⟩
    · rw [List.mem_singleton.1 hx]; exact ⟨by simp, by simp⟩
  have hR : placeOk X = true → ∀ l, keep8 (d.past ++ [d.now]) = l → ∀ m n, FnS Tryz.prog 35 m n [.v (⟨X, l⟩ : Desk).v] (DeepK ⟨X, l⟩ m n) := fun hX l hl m n => by
    have ok : deskOk ⟨X, l⟩ = true := deskOk_iff.2 ⟨fun p hp => by
      rw [← hl] at hp
      rcases List.mem_append.1 (keep8_mem hp) with h1 | h1
      · exact hpast p h1
      · rw [List.mem_singleton.1 h1]; exact hnow, hX, by rw [← hl]; exact keep8_len _ (by simp; omega)⟩
    exact copyDesk_k ⟨X, l⟩ (desk_fine ok).1 ok m n
  have hrc := readClaim_fn d.now.people words (by omega)
  rw [hr] at hrc
  have b1 : (d.now.story.length + 1) * 32 ≤ 140737488355328 := by have := hd.1.1; omega
  have hkX := ft (placeOk X)
  have htx : placeTx X = placeTx d.now ∨ ¬ placeTx X = placeTx d.now := Classical.em _
  generalize placeTx X = tX at *
  generalize placeTx d.now = tN at *
  generalize placeOk X = okX at *
  subst hX
  refine FnS_of (rs := [.cell 4 37, .tmp 5]) false Tryz.func11 rfl rfl rfl rfl (Nat.le_of_ble_eq_true rfl) ?_
  simp -dsimp
  refine call_ hok (by simp -dsimp) ?_
  simp -dsimp
  refine callL_ (vs := [d.v]) (hcopy _ _) (by simp -dsimp) ?_
  rintro t m1 n1 ⟨hn1, hout, id, st, rfl, hi0, hi1, him, hst, hne⟩
  have k0 := hout 0 (by omega)
  have k1 := hout 1 (by omega)
  have k2 := hout 2 (by omega)
  simp -dsimp at k0 k1 k2
  have f0 := far (show 0 < n1 by omega)
  have f1 := far (show 1 < n1 by omega)
  have f2 := far (show 2 < n1 by omega)
  have z1 : ¬ n1 = 0 := by omega
  have z2 : ¬ n1 = 1 := by omega
  have z3 : ¬ n1 = 2 := by omega
  have g1 := far hi1
  have y0 : ¬ id = 0 := by omega
  have y1 : ¬ id = 1 := by omega
  have y2 : ¬ id = 2 := by omega
  have yn : ¬ id = n1 := by omega
  have hc := hst.cell
  rcases hst with ⟨rfl, hs0⟩ | ⟨r, rfl, hr0, hr1, hrm⟩
  · have hp0 : d.past = [] := by simpa using hs0
    simp -dsimp [nes8 n1, k0, k1, k2, f0, f1, f2, z1, z2, z3, nes, g1, y0, y1, y2, yn, Ne.symm y0, Ne.symm y1, Ne.symm y2, him, hc, b1]
    refine twp_draw [0, 1, 2, 3, 4, 5, 1006, 7, 8, 9, 10, 11, 12] [1, n1] (List.replicate 13 [0, 1]) (List.replicate 13 [0, 1]) (by kernel_rfl) (by kernel_rfl) (by kernel_rfl) (by kernel_rfl) ?_
    simp -dsimp [List.range_succ, nes8 n1, k0, k1, k2, f0, f1, f2, z1, z2, z3, nes, g1, y0, y1, y2, yn, Ne.symm y0, Ne.symm y1, Ne.symm y2, him, hc, b1]
    refine pure_ hrc (by simp -dsimp [nes8 n1, k0, k1, k2, f0, f1, f2, z1, z2, z3, nes, g1, y0, y1, y2, yn, Ne.symm y0, Ne.symm y1, Ne.symm y2, him, hc, b1]) ?_
    simp -dsimp [List.range_succ, nes8 n1, k0, k1, k2, f0, f1, f2, z1, z2, z3, nes, g1, y0, y1, y2, yn, Ne.symm y0, Ne.symm y1, Ne.symm y2, him, hc, b1, optC]
    refine twp_draw (List.range 11) [n1, n1 + 1 + 1] (List.replicate 8 [0, 1] ++ [[], [], []]) (List.replicate 10 [0, 1] ++ [[1]]) (by kernel_rfl) (by kernel_rfl) (by kernel_rfl) (by kernel_rfl) ?_
    simp -dsimp [List.range_succ, nes8 n1, k0, k1, k2, f0, f1, f2, z1, z2, z3, nes, g1, y0, y1, y2, yn, Ne.symm y0, Ne.symm y1, Ne.symm y2, him, hc, b1, b1]
    refine twp_draw [0, 1, 2, 3, 4, 5, 6, 7, 8, 10, 11, 9, 12, 13, 14] [0, n1] (List.replicate 15 [0, 1]) (List.replicate 15 [0, 1]) (by kernel_rfl) (by kernel_rfl) (by kernel_rfl) (by kernel_rfl) ?_
    simp -dsimp [nes8 n1, k0, k1, k2, f0, f1, f2, z1, z2, z3, nes, g1, y0, y1, y2, yn, Ne.symm y0, Ne.symm y1, Ne.symm y2, him, hc, b1, hp0]
    refine call_ hpo (by simp -dsimp [nes8 n1, k0, k1, k2, f0, f1, f2, z1, z2, z3, nes, g1, y0, y1, y2, yn, Ne.symm y0, Ne.symm y1, Ne.symm y2, him, hc, b1, hp0]) ?_
    rcases hkX with rfl | rfl
    · simp -dsimp [nes8 n1, k0, k1, k2, f0, f1, f2, z1, z2, z3, nes, g1, y0, y1, y2, yn, Ne.symm y0, Ne.symm y1, Ne.symm y2, him, hc, b1, hp0]
      refine callL_ (vs := [d.v]) (hcopyK _ _) (by simp -dsimp [hc, b1, hp0]) ?_
      rintro t m2 n2 ⟨hn2, hout2, sn2, P2, rfl, hown2⟩
      have q2 := hout2 2 (by omega)
      simp -dsimp [nes8 n1, k0, k1, k2, f0, f1, f2, z1, z2, z3, nes, g1, y0, y1, y2, yn, Ne.symm y0, Ne.symm y1, Ne.symm y2, him] at q2
      have hfc := hown2.facts
      have hc2 := hfc.1
      have hcs2 := hfc.2.1
      have hcP2 := hfc.2.2.1
      have hcsP2 := hfc.2.2.2
      clear hfc
      simp -dsimp [dT, q2, hc2, hcs2, hcP2, hcsP2]
      exact ⟨sn2, P2, rfl, hown2.keep (Nat.zero_le _) (by omega) fun j j1 j2 => by simp [show ¬ j = 2 by omega]⟩
    simp -dsimp [nes8 n1, k0, k1, k2, f0, f1, f2, z1, z2, z3, nes, g1, y0, y1, y2, yn, Ne.symm y0, Ne.symm y1, Ne.symm y2, him, hc, b1, hp0]
    refine call_ hpt (by simp -dsimp [nes8 n1, k0, k1, k2, f0, f1, f2, z1, z2, z3, nes, g1, y0, y1, y2, yn, Ne.symm y0, Ne.symm y1, Ne.symm y2, him, hc, b1, hp0]) ?_
    simp -dsimp [nes8 n1, k0, k1, k2, f0, f1, f2, z1, z2, z3, nes, g1, y0, y1, y2, yn, Ne.symm y0, Ne.symm y1, Ne.symm y2, him, hc, b1, hp0]
    refine call_ hpn (by simp -dsimp) ?_
    rcases htx with rfl | htx
    · simp -dsimp [nes8 n1, k0, k1, k2, f0, f1, f2, z1, z2, z3, nes, g1, y0, y1, y2, yn, Ne.symm y0, Ne.symm y1, Ne.symm y2, him, hc, b1, hp0]
      refine callL_ (vs := [d.v]) (hcopyK _ _) (by simp -dsimp [hc, b1, hp0]) ?_
      rintro t m2 n2 ⟨hn2, hout2, sn2, P2, rfl, hown2⟩
      have q2 := hout2 2 (by omega)
      simp -dsimp [nes8 n1, k0, k1, k2, f0, f1, f2, z1, z2, z3, nes, g1, y0, y1, y2, yn, Ne.symm y0, Ne.symm y1, Ne.symm y2, him] at q2
      have hfc := hown2.facts
      have hc2 := hfc.1
      have hcs2 := hfc.2.1
      have hcP2 := hfc.2.2.1
      have hcsP2 := hfc.2.2.2
      clear hfc
      simp -dsimp [dT, q2, hc2, hcs2, hcP2, hcsP2]
      exact ⟨sn2, P2, rfl, hown2.keep (Nat.zero_le _) (by omega) fun j j1 j2 => by simp [show ¬ j = 2 by omega]⟩
    have hRs := hR rfl
    simp -dsimp [nes8 n1, k0, k1, k2, f0, f1, f2, z1, z2, z3, nes, g1, y0, y1, y2, yn, Ne.symm y0, Ne.symm y1, Ne.symm y2, him, hc, b1, hp0, htx]
    refine twp_draw (List.range 9) [0, n1] (List.replicate 9 [0, 1]) (List.replicate 8 [0, 1] ++ [[0]]) (by kernel_rfl) (by kernel_rfl) (by kernel_rfl) (by kernel_rfl) ?_
    simp -dsimp [List.range_succ, nes8 n1, k0, k1, k2, f0, f1, f2, z1, z2, z3, nes, g1, y0, y1, y2, yn, Ne.symm y0, Ne.symm y1, Ne.symm y2, him, hc, b1, hp0, htx]
    refine call_ hcn (by simp -dsimp) ?_
    have hR2 := hRs [d.now] (by rw [hp0]; rfl)
    simp -dsimp [List.range_succ, nes8 n1, k0, k1, k2, f0, f1, f2, z1, z2, z3, nes, g1, y0, y1, y2, yn, Ne.symm y0, Ne.symm y1, Ne.symm y2, him, hc, b1, hp0, htx]
    refine callL_ (vs := [(⟨⟨d.now.people, d.now.story ++ [c]⟩, [d.now]⟩ : Desk).v]) (hR2 _ _) (by simp -dsimp [nes8 n1, k0, k1, k2, f0, f1, f2, z1, z2, z3, nes, g1, y0, y1, y2, yn, Ne.symm y0, Ne.symm y1, Ne.symm y2, him, hc, b1, hp0]) ?_
    rintro t m2 n2 ⟨hn2, hout2, sn2, P2, rfl, hown2⟩
    have q2 := hout2 2 (by omega)
    simp -dsimp [nes8 n1, k0, k1, k2, f0, f1, f2, z1, z2, z3, nes, g1, y0, y1, y2, yn, Ne.symm y0, Ne.symm y1, Ne.symm y2, him] at q2
    have hfc := hown2.facts
    have hc2 := hfc.1
    have hcs2 := hfc.2.1
    have hcP2 := hfc.2.2.1
    have hcsP2 := hfc.2.2.2
    clear hfc
    simp -dsimp [dT, q2, hc2, hcs2, hcP2, hcsP2, htx, hp0, keep8]
    exact ⟨sn2, P2, rfl, hown2.keep (Nat.zero_le _) (by omega) fun j j1 j2 => by simp [show ¬ j = 2 by omega]⟩
  · have g2 := far hr1
    have x0 : ¬ r = 0 := by omega
    have x1 : ¬ r = 1 := by omega
    have x2 : ¬ r = 2 := by omega
    have xi : ¬ r = id := fun h => hne (by rw [h])
    simp -dsimp [nes8 n1, k0, k1, k2, f0, f1, f2, z1, z2, z3, nes, g1, y0, y1, y2, yn, Ne.symm y0, Ne.symm y1, Ne.symm y2, him, g2, x0, x1, x2, xi, Ne.symm x0, Ne.symm x1, Ne.symm x2, Ne.symm xi, hrm, hc, b1]
    refine twp_draw [0, 1, 2, 3, 4, 5, 1006, 7, 8, 9, 10, 11, 12] [1, n1] (List.replicate 13 [0, 1]) (List.replicate 13 [0, 1]) (by kernel_rfl) (by kernel_rfl) (by kernel_rfl) (by kernel_rfl) ?_
    simp -dsimp [List.range_succ, nes8 n1, k0, k1, k2, f0, f1, f2, z1, z2, z3, nes, g1, y0, y1, y2, yn, Ne.symm y0, Ne.symm y1, Ne.symm y2, him, g2, x0, x1, x2, xi, Ne.symm x0, Ne.symm x1, Ne.symm x2, Ne.symm xi, hrm, hc, b1]
    refine pure_ hrc (by simp -dsimp [nes8 n1, k0, k1, k2, f0, f1, f2, z1, z2, z3, nes, g1, y0, y1, y2, yn, Ne.symm y0, Ne.symm y1, Ne.symm y2, him, g2, x0, x1, x2, xi, Ne.symm x0, Ne.symm x1, Ne.symm x2, Ne.symm xi, hrm, hc, b1]) ?_
    simp -dsimp [List.range_succ, nes8 n1, k0, k1, k2, f0, f1, f2, z1, z2, z3, nes, g1, y0, y1, y2, yn, Ne.symm y0, Ne.symm y1, Ne.symm y2, him, g2, x0, x1, x2, xi, Ne.symm x0, Ne.symm x1, Ne.symm x2, Ne.symm xi, hrm, hc, b1, optC]
    refine twp_draw (List.range 11) [n1, n1 + 1 + 1] (List.replicate 8 [0, 1] ++ [[], [], []]) (List.replicate 10 [0, 1] ++ [[1]]) (by kernel_rfl) (by kernel_rfl) (by kernel_rfl) (by kernel_rfl) ?_
    simp -dsimp [List.range_succ, nes8 n1, k0, k1, k2, f0, f1, f2, z1, z2, z3, nes, g1, y0, y1, y2, yn, Ne.symm y0, Ne.symm y1, Ne.symm y2, him, g2, x0, x1, x2, xi, Ne.symm x0, Ne.symm x1, Ne.symm x2, Ne.symm xi, hrm, hc, b1, b1]
    refine twp_draw [0, 1, 2, 3, 4, 5, 6, 7, 8, 10, 11, 9, 12, 13, 14] [0, n1] (List.replicate 15 [0, 1]) (List.replicate 15 [0, 1]) (by kernel_rfl) (by kernel_rfl) (by kernel_rfl) (by kernel_rfl) ?_
    simp -dsimp [nes8 n1, k0, k1, k2, f0, f1, f2, z1, z2, z3, nes, g1, y0, y1, y2, yn, Ne.symm y0, Ne.symm y1, Ne.symm y2, him, g2, x0, x1, x2, xi, Ne.symm x0, Ne.symm x1, Ne.symm x2, Ne.symm xi, hrm, hc, b1]
    refine call_ hpo (by simp -dsimp [nes8 n1, k0, k1, k2, f0, f1, f2, z1, z2, z3, nes, g1, y0, y1, y2, yn, Ne.symm y0, Ne.symm y1, Ne.symm y2, him, g2, x0, x1, x2, xi, Ne.symm x0, Ne.symm x1, Ne.symm x2, Ne.symm xi, hrm, hc, b1]) ?_
    rcases hkX with rfl | rfl
    · simp -dsimp [nes8 n1, k0, k1, k2, f0, f1, f2, z1, z2, z3, nes, g1, y0, y1, y2, yn, Ne.symm y0, Ne.symm y1, Ne.symm y2, him, g2, x0, x1, x2, xi, Ne.symm x0, Ne.symm x1, Ne.symm x2, Ne.symm xi, hrm, hc, b1]
      refine callL_ (vs := [d.v]) (hcopyK _ _) (by simp -dsimp [hc, b1]) ?_
      rintro t m2 n2 ⟨hn2, hout2, sn2, P2, rfl, hown2⟩
      have q2 := hout2 2 (by omega)
      simp -dsimp [nes8 n1, k0, k1, k2, f0, f1, f2, z1, z2, z3, nes, g1, y0, y1, y2, yn, Ne.symm y0, Ne.symm y1, Ne.symm y2, him, g2, x0, x1, x2, xi, Ne.symm x0, Ne.symm x1, Ne.symm x2, Ne.symm xi, hrm] at q2
      have hfc := hown2.facts
      have hc2 := hfc.1
      have hcs2 := hfc.2.1
      have hcP2 := hfc.2.2.1
      have hcsP2 := hfc.2.2.2
      clear hfc
      simp -dsimp [dT, q2, hc2, hcs2, hcP2, hcsP2]
      exact ⟨sn2, P2, rfl, hown2.keep (Nat.zero_le _) (by omega) fun j j1 j2 => by simp [show ¬ j = 2 by omega]⟩
    simp -dsimp [nes8 n1, k0, k1, k2, f0, f1, f2, z1, z2, z3, nes, g1, y0, y1, y2, yn, Ne.symm y0, Ne.symm y1, Ne.symm y2, him, g2, x0, x1, x2, xi, Ne.symm x0, Ne.symm x1, Ne.symm x2, Ne.symm xi, hrm, hc, b1]
    refine call_ hpt (by simp -dsimp [nes8 n1, k0, k1, k2, f0, f1, f2, z1, z2, z3, nes, g1, y0, y1, y2, yn, Ne.symm y0, Ne.symm y1, Ne.symm y2, him, g2, x0, x1, x2, xi, Ne.symm x0, Ne.symm x1, Ne.symm x2, Ne.symm xi, hrm, hc, b1]) ?_
    simp -dsimp [nes8 n1, k0, k1, k2, f0, f1, f2, z1, z2, z3, nes, g1, y0, y1, y2, yn, Ne.symm y0, Ne.symm y1, Ne.symm y2, him, g2, x0, x1, x2, xi, Ne.symm x0, Ne.symm x1, Ne.symm x2, Ne.symm xi, hrm, hc, b1]
    refine call_ hpn (by simp -dsimp) ?_
    rcases htx with rfl | htx
    · simp -dsimp [nes8 n1, k0, k1, k2, f0, f1, f2, z1, z2, z3, nes, g1, y0, y1, y2, yn, Ne.symm y0, Ne.symm y1, Ne.symm y2, him, g2, x0, x1, x2, xi, Ne.symm x0, Ne.symm x1, Ne.symm x2, Ne.symm xi, hrm, hc, b1]
      refine callL_ (vs := [d.v]) (hcopyK _ _) (by simp -dsimp [hc, b1]) ?_
      rintro t m2 n2 ⟨hn2, hout2, sn2, P2, rfl, hown2⟩
      have q2 := hout2 2 (by omega)
      simp -dsimp [nes8 n1, k0, k1, k2, f0, f1, f2, z1, z2, z3, nes, g1, y0, y1, y2, yn, Ne.symm y0, Ne.symm y1, Ne.symm y2, him, g2, x0, x1, x2, xi, Ne.symm x0, Ne.symm x1, Ne.symm x2, Ne.symm xi, hrm] at q2
      have hfc := hown2.facts
      have hc2 := hfc.1
      have hcs2 := hfc.2.1
      have hcP2 := hfc.2.2.1
      have hcsP2 := hfc.2.2.2
      clear hfc
      simp -dsimp [dT, q2, hc2, hcs2, hcP2, hcsP2]
      exact ⟨sn2, P2, rfl, hown2.keep (Nat.zero_le _) (by omega) fun j j1 j2 => by simp [show ¬ j = 2 by omega]⟩
    have hRs := hR rfl
    simp -dsimp [nes8 n1, k0, k1, k2, f0, f1, f2, z1, z2, z3, nes, g1, y0, y1, y2, yn, Ne.symm y0, Ne.symm y1, Ne.symm y2, him, g2, x0, x1, x2, xi, Ne.symm x0, Ne.symm x1, Ne.symm x2, Ne.symm xi, hrm, hc, b1, htx]
    refine twp_draw (List.range 9) [0, n1] (List.replicate 9 [0, 1]) (List.replicate 8 [0, 1] ++ [[0]]) (by kernel_rfl) (by kernel_rfl) (by kernel_rfl) (by kernel_rfl) ?_
    simp -dsimp [List.range_succ, nes8 n1, k0, k1, k2, f0, f1, f2, z1, z2, z3, nes, g1, y0, y1, y2, yn, Ne.symm y0, Ne.symm y1, Ne.symm y2, him, g2, x0, x1, x2, xi, Ne.symm x0, Ne.symm x1, Ne.symm x2, Ne.symm xi, hrm, hc, b1, htx]
    refine call_ hcn (by simp -dsimp) ?_
    by_cases h8 : d.past.length = 8
    · have e8 : (d.past.length : Int) = 8 := by omega
      have ek : keep8 (d.past ++ [d.now]) = (d.past ++ [d.now]).tail := by unfold keep8; rw [if_pos (by simp [h8])]; simp
      have hR2 := hRs (d.past ++ [d.now]).tail ek
      have tk : List.take 9 (List.map Place.v d.past ++ [d.now.v]) = List.map Place.v d.past ++ [d.now.v] := List.take_of_length_le (by simp [h8])
      have zk : allZ 2 (List.map Place.v d.past ++ [d.now.v]).tail := fun x hx => zplaces x (List.mem_of_mem_tail hx)
      simp only [Place.v, storyV] at tk zk
      simp -dsimp [List.range_succ, nes8 n1, k0, k1, k2, f0, f1, f2, z1, z2, z3, nes, g1, y0, y1, y2, yn, Ne.symm y0, Ne.symm y1, Ne.symm y2, him, g2, x0, x1, x2, xi, Ne.symm x0, Ne.symm x1, Ne.symm x2, Ne.symm xi, hrm, hc, b1, htx, fullb, h8, e8, tk, zk]
      refine callL_ (vs := [(⟨⟨d.now.people, d.now.story ++ [c]⟩, (d.past ++ [d.now]).tail⟩ : Desk).v]) (hR2 _ _) (by simp -dsimp [nes8 n1, k0, k1, k2, f0, f1, f2, z1, z2, z3, nes, g1, y0, y1, y2, yn, Ne.symm y0, Ne.symm y1, Ne.symm y2, him, g2, x0, x1, x2, xi, Ne.symm x0, Ne.symm x1, Ne.symm x2, Ne.symm xi, hrm, hc, b1, List.map_tail, List.map_append]) ?_
      rintro t m2 n2 ⟨hn2, hout2, sn2, P2, rfl, hown2⟩
      have q2 := hout2 2 (by omega)
      simp -dsimp [nes8 n1, k0, k1, k2, f0, f1, f2, z1, z2, z3, nes, g1, y0, y1, y2, yn, Ne.symm y0, Ne.symm y1, Ne.symm y2, him, g2, x0, x1, x2, xi, Ne.symm x0, Ne.symm x1, Ne.symm x2, Ne.symm xi, hrm] at q2
      have hfc := hown2.facts
      have hc2 := hfc.1
      have hcs2 := hfc.2.1
      have hcP2 := hfc.2.2.1
      have hcsP2 := hfc.2.2.2
      clear hfc
      simp -dsimp [dT, q2, hc2, hcs2, hcP2, hcsP2, htx, ek]
      exact ⟨sn2, P2, rfl, hown2.keep (Nat.zero_le _) (by omega) fun j j1 j2 => by simp [show ¬ j = 2 by omega]⟩
    · have e8 : d.past.length < 8 := by omega
      have e8' : ¬ (8 : Int) < (d.past.length : Int) + 1 := by omega
      have e8'' : ¬ 8 < d.past.length + 1 := by omega
      have ek : keep8 (d.past ++ [d.now]) = d.past ++ [d.now] := by unfold keep8; rw [if_neg (by simp; omega)]
      have hR2 := hRs (d.past ++ [d.now]) ek
      simp -dsimp [List.range_succ, nes8 n1, k0, k1, k2, f0, f1, f2, z1, z2, z3, nes, g1, y0, y1, y2, yn, Ne.symm y0, Ne.symm y1, Ne.symm y2, him, g2, x0, x1, x2, xi, Ne.symm x0, Ne.symm x1, Ne.symm x2, Ne.symm xi, hrm, hc, b1, htx, fullb, h8, e8, e8', e8'']
      refine callL_ (vs := [(⟨⟨d.now.people, d.now.story ++ [c]⟩, d.past ++ [d.now]⟩ : Desk).v]) (hR2 _ _) (by simp -dsimp [nes8 n1, k0, k1, k2, f0, f1, f2, z1, z2, z3, nes, g1, y0, y1, y2, yn, Ne.symm y0, Ne.symm y1, Ne.symm y2, him, g2, x0, x1, x2, xi, Ne.symm x0, Ne.symm x1, Ne.symm x2, Ne.symm xi, hrm, hc, b1]) ?_
      rintro t m2 n2 ⟨hn2, hout2, sn2, P2, rfl, hown2⟩
      have q2 := hout2 2 (by omega)
      simp -dsimp [nes8 n1, k0, k1, k2, f0, f1, f2, z1, z2, z3, nes, g1, y0, y1, y2, yn, Ne.symm y0, Ne.symm y1, Ne.symm y2, him, g2, x0, x1, x2, xi, Ne.symm x0, Ne.symm x1, Ne.symm x2, Ne.symm xi, hrm] at q2
      have hfc := hown2.facts
      have hc2 := hfc.1
      have hcs2 := hfc.2.1
      have hcP2 := hfc.2.2.1
      have hcsP2 := hfc.2.2.2
      clear hfc
      simp -dsimp [dT, q2, hc2, hcs2, hcP2, hcsP2, htx, ek]
      exact ⟨sn2, P2, rfl, hown2.keep (Nat.zero_le _) (by omega) fun j j1 j2 => by simp [show ¬ j = 2 by omega]⟩
end TL

/- Deeds at a desk, results of the caller's own: the program. -/
set_option linter.unusedSimpArgs false
set_option linter.unusedVariables false
set_option maxRecDepth 100000
set_option maxHeartbeats 4000000
set_option pp.maxSteps 1500
namespace TL
open Go Go.Proofs
attribute [local simp] marksV storyV codeV Claim.v Place.v Deed.v Desk.v
theorem do_bad1_k (d : Desk) (kind num : Int) (words : List UInt8) (hd : d.small) (hk : deskOk d = true) (h0 : ¬ kind = 0) (hw : ¬ words = []) : FnS Tryz.prog 11 (fun _ => none) 0 [.v d.v, .v (⟨kind, num, words⟩ : Deed).v] (PostK (d, false)) := by
  have hok := deskOk_fn d (by have := hd.2.1; omega) (by have := hd.1.1; omega) (fun p hp => by have := (hd.2.2 p hp).1; omega)
  rw [hk] at hok
  have hcopyK := fun m n => copyDesk_k d hd hk m n
  refine FnS_of (rs := [.cell 4 37, .tmp 5]) false Tryz.func11 rfl rfl rfl rfl (Nat.le_of_ble_eq_true rfl) ?_
  simp -dsimp
  refine call_ hok (by simp -dsimp) ?_
  simp -dsimp
  refine callL_ (vs := [d.v]) (hcopyK _ _) (by simp -dsimp) ?_
  rintro t m1 n1 ⟨hn1, hout, sn, P, rfl, hown⟩
  have k0 := hout 0 (by omega)
  have k1 := hout 1 (by omega)
  have k2 := hout 2 (by omega)
  simp -dsimp at k0 k1 k2
  have f0 := far (show 0 < n1 by omega)
  have f1 := far (show 1 < n1 by omega)
  have f2 := far (show 2 < n1 by omega)
  have z1 : ¬ n1 = 0 := by omega
  have z2 : ¬ n1 = 1 := by omega
  have z3 : ¬ n1 = 2 := by omega
  have hfc := hown.facts
  have hc := hfc.1
  have hcs := hfc.2.1
  have hcP := hfc.2.2.1
  have hcsP := hfc.2.2.2
  clear hfc
  simp -dsimp [dT, hc, hcs, hcP, hcsP, nes8 n1, k0, k1, k2, f0, f1, f2, z1, z2, z3, nes, h0, hw]
  exact ⟨sn, P, rfl, hown.keep (Nat.zero_le _) (by omega) fun j j1 j2 => by simp [show ¬ j = 0 by omega, show ¬ j = 1 by omega, show ¬ j = 2 by omega, show ¬ j = n1 by omega, far j2]⟩
theorem do_bad2_k (d : Desk) (num : Int) (words : List UInt8) (hd : d.small) (hk : deskOk d = true) (h0 : ¬ num = 0) : FnS Tryz.prog 11 (fun _ => none) 0 [.v d.v, .v (⟨0, num, words⟩ : Deed).v] (PostK (d, false)) := by
  have hok := deskOk_fn d (by have := hd.2.1; omega) (by have := hd.1.1; omega) (fun p hp => by have := (hd.2.2 p hp).1; omega)
  rw [hk] at hok
  have hcopyK := fun m n => copyDesk_k d hd hk m n
  refine FnS_of (rs := [.cell 4 37, .tmp 5]) false Tryz.func11 rfl rfl rfl rfl (Nat.le_of_ble_eq_true rfl) ?_
  simp -dsimp
  refine call_ hok (by simp -dsimp) ?_
  simp -dsimp
  refine callL_ (vs := [d.v]) (hcopyK _ _) (by simp -dsimp) ?_
  rintro t m1 n1 ⟨hn1, hout, sn, P, rfl, hown⟩
  have k0 := hout 0 (by omega)
  have k1 := hout 1 (by omega)
  have k2 := hout 2 (by omega)
  simp -dsimp at k0 k1 k2
  have f0 := far (show 0 < n1 by omega)
  have f1 := far (show 1 < n1 by omega)
  have f2 := far (show 2 < n1 by omega)
  have z1 : ¬ n1 = 0 := by omega
  have z2 : ¬ n1 = 1 := by omega
  have z3 : ¬ n1 = 2 := by omega
  have hfc := hown.facts
  have hc := hfc.1
  have hcs := hfc.2.1
  have hcP := hfc.2.2.1
  have hcsP := hfc.2.2.2
  clear hfc
  simp -dsimp [dT, hc, hcs, hcP, hcsP, nes8 n1, k0, k1, k2, f0, f1, f2, z1, z2, z3, nes, h0]
  exact ⟨sn, P, rfl, hown.keep (Nat.zero_le _) (by omega) fun j j1 j2 => by simp [show ¬ j = 0 by omega, show ¬ j = 1 by omega, show ¬ j = 2 by omega, show ¬ j = n1 by omega, far j2]⟩
theorem do_bad3_k (d : Desk) (kind num : Int) (hd : d.small) (hk : deskOk d = true) (h0 : ¬ kind = 0) (h1 : ¬ kind = 1) (h2 : ¬ kind = 2) (h3 : ¬ num = 0) : FnS Tryz.prog 11 (fun _ => none) 0 [.v d.v, .v (⟨kind, num, []⟩ : Deed).v] (PostK (d, false)) := by
  have hok := deskOk_fn d (by have := hd.2.1; omega) (by have := hd.1.1; omega) (fun p hp => by have := (hd.2.2 p hp).1; omega)
  rw [hk] at hok
  have hcopyK := fun m n => copyDesk_k d hd hk m n
  refine FnS_of (rs := [.cell 4 37, .tmp 5]) false Tryz.func11 rfl rfl rfl rfl (Nat.le_of_ble_eq_true rfl) ?_
  simp -dsimp
  refine call_ hok (by simp -dsimp) ?_
  simp -dsimp
  refine callL_ (vs := [d.v]) (hcopyK _ _) (by simp -dsimp) ?_
  rintro t m1 n1 ⟨hn1, hout, sn, P, rfl, hown⟩
  have k0 := hout 0 (by omega)
  have k1 := hout 1 (by omega)
  have k2 := hout 2 (by omega)
  simp -dsimp at k0 k1 k2
  have f0 := far (show 0 < n1 by omega)
  have f1 := far (show 1 < n1 by omega)
  have f2 := far (show 2 < n1 by omega)
  have z1 : ¬ n1 = 0 := by omega
  have z2 : ¬ n1 = 1 := by omega
  have z3 : ¬ n1 = 2 := by omega
  have hfc := hown.facts
  have hc := hfc.1
  have hcs := hfc.2.1
  have hcP := hfc.2.2.1
  have hcsP := hfc.2.2.2
  clear hfc
  simp -dsimp [dT, hc, hcs, hcP, hcsP, nes8 n1, k0, k1, k2, f0, f1, f2, z1, z2, z3, nes, h0, h1, h2, h3]
  exact ⟨sn, P, rfl, hown.keep (Nat.zero_le _) (by omega) fun j j1 j2 => by simp [show ¬ j = 0 by omega, show ¬ j = 1 by omega, show ¬ j = 2 by omega, show ¬ j = n1 by omega, far j2]⟩
theorem do_other_k (d : Desk) (kind : Int) (hd : d.small) (hk : deskOk d = true) (h0 : ¬ kind = 0) (h1 : ¬ kind = 1) (h2 : ¬ kind = 2) (h3 : ¬ kind = 3) (h4 : ¬ kind = 4) : FnS Tryz.prog 11 (fun _ => none) 0 [.v d.v, .v (⟨kind, 0, []⟩ : Deed).v] (PostK (d, false)) := by
  have hok := deskOk_fn d (by have := hd.2.1; omega) (by have := hd.1.1; omega) (fun p hp => by have := (hd.2.2 p hp).1; omega)
  rw [hk] at hok
  have hcopyK := fun m n => copyDesk_k d hd hk m n
  refine FnS_of (rs := [.cell 4 37, .tmp 5]) false Tryz.func11 rfl rfl rfl rfl (Nat.le_of_ble_eq_true rfl) ?_
  simp -dsimp
  refine call_ hok (by simp -dsimp) ?_
  simp -dsimp
  refine callL_ (vs := [d.v]) (hcopyK _ _) (by simp -dsimp) ?_
  rintro t m1 n1 ⟨hn1, hout, sn, P, rfl, hown⟩
  have k0 := hout 0 (by omega)
  have k1 := hout 1 (by omega)
  have k2 := hout 2 (by omega)
  simp -dsimp at k0 k1 k2
  have f0 := far (show 0 < n1 by omega)
  have f1 := far (show 1 < n1 by omega)
  have f2 := far (show 2 < n1 by omega)
  have z1 : ¬ n1 = 0 := by omega
  have z2 : ¬ n1 = 1 := by omega
  have z3 : ¬ n1 = 2 := by omega
  have hfc := hown.facts
  have hc := hfc.1
  have hcs := hfc.2.1
  have hcP := hfc.2.2.1
  have hcsP := hfc.2.2.2
  clear hfc
  simp -dsimp [dT, hc, hcs, hcP, hcsP, nes8 n1, k0, k1, k2, f0, f1, f2, z1, z2, z3, nes, h0, h1, h2, h3, h4]
  exact ⟨sn, P, rfl, hown.keep (Nat.zero_le _) (by omega) fun j j1 j2 => by simp [show ¬ j = 0 by omega, show ¬ j = 1 by omega, show ¬ j = 2 by omega, show ¬ j = n1 by omega, far j2]⟩
theorem do_nosay_k (d : Desk) (words : List UInt8) (hd : d.small) (hk : deskOk d = true) (hr : readC d.now.people words = none) (hwl : words.length ≤ 1000000000) : FnS Tryz.prog 11 (fun _ => none) 0 [.v d.v, .v (⟨0, 0, words⟩ : Deed).v] (PostK (d, false)) := by
  have hok := deskOk_fn d (by have := hd.2.1; omega) (by have := hd.1.1; omega) (fun p hp => by have := (hd.2.2 p hp).1; omega)
  rw [hk] at hok
  have hcopyK := fun m n => copyDesk_k d hd hk m n
  have hrc := readClaim_fn d.now.people words (by omega)
  rw [hr] at hrc
  refine FnS_of (rs := [.cell 4 37, .tmp 5]) false Tryz.func11 rfl rfl rfl rfl (Nat.le_of_ble_eq_true rfl) ?_
  simp -dsimp
  refine call_ hok (by simp -dsimp) ?_
  simp -dsimp
  refine callL_ (vs := [d.v]) (hcopyK _ _) (by simp -dsimp) ?_
  rintro t m1 n1 ⟨hn1, hout, sn, P, rfl, hown⟩
  have k0 := hout 0 (by omega)
  have k1 := hout 1 (by omega)
  have k2 := hout 2 (by omega)
  simp -dsimp at k0 k1 k2
  have f0 := far (show 0 < n1 by omega)
  have f1 := far (show 1 < n1 by omega)
  have f2 := far (show 2 < n1 by omega)
  have z1 : ¬ n1 = 0 := by omega
  have z2 : ¬ n1 = 1 := by omega
  have z3 : ¬ n1 = 2 := by omega
  have hfc := hown.facts
  have hc := hfc.1
  have hcs := hfc.2.1
  have hcP := hfc.2.2.1
  have hcsP := hfc.2.2.2
  clear hfc
  simp -dsimp [dT, hc, hcs, hcP, hcsP, nes8 n1, k0, k1, k2, f0, f1, f2, z1, z2, z3, nes]
  refine twp_draw [0, 1, 2, 3, 4, 5, 1006, 7, 8, 9, 10, 11, 12] [1, n1] (List.replicate 13 [0, 1]) (List.replicate 13 [0, 1]) (by kernel_rfl) (by kernel_rfl) (by kernel_rfl) (by kernel_rfl) ?_
  simp -dsimp [List.range_succ, dT, hc, hcs, hcP, hcsP, nes8 n1, k0, k1, k2, f0, f1, f2, z1, z2, z3, nes]
  refine pure_ hrc (by simp -dsimp [dT, hc, hcs, hcP, hcsP, nes8 n1, k0, k1, k2, f0, f1, f2, z1, z2, z3, nes]) ?_
  simp -dsimp [List.range_succ, dT, hc, hcs, hcP, hcsP, nes8 n1, k0, k1, k2, f0, f1, f2, z1, z2, z3, nes, optC]
  exact ⟨sn, P, rfl, hown.keep (Nat.zero_le _) (by omega) fun j j1 j2 => by simp [show ¬ j = 0 by omega, show ¬ j = 1 by omega, show ¬ j = 2 by omega, show ¬ j = n1 by omega, far j2]⟩
theorem do_nodrop1_k (d : Desk) (num : Int) (hd : d.small) (hk : deskOk d = true) (h0 : num < 0) : FnS Tryz.prog 11 (fun _ => none) 0 [.v d.v, .v (⟨1, num, []⟩ : Deed).v] (PostK (d, false)) := by
  have hok := deskOk_fn d (by have := hd.2.1; omega) (by have := hd.1.1; omega) (fun p hp => by have := (hd.2.2 p hp).1; omega)
  rw [hk] at hok
  have hcopyK := fun m n => copyDesk_k d hd hk m n
  refine FnS_of (rs := [.cell 4 37, .tmp 5]) false Tryz.func11 rfl rfl rfl rfl (Nat.le_of_ble_eq_true rfl) ?_
  simp -dsimp
  refine call_ hok (by simp -dsimp) ?_
  simp -dsimp
  refine callL_ (vs := [d.v]) (hcopyK _ _) (by simp -dsimp) ?_
  rintro t m1 n1 ⟨hn1, hout, sn, P, rfl, hown⟩
  have k0 := hout 0 (by omega)
  have k1 := hout 1 (by omega)
  have k2 := hout 2 (by omega)
  simp -dsimp at k0 k1 k2
  have f0 := far (show 0 < n1 by omega)
  have f1 := far (show 1 < n1 by omega)
  have f2 := far (show 2 < n1 by omega)
  have z1 : ¬ n1 = 0 := by omega
  have z2 : ¬ n1 = 1 := by omega
  have z3 : ¬ n1 = 2 := by omega
  have hfc := hown.facts
  have hc := hfc.1
  have hcs := hfc.2.1
  have hcP := hfc.2.2.1
  have hcsP := hfc.2.2.2
  clear hfc
  have hsn := hown.form
  rcases hsn with ⟨rfl, hs0⟩ | ⟨i, rfl⟩
  · simp -dsimp [dT, hc, hcs, hcP, hcsP, nes8 n1, k0, k1, k2, f0, f1, f2, z1, z2, z3, nes, h0, hs0]
    refine twp_draw (List.range 13) [1, n1] (List.replicate 13 [0, 1]) (List.replicate 13 [0, 1]) (by kernel_rfl) (by kernel_rfl) (by kernel_rfl) (by kernel_rfl) ?_
    simp -dsimp [List.range_succ, dT, hc, hcs, hcP, hcsP, nes8 n1, k0, k1, k2, f0, f1, f2, z1, z2, z3, nes, h0, hs0]
    exact ⟨.nil, P, rfl, hown.keep (Nat.zero_le _) (by omega) fun j j1 j2 => by simp [show ¬ j = 0 by omega, show ¬ j = 1 by omega, show ¬ j = 2 by omega, show ¬ j = n1 by omega, far j2]⟩
  · simp -dsimp [dT, hc, hcs, hcP, hcsP, nes8 n1, k0, k1, k2, f0, f1, f2, z1, z2, z3, nes, h0]
    refine twp_draw (List.range 13) [1, n1] (List.replicate 13 [0, 1]) (List.replicate 13 [0, 1]) (by kernel_rfl) (by kernel_rfl) (by kernel_rfl) (by kernel_rfl) ?_
    simp -dsimp [List.range_succ, dT, hc, hcs, hcP, hcsP, nes8 n1, k0, k1, k2, f0, f1, f2, z1, z2, z3, nes, h0]
    exact ⟨.sv i 0 d.now.story.length, P, rfl, hown.keep (Nat.zero_le _) (by omega) fun j j1 j2 => by simp [show ¬ j = 0 by omega, show ¬ j = 1 by omega, show ¬ j = 2 by omega, show ¬ j = n1 by omega, far j2]⟩
theorem do_nodrop2_k (d : Desk) (num : Int) (hd : d.small) (hk : deskOk d = true) (h0 : ¬ num < 0) (h1 : (d.now.story.length : Int) ≤ num) : FnS Tryz.prog 11 (fun _ => none) 0 [.v d.v, .v (⟨1, num, []⟩ : Deed).v] (PostK (d, false)) := by
  have hok := deskOk_fn d (by have := hd.2.1; omega) (by have := hd.1.1; omega) (fun p hp => by have := (hd.2.2 p hp).1; omega)
  rw [hk] at hok
  have hcopyK := fun m n => copyDesk_k d hd hk m n
  have h2 : 0 ≤ num := by omega
  refine FnS_of (rs := [.cell 4 37, .tmp 5]) false Tryz.func11 rfl rfl rfl rfl (Nat.le_of_ble_eq_true rfl) ?_
  simp -dsimp
  refine call_ hok (by simp -dsimp) ?_
  simp -dsimp
  refine callL_ (vs := [d.v]) (hcopyK _ _) (by simp -dsimp) ?_
  rintro t m1 n1 ⟨hn1, hout, sn, P, rfl, hown⟩
  have k0 := hout 0 (by omega)
  have k1 := hout 1 (by omega)
  have k2 := hout 2 (by omega)
  simp -dsimp at k0 k1 k2
  have f0 := far (show 0 < n1 by omega)
  have f1 := far (show 1 < n1 by omega)
  have f2 := far (show 2 < n1 by omega)
  have z1 : ¬ n1 = 0 := by omega
  have z2 : ¬ n1 = 1 := by omega
  have z3 : ¬ n1 = 2 := by omega
  have hfc := hown.facts
  have hc := hfc.1
  have hcs := hfc.2.1
  have hcP := hfc.2.2.1
  have hcsP := hfc.2.2.2
  clear hfc
  have hsn := hown.form
  rcases hsn with ⟨rfl, hs0⟩ | ⟨i, rfl⟩
  · simp -dsimp [dT, hc, hcs, hcP, hcsP, nes8 n1, k0, k1, k2, f0, f1, f2, z1, z2, z3, nes, h0, h1, h2, hs0]
    refine twp_draw (List.range 13) [1, n1] (List.replicate 13 [0, 1]) (List.replicate 13 [0, 1]) (by kernel_rfl) (by kernel_rfl) (by kernel_rfl) (by kernel_rfl) ?_
    simp -dsimp [List.range_succ, dT, hc, hcs, hcP, hcsP, nes8 n1, k0, k1, k2, f0, f1, f2, z1, z2, z3, nes, h0, h1, h2, hs0]
    exact ⟨.nil, P, rfl, hown.keep (Nat.zero_le _) (by omega) fun j j1 j2 => by simp [show ¬ j = 0 by omega, show ¬ j = 1 by omega, show ¬ j = 2 by omega, show ¬ j = n1 by omega, far j2]⟩
  · simp -dsimp [dT, hc, hcs, hcP, hcsP, nes8 n1, k0, k1, k2, f0, f1, f2, z1, z2, z3, nes, h0, h1, h2]
    refine twp_draw (List.range 13) [1, n1] (List.replicate 13 [0, 1]) (List.replicate 13 [0, 1]) (by kernel_rfl) (by kernel_rfl) (by kernel_rfl) (by kernel_rfl) ?_
    simp -dsimp [List.range_succ, dT, hc, hcs, hcP, hcsP, nes8 n1, k0, k1, k2, f0, f1, f2, z1, z2, z3, nes, h0, h1, h2]
    exact ⟨.sv i 0 d.now.story.length, P, rfl, hown.keep (Nat.zero_le _) (by omega) fun j j1 j2 => by simp [show ¬ j = 0 by omega, show ¬ j = 1 by omega, show ¬ j = 2 by omega, show ¬ j = n1 by omega, far j2]⟩
theorem do_noback_k (d : Desk)  (hd : d.small) (hk : deskOk d = true) (he : d.past = []) : FnS Tryz.prog 11 (fun _ => none) 0 [.v d.v, .v (⟨4, 0, []⟩ : Deed).v] (PostK (d, false)) := by
  have hok := deskOk_fn d (by have := hd.2.1; omega) (by have := hd.1.1; omega) (fun p hp => by have := (hd.2.2 p hp).1; omega)
  rw [hk] at hok
  have hcopyK := fun m n => copyDesk_k d hd hk m n
  refine FnS_of (rs := [.cell 4 37, .tmp 5]) false Tryz.func11 rfl rfl rfl rfl (Nat.le_of_ble_eq_true rfl) ?_
  simp -dsimp
  refine call_ hok (by simp -dsimp) ?_
  simp -dsimp
  refine callL_ (vs := [d.v]) (hcopyK _ _) (by simp -dsimp) ?_
  rintro t m1 n1 ⟨hn1, hout, sn, P, rfl, hown⟩
  have k0 := hout 0 (by omega)
  have k1 := hout 1 (by omega)
  have k2 := hout 2 (by omega)
  simp -dsimp at k0 k1 k2
  have f0 := far (show 0 < n1 by omega)
  have f1 := far (show 1 < n1 by omega)
  have f2 := far (show 2 < n1 by omega)
  have z1 : ¬ n1 = 0 := by omega
  have z2 : ¬ n1 = 1 := by omega
  have z3 : ¬ n1 = 2 := by omega
  have hfc := hown.facts
  have hc := hfc.1
  have hcs := hfc.2.1
  have hcP := hfc.2.2.1
  have hcsP := hfc.2.2.2
  clear hfc
  have w0 : IntKind.wrap .i64 (-1) = -1 := rfl
  have hP := hown.none_past he
  rcases hP with rfl | ⟨i, rfl⟩
  · simp -dsimp [dT, hc, hcs, hcP, hcsP, nes8 n1, k0, k1, k2, f0, f1, f2, z1, z2, z3, nes, w0]
    exact ⟨sn, .nil, rfl, hown.keep (Nat.zero_le _) (by omega) fun j j1 j2 => by simp [show ¬ j = 0 by omega, show ¬ j = 1 by omega, show ¬ j = 2 by omega, show ¬ j = n1 by omega, far j2]⟩
  · simp -dsimp [dT, hc, hcs, hcP, hcsP, nes8 n1, k0, k1, k2, f0, f1, f2, z1, z2, z3, nes, w0]
    exact ⟨sn, .sv i 0 0, rfl, hown.keep (Nat.zero_le _) (by omega) fun j j1 j2 => by simp [show ¬ j = 0 by omega, show ¬ j = 1 by omega, show ¬ j = 2 by omega, show ¬ j = n1 by omega, far j2]⟩
theorem do_back_k (d : Desk)  (hd : d.small) (hk : deskOk d = true) (hne0 : d.past ≠ []) : FnS Tryz.prog 11 (fun _ => none) 0 [.v d.v, .v (⟨4, 0, []⟩ : Deed).v] (PostK (⟨d.past.getLast?.getD d.now, d.past.dropLast⟩, true)) := by
  have hok := deskOk_fn d (by have := hd.2.1; omega) (by have := hd.1.1; omega) (fun p hp => by have := (hd.2.2 p hp).1; omega)
  rw [hk] at hok
  have hcopyK := fun m n => copyDesk_k d hd hk m n
  have hl8 := hd.2.1
  obtain ⟨q, dd, hpq, hgl, hdl⟩ : ∃ q dd, d.past = dd ++ [q] ∧ d.past.getLast?.getD d.now = q ∧ d.past.dropLast = dd :=
    ⟨d.past.getLast hne0, d.past.dropLast, (List.dropLast_concat_getLast hne0).symm, by rw [List.getLast?_eq_some_getLast hne0]; rfl, rfl⟩
  rw [hgl, hdl]
  clear hgl hdl
  have hlen : d.past.length = dd.length + 1 := by rw [hpq]; simp
  refine FnS_of (rs := [.cell 4 37, .tmp 5]) false Tryz.func11 rfl rfl rfl rfl (Nat.le_of_ble_eq_true rfl) ?_
  simp -dsimp
  refine call_ hok (by simp -dsimp) ?_
  simp -dsimp
  refine callL_ (vs := [d.v]) (hcopyK _ _) (by simp -dsimp) ?_
  rintro t m1 n1 ⟨hn1, hout, sn, P, rfl, hown⟩
  have k0 := hout 0 (by omega)
  have k1 := hout 1 (by omega)
  have k2 := hout 2 (by omega)
  simp -dsimp at k0 k1 k2
  have f0 := far (show 0 < n1 by omega)
  have f1 := far (show 1 < n1 by omega)
  have f2 := far (show 2 < n1 by omega)
  have z1 : ¬ n1 = 0 := by omega
  have z2 : ¬ n1 = 1 := by omega
  have z3 : ¬ n1 = 2 := by omega
  have hfc := hown.facts
  have hc := hfc.1
  have hcs := hfc.2.1
  have hcP := hfc.2.2.1
  have hcsP := hfc.2.2.2
  clear hfc
  have hla := hown.last hpq
  obtain ⟨r, cc, st, ex, rfl, i0, i1, him, hll, hdr, hcst, hcsst, hown2⟩ := hla
  have w1 : IntKind.wrap .i64 ((dd.length : Int) + 1 - 1) = (dd.length : Int) := by rw [w64 (by omega) (by omega)]; omega
  have p3 : ¬ (dd.length : Int) < 0 := by omega
  have w2 : IntKind.wrap .i64 (dd.length : Int) = (dd.length : Int) := w64 (by omega) (by omega)
  have p4 : (dd.length : Int) < dd.length + 1 := by omega
  have p5 : (dd.length : Int) ≤ dd.length + 1 := by omega
  have g0 := far (show r < n1 by omega)
  have y0 : ¬ r = 0 := by omega
  have y1 : ¬ r = 1 := by omega
  have y2 : ¬ r = 2 := by omega
  have yn : ¬ r = n1 := by omega
  have hclip := fun m n => clip_own r dd.length (by omega) m n
  have hoff : dd.length * 2 + 2 ≤ dd.length * 2 + 2 + ex.length := by omega
  generalize ex.length = exl at hll hoff
  simp -dsimp [dT, hc, hcs, hcP, hcsP, nes8 n1, k0, k1, k2, f0, f1, f2, z1, z2, z3, nes, w1, w2, p3, p4, p5]
  refine twp_draw (List.range 13) [n1, r] (List.replicate 13 [0, 1]) (List.replicate 13 [0, 1]) (by kernel_rfl) (by kernel_rfl) (by kernel_rfl) (by kernel_rfl) ?_
  simp -dsimp [List.range_succ, dT, hc, hcs, hcP, hcsP, nes8 n1, k0, k1, k2, f0, f1, f2, z1, z2, z3, nes, w1, w2, p3, p4, p5, g0, y0, y1, y2, yn, Ne.symm yn, him, hll, hdr, hoff, hcst, hcsst]
  refine callS_ (hclip _ _) ?_
  rintro t m3 n3 ⟨rfl, rfl, hn3⟩
  simp -dsimp [List.range_succ, dT, hc, hcs, hcP, hcsP, nes8 n1, k0, k1, k2, f0, f1, f2, z1, z2, z3, nes, w1, w2, p3, p4, p5, g0, y0, y1, y2, yn, Ne.symm yn, him, hll, hdr, hoff, hcst, hcsst]
  exact ⟨st, .sv r 0 dd.length, rfl, hown2.keep (Nat.zero_le _) (by omega) fun j j1 j2 => by simp [show ¬ j = 0 by omega, show ¬ j = 1 by omega, show ¬ j = 2 by omega, show ¬ j = n1 by omega, far j2]⟩
theorem deskDo_k (d : Desk) (a : Deed) (hd : d.small) (ha : a.words.length ≤ 1000000000) : FnS Tryz.prog 11 (fun _ => none) 0 [.v d.v, .v a.v] (PostK (deskDo d a)) := by
  have hk := ft (deskOk d)
  rcases hk with hk | hk
  · have hok := deskOk_fn d (by have := hd.2.1; omega) (by have := hd.1.1; omega) (fun p hp => by have := (hd.2.2 p hp).1; omega)
    rw [deskDo_no hk]
    rw [hk] at hok
    obtain ⟨a1, a2, a3⟩ := a
    refine FnS_of (rs := [.cell 4 37, .tmp 5]) false Tryz.func11 rfl rfl rfl rfl (Nat.le_of_ble_eq_true rfl) ?_
    simp -dsimp
    refine call_ hok (by simp -dsimp) ?_
    simp -dsimp [noDeskV]
    exact ⟨.nil, .nil, rfl, OwnD.none (Nat.zero_le _)⟩
  obtain ⟨hpast, hnow, hp8⟩ := deskOk_iff.1 hk
  have ml := (made_fine d.now a hnow).2.1
  obtain ⟨kind, num, words⟩ := a
  simp only at ha
  have zero : ∀ a : Deed, isBack a = false → made d.now a = ⟨0, []⟩ → FnS Tryz.prog 11 (fun _ => none) 0 [.v d.v, .v a.v] (PostK (d, false)) → FnS Tryz.prog 11 (fun _ => none) 0 [.v d.v, .v a.v] (PostK (deskDo d a)) := fun a h1 h2 h3 => by
    rw [deskDo_zero hk h1 h2]; exact h3
  by_cases k0 : kind = 0
  · subst k0
    by_cases n0 : num = 0
    · subst n0
      have hb : isBack ⟨0, 0, words⟩ = false := back_no (by simp)
      cases hr : readC d.now.people words with
      | none => exact zero _ hb (by simp [made, hr]) (do_nosay_k d words hd hk hr ha)
      | some c =>
        have hm : made d.now ⟨0, 0, words⟩ = ⟨d.now.people, d.now.story ++ [c]⟩ := by simp [made, hr]
        rw [deskDo_made hk hb]
        exact do_say_k d words c hd hk _ ml hr ha hm
    · exact zero _ (back_no (by simp)) (by simp [made, n0]) (do_bad2_k d num words hd hk n0)
  by_cases hw : words = []
  case neg => exact zero _ (back_no (by simp [hw])) (by simp [made, k0, hw]) (do_bad1_k d kind num words hd hk k0 hw)
  subst hw
  by_cases k1 : kind = 1
  · subst k1
    have hb : isBack ⟨1, num, []⟩ = false := back_no (by simp)
    by_cases h0 : num < 0
    · exact zero _ hb (by simp [made]; omega) (do_nodrop1_k d num hd hk h0)
    · by_cases h1 : (d.now.story.length : Int) ≤ num
      · exact zero _ hb (by simp [made]; omega) (do_nodrop2_k d num hd hk h0 h1)
      · obtain ⟨k, rfl⟩ := Int.eq_ofNat_of_zero_le (show 0 ≤ num by omega)
        have hm : made d.now ⟨1, (k : Int), []⟩ = ⟨d.now.people, d.now.story.eraseIdx k⟩ := by
          unfold made; rw [if_neg (by simp), if_pos ⟨rfl, rfl, by simp, by simp; omega⟩]; rfl
        rw [deskDo_made hk hb]
        exact do_drop_k d k hd hk _ ml (by omega) hm
  by_cases k2 : kind = 2
  · subst k2
    have hb : isBack ⟨2, num, []⟩ = false := back_no (by simp)
    have hm : made d.now ⟨2, num, []⟩ = ⟨num, d.now.story⟩ := by simp [made]
    rw [deskDo_made hk hb]
    exact do_people_k d num hd hk _ ml hm
  by_cases n0 : num = 0
  case neg => exact zero _ (back_no (by simp [n0])) (by simp [made, k0, k1, k2, n0]) (do_bad3_k d kind num hd hk k0 k1 k2 n0)
  subst n0
  by_cases k3 : kind = 3
  · subst k3
    have hb : isBack ⟨3, 0, []⟩ = false := back_no (by simp)
    have hm : made d.now ⟨3, 0, []⟩ = ⟨d.now.people, least d.now.people.toNat d.now.story⟩ := by simp [made]
    rw [deskDo_made hk hb]
    exact do_least_k d hd hk _ ml hm
  by_cases k4 : kind = 4
  · subst k4
    by_cases he : d.past = []
    · rw [deskDo_bad hk (good_back (by rfl)) (by simp [he])]
      exact do_noback_k d hd hk he
    · rw [deskDo_back hk (by rfl) he]
      exact do_back_k d hd hk he
  exact zero _ (back_no (by simp [k4])) (by simp [made, k0, k1, k2, k3]) (do_other_k d kind hd hk k0 k1 k2 k3 k4)
end TL

/- The exact law of the texts of deeds. -/
set_option linter.unusedSimpArgs false
set_option linter.unusedVariables false
set_option maxRecDepth 100000
set_option maxHeartbeats 4000000
set_option pp.maxSteps 1500
namespace TL
open Go Go.Proofs
attribute [local simp] marksV storyV codeV Claim.v Place.v Deed.v
def Deed.fit (a : Deed) : Prop := TL.fit a.kind ∧ TL.fit a.num ∧ a.words.length ≤ 9223372036854775807
theorem szDeed_fn (a : Deed) (left : Int) (h0 : 0 ≤ left) (h1 : left ≤ 1048576) (hl : a.words.length ≤ 9223372036854775807) : FnZ Tryz.prog 7 [a.v, .int .i64 left] (.int .i64 (szR left a.words.length)) := by
  obtain ⟨kind, num, words⟩ := a
  simp only at hl
  have w1 : IntKind.wrap .i64 (left - words.length) = left - words.length := w64 (by omega) (by omega)
  unfold szR
  refine FnZ_of (rs := [.tmp 4]) false Tryz.func7 rfl rfl rfl rfl (Nat.le_of_ble_eq_true rfl) ?_
  by_cases h : left - words.length < 0
  · simp -dsimp [w1, h]
  · simp -dsimp [w1, h]
theorem toDeed_fn (a : Deed) : FnZ Tryz.prog 10 [a.v] a.v := by
  refine FnZ_of (rs := [.cell 2 41]) false Tryz.func10 rfl rfl rfl rfl (Nat.le_of_ble_eq_true rfl) ?_
  simp -dsimp
theorem opens_deed (w : World) : Opens Tryz.prog w 29 fun vs => ∃ a : Deed, a.fit ∧ a.v = .agg vs :=
  (opens_struct3 Tryz.underlying29 rfl (by kernel_rfl) (by kernel_rfl) (by kernel_rfl) (opens_int Tryz.underlying3) (opens_int Tryz.underlying3) (opens_string Tryz.underlying9)).mono fun vs h => by
    obtain ⟨v0, v1, v2, rfl, ⟨n0, rfl, w0⟩, ⟨n1, rfl, w1⟩, ⟨s, rfl, hl⟩⟩ := h
    exact ⟨⟨n0, n1, s⟩, ⟨fit_wf w0, fit_wf w1, by simpa [maxLen] using hl⟩, rfl⟩
end TL

/- Journals. -/
set_option linter.unusedSimpArgs false
set_option linter.unusedVariables false
set_option maxRecDepth 100000
set_option maxHeartbeats 4000000
set_option pp.maxSteps 1500
namespace TL
open Go Go.Proofs
attribute [local simp] marksV storyV codeV Claim.v Place.v Deed.v
def jr (l : List Deed) (f : Deed → List UInt8) : List UInt8 := (l.map fun a => f a ++ [10]).flatten
noncomputable def journalTx (l : List Deed) : List UInt8 := by
  classical exact if ∃ a ∈ l, deedTx a = [] then [] else jr l deedTx
theorem jr_take {l : List Deed} {f : Deed → List UInt8} {i : Nat} (h : i < l.length) : jr (l.take (i + 1)) f = jr (l.take i) f ++ f l[i] ++ [10] := by
  unfold jr; rw [List.take_succ_eq_append_getElem h, List.map_append, List.flatten_append]; simp
theorem jr_len (l : List Deed) : (jr l deedTx).length ≤ 41 * l.length := by
  induction l with
  | nil => simp [jr]
  | cons a l ih =>
    have := deedTx_len a
    simp only [jr, List.map_cons, List.flatten_cons, List.length_append, List.length_cons, List.length_nil] at ih ⊢; omega
theorem journalTx_none {l : List Deed} {a : Deed} (h : a ∈ l) (h0 : deedTx a = []) : journalTx l = [] := by
  unfold journalTx; exact if_pos ⟨a, h, h0⟩
theorem journalTx_all {l : List Deed} (h : ∀ a ∈ l, deedTx a ≠ []) : journalTx l = jr l deedTx := by
  unfold journalTx; exact if_neg fun ⟨a, ha, h0⟩ => h a ha h0
def Ijt (l : List Deed) (e : Nat) (s : S) : Prop := ∃ i : Nat, s.tm 7 = .v (.sl (l.map Deed.v)) ∧ s.tm 8 = .v (.int .i64 l.length) ∧ s.tm 9 = .v (.int .i64 i) ∧ s.tm 3 = .v (.str (jr (l.take i) deedTx)) ∧ i ≤ l.length ∧ (∀ a ∈ l.take i, deedTx a ≠ []) ∧ (e = 1 → i = l.length)
theorem take_next {l : List Deed} {i : Nat} (h : i < l.length) (ha : ∀ a ∈ l.take i, deedTx a ≠ []) (h0 : deedTx l[i] ≠ []) : ∀ a ∈ l.take (i + 1), deedTx a ≠ [] := fun a hx => by
  rw [List.take_succ_eq_append_getElem h] at hx
  rcases List.mem_append.1 hx with hx | hx
  · exact ha a hx
  · cases List.mem_singleton.1 hx; exact h0
def Isjt (l : List Deed) (e : Nat) (s : S) : Prop := ∃ i : Nat, s.tm 0 = .v (.sl (l.map Deed.v)) ∧ s.tm 4 = .v (.int .i64 i) ∧ s.tm 3 = .v (.str (jr (l.take i) deedTx)) ∧ i ≤ l.length ∧ (∀ a ∈ l.take i, deedTx a ≠ []) ∧ (e = 1 → i = l.length)
/-! Rows of deeds. -/
theorem elemOk_deed : ElemOk Deed.v 3 := fun a => ⟨rfl, by simp, by simp⟩
theorem cellsT_deed (a : Deed) : cellsT a.v = [.v (.int .i64 a.kind), .v (.int .i64 a.num), .v (.str a.words)] := rfl
def ItoDeedS (l : List Deed) (a : Nat) (s : S) : Prop := ∃ i : Nat, s.tm 0 = .v (.sl (l.map Deed.v)) ∧ s.tm 3 = .sv 0 0 l.length ∧ s.tm 4 = .v (.int .i64 i) ∧ i ≤ l.length ∧ s.m 0 = some (.box 41 3 (filled Deed.v [T.v (.int .i64 0), T.v (.int .i64 0), T.v (.str [])] l i).flatten) ∧ (a = 1 → i = l.length)
theorem toDeedS_fn (l : List Deed) (hl : l.length ≤ 1048576) : FnZ Tryz.prog 17 [.sl (l.map Deed.v)] (.sl (l.map Deed.v)) := by
  have b1 : (32 : Int) * l.length ≤ 281474976710656 := by omega
  have b2 : (l.length : Int) ≤ 9223372036854775807 := by omega
  have b3 : (0 : Int) ≤ l.length := by omega
  refine FnZ_of (rs := [.tmp 2]) false Tryz.func17 rfl rfl rfl rfl (Nat.le_of_ble_eq_true rfl) ?_
  simp -dsimp [b1, b2, b3]
  refine twp_loopC (ItoDeedS l 0) (fun s => l.length - natOf (s.tm 4)) (ItoDeedS l 1) ?_ ?_ ?_
  · exact ⟨0, by simp -dsimp, by simp -dsimp, by simp -dsimp, by omega, by rw [filled_zero]; simp -dsimp, by simp⟩
  · rintro s ⟨i, h0, h3, h4, hi, hm, hend⟩
    by_cases hlt : i < l.length
    case neg =>
      simp -dsimp [h0, h4, hlt]
      exact ⟨i, by simp -dsimp [h0], by simp -dsimp [h3], by simp -dsimp [h4], hi, by simp -dsimp [hm], fun _ => by omega⟩
    have hget : (l.map Deed.v)[i]? = some (l[i].v) := by simp [hlt]
    have wi : IntKind.wrap .i64 ((i : Int) + 1) = ((i + 1 : Nat) : Int) := by rw [w64 (by omega) (by omega)]; omega
    have hmu : l.length - (i + 1) < l.length - i := by omega
    have hfl : (filled Deed.v [T.v (.int .i64 0), T.v (.int .i64 0), T.v (.str [])] l i).flatten.length = l.length * 3 := filled_flat_len (k := 3) elemOk_deed rfl hi
    have hst := filled_set (v := Deed.v) (zs := [T.v (.int .i64 0), T.v (.int .i64 0), T.v (.str [])]) (k := 3) elemOk_deed rfl hlt
    have hoff : i * 3 + 3 ≤ l.length * 3 := by omega
    have hlt' : (i : Int) < l.length := by omega
    rw [cellsT_deed] at hst
    simp -dsimp [h0, h3, h4, hlt, hget]
    refine call_ (toDeed_fn l[i]) (by simp -dsimp) ?_
    simp -dsimp [h0, h3, h4, hlt, hlt', hm, hfl, hoff, hst, wi, hmu, filled_len]
    exact ⟨i + 1, by simp -dsimp [h0], by simp -dsimp [h3], by simp -dsimp, by omega, by simp -dsimp, by simp⟩
  · rintro s ⟨i, h0, h3, h4, hi, hm, hend⟩
    have := hend rfl
    subst this
    have hb := bor_filled (k := 3) elemOk_deed 3 hm
    simp -dsimp [h3, hb]
theorem eqDeed_fn (a b : Deed) : FnZ Tryz.prog 51 [a.v, b.v] (.bool (decide (a = b))) := by
  obtain ⟨a1, a2, a3⟩ := a
  obtain ⟨b1, b2, b3⟩ := b
  refine FnZ_of (rs := [.tmp 4]) false Tryz.func51 rfl rfl rfl rfl (Nat.le_of_ble_eq_true rfl) ?_
  by_cases h1 : a1 = b1
  · by_cases h2 : a2 = b2
    · by_cases h3 : a3 = b3
      · simp -dsimp [h1, h2, h3]
      · simp -dsimp [h1, h2, h3]
    · simp -dsimp [h1, h2]
  · simp -dsimp [h1]
def IeqDeedS (a b : List Deed) (e : Nat) (s : S) : Prop := ∃ i : Nat, s.tm 0 = .v (.sl (a.map Deed.v)) ∧ s.tm 1 = .v (.sl (b.map Deed.v)) ∧ s.tm 5 = .v (.int .i64 i) ∧ i ≤ a.length ∧ a.take i = b.take i ∧ (e = 1 → i = a.length)
theorem eqDeedS_fn (a b : List Deed) (hl : a.length ≤ 1048576) : FnZ Tryz.prog 19 [.sl (a.map Deed.v), .sl (b.map Deed.v)] (.bool (decide (a = b))) := by
  refine FnZ_of (rs := [.tmp 4]) false Tryz.func19 rfl rfl rfl rfl (Nat.le_of_ble_eq_true rfl) ?_
  by_cases hn : a.length = b.length
  case neg =>
    have e : decide (a = b) = false := by simp; rintro rfl; exact hn rfl
    have hn' : ¬ (a.length : Int) = b.length := by omega
    simp -dsimp [hn, hn', e]
  simp -dsimp [hn]
  refine twp_loopC (IeqDeedS a b 0) (fun s => a.length - natOf (s.tm 5)) (IeqDeedS a b 1) ?_ ?_ ?_
  · exact ⟨0, by simp -dsimp, by simp -dsimp, by simp -dsimp, by omega, by simp, by simp⟩
  · rintro s ⟨i, h0, h1, h5, hi, htk, hend⟩
    by_cases hlt : i < a.length
    case neg =>
      have hlt2 : ¬ i < b.length := by omega
      simp -dsimp [h0, h5, hlt, hlt2, hn]
      exact ⟨i, by simp -dsimp [h0], by simp -dsimp [h1], by simp -dsimp [h5], hi, htk, fun _ => by omega⟩
    have hlt2 : i < b.length := by omega
    have hgeta : (a.map Deed.v)[i]? = some (a[i].v) := by simp [hlt]
    have hgetb : (b.map Deed.v)[i]? = some (b[i].v) := by simp [hlt2]
    have wi : IntKind.wrap .i64 ((i : Int) + 1) = ((i + 1 : Nat) : Int) := by rw [w64 (by omega) (by omega)]; omega
    have hmu : a.length - (i + 1) < a.length - i := by omega
    simp -dsimp [h0, h5, hlt, hlt2, hn]
    refine twp_draw (List.range 10) [] (List.replicate 10 []) (List.replicate 10 []) (by kernel_rfl) (by kernel_rfl) (by kernel_rfl) (by kernel_rfl) ?_
    simp -dsimp [List.range_succ, h0, h1, h5, hlt, hlt2, hgeta, hgetb]
    refine call_ (eqDeed_fn a[i] b[i]) (by simp -dsimp) ?_
    have hq := ft (decide (a[i] = b[i]))
    rcases hq with hq | hq
    · have e : decide (a = b) = false := by
        simp at hq ⊢; rintro rfl; exact hq rfl
      simp -dsimp [List.range_succ, hq, e]
    · have hq' : a[i] = b[i] := by simpa using hq
      have htk2 := take_eq_succ hlt hlt2 htk hq'
      have hmu2 : b.length - (i + 1) < b.length - i := by omega
      simp -dsimp [List.range_succ, hq, h5, wi, hmu, hmu2]
      exact ⟨i + 1, by simp -dsimp [h0], by simp -dsimp [h1], by simp -dsimp, by omega, htk2, by simp⟩
  · rintro s ⟨i, h0, h1, h5, hi, htk, hend⟩
    have := hend rfl
    subst this
    rw [List.take_length, hn, List.take_length] at htk
    have e : decide (a = b) = true := by simpa using htk
    simp -dsimp [e]
def wordsSum (l : List Deed) : Nat := (l.map fun c => c.words.length).sum
theorem wordsSum_take {l : List Deed} {i : Nat} (h : i < l.length) : wordsSum (l.take (i + 1)) = wordsSum (l.take i) + l[i].words.length := by
  unfold wordsSum; rw [List.take_succ_eq_append_getElem h, List.map_append, List.sum_append]; rfl
theorem wordsSum_le (l : List Deed) (i : Nat) : wordsSum (l.take i) ≤ wordsSum l := by
  have e : wordsSum l = wordsSum (l.take i ++ l.drop i) := by rw [List.take_append_drop]
  rw [e]; unfold wordsSum; rw [List.map_append, List.sum_append]; omega
theorem wordsSum_mem {l : List Deed} {c : Deed} (h : c ∈ l) : c.words.length ≤ wordsSum l := by
  induction l with
  | nil => cases h
  | cons y ys ih =>
    rcases List.mem_cons.1 h with rfl | h
    · simp [wordsSum]
    · have := ih h; simp only [wordsSum, List.map_cons, List.sum_cons] at this ⊢; omega
def SZD (l : List Deed) (left : Int) (e : Nat) (s : S) : Prop := ∃ i : Nat, s.tm 0 = .v (.sl (l.map Deed.v)) ∧ s.tm 1 = .v (.int .i64 (left - l.length - wordsSum (l.take i))) ∧ s.tm 5 = .v (.int .i64 i) ∧ i ≤ l.length ∧ 0 ≤ left - l.length - wordsSum (l.take i) ∧ (e = 1 → i = l.length)
theorem szDeedS_fn (l : List Deed) (left : Int) (h0 : 0 ≤ left) (h1 : left ≤ 1048576) (hl : mid l.length) (hc : ∀ c ∈ l, c.words.length ≤ 9223372036854775807) : FnZ Tryz.prog 15 [.sl (l.map Deed.v), .int .i64 left] (.int .i64 (szR left (l.length + wordsSum l))) := by
  unfold mid at hl
  have w : IntKind.wrap .i64 (left - l.length) = left - l.length := w64 (by omega) (by omega)
  refine FnZ_of (rs := [.tmp 4]) false Tryz.func15 rfl rfl rfl rfl (Nat.le_of_ble_eq_true rfl) ?_
  by_cases h : left - l.length < 0
  · have e : szR left (l.length + wordsSum l) = -1 := if_pos (by omega)
    simp -dsimp [w, h, e]
  simp -dsimp [w, h]
  refine twp_loopC (SZD l left 0) (fun s => l.length - natOf (s.tm 5)) (SZD l left 1) ?_ ?_ ?_
  · exact ⟨0, by simp -dsimp, by simp -dsimp [wordsSum], by simp -dsimp, by omega, by simp [wordsSum]; omega, by simp⟩
  · rintro s ⟨i, t0, t1, t5, hi, hp, hend⟩
    by_cases hlt : i < l.length
    case neg =>
      simp -dsimp [t0, t5, hlt]
      exact ⟨i, by simp -dsimp [t0], by simp -dsimp [t1], by simp -dsimp [t5], hi, hp, fun _ => by omega⟩
    have hget : (l.map Deed.v)[i]? = some (l[i].v) := by simp [hlt]
    have wi : IntKind.wrap .i64 ((i : Int) + 1) = ((i + 1 : Nat) : Int) := by rw [w64 (by omega) (by omega)]; omega
    have hmu : l.length - (i + 1) < l.length - i := by omega
    have hs := wordsSum_take hlt
    have hle := wordsSum_le l (i + 1)
    simp -dsimp [t0, t1, t5, hlt, hget]
    refine call_ (szDeed_fn l[i] (left - l.length - wordsSum (l.take i)) (by omega) (by omega) (hc _ (List.getElem_mem _))) (by simp -dsimp) ?_
    by_cases hn : left - l.length - wordsSum (l.take i) - l[i].words.length < 0
    · have e1 : szR (left - l.length - wordsSum (l.take i)) l[i].words.length = -1 := if_pos hn
      have e2 : szR left (l.length + wordsSum l) = -1 := if_pos (by omega)
      simp -dsimp [e1, e2]
    · have e1 : szR (left - l.length - wordsSum (l.take i)) l[i].words.length = left - l.length - wordsSum (l.take (i + 1)) := by rw [szR, if_neg hn]; omega
      have e2 : ¬ left - l.length - wordsSum (l.take (i + 1)) < 0 := by omega
      simp -dsimp [e1, e2, t5, wi, hmu]
      exact ⟨i + 1, by simp -dsimp [t0], by simp -dsimp, by simp -dsimp, by omega, by omega, by simp⟩
  · rintro s ⟨i, t0, t1, t5, hi, hp, hend⟩
    have := hend rfl
    subst this
    rw [List.take_length] at t1 hp
    have e : szR left (l.length + wordsSum l) = left - l.length - wordsSum l := by rw [szR, if_neg (by omega)]; omega
    simp -dsimp [t1, e]
theorem opens_deeds (w : World) : Opens Tryz.prog w 46 fun vs => ∃ l : List Deed, vs = [.sl (l.map Deed.v)] ∧ (l.length ≤ maxLen ∧ ∀ a ∈ l, a.fit) :=
  (opens_slice Tryz.underlying46 (z := 3) (by kernel_rfl) (by omega) ((opens_deed w).mono fun vs h => by obtain ⟨a, h1, h2⟩ := h; exact ⟨a, h1, .inl h2⟩)).mono fun vs h => by
    obtain ⟨l, rfl, h1, h2⟩ := h; exact ⟨l, rfl, h1, h2⟩
end TL

/- What is read of a journal, in plain words. -/
set_option linter.unusedSimpArgs false
set_option linter.unusedVariables false
set_option maxRecDepth 100000
set_option maxHeartbeats 4000000
set_option pp.maxSteps 1500
namespace TL
open Go Go.Proofs
theorem cut_found {s : List UInt8} {c : UInt8} (h : (Go.Lib.cut s [c]).2.2 = true) : s = (Go.Lib.cut s [c]).1 ++ c :: (Go.Lib.cut s [c]).2.1 ∧ ∀ y ∈ (Go.Lib.cut s [c]).1, y ≠ c := by
  rcases cut_first c s with h1 | ⟨x, r, rfl, h1⟩
  · rw [cut_clean h1] at h; cases h
  · rw [cut_at h1]; exact ⟨rfl, h1⟩
/-- What ReadJournal reads, and how far. -/
noncomputable def readJF : Nat → List UInt8 → List Deed × Nat
  | 0, _ => ([], 0)
  | f + 1, s => if (Go.Lib.cut s [10]).2.2 = true then match readD (Go.Lib.cut s [10]).1 with
    | some a => (a :: (readJF f (Go.Lib.cut s [10]).2.1).1, (Go.Lib.cut s [10]).1.length + 1 + (readJF f (Go.Lib.cut s [10]).2.1).2)
    | none => ([], 0) else ([], 0)
noncomputable def readJ (s : List UInt8) : List Deed × Nat := readJF (s.length + 1) s
theorem readJF_step {f : Nat} {s : List UInt8} {a : Deed} (h : (Go.Lib.cut s [10]).2.2 = true) (ha : readD (Go.Lib.cut s [10]).1 = some a) :
    readJF (f + 1) s = (a :: (readJF f (Go.Lib.cut s [10]).2.1).1, (Go.Lib.cut s [10]).1.length + 1 + (readJF f (Go.Lib.cut s [10]).2.1).2) := by
  show (if _ then _ else _) = _
  rw [if_pos h, ha]
theorem readJF_stop {f : Nat} {s : List UInt8} (h : (Go.Lib.cut s [10]).2.2 = false ∨ readD (Go.Lib.cut s [10]).1 = none) : readJF (f + 1) s = ([], 0) := by
  show (if _ then _ else _) = _
  rcases h with h | h
  · rw [if_neg (by simp [h])]
  · rw [h]; split <;> rfl
theorem readJF_jr : ∀ (l : List Deed) (f : Nat), l.length < f → (∀ a ∈ l, deedTx a ≠ []) → readJF f (jr l deedTx) = (l, (jr l deedTx).length)
  | [], f + 1, _, _ => by
    have e : jr ([] : List Deed) deedTx = [] := rfl
    rw [e, readJF_stop (.inl (by rw [cut_clean (by simp)]))]; rfl
  | a :: l, f + 1, hf, h => by
    have h1 := h a (List.mem_cons_self ..)
    have e : jr (a :: l) deedTx = deedTx a ++ 10 :: jr l deedTx := by simp [jr]
    have hc : ∀ y ∈ deedTx a, y ≠ 10 := by
      rcases deed_cases h1 with ⟨w, rfl, ⟨d, hd⟩, e⟩ | ⟨n, h0, h9, rfl, e⟩ | ⟨n, h0, h9, rfl, e⟩ | ⟨rfl, e⟩ | ⟨rfl, e⟩ <;> rw [e]
      · intro y hy
        rcases List.mem_append.1 hy with hy | hy
        · have h10 : ∀ y ∈ txSay, y ≠ (10 : UInt8) := by decide
          exact h10 y hy
        · exact (readC_clean hd y hy).2
      · intro y hy
        rcases List.mem_append.1 hy with hy | hy
        · have h10 : ∀ y ∈ txDrop, y ≠ (10 : UInt8) := by decide
          exact h10 y hy
        · exact ((good_dec h0 h9).2.2 y hy).2
      · intro y hy
        rcases List.mem_append.1 hy with hy | hy
        · have h10 : ∀ y ∈ txPeople, y ≠ (10 : UInt8) := by decide
          exact h10 y hy
        · exact ((good_dec h0 h9).2.2 y hy).2
      · decide
      · decide
    have ih := readJF_jr l f (by simp at hf; omega) fun b hb => h b (List.mem_cons_of_mem _ hb)
    have hcut := cut_at (r := jr l deedTx) hc
    rw [e, readJF_step (a := a) (by rw [hcut]) (by rw [hcut]; exact readD_some h1 rfl), hcut]
    simp only
    rw [ih]
    simp only [List.length_append, List.length_cons]
    congr 1; omega
theorem jr_long : ∀ (l : List Deed), l.length ≤ (jr l deedTx).length
  | [] => by simp
  | a :: l => by
    have := jr_long l
    have e : jr (a :: l) deedTx = deedTx a ++ 10 :: jr l deedTx := by simp [jr]
    rw [e]; simp only [List.length_append, List.length_cons]; omega
theorem readJ_jr {l : List Deed} (h : ∀ a ∈ l, deedTx a ≠ []) : readJ (jr l deedTx) = (l, (jr l deedTx).length) := readJF_jr l _ (by have := jr_long l; omega) h
end TL

/- The exact laws of the texts of places, and of new stores. -/
set_option linter.unusedSimpArgs false
set_option linter.unusedVariables false
set_option maxRecDepth 100000
set_option maxHeartbeats 4000000
set_option pp.maxSteps 1500
namespace TL
open Go Go.Proofs
attribute [local simp] marksV storyV codeV Claim.v Place.v Deed.v
structure Store where
  saved : List UInt8
  log : List UInt8
  sure : Int
  deriving DecidableEq
def Store.v (s : Store) : V := .agg [.str s.saved, .str s.log, .int .i64 s.sure]
def noStore : Store := ⟨[], [], 0⟩
noncomputable def storeNew (p : Place) : Store := if placeOk p = true then ⟨placeTx p, [], 0⟩ else noStore
theorem place_ready {p : Place} (h : p.fit ∧ p.mid) (hz : ¬ (1048576 : Int) - p.bulk < 0) : p.small ∧ p.fine := by
  have hs := Place.small_of hz
  exact ⟨hs, by have := hs.1; omega, fun c hc => ⟨(h.1.2 c hc).2, by have := hs.2 c hc; unfold Claim.small at this; omega⟩⟩
end TL
