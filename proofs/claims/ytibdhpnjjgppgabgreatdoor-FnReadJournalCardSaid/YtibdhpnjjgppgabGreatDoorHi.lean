/- TL: parts FnsD3c, FnsD3d, FnsD3, FnsL3, FnsE15o, FnsE3, FnsE6, FnsE15a, FnsE17s, FnsE16, FnsE15b, FnsE17, FnsE18p, FnsE18, FnsE19, FnsE5. -/
import Derived.Test.YtibdhpnjjgppgabGreatDoorHh
import Derived.Test.YtibdhpnjjgppgabGreatDoorHf
import Derived.Test.YtibdhpnjjgppgabGreatDoorShelfC
import Derived.Shelf.Strings.Cut
import Derived.Shelf.Strconv.AtoiAll
import Derived.Lib.SmallJoins
import Derived.WalkSmall
import Derived.Test.YtibdhpnjjgppgabGreatDoorHg
/- Deeds at a desk: the program. -/
set_option linter.unusedSimpArgs false
set_option linter.unusedVariables false
set_option maxRecDepth 100000
set_option maxHeartbeats 4000000
set_option pp.maxSteps 1500
namespace TL
open Go Go.Proofs
attribute [local simp] marksV storyV codeV Claim.v Place.v Deed.v Desk.v
theorem do_drop (d : Desk) (k : Nat) (hd : d.small) (hk : deskOk d = true) (X : Place) (hXl : X.story.length ≤ 7) (hlt : k < d.now.story.length) (hX : X = ⟨d.now.people, d.now.story.eraseIdx k⟩) :
    FnZ Tryz.prog 29 [d.v, (⟨1, (k : Int), []⟩ : Deed).v] (.tup [(if (placeOk X && !decide (placeTx X = placeTx d.now)) = true then ((⟨X, keep8 (d.past ++ [d.now])⟩, true) : Desk × Bool) else (d, false)).1.v, .bool (if (placeOk X && !decide (placeTx X = placeTx d.now)) = true then ((⟨X, keep8 (d.past ++ [d.now])⟩, true) : Desk × Bool) else (d, false)).2]) := by
  have hpo := placeOk_fn X (by omega)
  have hpt := placeText_fn X (by omega)
  have hpn := placeText_fn d.now (by have := hd.1.1; omega)
  have hcn := copyPlace_fn d.now hd.1
  have hok := deskOk_fn d (by have := hd.2.1; omega) (by have := hd.1.1; omega) (fun p hp => by have := (hd.2.2 p hp).1; omega)
  rw [hk] at hok
  obtain ⟨hpast, hnow, hp8⟩ := deskOk_iff.1 hk
  have hcopy := fun m n => copyDesk_own d hd m n
  have fullb : (d.past.length + 1) * 32 ≤ 140737488355328 := by omega
  have zplaces : allZ 2 (List.map Place.v d.past ++ [d.now.v]) := fun x hx => by
    rcases List.mem_append.1 hx with hx | hx
    · obtain ⟨p, _, rfl⟩ := List.mem_map.1 hx; exact ⟨by simp, by simp⟩
    · rw [List.mem_singleton.1 hx]; exact ⟨by simp, by simp⟩
  have hR : placeOk X = true → ∀ l, keep8 (d.past ++ [d.now]) = l → ∀ m n, FnS Tryz.prog 30 m n [.v (⟨X, l⟩ : Desk).v] (OwnDeskL ⟨X, l⟩ m n) := fun hX l hl m n => copyDesk_own ⟨X, l⟩ (desk_fine (deskOk_iff.2 ⟨fun p hp => by
    rw [← hl] at hp
    rcases List.mem_append.1 (keep8_mem hp) with h1 | h1
    · exact hpast p h1
    · rw [List.mem_singleton.1 h1]; exact hnow, hX, by rw [← hl]; exact keep8_len _ (by simp; omega)⟩)).1 m n
  have hw := without_fn d.now.story k hlt (by have := hd.1.1; omega)
  have hkX := ft (placeOk X)
  have htx : placeTx X = placeTx d.now ∨ ¬ placeTx X = placeTx d.now := Classical.em _
  generalize placeTx X = tX at *
  generalize placeTx d.now = tN at *
  generalize placeOk X = okX at *
  subst hX
  have c1 : ¬ (d.now.story.length : Int) ≤ k := by omega
  have c2 : ¬ d.now.story.length ≤ k := by omega
  have c3 : ¬ (k : Int) < 0 := by omega
  generalize d.now.story.eraseIdx k = R at *
  refine FnZ_of (rs := [.cell 4 33, .tmp 5]) false Tryz.func29 rfl rfl rfl rfl (Nat.le_of_ble_eq_true rfl) ?_
  simp -dsimp
  refine call_ hok (by simp -dsimp) ?_
  simp -dsimp
  refine callL_ (vs := [d.v]) (hcopy _ _) (by simp -dsimp) ?_
  rintro t m1 n1 ⟨hn1, hout, id, st, rfl, hi0, hi1, him, hst, hne⟩
  have k0 := hout 0 (by omega)
  have k1 := hout 1 (by omega)
  have k2 := hout 2 (by omega)
  simp -dsimp at k0 k1 k2
  have f0 := far (show 0 < n1 by omega)
  have f1 := far (show 1 < n1 by omega)
  have f2 := far (show 2 < n1 by omega)
  have z1 : ¬ n1 = 0 := by omega
  have z2 : ¬ n1 = 1 := by omega
  have z3 : ¬ n1 = 2 := by omega
  have g1 := far hi1
  have y0 : ¬ id = 0 := by omega
  have y1 : ¬ id = 1 := by omega
  have y2 : ¬ id = 2 := by omega
  have yn : ¬ id = n1 := by omega
  have hc := hst.cell
  rcases hst with ⟨rfl, hs0⟩ | ⟨r, rfl, hr0, hr1, hrm⟩
  · have hp0 : d.past = [] := by simpa using hs0
    simp -dsimp [nes8 n1, k0, k1, k2, f0, f1, f2, z1, z2, z3, nes, g1, y0, y1, y2, yn, Ne.symm y0, Ne.symm y1, Ne.symm y2, him, hc, c1, c2, c3]
    refine twp_draw (List.range 13) [1, n1, id] (List.replicate 13 [0, 1, 2]) (List.replicate 13 [0, 1, 2]) (by kernel_rfl) (by kernel_rfl) (by kernel_rfl) (by kernel_rfl) ?_
    simp -dsimp [List.range_succ, nes8 n1, k0, k1, k2, f0, f1, f2, z1, z2, z3, nes, g1, y0, y1, y2, yn, Ne.symm y0, Ne.symm y1, Ne.symm y2, him, hc, c1, c2, c3]
    refine twp_draw (List.range 11) [1, n1] (List.replicate 8 [0, 1] ++ [[], [], []]) (List.replicate 10 [0, 1] ++ [[0]]) (by kernel_rfl) (by kernel_rfl) (by kernel_rfl) (by kernel_rfl) ?_
    simp -dsimp [List.range_succ, nes8 n1, k0, k1, k2, f0, f1, f2, z1, z2, z3, nes, g1, y0, y1, y2, yn, Ne.symm y0, Ne.symm y1, Ne.symm y2, him, hc, c1, c2, c3]
    refine call_ hw (by simp -dsimp [nes8 n1, k0, k1, k2, f0, f1, f2, z1, z2, z3, nes, g1, y0, y1, y2, yn, Ne.symm y0, Ne.symm y1, Ne.symm y2, him, hc, c1, c2, c3]) ?_
    simp -dsimp [List.range_succ, nes8 n1, k0, k1, k2, f0, f1, f2, z1, z2, z3, nes, g1, y0, y1, y2, yn, Ne.symm y0, Ne.symm y1, Ne.symm y2, him, hc, c1, c2, c3]
    refine twp_draw [0, 1, 2, 3, 4, 5, 6, 7, 8, 10, 11, 9, 12, 13, 14] [0, n1] (List.replicate 15 [0, 1]) (List.replicate 15 [0, 1]) (by kernel_rfl) (by kernel_rfl) (by kernel_rfl) (by kernel_rfl) ?_
    simp -dsimp [nes8 n1, k0, k1, k2, f0, f1, f2, z1, z2, z3, nes, g1, y0, y1, y2, yn, Ne.symm y0, Ne.symm y1, Ne.symm y2, him, hc, c1, c2, c3, hp0]
    refine call_ hpo (by simp -dsimp [nes8 n1, k0, k1, k2, f0, f1, f2, z1, z2, z3, nes, g1, y0, y1, y2, yn, Ne.symm y0, Ne.symm y1, Ne.symm y2, him, hc, c1, c2, c3, hp0]) ?_
    rcases hkX with rfl | rfl
    · simp -dsimp [nes8 n1, k0, k1, k2, f0, f1, f2, z1, z2, z3, nes, g1, y0, y1, y2, yn, Ne.symm y0, Ne.symm y1, Ne.symm y2, him, hc, c1, c2, c3, hp0]
      refine callL_ (vs := [d.v]) (hcopy _ _) (by simp -dsimp [hc, c1, c2, c3, hp0]) ?_
      rintro t m2 n2 ⟨hn2, hout2, id2, st2, rfl, hj0, hj1, hjm, hst2, hne2⟩
      have q2 := hout2 2 (by omega)
      simp -dsimp [nes8 n1, k0, k1, k2, f0, f1, f2, z1, z2, z3, nes, g1, y0, y1, y2, yn, Ne.symm y0, Ne.symm y1, Ne.symm y2, him] at q2
      have hc2 := hst2.cell
      have u2 : ¬ id2 = 2 := by omega
      rcases hst2 with ⟨rfl, hs2⟩ | ⟨r2, rfl, hr0, hr1, hrm2⟩
      · simp -dsimp [q2, hjm, u2, Ne.symm u2, hs2]
      · have u4 : ¬ r2 = 2 := by omega
        simp -dsimp [q2, hjm, hrm2, u2, u4, Ne.symm u2, Ne.symm u4]
    simp -dsimp [nes8 n1, k0, k1, k2, f0, f1, f2, z1, z2, z3, nes, g1, y0, y1, y2, yn, Ne.symm y0, Ne.symm y1, Ne.symm y2, him, hc, c1, c2, c3, hp0]
    refine call_ hpt (by simp -dsimp [nes8 n1, k0, k1, k2, f0, f1, f2, z1, z2, z3, nes, g1, y0, y1, y2, yn, Ne.symm y0, Ne.symm y1, Ne.symm y2, him, hc, c1, c2, c3, hp0]) ?_
    simp -dsimp [nes8 n1, k0, k1, k2, f0, f1, f2, z1, z2, z3, nes, g1, y0, y1, y2, yn, Ne.symm y0, Ne.symm y1, Ne.symm y2, him, hc, c1, c2, c3, hp0]
    refine call_ hpn (by simp -dsimp) ?_
    rcases htx with rfl | htx
    · simp -dsimp [nes8 n1, k0, k1, k2, f0, f1, f2, z1, z2, z3, nes, g1, y0, y1, y2, yn, Ne.symm y0, Ne.symm y1, Ne.symm y2, him, hc, c1, c2, c3, hp0]
      refine callL_ (vs := [d.v]) (hcopy _ _) (by simp -dsimp [hc, c1, c2, c3, hp0]) ?_
      rintro t m2 n2 ⟨hn2, hout2, id2, st2, rfl, hj0, hj1, hjm, hst2, hne2⟩
      have q2 := hout2 2 (by omega)
      simp -dsimp [nes8 n1, k0, k1, k2, f0, f1, f2, z1, z2, z3, nes, g1, y0, y1, y2, yn, Ne.symm y0, Ne.symm y1, Ne.symm y2, him] at q2
      have hc2 := hst2.cell
      have u2 : ¬ id2 = 2 := by omega
      rcases hst2 with ⟨rfl, hs2⟩ | ⟨r2, rfl, hr0, hr1, hrm2⟩
      · simp -dsimp [q2, hjm, u2, Ne.symm u2, hs2]
      · have u4 : ¬ r2 = 2 := by omega
        simp -dsimp [q2, hjm, hrm2, u2, u4, Ne.symm u2, Ne.symm u4]
    have hRs := hR rfl
    simp -dsimp [nes8 n1, k0, k1, k2, f0, f1, f2, z1, z2, z3, nes, g1, y0, y1, y2, yn, Ne.symm y0, Ne.symm y1, Ne.symm y2, him, hc, c1, c2, c3, hp0, htx]
    refine twp_draw (List.range 9) [0, n1] (List.replicate 9 [0, 1]) (List.replicate 8 [0, 1] ++ [[0]]) (by kernel_rfl) (by kernel_rfl) (by kernel_rfl) (by kernel_rfl) ?_
    simp -dsimp [List.range_succ, nes8 n1, k0, k1, k2, f0, f1, f2, z1, z2, z3, nes, g1, y0, y1, y2, yn, Ne.symm y0, Ne.symm y1, Ne.symm y2, him, hc, c1, c2, c3, hp0, htx]
    refine call_ hcn (by simp -dsimp) ?_
    have hR2 := hRs [d.now] (by rw [hp0]; rfl)
    simp -dsimp [List.range_succ, nes8 n1, k0, k1, k2, f0, f1, f2, z1, z2, z3, nes, g1, y0, y1, y2, yn, Ne.symm y0, Ne.symm y1, Ne.symm y2, him, hc, c1, c2, c3, hp0, htx]
    refine callL_ (vs := [(⟨⟨d.now.people, R⟩, [d.now]⟩ : Desk).v]) (hR2 _ _) (by simp -dsimp [nes8 n1, k0, k1, k2, f0, f1, f2, z1, z2, z3, nes, g1, y0, y1, y2, yn, Ne.symm y0, Ne.symm y1, Ne.symm y2, him, hc, c1, c2, c3, hp0]) ?_
    rintro t m2 n2 ⟨hn2, hout2, id2, st2, rfl, hj0, hj1, hjm, hst2, hne2⟩
    have q2 := hout2 2 (by omega)
    simp -dsimp [nes8 n1, k0, k1, k2, f0, f1, f2, z1, z2, z3, nes, g1, y0, y1, y2, yn, Ne.symm y0, Ne.symm y1, Ne.symm y2, him] at q2
    have hc2 := hst2.cell
    have u2 : ¬ id2 = 2 := by omega
    rcases hst2 with ⟨rfl, hs2⟩ | ⟨r2, rfl, hr0, hr1, hrm2⟩
    · simp -dsimp [q2, hjm, u2, Ne.symm u2, hs2, htx, hp0, keep8]
    · have u4 : ¬ r2 = 2 := by omega
      simp -dsimp [q2, hjm, hrm2, u2, u4, Ne.symm u2, Ne.symm u4, htx, hp0, keep8]
  · have g2 := far hr1
    have x0 : ¬ r = 0 := by omega
    have x1 : ¬ r = 1 := by omega
    have x2 : ¬ r = 2 := by omega
    have xi : ¬ r = id := fun h => hne (by rw [h])
    simp -dsimp [nes8 n1, k0, k1, k2, f0, f1, f2, z1, z2, z3, nes, g1, y0, y1, y2, yn, Ne.symm y0, Ne.symm y1, Ne.symm y2, him, g2, x0, x1, x2, xi, Ne.symm x0, Ne.symm x1, Ne.symm x2, Ne.symm xi, hrm, hc, c1, c2, c3]
    refine twp_draw (List.range 13) [1, n1, id] (List.replicate 13 [0, 1, 2]) (List.replicate 13 [0, 1, 2]) (by kernel_rfl) (by kernel_rfl) (by kernel_rfl) (by kernel_rfl) ?_
    simp -dsimp [List.range_succ, nes8 n1, k0, k1, k2, f0, f1, f2, z1, z2, z3, nes, g1, y0, y1, y2, yn, Ne.symm y0, Ne.symm y1, Ne.symm y2, him, g2, x0, x1, x2, xi, Ne.symm x0, Ne.symm x1, Ne.symm x2, Ne.symm xi, hrm, hc, c1, c2, c3]
    refine twp_draw (List.range 11) [1, n1] (List.replicate 8 [0, 1] ++ [[], [], []]) (List.replicate 10 [0, 1] ++ [[0]]) (by kernel_rfl) (by kernel_rfl) (by kernel_rfl) (by kernel_rfl) ?_
    simp -dsimp [List.range_succ, nes8 n1, k0, k1, k2, f0, f1, f2, z1, z2, z3, nes, g1, y0, y1, y2, yn, Ne.symm y0, Ne.symm y1, Ne.symm y2, him, g2, x0, x1, x2, xi, Ne.symm x0, Ne.symm x1, Ne.symm x2, Ne.symm xi, hrm, hc, c1, c2, c3]
    refine call_ hw (by simp -dsimp [nes8 n1, k0, k1, k2, f0, f1, f2, z1, z2, z3, nes, g1, y0, y1, y2, yn, Ne.symm y0, Ne.symm y1, Ne.symm y2, him, g2, x0, x1, x2, xi, Ne.symm x0, Ne.symm x1, Ne.symm x2, Ne.symm xi, hrm, hc, c1, c2, c3]) ?_
    simp -dsimp [List.range_succ, nes8 n1, k0, k1, k2, f0, f1, f2, z1, z2, z3, nes, g1, y0, y1, y2, yn, Ne.symm y0, Ne.symm y1, Ne.symm y2, him, g2, x0, x1, x2, xi, Ne.symm x0, Ne.symm x1, Ne.symm x2, Ne.symm xi, hrm, hc, c1, c2, c3]
    refine twp_draw [0, 1, 2, 3, 4, 5, 6, 7, 8, 10, 11, 9, 12, 13, 14] [0, n1] (List.replicate 15 [0, 1]) (List.replicate 15 [0, 1]) (by kernel_rfl) (by kernel_rfl) (by kernel_rfl) (by kernel_rfl) ?_
    simp -dsimp [nes8 n1, k0, k1, k2, f0, f1, f2, z1, z2, z3, nes, g1, y0, y1, y2, yn, Ne.symm y0, Ne.symm y1, Ne.symm y2, him, g2, x0, x1, x2, xi, Ne.symm x0, Ne.symm x1, Ne.symm x2, Ne.symm xi, hrm, hc, c1, c2, c3]
    refine call_ hpo (by simp -dsimp [nes8 n1, k0, k1, k2, f0, f1, f2, z1, z2, z3, nes, g1, y0, y1, y2, yn, Ne.symm y0, Ne.symm y1, Ne.symm y2, him, g2, x0, x1, x2, xi, Ne.symm x0, Ne.symm x1, Ne.symm x2, Ne.symm xi, hrm, hc, c1, c2, c3]) ?_
    rcases hkX with rfl | rfl
    · simp -dsimp [nes8 n1, k0, k1, k2, f0, f1, f2, z1, z2, z3, nes, g1, y0, y1, y2, yn, Ne.symm y0, Ne.symm y1, Ne.symm y2, him, g2, x0, x1, x2, xi, Ne.symm x0, Ne.symm x1, Ne.symm x2, Ne.symm xi, hrm, hc, c1, c2, c3]
      refine callL_ (vs := [d.v]) (hcopy _ _) (by simp -dsimp [hc, c1, c2, c3]) ?_
      rintro t m2 n2 ⟨hn2, hout2, id2, st2, rfl, hj0, hj1, hjm, hst2, hne2⟩
      have q2 := hout2 2 (by omega)
      simp -dsimp [nes8 n1, k0, k1, k2, f0, f1, f2, z1, z2, z3, nes, g1, y0, y1, y2, yn, Ne.symm y0, Ne.symm y1, Ne.symm y2, him, g2, x0, x1, x2, xi, Ne.symm x0, Ne.symm x1, Ne.symm x2, Ne.symm xi, hrm] at q2
      have hc2 := hst2.cell
      have u2 : ¬ id2 = 2 := by omega
      rcases hst2 with ⟨rfl, hs2⟩ | ⟨r2, rfl, hr0, hr1, hrm2⟩
      · simp -dsimp [q2, hjm, u2, Ne.symm u2, hs2]
      · have u4 : ¬ r2 = 2 := by omega
        simp -dsimp [q2, hjm, hrm2, u2, u4, Ne.symm u2, Ne.symm u4]
    simp -dsimp [nes8 n1, k0, k1, k2, f0, f1, f2, z1, z2, z3, nes, g1, y0, y1, y2, yn, Ne.symm y0, Ne.symm y1, Ne.symm y2, him, g2, x0, x1, x2, xi, Ne.symm x0, Ne.symm x1, Ne.symm x2, Ne.symm xi, hrm, hc, c1, c2, c3]
    refine call_ hpt (by simp -dsimp [nes8 n1, k0, k1, k2, f0, f1, f2, z1, z2, z3, nes, g1, y0, y1, y2, yn, Ne.symm y0, Ne.symm y1, Ne.symm y2, him, g2, x0, x1, x2, xi, Ne.symm x0, Ne.symm x1, Ne.symm x2, Ne.symm xi, hrm, hc, c1, c2, c3]) ?_
    simp -dsimp [nes8 n1, k0, k1, k2, f0, f1, f2, z1, z2, z3, nes, g1, y0, y1, y2, yn, Ne.symm y0, Ne.symm y1, Ne.symm y2, him, g2, x0, x1, x2, xi, Ne.symm x0, Ne.symm x1, Ne.symm x2, Ne.symm xi, hrm, hc, c1, c2, c3]
    refine call_ hpn (by simp -dsimp) ?_
    rcases htx with rfl | htx
    · simp -dsimp [nes8 n1, k0, k1, k2, f0, f1, f2, z1, z2, z3, nes, g1, y0, y1, y2, yn, Ne.symm y0, Ne.symm y1, Ne.symm y2, him, g2, x0, x1, x2, xi, Ne.symm x0, Ne.symm x1, Ne.symm x2, Ne.symm xi, hrm, hc, c1, c2, c3]
      refine callL_ (vs := [d.v]) (hcopy _ _) (by simp -dsimp [hc, c1, c2, c3]) ?_
      rintro t m2 n2 ⟨hn2, hout2, id2, st2, rfl, hj0, hj1, hjm, hst2, hne2⟩
      have q2 := hout2 2 (by omega)
      simp -dsimp [nes8 n1, k0, k1, k2, f0, f1, f2, z1, z2, z3, nes, g1, y0, y1, y2, yn, Ne.symm y0, Ne.symm y1, Ne.symm y2, him, g2, x0, x1, x2, xi, Ne.symm x0, Ne.symm x1, Ne.symm x2, Ne.symm xi, hrm] at q2
      have hc2 := hst2.cell
      have u2 : ¬ id2 = 2 := by omega
      rcases hst2 with ⟨rfl, hs2⟩ | ⟨r2, rfl, hr0, hr1, hrm2⟩
      · simp -dsimp [q2, hjm, u2, Ne.symm u2, hs2]
      · have u4 : ¬ r2 = 2 := by omega
        simp -dsimp [q2, hjm, hrm2, u2, u4, Ne.symm u2, Ne.symm u4]
    have hRs := hR rfl
    simp -dsimp [nes8 n1, k0, k1, k2, f0, f1, f2, z1, z2, z3, nes, g1, y0, y1, y2, yn, Ne.symm y0, Ne.symm y1, Ne.symm y2, him, g2, x0, x1, x2, xi, Ne.symm x0, Ne.symm x1, Ne.symm x2, Ne.symm xi, hrm, hc, c1, c2, c3, htx]
    refine twp_draw (List.range 9) [0, n1] (List.replicate 9 [0, 1]) (List.replicate 8 [0, 1] ++ [[0]]) (by kernel_rfl) (by kernel_rfl) (by kernel_rfl) (by kernel_rfl) ?_
    simp -dsimp [List.range_succ, nes8 n1, k0, k1, k2, f0, f1, f2, z1, z2, z3, nes, g1, y0, y1, y2, yn, Ne.symm y0, Ne.symm y1, Ne.symm y2, him, g2, x0, x1, x2, xi, Ne.symm x0, Ne.symm x1, Ne.symm x2, Ne.symm xi, hrm, hc, c1, c2, c3, htx]
    refine call_ hcn (by simp -dsimp) ?_
    by_cases h8 : d.past.length = 8
    · have e8 : (d.past.length : Int) = 8 := by omega
      have ek : keep8 (d.past ++ [d.now]) = (d.past ++ [d.now]).tail := by unfold keep8; rw [if_pos (by simp [h8])]; simp
      have hR2 := hRs (d.past ++ [d.now]).tail ek
      have tk : List.take 9 (List.map Place.v d.past ++ [d.now.v]) = List.map Place.v d.past ++ [d.now.v] := List.take_of_length_le (by simp [h8])
      have zk : allZ 2 (List.map Place.v d.past ++ [d.now.v]).tail := fun x hx => zplaces x (List.mem_of_mem_tail hx)
      simp only [Place.v, storyV] at tk zk
      simp -dsimp [List.range_succ, nes8 n1, k0, k1, k2, f0, f1, f2, z1, z2, z3, nes, g1, y0, y1, y2, yn, Ne.symm y0, Ne.symm y1, Ne.symm y2, him, g2, x0, x1, x2, xi, Ne.symm x0, Ne.symm x1, Ne.symm x2, Ne.symm xi, hrm, hc, c1, c2, c3, htx, fullb, h8, e8, tk, zk]
      refine callL_ (vs := [(⟨⟨d.now.people, R⟩, (d.past ++ [d.now]).tail⟩ : Desk).v]) (hR2 _ _) (by simp -dsimp [nes8 n1, k0, k1, k2, f0, f1, f2, z1, z2, z3, nes, g1, y0, y1, y2, yn, Ne.symm y0, Ne.symm y1, Ne.symm y2, him, g2, x0, x1, x2, xi, Ne.symm x0, Ne.symm x1, Ne.symm x2, Ne.symm xi, hrm, hc, c1, c2, c3, List.map_tail, List.map_append]) ?_
      rintro t m2 n2 ⟨hn2, hout2, id2, st2, rfl, hj0, hj1, hjm, hst2, hne2⟩
      have q2 := hout2 2 (by omega)
      simp -dsimp [nes8 n1, k0, k1, k2, f0, f1, f2, z1, z2, z3, nes, g1, y0, y1, y2, yn, Ne.symm y0, Ne.symm y1, Ne.symm y2, him, g2, x0, x1, x2, xi, Ne.symm x0, Ne.symm x1, Ne.symm x2, Ne.symm xi, hrm] at q2
      have hc2 := hst2.cell
      have u2 : ¬ id2 = 2 := by omega
      rcases hst2 with ⟨rfl, hs2⟩ | ⟨r2, rfl, hr0, hr1, hrm2⟩
      · simp -dsimp [q2, hjm, u2, Ne.symm u2, hs2, htx, ek]
      · have u4 : ¬ r2 = 2 := by omega
        simp -dsimp [q2, hjm, hrm2, u2, u4, Ne.symm u2, Ne.symm u4, htx, ek]
    · have e8 : d.past.length < 8 := by omega
      have e8' : ¬ (8 : Int) < (d.past.length : Int) + 1 := by omega
      have e8'' : ¬ 8 < d.past.length + 1 := by omega
      have ek : keep8 (d.past ++ [d.now]) = d.past ++ [d.now] := by unfold keep8; rw [if_neg (by simp; omega)]
      have hR2 := hRs (d.past ++ [d.now]) ek
      simp -dsimp [List.range_succ, nes8 n1, k0, k1, k2, f0, f1, f2, z1, z2, z3, nes, g1, y0, y1, y2, yn, Ne.symm y0, Ne.symm y1, Ne.symm y2, him, g2, x0, x1, x2, xi, Ne.symm x0, Ne.symm x1, Ne.symm x2, Ne.symm xi, hrm, hc, c1, c2, c3, htx, fullb, h8, e8, e8', e8'']
      refine callL_ (vs := [(⟨⟨d.now.people, R⟩, d.past ++ [d.now]⟩ : Desk).v]) (hR2 _ _) (by simp -dsimp [nes8 n1, k0, k1, k2, f0, f1, f2, z1, z2, z3, nes, g1, y0, y1, y2, yn, Ne.symm y0, Ne.symm y1, Ne.symm y2, him, g2, x0, x1, x2, xi, Ne.symm x0, Ne.symm x1, Ne.symm x2, Ne.symm xi, hrm, hc, c1, c2, c3]) ?_
      rintro t m2 n2 ⟨hn2, hout2, id2, st2, rfl, hj0, hj1, hjm, hst2, hne2⟩
      have q2 := hout2 2 (by omega)
      simp -dsimp [nes8 n1, k0, k1, k2, f0, f1, f2, z1, z2, z3, nes, g1, y0, y1, y2, yn, Ne.symm y0, Ne.symm y1, Ne.symm y2, him, g2, x0, x1, x2, xi, Ne.symm x0, Ne.symm x1, Ne.symm x2, Ne.symm xi, hrm] at q2
      have hc2 := hst2.cell
      have u2 : ¬ id2 = 2 := by omega
      rcases hst2 with ⟨rfl, hs2⟩ | ⟨r2, rfl, hr0, hr1, hrm2⟩
      · simp -dsimp [q2, hjm, u2, Ne.symm u2, hs2, htx, ek]
      · have u4 : ¬ r2 = 2 := by omega
        simp -dsimp [q2, hjm, hrm2, u2, u4, Ne.symm u2, Ne.symm u4, htx, ek]
end TL

/- Deeds at a desk: the program. -/
set_option linter.unusedSimpArgs false
set_option linter.unusedVariables false
set_option maxRecDepth 100000
set_option maxHeartbeats 4000000
set_option pp.maxSteps 1500
namespace TL
open Go Go.Proofs
attribute [local simp] marksV storyV codeV Claim.v Place.v Deed.v Desk.v
theorem do_say (d : Desk) (words : List UInt8) (c : Claim) (hd : d.small) (hk : deskOk d = true) (X : Place) (hXl : X.story.length ≤ 7) (hr : readC d.now.people words = some c) (hwl : words.length ≤ 1000000000) (hX : X = ⟨d.now.people, d.now.story ++ [c]⟩) :
    FnZ Tryz.prog 29 [d.v, (⟨0, 0, words⟩ : Deed).v] (.tup [(if (placeOk X && !decide (placeTx X = placeTx d.now)) = true then ((⟨X, keep8 (d.past ++ [d.now])⟩, true) : Desk × Bool) else (d, false)).1.v, .bool (if (placeOk X && !decide (placeTx X = placeTx d.now)) = true then ((⟨X, keep8 (d.past ++ [d.now])⟩, true) : Desk × Bool) else (d, false)).2]) := by
  have hpo := placeOk_fn X (by omega)
  have hpt := placeText_fn X (by omega)
  have hpn := placeText_fn d.now (by have := hd.1.1; omega)
  have hcn := copyPlace_fn d.now hd.1
  have hok := deskOk_fn d (by have := hd.2.1; omega) (by have := hd.1.1; omega) (fun p hp => by have := (hd.2.2 p hp).1; omega)
  rw [hk] at hok
  obtain ⟨hpast, hnow, hp8⟩ := deskOk_iff.1 hk
  have hcopy := fun m n => copyDesk_own d hd m n
  have fullb : (d.past.length + 1) * 32 ≤ 140737488355328 := by omega
  have zplaces : allZ 2 (List.map Place.v d.past ++ [d.now.v]) := fun x hx => by
    rcases List.mem_append.1 hx with hx | hx
    · obtain ⟨p, _, rfl⟩ := List.mem_map.1 hx; exact ⟨by simp, by simp⟩
    · rw [List.mem_singleton.1 hx]; exact ⟨by simp, by simp⟩
  have hR : placeOk X = true → ∀ l, keep8 (d.past ++ [d.now]) = l → ∀ m n, FnS Tryz.prog 30 m n [.v (⟨X, l⟩ : Desk).v] (OwnDeskL ⟨X, l⟩ m n) := fun hX l hl m n => copyDesk_own ⟨X, l⟩ (desk_fine (deskOk_iff.2 ⟨fun p hp => by
    rw [← hl] at hp
    rcases List.mem_append.1 (keep8_mem hp) with h1 | h1
    · exact hpast p h1
    · rw [List.mem_singleton.1 h1]; exact hnow, hX, by rw [← hl]; exact keep8_len _ (by simp; omega)⟩)).1 m n
  have hrc := readClaim_fn d.now.people words (by omega)
  rw [hr] at hrc
  have b1 : (d.now.story.length + 1) * 32 ≤ 140737488355328 := by have := hd.1.1; omega
  have hkX := ft (placeOk X)
  have htx : placeTx X = placeTx d.now ∨ ¬ placeTx X = placeTx d.now := Classical.em _
  generalize placeTx X = tX at *
  generalize placeTx d.now = tN at *
  generalize placeOk X = okX at *
  subst hX
  refine FnZ_of (rs := [.cell 4 33, .tmp 5]) false Tryz.func29 rfl rfl rfl rfl (Nat.le_of_ble_eq_true rfl) ?_
  simp -dsimp
  refine call_ hok (by simp -dsimp) ?_
  simp -dsimp
  refine callL_ (vs := [d.v]) (hcopy _ _) (by simp -dsimp) ?_
  rintro t m1 n1 ⟨hn1, hout, id, st, rfl, hi0, hi1, him, hst, hne⟩
  have k0 := hout 0 (by omega)
  have k1 := hout 1 (by omega)
  have k2 := hout 2 (by omega)
  simp -dsimp at k0 k1 k2
  have f0 := far (show 0 < n1 by omega)
  have f1 := far (show 1 < n1 by omega)
  have f2 := far (show 2 < n1 by omega)
  have z1 : ¬ n1 = 0 := by omega
  have z2 : ¬ n1 = 1 := by omega
  have z3 : ¬ n1 = 2 := by omega
  have g1 := far hi1
  have y0 : ¬ id = 0 := by omega
  have y1 : ¬ id = 1 := by omega
  have y2 : ¬ id = 2 := by omega
  have yn : ¬ id = n1 := by omega
  have hc := hst.cell
  rcases hst with ⟨rfl, hs0⟩ | ⟨r, rfl, hr0, hr1, hrm⟩
  · have hp0 : d.past = [] := by simpa using hs0
    simp -dsimp [nes8 n1, k0, k1, k2, f0, f1, f2, z1, z2, z3, nes, g1, y0, y1, y2, yn, Ne.symm y0, Ne.symm y1, Ne.symm y2, him, hc, b1]
    refine twp_draw [0, 1, 2, 3, 4, 5, 1006, 7, 8, 9, 10, 11, 12] [1, n1] (List.replicate 13 [0, 1]) (List.replicate 13 [0, 1]) (by kernel_rfl) (by kernel_rfl) (by kernel_rfl) (by kernel_rfl) ?_
    simp -dsimp [List.range_succ, nes8 n1, k0, k1, k2, f0, f1, f2, z1, z2, z3, nes, g1, y0, y1, y2, yn, Ne.symm y0, Ne.symm y1, Ne.symm y2, him, hc, b1]
    refine pure_ hrc (by simp -dsimp [nes8 n1, k0, k1, k2, f0, f1, f2, z1, z2, z3, nes, g1, y0, y1, y2, yn, Ne.symm y0, Ne.symm y1, Ne.symm y2, him, hc, b1]) ?_
    simp -dsimp [List.range_succ, nes8 n1, k0, k1, k2, f0, f1, f2, z1, z2, z3, nes, g1, y0, y1, y2, yn, Ne.symm y0, Ne.symm y1, Ne.symm y2, him, hc, b1, optC]
    refine twp_draw (List.range 11) [n1, n1 + 1 + 1] (List.replicate 8 [0, 1] ++ [[], [], []]) (List.replicate 10 [0, 1] ++ [[1]]) (by kernel_rfl) (by kernel_rfl) (by kernel_rfl) (by kernel_rfl) ?_
    simp -dsimp [List.range_succ, nes8 n1, k0, k1, k2, f0, f1, f2, z1, z2, z3, nes, g1, y0, y1, y2, yn, Ne.symm y0, Ne.symm y1, Ne.symm y2, him, hc, b1, b1]
    refine twp_draw [0, 1, 2, 3, 4, 5, 6, 7, 8, 10, 11, 9, 12, 13, 14] [0, n1] (List.replicate 15 [0, 1]) (List.replicate 15 [0, 1]) (by kernel_rfl) (by kernel_rfl) (by kernel_rfl) (by kernel_rfl) ?_
    simp -dsimp [nes8 n1, k0, k1, k2, f0, f1, f2, z1, z2, z3, nes, g1, y0, y1, y2, yn, Ne.symm y0, Ne.symm y1, Ne.symm y2, him, hc, b1, hp0]
    refine call_ hpo (by simp -dsimp [nes8 n1, k0, k1, k2, f0, f1, f2, z1, z2, z3, nes, g1, y0, y1, y2, yn, Ne.symm y0, Ne.symm y1, Ne.symm y2, him, hc, b1, hp0]) ?_
    rcases hkX with rfl | rfl
    · simp -dsimp [nes8 n1, k0, k1, k2, f0, f1, f2, z1, z2, z3, nes, g1, y0, y1, y2, yn, Ne.symm y0, Ne.symm y1, Ne.symm y2, him, hc, b1, hp0]
      refine callL_ (vs := [d.v]) (hcopy _ _) (by simp -dsimp [hc, b1, hp0]) ?_
      rintro t m2 n2 ⟨hn2, hout2, id2, st2, rfl, hj0, hj1, hjm, hst2, hne2⟩
      have q2 := hout2 2 (by omega)
      simp -dsimp [nes8 n1, k0, k1, k2, f0, f1, f2, z1, z2, z3, nes, g1, y0, y1, y2, yn, Ne.symm y0, Ne.symm y1, Ne.symm y2, him] at q2
      have hc2 := hst2.cell
      have u2 : ¬ id2 = 2 := by omega
      rcases hst2 with ⟨rfl, hs2⟩ | ⟨r2, rfl, hr0, hr1, hrm2⟩
      · simp -dsimp [q2, hjm, u2, Ne.symm u2, hs2]
      · have u4 : ¬ r2 = 2 := by omega
        simp -dsimp [q2, hjm, hrm2, u2, u4, Ne.symm u2, Ne.symm u4]
    simp -dsimp [nes8 n1, k0, k1, k2, f0, f1, f2, z1, z2, z3, nes, g1, y0, y1, y2, yn, Ne.symm y0, Ne.symm y1, Ne.symm y2, him, hc, b1, hp0]
    refine call_ hpt (by simp -dsimp [nes8 n1, k0, k1, k2, f0, f1, f2, z1, z2, z3, nes, g1, y0, y1, y2, yn, Ne.symm y0, Ne.symm y1, Ne.symm y2, him, hc, b1, hp0]) ?_
    simp -dsimp [nes8 n1, k0, k1, k2, f0, f1, f2, z1, z2, z3, nes, g1, y0, y1, y2, yn, Ne.symm y0, Ne.symm y1, Ne.symm y2, him, hc, b1, hp0]
    refine call_ hpn (by simp -dsimp) ?_
    rcases htx with rfl | htx
    · simp -dsimp [nes8 n1, k0, k1, k2, f0, f1, f2, z1, z2, z3, nes, g1, y0, y1, y2, yn, Ne.symm y0, Ne.symm y1, Ne.symm y2, him, hc, b1, hp0]
      refine callL_ (vs := [d.v]) (hcopy _ _) (by simp -dsimp [hc, b1, hp0]) ?_
      rintro t m2 n2 ⟨hn2, hout2, id2, st2, rfl, hj0, hj1, hjm, hst2, hne2⟩
      have q2 := hout2 2 (by omega)
      simp -dsimp [nes8 n1, k0, k1, k2, f0, f1, f2, z1, z2, z3, nes, g1, y0, y1, y2, yn, Ne.symm y0, Ne.symm y1, Ne.symm y2, him] at q2
      have hc2 := hst2.cell
      have u2 : ¬ id2 = 2 := by omega
      rcases hst2 with ⟨rfl, hs2⟩ | ⟨r2, rfl, hr0, hr1, hrm2⟩
      · simp -dsimp [q2, hjm, u2, Ne.symm u2, hs2]
      · have u4 : ¬ r2 = 2 := by omega
        simp -dsimp [q2, hjm, hrm2, u2, u4, Ne.symm u2, Ne.symm u4]
    have hRs := hR rfl
    simp -dsimp [nes8 n1, k0, k1, k2, f0, f1, f2, z1, z2, z3, nes, g1, y0, y1, y2, yn, Ne.symm y0, Ne.symm y1, Ne.symm y2, him, hc, b1, hp0, htx]
    refine twp_draw (List.range 9) [0, n1] (List.replicate 9 [0, 1]) (List.replicate 8 [0, 1] ++ [[0]]) (by kernel_rfl) (by kernel_rfl) (by kernel_rfl) (by kernel_rfl) ?_
    simp -dsimp [List.range_succ, nes8 n1, k0, k1, k2, f0, f1, f2, z1, z2, z3, nes, g1, y0, y1, y2, yn, Ne.symm y0, Ne.symm y1, Ne.symm y2, him, hc, b1, hp0, htx]
    refine call_ hcn (by simp -dsimp) ?_
    have hR2 := hRs [d.now] (by rw [hp0]; rfl)
    simp -dsimp [List.range_succ, nes8 n1, k0, k1, k2, f0, f1, f2, z1, z2, z3, nes, g1, y0, y1, y2, yn, Ne.symm y0, Ne.symm y1, Ne.symm y2, him, hc, b1, hp0, htx]
    refine callL_ (vs := [(⟨⟨d.now.people, d.now.story ++ [c]⟩, [d.now]⟩ : Desk).v]) (hR2 _ _) (by simp -dsimp [nes8 n1, k0, k1, k2, f0, f1, f2, z1, z2, z3, nes, g1, y0, y1, y2, yn, Ne.symm y0, Ne.symm y1, Ne.symm y2, him, hc, b1, hp0]) ?_
    rintro t m2 n2 ⟨hn2, hout2, id2, st2, rfl, hj0, hj1, hjm, hst2, hne2⟩
    have q2 := hout2 2 (by omega)
    simp -dsimp [nes8 n1, k0, k1, k2, f0, f1, f2, z1, z2, z3, nes, g1, y0, y1, y2, yn, Ne.symm y0, Ne.symm y1, Ne.symm y2, him] at q2
    have hc2 := hst2.cell
    have u2 : ¬ id2 = 2 := by omega
    rcases hst2 with ⟨rfl, hs2⟩ | ⟨r2, rfl, hr0, hr1, hrm2⟩
    · simp -dsimp [q2, hjm, u2, Ne.symm u2, hs2, htx, hp0, keep8]
    · have u4 : ¬ r2 = 2 := by omega
      simp -dsimp [q2, hjm, hrm2, u2, u4, Ne.symm u2, Ne.symm u4, htx, hp0, keep8]
  · have g2 := far hr1
    have x0 : ¬ r = 0 := by omega
    have x1 : ¬ r = 1 := by omega
    have x2 : ¬ r = 2 := by omega
    have xi : ¬ r = id := fun h => hne (by rw [h])
    simp -dsimp [nes8 n1, k0, k1, k2, f0, f1, f2, z1, z2, z3, nes, g1, y0, y1, y2, yn, Ne.symm y0, Ne.symm y1, Ne.symm y2, him, g2, x0, x1, x2, xi, Ne.symm x0, Ne.symm x1, Ne.symm x2, Ne.symm xi, hrm, hc, b1]
    refine twp_draw [0, 1, 2, 3, 4, 5, 1006, 7, 8, 9, 10, 11, 12] [1, n1] (List.replicate 13 [0, 1]) (List.replicate 13 [0, 1]) (by kernel_rfl) (by kernel_rfl) (by kernel_rfl) (by kernel_rfl) ?_
    simp -dsimp [List.range_succ, nes8 n1, k0, k1, k2, f0, f1, f2, z1, z2, z3, nes, g1, y0, y1, y2, yn, Ne.symm y0, Ne.symm y1, Ne.symm y2, him, g2, x0, x1, x2, xi, Ne.symm x0, Ne.symm x1, Ne.symm x2, Ne.symm xi, hrm, hc, b1]
    refine pure_ hrc (by simp -dsimp [nes8 n1, k0, k1, k2, f0, f1, f2, z1, z2, z3, nes, g1, y0, y1, y2, yn, Ne.symm y0, Ne.symm y1, Ne.symm y2, him, g2, x0, x1, x2, xi, Ne.symm x0, Ne.symm x1, Ne.symm x2, Ne.symm xi, hrm, hc, b1]) ?_
    simp -dsimp [List.range_succ, nes8 n1, k0, k1, k2, f0, f1, f2, z1, z2, z3, nes, g1, y0, y1, y2, yn, Ne.symm y0, Ne.symm y1, Ne.symm y2, him, g2, x0, x1, x2, xi, Ne.symm x0, Ne.symm x1, Ne.symm x2, Ne.symm xi, hrm, hc, b1, optC]
    refine twp_draw (List.range 11) [n1, n1 + 1 + 1] (List.replicate 8 [0, 1] ++ [[], [], []]) (List.replicate 10 [0, 1] ++ [[1]]) (by kernel_rfl) (by kernel_rfl) (by kernel_rfl) (by kernel_rfl) ?_
    simp -dsimp [List.range_succ, nes8 n1, k0, k1, k2, f0, f1, f2, z1, z2, z3, nes, g1, y0, y1, y2, yn, Ne.symm y0, Ne.symm y1, Ne.symm y2, him, g2, x0, x1, x2, xi, Ne.symm x0, Ne.symm x1, Ne.symm x2, Ne.symm xi, hrm, hc, b1, b1]
    refine twp_draw [0, 1, 2, 3, 4, 5, 6, 7, 8, 10, 11, 9, 12, 13, 14] [0, n1] (List.replicate 15 [0, 1]) (List.replicate 15 [0, 1]) (by kernel_rfl) (by kernel_rfl) (by kernel_rfl) (by kernel_rfl) ?_
    simp -dsimp [nes8 n1, k0, k1, k2, f0, f1, f2, z1, z2, z3, nes, g1, y0, y1, y2, yn, Ne.symm y0, Ne.symm y1, Ne.symm y2, him, g2, x0, x1, x2, xi, Ne.symm x0, Ne.symm x1, Ne.symm x2, Ne.symm xi, hrm, hc, b1]
    refine call_ hpo (by simp -dsimp [nes8 n1, k0, k1, k2, f0, f1, f2, z1, z2, z3, nes, g1, y0, y1, y2, yn, Ne.symm y0, Ne.symm y1, Ne.symm y2, him, g2, x0, x1, x2, xi, Ne.symm x0, Ne.symm x1, Ne.symm x2, Ne.symm xi, hrm, hc, b1]) ?_
    rcases hkX with rfl | rfl
    · simp -dsimp [nes8 n1, k0, k1, k2, f0, f1, f2, z1, z2, z3, nes, g1, y0, y1, y2, yn, Ne.symm y0, Ne.symm y1, Ne.symm y2, him, g2, x0, x1, x2, xi, Ne.symm x0, Ne.symm x1, Ne.symm x2, Ne.symm xi, hrm, hc, b1]
      refine callL_ (vs := [d.v]) (hcopy _ _) (by simp -dsimp [hc, b1]) ?_
      rintro t m2 n2 ⟨hn2, hout2, id2, st2, rfl, hj0, hj1, hjm, hst2, hne2⟩
      have q2 := hout2 2 (by omega)
      simp -dsimp [nes8 n1, k0, k1, k2, f0, f1, f2, z1, z2, z3, nes, g1, y0, y1, y2, yn, Ne.symm y0, Ne.symm y1, Ne.symm y2, him, g2, x0, x1, x2, xi, Ne.symm x0, Ne.symm x1, Ne.symm x2, Ne.symm xi, hrm] at q2
      have hc2 := hst2.cell
      have u2 : ¬ id2 = 2 := by omega
      rcases hst2 with ⟨rfl, hs2⟩ | ⟨r2, rfl, hr0, hr1, hrm2⟩
      · simp -dsimp [q2, hjm, u2, Ne.symm u2, hs2]
      · have u4 : ¬ r2 = 2 := by omega
        simp -dsimp [q2, hjm, hrm2, u2, u4, Ne.symm u2, Ne.symm u4]
    simp -dsimp [nes8 n1, k0, k1, k2, f0, f1, f2, z1, z2, z3, nes, g1, y0, y1, y2, yn, Ne.symm y0, Ne.symm y1, Ne.symm y2, him, g2, x0, x1, x2, xi, Ne.symm x0, Ne.symm x1, Ne.symm x2, Ne.symm xi, hrm, hc, b1]
    refine call_ hpt (by simp -dsimp [nes8 n1, k0, k1, k2, f0, f1, f2, z1, z2, z3, nes, g1, y0, y1, y2, yn, Ne.symm y0, Ne.symm y1, Ne.symm y2, him, g2, x0, x1, x2, xi, Ne.symm x0, Ne.symm x1, Ne.symm x2, Ne.symm xi, hrm, hc, b1]) ?_
    simp -dsimp [nes8 n1, k0, k1, k2, f0, f1, f2, z1, z2, z3, nes, g1, y0, y1, y2, yn, Ne.symm y0, Ne.symm y1, Ne.symm y2, him, g2, x0, x1, x2, xi, Ne.symm x0, Ne.symm x1, Ne.symm x2, Ne.symm xi, hrm, hc, b1]
    refine call_ hpn (by simp -dsimp) ?_
    rcases htx with rfl | htx
    · simp -dsimp [nes8 n1, k0, k1, k2, f0, f1, f2, z1, z2, z3, nes, g1, y0, y1, y2, yn, Ne.symm y0, Ne.symm y1, Ne.symm y2, him, g2, x0, x1, x2, xi, Ne.symm x0, Ne.symm x1, Ne.symm x2, Ne.symm xi, hrm, hc, b1]
      refine callL_ (vs := [d.v]) (hcopy _ _) (by simp -dsimp [hc, b1]) ?_
      rintro t m2 n2 ⟨hn2, hout2, id2, st2, rfl, hj0, hj1, hjm, hst2, hne2⟩
      have q2 := hout2 2 (by omega)
      simp -dsimp [nes8 n1, k0, k1, k2, f0, f1, f2, z1, z2, z3, nes, g1, y0, y1, y2, yn, Ne.symm y0, Ne.symm y1, Ne.symm y2, him, g2, x0, x1, x2, xi, Ne.symm x0, Ne.symm x1, Ne.symm x2, Ne.symm xi, hrm] at q2
      have hc2 := hst2.cell
      have u2 : ¬ id2 = 2 := by omega
      rcases hst2 with ⟨rfl, hs2⟩ | ⟨r2, rfl, hr0, hr1, hrm2⟩
      · simp -dsimp [q2, hjm, u2, Ne.symm u2, hs2]
      · have u4 : ¬ r2 = 2 := by omega
        simp -dsimp [q2, hjm, hrm2, u2, u4, Ne.symm u2, Ne.symm u4]
    have hRs := hR rfl
    simp -dsimp [nes8 n1, k0, k1, k2, f0, f1, f2, z1, z2, z3, nes, g1, y0, y1, y2, yn, Ne.symm y0, Ne.symm y1, Ne.symm y2, him, g2, x0, x1, x2, xi, Ne.symm x0, Ne.symm x1, Ne.symm x2, Ne.symm xi, hrm, hc, b1, htx]
    refine twp_draw (List.range 9) [0, n1] (List.replicate 9 [0, 1]) (List.replicate 8 [0, 1] ++ [[0]]) (by kernel_rfl) (by kernel_rfl) (by kernel_rfl) (by kernel_rfl) ?_
    simp -dsimp [List.range_succ, nes8 n1, k0, k1, k2, f0, f1, f2, z1, z2, z3, nes, g1, y0, y1, y2, yn, Ne.symm y0, Ne.symm y1, Ne.symm y2, him, g2, x0, x1, x2, xi, Ne.symm x0, Ne.symm x1, Ne.symm x2, Ne.symm xi, hrm, hc, b1, htx]
    refine call_ hcn (by simp -dsimp) ?_
    by_cases h8 : d.past.length = 8
    · have e8 : (d.past.length : Int) = 8 := by omega
      have ek : keep8 (d.past ++ [d.now]) = (d.past ++ [d.now]).tail := by unfold keep8; rw [if_pos (by simp [h8])]; simp
      have hR2 := hRs (d.past ++ [d.now]).tail ek
      have tk : List.take 9 (List.map Place.v d.past ++ [d.now.v]) = List.map Place.v d.past ++ [d.now.v] := List.take_of_length_le (by simp [h8])
      have zk : allZ 2 (List.map Place.v d.past ++ [d.now.v]).tail := fun x hx => zplaces x (List.mem_of_mem_tail hx)
      simp only [Place.v, storyV] at tk zk
      simp -dsimp [List.range_succ, nes8 n1, k0, k1, k2, f0, f1, f2, z1, z2, z3, nes, g1, y0, y1, y2, yn, Ne.symm y0, Ne.symm y1, Ne.symm y2, him, g2, x0, x1, x2, xi, Ne.symm x0, Ne.symm x1, Ne.symm x2, Ne.symm xi, hrm, hc, b1, htx, fullb, h8, e8, tk, zk]
      refine callL_ (vs := [(⟨⟨d.now.people, d.now.story ++ [c]⟩, (d.past ++ [d.now]).tail⟩ : Desk).v]) (hR2 _ _) (by simp -dsimp [nes8 n1, k0, k1, k2, f0, f1, f2, z1, z2, z3, nes, g1, y0, y1, y2, yn, Ne.symm y0, Ne.symm y1, Ne.symm y2, him, g2, x0, x1, x2, xi, Ne.symm x0, Ne.symm x1, Ne.symm x2, Ne.symm xi, hrm, hc, b1, List.map_tail, List.map_append]) ?_
      rintro t m2 n2 ⟨hn2, hout2, id2, st2, rfl, hj0, hj1, hjm, hst2, hne2⟩
      have q2 := hout2 2 (by omega)
      simp -dsimp [nes8 n1, k0, k1, k2, f0, f1, f2, z1, z2, z3, nes, g1, y0, y1, y2, yn, Ne.symm y0, Ne.symm y1, Ne.symm y2, him, g2, x0, x1, x2, xi, Ne.symm x0, Ne.symm x1, Ne.symm x2, Ne.symm xi, hrm] at q2
      have hc2 := hst2.cell
      have u2 : ¬ id2 = 2 := by omega
      rcases hst2 with ⟨rfl, hs2⟩ | ⟨r2, rfl, hr0, hr1, hrm2⟩
      · simp -dsimp [q2, hjm, u2, Ne.symm u2, hs2, htx, ek]
      · have u4 : ¬ r2 = 2 := by omega
        simp -dsimp [q2, hjm, hrm2, u2, u4, Ne.symm u2, Ne.symm u4, htx, ek]
    · have e8 : d.past.length < 8 := by omega
      have e8' : ¬ (8 : Int) < (d.past.length : Int) + 1 := by omega
      have e8'' : ¬ 8 < d.past.length + 1 := by omega
      have ek : keep8 (d.past ++ [d.now]) = d.past ++ [d.now] := by unfold keep8; rw [if_neg (by simp; omega)]
      have hR2 := hRs (d.past ++ [d.now]) ek
      simp -dsimp [List.range_succ, nes8 n1, k0, k1, k2, f0, f1, f2, z1, z2, z3, nes, g1, y0, y1, y2, yn, Ne.symm y0, Ne.symm y1, Ne.symm y2, him, g2, x0, x1, x2, xi, Ne.symm x0, Ne.symm x1, Ne.symm x2, Ne.symm xi, hrm, hc, b1, htx, fullb, h8, e8, e8', e8'']
      refine callL_ (vs := [(⟨⟨d.now.people, d.now.story ++ [c]⟩, d.past ++ [d.now]⟩ : Desk).v]) (hR2 _ _) (by simp -dsimp [nes8 n1, k0, k1, k2, f0, f1, f2, z1, z2, z3, nes, g1, y0, y1, y2, yn, Ne.symm y0, Ne.symm y1, Ne.symm y2, him, g2, x0, x1, x2, xi, Ne.symm x0, Ne.symm x1, Ne.symm x2, Ne.symm xi, hrm, hc, b1]) ?_
      rintro t m2 n2 ⟨hn2, hout2, id2, st2, rfl, hj0, hj1, hjm, hst2, hne2⟩
      have q2 := hout2 2 (by omega)
      simp -dsimp [nes8 n1, k0, k1, k2, f0, f1, f2, z1, z2, z3, nes, g1, y0, y1, y2, yn, Ne.symm y0, Ne.symm y1, Ne.symm y2, him, g2, x0, x1, x2, xi, Ne.symm x0, Ne.symm x1, Ne.symm x2, Ne.symm xi, hrm] at q2
      have hc2 := hst2.cell
      have u2 : ¬ id2 = 2 := by omega
      rcases hst2 with ⟨rfl, hs2⟩ | ⟨r2, rfl, hr0, hr1, hrm2⟩
      · simp -dsimp [q2, hjm, u2, Ne.symm u2, hs2, htx, ek]
      · have u4 : ¬ r2 = 2 := by omega
        simp -dsimp [q2, hjm, hrm2, u2, u4, Ne.symm u2, Ne.symm u4, htx, ek]
end TL

/- Deeds at a desk: the program. -/
set_option linter.unusedSimpArgs false
set_option linter.unusedVariables false
set_option maxRecDepth 100000
set_option maxHeartbeats 4000000
set_option pp.maxSteps 1500
namespace TL
open Go Go.Proofs
attribute [local simp] marksV storyV codeV Claim.v Place.v Deed.v Desk.v
theorem do_bad1 (d : Desk) (kind num : Int) (words : List UInt8) (hd : d.small) (hk : deskOk d = true) (h0 : ¬ kind = 0) (hw : ¬ words = []) : FnZ Tryz.prog 29 [d.v, (⟨kind, num, words⟩ : Deed).v] (.tup [d.v, .bool false]) := by
  have hok := deskOk_fn d (by have := hd.2.1; omega) (by have := hd.1.1; omega) (fun p hp => by have := (hd.2.2 p hp).1; omega)
  rw [hk] at hok
  have hcopy := fun m n => copyDesk_own d hd m n
  refine FnZ_of (rs := [.cell 4 33, .tmp 5]) false Tryz.func29 rfl rfl rfl rfl (Nat.le_of_ble_eq_true rfl) ?_
  simp -dsimp
  refine call_ hok (by simp -dsimp) ?_
  simp -dsimp
  refine callL_ (vs := [d.v]) (hcopy _ _) (by simp -dsimp) ?_
  rintro t m1 n1 ⟨hn1, hout, id, st, rfl, hi0, hi1, him, hst, hne⟩
  have k0 := hout 0 (by omega)
  have k1 := hout 1 (by omega)
  have k2 := hout 2 (by omega)
  simp -dsimp at k0 k1 k2
  have f0 := far (show 0 < n1 by omega)
  have f1 := far (show 1 < n1 by omega)
  have f2 := far (show 2 < n1 by omega)
  have z1 : ¬ n1 = 0 := by omega
  have z2 : ¬ n1 = 1 := by omega
  have z3 : ¬ n1 = 2 := by omega
  have g1 := far hi1
  have y0 : ¬ id = 0 := by omega
  have y1 : ¬ id = 1 := by omega
  have y2 : ¬ id = 2 := by omega
  have yn : ¬ id = n1 := by omega
  have hc := hst.cell
  rcases hst with ⟨rfl, hs0⟩ | ⟨r, rfl, hr0, hr1, hrm⟩
  · have hp0 : d.past = [] := by simpa using hs0
    simp -dsimp [nes8 n1, k0, k1, k2, f0, f1, f2, z1, z2, z3, nes, g1, y0, y1, y2, yn, Ne.symm y0, Ne.symm y1, Ne.symm y2, him, h0, hw, hp0]
  · have g2 := far hr1
    have x0 : ¬ r = 0 := by omega
    have x1 : ¬ r = 1 := by omega
    have x2 : ¬ r = 2 := by omega
    have xi : ¬ r = id := fun h => hne (by rw [h])
    simp -dsimp [nes8 n1, k0, k1, k2, f0, f1, f2, z1, z2, z3, nes, g1, y0, y1, y2, yn, Ne.symm y0, Ne.symm y1, Ne.symm y2, him, g2, x0, x1, x2, xi, Ne.symm x0, Ne.symm x1, Ne.symm x2, Ne.symm xi, hrm, h0, hw]
theorem do_bad2 (d : Desk) (num : Int) (words : List UInt8) (hd : d.small) (hk : deskOk d = true) (h0 : ¬ num = 0) : FnZ Tryz.prog 29 [d.v, (⟨0, num, words⟩ : Deed).v] (.tup [d.v, .bool false]) := by
  have hok := deskOk_fn d (by have := hd.2.1; omega) (by have := hd.1.1; omega) (fun p hp => by have := (hd.2.2 p hp).1; omega)
  rw [hk] at hok
  have hcopy := fun m n => copyDesk_own d hd m n
  refine FnZ_of (rs := [.cell 4 33, .tmp 5]) false Tryz.func29 rfl rfl rfl rfl (Nat.le_of_ble_eq_true rfl) ?_
  simp -dsimp
  refine call_ hok (by simp -dsimp) ?_
  simp -dsimp
  refine callL_ (vs := [d.v]) (hcopy _ _) (by simp -dsimp) ?_
  rintro t m1 n1 ⟨hn1, hout, id, st, rfl, hi0, hi1, him, hst, hne⟩
  have k0 := hout 0 (by omega)
  have k1 := hout 1 (by omega)
  have k2 := hout 2 (by omega)
  simp -dsimp at k0 k1 k2
  have f0 := far (show 0 < n1 by omega)
  have f1 := far (show 1 < n1 by omega)
  have f2 := far (show 2 < n1 by omega)
  have z1 : ¬ n1 = 0 := by omega
  have z2 : ¬ n1 = 1 := by omega
  have z3 : ¬ n1 = 2 := by omega
  have g1 := far hi1
  have y0 : ¬ id = 0 := by omega
  have y1 : ¬ id = 1 := by omega
  have y2 : ¬ id = 2 := by omega
  have yn : ¬ id = n1 := by omega
  have hc := hst.cell
  rcases hst with ⟨rfl, hs0⟩ | ⟨r, rfl, hr0, hr1, hrm⟩
  · have hp0 : d.past = [] := by simpa using hs0
    simp -dsimp [nes8 n1, k0, k1, k2, f0, f1, f2, z1, z2, z3, nes, g1, y0, y1, y2, yn, Ne.symm y0, Ne.symm y1, Ne.symm y2, him, h0, hp0]
  · have g2 := far hr1
    have x0 : ¬ r = 0 := by omega
    have x1 : ¬ r = 1 := by omega
    have x2 : ¬ r = 2 := by omega
    have xi : ¬ r = id := fun h => hne (by rw [h])
    simp -dsimp [nes8 n1, k0, k1, k2, f0, f1, f2, z1, z2, z3, nes, g1, y0, y1, y2, yn, Ne.symm y0, Ne.symm y1, Ne.symm y2, him, g2, x0, x1, x2, xi, Ne.symm x0, Ne.symm x1, Ne.symm x2, Ne.symm xi, hrm, h0]
theorem do_bad3 (d : Desk) (kind num : Int) (hd : d.small) (hk : deskOk d = true) (h0 : ¬ kind = 0) (h1 : ¬ kind = 1) (h2 : ¬ kind = 2) (h3 : ¬ num = 0) : FnZ Tryz.prog 29 [d.v, (⟨kind, num, []⟩ : Deed).v] (.tup [d.v, .bool false]) := by
  have hok := deskOk_fn d (by have := hd.2.1; omega) (by have := hd.1.1; omega) (fun p hp => by have := (hd.2.2 p hp).1; omega)
  rw [hk] at hok
  have hcopy := fun m n => copyDesk_own d hd m n
  refine FnZ_of (rs := [.cell 4 33, .tmp 5]) false Tryz.func29 rfl rfl rfl rfl (Nat.le_of_ble_eq_true rfl) ?_
  simp -dsimp
  refine call_ hok (by simp -dsimp) ?_
  simp -dsimp
  refine callL_ (vs := [d.v]) (hcopy _ _) (by simp -dsimp) ?_
  rintro t m1 n1 ⟨hn1, hout, id, st, rfl, hi0, hi1, him, hst, hne⟩
  have k0 := hout 0 (by omega)
  have k1 := hout 1 (by omega)
  have k2 := hout 2 (by omega)
  simp -dsimp at k0 k1 k2
  have f0 := far (show 0 < n1 by omega)
  have f1 := far (show 1 < n1 by omega)
  have f2 := far (show 2 < n1 by omega)
  have z1 : ¬ n1 = 0 := by omega
  have z2 : ¬ n1 = 1 := by omega
  have z3 : ¬ n1 = 2 := by omega
  have g1 := far hi1
  have y0 : ¬ id = 0 := by omega
  have y1 : ¬ id = 1 := by omega
  have y2 : ¬ id = 2 := by omega
  have yn : ¬ id = n1 := by omega
  have hc := hst.cell
  rcases hst with ⟨rfl, hs0⟩ | ⟨r, rfl, hr0, hr1, hrm⟩
  · have hp0 : d.past = [] := by simpa using hs0
    simp -dsimp [nes8 n1, k0, k1, k2, f0, f1, f2, z1, z2, z3, nes, g1, y0, y1, y2, yn, Ne.symm y0, Ne.symm y1, Ne.symm y2, him, h0, h1, h2, h3, hp0]
  · have g2 := far hr1
    have x0 : ¬ r = 0 := by omega
    have x1 : ¬ r = 1 := by omega
    have x2 : ¬ r = 2 := by omega
    have xi : ¬ r = id := fun h => hne (by rw [h])
    simp -dsimp [nes8 n1, k0, k1, k2, f0, f1, f2, z1, z2, z3, nes, g1, y0, y1, y2, yn, Ne.symm y0, Ne.symm y1, Ne.symm y2, him, g2, x0, x1, x2, xi, Ne.symm x0, Ne.symm x1, Ne.symm x2, Ne.symm xi, hrm, h0, h1, h2, h3]
theorem do_other (d : Desk) (kind : Int) (hd : d.small) (hk : deskOk d = true) (h0 : ¬ kind = 0) (h1 : ¬ kind = 1) (h2 : ¬ kind = 2) (h3 : ¬ kind = 3) (h4 : ¬ kind = 4) : FnZ Tryz.prog 29 [d.v, (⟨kind, 0, []⟩ : Deed).v] (.tup [d.v, .bool false]) := by
  have hok := deskOk_fn d (by have := hd.2.1; omega) (by have := hd.1.1; omega) (fun p hp => by have := (hd.2.2 p hp).1; omega)
  rw [hk] at hok
  have hcopy := fun m n => copyDesk_own d hd m n
  refine FnZ_of (rs := [.cell 4 33, .tmp 5]) false Tryz.func29 rfl rfl rfl rfl (Nat.le_of_ble_eq_true rfl) ?_
  simp -dsimp
  refine call_ hok (by simp -dsimp) ?_
  simp -dsimp
  refine callL_ (vs := [d.v]) (hcopy _ _) (by simp -dsimp) ?_
  rintro t m1 n1 ⟨hn1, hout, id, st, rfl, hi0, hi1, him, hst, hne⟩
  have k0 := hout 0 (by omega)
  have k1 := hout 1 (by omega)
  have k2 := hout 2 (by omega)
  simp -dsimp at k0 k1 k2
  have f0 := far (show 0 < n1 by omega)
  have f1 := far (show 1 < n1 by omega)
  have f2 := far (show 2 < n1 by omega)
  have z1 : ¬ n1 = 0 := by omega
  have z2 : ¬ n1 = 1 := by omega
  have z3 : ¬ n1 = 2 := by omega
  have g1 := far hi1
  have y0 : ¬ id = 0 := by omega
  have y1 : ¬ id = 1 := by omega
  have y2 : ¬ id = 2 := by omega
  have yn : ¬ id = n1 := by omega
  have hc := hst.cell
  rcases hst with ⟨rfl, hs0⟩ | ⟨r, rfl, hr0, hr1, hrm⟩
  · have hp0 : d.past = [] := by simpa using hs0
    simp -dsimp [nes8 n1, k0, k1, k2, f0, f1, f2, z1, z2, z3, nes, g1, y0, y1, y2, yn, Ne.symm y0, Ne.symm y1, Ne.symm y2, him, h0, h1, h2, h3, h4, hp0]
  · have g2 := far hr1
    have x0 : ¬ r = 0 := by omega
    have x1 : ¬ r = 1 := by omega
    have x2 : ¬ r = 2 := by omega
    have xi : ¬ r = id := fun h => hne (by rw [h])
    simp -dsimp [nes8 n1, k0, k1, k2, f0, f1, f2, z1, z2, z3, nes, g1, y0, y1, y2, yn, Ne.symm y0, Ne.symm y1, Ne.symm y2, him, g2, x0, x1, x2, xi, Ne.symm x0, Ne.symm x1, Ne.symm x2, Ne.symm xi, hrm, h0, h1, h2, h3, h4]
theorem do_nosay (d : Desk) (words : List UInt8) (hd : d.small) (hk : deskOk d = true) (hr : readC d.now.people words = none) (hwl : words.length ≤ 1000000000) : FnZ Tryz.prog 29 [d.v, (⟨0, 0, words⟩ : Deed).v] (.tup [d.v, .bool false]) := by
  have hok := deskOk_fn d (by have := hd.2.1; omega) (by have := hd.1.1; omega) (fun p hp => by have := (hd.2.2 p hp).1; omega)
  rw [hk] at hok
  have hcopy := fun m n => copyDesk_own d hd m n
  have hrc := readClaim_fn d.now.people words (by omega)
  rw [hr] at hrc
  refine FnZ_of (rs := [.cell 4 33, .tmp 5]) false Tryz.func29 rfl rfl rfl rfl (Nat.le_of_ble_eq_true rfl) ?_
  simp -dsimp
  refine call_ hok (by simp -dsimp) ?_
  simp -dsimp
  refine callL_ (vs := [d.v]) (hcopy _ _) (by simp -dsimp) ?_
  rintro t m1 n1 ⟨hn1, hout, id, st, rfl, hi0, hi1, him, hst, hne⟩
  have k0 := hout 0 (by omega)
  have k1 := hout 1 (by omega)
  have k2 := hout 2 (by omega)
  simp -dsimp at k0 k1 k2
  have f0 := far (show 0 < n1 by omega)
  have f1 := far (show 1 < n1 by omega)
  have f2 := far (show 2 < n1 by omega)
  have z1 : ¬ n1 = 0 := by omega
  have z2 : ¬ n1 = 1 := by omega
  have z3 : ¬ n1 = 2 := by omega
  have g1 := far hi1
  have y0 : ¬ id = 0 := by omega
  have y1 : ¬ id = 1 := by omega
  have y2 : ¬ id = 2 := by omega
  have yn : ¬ id = n1 := by omega
  have hc := hst.cell
  rcases hst with ⟨rfl, hs0⟩ | ⟨r, rfl, hr0, hr1, hrm⟩
  · have hp0 : d.past = [] := by simpa using hs0
    simp -dsimp [nes8 n1, k0, k1, k2, f0, f1, f2, z1, z2, z3, nes, g1, y0, y1, y2, yn, Ne.symm y0, Ne.symm y1, Ne.symm y2, him, hp0, hc]
    refine twp_draw [0, 1, 2, 3, 4, 5, 1006, 7, 8, 9, 10, 11, 12] [1, n1] (List.replicate 13 [0, 1]) (List.replicate 13 [0, 1]) (by kernel_rfl) (by kernel_rfl) (by kernel_rfl) (by kernel_rfl) ?_
    simp -dsimp [List.range_succ, nes8 n1, k0, k1, k2, f0, f1, f2, z1, z2, z3, nes, g1, y0, y1, y2, yn, Ne.symm y0, Ne.symm y1, Ne.symm y2, him, hp0, hc]
    refine pure_ hrc (by simp -dsimp [nes8 n1, k0, k1, k2, f0, f1, f2, z1, z2, z3, nes, g1, y0, y1, y2, yn, Ne.symm y0, Ne.symm y1, Ne.symm y2, him, hp0, hc]) ?_
    simp -dsimp [List.range_succ, nes8 n1, k0, k1, k2, f0, f1, f2, z1, z2, z3, nes, g1, y0, y1, y2, yn, Ne.symm y0, Ne.symm y1, Ne.symm y2, him, hp0, hc, optC]

  · have g2 := far hr1
    have x0 : ¬ r = 0 := by omega
    have x1 : ¬ r = 1 := by omega
    have x2 : ¬ r = 2 := by omega
    have xi : ¬ r = id := fun h => hne (by rw [h])
    simp -dsimp [nes8 n1, k0, k1, k2, f0, f1, f2, z1, z2, z3, nes, g1, y0, y1, y2, yn, Ne.symm y0, Ne.symm y1, Ne.symm y2, him, g2, x0, x1, x2, xi, Ne.symm x0, Ne.symm x1, Ne.symm x2, Ne.symm xi, hrm, hc]
    refine twp_draw [0, 1, 2, 3, 4, 5, 1006, 7, 8, 9, 10, 11, 12] [1, n1] (List.replicate 13 [0, 1]) (List.replicate 13 [0, 1]) (by kernel_rfl) (by kernel_rfl) (by kernel_rfl) (by kernel_rfl) ?_
    simp -dsimp [List.range_succ, nes8 n1, k0, k1, k2, f0, f1, f2, z1, z2, z3, nes, g1, y0, y1, y2, yn, Ne.symm y0, Ne.symm y1, Ne.symm y2, him, g2, x0, x1, x2, xi, Ne.symm x0, Ne.symm x1, Ne.symm x2, Ne.symm xi, hrm, hc]
    refine pure_ hrc (by simp -dsimp [nes8 n1, k0, k1, k2, f0, f1, f2, z1, z2, z3, nes, g1, y0, y1, y2, yn, Ne.symm y0, Ne.symm y1, Ne.symm y2, him, g2, x0, x1, x2, xi, Ne.symm x0, Ne.symm x1, Ne.symm x2, Ne.symm xi, hrm, hc]) ?_
    simp -dsimp [List.range_succ, nes8 n1, k0, k1, k2, f0, f1, f2, z1, z2, z3, nes, g1, y0, y1, y2, yn, Ne.symm y0, Ne.symm y1, Ne.symm y2, him, g2, x0, x1, x2, xi, Ne.symm x0, Ne.symm x1, Ne.symm x2, Ne.symm xi, hrm, hc, optC]

theorem do_nodrop1 (d : Desk) (num : Int) (hd : d.small) (hk : deskOk d = true) (h0 : num < 0) : FnZ Tryz.prog 29 [d.v, (⟨1, num, []⟩ : Deed).v] (.tup [d.v, .bool false]) := by
  have hok := deskOk_fn d (by have := hd.2.1; omega) (by have := hd.1.1; omega) (fun p hp => by have := (hd.2.2 p hp).1; omega)
  rw [hk] at hok
  have hcopy := fun m n => copyDesk_own d hd m n
  refine FnZ_of (rs := [.cell 4 33, .tmp 5]) false Tryz.func29 rfl rfl rfl rfl (Nat.le_of_ble_eq_true rfl) ?_
  simp -dsimp
  refine call_ hok (by simp -dsimp) ?_
  simp -dsimp
  refine callL_ (vs := [d.v]) (hcopy _ _) (by simp -dsimp) ?_
  rintro t m1 n1 ⟨hn1, hout, id, st, rfl, hi0, hi1, him, hst, hne⟩
  have k0 := hout 0 (by omega)
  have k1 := hout 1 (by omega)
  have k2 := hout 2 (by omega)
  simp -dsimp at k0 k1 k2
  have f0 := far (show 0 < n1 by omega)
  have f1 := far (show 1 < n1 by omega)
  have f2 := far (show 2 < n1 by omega)
  have z1 : ¬ n1 = 0 := by omega
  have z2 : ¬ n1 = 1 := by omega
  have z3 : ¬ n1 = 2 := by omega
  have g1 := far hi1
  have y0 : ¬ id = 0 := by omega
  have y1 : ¬ id = 1 := by omega
  have y2 : ¬ id = 2 := by omega
  have yn : ¬ id = n1 := by omega
  have hc := hst.cell
  rcases hst with ⟨rfl, hs0⟩ | ⟨r, rfl, hr0, hr1, hrm⟩
  · have hp0 : d.past = [] := by simpa using hs0
    simp -dsimp [nes8 n1, k0, k1, k2, f0, f1, f2, z1, z2, z3, nes, g1, y0, y1, y2, yn, Ne.symm y0, Ne.symm y1, Ne.symm y2, him, hp0, hc, h0]
    refine twp_draw (List.range 13) [1, n1, id] (List.replicate 13 [0, 1, 2]) (List.replicate 13 [0, 1, 2]) (by kernel_rfl) (by kernel_rfl) (by kernel_rfl) (by kernel_rfl) ?_
    simp -dsimp [List.range_succ, nes8 n1, k0, k1, k2, f0, f1, f2, z1, z2, z3, nes, g1, y0, y1, y2, yn, Ne.symm y0, Ne.symm y1, Ne.symm y2, him, hp0, hc, h0]
  · have g2 := far hr1
    have x0 : ¬ r = 0 := by omega
    have x1 : ¬ r = 1 := by omega
    have x2 : ¬ r = 2 := by omega
    have xi : ¬ r = id := fun h => hne (by rw [h])
    simp -dsimp [nes8 n1, k0, k1, k2, f0, f1, f2, z1, z2, z3, nes, g1, y0, y1, y2, yn, Ne.symm y0, Ne.symm y1, Ne.symm y2, him, g2, x0, x1, x2, xi, Ne.symm x0, Ne.symm x1, Ne.symm x2, Ne.symm xi, hrm, hc, h0]
    refine twp_draw (List.range 13) [1, n1, id] (List.replicate 13 [0, 1, 2]) (List.replicate 13 [0, 1, 2]) (by kernel_rfl) (by kernel_rfl) (by kernel_rfl) (by kernel_rfl) ?_
    simp -dsimp [List.range_succ, nes8 n1, k0, k1, k2, f0, f1, f2, z1, z2, z3, nes, g1, y0, y1, y2, yn, Ne.symm y0, Ne.symm y1, Ne.symm y2, him, g2, x0, x1, x2, xi, Ne.symm x0, Ne.symm x1, Ne.symm x2, Ne.symm xi, hrm, hc, h0]
theorem do_nodrop2 (d : Desk) (num : Int) (hd : d.small) (hk : deskOk d = true) (h0 : ¬ num < 0) (h1 : (d.now.story.length : Int) ≤ num) : FnZ Tryz.prog 29 [d.v, (⟨1, num, []⟩ : Deed).v] (.tup [d.v, .bool false]) := by
  have hok := deskOk_fn d (by have := hd.2.1; omega) (by have := hd.1.1; omega) (fun p hp => by have := (hd.2.2 p hp).1; omega)
  rw [hk] at hok
  have hcopy := fun m n => copyDesk_own d hd m n
  refine FnZ_of (rs := [.cell 4 33, .tmp 5]) false Tryz.func29 rfl rfl rfl rfl (Nat.le_of_ble_eq_true rfl) ?_
  simp -dsimp
  refine call_ hok (by simp -dsimp) ?_
  simp -dsimp
  refine callL_ (vs := [d.v]) (hcopy _ _) (by simp -dsimp) ?_
  rintro t m1 n1 ⟨hn1, hout, id, st, rfl, hi0, hi1, him, hst, hne⟩
  have k0 := hout 0 (by omega)
  have k1 := hout 1 (by omega)
  have k2 := hout 2 (by omega)
  simp -dsimp at k0 k1 k2
  have f0 := far (show 0 < n1 by omega)
  have f1 := far (show 1 < n1 by omega)
  have f2 := far (show 2 < n1 by omega)
  have z1 : ¬ n1 = 0 := by omega
  have z2 : ¬ n1 = 1 := by omega
  have z3 : ¬ n1 = 2 := by omega
  have g1 := far hi1
  have y0 : ¬ id = 0 := by omega
  have y1 : ¬ id = 1 := by omega
  have y2 : ¬ id = 2 := by omega
  have yn : ¬ id = n1 := by omega
  have hc := hst.cell
  rcases hst with ⟨rfl, hs0⟩ | ⟨r, rfl, hr0, hr1, hrm⟩
  · have hp0 : d.past = [] := by simpa using hs0
    simp -dsimp [nes8 n1, k0, k1, k2, f0, f1, f2, z1, z2, z3, nes, g1, y0, y1, y2, yn, Ne.symm y0, Ne.symm y1, Ne.symm y2, him, hp0, hc, h0, h1]
    refine twp_draw (List.range 13) [1, n1, id] (List.replicate 13 [0, 1, 2]) (List.replicate 13 [0, 1, 2]) (by kernel_rfl) (by kernel_rfl) (by kernel_rfl) (by kernel_rfl) ?_
    simp -dsimp [List.range_succ, nes8 n1, k0, k1, k2, f0, f1, f2, z1, z2, z3, nes, g1, y0, y1, y2, yn, Ne.symm y0, Ne.symm y1, Ne.symm y2, him, hp0, hc, h0, h1]
  · have g2 := far hr1
    have x0 : ¬ r = 0 := by omega
    have x1 : ¬ r = 1 := by omega
    have x2 : ¬ r = 2 := by omega
    have xi : ¬ r = id := fun h => hne (by rw [h])
    simp -dsimp [nes8 n1, k0, k1, k2, f0, f1, f2, z1, z2, z3, nes, g1, y0, y1, y2, yn, Ne.symm y0, Ne.symm y1, Ne.symm y2, him, g2, x0, x1, x2, xi, Ne.symm x0, Ne.symm x1, Ne.symm x2, Ne.symm xi, hrm, hc, h0, h1]
    refine twp_draw (List.range 13) [1, n1, id] (List.replicate 13 [0, 1, 2]) (List.replicate 13 [0, 1, 2]) (by kernel_rfl) (by kernel_rfl) (by kernel_rfl) (by kernel_rfl) ?_
    simp -dsimp [List.range_succ, nes8 n1, k0, k1, k2, f0, f1, f2, z1, z2, z3, nes, g1, y0, y1, y2, yn, Ne.symm y0, Ne.symm y1, Ne.symm y2, him, g2, x0, x1, x2, xi, Ne.symm x0, Ne.symm x1, Ne.symm x2, Ne.symm xi, hrm, hc, h0, h1]
theorem do_noback (d : Desk)  (hd : d.small) (hk : deskOk d = true) (he : d.past = []) : FnZ Tryz.prog 29 [d.v, (⟨4, 0, []⟩ : Deed).v] (.tup [d.v, .bool false]) := by
  have hok := deskOk_fn d (by have := hd.2.1; omega) (by have := hd.1.1; omega) (fun p hp => by have := (hd.2.2 p hp).1; omega)
  rw [hk] at hok
  have hcopy := fun m n => copyDesk_own d hd m n
  refine FnZ_of (rs := [.cell 4 33, .tmp 5]) false Tryz.func29 rfl rfl rfl rfl (Nat.le_of_ble_eq_true rfl) ?_
  simp -dsimp
  refine call_ hok (by simp -dsimp) ?_
  simp -dsimp
  refine callL_ (vs := [d.v]) (hcopy _ _) (by simp -dsimp) ?_
  rintro t m1 n1 ⟨hn1, hout, id, st, rfl, hi0, hi1, him, hst, hne⟩
  have k0 := hout 0 (by omega)
  have k1 := hout 1 (by omega)
  have k2 := hout 2 (by omega)
  simp -dsimp at k0 k1 k2
  have f0 := far (show 0 < n1 by omega)
  have f1 := far (show 1 < n1 by omega)
  have f2 := far (show 2 < n1 by omega)
  have z1 : ¬ n1 = 0 := by omega
  have z2 : ¬ n1 = 1 := by omega
  have z3 : ¬ n1 = 2 := by omega
  have g1 := far hi1
  have y0 : ¬ id = 0 := by omega
  have y1 : ¬ id = 1 := by omega
  have y2 : ¬ id = 2 := by omega
  have yn : ¬ id = n1 := by omega
  have hc := hst.cell
  rcases hst with ⟨rfl, hs0⟩ | ⟨r, rfl, hr0, hr1, hrm⟩
  · have hp0 : d.past = [] := by simpa using hs0
    have w0 : IntKind.wrap .i64 (-1) = -1 := rfl
    simp -dsimp [nes8 n1, k0, k1, k2, f0, f1, f2, z1, z2, z3, nes, g1, y0, y1, y2, yn, Ne.symm y0, Ne.symm y1, Ne.symm y2, him, hc, hp0, w0]
  · have g2 := far hr1
    have x0 : ¬ r = 0 := by omega
    have x1 : ¬ r = 1 := by omega
    have x2 : ¬ r = 2 := by omega
    have xi : ¬ r = id := fun h => hne (by rw [h])
    rw [he] at hrm
    have hp0 := he
    have w0 : IntKind.wrap .i64 (-1) = -1 := rfl
    simp -dsimp [nes8 n1, k0, k1, k2, f0, f1, f2, z1, z2, z3, nes, g1, y0, y1, y2, yn, Ne.symm y0, Ne.symm y1, Ne.symm y2, him, g2, x0, x1, x2, xi, Ne.symm x0, Ne.symm x1, Ne.symm x2, Ne.symm xi, hrm, hc, hp0, w0]
theorem do_back (d : Desk)  (hd : d.small) (hk : deskOk d = true) (hne0 : d.past ≠ []) : FnZ Tryz.prog 29 [d.v, (⟨4, 0, []⟩ : Deed).v] (.tup [(⟨d.past.getLast?.getD d.now, d.past.dropLast⟩ : Desk).v, .bool true]) := by
  have hok := deskOk_fn d (by have := hd.2.1; omega) (by have := hd.1.1; omega) (fun p hp => by have := (hd.2.2 p hp).1; omega)
  rw [hk] at hok
  have hcopy := fun m n => copyDesk_own d hd m n
  have hpos : 0 < d.past.length := List.length_pos_iff.2 hne0
  have hl8 := hd.2.1
  have w1 : IntKind.wrap .i64 ((d.past.length : Int) - 1) = (d.past.length : Int) - 1 := w64 (by omega) (by omega)
  refine FnZ_of (rs := [.cell 4 33, .tmp 5]) false Tryz.func29 rfl rfl rfl rfl (Nat.le_of_ble_eq_true rfl) ?_
  simp -dsimp
  refine call_ hok (by simp -dsimp) ?_
  simp -dsimp
  refine callL_ (vs := [d.v]) (hcopy _ _) (by simp -dsimp) ?_
  rintro t m1 n1 ⟨hn1, hout, id, st, rfl, hi0, hi1, him, hst, hne⟩
  have k0 := hout 0 (by omega)
  have k1 := hout 1 (by omega)
  have k2 := hout 2 (by omega)
  simp -dsimp at k0 k1 k2
  have f0 := far (show 0 < n1 by omega)
  have f1 := far (show 1 < n1 by omega)
  have f2 := far (show 2 < n1 by omega)
  have z1 : ¬ n1 = 0 := by omega
  have z2 : ¬ n1 = 1 := by omega
  have z3 : ¬ n1 = 2 := by omega
  have g1 := far hi1
  have y0 : ¬ id = 0 := by omega
  have y1 : ¬ id = 1 := by omega
  have y2 : ¬ id = 2 := by omega
  have yn : ¬ id = n1 := by omega
  have hc := hst.cell
  rcases hst with ⟨rfl, hs0⟩ | ⟨r, rfl, hr0, hr1, hrm⟩
  · have hp0 : d.past = [] := by simpa using hs0
    exact absurd hp0 hne0
  · have g2 := far hr1
    have x0 : ¬ r = 0 := by omega
    have x1 : ¬ r = 1 := by omega
    have x2 : ¬ r = 2 := by omega
    have xi : ¬ r = id := fun h => hne (by rw [h])
    obtain ⟨l1, l2, l3, l4, l5, l6⟩ := last_facts (q := d.now) hne0
    have hcl := clip_fn d.past.dropLast (by simp; omega)
    have p1 : (1 : Int) ≤ d.past.length := by omega
    have p2 : 1 ≤ d.past.length := by omega
    have p3 : ¬ (d.past.length : Int) - 1 < 0 := by omega
    have p4 : ¬ (d.past.length : Int) < 1 := by omega
    have zp : allZ 2 (List.map Place.v d.past) := fun x hx => by obtain ⟨p, _, rfl⟩ := List.mem_map.1 hx; exact ⟨by simp, by simp⟩
    generalize d.past.getLast?.getD d.now = q at *
    simp -dsimp [nes8 n1, k0, k1, k2, f0, f1, f2, z1, z2, z3, nes, g1, y0, y1, y2, yn, Ne.symm y0, Ne.symm y1, Ne.symm y2, him, g2, x0, x1, x2, xi, Ne.symm x0, Ne.symm x1, Ne.symm x2, Ne.symm xi, hrm, hc, w1, p1, p2, p3, p4, l1, l4, l5, l6]
    refine twp_draw (List.range 13) [n1, r] (List.replicate 13 [0, 1]) (List.replicate 13 [0, 1]) (by kernel_rfl) (by kernel_rfl) (by kernel_rfl) (by kernel_rfl) ?_
    simp -dsimp [List.range_succ, nes8 n1, k0, k1, k2, f0, f1, f2, z1, z2, z3, nes, g1, y0, y1, y2, yn, Ne.symm y0, Ne.symm y1, Ne.symm y2, him, g2, x0, x1, x2, xi, Ne.symm x0, Ne.symm x1, Ne.symm x2, Ne.symm xi, hrm, hc, w1, p1, p2, p3, p4, l1, l2, l3, l4, l5, l6, zp]
    refine call_ hcl (by simp -dsimp [l3]) ?_
    simp -dsimp [List.range_succ, nes8 n1, k0, k1, k2, f0, f1, f2, z1, z2, z3, nes, g1, y0, y1, y2, yn, Ne.symm y0, Ne.symm y1, Ne.symm y2, him, g2, x0, x1, x2, xi, Ne.symm x0, Ne.symm x1, Ne.symm x2, Ne.symm xi, hrm, hc, w1, p1, p2, p3, p4, l1, l2, l3, l4, l5, l6]
theorem back_no {a : Deed} (h : ¬ (a.kind = 4 ∧ a.num = 0 ∧ a.words = [])) : isBack a = false := by
  simp only [isBack, decide_eq_false_iff_not]; rintro rfl; exact h ⟨rfl, rfl, rfl⟩
theorem deskDo_fn (d : Desk) (a : Deed) (hd : d.small) (ha : a.words.length ≤ 1000000000) : FnZ Tryz.prog 29 [d.v, a.v] (.tup [(deskDo d a).1.v, .bool (deskDo d a).2]) := by
  have hk := ft (deskOk d)
  rcases hk with hk | hk
  · have hok := deskOk_fn d (by have := hd.2.1; omega) (by have := hd.1.1; omega) (fun p hp => by have := (hd.2.2 p hp).1; omega)
    rw [deskDo_no hk]
    rw [hk] at hok
    obtain ⟨a1, a2, a3⟩ := a
    refine FnZ_of (rs := [.cell 4 33, .tmp 5]) false Tryz.func29 rfl rfl rfl rfl (Nat.le_of_ble_eq_true rfl) ?_
    simp -dsimp
    refine call_ hok (by simp -dsimp) ?_
    simp -dsimp [noDeskV]
  obtain ⟨hpast, hnow, hp8⟩ := deskOk_iff.1 hk
  have ml := (made_fine d.now a hnow).2.1
  obtain ⟨kind, num, words⟩ := a
  simp only at ha
  have zero : ∀ a : Deed, isBack a = false → made d.now a = ⟨0, []⟩ → FnZ Tryz.prog 29 [d.v, a.v] (.tup [d.v, .bool false]) → FnZ Tryz.prog 29 [d.v, a.v] (.tup [(deskDo d a).1.v, .bool (deskDo d a).2]) := fun a h1 h2 h3 => by
    rw [deskDo_zero hk h1 h2]; exact h3
  by_cases k0 : kind = 0
  · subst k0
    by_cases n0 : num = 0
    · subst n0
      have hb : isBack ⟨0, 0, words⟩ = false := back_no (by simp)
      cases hr : readC d.now.people words with
      | none => exact zero _ hb (by simp [made, hr]) (do_nosay d words hd hk hr ha)
      | some c =>
        have hm : made d.now ⟨0, 0, words⟩ = ⟨d.now.people, d.now.story ++ [c]⟩ := by simp [made, hr]
        rw [deskDo_made hk hb]
        exact do_say d words c hd hk _ ml hr ha hm
    · exact zero _ (back_no (by simp)) (by simp [made, n0]) (do_bad2 d num words hd hk n0)
  by_cases hw : words = []
  case neg => exact zero _ (back_no (by simp [hw])) (by simp [made, k0, hw]) (do_bad1 d kind num words hd hk k0 hw)
  subst hw
  by_cases k1 : kind = 1
  · subst k1
    have hb : isBack ⟨1, num, []⟩ = false := back_no (by simp)
    by_cases h0 : num < 0
    · exact zero _ hb (by simp [made]; omega) (do_nodrop1 d num hd hk h0)
    · by_cases h1 : (d.now.story.length : Int) ≤ num
      · exact zero _ hb (by simp [made]; omega) (do_nodrop2 d num hd hk h0 h1)
      · obtain ⟨k, rfl⟩ := Int.eq_ofNat_of_zero_le (show 0 ≤ num by omega)
        have hm : made d.now ⟨1, (k : Int), []⟩ = ⟨d.now.people, d.now.story.eraseIdx k⟩ := by
          unfold made; rw [if_neg (by simp), if_pos ⟨rfl, rfl, by simp, by simp; omega⟩]; rfl
        rw [deskDo_made hk hb]
        exact do_drop d k hd hk _ ml (by omega) hm
  by_cases k2 : kind = 2
  · subst k2
    have hb : isBack ⟨2, num, []⟩ = false := back_no (by simp)
    have hm : made d.now ⟨2, num, []⟩ = ⟨num, d.now.story⟩ := by simp [made]
    rw [deskDo_made hk hb]
    exact do_people d num hd hk _ ml hm
  by_cases n0 : num = 0
  case neg => exact zero _ (back_no (by simp [n0])) (by simp [made, k0, k1, k2, n0]) (do_bad3 d kind num hd hk k0 k1 k2 n0)
  subst n0
  by_cases k3 : kind = 3
  · subst k3
    have hb : isBack ⟨3, 0, []⟩ = false := back_no (by simp)
    have hm : made d.now ⟨3, 0, []⟩ = ⟨d.now.people, least d.now.people.toNat d.now.story⟩ := by simp [made]
    rw [deskDo_made hk hb]
    exact do_least d hd hk _ ml hm
  by_cases k4 : kind = 4
  · subst k4
    by_cases he : d.past = []
    · rw [deskDo_bad hk (good_back (by rfl)) (by simp [he])]
      exact do_noback d hd hk he
    · rw [deskDo_back hk (by rfl) he]
      exact do_back d hd hk he
  exact zero _ (back_no (by simp [k4])) (by simp [made, k0, k1, k2, k3]) (do_other d kind hd hk k0 k1 k2 k3 k4)
end TL

/- The library's functions, off the shelf: texts cut, numbers read. -/
set_option linter.unusedSimpArgs false
set_option linter.unusedVariables false
set_option maxRecDepth 100000
namespace TL
open Go Go.Proofs Go.RowKit
section
variable {P : Program}
theorem cut_FnZ {ρ : Go.Shelf.Ren} (L : Go.Proofs.Lays.n145 P ρ) (hf : ∃ fn, P.funcs[ρ.f 145]? = some fn ∧ (fn.name == "runtime.NumGoroutine") = false ∧ fn.body.isNone = false)
    (hg : P.globalNamed "internal/bytealg.MaxLen" = some (ρ.g 1)) (s c : List UInt8) (hs : s.length < 4294967281) : FnZ P (ρ.f 145) [.str s, .str c] (.tup [.str (Go.Lib.cut s c).1, .str (Go.Lib.cut s c).2.1, .bool (Go.Lib.cut s c).2.2]) := by
  refine FnZ_calls hf fun Z w vs hz hv => ?_
  cases hv with | cons h1 hv => cases hv with | cons h2 hv => cases hv with | nil =>
    cases h1 with
    | @str _ b hb =>
      cases h2 with
      | @str _ bsep hb2 =>
        have hq : GQ P (ρ.g 1) (fun v => ∃ m, v = .int .i64 m) := GQ.maxLen hg
        obtain ⟨_, v, hc, m, rfl⟩ := hz.gl _ _ hq
        have hsz : b.size = s.length := by rw [← hb]; rfl
        refine calls_mono (Any.strings_Cut L b bsep m w (by omega) hc) ?_
        rintro e w' ⟨rfl, n, rfl⟩
        rw [hb, hb2]
        exact ⟨_, rfl, below_drewN (Below.refl _ _) n, .tup (.cons (.str (by simp)) (.cons (.str (by simp)) (.cons (.bool _) .nil)))⟩
theorem atoi_FnZ {ρ : Go.Shelf.Ren} (L : Go.Proofs.LaysC.n172 P ρ) (hf : ∃ fn, P.funcs[ρ.f 172]? = some fn ∧ (fn.name == "runtime.NumGoroutine") = false ∧ fn.body.isNone = false)
    (s : List UInt8) (hs : s.length ≤ 2000000000) : FnZ P (ρ.f 172) [.str s] (.tup [.int .i64 (atoiV s), .any]) := by
  refine FnZ_calls hf fun Z w vs hz hv => ?_
  cases hv with | cons h1 hv => cases hv with | nil =>
    cases h1 with
    | @str _ b hb =>
      have hsz : b.size = s.length := by rw [← hb]; rfl
      have q1 : GQ P (ρ.g 15) (fun v => v = .nilIface ∨ ∃ t p, v = .iface t p) := GQ.errSyntax L.m15
      have q2 : GQ P (ρ.g 16) (fun v => v = .nilIface ∨ ∃ t p, v = .iface t p) := GQ.errRange L.m16
      obtain ⟨_, v1, hc1, hv1⟩ := hz.gl _ _ q1
      obtain ⟨_, v2, hc2, hv2⟩ := hz.gl _ _ q2
      cases e : Go.Lib.atoiAll s with
      | ok v =>
        have ev : atoiV s = v := by unfold atoiV; rw [e]
        rw [ev]
        refine calls_mono (Any.strconv_Atoi_ok L b (by omega) v (by rw [hb]; exact e) w) ?_
        rintro e' w' ⟨rfl, hw⟩
        refine ⟨_, rfl, ?_, .tup (.cons (.int _ _) (.cons (.any _) .nil))⟩
        rcases hw with rfl | ⟨t, rfl⟩
        · exact Below.refl _ _
        · exact Go.Joins.below_bytesWorld _ _ _ _ (Nat.le_refl _)
      | range =>
        have ev : atoiV s = Go.Lib.atoiSat s := by unfold atoiV; rw [e]
        rw [ev]
        refine calls_mono (Any.strconv_Atoi_range L b (by omega) (by rw [hb]; exact e) v2 w hc2 hv2) ?_
        rintro e' w' ⟨N, rfl, _, _, hw⟩
        rw [hb]
        exact ⟨_, rfl, hw, .tup (.cons (.int _ _) (.cons (.any _) .nil))⟩
      | _ =>
        have ev : atoiV s = 0 := by unfold atoiV; rw [e]
        rw [ev]
        refine calls_mono (Any.strconv_Atoi_syntax L b (by omega) (by rw [hb]; exact e) v1 w hc1 hv1) ?_
        rintro e' w' ⟨N, rfl, _, _, hw⟩
        exact ⟨_, rfl, hw, .tup (.cons (.int _ _) (.cons (.any _) .nil))⟩
end
theorem cut_fn (s c : List UInt8) (hs : s.length < 4294967281) : FnZ Tryz.prog 21 [.str s, .str c] (.tup [.str (Go.Lib.cut s c).1, .str (Go.Lib.cut s c).2.1, .bool (Go.Lib.cut s c).2.2]) :=
  cut_FnZ Tryz.lays145 ⟨_, Tryz.func21, rfl, rfl⟩ (by kernel_rfl) s c hs
theorem atoi_fn (s : List UInt8) (hs : s.length ≤ 2000000000) : FnZ Tryz.prog 40 [.str s] (.tup [.int .i64 (atoiV s), .any]) :=
  atoi_FnZ Tryz.laysC172 ⟨_, Tryz.func40, rfl, rfl⟩ s hs
end TL

/- A deed that may be none. -/
set_option linter.unusedSimpArgs false
set_option linter.unusedVariables false
set_option maxRecDepth 100000
set_option maxHeartbeats 4000000
set_option pp.maxSteps 1500
namespace TL
open Go Go.Proofs
def optD (o : Option Deed) : V := .tup [(o.getD ⟨0, 0, []⟩).v, .bool o.isSome]
end TL

/- The exact law of the texts of deeds. -/
set_option linter.unusedSimpArgs false
set_option linter.unusedVariables false
set_option maxRecDepth 100000
set_option maxHeartbeats 4000000
set_option pp.maxSteps 1500
namespace TL
open Go Go.Proofs
attribute [local simp] marksV storyV codeV Claim.v Place.v Deed.v
def Deed.fit (a : Deed) : Prop := TL.fit a.kind ∧ TL.fit a.num ∧ a.words.length ≤ 9223372036854775807
end TL

/- Journals. -/
set_option linter.unusedSimpArgs false
set_option linter.unusedVariables false
set_option maxRecDepth 100000
set_option maxHeartbeats 4000000
set_option pp.maxSteps 1500
namespace TL
open Go Go.Proofs
attribute [local simp] marksV storyV codeV Claim.v Place.v Deed.v
def jr (l : List Deed) (f : Deed → List UInt8) : List UInt8 := (l.map fun a => f a ++ [10]).flatten
noncomputable def journalTx (l : List Deed) : List UInt8 := by
  classical exact if ∃ a ∈ l, deedTx a = [] then [] else jr l deedTx
theorem jr_take {l : List Deed} {f : Deed → List UInt8} {i : Nat} (h : i < l.length) : jr (l.take (i + 1)) f = jr (l.take i) f ++ f l[i] ++ [10] := by
  unfold jr; rw [List.take_succ_eq_append_getElem h, List.map_append, List.flatten_append]; simp
theorem jr_len (l : List Deed) : (jr l deedTx).length ≤ 41 * l.length := by
  induction l with
  | nil => simp [jr]
  | cons a l ih =>
    have := deedTx_len a
    simp only [jr, List.map_cons, List.flatten_cons, List.length_append, List.length_cons, List.length_nil] at ih ⊢; omega
theorem journalTx_none {l : List Deed} {a : Deed} (h : a ∈ l) (h0 : deedTx a = []) : journalTx l = [] := by
  unfold journalTx; exact if_pos ⟨a, h, h0⟩
theorem journalTx_all {l : List Deed} (h : ∀ a ∈ l, deedTx a ≠ []) : journalTx l = jr l deedTx := by
  unfold journalTx; exact if_neg fun ⟨a, ha, h0⟩ => h a ha h0
def Ijt (l : List Deed) (e : Nat) (s : S) : Prop := ∃ i : Nat, s.tm 7 = .v (.sl (l.map Deed.v)) ∧ s.tm 8 = .v (.int .i64 l.length) ∧ s.tm 9 = .v (.int .i64 i) ∧ s.tm 3 = .v (.str (jr (l.take i) deedTx)) ∧ i ≤ l.length ∧ (∀ a ∈ l.take i, deedTx a ≠ []) ∧ (e = 1 → i = l.length)
theorem take_next {l : List Deed} {i : Nat} (h : i < l.length) (ha : ∀ a ∈ l.take i, deedTx a ≠ []) (h0 : deedTx l[i] ≠ []) : ∀ a ∈ l.take (i + 1), deedTx a ≠ [] := fun a hx => by
  rw [List.take_succ_eq_append_getElem h] at hx
  rcases List.mem_append.1 hx with hx | hx
  · exact ha a hx
  · cases List.mem_singleton.1 hx; exact h0
theorem journalText_fn (l : List Deed) (hl : l.length ≤ 1048576) (hw : ∀ a ∈ l, a.words.length ≤ 2000000000) : FnZ Tryz.prog 13 [.sl (l.map Deed.v)] (.str (journalTx l)) := by
  refine FnZ_of (rs := [.tmp 2]) false Tryz.func13 rfl rfl rfl rfl (Nat.le_of_ble_eq_true rfl) ?_
  simp -dsimp
  refine twp_loopC (Ijt l 0) (fun s => l.length - natOf (s.tm 9)) (Ijt l 1) ?_ ?_ ?_
  · exact ⟨0, by simp -dsimp, by simp -dsimp, by simp -dsimp, by simp -dsimp [jr], by omega, by simp, by simp⟩
  · rintro s ⟨i, t7, t8, t9, t3, hi, hall, hend⟩
    by_cases hlt : i < l.length
    case neg =>
      simp -dsimp [t8, t9, hlt]
      exact ⟨i, by simp -dsimp [t7], by simp -dsimp [t8], by simp -dsimp [t9], by simp -dsimp [t3], hi, hall, fun _ => by omega⟩
    have hget : (l.map Deed.v)[i]? = some (l[i].v) := by simp [hlt]
    have wi : IntKind.wrap .i64 ((i : Int) + 1) = ((i + 1 : Nat) : Int) := by rw [w64 (by omega) (by omega)]; omega
    have hmu : l.length - (i + 1) < l.length - i := by omega
    have hdt := deedText_fn l[i] (hw _ (List.getElem_mem _))
    have hdl := deedTx_len l[i]
    have hjl := jr_len (l.take i)
    rw [List.length_take] at hjl
    have hjt := jr_take (f := deedTx) hlt
    have f0 := far (show s.n < s.n + 1 by omega)
    by_cases h0 : deedTx l[i] = []
    · have hj := journalTx_none (List.getElem_mem hlt) h0
      rw [h0] at hdt
      simp -dsimp [t7, t8, t9, hlt, hget]
      refine call_ hdt (by simp -dsimp) ?_
      simp -dsimp [hj]
    · have hnx := take_next hlt hall h0
      generalize deedTx l[i] = d at *
      generalize jr (l.take i) deedTx = J at *
      have b1 : (d.length : Int) + 1 ≤ 9223372036854775807 := by omega
      have b2 : (J.length : Int) + (d.length + 1) ≤ 9223372036854775807 := by omega
      simp -dsimp [t7, t8, t9, hlt, hget]
      refine call_ hdt (by simp -dsimp) ?_
      simp -dsimp [h0, t3, t7, t8, t9, b1, b2, wi, hmu]
      exact ⟨i + 1, by simp -dsimp [t7], by simp -dsimp [t8], by simp -dsimp, by simp -dsimp [hjt], by omega, hnx, by simp⟩
  · rintro s ⟨i, t7, t8, t9, t3, hi, hall, hend⟩
    have hil := hend rfl
    rw [hil, List.take_length] at t3 hall
    have hj := journalTx_all hall
    simp -dsimp [t3, hj]
def Isjt (l : List Deed) (e : Nat) (s : S) : Prop := ∃ i : Nat, s.tm 0 = .v (.sl (l.map Deed.v)) ∧ s.tm 4 = .v (.int .i64 i) ∧ s.tm 3 = .v (.str (jr (l.take i) deedTx)) ∧ i ≤ l.length ∧ (∀ a ∈ l.take i, deedTx a ≠ []) ∧ (e = 1 → i = l.length)
theorem journalTextS_fn (l : List Deed) (hl : l.length ≤ 1048576) (hw : ∀ a ∈ l, a.words.length ≤ 2000000000) : FnZ Tryz.prog 17 [.sl (l.map Deed.v)] (.str (journalTx l)) := by
  refine FnZ_of (rs := [.tmp 2]) false Tryz.func17 rfl rfl rfl rfl (Nat.le_of_ble_eq_true rfl) ?_
  simp -dsimp
  refine twp_loopC (Isjt l 0) (fun s => l.length - natOf (s.tm 4)) (Isjt l 1) ?_ ?_ ?_
  · exact ⟨0, by simp -dsimp, by simp -dsimp, by simp -dsimp [jr], by omega, by simp, by simp⟩
  · rintro s ⟨i, t0, t4, t3, hi, hall, hend⟩
    by_cases hlt : i < l.length
    case neg =>
      simp -dsimp [t0, t4, hlt]
      exact ⟨i, by simp -dsimp [t0], by simp -dsimp [t4], by simp -dsimp [t3], hi, hall, fun _ => by omega⟩
    have hget : (l.map Deed.v)[i]? = some (l[i].v) := by simp [hlt]
    have wi : IntKind.wrap .i64 ((i : Int) + 1) = ((i + 1 : Nat) : Int) := by rw [w64 (by omega) (by omega)]; omega
    have hmu : l.length - (i + 1) < l.length - i := by omega
    have hdt := deedTextS_fn l[i] (hw _ (List.getElem_mem _))
    have hdl := deedTx_len l[i]
    have hjl := jr_len (l.take i)
    rw [List.length_take] at hjl
    have hjt := jr_take (f := deedTx) hlt
    by_cases h0 : deedTx l[i] = []
    · have hj := journalTx_none (List.getElem_mem hlt) h0
      rw [h0] at hdt
      simp -dsimp [t0, t4, hlt, hget]
      refine call_ hdt (by simp -dsimp) ?_
      simp -dsimp [hj]
    · have hnx := take_next hlt hall h0
      generalize deedTx l[i] = d at *
      generalize jr (l.take i) deedTx = J at *
      have b1 : (J.length : Int) + d.length ≤ 9223372036854775807 := by omega
      have b2 : (J.length : Int) + d.length + 1 ≤ 9223372036854775807 := by omega
      have b3 : (J.length : Int) + (d.length + 1) ≤ 9223372036854775807 := by omega
      simp -dsimp [t0, t4, hlt, hget]
      refine call_ hdt (by simp -dsimp) ?_
      simp -dsimp [h0, t0, t3, t4, hlt, hget]
      refine call_ hdt (by simp -dsimp) ?_
      simp -dsimp [h0, t0, t3, t4, b1, b2, b3, wi, hmu]
      exact ⟨i + 1, by simp -dsimp [t0], by simp -dsimp, by simp -dsimp [hjt], by omega, hnx, by simp⟩
  · rintro s ⟨i, t0, t4, t3, hi, hall, hend⟩
    have hil := hend rfl
    rw [hil, List.take_length] at t3 hall
    have hj := journalTx_all hall
    simp -dsimp [t3, hj]
/-! Rows of deeds. -/
theorem elemOk_deed : ElemOk Deed.v 3 := fun a => ⟨rfl, by simp, by simp⟩
theorem cellsT_deed (a : Deed) : cellsT a.v = [.v (.int .i64 a.kind), .v (.int .i64 a.num), .v (.str a.words)] := rfl
def ItoDeedS (l : List Deed) (a : Nat) (s : S) : Prop := ∃ i : Nat, s.tm 0 = .v (.sl (l.map Deed.v)) ∧ s.tm 3 = .sv 0 0 l.length ∧ s.tm 4 = .v (.int .i64 i) ∧ i ≤ l.length ∧ s.m 0 = some (.box 41 3 (filled Deed.v [T.v (.int .i64 0), T.v (.int .i64 0), T.v (.str [])] l i).flatten) ∧ (a = 1 → i = l.length)
def IeqDeedS (a b : List Deed) (e : Nat) (s : S) : Prop := ∃ i : Nat, s.tm 0 = .v (.sl (a.map Deed.v)) ∧ s.tm 1 = .v (.sl (b.map Deed.v)) ∧ s.tm 5 = .v (.int .i64 i) ∧ i ≤ a.length ∧ a.take i = b.take i ∧ (e = 1 → i = a.length)
def wordsSum (l : List Deed) : Nat := (l.map fun c => c.words.length).sum
theorem wordsSum_take {l : List Deed} {i : Nat} (h : i < l.length) : wordsSum (l.take (i + 1)) = wordsSum (l.take i) + l[i].words.length := by
  unfold wordsSum; rw [List.take_succ_eq_append_getElem h, List.map_append, List.sum_append]; rfl
theorem wordsSum_le (l : List Deed) (i : Nat) : wordsSum (l.take i) ≤ wordsSum l := by
  have e : wordsSum l = wordsSum (l.take i ++ l.drop i) := by rw [List.take_append_drop]
  rw [e]; unfold wordsSum; rw [List.map_append, List.sum_append]; omega
theorem wordsSum_mem {l : List Deed} {c : Deed} (h : c ∈ l) : c.words.length ≤ wordsSum l := by
  induction l with
  | nil => cases h
  | cons y ys ih =>
    rcases List.mem_cons.1 h with rfl | h
    · simp [wordsSum]
    · have := ih h; simp only [wordsSum, List.map_cons, List.sum_cons] at this ⊢; omega
def SZD (l : List Deed) (left : Int) (e : Nat) (s : S) : Prop := ∃ i : Nat, s.tm 0 = .v (.sl (l.map Deed.v)) ∧ s.tm 1 = .v (.int .i64 (left - l.length - wordsSum (l.take i))) ∧ s.tm 5 = .v (.int .i64 i) ∧ i ≤ l.length ∧ 0 ≤ left - l.length - wordsSum (l.take i) ∧ (e = 1 → i = l.length)
end TL

/- Deeds read: the program and the reference, and the exact law. -/
set_option linter.unusedSimpArgs false
set_option linter.unusedVariables false
set_option maxRecDepth 100000
set_option maxHeartbeats 4000000
set_option pp.maxSteps 1500
namespace TL
open Go Go.Proofs
attribute [local simp] marksV storyV codeV Claim.v Place.v Deed.v
theorem readDeed_fn (s : List UInt8) (hl : s.length ≤ 2000000000) : FnZ Tryz.prog 22 [.str s] (optD (readD s)) := by
  have hcut := cut_fn s [32] (by omega)
  have hon : ∀ a, deedW (Go.Lib.cut s [32]).1 (Go.Lib.cut s [32]).2.1 = some a → s ≠ [] → readD s = if deedTx a = s then some a else none := fun a h => readD_on h
  have hoff : deedW (Go.Lib.cut s [32]).1 (Go.Lib.cut s [32]).2.1 = none → readD s = none := readD_off
  have hne := cutW_nil (s := s)
  have hrl := cutR_len s [32]
  have hdt : ∀ a : Deed, a.words.length ≤ 2000000000 → FnZ Tryz.prog 11 [a.v] (.str (deedTx a)) := fun a h => deedText_fn a h
  generalize (Go.Lib.cut s [32]).2.2 = f at *
  generalize (Go.Lib.cut s [32]).2.1 = r at *
  generalize (Go.Lib.cut s [32]).1 = w at *
  have hrl2 : r.length ≤ 2000000000 := by omega
  by_cases h1 : w = [115, 97, 121]
  · subst h1
    have ho := hon ⟨0, 0, r⟩ rfl (hne (by simp))
    have hd := hdt ⟨0, 0, r⟩ hrl2
    clear hon hoff hne hdt
    rw [ho]
    by_cases hx : deedTx ⟨0, 0, r⟩ = s
    · rw [hx] at hd
      rw [if_pos hx]
      refine FnZ_of (rs := [.cell 2 41, .tmp 3]) false Tryz.func22 rfl rfl rfl rfl (Nat.le_of_ble_eq_true rfl) ?_
      simp -dsimp
      refine call_ hcut (by simp -dsimp) ?_
      simp -dsimp
      refine call_ hd (by simp -dsimp) ?_
      simp -dsimp [optD]
    · rw [if_neg hx]
      refine FnZ_of (rs := [.cell 2 41, .tmp 3]) false Tryz.func22 rfl rfl rfl rfl (Nat.le_of_ble_eq_true rfl) ?_
      simp -dsimp
      refine call_ hcut (by simp -dsimp) ?_
      simp -dsimp
      refine call_ hd (by simp -dsimp) ?_
      simp -dsimp [optD, hx]
  by_cases h2 : w = [100, 114, 111, 112]
  · subst h2
    have ho := hon ⟨1, atoiV r, []⟩ rfl (hne (by simp))
    have hd := hdt ⟨1, atoiV r, []⟩ (by simp)
    have ha := atoi_fn r hrl2
    clear hon hoff hne hdt
    rw [ho]
    generalize atoiV r = num at *
    by_cases hx : deedTx ⟨1, num, []⟩ = s
    · rw [hx] at hd
      rw [if_pos hx]
      refine FnZ_of (rs := [.cell 2 41, .tmp 3]) false Tryz.func22 rfl rfl rfl rfl (Nat.le_of_ble_eq_true rfl) ?_
      simp -dsimp
      refine call_ hcut (by simp -dsimp) ?_
      simp -dsimp
      refine call_ ha (by simp -dsimp) ?_
      simp -dsimp
      refine call_ hd (by simp -dsimp) ?_
      simp -dsimp [optD]
    · rw [if_neg hx]
      refine FnZ_of (rs := [.cell 2 41, .tmp 3]) false Tryz.func22 rfl rfl rfl rfl (Nat.le_of_ble_eq_true rfl) ?_
      simp -dsimp
      refine call_ hcut (by simp -dsimp) ?_
      simp -dsimp
      refine call_ ha (by simp -dsimp) ?_
      simp -dsimp
      refine call_ hd (by simp -dsimp) ?_
      simp -dsimp [optD, hx]
  by_cases h3 : w = [112, 101, 111, 112, 108, 101]
  · subst h3
    have ho := hon ⟨2, atoiV r, []⟩ rfl (hne (by simp))
    have hd := hdt ⟨2, atoiV r, []⟩ (by simp)
    have ha := atoi_fn r hrl2
    clear hon hoff hne hdt
    rw [ho]
    generalize atoiV r = num at *
    by_cases hx : deedTx ⟨2, num, []⟩ = s
    · rw [hx] at hd
      rw [if_pos hx]
      refine FnZ_of (rs := [.cell 2 41, .tmp 3]) false Tryz.func22 rfl rfl rfl rfl (Nat.le_of_ble_eq_true rfl) ?_
      simp -dsimp
      refine call_ hcut (by simp -dsimp) ?_
      simp -dsimp
      refine call_ ha (by simp -dsimp) ?_
      simp -dsimp
      refine call_ hd (by simp -dsimp) ?_
      simp -dsimp [optD]
    · rw [if_neg hx]
      refine FnZ_of (rs := [.cell 2 41, .tmp 3]) false Tryz.func22 rfl rfl rfl rfl (Nat.le_of_ble_eq_true rfl) ?_
      simp -dsimp
      refine call_ hcut (by simp -dsimp) ?_
      simp -dsimp
      refine call_ ha (by simp -dsimp) ?_
      simp -dsimp
      refine call_ hd (by simp -dsimp) ?_
      simp -dsimp [optD, hx]
  by_cases h4 : w = [108, 101, 97, 115, 116]
  · subst h4
    have ho := hon ⟨3, 0, []⟩ rfl (hne (by simp))
    have hd := hdt ⟨3, 0, []⟩ (by simp)
    clear hon hoff hne hdt
    rw [ho]
    by_cases hx : deedTx ⟨3, 0, []⟩ = s
    · rw [hx] at hd
      rw [if_pos hx]
      refine FnZ_of (rs := [.cell 2 41, .tmp 3]) false Tryz.func22 rfl rfl rfl rfl (Nat.le_of_ble_eq_true rfl) ?_
      simp -dsimp
      refine call_ hcut (by simp -dsimp) ?_
      simp -dsimp
      refine call_ hd (by simp -dsimp) ?_
      simp -dsimp [optD]
    · rw [if_neg hx]
      refine FnZ_of (rs := [.cell 2 41, .tmp 3]) false Tryz.func22 rfl rfl rfl rfl (Nat.le_of_ble_eq_true rfl) ?_
      simp -dsimp
      refine call_ hcut (by simp -dsimp) ?_
      simp -dsimp
      refine call_ hd (by simp -dsimp) ?_
      simp -dsimp [optD, hx]
  by_cases h5 : w = [98, 97, 99, 107]
  · subst h5
    have ho := hon ⟨4, 0, []⟩ rfl (hne (by simp))
    have hd := hdt ⟨4, 0, []⟩ (by simp)
    clear hon hoff hne hdt
    rw [ho]
    by_cases hx : deedTx ⟨4, 0, []⟩ = s
    · rw [hx] at hd
      rw [if_pos hx]
      refine FnZ_of (rs := [.cell 2 41, .tmp 3]) false Tryz.func22 rfl rfl rfl rfl (Nat.le_of_ble_eq_true rfl) ?_
      simp -dsimp
      refine call_ hcut (by simp -dsimp) ?_
      simp -dsimp
      refine call_ hd (by simp -dsimp) ?_
      simp -dsimp [optD]
    · rw [if_neg hx]
      refine FnZ_of (rs := [.cell 2 41, .tmp 3]) false Tryz.func22 rfl rfl rfl rfl (Nat.le_of_ble_eq_true rfl) ?_
      simp -dsimp
      refine call_ hcut (by simp -dsimp) ?_
      simp -dsimp
      refine call_ hd (by simp -dsimp) ?_
      simp -dsimp [optD, hx]
  · have e : deedW w r = none := by unfold deedW; rw [if_neg h1, if_neg h2, if_neg h3, if_neg h4, if_neg h5]
    rw [hoff e]
    clear hon hoff hne hdt
    refine FnZ_of (rs := [.cell 2 41, .tmp 3]) false Tryz.func22 rfl rfl rfl rfl (Nat.le_of_ble_eq_true rfl) ?_
    simp -dsimp
    refine call_ hcut (by simp -dsimp) ?_
    simp -dsimp [optD, h1, h2, h3, h4, h5]
end TL

/- Texts that are spoilt. -/
set_option linter.unusedSimpArgs false
set_option linter.unusedVariables false
set_option maxRecDepth 100000
set_option maxHeartbeats 4000000
set_option pp.maxSteps 1500
namespace TL
open Go Go.Proofs
attribute [local simp] marksV storyV codeV Claim.v Place.v Deed.v
/-! Texts that are spoilt. -/
def SomeStr (x : V) : Prop := ∃ s : List UInt8, s.length ≤ 2000 ∧ x = .str s
theorem spoil_strs : ∃ vs : List V, vs = [.str [], .str [48], .str [32], .str [10], .str [49], .str [98, 97, 99, 107]] ∧ ∀ r : Int, 0 ≤ r → r < 6 → ∃ x : List UInt8, x.length ≤ 4 ∧ vs[r.toNat]? = some (.str x) := by
  refine ⟨_, rfl, fun r h0 h6 => ?_⟩
  have : r = 0 ∨ r = 1 ∨ r = 2 ∨ r = 3 ∨ r = 4 ∨ r = 5 := by omega
  rcases this with rfl | rfl | rfl | rfl | rfl | rfl
  · exact ⟨[], by simp, rfl⟩
  · exact ⟨[48], by simp, rfl⟩
  · exact ⟨[32], by simp, rfl⟩
  · exact ⟨[10], by simp, rfl⟩
  · exact ⟨[49], by simp, rfl⟩
  · exact ⟨[98, 97, 99, 107], by simp, rfl⟩
theorem spoil_z (bs : List UInt8) (p : Nat) (hp : p < 600000000) (s : List UInt8) (hs : s.length ≤ 1500) (m : Mem) (n rid : Nat) (hr : rid < n) (hm : m rid = some (rdB bs p)) :
    FnS Tryz.prog 20 m n [.ptr rid 0, .v (.str s)] (Draws SomeStr 10 m n rid bs p) := by
  refine Draws_of hr ⟨_, Tryz.func20, rfl, rfl⟩ fun hfr => ?_
  obtain ⟨vs, hvs, hel⟩ := spoil_strs
  refine FnS_of (rs := [.tmp 4]) false Tryz.func20 rfl rfl rfl rfl (Nat.le_of_ble_eq_true rfl) ?_
  have f1 := far hr
  by_cases h0 : s = []
  · simp -dsimp [h0]
    refine ⟨by omega, ⟨_, by simp, [10], by simp, rfl⟩, fun j j1 j2 => ?_, p, by omega, by omega, by simp [hm]⟩
    simp
  have hl0 : ¬ (s.length : Int) = 0 := fun h => h0 (List.length_eq_zero_iff.1 (by omega))
  have hl1 : 0 < s.length := List.length_pos_iff.2 h0
  simp -dsimp [h0, hl0]
  refine callS_ (pick_at bs p (by omega) _ _ _ rid (by simp [hm])) ?_
  rintro t m1 n1 ⟨hn1, ⟨k, rfl, hk0, hk1⟩, rfl⟩
  have hk1 := hk1 (by omega)
  have hkl : k ≤ (s.length : Int) := by omega
  have f2 := far (show rid < n1 by omega)
  simp -dsimp
  refine twp_draw [0, 1, 2, 4, 9, 10, 11, 12, 1003, 5, 6, 7, 8, 13, 14] [] (List.replicate 15 []) (List.replicate 15 []) (by kernel_rfl) (by kernel_rfl) (by kernel_rfl) (by kernel_rfl) ?_
  have w1 : IntKind.wrap .i64 (k + 1) = k + 1 := w64 (by omega) (by omega)
  have z0 : 0 ≤ k + 1 := by omega
  have z1 : k + 1 ≤ (s.length : Int) := by omega
  simp -dsimp [List.range_succ, f1, f2, hk0, hkl, w1, z0, z1]
  refine bld_ [(0, .str []), (1, .str [48]), (2, .str [32]), (3, .str [10]), (4, .str [49]), (5, .str [98, 97, 99, 107])] 9 vs (by simp -dsimp) (by rw [hvs]; simp -dsimp) ?_
  clear hvs
  simp -dsimp [List.range_succ, f1, f2, hk0, hkl, w1, z0, z1]
  refine callS_ (pick_at bs (p + 1) (by omega) _ _ _ rid (by simp [f1, f2])) ?_
  rintro t m2 n2 ⟨hn2, ⟨r2, rfl, hr20, hr21⟩, rfl⟩
  have hr21 := hr21 (by decide)
  refine (hel r2 hr20 hr21).elim fun x hx => ?_
  have hx1 := hx.1
  have hx2 := hx.2
  have hm1 : min k.toNat s.length = k.toNat := by omega
  have b1 : ((min k.toNat s.length : Nat) : Int) + x.length ≤ 9223372036854775807 := by omega
  have b2 : ((min k.toNat s.length : Nat) : Int) + x.length + ((s.length - (k + 1).toNat : Nat) : Int) ≤ 9223372036854775807 := by omega
  have b3 : ((min k.toNat s.length : Nat) : Int) + (x.length + ((s.length - (k + 1).toNat : Nat) : Int)) ≤ 9223372036854775807 := by omega
  simp -dsimp [List.range_succ, hr20, hx2, b1, b2, b3]
  refine ⟨by omega, ⟨_, by simp, s.take k.toNat ++ (x ++ s.drop (k + 1).toNat), by simp; omega, rfl⟩, fun j j1 j2 => ?_, p + 1 + 1, by omega, by omega, by simp⟩
  simp [far j1, j2]
end TL

/- Drawn deeds. -/
set_option linter.unusedSimpArgs false
set_option linter.unusedVariables false
set_option maxRecDepth 100000
set_option maxHeartbeats 4000000
set_option pp.maxSteps 1500
namespace TL
open Go Go.Proofs
attribute [local simp] marksV storyV codeV Claim.v Place.v Deed.v
def SomeDeed (x : V) : Prop := ∃ a : Deed, a.words.length ≤ 200 ∧ x = a.v
theorem deed_kinds : ∃ vs : List V, vs = [.int .i64 0, .int .i64 0, .int .i64 0, .int .i64 1, .int .i64 2, .int .i64 3, .int .i64 4] ∧ ∀ r : Int, 0 ≤ r → r < 7 → ∃ k : Int, 0 ≤ k ∧ k ≤ 4 ∧ vs[r.toNat]? = some (.int .i64 k) := by
  refine ⟨_, rfl, fun r h0 h6 => ?_⟩
  have : r = 0 ∨ r = 1 ∨ r = 2 ∨ r = 3 ∨ r = 4 ∨ r = 5 ∨ r = 6 := by omega
  rcases this with rfl | rfl | rfl | rfl | rfl | rfl | rfl
  · exact ⟨0, by omega, by omega, rfl⟩
  · exact ⟨0, by omega, by omega, rfl⟩
  · exact ⟨0, by omega, by omega, rfl⟩
  · exact ⟨1, by omega, by omega, rfl⟩
  · exact ⟨2, by omega, by omega, rfl⟩
  · exact ⟨3, by omega, by omega, rfl⟩
  · exact ⟨4, by omega, by omega, rfl⟩
def DI (m0 : Mem) (n0 rid : Nat) (bs : List UInt8) (p : Nat) (q : Place) (s : S) : Prop := ∃ (kind : Int) (id p' : Nat), s.tm 0 = .ptr rid 0 ∧ s.tm 3 = .ptr n0 0 ∧ s.tm 4 = .ptr (n0 + 1) 0 ∧ s.tm 5 = .ptr id 0 ∧ s.mu = false ∧ n0 + 1 < id ∧ id < s.n ∧
  s.m n0 = some (.box 30 2 [.v (.int .i64 q.people), .v (storyV q.story)]) ∧ s.m (n0 + 1) = some (.box 41 3 [.v (.int .i64 0), .v (.int .i64 0), .v (.str [])]) ∧
  s.m id = some (.box 41 3 [.v (.int .i64 kind), .v (.int .i64 0), .v (.str [])]) ∧ s.m rid = some (rdB bs p') ∧ p ≤ p' ∧ p' ≤ p + 2 ∧ (∀ j, j < n0 → j ≠ rid → s.m j = m0 j)
def DI2 (m0 : Mem) (n0 rid : Nat) (bs : List UInt8) (p : Nat) (s : S) : Prop := ∃ (kind num : Int) (words : List UInt8) (id p' : Nat), s.tm 0 = .ptr rid 0 ∧ s.tm 4 = .ptr (n0 + 1) 0 ∧ s.tm 5 = .ptr id 0 ∧ s.mu = false ∧ n0 + 1 < id ∧ id < s.n ∧
  s.m (n0 + 1) = some (.box 41 3 [.v (.int .i64 0), .v (.int .i64 0), .v (.str [])]) ∧
  s.m id = some (.box 41 3 [.v (.int .i64 kind), .v (.int .i64 num), .v (.str words)]) ∧ words.length ≤ 100 ∧ s.m rid = some (rdB bs p') ∧ p ≤ p' ∧ p' ≤ p + 60 ∧ (∀ j, j < n0 → j ≠ rid → s.m j = m0 j)
theorem sixty {r : Int} (h0 : 0 ≤ r) (h : r < 60) : ∃ k : Int, r.tdiv 59 = k ∧ 0 ≤ k ∧ k ≤ 1 := ⟨_, rfl, by rw [Int.tdiv_eq_ediv_of_nonneg h0]; omega, by rw [Int.tdiv_eq_ediv_of_nonneg h0]; omega⟩
theorem deed_zX (bs : List UInt8) (p : Nat) (hp : p < 600000000) (q : Place) (hq : q.story.length ≤ 1000) (X : T) (hX : X.cells = [.v (.int .i64 q.people), .v (storyV q.story)]) (m : Mem) (n rid : Nat) (hr : rid < n) (hm : m rid = some (rdB bs p)) :
    FnS Tryz.prog 45 m n [.ptr rid 0, X] (Draws SomeDeed 100 m n rid bs p) := by
  refine Draws_of hr ⟨_, Tryz.func45, rfl, rfl⟩ fun hfr => ?_
  obtain ⟨vs, hvs, hel⟩ := deed_kinds
  refine FnS_of (rs := [.cell 4 41]) false Tryz.func45 rfl rfl rfl rfl (Nat.le_of_ble_eq_true rfl) ?_
  have f1 := far hr
  simp -dsimp [hX]
  refine twp_cutQ (DI m n rid bs p q) ?_ ?_
  · refine twp_drawT (.run [1, 5, 1000] (.alt (.run [11, 2, 3, 4, 6, 7, 8, 9, 10, 12] .done) (.run [2, 3, 4] (.alt (.run [11, 6, 7, 8, 9, 10, 12] .done) (.run [6, 7, 8, 9, 10, 11, 12] .done))))) [] (List.replicate 13 []) (List.replicate 13 []) (by kernel_rfl) (by kernel_rfl) (by kernel_rfl) (by kernel_rfl) ?_
    simp -dsimp [List.range_succ, f1]
    refine bld_ [(0, .int .i64 0), (1, .int .i64 0), (2, .int .i64 0), (3, .int .i64 1), (4, .int .i64 2), (5, .int .i64 3), (6, .int .i64 4)] 3 vs (by simp -dsimp) (by rw [hvs]; simp -dsimp) ?_
    clear hvs
    simp -dsimp [List.range_succ, f1]
    refine ordT_both ?_ ?_
    · simp -dsimp [List.range_succ, f1]
      refine callS_ (pick_at bs p (by omega) _ _ _ rid (by simp [hm, f1])) ?_
      rintro t m1 n1 ⟨hn1, ⟨r, rfl, hr0, hr1⟩, rfl⟩
      have hr1 := hr1 (by decide)
      refine (hel r hr0 hr1).elim fun k hk => ?_
      have k0 := hk.1
      have k4 := hk.2.1
      have kg := hk.2.2
      have g1 := far (show rid < n1 by omega)
      simp -dsimp [List.range_succ, f1, hr0, kg]
      refine callS_ (pick_at bs (p + 1) (by omega) _ _ _ rid (by simp [f1, g1])) ?_
      rintro t m2 n2 ⟨hn2, ⟨r2, rfl, hr20, hr21⟩, rfl⟩
      have hr21 := hr21 (by decide)
      refine (sixty hr20 hr21).elim fun k2 hk2 => ?_
      have e2 := hk2.1
      have e20 := hk2.2.1
      have e21 := hk2.2.2
      have w1 : IntKind.wrap .i64 k2 = k2 := w64 (by omega) (by omega)
      have w2 : IntKind.wrap .i64 (k2 * 5) = k2 * 5 := w64 (by omega) (by omega)
      have w3 : IntKind.wrap .i64 (k + k2 * 5) = k + k2 * 5 := w64 (by omega) (by omega)
      have g2 := far (show rid < n2 by omega)
      have g3 := far (show n < n2 by omega)
      have g4 := far (show n + 1 < n2 by omega)
      have g5 := far (show n < n1 by omega)
      have g6 := far (show n + 1 < n1 by omega)
      have g7 := far (show n < n + 1 + 1 by omega)
      have g8 := far (show n + 1 < n + 1 + 1 by omega)
      simp -dsimp [List.range_succ, f1, g1, g2, g3, g4, e2, w1, w2, w3]
      refine ⟨k + k2 * 5, n + 1 + 1, p + 1 + 1, by simp -dsimp, by simp -dsimp, by simp -dsimp, by simp -dsimp, by simp -dsimp, by omega, by simp -dsimp <;> omega, by simp -dsimp [f1, g1, g2, g3, g4, g5, g6, g7, g8], by simp -dsimp [f1, g1, g2, g3, g4, g5, g6, g7, g8], by simp -dsimp [f1, g1, g2, g3, g4, g5, g6, g7, g8], by simp -dsimp [f1, g1, g2, g3, g4, g5, g6, g7, g8], by omega, by omega, fun j j1 j2 => ?_⟩
      simp -dsimp [far j1, far (show j < n1 by omega), far (show j < n2 by omega), j2, Ne.symm j2]
    · simp -dsimp [List.range_succ, f1]
      refine callS_ (pick_at bs p (by omega) _ _ _ rid (by simp [hm, f1])) ?_
      rintro t m1 n1 ⟨hn1, ⟨r, rfl, hr0, hr1⟩, rfl⟩
      have hr1 := hr1 (by decide)
      refine (hel r hr0 hr1).elim fun k hk => ?_
      have k0 := hk.1
      have k4 := hk.2.1
      have kg := hk.2.2
      have g1 := far (show rid < n1 by omega)
      simp -dsimp [List.range_succ, f1, hr0, kg]
      refine ordT_both ?_ ?_
      · simp -dsimp [List.range_succ, f1, g1]
        refine callS_ (pick_at bs (p + 1) (by omega) _ _ _ rid (by simp [f1, g1])) ?_
        rintro t m2 n2 ⟨hn2, ⟨r2, rfl, hr20, hr21⟩, rfl⟩
        have hr21 := hr21 (by decide)
        refine (sixty hr20 hr21).elim fun k2 hk2 => ?_
        have e2 := hk2.1
        have e20 := hk2.2.1
        have e21 := hk2.2.2
        have w1 : IntKind.wrap .i64 k2 = k2 := w64 (by omega) (by omega)
        have w2 : IntKind.wrap .i64 (k2 * 5) = k2 * 5 := w64 (by omega) (by omega)
        have w3 : IntKind.wrap .i64 (k + k2 * 5) = k + k2 * 5 := w64 (by omega) (by omega)
        have g2 := far (show rid < n2 by omega)
        have g3 := far (show n < n2 by omega)
        have g4 := far (show n + 1 < n2 by omega)
        have g5 := far (show n < n1 by omega)
        have g6 := far (show n + 1 < n1 by omega)
        have g7 := far (show n < n + 1 + 1 by omega)
        have g8 := far (show n + 1 < n + 1 + 1 by omega)
        simp -dsimp [List.range_succ, f1, g1, g2, g3, g4, e2, w1, w2, w3]
        refine ⟨k + k2 * 5, n1, p + 1 + 1, by simp -dsimp, by simp -dsimp, by simp -dsimp, by simp -dsimp, by simp -dsimp, by omega, by simp -dsimp <;> omega, by simp -dsimp [f1, g1, g2, g3, g4, g5, g6, g7, g8], by simp -dsimp [f1, g1, g2, g3, g4, g5, g6, g7, g8], by simp -dsimp [f1, g1, g2, g3, g4, g5, g6, g7, g8], by simp -dsimp [f1, g1, g2, g3, g4, g5, g6, g7, g8], by omega, by omega, fun j j1 j2 => ?_⟩
        simp -dsimp [far j1, far (show j < n1 by omega), far (show j < n2 by omega), j2, Ne.symm j2]
      · simp -dsimp [List.range_succ, f1, g1]
        refine callS_ (pick_at bs (p + 1) (by omega) _ _ _ rid (by simp [f1, g1])) ?_
        rintro t m2 n2 ⟨hn2, ⟨r2, rfl, hr20, hr21⟩, rfl⟩
        have hr21 := hr21 (by decide)
        refine (sixty hr20 hr21).elim fun k2 hk2 => ?_
        have e2 := hk2.1
        have e20 := hk2.2.1
        have e21 := hk2.2.2
        have w1 : IntKind.wrap .i64 k2 = k2 := w64 (by omega) (by omega)
        have w2 : IntKind.wrap .i64 (k2 * 5) = k2 * 5 := w64 (by omega) (by omega)
        have w3 : IntKind.wrap .i64 (k + k2 * 5) = k + k2 * 5 := w64 (by omega) (by omega)
        have g2 := far (show rid < n2 by omega)
        have g3 := far (show n < n2 by omega)
        have g4 := far (show n + 1 < n2 by omega)
        have g5 := far (show n < n1 by omega)
        have g6 := far (show n + 1 < n1 by omega)
        have g7 := far (show n < n + 1 + 1 by omega)
        have g8 := far (show n + 1 < n + 1 + 1 by omega)
        simp -dsimp [List.range_succ, f1, g1, g2, g3, g4, e2, w1, w2, w3]
        refine ⟨k + k2 * 5, n2, p + 1 + 1, by simp -dsimp, by simp -dsimp, by simp -dsimp, by simp -dsimp, by simp -dsimp, by omega, by simp -dsimp <;> omega, by simp -dsimp [f1, g1, g2, g3, g4, g5, g6, g7, g8], by simp -dsimp [f1, g1, g2, g3, g4, g5, g6, g7, g8], by simp -dsimp [f1, g1, g2, g3, g4, g5, g6, g7, g8], by simp -dsimp [f1, g1, g2, g3, g4, g5, g6, g7, g8], by omega, by omega, fun j j1 j2 => ?_⟩
        simp -dsimp [far j1, far (show j < n1 by omega), far (show j < n2 by omega), j2, Ne.symm j2]
  · intro s hs
    refine twp_cut (DI2 m n rid bs p) ?_ ?_
    · obtain ⟨kind, id, p', t0, t3, t4, t5, hmu, hid0, hid, m0, m1, mid, mrd, hp0, hp2, hout⟩ := hs
      have d0 : ¬ rid = id := by omega
      have d1 : ¬ n = id := by omega
      have d2 : ¬ n + 1 = id := by omega
      have d3 : ¬ id = rid := by omega
      have e1 : ¬ n + 1 = rid := by omega
      have e2 : ¬ rid = n + 1 := by omega
      have h1 := far hid
      have h2 := far (show rid < s.n by omega)
      have h3 := far (show n < s.n by omega)
      have h4 := far (show n + 1 < s.n by omega)
      by_cases k0 : kind = 0
      · have hpe : ∃ w : Int, max q.people 1 = w ∧ 1 ≤ w := ⟨_, rfl, by omega⟩
        have hpe2 : ∃ w : Int, min (max q.people 1) 4 = w ∧ 1 ≤ w ∧ w ≤ 4 := ⟨_, rfl, by omega, by omega⟩
        refine hpe2.elim fun w hw => ?_
        have hw1 := hw.1
        have hw2 := hw.2.1
        have hw3 := hw.2.2
        simp -dsimp [t0, t3, t4, t5, mid, m0, k0, hw1, h1, h2, h3]
        refine callS_ (claim_z bs p' (by omega) w 0 (by omega) (by omega) (by omega) _ _ rid (by omega) (by simp [mrd])) ?_
        rintro t m2 n2 ⟨hn2, ⟨x, ⟨c, cl, cf, rfl⟩, rfl⟩, p3, hp3, hp4, rfl⟩
        have hct := claimTxS_fn w c ⟨cf.2, by omega⟩
        have hcl := claimTx_short w c
        have h5 := far (show id < n2 by omega)
        generalize claimTx w c = cx at *
        simp -dsimp [t0, t3, t4, t5, mid, m0, h1, h2, h3, h5, d3]
        refine call_ hct (by simp -dsimp) ?_
        simp -dsimp [t0, t3, t4, t5, mid, m0, h1, h2, h3, h5, d3]
        refine ⟨0, 0, cx, id, p3, by simp -dsimp [t0], by simp -dsimp [t4], by simp -dsimp [t5], by simp -dsimp [hmu], hid0, by simp -dsimp <;> omega, by simp -dsimp [d2, e1, e2, m1], by simp -dsimp [k0], by omega, by simp -dsimp [d0, d3], by omega, by omega, fun j j1 j2 => ?_⟩
        simp -dsimp [show ¬ j = id by omega, j2, hout j j1 j2]
      by_cases k1 : kind = 1
      · have hl1 : ∃ w : Int, max (q.story.length : Int) 1 = w ∧ 1 ≤ w ∧ w ≤ 1000 := ⟨_, rfl, by omega, by omega⟩
        refine hl1.elim fun w hw => ?_
        have hw1 := hw.1
        have hw2 := hw.2.1
        have hw3 := hw.2.2
        simp -dsimp [t0, t3, t4, t5, mid, m0, k0, k1, hw1, h1, h2, h3]
        refine callS_ (pick_at bs p' (by omega) _ _ _ rid (by simp [mrd])) ?_
        rintro t m2 n2 ⟨hn2, ⟨r, rfl, hr0, hr1⟩, rfl⟩
        simp -dsimp [t0, t3, t4, t5, mid, m0, h1, h2, h3, d3]
        refine ⟨1, r, [], id, p' + 1, by simp -dsimp [t0], by simp -dsimp [t4], by simp -dsimp [t5], by simp -dsimp [hmu], hid0, by simp -dsimp <;> omega, by simp -dsimp [d2, e1, e2, m1], by simp -dsimp [k1], by simp, by simp -dsimp [d0, d3], by omega, by omega, fun j j1 j2 => ?_⟩
        simp -dsimp [show ¬ j = id by omega, j2, hout j j1 j2]
      by_cases k2 : kind = 2
      · simp -dsimp [t0, t3, t4, t5, mid, m0, k0, k1, k2, h1, h2, h3]
        refine callS_ (pick_at bs p' (by omega) _ _ _ rid (by simp [mrd])) ?_
        rintro t m2 n2 ⟨hn2, ⟨r, rfl, hr0, hr1⟩, rfl⟩
        have hr1 := hr1 (by decide)
        have wr : IntKind.wrap .i64 (1 + r) = 1 + r := w64 (by omega) (by omega)
        simp -dsimp [t0, t3, t4, t5, mid, m0, h1, h2, h3, d3, wr]
        refine ⟨2, 1 + r, [], id, p' + 1, by simp -dsimp [t0], by simp -dsimp [t4], by simp -dsimp [t5], by simp -dsimp [hmu], hid0, by simp -dsimp <;> omega, by simp -dsimp [d2, e1, e2, m1], by simp -dsimp [k2], by simp, by simp -dsimp [d0, d3], by omega, by omega, fun j j1 j2 => ?_⟩
        simp -dsimp [show ¬ j = id by omega, j2, hout j j1 j2]
      · simp -dsimp [t0, t3, t4, t5, mid, m0, k0, k1, k2, h1, h2, h3]
        exact ⟨kind, 0, [], id, p', by simp -dsimp [t0], by simp -dsimp [t4], by simp -dsimp [t5], by simp -dsimp [hmu], hid0, by simp -dsimp [hid], by simp -dsimp [m1], by simp -dsimp [mid], by simp, by simp -dsimp [mrd], by omega, by omega, fun j j1 j2 => by simp -dsimp [hout j j1 j2]⟩
    · rintro s ⟨kind, num, words, id, p', t0, t4, t5, hmu, hid0, hid, m1, mid, hwl, mrd, hp0, hp2, hout⟩
      have d0 : ¬ rid = id := by omega
      have d1 : ¬ n + 1 = id := by omega
      have d2 : ¬ n + 1 = rid := by omega
      have d3 : ¬ id = rid := by omega
      have d4 : ¬ id = n + 1 := by omega
      have e2 : ¬ rid = n + 1 := by omega
      have h1 := far hid
      have h2 := far (show rid < s.n by omega)
      have h4 := far (show n + 1 < s.n by omega)
      simp -dsimp [t0]
      refine callS_ (odd_at bs p' (by omega) _ (by omega) _ _ rid (by simp [mrd])) ?_
      rintro t m2 n2 ⟨hn2, ⟨b, rfl, _⟩, p3, hp3, hp4, rfl⟩
      cases b with
      | false =>
        simp -dsimp [t0, t4, t5, mid, m1, d0, d1, d2, d3, d4]
        refine ⟨by omega, ⟨_, by simp, ⟨kind, num, words⟩, by simp only; omega, rfl⟩, fun j j1 j2 => ?_, p3, by omega, by omega, by simp [d0, d1, d2, d3, d4, e2, h1, h2, h4]⟩
        simp [far j1, far (show j < s.n by omega), far (show j < n2 by omega), show ¬ j = id by omega, show ¬ j = n + 1 by omega, j2, hout j j1 j2]
      | true =>
        have h5 := far (show id < n2 by omega)
        have h6 := far (show rid < n2 by omega)
        have h7 := far (show n + 1 < n2 by omega)
        simp -dsimp [t0, t4, t5, mid, m1, d0, d1, d2, d3, d4]
        refine callS_ (pick_at bs p3 (by omega) _ _ _ rid (by simp)) ?_
        rintro t m3 n3 ⟨hn3, ⟨r, rfl, hr0, hr1⟩, rfl⟩
        have hr1 := hr1 (by decide)
        have g5 := far (show id < n3 by omega)
        have g6 := far (show rid < n3 by omega)
        have g7 := far (show n + 1 < n3 by omega)
        have hr4 : r = 0 ∨ r = 1 := by omega
        rcases hr4 with rfl | rfl
        · simp -dsimp [t0, t4, t5, mid, m1, hmu, d0, d1, d2, d3, d4, g5, g6, g7]
          refine callS_ (pick_at bs (p3 + 1) (by omega) _ _ _ rid (by simp [g6])) ?_
          rintro t m4 n4 ⟨hn4, ⟨r2, rfl, hr20, hr21⟩, rfl⟩
          have hr21 := hr21 (by decide)
          have hr5 : r2 = 0 ∨ r2 = 1 := by omega
          have g8 := far (show n3 < n4 by omega)
          rcases hr5 with rfl | rfl
          · simp -dsimp [t0, t4, t5, mid, m1, hmu, d0, d1, d2, d3, d4, g5, g6, g7, g8]
            refine ⟨by omega, ⟨_, by simp, ⟨kind, -1, words⟩, by simp only; omega, rfl⟩, fun j j1 j2 => ?_, p3 + 1 + 1, by omega, by omega, by simp [d0, d1, d2, d3, d4, e2, h1, h2, h4, g6]⟩
            simp [far j1, far (show j < s.n by omega), far (show j < n2 by omega), far (show j < n3 by omega), show ¬ j = id by omega, show ¬ j = n + 1 by omega, j2, hout j j1 j2]
          · simp -dsimp [t0, t4, t5, mid, m1, hmu, d0, d1, d2, d3, d4, g5, g6, g7, g8]
            refine ⟨by omega, ⟨_, by simp, ⟨kind, 100, words⟩, by simp only; omega, rfl⟩, fun j j1 j2 => ?_, p3 + 1 + 1, by omega, by omega, by simp [d0, d1, d2, d3, d4, e2, h1, h2, h4, g6]⟩
            simp [far j1, far (show j < s.n by omega), far (show j < n2 by omega), far (show j < n3 by omega), show ¬ j = id by omega, show ¬ j = n + 1 by omega, j2, hout j j1 j2]
        · simp -dsimp [t0, t4, t5, mid, m1, hmu, d0, d1, d2, d3, d4, g5, g6, g7]
          refine callS_ (pick_at bs (p3 + 1) (by omega) _ _ _ rid (by simp [g6])) ?_
          rintro t m4 n4 ⟨hn4, ⟨r2, rfl, hr20, hr21⟩, rfl⟩
          have hr21 := hr21 (by decide)
          have hr5 : r2 = 0 ∨ r2 = 1 ∨ r2 = 2 ∨ r2 = 3 := by omega
          have g8 := far (show n3 < n4 by omega)
          rcases hr5 with rfl | rfl | rfl | rfl
          · simp -dsimp [t0, t4, t5, mid, m1, hmu, d0, d1, d2, d3, d4, g5, g6, g7, g8]
            refine ⟨by omega, ⟨_, by simp, ⟨kind, num, [97, 58, 40, 98, 41]⟩, by simp, rfl⟩, fun j j1 j2 => ?_, p3 + 1 + 1, by omega, by omega, by simp [d0, d1, d2, d3, d4, e2, h1, h2, h4, g6]⟩
            simp [far j1, far (show j < s.n by omega), far (show j < n2 by omega), far (show j < n3 by omega), show ¬ j = id by omega, show ¬ j = n + 1 by omega, j2, hout j j1 j2]
          · simp -dsimp [t0, t4, t5, mid, m1, hmu, d0, d1, d2, d3, d4, g5, g6, g7, g8]
            refine ⟨by omega, ⟨_, by simp, ⟨kind, num, [101, 58, 97]⟩, by simp, rfl⟩, fun j j1 j2 => ?_, p3 + 1 + 1, by omega, by omega, by simp [d0, d1, d2, d3, d4, e2, h1, h2, h4, g6]⟩
            simp [far j1, far (show j < s.n by omega), far (show j < n2 by omega), far (show j < n3 by omega), show ¬ j = id by omega, show ¬ j = n + 1 by omega, j2, hout j j1 j2]
          · simp -dsimp [t0, t4, t5, mid, m1, hmu, d0, d1, d2, d3, d4, g5, g6, g7, g8]
            refine ⟨by omega, ⟨_, by simp, ⟨kind, num, [97, 32, 97]⟩, by simp, rfl⟩, fun j j1 j2 => ?_, p3 + 1 + 1, by omega, by omega, by simp [d0, d1, d2, d3, d4, e2, h1, h2, h4, g6]⟩
            simp [far j1, far (show j < s.n by omega), far (show j < n2 by omega), far (show j < n3 by omega), show ¬ j = id by omega, show ¬ j = n + 1 by omega, j2, hout j j1 j2]
          · simp -dsimp [t0, t4, t5, mid, m1, hmu, d0, d1, d2, d3, d4, g5, g6, g7, g8]
            refine ⟨by omega, ⟨_, by simp, ⟨kind, num, [97, 58]⟩, by simp, rfl⟩, fun j j1 j2 => ?_, p3 + 1 + 1, by omega, by omega, by simp [d0, d1, d2, d3, d4, e2, h1, h2, h4, g6]⟩
            simp [far j1, far (show j < s.n by omega), far (show j < n2 by omega), far (show j < n3 by omega), show ¬ j = id by omega, show ¬ j = n + 1 by omega, j2, hout j j1 j2]
theorem deed_z (bs : List UInt8) (p : Nat) (hp : p < 600000000) (q : Place) (hq : q.story.length ≤ 1000) (m : Mem) (n rid : Nat) (hr : rid < n) (hm : m rid = some (rdB bs p)) :
    FnS Tryz.prog 45 m n [.ptr rid 0, .v q.v] (Draws SomeDeed 100 m n rid bs p) := deed_zX bs p hp q hq _ rfl m n rid hr hm
theorem deed_zA (bs : List UInt8) (p : Nat) (hp : p < 600000000) (q : Place) (hq : q.story.length ≤ 1000) (m : Mem) (n rid : Nat) (hr : rid < n) (hm : m rid = some (rdB bs p)) :
    FnS Tryz.prog 45 m n [.ptr rid 0, .agg [.v (.int .i64 q.people), .v (storyV q.story)]] (Draws SomeDeed 100 m n rid bs p) := deed_zX bs p hp q hq _ rfl m n rid hr hm
end TL

/- Deeds read: the program and the reference, and the exact law. -/
set_option linter.unusedSimpArgs false
set_option linter.unusedVariables false
set_option maxRecDepth 100000
set_option maxHeartbeats 4000000
set_option pp.maxSteps 1500
namespace TL
open Go Go.Proofs
attribute [local simp] marksV storyV codeV Claim.v Place.v Deed.v
/-! The reference. -/
def Isrd (s : List UInt8) (l : List Deed) (e : Nat) (y : S) : Prop := ∃ i id : Nat, y.tm 0 = .v (.str s) ∧ y.tm 2 = .ptr 0 0 ∧ y.m 0 = some (.box 41 3 [.v (.int .i64 0), .v (.int .i64 0), .v (.str [])]) ∧ y.tm 5 = .loc id ∧ 0 < id ∧ id < y.n ∧
  y.m id = some (.arr 41 (l.map Deed.v)) ∧ y.tm 7 = .v (.int .i64 i) ∧ y.mu = false ∧ i ≤ l.length ∧ (∀ a ∈ l.take i, s ≠ [] → deedTx a ≠ s) ∧ (e = 1 → i = l.length)
theorem deedS_two {s x r : List UInt8} (h : cutAt 32 s = [x, r]) : deedS s = [⟨3, 0, []⟩, ⟨4, 0, []⟩, ⟨0, 0, r⟩, ⟨1, digS r, []⟩, ⟨2, digS r, []⟩] := by
  unfold deedS; rw [h]; rfl
theorem deedS_not {s : List UInt8} (h : (cutAt 32 s).length ≠ 2) : deedS s = [⟨3, 0, []⟩, ⟨4, 0, []⟩] := by
  unfold deedS
  generalize cutAt 32 s = ps at h
  match ps, h with
  | [], _ => rfl
  | [_], _ => rfl
  | [_, _], h => exact absurd rfl h
  | _ :: _ :: _ :: _, _ => rfl
theorem readDeedS_fn (s : List UInt8) (hl : s.length ≤ 2000000000) : FnZ Tryz.prog 23 [.str s] (optD (readD s)) := by
  have hcut := l1Cut_fn s 32 hl
  have e32 : (((32 : UInt8).toNat : Nat) : Int) = 32 := rfl
  rw [e32] at hcut
  have hno := readD_none' (s := s)
  have hyes : ∀ a, s ≠ [] → deedTx a = s → readD s = some a := fun a => readD_some
  have hlen : ∀ a ∈ deedS s, a.words.length ≤ 2000000000 := by
    by_cases h2 : (cutAt 32 s).length = 2
    · have h3 : ∃ x rest, cutAt 32 s = [x, rest] := by
        generalize cutAt 32 s = ps at h2
        match ps, h2 with
        | [x, r], _ => exact ⟨x, r, rfl⟩
      obtain ⟨x, r, h5⟩ := h3
      have hrl : r.length ≤ s.length := cutAt_piece (c := 32) (by rw [h5]; simp)
      rw [deedS_two h5]
      intro a ha
      simp only [List.mem_cons, List.mem_nil_iff, or_false] at ha
      rcases ha with rfl | rfl | rfl | rfl | rfl <;> simp <;> omega
    · rw [deedS_not h2]
      intro a ha
      simp only [List.mem_cons, List.mem_nil_iff, or_false] at ha
      rcases ha with rfl | rfl <;> simp
  have hll : (deedS s).length ≤ 5 := by
    by_cases h2 : (cutAt 32 s).length = 2
    · have h3 : ∃ x rest, cutAt 32 s = [x, rest] := by
        generalize cutAt 32 s = ps at h2
        match ps, h2 with
        | [x, r], _ => exact ⟨x, r, rfl⟩
      obtain ⟨x, r, h5⟩ := h3
      rw [deedS_two h5]; simp
    · rw [deedS_not h2]; simp
  by_cases h2 : (cutAt 32 s).length = 2
  case pos =>
    have h3 : ∃ x rest, cutAt 32 s = [x, rest] := by
      generalize cutAt 32 s = ps at h2
      match ps, h2 with
      | [x, r], _ => exact ⟨x, r, rfl⟩
    refine h3.elim fun x h4 => h4.elim fun r h5 => ?_
    clear h3 h4 h2
    have hrl : r.length ≤ s.length := cutAt_piece (c := 32) (by rw [h5]; simp)
    have hdg := l1Digits_fn r (by omega)
    have hds := deedS_two h5
    rw [h5] at hcut
    generalize deedS s = l at *
    generalize digS r = D at *
    clear h5
    refine FnZ_of (rs := [.cell 2 41, .tmp 3]) false Tryz.func23 rfl rfl rfl rfl (Nat.le_of_ble_eq_true rfl) ?_
    simp -dsimp
    refine call_ hcut (by simp -dsimp) ?_
    simp -dsimp
    refine call_ hdg (by simp -dsimp) ?_
    simp -dsimp
    refine twp_loopC (Isrd s l 0) (fun y => l.length - natOf (y.tm 7)) (Isrd s l 1) ?_ ?_ ?_
    · refine ⟨0, _, by simp -dsimp, by simp -dsimp, by simp -dsimp, by simp -dsimp; rfl, by simp -dsimp, by simp -dsimp, by simp -dsimp [hds], by simp -dsimp, by simp -dsimp, by omega, by simp, by simp⟩
    · rintro y ⟨i, id, t0, t2, m0, t5, hid0, hid, hm, t7, hmu, hi, hall, hend⟩
      by_cases hlt : i < l.length
      case neg =>
        simp -dsimp [t5, t7, hm, hlt]
        exact ⟨i, id, by simp -dsimp [t0], by simp -dsimp [t2], by simp -dsimp [m0], by simp -dsimp [t5], hid0, by simp -dsimp [hid], by simp -dsimp [hm], by simp -dsimp [t7], by simp -dsimp [hmu], hi, hall, fun _ => by omega⟩
      have hget : (l.map Deed.v)[i]? = some (l[i].v) := by simp [hlt]
      have wi : IntKind.wrap .i64 ((i : Int) + 1) = ((i + 1 : Nat) : Int) := by rw [w64 (by omega) (by omega)]; omega
      have hmu1 : l.length - (i + 1) < l.length - i := by omega
      have hdt := deedTextS_fn l[i] (hlen _ (List.getElem_mem _))
      have f0 := far (show 0 < y.n by omega)
      have f1 := far hid
      by_cases hs : s = []
      · have hnx : ∀ a ∈ l.take (i + 1), s ≠ [] → deedTx a ≠ s := fun a _ h => absurd hs h
        simp -dsimp [t0, t5, t7, hm, hlt, hs, wi, hmu1]
        exact ⟨i + 1, id, by simp -dsimp [t0, hs], by simp -dsimp [t2], by simp -dsimp [m0], by simp -dsimp [t5], hid0, by simp -dsimp [hid], by simp -dsimp [hm], by simp -dsimp, by simp -dsimp [hmu], by omega, fun a _ h => absurd rfl h, by simp⟩
      · by_cases he : deedTx l[i] = s
        · rw [hyes _ hs he]
          rw [he] at hdt
          simp -dsimp [t0, t5, t7, hm, hlt, hs, hget]
          refine call_ hdt (by simp -dsimp) ?_
          simp -dsimp [t0, t2, t5, t7, m0, hm, hget, hlt, f0, f1, optD]
        · have hnx : ∀ a ∈ l.take (i + 1), s ≠ [] → deedTx a ≠ s := fun a ha h => by
            rw [List.take_succ_eq_append_getElem hlt] at ha
            rcases List.mem_append.1 ha with ha | ha
            · exact hall a ha h
            · rw [List.mem_singleton.1 ha]; exact he
          simp -dsimp [t0, t5, t7, hm, hlt, hs, hget]
          refine call_ hdt (by simp -dsimp) ?_
          simp -dsimp [t0, he, t7, wi, hmu1]
          exact ⟨i + 1, id, by simp -dsimp [t0], by simp -dsimp [t2], by simp -dsimp [m0], by simp -dsimp [t5], hid0, by simp -dsimp [hid], by simp -dsimp [hm], by simp -dsimp, by simp -dsimp [hmu], by omega, hnx, by simp⟩
    · rintro y ⟨i, id, t0, t2, m0, t5, hid0, hid, hm, t7, hmu, hi, hall, hend⟩
      have hil := hend rfl
      rw [hil, List.take_length] at hall
      rw [hno hall]
      have f0 := far (show 0 < y.n by omega)
      simp -dsimp [t2, m0, f0, optD]
  case neg =>
    have h2' : ¬ ((cutAt 32 s).length : Int) = 2 := by omega
    have hds := deedS_not h2
    generalize deedS s = l at *
    refine FnZ_of (rs := [.cell 2 41, .tmp 3]) false Tryz.func23 rfl rfl rfl rfl (Nat.le_of_ble_eq_true rfl) ?_
    simp -dsimp
    refine call_ hcut (by simp -dsimp) ?_
    simp -dsimp [h2, h2']
    refine twp_loopC (Isrd s l 0) (fun y => l.length - natOf (y.tm 7)) (Isrd s l 1) ?_ ?_ ?_
    · refine ⟨0, _, by simp -dsimp, by simp -dsimp, by simp -dsimp, by simp -dsimp; rfl, by simp -dsimp, by simp -dsimp, by simp -dsimp [hds], by simp -dsimp, by simp -dsimp, by omega, by simp, by simp⟩
    · rintro y ⟨i, id, t0, t2, m0, t5, hid0, hid, hm, t7, hmu, hi, hall, hend⟩
      by_cases hlt : i < l.length
      case neg =>
        simp -dsimp [t5, t7, hm, hlt]
        exact ⟨i, id, by simp -dsimp [t0], by simp -dsimp [t2], by simp -dsimp [m0], by simp -dsimp [t5], hid0, by simp -dsimp [hid], by simp -dsimp [hm], by simp -dsimp [t7], by simp -dsimp [hmu], hi, hall, fun _ => by omega⟩
      have hget : (l.map Deed.v)[i]? = some (l[i].v) := by simp [hlt]
      have wi : IntKind.wrap .i64 ((i : Int) + 1) = ((i + 1 : Nat) : Int) := by rw [w64 (by omega) (by omega)]; omega
      have hmu1 : l.length - (i + 1) < l.length - i := by omega
      have hdt := deedTextS_fn l[i] (hlen _ (List.getElem_mem _))
      have f0 := far (show 0 < y.n by omega)
      have f1 := far hid
      by_cases hs : s = []
      · have hnx : ∀ a ∈ l.take (i + 1), s ≠ [] → deedTx a ≠ s := fun a _ h => absurd hs h
        simp -dsimp [t0, t5, t7, hm, hlt, hs, wi, hmu1]
        exact ⟨i + 1, id, by simp -dsimp [t0, hs], by simp -dsimp [t2], by simp -dsimp [m0], by simp -dsimp [t5], hid0, by simp -dsimp [hid], by simp -dsimp [hm], by simp -dsimp, by simp -dsimp [hmu], by omega, fun a _ h => absurd rfl h, by simp⟩
      · by_cases he : deedTx l[i] = s
        · rw [hyes _ hs he]
          rw [he] at hdt
          simp -dsimp [t0, t5, t7, hm, hlt, hs, hget]
          refine call_ hdt (by simp -dsimp) ?_
          simp -dsimp [t0, t2, t5, t7, m0, hm, hget, hlt, f0, f1, optD]
        · have hnx : ∀ a ∈ l.take (i + 1), s ≠ [] → deedTx a ≠ s := fun a ha h => by
            rw [List.take_succ_eq_append_getElem hlt] at ha
            rcases List.mem_append.1 ha with ha | ha
            · exact hall a ha h
            · rw [List.mem_singleton.1 ha]; exact he
          simp -dsimp [t0, t5, t7, hm, hlt, hs, hget]
          refine call_ hdt (by simp -dsimp) ?_
          simp -dsimp [t0, he, t7, wi, hmu1]
          exact ⟨i + 1, id, by simp -dsimp [t0], by simp -dsimp [t2], by simp -dsimp [m0], by simp -dsimp [t5], hid0, by simp -dsimp [hid], by simp -dsimp [hm], by simp -dsimp, by simp -dsimp [hmu], by omega, hnx, by simp⟩
    · rintro y ⟨i, id, t0, t2, m0, t5, hid0, hid, hm, t7, hmu, hi, hall, hend⟩
      have hil := hend rfl
      rw [hil, List.take_length] at hall
      rw [hno hall]
      have f0 := far (show 0 < y.n by omega)
      simp -dsimp [t2, m0, f0, optD]
end TL

/- The laws of deeds' texts. -/
set_option linter.unusedSimpArgs false
set_option linter.unusedVariables false
set_option maxRecDepth 100000
set_option maxHeartbeats 4000000
set_option pp.maxSteps 1500
namespace TL
open Go Go.Proofs
attribute [local simp] marksV storyV codeV Claim.v Place.v Deed.v
theorem readD_more {s : List UInt8} {c : UInt8} (hc : c = 32 ∨ c = 10) : readD (s ++ [c]) = none := readD_none fun b h1 h2 => by
  have hne : deedTx b ≠ [] := by rw [h2]; exact h1
  rcases deed_cases hne with ⟨w, rfl, ⟨d, hd⟩, e⟩ | ⟨n, h0, h9, rfl, e⟩ | ⟨n, h0, h9, rfl, e⟩ | ⟨rfl, e⟩ | ⟨rfl, e⟩
  · have hw : w ≠ [] := fun e0 => by rw [e0] at hd; cases hd
    have := readC_clean hd c (last_in hw (e.symm.trans h2))
    rcases hc with rfl | rfl
    · exact this.1 rfl
    · exact this.2 rfl
  · have hw : dec n ≠ [] := fun e0 => by have := (good_dec h0 h9).2.1; rw [e0] at this; cases this
    have := (good_dec h0 h9).2.2 c (last_in hw (e.symm.trans h2))
    rcases hc with rfl | rfl
    · exact this.1 rfl
    · exact this.2 rfl
  · have hw : dec n ≠ [] := fun e0 => by have := (good_dec h0 h9).2.1; rw [e0] at this; cases this
    have := (good_dec h0 h9).2.2 c (last_in hw (e.symm.trans h2))
    rcases hc with rfl | rfl
    · exact this.1 rfl
    · exact this.2 rfl
  · have := last_in (p := []) (w := txLeast) (by decide) (e.symm.trans h2)
    rcases hc with rfl | rfl <;> revert this <;> decide
  · have := last_in (p := []) (w := txBack) (by decide) (e.symm.trans h2)
    rcases hc with rfl | rfl <;> revert this <;> decide
end TL

/- What is read of a journal, in plain words. -/
set_option linter.unusedSimpArgs false
set_option linter.unusedVariables false
set_option maxRecDepth 100000
set_option maxHeartbeats 4000000
set_option pp.maxSteps 1500
namespace TL
open Go Go.Proofs
theorem cut_found {s : List UInt8} {c : UInt8} (h : (Go.Lib.cut s [c]).2.2 = true) : s = (Go.Lib.cut s [c]).1 ++ c :: (Go.Lib.cut s [c]).2.1 ∧ ∀ y ∈ (Go.Lib.cut s [c]).1, y ≠ c := by
  rcases cut_first c s with h1 | ⟨x, r, rfl, h1⟩
  · rw [cut_clean h1] at h; cases h
  · rw [cut_at h1]; exact ⟨rfl, h1⟩
/-- What ReadJournal reads, and how far. -/
noncomputable def readJF : Nat → List UInt8 → List Deed × Nat
  | 0, _ => ([], 0)
  | f + 1, s => if (Go.Lib.cut s [10]).2.2 = true then match readD (Go.Lib.cut s [10]).1 with
    | some a => (a :: (readJF f (Go.Lib.cut s [10]).2.1).1, (Go.Lib.cut s [10]).1.length + 1 + (readJF f (Go.Lib.cut s [10]).2.1).2)
    | none => ([], 0) else ([], 0)
noncomputable def readJ (s : List UInt8) : List Deed × Nat := readJF (s.length + 1) s
theorem readJF_step {f : Nat} {s : List UInt8} {a : Deed} (h : (Go.Lib.cut s [10]).2.2 = true) (ha : readD (Go.Lib.cut s [10]).1 = some a) :
    readJF (f + 1) s = (a :: (readJF f (Go.Lib.cut s [10]).2.1).1, (Go.Lib.cut s [10]).1.length + 1 + (readJF f (Go.Lib.cut s [10]).2.1).2) := by
  show (if _ then _ else _) = _
  rw [if_pos h, ha]
theorem readJF_stop {f : Nat} {s : List UInt8} (h : (Go.Lib.cut s [10]).2.2 = false ∨ readD (Go.Lib.cut s [10]).1 = none) : readJF (f + 1) s = ([], 0) := by
  show (if _ then _ else _) = _
  rcases h with h | h
  · rw [if_neg (by simp [h])]
  · rw [h]; split <;> rfl
theorem readJF_jr : ∀ (l : List Deed) (f : Nat), l.length < f → (∀ a ∈ l, deedTx a ≠ []) → readJF f (jr l deedTx) = (l, (jr l deedTx).length)
  | [], f + 1, _, _ => by
    have e : jr ([] : List Deed) deedTx = [] := rfl
    rw [e, readJF_stop (.inl (by rw [cut_clean (by simp)]))]; rfl
  | a :: l, f + 1, hf, h => by
    have h1 := h a (List.mem_cons_self ..)
    have e : jr (a :: l) deedTx = deedTx a ++ 10 :: jr l deedTx := by simp [jr]
    have hc : ∀ y ∈ deedTx a, y ≠ 10 := by
      rcases deed_cases h1 with ⟨w, rfl, ⟨d, hd⟩, e⟩ | ⟨n, h0, h9, rfl, e⟩ | ⟨n, h0, h9, rfl, e⟩ | ⟨rfl, e⟩ | ⟨rfl, e⟩ <;> rw [e]
      · intro y hy
        rcases List.mem_append.1 hy with hy | hy
        · have h10 : ∀ y ∈ txSay, y ≠ (10 : UInt8) := by decide
          exact h10 y hy
        · exact (readC_clean hd y hy).2
      · intro y hy
        rcases List.mem_append.1 hy with hy | hy
        · have h10 : ∀ y ∈ txDrop, y ≠ (10 : UInt8) := by decide
          exact h10 y hy
        · exact ((good_dec h0 h9).2.2 y hy).2
      · intro y hy
        rcases List.mem_append.1 hy with hy | hy
        · have h10 : ∀ y ∈ txPeople, y ≠ (10 : UInt8) := by decide
          exact h10 y hy
        · exact ((good_dec h0 h9).2.2 y hy).2
      · decide
      · decide
    have ih := readJF_jr l f (by simp at hf; omega) fun b hb => h b (List.mem_cons_of_mem _ hb)
    have hcut := cut_at (r := jr l deedTx) hc
    rw [e, readJF_step (a := a) (by rw [hcut]) (by rw [hcut]; exact readD_some h1 rfl), hcut]
    simp only
    rw [ih]
    simp only [List.length_append, List.length_cons]
    congr 1; omega
theorem jr_long : ∀ (l : List Deed), l.length ≤ (jr l deedTx).length
  | [] => by simp
  | a :: l => by
    have := jr_long l
    have e : jr (a :: l) deedTx = deedTx a ++ 10 :: jr l deedTx := by simp [jr]
    rw [e]; simp only [List.length_append, List.length_cons]; omega
theorem readJ_jr {l : List Deed} (h : ∀ a ∈ l, deedTx a ≠ []) : readJ (jr l deedTx) = (l, (jr l deedTx).length) := readJF_jr l _ (by have := jr_long l; omega) h
end TL

/- Journals read. -/
set_option linter.unusedSimpArgs false
set_option linter.unusedVariables false
set_option maxRecDepth 100000
set_option maxHeartbeats 4000000
set_option pp.maxSteps 1500
namespace TL
open Go Go.Proofs
attribute [local simp] marksV storyV codeV Claim.v Place.v Deed.v
def Irj (s : List UInt8) (J : List Deed × Nat) (y : S) : Prop := ∃ (pos id f : Nat) (l : List Deed), y.tm 0 = .v (.str s) ∧ y.tm 4 = .loc id ∧ id < y.n ∧ y.m id = some (.arr 41 (l.map Deed.v)) ∧ y.tm 5 = .v (.int .i64 pos) ∧ y.mu = false ∧ pos ≤ s.length ∧ l.length ≤ pos ∧
  (s.drop pos).length < f ∧ l ++ (readJF f (s.drop pos)).1 = J.1 ∧ pos + (readJF f (s.drop pos)).2 = J.2
theorem readJournal_fn (s : List UInt8) (hl : s.length ≤ 2000000000) : FnZ Tryz.prog 5 [.str s] (.tup [.sl ((readJ s).1.map Deed.v), .int .i64 (readJ s).2]) := by
  generalize hJ : readJ s = J
  refine FnZ_of (rs := [.tmp 2, .tmp 3]) false Tryz.func5 rfl rfl rfl rfl (Nat.le_of_ble_eq_true rfl) ?_
  simp -dsimp
  refine twp_loop (Irj s J) (fun y => s.length - natOf (y.tm 5)) ?_ ?_
  · exact ⟨0, 0, s.length + 1, [], by simp -dsimp, by simp -dsimp, by simp -dsimp, by simp -dsimp, by simp -dsimp, by simp -dsimp, by omega, by simp, by simp, by rw [← hJ]; rfl, by rw [← hJ]; simp [readJ]⟩
  · rintro y ⟨pos, id, f, l, t0, t4, hid, hm, t5, hmu, hpos, hll, hf, hj1, hj2⟩
    have hcut := cut_fn (s.drop pos) [10] (by rw [List.length_drop]; omega)
    have hpos' : (pos : Int) ≤ s.length := by omega
    have f1 := far hid
    have hstop : (Go.Lib.cut (s.drop pos) [10]).2.2 = false ∨ readD (Go.Lib.cut (s.drop pos) [10]).1 = none → J = (l, pos) := fun h => by
      cases f with
      | zero => simp at hf
      | succ f =>
        rw [readJF_stop h] at hj1 hj2
        obtain ⟨J1, J2⟩ := J
        simp at hj1 hj2
        rw [← hj1, ← hj2]
    have hgo : ∀ a, (Go.Lib.cut (s.drop pos) [10]).2.2 = true → readD (Go.Lib.cut (s.drop pos) [10]).1 = some a → ∃ g, pos + ((Go.Lib.cut (s.drop pos) [10]).1.length + 1) ≤ s.length ∧ (s.drop (pos + ((Go.Lib.cut (s.drop pos) [10]).1.length + 1))).length < g ∧
        (l ++ [a]) ++ (readJF g (s.drop (pos + ((Go.Lib.cut (s.drop pos) [10]).1.length + 1)))).1 = J.1 ∧ pos + ((Go.Lib.cut (s.drop pos) [10]).1.length + 1) + (readJF g (s.drop (pos + ((Go.Lib.cut (s.drop pos) [10]).1.length + 1)))).2 = J.2 := fun a h ha => by
      cases f with
      | zero => simp at hf
      | succ f =>
        rw [readJF_step h ha] at hj1 hj2
        obtain ⟨e, _⟩ := cut_found h
        have e2 : s.drop (pos + ((Go.Lib.cut (s.drop pos) [10]).1.length + 1)) = (Go.Lib.cut (s.drop pos) [10]).2.1 := by
          rw [← List.drop_drop]
          generalize Go.Lib.cut (s.drop pos) [10] = C at *
          rw [e, List.drop_append, List.drop_of_length_le (by omega)]
          have : C.1.length + 1 - C.1.length = 1 := by omega
          rw [this]; simp
        have e3 := congrArg List.length e
        rw [List.length_append, List.length_cons, List.length_drop] at e3
        have e4 := congrArg List.length e2
        rw [List.length_drop] at e4
        refine ⟨f, by omega, by rw [List.length_drop] at hf ⊢; omega, ?_, ?_⟩
        · rw [e2, ← hj1]; simp
        · rw [e2, ← hj2]; simp only; omega
    have hwl : (Go.Lib.cut (s.drop pos) [10]).1.length ≤ s.length := by
      unfold Go.Lib.cut
      split
      · simp only [List.length_take, List.length_drop]; omega
      · simp only [List.length_drop]; omega
    have hrd := readDeed_fn (Go.Lib.cut (s.drop pos) [10]).1 (by omega)
    generalize (Go.Lib.cut (s.drop pos) [10]).2.1 = r at *
    generalize (Go.Lib.cut (s.drop pos) [10]).2.2 = fd at *
    generalize (Go.Lib.cut (s.drop pos) [10]).1 = w at *
    generalize readD w = o at *
    cases fd with
    | false =>
      have hst := hstop (.inl rfl)
      rw [hst]
      simp -dsimp [t0, t5, hpos, hpos']
      refine call_ hcut (by simp -dsimp) ?_
      simp -dsimp
      refine call_ hrd (by simp -dsimp) ?_
      simp -dsimp [optD, t4, t5, hm, f1]
    | true =>
      cases o with
      | none =>
        have hst := hstop (.inr rfl)
        rw [hst]
        simp -dsimp [t0, t5, hpos, hpos']
        refine call_ hcut (by simp -dsimp) ?_
        simp -dsimp
        refine call_ hrd (by simp -dsimp) ?_
        simp -dsimp [optD, t4, t5, hm, f1]
      | some a =>
        have hg := hgo a rfl rfl
        clear hgo hstop
        refine hg.elim fun g hg => ?_
        obtain ⟨g1, g2, g3, g4⟩ := hg
        have b1 : (l.length + 1) * 32 ≤ 140737488355328 := by omega
        have w1 : IntKind.wrap .i64 ((w.length : Int) + 1) = (w.length : Int) + 1 := w64 (by omega) (by omega)
        have w2 : IntKind.wrap .i64 ((pos : Int) + ((w.length : Int) + 1)) = ((pos + (w.length + 1) : Nat) : Int) := by rw [w64 (by omega) (by omega)]; omega
        have hmu1 : s.length - (pos + (w.length + 1)) < s.length - pos := by omega
        have hT : ((pos : Int) + ((w.length : Int) + 1)).toNat = pos + (w.length + 1) := by omega
        simp -dsimp [t0, t5, hpos, hpos']
        refine call_ hcut (by simp -dsimp) ?_
        simp -dsimp
        refine call_ hrd (by simp -dsimp) ?_
        simp -dsimp [optD, t4, t5, hm, f1, hmu, b1, w1, w2, hT, hmu1, nes]
        refine st_out fun s' ht hm' hn' hu' => ?_
        have a0 := ht 0
        have a4 := ht 4
        have a5 := ht 5
        simp -dsimp [t0, w2] at a0 a4 a5 hm' hn' hu'
        clear ht
        refine ⟨pos + (w.length + 1), _, g, l ++ [a], a0, a4, by omega, ?_, a5, by rw [hu', hmu], g1, by simp; omega, g2, g3, g4⟩
        simp [hm', nes, f1]
end TL

/- The law of journals' texts. -/
set_option linter.unusedSimpArgs false
set_option linter.unusedVariables false
set_option maxRecDepth 100000
set_option maxHeartbeats 4000000
set_option pp.maxSteps 1500
namespace TL
open Go Go.Proofs
attribute [local simp] marksV storyV codeV Claim.v Place.v Deed.v
def IsameDeeds (a b : List Deed) (e : Nat) (s : S) : Prop := ∃ i : Nat, s.tm 0 = .v (.sl (a.map Deed.v)) ∧ s.tm 1 = .v (.sl (b.map Deed.v)) ∧ s.tm 5 = .v (.int .i64 i) ∧ i ≤ a.length ∧ a.take i = b.take i ∧ (e = 1 → i = a.length)
theorem sameDeeds_fn (a b : List Deed) (hl : a.length ≤ 1048576) : FnZ Tryz.prog 7 [.sl (a.map Deed.v), .sl (b.map Deed.v)] (.bool (decide (a = b))) := by
  refine FnZ_of (rs := [.tmp 4]) false Tryz.func7 rfl rfl rfl rfl (Nat.le_of_ble_eq_true rfl) ?_
  by_cases hn : a.length = b.length
  case neg =>
    have e : decide (a = b) = false := by simp; rintro rfl; exact hn rfl
    have hn' : ¬ (a.length : Int) = b.length := by omega
    simp -dsimp [hn, hn', e]
  simp -dsimp [hn]
  refine twp_loopC (IsameDeeds a b 0) (fun s => a.length - natOf (s.tm 5)) (IsameDeeds a b 1) ?_ ?_ ?_
  · exact ⟨0, by simp -dsimp, by simp -dsimp, by simp -dsimp, by omega, by simp, by simp⟩
  · rintro s ⟨i, h0, h1, h5, hi, htk, hend⟩
    by_cases hlt : i < a.length
    case neg =>
      have hlt2 : ¬ i < b.length := by omega
      simp -dsimp [h0, h5, hlt, hlt2, hn]
      exact ⟨i, by simp -dsimp [h0], by simp -dsimp [h1], by simp -dsimp [h5], hi, htk, fun _ => by omega⟩
    have hlt2 : i < b.length := by omega
    have hgeta : (a.map Deed.v)[i]? = some (a[i].v) := by simp [hlt]
    have hgetb : (b.map Deed.v)[i]? = some (b[i].v) := by simp [hlt2]
    have wi : IntKind.wrap .i64 ((i : Int) + 1) = ((i + 1 : Nat) : Int) := by rw [w64 (by omega) (by omega)]; omega
    have hmu : a.length - (i + 1) < a.length - i := by omega
    have hmu2 : b.length - (i + 1) < b.length - i := by omega
    have hne : ¬ a[i] = b[i] → decide (a = b) = false := fun h => by
      simp; rintro rfl; exact h rfl
    have heq : a[i].kind = b[i].kind → a[i].num = b[i].num → a[i].words = b[i].words → a[i] = b[i] := fun x y z => by
      cases h1 : a[i]; cases h2 : b[i]; rw [h1, h2] at x y z; simp only at x y z; rw [x, y, z]
    simp -dsimp [h0, h5, hlt, hlt2, hn]
    refine twp_draw (List.range 9) [] (List.replicate 9 []) (List.replicate 9 []) (by kernel_rfl) (by kernel_rfl) (by kernel_rfl) (by kernel_rfl) ?_
    by_cases q1 : a[i].kind = b[i].kind
    case neg =>
      have e := hne fun h => q1 (by rw [h])
      simp -dsimp [List.range_succ, h0, h1, h5, hlt, hlt2, hgeta, hgetb, q1, e]
    by_cases q2 : a[i].num = b[i].num
    case neg =>
      have e := hne fun h => q2 (by rw [h])
      simp -dsimp [List.range_succ, h0, h1, h5, hlt, hlt2, hgeta, hgetb, q1, q2, e]
    by_cases q3 : a[i].words = b[i].words
    case neg =>
      have e := hne fun h => q3 (by rw [h])
      simp -dsimp [List.range_succ, h0, h1, h5, hlt, hlt2, hgeta, hgetb, q1, q2, q3, e]
    have htk2 := take_eq_succ hlt hlt2 htk (heq q1 q2 q3)
    simp -dsimp [List.range_succ, h0, h1, h5, hlt, hlt2, hgeta, hgetb, q1, q2, q3, wi, hmu, hmu2]
    exact ⟨i + 1, by simp -dsimp [h0], by simp -dsimp [h1], by simp -dsimp, by omega, htk2, by simp⟩
  · rintro s ⟨i, h0, h1, h5, hi, htk, hend⟩
    have := hend rfl
    subst this
    rw [List.take_length, hn, List.take_length] at htk
    have e : decide (a = b) = true := by simpa using htk
    simp -dsimp [e]
/-! Drawn rows of deeds. -/
def SomeDeeds (x : V) : Prop := ∃ l : List Deed, l.length ≤ 10 + 1 ∧ (∀ a ∈ l, a.words.length ≤ 200) ∧ x = .sl (l.map Deed.v)
def SomeDeeds0 (x : V) : Prop := ∃ l : List Deed, l.length ≤ 10 ∧ (∀ a ∈ l, a.words.length ≤ 200) ∧ x = .sl (l.map Deed.v)
def DLI (m0 : Mem) (n0 rid : Nat) (bs : List UInt8) (p : Nat) (q : Place) (e : Nat) (s : S) : Prop := ∃ (c id p' : Nat) (l : List Deed), s.tm 0 = .ptr rid 0 ∧ s.tm 3 = .ptr n0 0 ∧ s.m n0 = some (.box 30 2 [.v (.int .i64 q.people), .v (storyV q.story)]) ∧
  s.tm 5 = .loc id ∧ s.tm 6 = .v (.int .i64 c) ∧ s.mu = false ∧ n0 < id ∧ id < s.n ∧ s.m id = some (.arr 41 (l.map Deed.v)) ∧ l.length + c ≤ 5 ∧ p ≤ p' ∧ p' + 100 * c ≤ p + 600 ∧ (∀ a ∈ l, a.words.length ≤ 200) ∧ s.m rid = some (rdB bs p') ∧ (∀ j, j < n0 → j ≠ rid → s.m j = m0 j) ∧ (e = 1 → c = 0)
theorem deeds_z (bs : List UInt8) (p : Nat) (hp : p < 500000000) (q : Place) (hq : q.story.length ≤ 1000) (m : Mem) (n rid : Nat) (hr : rid < n) (hm : m rid = some (rdB bs p)) :
    FnS Tryz.prog 26 m n [.ptr rid 0, .v q.v] (Draws SomeDeeds0 700 m n rid bs p) := by
  refine Draws_of hr ⟨_, Tryz.func26, rfl, rfl⟩ fun hfr => ?_
  refine FnS_of (rs := [.tmp 4]) false Tryz.func26 rfl rfl rfl rfl (Nat.le_of_ble_eq_true rfl) ?_
  have f1 := far hr
  simp -dsimp
  refine callS_ (pick_at bs p (by omega) _ _ _ rid (by simp [hm, f1])) ?_
  rintro t m1 n1 ⟨hn1, ⟨r, rfl, hr0, hr1⟩, rfl⟩
  have hr1 := hr1 (by decide)
  obtain ⟨r, rfl⟩ := Int.eq_ofNat_of_zero_le hr0
  have f2 := far (show rid < n1 by omega)
  have f3 := far (show n < n1 by omega)
  simp -dsimp
  refine twp_loopC (DLI m n rid bs p q 0) (fun s => natOf (s.tm 6)) (DLI m n rid bs p q 1) ?_ ?_ ?_
  · refine ⟨r, n + 1, p + 1, [], by simp -dsimp, by simp -dsimp, by simp -dsimp [f1], by simp -dsimp, by simp -dsimp, by simp -dsimp, by omega, by simp -dsimp <;> omega, by simp -dsimp [f1], by simp; omega, by omega, by omega, by simp, by simp -dsimp [f1], fun j j1 j2 => ?_, by simp⟩
    simp -dsimp [far j1, j2]
  · rintro s ⟨c, id, p', l, t0, t3, m0, t5, t6, hmu, hid0, hid, mid, hlc, hp0, hp1, hw, mrd, hout, hend⟩
    by_cases hc : 0 < c
    case neg =>
      have hc0 : c = 0 := by omega
      simp -dsimp [t6, hc, hc0]
      exact ⟨c, id, p', l, by simp -dsimp [t0], by simp -dsimp [t3], by simp -dsimp [m0], by simp -dsimp [t5], by simp -dsimp [t6], by simp -dsimp [hmu], hid0, by simp -dsimp [hid], by simp -dsimp [mid], hlc, hp0, hp1, hw, by simp -dsimp [mrd], fun j j1 j2 => by simp -dsimp [hout j j1 j2], fun _ => hc0⟩
    have d0 : ¬ rid = id := by omega
    have d1 : ¬ id = rid := by omega
    have d2 : ¬ n = id := by omega
    have d3 : ¬ n = rid := by omega
    have d4 : ¬ id = n := by omega
    have h1 := far hid
    have h2 := far (show rid < s.n by omega)
    have h3 := far (show n < s.n by omega)
    have wc : IntKind.wrap .i64 ((c : Int) - 1) = ((c - 1 : Nat) : Int) := by rw [w64 (by omega) (by omega)]; omega
    have hmu1 : c - 1 < c := by omega
    have b1 : (l.length + 1) * 32 ≤ 140737488355328 := by omega
    simp -dsimp [t0, t3, t5, t6, m0, hc]
    refine callS_ (deed_zA bs p' (by omega) q hq _ _ rid (by omega) (by simp [mrd])) ?_
    rintro t m2 n2 ⟨hn2, ⟨x, ⟨a, ha, rfl⟩, rfl⟩, p3, hp3, hp4, rfl⟩
    have h4 := far (show id < n2 by omega)
    have h5 := far (show rid < n2 by omega)
    have h6 := far (show n < n2 by omega)
    simp -dsimp [t0, t3, t5, t6, hmu, mid, d0, d1, d2, d3, d4, h4, h5, h6, b1, wc, hmu1, nes]
    refine st_out fun s' ht hm' hn' hu' => ?_
    have a0 := ht 0
    have a3 := ht 3
    have a5 := ht 5
    have a6 := ht 6
    simp -dsimp [t0, t3, wc] at a0 a3 a5 a6 hm' hn' hu'
    clear ht
    refine ⟨c - 1, _, p3, l ++ [a], a0, a3, by simp [hm', d2, d3, h6, m0], a5, a6, by rw [hu', hmu], by omega, by omega, ?_, by simp; omega, by omega, by omega, fun b hb => ?_, by simp [hm', d0, h5], fun j j1 j2 => ?_, by simp⟩
    · simp [hm', nes]
    · rcases List.mem_append.1 hb with hb | hb
      · exact hw b hb
      · rw [List.mem_singleton.1 hb]; exact ha
    · simp [hm', show ¬ j = id by omega, far (show j < n2 by omega), j2, hout j j1 j2]
  · rintro s ⟨c, id, p', l, t0, t3, m0, t5, t6, hmu, hid0, hid, mid, hlc, hp0, hp1, hw, mrd, hout, hend⟩
    simp -dsimp [t5]
    refine ⟨by omega, ⟨_, by simp -dsimp [mid, show n ≤ id by omega], l, by omega, hw, rfl⟩, hout, p', by omega, by omega, mrd⟩
/-- Rows of deeds of the caller's own. -/
def OwnDeeds (m : Mem) (n rid : Nat) (bs : List UInt8) (p : Nat) (t : T) (m' : Mem) (n' : Nat) : Prop := ∃ (id p' : Nat) (l : List Deed), t = .loc id ∧ n ≤ id ∧ id < n' ∧ m' id = some (.arr 41 (l.map Deed.v)) ∧ l.length ≤ 10 ∧ (∀ a ∈ l, a.words.length ≤ 200) ∧
  m' rid = some (rdB bs p') ∧ p ≤ p' ∧ p' ≤ p + 1000 ∧ (∀ j, j < n → j ≠ rid → m' j = m j) ∧ n ≤ n'
def WLI (m0 : Mem) (n0 rid : Nat) (bs : List UInt8) (p : Nat) (l : List Deed) (e : Nat) (s : S) : Prop := ∃ (i id : Nat) (w : List Deed), s.tm 0 = .ptr rid 0 ∧ s.tm 3 = .loc id ∧ s.tm 4 = .v (.sl (l.map Deed.v)) ∧ s.tm 5 = .v (.int .i64 i) ∧ s.mu = false ∧ n0 ≤ id ∧ id < s.n ∧ i ≤ l.length ∧
  s.m id = some (.arr 41 (w.map Deed.v)) ∧ w.length ≤ i ∧ (∀ a ∈ w, a.words.length ≤ 200) ∧ s.m rid = some (rdB bs p) ∧ (∀ j, j < n0 → j ≠ rid → s.m j = m0 j) ∧ (e = 1 → i = l.length)
theorem written_z (bs : List UInt8) (p : Nat) (hp : p < 400000000) (m : Mem) (n rid : Nat) (hr : rid < n) (hm : m rid = some (rdB bs p)) :
    FnS Tryz.prog 18 m n [.ptr rid 0] (OwnDeeds m n rid bs p) := by
  refine FnS_of (rs := [.tmp 2]) false Tryz.func18 rfl rfl rfl rfl (Nat.le_of_ble_eq_true rfl) ?_
  have f1 := far hr
  simp -dsimp
  refine callS_ (place_z bs p (by omega) 0 (by omega) (by omega) _ _ rid (by omega) (by simp [hm, f1])) ?_
  rintro t m1 n1 ⟨hn1, ⟨x, hx, rfl⟩, p1, hp1, hp2, rfl⟩
  obtain ⟨q, hq1, hq2, hq3, rfl⟩ := hx
  have f2 := far (show rid < n1 by omega)
  have f3 := far (show n < n1 by omega)
  simp -dsimp
  refine callS_ (deeds_z bs p1 (by omega) q (by omega) _ _ rid (by omega) (by simp)) ?_
  rintro t m2 n2 ⟨hn2, ⟨x, ⟨l, hll, hlw, rfl⟩, rfl⟩, p2, hp3, hp4, rfl⟩
  have f4 := far (show rid < n2 by omega)
  have f5 := far (show n < n2 by omega)
  have d0 : ¬ n = rid := by omega
  simp -dsimp
  refine twp_loopC (WLI m n rid bs p2 l 0) (fun s => l.length - natOf (s.tm 5)) (WLI m n rid bs p2 l 1) ?_ ?_ ?_
  · refine ⟨0, n, [], by simp -dsimp, by simp -dsimp, by simp -dsimp, by simp -dsimp, by simp -dsimp, by omega, by simp -dsimp <;> omega, by omega, by simp -dsimp [d0], by simp, by simp, by simp -dsimp, fun j j1 j2 => ?_, by simp⟩
    simp -dsimp [far j1, j2]
  · rintro s ⟨i, id, w, t0, t3, t4, t5, hmu, hid0, hid, hi, mid, hwi, hww, mrd, hout, hend⟩
    by_cases hlt : i < l.length
    case neg =>
      simp -dsimp [t4, t5, hlt]
      exact ⟨i, id, w, by simp -dsimp [t0], by simp -dsimp [t3], by simp -dsimp [t4], by simp -dsimp [t5], by simp -dsimp [hmu], hid0, by simp -dsimp [hid], hi, by simp -dsimp [mid], hwi, hww, by simp -dsimp [mrd], fun j j1 j2 => by simp -dsimp [hout j j1 j2], fun _ => by omega⟩
    have hget : (l.map Deed.v)[i]? = some (l[i].v) := by simp [hlt]
    have wi : IntKind.wrap .i64 ((i : Int) + 1) = ((i + 1 : Nat) : Int) := by rw [w64 (by omega) (by omega)]; omega
    have hmu1 : l.length - (i + 1) < l.length - i := by omega
    have hlw1 := hlw _ (List.getElem_mem hlt)
    have hdt := deedTextS_fn l[i] (by omega)
    have b1 : (w.length + 1) * 32 ≤ 140737488355328 := by omega
    have h1 := far hid
    by_cases he : deedTx l[i] = []
    · simp -dsimp [t4, t5, hlt, hget]
      refine call_ hdt (by simp -dsimp) ?_
      simp -dsimp [he, t5, wi, hmu1]
      exact ⟨i + 1, id, w, by simp -dsimp [t0], by simp -dsimp [t3], by simp -dsimp [t4], by simp -dsimp, by simp -dsimp [hmu], hid0, by simp -dsimp [hid], by omega, by simp -dsimp [mid], by omega, hww, by simp -dsimp [mrd], fun j j1 j2 => by simp -dsimp [hout j j1 j2], by simp⟩
    · have d1 : id = rid → False := by
        intro h; rw [h, mrd] at mid; cases mid
      have d2 : ¬ rid = id := fun h => d1 h.symm
      have h2 := far (show rid < s.n by omega)
      generalize deedTx l[i] = tx at *
      simp -dsimp [t4, t5, hlt, hget]
      refine call_ hdt (by simp -dsimp) ?_
      simp -dsimp [he, t3, t4, t5, hlt, hget, hmu, mid, h1, h2, d2, b1, wi, hmu1, nes]
      refine st_out fun s' ht hm' hn' hu' => ?_
      have a0 := ht 0
      have a3 := ht 3
      have a4 := ht 4
      have a5 := ht 5
      simp -dsimp [t0, t4, wi] at a0 a3 a4 a5 hm' hn' hu'
      clear ht
      refine ⟨i + 1, _, w ++ [l[i]], a0, a3, a4, a5, by rw [hu', hmu], by omega, by omega, by omega, ?_, by simp; omega, fun b hb => ?_, by simp [hm', d2, h2, mrd], fun j j1 j2 => ?_, by simp⟩
      · simp [hm', nes]
      · rcases List.mem_append.1 hb with hb | hb
        · exact hww b hb
        · rw [List.mem_singleton.1 hb]; exact hlw1
      · simp [hm', show ¬ j = id by omega, far (show j < s.n by omega), hout j j1 j2]
  · rintro s ⟨i, id, w, t0, t3, t4, t5, hmu, hid0, hid, hi, mid, hwi, hww, mrd, hout, hend⟩
    simp -dsimp [t3]
    exact ⟨id, p2, w, rfl, hid0, hid, mid, by omega, hww, mrd, by omega, by omega, hout, by omega⟩
end TL

/- The exact laws of the texts of places, and of new stores. -/
set_option linter.unusedSimpArgs false
set_option linter.unusedVariables false
set_option maxRecDepth 100000
set_option maxHeartbeats 4000000
set_option pp.maxSteps 1500
namespace TL
open Go Go.Proofs
attribute [local simp] marksV storyV codeV Claim.v Place.v Deed.v
structure Store where
  saved : List UInt8
  log : List UInt8
  sure : Int
  deriving DecidableEq
def Store.v (s : Store) : V := .agg [.str s.saved, .str s.log, .int .i64 s.sure]
def noStore : Store := ⟨[], [], 0⟩
noncomputable def storeNew (p : Place) : Store := if placeOk p = true then ⟨placeTx p, [], 0⟩ else noStore
theorem place_ready {p : Place} (h : p.fit ∧ p.mid) (hz : ¬ (1048576 : Int) - p.bulk < 0) : p.small ∧ p.fine := by
  have hs := Place.small_of hz
  exact ⟨hs, by have := hs.1; omega, fun c hc => ⟨(h.1.2 c hc).2, by have := hs.2 c hc; unfold Claim.small at this; omega⟩⟩
end TL
