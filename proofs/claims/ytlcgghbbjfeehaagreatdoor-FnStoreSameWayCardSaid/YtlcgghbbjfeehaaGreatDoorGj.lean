/- TL: parts FnsE17s, FnsE16, FnsV1, FnsE17, FnsL3, FnsE15a, FnsE18, FnsS2, FnsV3, FnsS3, FnsV6, FnsV8, FnsV9, FnsK1, FnsE19, FnsK2, FnsM0. -/
import Derived.Test.YtlcgghbbjfeehaaGreatDoorGf
import Derived.Test.YtlcgghbbjfeehaaGreatDoorGg
import Derived.Test.YtlcgghbbjfeehaaGreatDoorGi
import Derived.Test.YtlcgghbbjfeehaaGreatDoorGh
import Derived.Test.YtlcgghbbjfeehaaGreatDoorShelfC
import Derived.Shelf.Strings.Cut
import Derived.Shelf.Strconv.AtoiAll
import Derived.Lib.SmallJoins
import Derived.WalkSmall
/- Texts that are spoilt. -/
set_option linter.unusedSimpArgs false
set_option linter.unusedVariables false
set_option maxRecDepth 100000
set_option maxHeartbeats 4000000
set_option pp.maxSteps 1500
namespace TL
open Go Go.Proofs
attribute [local simp] marksV storyV codeV Claim.v Place.v Deed.v
/-! Texts that are spoilt. -/
def SomeStr (x : V) : Prop := ∃ s : List UInt8, s.length ≤ 2000 ∧ x = .str s
theorem spoil_strs : ∃ vs : List V, vs = [.str [], .str [48], .str [32], .str [10], .str [49], .str [98, 97, 99, 107]] ∧ ∀ r : Int, 0 ≤ r → r < 6 → ∃ x : List UInt8, x.length ≤ 4 ∧ vs[r.toNat]? = some (.str x) := by
  refine ⟨_, rfl, fun r h0 h6 => ?_⟩
  have : r = 0 ∨ r = 1 ∨ r = 2 ∨ r = 3 ∨ r = 4 ∨ r = 5 := by omega
  rcases this with rfl | rfl | rfl | rfl | rfl | rfl
  · exact ⟨[], by simp, rfl⟩
  · exact ⟨[48], by simp, rfl⟩
  · exact ⟨[32], by simp, rfl⟩
  · exact ⟨[10], by simp, rfl⟩
  · exact ⟨[49], by simp, rfl⟩
  · exact ⟨[98, 97, 99, 107], by simp, rfl⟩
theorem spoil_z (bs : List UInt8) (p : Nat) (hp : p < 600000000) (s : List UInt8) (hs : s.length ≤ 1500) (m : Mem) (n rid : Nat) (hr : rid < n) (hm : m rid = some (rdB bs p)) :
    FnS Tryz.prog 80 m n [.ptr rid 0, .v (.str s)] (Draws SomeStr 10 m n rid bs p) := by
  refine Draws_of hr ⟨_, Tryz.func80, rfl, rfl⟩ fun hfr => ?_
  obtain ⟨vs, hvs, hel⟩ := spoil_strs
  refine FnS_of (rs := [.tmp 4]) false Tryz.func80 rfl rfl rfl rfl (Nat.le_of_ble_eq_true rfl) ?_
  have f1 := far hr
  by_cases h0 : s = []
  · simp -dsimp [h0]
    refine ⟨by omega, ⟨_, by simp, [10], by simp, rfl⟩, fun j j1 j2 => ?_, p, by omega, by omega, by simp [hm]⟩
    simp
  have hl0 : ¬ (s.length : Int) = 0 := fun h => h0 (List.length_eq_zero_iff.1 (by omega))
  have hl1 : 0 < s.length := List.length_pos_iff.2 h0
  simp -dsimp [h0, hl0]
  refine callS_ (pick_at bs p (by omega) _ _ _ rid (by simp [hm])) ?_
  rintro t m1 n1 ⟨hn1, ⟨k, rfl, hk0, hk1⟩, rfl⟩
  have hk1 := hk1 (by omega)
  have hkl : k ≤ (s.length : Int) := by omega
  have f2 := far (show rid < n1 by omega)
  simp -dsimp
  refine twp_draw [0, 1, 2, 4, 9, 10, 11, 12, 1003, 5, 6, 7, 8, 13, 14] [] (List.replicate 15 []) (List.replicate 15 []) (by kernel_rfl) (by kernel_rfl) (by kernel_rfl) (by kernel_rfl) ?_
  have w1 : IntKind.wrap .i64 (k + 1) = k + 1 := w64 (by omega) (by omega)
  have z0 : 0 ≤ k + 1 := by omega
  have z1 : k + 1 ≤ (s.length : Int) := by omega
  simp -dsimp [List.range_succ, f1, f2, hk0, hkl, w1, z0, z1]
  refine bld_ [(0, .str []), (1, .str [48]), (2, .str [32]), (3, .str [10]), (4, .str [49]), (5, .str [98, 97, 99, 107])] 9 vs (by simp -dsimp) (by rw [hvs]; simp -dsimp) ?_
  clear hvs
  simp -dsimp [List.range_succ, f1, f2, hk0, hkl, w1, z0, z1]
  refine callS_ (pick_at bs (p + 1) (by omega) _ _ _ rid (by simp [f1, f2])) ?_
  rintro t m2 n2 ⟨hn2, ⟨r2, rfl, hr20, hr21⟩, rfl⟩
  have hr21 := hr21 (by decide)
  refine (hel r2 hr20 hr21).elim fun x hx => ?_
  have hx1 := hx.1
  have hx2 := hx.2
  have hm1 : min k.toNat s.length = k.toNat := by omega
  have b1 : ((min k.toNat s.length : Nat) : Int) + x.length ≤ 9223372036854775807 := by omega
  have b2 : ((min k.toNat s.length : Nat) : Int) + x.length + ((s.length - (k + 1).toNat : Nat) : Int) ≤ 9223372036854775807 := by omega
  have b3 : ((min k.toNat s.length : Nat) : Int) + (x.length + ((s.length - (k + 1).toNat : Nat) : Int)) ≤ 9223372036854775807 := by omega
  simp -dsimp [List.range_succ, hr20, hx2, b1, b2, b3]
  refine ⟨by omega, ⟨_, by simp, s.take k.toNat ++ (x ++ s.drop (k + 1).toNat), by simp; omega, rfl⟩, fun j j1 j2 => ?_, p + 1 + 1, by omega, by omega, by simp⟩
  simp [far j1, j2]
end TL

/- Drawn deeds. -/
set_option linter.unusedSimpArgs false
set_option linter.unusedVariables false
set_option maxRecDepth 100000
set_option maxHeartbeats 4000000
set_option pp.maxSteps 1500
namespace TL
open Go Go.Proofs
attribute [local simp] marksV storyV codeV Claim.v Place.v Deed.v
def SomeDeed (x : V) : Prop := ∃ a : Deed, a.words.length ≤ 200 ∧ x = a.v
theorem deed_kinds : ∃ vs : List V, vs = [.int .i64 0, .int .i64 0, .int .i64 0, .int .i64 1, .int .i64 2, .int .i64 3, .int .i64 4] ∧ ∀ r : Int, 0 ≤ r → r < 7 → ∃ k : Int, 0 ≤ k ∧ k ≤ 4 ∧ vs[r.toNat]? = some (.int .i64 k) := by
  refine ⟨_, rfl, fun r h0 h6 => ?_⟩
  have : r = 0 ∨ r = 1 ∨ r = 2 ∨ r = 3 ∨ r = 4 ∨ r = 5 ∨ r = 6 := by omega
  rcases this with rfl | rfl | rfl | rfl | rfl | rfl | rfl
  · exact ⟨0, by omega, by omega, rfl⟩
  · exact ⟨0, by omega, by omega, rfl⟩
  · exact ⟨0, by omega, by omega, rfl⟩
  · exact ⟨1, by omega, by omega, rfl⟩
  · exact ⟨2, by omega, by omega, rfl⟩
  · exact ⟨3, by omega, by omega, rfl⟩
  · exact ⟨4, by omega, by omega, rfl⟩
def DI (m0 : Mem) (n0 rid : Nat) (bs : List UInt8) (p : Nat) (q : Place) (s : S) : Prop := ∃ (kind : Int) (id p' : Nat), s.tm 0 = .ptr rid 0 ∧ s.tm 3 = .ptr n0 0 ∧ s.tm 4 = .ptr (n0 + 1) 0 ∧ s.tm 5 = .ptr id 0 ∧ s.mu = false ∧ n0 + 1 < id ∧ id < s.n ∧
  s.m n0 = some (.box 37 2 [.v (.int .i64 q.people), .v (storyV q.story)]) ∧ s.m (n0 + 1) = some (.box 53 3 [.v (.int .i64 0), .v (.int .i64 0), .v (.str [])]) ∧
  s.m id = some (.box 53 3 [.v (.int .i64 kind), .v (.int .i64 0), .v (.str [])]) ∧ s.m rid = some (rdB bs p') ∧ p ≤ p' ∧ p' ≤ p + 2 ∧ (∀ j, j < n0 → j ≠ rid → s.m j = m0 j)
def DI2 (m0 : Mem) (n0 rid : Nat) (bs : List UInt8) (p : Nat) (s : S) : Prop := ∃ (kind num : Int) (words : List UInt8) (id p' : Nat), s.tm 0 = .ptr rid 0 ∧ s.tm 4 = .ptr (n0 + 1) 0 ∧ s.tm 5 = .ptr id 0 ∧ s.mu = false ∧ n0 + 1 < id ∧ id < s.n ∧
  s.m (n0 + 1) = some (.box 53 3 [.v (.int .i64 0), .v (.int .i64 0), .v (.str [])]) ∧
  s.m id = some (.box 53 3 [.v (.int .i64 kind), .v (.int .i64 num), .v (.str words)]) ∧ words.length ≤ 100 ∧ s.m rid = some (rdB bs p') ∧ p ≤ p' ∧ p' ≤ p + 60 ∧ (∀ j, j < n0 → j ≠ rid → s.m j = m0 j)
theorem sixty {r : Int} (h0 : 0 ≤ r) (h : r < 60) : ∃ k : Int, r.tdiv 59 = k ∧ 0 ≤ k ∧ k ≤ 1 := ⟨_, rfl, by rw [Int.tdiv_eq_ediv_of_nonneg h0]; omega, by rw [Int.tdiv_eq_ediv_of_nonneg h0]; omega⟩
theorem deed_zX (bs : List UInt8) (p : Nat) (hp : p < 600000000) (q : Place) (hq : q.story.length ≤ 1000) (X : T) (hX : X.cells = [.v (.int .i64 q.people), .v (storyV q.story)]) (m : Mem) (n rid : Nat) (hr : rid < n) (hm : m rid = some (rdB bs p)) :
    FnS Tryz.prog 77 m n [.ptr rid 0, X] (Draws SomeDeed 100 m n rid bs p) := by
  refine Draws_of hr ⟨_, Tryz.func77, rfl, rfl⟩ fun hfr => ?_
  obtain ⟨vs, hvs, hel⟩ := deed_kinds
  refine FnS_of (rs := [.cell 4 53]) false Tryz.func77 rfl rfl rfl rfl (Nat.le_of_ble_eq_true rfl) ?_
  have f1 := far hr
  simp -dsimp [hX]
  refine twp_cutQ (DI m n rid bs p q) ?_ ?_
  · refine twp_drawT (.run [1, 5, 1000] (.alt (.run [11, 2, 3, 4, 6, 7, 8, 9, 10, 12] .done) (.run [2, 3, 4] (.alt (.run [11, 6, 7, 8, 9, 10, 12] .done) (.run [6, 7, 8, 9, 10, 11, 12] .done))))) [] (List.replicate 13 []) (List.replicate 13 []) (by kernel_rfl) (by kernel_rfl) (by kernel_rfl) (by kernel_rfl) ?_
    simp -dsimp [List.range_succ, f1]
    refine bld_ [(0, .int .i64 0), (1, .int .i64 0), (2, .int .i64 0), (3, .int .i64 1), (4, .int .i64 2), (5, .int .i64 3), (6, .int .i64 4)] 3 vs (by simp -dsimp) (by rw [hvs]; simp -dsimp) ?_
    clear hvs
    simp -dsimp [List.range_succ, f1]
    refine ordT_both ?_ ?_
    · simp -dsimp [List.range_succ, f1]
      refine callS_ (pick_at bs p (by omega) _ _ _ rid (by simp [hm, f1])) ?_
      rintro t m1 n1 ⟨hn1, ⟨r, rfl, hr0, hr1⟩, rfl⟩
      have hr1 := hr1 (by decide)
      refine (hel r hr0 hr1).elim fun k hk => ?_
      have k0 := hk.1
      have k4 := hk.2.1
      have kg := hk.2.2
      have g1 := far (show rid < n1 by omega)
      simp -dsimp [List.range_succ, f1, hr0, kg]
      refine callS_ (pick_at bs (p + 1) (by omega) _ _ _ rid (by simp [f1, g1])) ?_
      rintro t m2 n2 ⟨hn2, ⟨r2, rfl, hr20, hr21⟩, rfl⟩
      have hr21 := hr21 (by decide)
      refine (sixty hr20 hr21).elim fun k2 hk2 => ?_
      have e2 := hk2.1
      have e20 := hk2.2.1
      have e21 := hk2.2.2
      have w1 : IntKind.wrap .i64 k2 = k2 := w64 (by omega) (by omega)
      have w2 : IntKind.wrap .i64 (k2 * 5) = k2 * 5 := w64 (by omega) (by omega)
      have w3 : IntKind.wrap .i64 (k + k2 * 5) = k + k2 * 5 := w64 (by omega) (by omega)
      have g2 := far (show rid < n2 by omega)
      have g3 := far (show n < n2 by omega)
      have g4 := far (show n + 1 < n2 by omega)
      have g5 := far (show n < n1 by omega)
      have g6 := far (show n + 1 < n1 by omega)
      have g7 := far (show n < n + 1 + 1 by omega)
      have g8 := far (show n + 1 < n + 1 + 1 by omega)
      simp -dsimp [List.range_succ, f1, g1, g2, g3, g4, e2, w1, w2, w3]
      refine ⟨k + k2 * 5, n + 1 + 1, p + 1 + 1, by simp -dsimp, by simp -dsimp, by simp -dsimp, by simp -dsimp, by simp -dsimp, by omega, by simp -dsimp <;> omega, by simp -dsimp [f1, g1, g2, g3, g4, g5, g6, g7, g8], by simp -dsimp [f1, g1, g2, g3, g4, g5, g6, g7, g8], by simp -dsimp [f1, g1, g2, g3, g4, g5, g6, g7, g8], by simp -dsimp [f1, g1, g2, g3, g4, g5, g6, g7, g8], by omega, by omega, fun j j1 j2 => ?_⟩
      simp -dsimp [far j1, far (show j < n1 by omega), far (show j < n2 by omega), j2, Ne.symm j2]
    · simp -dsimp [List.range_succ, f1]
      refine callS_ (pick_at bs p (by omega) _ _ _ rid (by simp [hm, f1])) ?_
      rintro t m1 n1 ⟨hn1, ⟨r, rfl, hr0, hr1⟩, rfl⟩
      have hr1 := hr1 (by decide)
      refine (hel r hr0 hr1).elim fun k hk => ?_
      have k0 := hk.1
      have k4 := hk.2.1
      have kg := hk.2.2
      have g1 := far (show rid < n1 by omega)
      simp -dsimp [List.range_succ, f1, hr0, kg]
      refine ordT_both ?_ ?_
      · simp -dsimp [List.range_succ, f1, g1]
        refine callS_ (pick_at bs (p + 1) (by omega) _ _ _ rid (by simp [f1, g1])) ?_
        rintro t m2 n2 ⟨hn2, ⟨r2, rfl, hr20, hr21⟩, rfl⟩
        have hr21 := hr21 (by decide)
        refine (sixty hr20 hr21).elim fun k2 hk2 => ?_
        have e2 := hk2.1
        have e20 := hk2.2.1
        have e21 := hk2.2.2
        have w1 : IntKind.wrap .i64 k2 = k2 := w64 (by omega) (by omega)
        have w2 : IntKind.wrap .i64 (k2 * 5) = k2 * 5 := w64 (by omega) (by omega)
        have w3 : IntKind.wrap .i64 (k + k2 * 5) = k + k2 * 5 := w64 (by omega) (by omega)
        have g2 := far (show rid < n2 by omega)
        have g3 := far (show n < n2 by omega)
        have g4 := far (show n + 1 < n2 by omega)
        have g5 := far (show n < n1 by omega)
        have g6 := far (show n + 1 < n1 by omega)
        have g7 := far (show n < n + 1 + 1 by omega)
        have g8 := far (show n + 1 < n + 1 + 1 by omega)
        simp -dsimp [List.range_succ, f1, g1, g2, g3, g4, e2, w1, w2, w3]
        refine ⟨k + k2 * 5, n1, p + 1 + 1, by simp -dsimp, by simp -dsimp, by simp -dsimp, by simp -dsimp, by simp -dsimp, by omega, by simp -dsimp <;> omega, by simp -dsimp [f1, g1, g2, g3, g4, g5, g6, g7, g8], by simp -dsimp [f1, g1, g2, g3, g4, g5, g6, g7, g8], by simp -dsimp [f1, g1, g2, g3, g4, g5, g6, g7, g8], by simp -dsimp [f1, g1, g2, g3, g4, g5, g6, g7, g8], by omega, by omega, fun j j1 j2 => ?_⟩
        simp -dsimp [far j1, far (show j < n1 by omega), far (show j < n2 by omega), j2, Ne.symm j2]
      · simp -dsimp [List.range_succ, f1, g1]
        refine callS_ (pick_at bs (p + 1) (by omega) _ _ _ rid (by simp [f1, g1])) ?_
        rintro t m2 n2 ⟨hn2, ⟨r2, rfl, hr20, hr21⟩, rfl⟩
        have hr21 := hr21 (by decide)
        refine (sixty hr20 hr21).elim fun k2 hk2 => ?_
        have e2 := hk2.1
        have e20 := hk2.2.1
        have e21 := hk2.2.2
        have w1 : IntKind.wrap .i64 k2 = k2 := w64 (by omega) (by omega)
        have w2 : IntKind.wrap .i64 (k2 * 5) = k2 * 5 := w64 (by omega) (by omega)
        have w3 : IntKind.wrap .i64 (k + k2 * 5) = k + k2 * 5 := w64 (by omega) (by omega)
        have g2 := far (show rid < n2 by omega)
        have g3 := far (show n < n2 by omega)
        have g4 := far (show n + 1 < n2 by omega)
        have g5 := far (show n < n1 by omega)
        have g6 := far (show n + 1 < n1 by omega)
        have g7 := far (show n < n + 1 + 1 by omega)
        have g8 := far (show n + 1 < n + 1 + 1 by omega)
        simp -dsimp [List.range_succ, f1, g1, g2, g3, g4, e2, w1, w2, w3]
        refine ⟨k + k2 * 5, n2, p + 1 + 1, by simp -dsimp, by simp -dsimp, by simp -dsimp, by simp -dsimp, by simp -dsimp, by omega, by simp -dsimp <;> omega, by simp -dsimp [f1, g1, g2, g3, g4, g5, g6, g7, g8], by simp -dsimp [f1, g1, g2, g3, g4, g5, g6, g7, g8], by simp -dsimp [f1, g1, g2, g3, g4, g5, g6, g7, g8], by simp -dsimp [f1, g1, g2, g3, g4, g5, g6, g7, g8], by omega, by omega, fun j j1 j2 => ?_⟩
        simp -dsimp [far j1, far (show j < n1 by omega), far (show j < n2 by omega), j2, Ne.symm j2]
  · intro s hs
    refine twp_cut (DI2 m n rid bs p) ?_ ?_
    · obtain ⟨kind, id, p', t0, t3, t4, t5, hmu, hid0, hid, m0, m1, mid, mrd, hp0, hp2, hout⟩ := hs
      have d0 : ¬ rid = id := by omega
      have d1 : ¬ n = id := by omega
      have d2 : ¬ n + 1 = id := by omega
      have d3 : ¬ id = rid := by omega
      have e1 : ¬ n + 1 = rid := by omega
      have e2 : ¬ rid = n + 1 := by omega
      have h1 := far hid
      have h2 := far (show rid < s.n by omega)
      have h3 := far (show n < s.n by omega)
      have h4 := far (show n + 1 < s.n by omega)
      by_cases k0 : kind = 0
      · have hpe : ∃ w : Int, max q.people 1 = w ∧ 1 ≤ w := ⟨_, rfl, by omega⟩
        have hpe2 : ∃ w : Int, min (max q.people 1) 4 = w ∧ 1 ≤ w ∧ w ≤ 4 := ⟨_, rfl, by omega, by omega⟩
        refine hpe2.elim fun w hw => ?_
        have hw1 := hw.1
        have hw2 := hw.2.1
        have hw3 := hw.2.2
        simp -dsimp [t0, t3, t4, t5, mid, m0, k0, hw1, h1, h2, h3]
        refine callS_ (claim_z bs p' (by omega) w 0 (by omega) (by omega) (by omega) _ _ rid (by omega) (by simp [mrd])) ?_
        rintro t m2 n2 ⟨hn2, ⟨x, ⟨c, cl, cf, rfl⟩, rfl⟩, p3, hp3, hp4, rfl⟩
        have hct := claimTxS_fn w c ⟨cf.2, by omega⟩
        have hcl := claimTx_short w c
        have h5 := far (show id < n2 by omega)
        generalize claimTx w c = cx at *
        simp -dsimp [t0, t3, t4, t5, mid, m0, h1, h2, h3, h5, d3]
        refine call_ hct (by simp -dsimp) ?_
        simp -dsimp [t0, t3, t4, t5, mid, m0, h1, h2, h3, h5, d3]
        refine ⟨0, 0, cx, id, p3, by simp -dsimp [t0], by simp -dsimp [t4], by simp -dsimp [t5], by simp -dsimp [hmu], hid0, by simp -dsimp <;> omega, by simp -dsimp [d2, e1, e2, m1], by simp -dsimp [k0], by omega, by simp -dsimp [d0, d3], by omega, by omega, fun j j1 j2 => ?_⟩
        simp -dsimp [show ¬ j = id by omega, j2, hout j j1 j2]
      by_cases k1 : kind = 1
      · have hl1 : ∃ w : Int, max (q.story.length : Int) 1 = w ∧ 1 ≤ w ∧ w ≤ 1000 := ⟨_, rfl, by omega, by omega⟩
        refine hl1.elim fun w hw => ?_
        have hw1 := hw.1
        have hw2 := hw.2.1
        have hw3 := hw.2.2
        simp -dsimp [t0, t3, t4, t5, mid, m0, k0, k1, hw1, h1, h2, h3]
        refine callS_ (pick_at bs p' (by omega) _ _ _ rid (by simp [mrd])) ?_
        rintro t m2 n2 ⟨hn2, ⟨r, rfl, hr0, hr1⟩, rfl⟩
        simp -dsimp [t0, t3, t4, t5, mid, m0, h1, h2, h3, d3]
        refine ⟨1, r, [], id, p' + 1, by simp -dsimp [t0], by simp -dsimp [t4], by simp -dsimp [t5], by simp -dsimp [hmu], hid0, by simp -dsimp <;> omega, by simp -dsimp [d2, e1, e2, m1], by simp -dsimp [k1], by simp, by simp -dsimp [d0, d3], by omega, by omega, fun j j1 j2 => ?_⟩
        simp -dsimp [show ¬ j = id by omega, j2, hout j j1 j2]
      by_cases k2 : kind = 2
      · simp -dsimp [t0, t3, t4, t5, mid, m0, k0, k1, k2, h1, h2, h3]
        refine callS_ (pick_at bs p' (by omega) _ _ _ rid (by simp [mrd])) ?_
        rintro t m2 n2 ⟨hn2, ⟨r, rfl, hr0, hr1⟩, rfl⟩
        have hr1 := hr1 (by decide)
        have wr : IntKind.wrap .i64 (1 + r) = 1 + r := w64 (by omega) (by omega)
        simp -dsimp [t0, t3, t4, t5, mid, m0, h1, h2, h3, d3, wr]
        refine ⟨2, 1 + r, [], id, p' + 1, by simp -dsimp [t0], by simp -dsimp [t4], by simp -dsimp [t5], by simp -dsimp [hmu], hid0, by simp -dsimp <;> omega, by simp -dsimp [d2, e1, e2, m1], by simp -dsimp [k2], by simp, by simp -dsimp [d0, d3], by omega, by omega, fun j j1 j2 => ?_⟩
        simp -dsimp [show ¬ j = id by omega, j2, hout j j1 j2]
      · simp -dsimp [t0, t3, t4, t5, mid, m0, k0, k1, k2, h1, h2, h3]
        exact ⟨kind, 0, [], id, p', by simp -dsimp [t0], by simp -dsimp [t4], by simp -dsimp [t5], by simp -dsimp [hmu], hid0, by simp -dsimp [hid], by simp -dsimp [m1], by simp -dsimp [mid], by simp, by simp -dsimp [mrd], by omega, by omega, fun j j1 j2 => by simp -dsimp [hout j j1 j2]⟩
    · rintro s ⟨kind, num, words, id, p', t0, t4, t5, hmu, hid0, hid, m1, mid, hwl, mrd, hp0, hp2, hout⟩
      have d0 : ¬ rid = id := by omega
      have d1 : ¬ n + 1 = id := by omega
      have d2 : ¬ n + 1 = rid := by omega
      have d3 : ¬ id = rid := by omega
      have d4 : ¬ id = n + 1 := by omega
      have e2 : ¬ rid = n + 1 := by omega
      have h1 := far hid
      have h2 := far (show rid < s.n by omega)
      have h4 := far (show n + 1 < s.n by omega)
      simp -dsimp [t0]
      refine callS_ (odd_at bs p' (by omega) _ (by omega) _ _ rid (by simp [mrd])) ?_
      rintro t m2 n2 ⟨hn2, ⟨b, rfl, _⟩, p3, hp3, hp4, rfl⟩
      cases b with
      | false =>
        simp -dsimp [t0, t4, t5, mid, m1, d0, d1, d2, d3, d4]
        refine ⟨by omega, ⟨_, by simp, ⟨kind, num, words⟩, by simp only; omega, rfl⟩, fun j j1 j2 => ?_, p3, by omega, by omega, by simp [d0, d1, d2, d3, d4, e2, h1, h2, h4]⟩
        simp [far j1, far (show j < s.n by omega), far (show j < n2 by omega), show ¬ j = id by omega, show ¬ j = n + 1 by omega, j2, hout j j1 j2]
      | true =>
        have h5 := far (show id < n2 by omega)
        have h6 := far (show rid < n2 by omega)
        have h7 := far (show n + 1 < n2 by omega)
        simp -dsimp [t0, t4, t5, mid, m1, d0, d1, d2, d3, d4]
        refine callS_ (pick_at bs p3 (by omega) _ _ _ rid (by simp)) ?_
        rintro t m3 n3 ⟨hn3, ⟨r, rfl, hr0, hr1⟩, rfl⟩
        have hr1 := hr1 (by decide)
        have g5 := far (show id < n3 by omega)
        have g6 := far (show rid < n3 by omega)
        have g7 := far (show n + 1 < n3 by omega)
        have hr4 : r = 0 ∨ r = 1 := by omega
        rcases hr4 with rfl | rfl
        · simp -dsimp [t0, t4, t5, mid, m1, hmu, d0, d1, d2, d3, d4, g5, g6, g7]
          refine callS_ (pick_at bs (p3 + 1) (by omega) _ _ _ rid (by simp [g6])) ?_
          rintro t m4 n4 ⟨hn4, ⟨r2, rfl, hr20, hr21⟩, rfl⟩
          have hr21 := hr21 (by decide)
          have hr5 : r2 = 0 ∨ r2 = 1 := by omega
          have g8 := far (show n3 < n4 by omega)
          rcases hr5 with rfl | rfl
          · simp -dsimp [t0, t4, t5, mid, m1, hmu, d0, d1, d2, d3, d4, g5, g6, g7, g8]
            refine ⟨by omega, ⟨_, by simp, ⟨kind, -1, words⟩, by simp only; omega, rfl⟩, fun j j1 j2 => ?_, p3 + 1 + 1, by omega, by omega, by simp [d0, d1, d2, d3, d4, e2, h1, h2, h4, g6]⟩
            simp [far j1, far (show j < s.n by omega), far (show j < n2 by omega), far (show j < n3 by omega), show ¬ j = id by omega, show ¬ j = n + 1 by omega, j2, hout j j1 j2]
          · simp -dsimp [t0, t4, t5, mid, m1, hmu, d0, d1, d2, d3, d4, g5, g6, g7, g8]
            refine ⟨by omega, ⟨_, by simp, ⟨kind, 100, words⟩, by simp only; omega, rfl⟩, fun j j1 j2 => ?_, p3 + 1 + 1, by omega, by omega, by simp [d0, d1, d2, d3, d4, e2, h1, h2, h4, g6]⟩
            simp [far j1, far (show j < s.n by omega), far (show j < n2 by omega), far (show j < n3 by omega), show ¬ j = id by omega, show ¬ j = n + 1 by omega, j2, hout j j1 j2]
        · simp -dsimp [t0, t4, t5, mid, m1, hmu, d0, d1, d2, d3, d4, g5, g6, g7]
          refine callS_ (pick_at bs (p3 + 1) (by omega) _ _ _ rid (by simp [g6])) ?_
          rintro t m4 n4 ⟨hn4, ⟨r2, rfl, hr20, hr21⟩, rfl⟩
          have hr21 := hr21 (by decide)
          have hr5 : r2 = 0 ∨ r2 = 1 ∨ r2 = 2 ∨ r2 = 3 := by omega
          have g8 := far (show n3 < n4 by omega)
          rcases hr5 with rfl | rfl | rfl | rfl
          · simp -dsimp [t0, t4, t5, mid, m1, hmu, d0, d1, d2, d3, d4, g5, g6, g7, g8]
            refine ⟨by omega, ⟨_, by simp, ⟨kind, num, [97, 58, 40, 98, 41]⟩, by simp, rfl⟩, fun j j1 j2 => ?_, p3 + 1 + 1, by omega, by omega, by simp [d0, d1, d2, d3, d4, e2, h1, h2, h4, g6]⟩
            simp [far j1, far (show j < s.n by omega), far (show j < n2 by omega), far (show j < n3 by omega), show ¬ j = id by omega, show ¬ j = n + 1 by omega, j2, hout j j1 j2]
          · simp -dsimp [t0, t4, t5, mid, m1, hmu, d0, d1, d2, d3, d4, g5, g6, g7, g8]
            refine ⟨by omega, ⟨_, by simp, ⟨kind, num, [101, 58, 97]⟩, by simp, rfl⟩, fun j j1 j2 => ?_, p3 + 1 + 1, by omega, by omega, by simp [d0, d1, d2, d3, d4, e2, h1, h2, h4, g6]⟩
            simp [far j1, far (show j < s.n by omega), far (show j < n2 by omega), far (show j < n3 by omega), show ¬ j = id by omega, show ¬ j = n + 1 by omega, j2, hout j j1 j2]
          · simp -dsimp [t0, t4, t5, mid, m1, hmu, d0, d1, d2, d3, d4, g5, g6, g7, g8]
            refine ⟨by omega, ⟨_, by simp, ⟨kind, num, [97, 32, 97]⟩, by simp, rfl⟩, fun j j1 j2 => ?_, p3 + 1 + 1, by omega, by omega, by simp [d0, d1, d2, d3, d4, e2, h1, h2, h4, g6]⟩
            simp [far j1, far (show j < s.n by omega), far (show j < n2 by omega), far (show j < n3 by omega), show ¬ j = id by omega, show ¬ j = n + 1 by omega, j2, hout j j1 j2]
          · simp -dsimp [t0, t4, t5, mid, m1, hmu, d0, d1, d2, d3, d4, g5, g6, g7, g8]
            refine ⟨by omega, ⟨_, by simp, ⟨kind, num, [97, 58]⟩, by simp, rfl⟩, fun j j1 j2 => ?_, p3 + 1 + 1, by omega, by omega, by simp [d0, d1, d2, d3, d4, e2, h1, h2, h4, g6]⟩
            simp [far j1, far (show j < s.n by omega), far (show j < n2 by omega), far (show j < n3 by omega), show ¬ j = id by omega, show ¬ j = n + 1 by omega, j2, hout j j1 j2]
theorem deed_z (bs : List UInt8) (p : Nat) (hp : p < 600000000) (q : Place) (hq : q.story.length ≤ 1000) (m : Mem) (n rid : Nat) (hr : rid < n) (hm : m rid = some (rdB bs p)) :
    FnS Tryz.prog 77 m n [.ptr rid 0, .v q.v] (Draws SomeDeed 100 m n rid bs p) := deed_zX bs p hp q hq _ rfl m n rid hr hm
theorem deed_zA (bs : List UInt8) (p : Nat) (hp : p < 600000000) (q : Place) (hq : q.story.length ≤ 1000) (m : Mem) (n rid : Nat) (hr : rid < n) (hm : m rid = some (rdB bs p)) :
    FnS Tryz.prog 77 m n [.ptr rid 0, .agg [.v (.int .i64 q.people), .v (storyV q.story)]] (Draws SomeDeed 100 m n rid bs p) := deed_zX bs p hp q hq _ rfl m n rid hr hm
end TL

/- Drawn stores. -/
set_option linter.unusedSimpArgs false
set_option linter.unusedVariables false
set_option maxRecDepth 100000
set_option maxHeartbeats 4000000
set_option pp.maxSteps 1500
namespace TL
open Go Go.Proofs
attribute [local simp] marksV storyV codeV Claim.v Place.v Deed.v Desk.v Store.v
def Store.tiny (s : Store) : Prop := s.saved.length ≤ 2000 ∧ s.log.length ≤ 2000
theorem Store.tiny.small {s : Store} (h : s.tiny) : s.small := ⟨by have := h.1; omega, by have := h.2; omega⟩
def SomeStore (x : V) : Prop := ∃ s : Store, s.tiny ∧ x = s.v
def Store.tight (s : Store) : Prop := s.saved.length ≤ 400 ∧ s.log.length ≤ 1000 ∧ 0 ≤ s.sure ∧ s.sure ≤ 1000
theorem Store.tight.small {s : Store} (h : s.tight) : s.small := ⟨by have := h.1; omega, by have := h.2.1; omega⟩
theorem noStore_tight : noStore.tight := ⟨by simp [noStore], by simp [noStore], by simp [noStore], by simp [noStore]⟩
theorem act_tight {s : Store} (h : s.tight) (a : Deed) : (storeAct s a).tight := by
  cases ha : actOk s a
  · cases ho : storeOk s
    · rw [(storeAct_out ho).1]; exact noStore_tight
    · rw [storeAct_no ha ho]; exact h
  · obtain ⟨a1, a2, a3, a4, a5, a6⟩ := act_done ha
    have := (storeOk_iff.1 a1).2.1
    exact ⟨by rw [a6]; exact h.1, this, by rw [a5]; exact h.2.2.1, by rw [a5]; exact h.2.2.2⟩
theorem sync_tight {s : Store} (h : s.tight) : (storeSync s).tight := by
  unfold storeSync; split
  · exact ⟨h.1, h.2.1, by simp, by have := h.2.1; simp only; omega⟩
  · exact noStore_tight
theorem crash_tight {s : Store} (h : s.tight) (k : Int) : (storeCrash s k).tight := by
  unfold storeCrash; split
  · exact ⟨h.1, by have := h.2.1; simp; omega, h.2.2.1, h.2.2.2⟩
  · exact noStore_tight
theorem new_tight {q : Place} (h : q.story.length ≤ 10) : (storeNew q).tight := by
  unfold storeNew; split
  · exact ⟨by have := placeTx_len q; simp only; omega, by simp, by simp, by simp⟩
  · exact noStore_tight
def sC (s : Store) : List T := [.v (.str s.saved), .v (.str s.log), .v (.int .i64 s.sure)]
structure StEnv (m0 : Mem) (n0 rid : Nat) (bs : List UInt8) (k : Int) (s : S) (id : Nat) (st : Store) (p : Nat) : Prop where
  t0 : s.tm 0 = .ptr rid 0
  t1 : s.tm 1 = .v (.int .i64 k)
  t4 : s.tm 4 = .ptr n0 0
  t5 : s.tm 5 = .ptr id 0
  mu : s.mu = false
  i0 : n0 < id
  i1 : id < s.n
  mz : s.m n0 = some (.box 25 3 [.v (.str []), .v (.str []), .v (.int .i64 0)])
  mid : s.m id = some (.box 25 3 (sC st))
  rd : s.m rid = some (rdB bs p)
  out : ∀ j, j < n0 → j ≠ rid → s.m j = m0 j
  ok : st.tight
def LSt (m0 : Mem) (n0 rid : Nat) (bs : List UInt8) (k : Int) (p : Nat) (e : Nat) (s : S) : Prop := ∃ (c id p' : Nat) (st : Store), StEnv m0 n0 rid bs k s id st p' ∧ s.tm 7 = .v (.int .i64 c) ∧ c ≤ 6 ∧ p ≤ p' ∧ p' + 103 * c ≤ p + 900 ∧ (e = 1 → c = 0)
def LS6 (m0 : Mem) (n0 rid : Nat) (bs : List UInt8) (k : Int) (p c : Nat) (s : S) : Prop := ∃ (id id10 p' : Nat) (st x : Store) (b : Bool), StEnv m0 n0 rid bs k s id st p' ∧ s.tm 7 = .v (.int .i64 c) ∧ s.tm 10 = .ptr id10 0 ∧ s.tm 11 = .v (.bool b) ∧ n0 < id10 ∧ id10 < s.n ∧ id10 ≠ id ∧
  s.m id10 = some (.box 25 3 (sC x)) ∧ x.tight ∧ p ≤ p' ∧ p' + 103 * (c - 1) + 2 ≤ p + 900
def LS9 (m0 : Mem) (n0 rid : Nat) (bs : List UInt8) (k : Int) (p c : Nat) (s : S) : Prop := ∃ (id p' : Nat) (st : Store), StEnv m0 n0 rid bs k s id st p' ∧ s.tm 7 = .v (.int .i64 c) ∧ p ≤ p' ∧ p' + 103 * (c - 1) + 2 ≤ p + 900
/-- Behind the loop. -/
def LSe (m0 : Mem) (n0 rid : Nat) (bs : List UInt8) (k : Int) (p g : Nat) (s : S) : Prop := ∃ (id p' : Nat) (st : Store), StEnv m0 n0 rid bs k s id st p' ∧ p ≤ p' ∧ p' ≤ p + g
theorem open_short (s : Store) : (storeOpen s).now.story.length ≤ 1000 := by
  unfold storeOpen; split
  · rename_i h; have := (place_fine (deskOk_iff.1 (opened_ok h)).2.1).2.2.2; omega
  · simp [noDeskV]
theorem store_z (bs : List UInt8) (p : Nat) (hp : p < 500000000) (k : Int) (hk0 : 0 ≤ k) (hk : k < 100000) (m : Mem) (n rid : Nat) (hr : rid < n) (hm : m rid = some (rdB bs p)) :
    FnS Tryz.prog 44 m n [.ptr rid 0, .v (.int .i64 k)] (Draws SomeStore 1000 m n rid bs p) := by
  refine Draws_of hr ⟨_, Tryz.func44, rfl, rfl⟩ fun hfr => ?_
  refine FnS_of (rs := [.cell 4 25]) false Tryz.func44 rfl rfl rfl rfl (Nat.le_of_ble_eq_true rfl) ?_
  have f1 := far hr
  simp -dsimp
  refine callS_ (place_z bs p (by omega) 0 (by omega) (by omega) _ _ rid (by omega) (by simp [hm, f1])) ?_
  rintro t m1 n1 ⟨hn1, ⟨x, ⟨q, hq1, hq2, hq3, rfl⟩, rfl⟩, p1, hp1, hp2, rfl⟩
  have fine : q.fine := ⟨by omega, fun c hc => ⟨(hq3.2 c hc).2, by have := hq2 c hc; omega⟩⟩
  have hnew := storeNewS_fn q fine
  have htn := new_tight hq1
  generalize storeNew q = X at *
  generalize placeOk q = okq at *
  obtain ⟨x1, x2, x3⟩ := X
  have g1 := far (show rid < n1 by omega)
  have g2 := far (show n < n1 by omega)
  have g3 : ¬ n = rid := by omega
  simp -dsimp [g1, g2, g3]
  refine call_ hnew (by simp -dsimp) ?_
  simp -dsimp [g1, g2, g3, nes]
  refine callS_ (pick_at bs p1 (by omega) _ _ _ rid (by simp [g1, g2, f1])) ?_
  rintro t m2 n2 ⟨hn2, ⟨r, rfl, hr0, hr1⟩, rfl⟩
  have hr1 := hr1 (by decide)
  obtain ⟨r, rfl⟩ := Int.eq_ofNat_of_zero_le hr0
  have h1 := far (show rid < n2 by omega)
  have h2 := far (show n < n2 by omega)
  have h3 := far (show n1 < n2 by omega)
  have d0 : ¬ rid = n1 := by omega
  have d1 : ¬ n1 = rid := by omega
  have d2 : ¬ n1 = n := by omega
  have d3 : ¬ n = n1 := by omega
  simp -dsimp
  refine twp_loopC (LSt m n rid bs k p 0) (fun s => natOf (s.tm 7)) (LSt m n rid bs k p 1) ?_ ?_ ?_
  · refine ⟨r, n1, p1 + 1, ⟨x1, x2, x3⟩, ⟨by simp -dsimp, by simp -dsimp, by simp -dsimp, by simp -dsimp, by simp -dsimp, by omega, (by simp -dsimp <;> omega), by simp -dsimp [g1, g2, g3, d0, d1, d2, d3, f1], by simp -dsimp [sC, g1, g2, g3, d0, d1, d2, d3, f1], by simp -dsimp, fun j j1 j2 => ?_, htn⟩, by simp -dsimp, by omega, by omega, by omega, by simp⟩
    simp -dsimp [far j1, far (show j < n1 by omega), j2]
  · rintro s ⟨c, id, p', st, e, t7, hc6, hp0, hpc, hend⟩
    obtain ⟨t0, t1, t4, t5, hmu, i0, i1, mz, mid, rd, out, tight⟩ := e
    by_cases hc : 0 < c
    case neg =>
      have hc0 : c = 0 := by omega
      simp -dsimp [t7, hc, hc0]
      exact ⟨c, id, p', st, ⟨by simp -dsimp [t0], by simp -dsimp [t1], by simp -dsimp [t4], by simp -dsimp [t5], by simp -dsimp [hmu], i0, by simp -dsimp [i1], by simp -dsimp [mz], by simp -dsimp [mid], by simp -dsimp [rd], fun j j1 j2 => by simp -dsimp [out j j1 j2], tight⟩, by simp -dsimp [t7], hc6, hp0, hpc, fun _ => hc0⟩
    have a0 : ¬ rid = id := by omega
    have a1 : ¬ id = rid := by omega
    have a2 : ¬ n = id := by omega
    have a3 : ¬ id = n := by omega
    have a4 : ¬ n = rid := by omega
    have a5 : ¬ rid = n := by omega
    have h1 := far i1
    have h2 := far (show rid < s.n by omega)
    have h3 := far (show n < s.n by omega)
    have wc : IntKind.wrap .i64 ((c : Int) - 1) = ((c - 1 : Nat) : Int) := by rw [w64 (by omega) (by omega)]; omega
    have hmu1 : c - 1 < c := by omega
    have hms : natOf (s.tm 7) = c := by rw [t7]; simp
    have hop := storeOpenS_fn st tight.small
    have hshort := open_short st
    have hacts := fun a ha => storeActS_fn st a tight.small ha
    have htacts := fun a => act_tight tight a
    generalize storeOpen st = D at *
    generalize storeOk st = oks at *
    obtain ⟨⟨D1, D2⟩, D3⟩ := D
    have mid' := mid
    obtain ⟨s1, s2, s3⟩ := st
    unfold sC at mid
    simp only at mid hshort
    simp -dsimp [t0, t5, t7, hc, mid, h1, h2, h3]
    refine call_ hop (by simp -dsimp) ?_
    simp -dsimp [t0, t5, t7, mid, h1, h2, h3, nes]
    refine twp_cutQ (LS6 m n rid bs k p c) ?_ ?_
    · refine twp_drawT (.run [0, 1, 2, 3] (.alt (.run [4] (.alt (.run [5, 6, 7, 8, 9, 10, 11] .done) (.run [9, 5, 6, 7, 8, 10, 11] .done))) (.run [9, 4, 5, 6, 7, 8, 10, 11] .done))) [id, s.n] (List.replicate 12 [0, 1]) (List.replicate 12 [0, 1]) (by kernel_rfl) (by kernel_rfl) (by kernel_rfl) (by kernel_rfl) ?_
      simp -dsimp [t0, t5, t7, mid, h1, h2, h3, a0, a1, nes]
      refine ordT_both ?_ ?_
      · simp -dsimp [t0, t5, t7, mid, h1, h2, h3, a0, a1, nes]
        refine callS_ (deed_zA bs p' (by omega) ⟨D1, D2⟩ hshort _ _ rid (by omega) (by simp [rd, h1, h2, h3])) ?_
        rintro t m3 n3 ⟨hn3, ⟨x, ⟨a, ha, rfl⟩, rfl⟩, p3, hp3, hp4, rfl⟩
        have hact := hacts a (by omega)
        have htact := htacts a
        generalize storeAct ⟨s1, s2, s3⟩ a = X at *
        generalize actOk ⟨s1, s2, s3⟩ a = b at *
        obtain ⟨x1, x2, x3⟩ := X
        obtain ⟨y1, y2, y3⟩ := a
        have b1 := far (show id < n3 by omega)
        have b2 := far (show rid < n3 by omega)
        have b3 := far (show n < n3 by omega)
        have b4 := far (show s.n < n3 by omega)
        simp -dsimp [t0, t5, t7, mid, h1, h2, h3, a0, a1, nes, b1, b2, b3, b4]
        refine ordT_both ?_ ?_
        · simp -dsimp [t0, t5, t7, mid, h1, h2, h3, a0, a1, nes, b1, b2, b3, b4]
          refine call_ hact (by simp -dsimp) ?_
          simp -dsimp [t0, t5, t7, mid, h1, h2, h3, a0, a1, nes, b1, b2, b3, b4]
          exact ⟨id, n3, p3, ⟨s1, s2, s3⟩, ⟨x1, x2, x3⟩, b, ⟨by simp -dsimp [t0], by simp -dsimp [t1], by simp -dsimp [t4], by simp -dsimp [t5], by simp -dsimp [hmu], i0, (by simp -dsimp <;> omega), by simp -dsimp [mz, a2, a4, h3, b3], by simp -dsimp [sC, mid, a1, h1, b1], by simp -dsimp [b2], fun j j1 j2 => by simp -dsimp [far (show j < n3 by omega), far (show j < s.n by omega), j2, out j j1 j2], tight⟩, by simp -dsimp [t7], by simp -dsimp, by simp -dsimp, by omega, (by simp -dsimp <;> omega), by omega, by simp -dsimp [sC], htact, by omega, by omega⟩
        · simp -dsimp [t0, t5, t7, mid, h1, h2, h3, a0, a1, nes, b1, b2, b3, b4]
          refine call_ hact (by simp -dsimp) ?_
          simp -dsimp [t0, t5, t7, mid, h1, h2, h3, a0, a1, nes, b1, b2, b3, b4]
          exact ⟨id, n3, p3, ⟨s1, s2, s3⟩, ⟨x1, x2, x3⟩, b, ⟨by simp -dsimp [t0], by simp -dsimp [t1], by simp -dsimp [t4], by simp -dsimp [t5], by simp -dsimp [hmu], i0, (by simp -dsimp <;> omega), by simp -dsimp [mz, a2, a4, h3, b3], by simp -dsimp [sC, mid, a1, h1, b1], by simp -dsimp [b2], fun j j1 j2 => by simp -dsimp [far (show j < n3 by omega), far (show j < s.n by omega), j2, out j j1 j2], tight⟩, by simp -dsimp [t7], by simp -dsimp, by simp -dsimp, by omega, (by simp -dsimp <;> omega), by omega, by simp -dsimp [sC], htact, by omega, by omega⟩
      · simp -dsimp [t0, t5, t7, mid, h1, h2, h3, a0, a1, nes]
        refine callS_ (deed_zA bs p' (by omega) ⟨D1, D2⟩ hshort _ _ rid (by omega) (by simp [rd, h1, h2, h3])) ?_
        rintro t m3 n3 ⟨hn3, ⟨x, ⟨a, ha, rfl⟩, rfl⟩, p3, hp3, hp4, rfl⟩
        have hact := hacts a (by omega)
        have htact := htacts a
        generalize storeAct ⟨s1, s2, s3⟩ a = X at *
        generalize actOk ⟨s1, s2, s3⟩ a = b at *
        obtain ⟨x1, x2, x3⟩ := X
        obtain ⟨y1, y2, y3⟩ := a
        have b1 := far (show id < n3 by omega)
        have b2 := far (show rid < n3 by omega)
        have b3 := far (show n < n3 by omega)
        have b4 := far (show s.n < n3 by omega)
        simp -dsimp [t0, t5, t7, mid, h1, h2, h3, a0, a1, nes, b1, b2, b3, b4]
        refine call_ hact (by simp -dsimp) ?_
        simp -dsimp [t0, t5, t7, mid, h1, h2, h3, a0, a1, nes, b1, b2, b3, b4]
        exact ⟨id, s.n + 1 + 1, p3, ⟨s1, s2, s3⟩, ⟨x1, x2, x3⟩, b, ⟨by simp -dsimp [t0], by simp -dsimp [t1], by simp -dsimp [t4], by simp -dsimp [t5], by simp -dsimp [hmu], i0, (by simp -dsimp <;> omega), by simp -dsimp [mz, a2, a4, h3, b3], by simp -dsimp [sC, mid, a1, h1, b1], by simp -dsimp [b2, h2], fun j j1 j2 => by simp -dsimp [far (show j < n3 by omega), far (show j < s.n by omega), j2, out j j1 j2], tight⟩, by simp -dsimp [t7], by simp -dsimp, by simp -dsimp, by omega, (by simp -dsimp <;> omega), by omega, by simp -dsimp [sC], htact, by omega, by omega⟩
    · clear mid' hop hacts htacts hshort mid mz rd out tight t0 t1 t4 t5 t7 hmu
      rintro s ⟨id, id10, p', st, x, b, e, t7, t10, t11, j0, j1, j2, mx, tx, hp0, hpc⟩
      obtain ⟨t0, t1, t4, t5, hmu, i0, i1, mz, mid, rd, out, tight⟩ := e
      have a0 : ¬ rid = id := by omega
      have a1 : ¬ id = rid := by omega
      have a2 : ¬ n = id := by omega
      have a3 : ¬ id = n := by omega
      have a4 : ¬ n = rid := by omega
      have a5 : ¬ rid = n := by omega
      have h1 := far i1
      have h2 := far (show rid < s.n by omega)
      have h3 := far (show n < s.n by omega)
      have jx := far j1
      obtain ⟨s1, s2, s3⟩ := st
      obtain ⟨x1, x2, x3⟩ := x
      unfold sC at mid mx
      simp only at mid mx
      -- the store of this round
      have hst : ∃ z : Store, z.tight ∧ z = (if b = true then ⟨x1, x2, x3⟩ else ⟨s1, s2, s3⟩) := ⟨_, by split; exact tx; exact tight, rfl⟩
      refine hst.elim fun z hz => ?_
      have tz := hz.1
      have ez := hz.2
      clear hz hst
      have hsy := storeSyncS_fn z tz.small
      have tsy := sync_tight tz
      generalize storeSync z = Y at *
      generalize storeOk z = oy at *
      obtain ⟨y1, y2, y3⟩ := Y
      have hb := ft b
      rcases hb with rfl | rfl
      · simp only [Bool.false_eq_true, if_false] at ez
        subst ez
        simp -dsimp [t0, t1, t4, t5, t7, t11, mid, rd, h1, h2, h3, a0, a1, a2, a3, a4, a5, nes, wc, hmu1, hms, t10, mx, jx, j2, Ne.symm j2]
        refine callS_ (pick_at bs p' (by omega) _ _ _ rid (by simp [rd, a0])) ?_
        rintro t m3 n3 ⟨hn3, ⟨r, rfl, hr0, hr1⟩, rfl⟩
        have b1 := far (show id < n3 by omega)
        have b2 := far (show rid < n3 by omega)
        have b3 := far (show n < n3 by omega)
        by_cases r0 : r = 0
        · simp -dsimp [t0, t1, t4, t5, t7, t11, mid, rd, h1, h2, h3, a0, a1, a2, a3, a4, a5, nes, wc, hmu1, hms, t10, mx, jx, j2, Ne.symm j2, r0]
          refine call_ hsy (by simp -dsimp) ?_
          simp -dsimp [t0, t1, t4, t5, t7, t11, mid, rd, h1, h2, h3, a0, a1, a2, a3, a4, a5, nes, wc, hmu1, hms, t10, mx, jx, j2, Ne.symm j2, r0]
          exact ⟨c - 1, id, p' + 1, ⟨y1, y2, y3⟩, ⟨by simp -dsimp [t0], by simp -dsimp [t1], by simp -dsimp [t4], by simp -dsimp [t5], by simp -dsimp [hmu], i0, (by simp -dsimp <;> omega), by simp -dsimp [mz, t0, t1, t4, t5, t7, t11, mid, rd, h1, h2, h3, a0, a1, a2, a3, a4, a5, nes, wc, hmu1, hms, t10, mx, jx, j2, Ne.symm j2, b1, b2, b3], by simp -dsimp [sC, t0, t1, t4, t5, t7, t11, mid, rd, h1, h2, h3, a0, a1, a2, a3, a4, a5, nes, wc, hmu1, hms, t10, mx, jx, j2, Ne.symm j2, b1, b2, b3], by simp -dsimp [t0, t1, t4, t5, t7, t11, mid, rd, h1, h2, h3, a0, a1, a2, a3, a4, a5, nes, wc, hmu1, hms, t10, mx, jx, j2, Ne.symm j2, b1, b2, b3], fun j j1 j2 => by simp -dsimp [b1, b2, b3, far (show j < s.n by omega), show ¬ j = id by omega, j2, out j j1 j2], tsy⟩, by simp -dsimp [t7, wc], by omega, by omega, by omega, by simp⟩
        · by_cases r1 : r = 1
          · simp -dsimp [t0, t1, t4, t5, t7, t11, mid, rd, h1, h2, h3, a0, a1, a2, a3, a4, a5, nes, wc, hmu1, hms, t10, mx, jx, j2, Ne.symm j2, r0, r1]
            refine twp_draw (List.range 11) [id] (List.replicate 9 [0] ++ [[], []]) (List.replicate 10 [0] ++ [[]]) (by kernel_rfl) (by kernel_rfl) (by kernel_rfl) (by kernel_rfl) ?_
            simp -dsimp [List.range_succ, t0, t1, t4, t5, t7, t11, mid, rd, h1, h2, h3, a0, a1, a2, a3, a4, a5, nes, wc, hmu1, hms, t10, mx, jx, j2, Ne.symm j2, r0, r1]
            refine callS_ (pick_at bs (p' + 1) (by omega) _ _ _ rid (by simp [a0])) ?_
            rintro t m4 n4 ⟨hn4, ⟨r2, rfl, hr20, hr21⟩, rfl⟩
            have hr21 := hr21 (by decide)
            have c1 := far (show id < n4 by omega)
            have c2 := far (show rid < n4 by omega)
            have c3 := far (show n < n4 by omega)
            have tz2 := tz.2.2
            have tz1 := tz.2.1
            simp only at tz2 tz1
            have wz : IntKind.wrap .i64 (s3 + r2) = s3 + r2 := w64 (by omega) (by omega)
            simp -dsimp [List.range_succ, t0, t1, t4, t5, t7, t11, mid, rd, h1, h2, h3, a0, a1, a2, a3, a4, a5, nes, wc, hmu1, hms, t10, mx, jx, j2, Ne.symm j2, r0, r1, c1, c2, c3, wz]
            exact ⟨c - 1, id, p' + 1 + 1, ⟨s1, s2, min (s2.length : Int) (s3 + r2)⟩, ⟨by simp -dsimp [t0], by simp -dsimp [t1], by simp -dsimp [t4], by simp -dsimp [t5], by simp -dsimp [hmu], i0, (by simp -dsimp <;> omega), by simp -dsimp [mz, t0, t1, t4, t5, t7, t11, mid, rd, h1, h2, h3, a0, a1, a2, a3, a4, a5, nes, wc, hmu1, hms, t10, mx, jx, j2, Ne.symm j2, b1, b2, b3, c1, c2, c3], by simp -dsimp [sC, t0, t1, t4, t5, t7, t11, mid, rd, h1, h2, h3, a0, a1, a2, a3, a4, a5, nes, wc, hmu1, hms, t10, mx, jx, j2, Ne.symm j2, b1, b2, b3, c1, c2, c3], by simp -dsimp [t0, t1, t4, t5, t7, t11, mid, rd, h1, h2, h3, a0, a1, a2, a3, a4, a5, nes, wc, hmu1, hms, t10, mx, jx, j2, Ne.symm j2, b1, b2, b3, c1, c2, c3], fun j j1 j2 => by simp -dsimp [b1, b2, b3, c1, c2, c3, far (show j < s.n by omega), show ¬ j = id by omega, j2, out j j1 j2], ⟨tz.1, tz.2.1, by simp only; omega, by simp only; omega⟩⟩, by simp -dsimp [t7, wc], by omega, by omega, by omega, by simp⟩
          · simp -dsimp [t0, t1, t4, t5, t7, t11, mid, rd, h1, h2, h3, a0, a1, a2, a3, a4, a5, nes, wc, hmu1, hms, t10, mx, jx, j2, Ne.symm j2, r0, r1]
            exact ⟨c - 1, id, p' + 1, ⟨s1, s2, s3⟩, ⟨by simp -dsimp [t0], by simp -dsimp [t1], by simp -dsimp [t4], by simp -dsimp [t5], by simp -dsimp [hmu], i0, (by simp -dsimp <;> omega), by simp -dsimp [mz, t0, t1, t4, t5, t7, t11, mid, rd, h1, h2, h3, a0, a1, a2, a3, a4, a5, nes, wc, hmu1, hms, t10, mx, jx, j2, Ne.symm j2, b1, b2, b3], by simp -dsimp [sC, t0, t1, t4, t5, t7, t11, mid, rd, h1, h2, h3, a0, a1, a2, a3, a4, a5, nes, wc, hmu1, hms, t10, mx, jx, j2, Ne.symm j2, b1, b2, b3], by simp -dsimp [t0, t1, t4, t5, t7, t11, mid, rd, h1, h2, h3, a0, a1, a2, a3, a4, a5, nes, wc, hmu1, hms, t10, mx, jx, j2, Ne.symm j2, b1, b2, b3], fun j j1 j2 => by simp -dsimp [b1, b2, b3, far (show j < s.n by omega), show ¬ j = id by omega, j2, out j j1 j2], tz⟩, by simp -dsimp [t7, wc], by omega, by omega, by omega, by simp⟩
      · simp only [eq_self, if_true] at ez
        subst ez
        simp -dsimp [t0, t1, t4, t5, t7, t11, mid, rd, h1, h2, h3, a0, a1, a2, a3, a4, a5, nes, wc, hmu1, hms, t10, mx, jx, j2, Ne.symm j2]
        refine callS_ (pick_at bs p' (by omega) _ _ _ rid (by simp [rd, a0])) ?_
        rintro t m3 n3 ⟨hn3, ⟨r, rfl, hr0, hr1⟩, rfl⟩
        have b1 := far (show id < n3 by omega)
        have b2 := far (show rid < n3 by omega)
        have b3 := far (show n < n3 by omega)
        by_cases r0 : r = 0
        · simp -dsimp [t0, t1, t4, t5, t7, t11, mid, rd, h1, h2, h3, a0, a1, a2, a3, a4, a5, nes, wc, hmu1, hms, t10, mx, jx, j2, Ne.symm j2, r0]
          refine call_ hsy (by simp -dsimp) ?_
          simp -dsimp [t0, t1, t4, t5, t7, t11, mid, rd, h1, h2, h3, a0, a1, a2, a3, a4, a5, nes, wc, hmu1, hms, t10, mx, jx, j2, Ne.symm j2, r0]
          exact ⟨c - 1, id, p' + 1, ⟨y1, y2, y3⟩, ⟨by simp -dsimp [t0], by simp -dsimp [t1], by simp -dsimp [t4], by simp -dsimp [t5], by simp -dsimp [hmu], i0, (by simp -dsimp <;> omega), by simp -dsimp [mz, t0, t1, t4, t5, t7, t11, mid, rd, h1, h2, h3, a0, a1, a2, a3, a4, a5, nes, wc, hmu1, hms, t10, mx, jx, j2, Ne.symm j2, b1, b2, b3], by simp -dsimp [sC, t0, t1, t4, t5, t7, t11, mid, rd, h1, h2, h3, a0, a1, a2, a3, a4, a5, nes, wc, hmu1, hms, t10, mx, jx, j2, Ne.symm j2, b1, b2, b3], by simp -dsimp [t0, t1, t4, t5, t7, t11, mid, rd, h1, h2, h3, a0, a1, a2, a3, a4, a5, nes, wc, hmu1, hms, t10, mx, jx, j2, Ne.symm j2, b1, b2, b3], fun j j1 j2 => by simp -dsimp [b1, b2, b3, far (show j < s.n by omega), show ¬ j = id by omega, j2, out j j1 j2], tsy⟩, by simp -dsimp [t7, wc], by omega, by omega, by omega, by simp⟩
        · by_cases r1 : r = 1
          · simp -dsimp [t0, t1, t4, t5, t7, t11, mid, rd, h1, h2, h3, a0, a1, a2, a3, a4, a5, nes, wc, hmu1, hms, t10, mx, jx, j2, Ne.symm j2, r0, r1]
            refine twp_draw (List.range 11) [id] (List.replicate 9 [0] ++ [[], []]) (List.replicate 10 [0] ++ [[]]) (by kernel_rfl) (by kernel_rfl) (by kernel_rfl) (by kernel_rfl) ?_
            simp -dsimp [List.range_succ, t0, t1, t4, t5, t7, t11, mid, rd, h1, h2, h3, a0, a1, a2, a3, a4, a5, nes, wc, hmu1, hms, t10, mx, jx, j2, Ne.symm j2, r0, r1]
            refine callS_ (pick_at bs (p' + 1) (by omega) _ _ _ rid (by simp [a0])) ?_
            rintro t m4 n4 ⟨hn4, ⟨r2, rfl, hr20, hr21⟩, rfl⟩
            have hr21 := hr21 (by decide)
            have c1 := far (show id < n4 by omega)
            have c2 := far (show rid < n4 by omega)
            have c3 := far (show n < n4 by omega)
            have tz2 := tz.2.2
            have tz1 := tz.2.1
            simp only at tz2 tz1
            have wz : IntKind.wrap .i64 (x3 + r2) = x3 + r2 := w64 (by omega) (by omega)
            simp -dsimp [List.range_succ, t0, t1, t4, t5, t7, t11, mid, rd, h1, h2, h3, a0, a1, a2, a3, a4, a5, nes, wc, hmu1, hms, t10, mx, jx, j2, Ne.symm j2, r0, r1, c1, c2, c3, wz]
            exact ⟨c - 1, id, p' + 1 + 1, ⟨x1, x2, min (x2.length : Int) (x3 + r2)⟩, ⟨by simp -dsimp [t0], by simp -dsimp [t1], by simp -dsimp [t4], by simp -dsimp [t5], by simp -dsimp [hmu], i0, (by simp -dsimp <;> omega), by simp -dsimp [mz, t0, t1, t4, t5, t7, t11, mid, rd, h1, h2, h3, a0, a1, a2, a3, a4, a5, nes, wc, hmu1, hms, t10, mx, jx, j2, Ne.symm j2, b1, b2, b3, c1, c2, c3], by simp -dsimp [sC, t0, t1, t4, t5, t7, t11, mid, rd, h1, h2, h3, a0, a1, a2, a3, a4, a5, nes, wc, hmu1, hms, t10, mx, jx, j2, Ne.symm j2, b1, b2, b3, c1, c2, c3], by simp -dsimp [t0, t1, t4, t5, t7, t11, mid, rd, h1, h2, h3, a0, a1, a2, a3, a4, a5, nes, wc, hmu1, hms, t10, mx, jx, j2, Ne.symm j2, b1, b2, b3, c1, c2, c3], fun j j1 j2 => by simp -dsimp [b1, b2, b3, c1, c2, c3, far (show j < s.n by omega), show ¬ j = id by omega, j2, out j j1 j2], ⟨tz.1, tz.2.1, by simp only; omega, by simp only; omega⟩⟩, by simp -dsimp [t7, wc], by omega, by omega, by omega, by simp⟩
          · simp -dsimp [t0, t1, t4, t5, t7, t11, mid, rd, h1, h2, h3, a0, a1, a2, a3, a4, a5, nes, wc, hmu1, hms, t10, mx, jx, j2, Ne.symm j2, r0, r1]
            exact ⟨c - 1, id, p' + 1, ⟨x1, x2, x3⟩, ⟨by simp -dsimp [t0], by simp -dsimp [t1], by simp -dsimp [t4], by simp -dsimp [t5], by simp -dsimp [hmu], i0, (by simp -dsimp <;> omega), by simp -dsimp [mz, t0, t1, t4, t5, t7, t11, mid, rd, h1, h2, h3, a0, a1, a2, a3, a4, a5, nes, wc, hmu1, hms, t10, mx, jx, j2, Ne.symm j2, b1, b2, b3], by simp -dsimp [sC, t0, t1, t4, t5, t7, t11, mid, rd, h1, h2, h3, a0, a1, a2, a3, a4, a5, nes, wc, hmu1, hms, t10, mx, jx, j2, Ne.symm j2, b1, b2, b3], by simp -dsimp [t0, t1, t4, t5, t7, t11, mid, rd, h1, h2, h3, a0, a1, a2, a3, a4, a5, nes, wc, hmu1, hms, t10, mx, jx, j2, Ne.symm j2, b1, b2, b3], fun j j1 j2 => by simp -dsimp [b1, b2, b3, far (show j < s.n by omega), show ¬ j = id by omega, j2, out j j1 j2], tz⟩, by simp -dsimp [t7, wc], by omega, by omega, by omega, by simp⟩
  · rintro s ⟨c, id, p', st, e, t7, hc6, hp0, hpc, hend⟩
    obtain rfl := hend rfl
    obtain ⟨t0, t1, t4, t5, hmu, i0, i1, mz, mid, rd, out, tight⟩ := e
    have a0 : ¬ rid = id := by omega
    have a1 : ¬ id = rid := by omega
    have a2 : ¬ n = id := by omega
    have a3 : ¬ id = n := by omega
    have a4 : ¬ n = rid := by omega
    have a5 : ¬ rid = n := by omega
    have h1 := far i1
    have h2 := far (show rid < s.n by omega)
    have h3 := far (show n < s.n by omega)
    obtain ⟨s1, s2, s3⟩ := st
    unfold sC at mid
    simp only at mid
    simp -dsimp [t0]
    refine callS_ (pick_at bs p' (by omega) _ _ _ rid (by simp [rd])) ?_
    rintro t m3 n3 ⟨hn3, ⟨r, rfl, hr0, hr1⟩, rfl⟩
    have b1 := far (show id < n3 by omega)
    have b2 := far (show rid < n3 by omega)
    have b3 := far (show n < n3 by omega)
    by_cases r0 : r = 0
    · have hcr := fun kk => storeCrashS_fn ⟨s1, s2, s3⟩ kk tight.small
      have tcr := fun kk => crash_tight tight kk
      simp -dsimp [t0, t1, t4, t5, mz, mid, rd, h1, h2, h3, a0, a1, a2, a3, a4, a5, nes, r0, b1, b2, b3]
      refine twp_draw (List.range 18) [id] (List.replicate 12 [0] ++ [[], [], [], [], [], []]) (List.replicate 17 [0] ++ [[]]) (by kernel_rfl) (by kernel_rfl) (by kernel_rfl) (by kernel_rfl) ?_
      simp -dsimp [List.range_succ, t0, t1, t4, t5, mz, mid, rd, h1, h2, h3, a0, a1, a2, a3, a4, a5, nes, r0, b1, b2, b3]
      refine callS_ (pick_at bs (p' + 1) (by omega) _ _ _ rid (by simp)) ?_
      rintro t m4 n4 ⟨hn4, ⟨r2, rfl, hr20, hr21⟩, rfl⟩
      have c1 := far (show id < n4 by omega)
      have c2 := far (show rid < n4 by omega)
      have c3 := far (show n < n4 by omega)
      have hcr2 := hcr (IntKind.wrap .i64 (s3 + r2))
      have tz := tcr (IntKind.wrap .i64 (s3 + r2))
      generalize storeCrash ⟨s1, s2, s3⟩ (IntKind.wrap .i64 (s3 + r2)) = Z at *
      generalize crashOk ⟨s1, s2, s3⟩ (IntKind.wrap .i64 (s3 + r2)) = okz at *
      obtain ⟨z1, z2, z3⟩ := Z
      simp -dsimp [List.range_succ, t0, t1, t4, t5, mz, mid, rd, h1, h2, h3, a0, a1, a2, a3, a4, a5, nes, r0, b1, b2, b3, c1, c2, c3]
      refine call_ hcr2 (by simp -dsimp) ?_
      simp -dsimp [List.range_succ, t0, t1, t4, t5, mz, mid, rd, h1, h2, h3, a0, a1, a2, a3, a4, a5, nes, r0, b1, b2, b3, c1, c2, c3]
      refine callS_ (odd_at bs (p' + 1 + 1) (by omega) k (by omega) _ _ rid (by simp [t0, t1, t4, t5, mz, mid, rd, h1, h2, h3, a0, a1, a2, a3, a4, a5, nes, r0, b1, b2, b3, c1, c2, c3])) ?_
      rintro t m5 n5 ⟨hn5, ⟨bb, rfl, hbb⟩, P2, hP2, hP3, rfl⟩
      have v1 := far (show id < n5 by omega)
      have v2 := far (show rid < n5 by omega)
      have v3 := far (show n < n5 by omega)
      have hb := ft bb
      rcases hb with rfl | rfl
      · simp -dsimp [t0, t1, t4, t5, mz, mid, rd, h1, h2, h3, a0, a1, a2, a3, a4, a5, nes, r0, b1, b2, b3, c1, c2, c3, v1, v2, v3]
        refine ⟨by omega, ⟨_, by simp -dsimp [t0, t1, t4, t5, mz, mid, rd, h1, h2, h3, a0, a1, a2, a3, a4, a5, nes, r0, b1, b2, b3, c1, c2, c3, v1, v2, v3] <;> rfl, ⟨z1, z2, z3⟩, ⟨by have := tz.1; simp only at this ⊢; omega, by have := tz.2.1; simp only at this ⊢; omega⟩, rfl⟩, fun j j1 j2 => ?_, P2, by omega, by omega, by simp -dsimp [t0, t1, t4, t5, mz, mid, rd, h1, h2, h3, a0, a1, a2, a3, a4, a5, nes, r0, b1, b2, b3, c1, c2, c3, v1, v2, v3]⟩
        simp -dsimp [t0, t1, t4, t5, mz, mid, rd, h1, h2, h3, a0, a1, a2, a3, a4, a5, nes, r0, b1, b2, b3, c1, c2, c3, v1, v2, v3, show ¬ j = n by omega, show ¬ j = id by omega, far (show j < s.n by omega), j2, out j j1 j2]
      · simp -dsimp [t0, t1, t4, t5, mz, mid, rd, h1, h2, h3, a0, a1, a2, a3, a4, a5, nes, r0, b1, b2, b3, c1, c2, c3, v1, v2, v3]
        refine callS_ (pick_at bs P2 (by omega) _ _ _ rid (by simp)) ?_
        rintro t m6 n6 ⟨hn6, ⟨r3, rfl, hr30, hr31⟩, rfl⟩
        have w1 := far (show id < n6 by omega)
        have w2 := far (show rid < n6 by omega)
        have w3 := far (show n < n6 by omega)
        by_cases q0 : r3 = 0
        · simp -dsimp [t0, t1, t4, t5, mz, mid, rd, h1, h2, h3, a0, a1, a2, a3, a4, a5, nes, r0, b1, b2, b3, c1, c2, c3, v1, v2, v3, w1, w2, w3, q0]
          refine callS_ (spoil_z bs (P2 + 1) (by omega) z1 (by have := tz.1; simp only at this; omega) _ _ rid (by omega) (by simp)) ?_
          rintro t m7 n7 ⟨hn7, ⟨x, ⟨y, hy, rfl⟩, rfl⟩, P4, hP4, hP5, rfl⟩
          have u1 := far (show id < n7 by omega)
          have u2 := far (show rid < n7 by omega)
          have u3 := far (show n < n7 by omega)
          simp -dsimp [t0, t1, t4, t5, mz, mid, rd, h1, h2, h3, a0, a1, a2, a3, a4, a5, nes, r0, b1, b2, b3, c1, c2, c3, v1, v2, v3, w1, w2, w3, q0, u1, u2, u3]
          refine ⟨by omega, ⟨_, by simp -dsimp [t0, t1, t4, t5, mz, mid, rd, h1, h2, h3, a0, a1, a2, a3, a4, a5, nes, r0, b1, b2, b3, c1, c2, c3, v1, v2, v3, w1, w2, w3, u1, u2, u3] <;> rfl, ⟨y, z2, z3⟩, ⟨hy, by have := tz.2.1; simp only at this ⊢; omega⟩, rfl⟩, fun j j1 j2 => ?_, P4, by omega, by omega, by simp -dsimp [t0, t1, t4, t5, mz, mid, rd, h1, h2, h3, a0, a1, a2, a3, a4, a5, nes, r0, b1, b2, b3, c1, c2, c3, v1, v2, v3, w1, w2, w3, u1, u2, u3]⟩
          simp -dsimp [t0, t1, t4, t5, mz, mid, rd, h1, h2, h3, a0, a1, a2, a3, a4, a5, nes, r0, b1, b2, b3, c1, c2, c3, v1, v2, v3, w1, w2, w3, u1, u2, u3, show ¬ j = n by omega, show ¬ j = id by omega, far (show j < s.n by omega), j2, out j j1 j2]
        by_cases q1 : r3 = 1
        · simp -dsimp [t0, t1, t4, t5, mz, mid, rd, h1, h2, h3, a0, a1, a2, a3, a4, a5, nes, r0, b1, b2, b3, c1, c2, c3, v1, v2, v3, w1, w2, w3, q0, q1]
          refine ⟨by omega, ⟨_, by simp -dsimp [t0, t1, t4, t5, mz, mid, rd, h1, h2, h3, a0, a1, a2, a3, a4, a5, nes, r0, b1, b2, b3, c1, c2, c3, v1, v2, v3, w1, w2, w3] <;> rfl, ⟨z1, z2, IntKind.wrap .i64 ((z2.length : Int) + 1)⟩, ⟨by have := tz.1; simp only at this ⊢; omega, by have := tz.2.1; simp only at this ⊢; omega⟩, rfl⟩, fun j j1 j2 => ?_, P2 + 1, by omega, by omega, by simp -dsimp [t0, t1, t4, t5, mz, mid, rd, h1, h2, h3, a0, a1, a2, a3, a4, a5, nes, r0, b1, b2, b3, c1, c2, c3, v1, v2, v3, w1, w2, w3]⟩
          simp -dsimp [t0, t1, t4, t5, mz, mid, rd, h1, h2, h3, a0, a1, a2, a3, a4, a5, nes, r0, b1, b2, b3, c1, c2, c3, v1, v2, v3, w1, w2, w3, show ¬ j = n by omega, show ¬ j = id by omega, far (show j < s.n by omega), j2, out j j1 j2]
        · simp -dsimp [t0, t1, t4, t5, mz, mid, rd, h1, h2, h3, a0, a1, a2, a3, a4, a5, nes, r0, b1, b2, b3, c1, c2, c3, v1, v2, v3, w1, w2, w3, q0, q1]
          refine callS_ (spoil_z bs (P2 + 1) (by omega) z2 (by have := tz.2.1; simp only at this; omega) _ _ rid (by omega) (by simp)) ?_
          rintro t m7 n7 ⟨hn7, ⟨x, ⟨y, hy, rfl⟩, rfl⟩, P4, hP4, hP5, rfl⟩
          have u1 := far (show id < n7 by omega)
          have u2 := far (show rid < n7 by omega)
          have u3 := far (show n < n7 by omega)
          simp -dsimp [t0, t1, t4, t5, mz, mid, rd, h1, h2, h3, a0, a1, a2, a3, a4, a5, nes, r0, b1, b2, b3, c1, c2, c3, v1, v2, v3, w1, w2, w3, q0, q1, u1, u2, u3]
          refine ⟨by omega, ⟨_, by simp -dsimp [t0, t1, t4, t5, mz, mid, rd, h1, h2, h3, a0, a1, a2, a3, a4, a5, nes, r0, b1, b2, b3, c1, c2, c3, v1, v2, v3, w1, w2, w3, u1, u2, u3] <;> rfl, ⟨z1, y, z3⟩, ⟨by have := tz.1; simp only at this ⊢; omega, hy⟩, rfl⟩, fun j j1 j2 => ?_, P4, by omega, by omega, by simp -dsimp [t0, t1, t4, t5, mz, mid, rd, h1, h2, h3, a0, a1, a2, a3, a4, a5, nes, r0, b1, b2, b3, c1, c2, c3, v1, v2, v3, w1, w2, w3, u1, u2, u3]⟩
          simp -dsimp [t0, t1, t4, t5, mz, mid, rd, h1, h2, h3, a0, a1, a2, a3, a4, a5, nes, r0, b1, b2, b3, c1, c2, c3, v1, v2, v3, w1, w2, w3, u1, u2, u3, show ¬ j = n by omega, show ¬ j = id by omega, far (show j < s.n by omega), j2, out j j1 j2]
    · have tz := tight
      simp -dsimp [t0, t1, t4, t5, mz, mid, rd, h1, h2, h3, a0, a1, a2, a3, a4, a5, nes, r0, b1, b2, b3]
      refine callS_ (odd_at bs (p' + 1) (by omega) k (by omega) _ _ rid (by simp [t0, t1, t4, t5, mz, mid, rd, h1, h2, h3, a0, a1, a2, a3, a4, a5, nes, r0, b1, b2, b3])) ?_
      rintro t m5 n5 ⟨hn5, ⟨bb, rfl, hbb⟩, P2, hP2, hP3, rfl⟩
      have v1 := far (show id < n5 by omega)
      have v2 := far (show rid < n5 by omega)
      have v3 := far (show n < n5 by omega)
      have hb := ft bb
      rcases hb with rfl | rfl
      · simp -dsimp [t0, t1, t4, t5, mz, mid, rd, h1, h2, h3, a0, a1, a2, a3, a4, a5, nes, r0, b1, b2, b3, v1, v2, v3]
        refine ⟨by omega, ⟨_, by simp -dsimp [t0, t1, t4, t5, mz, mid, rd, h1, h2, h3, a0, a1, a2, a3, a4, a5, nes, r0, b1, b2, b3, v1, v2, v3] <;> rfl, ⟨s1, s2, s3⟩, ⟨by have := tz.1; simp only at this ⊢; omega, by have := tz.2.1; simp only at this ⊢; omega⟩, rfl⟩, fun j j1 j2 => ?_, P2, by omega, by omega, by simp -dsimp [t0, t1, t4, t5, mz, mid, rd, h1, h2, h3, a0, a1, a2, a3, a4, a5, nes, r0, b1, b2, b3, v1, v2, v3]⟩
        simp -dsimp [t0, t1, t4, t5, mz, mid, rd, h1, h2, h3, a0, a1, a2, a3, a4, a5, nes, r0, b1, b2, b3, v1, v2, v3, show ¬ j = n by omega, show ¬ j = id by omega, far (show j < s.n by omega), j2, out j j1 j2]
      · simp -dsimp [t0, t1, t4, t5, mz, mid, rd, h1, h2, h3, a0, a1, a2, a3, a4, a5, nes, r0, b1, b2, b3, v1, v2, v3]
        refine callS_ (pick_at bs P2 (by omega) _ _ _ rid (by simp)) ?_
        rintro t m6 n6 ⟨hn6, ⟨r3, rfl, hr30, hr31⟩, rfl⟩
        have w1 := far (show id < n6 by omega)
        have w2 := far (show rid < n6 by omega)
        have w3 := far (show n < n6 by omega)
        by_cases q0 : r3 = 0
        · simp -dsimp [t0, t1, t4, t5, mz, mid, rd, h1, h2, h3, a0, a1, a2, a3, a4, a5, nes, r0, b1, b2, b3, v1, v2, v3, w1, w2, w3, q0]
          refine callS_ (spoil_z bs (P2 + 1) (by omega) s1 (by have := tz.1; simp only at this; omega) _ _ rid (by omega) (by simp)) ?_
          rintro t m7 n7 ⟨hn7, ⟨x, ⟨y, hy, rfl⟩, rfl⟩, P4, hP4, hP5, rfl⟩
          have u1 := far (show id < n7 by omega)
          have u2 := far (show rid < n7 by omega)
          have u3 := far (show n < n7 by omega)
          simp -dsimp [t0, t1, t4, t5, mz, mid, rd, h1, h2, h3, a0, a1, a2, a3, a4, a5, nes, r0, b1, b2, b3, v1, v2, v3, w1, w2, w3, q0, u1, u2, u3]
          refine ⟨by omega, ⟨_, by simp -dsimp [t0, t1, t4, t5, mz, mid, rd, h1, h2, h3, a0, a1, a2, a3, a4, a5, nes, r0, b1, b2, b3, v1, v2, v3, w1, w2, w3, u1, u2, u3] <;> rfl, ⟨y, s2, s3⟩, ⟨hy, by have := tz.2.1; simp only at this ⊢; omega⟩, rfl⟩, fun j j1 j2 => ?_, P4, by omega, by omega, by simp -dsimp [t0, t1, t4, t5, mz, mid, rd, h1, h2, h3, a0, a1, a2, a3, a4, a5, nes, r0, b1, b2, b3, v1, v2, v3, w1, w2, w3, u1, u2, u3]⟩
          simp -dsimp [t0, t1, t4, t5, mz, mid, rd, h1, h2, h3, a0, a1, a2, a3, a4, a5, nes, r0, b1, b2, b3, v1, v2, v3, w1, w2, w3, u1, u2, u3, show ¬ j = n by omega, show ¬ j = id by omega, far (show j < s.n by omega), j2, out j j1 j2]
        by_cases q1 : r3 = 1
        · simp -dsimp [t0, t1, t4, t5, mz, mid, rd, h1, h2, h3, a0, a1, a2, a3, a4, a5, nes, r0, b1, b2, b3, v1, v2, v3, w1, w2, w3, q0, q1]
          refine ⟨by omega, ⟨_, by simp -dsimp [t0, t1, t4, t5, mz, mid, rd, h1, h2, h3, a0, a1, a2, a3, a4, a5, nes, r0, b1, b2, b3, v1, v2, v3, w1, w2, w3] <;> rfl, ⟨s1, s2, IntKind.wrap .i64 ((s2.length : Int) + 1)⟩, ⟨by have := tz.1; simp only at this ⊢; omega, by have := tz.2.1; simp only at this ⊢; omega⟩, rfl⟩, fun j j1 j2 => ?_, P2 + 1, by omega, by omega, by simp -dsimp [t0, t1, t4, t5, mz, mid, rd, h1, h2, h3, a0, a1, a2, a3, a4, a5, nes, r0, b1, b2, b3, v1, v2, v3, w1, w2, w3]⟩
          simp -dsimp [t0, t1, t4, t5, mz, mid, rd, h1, h2, h3, a0, a1, a2, a3, a4, a5, nes, r0, b1, b2, b3, v1, v2, v3, w1, w2, w3, show ¬ j = n by omega, show ¬ j = id by omega, far (show j < s.n by omega), j2, out j j1 j2]
        · simp -dsimp [t0, t1, t4, t5, mz, mid, rd, h1, h2, h3, a0, a1, a2, a3, a4, a5, nes, r0, b1, b2, b3, v1, v2, v3, w1, w2, w3, q0, q1]
          refine callS_ (spoil_z bs (P2 + 1) (by omega) s2 (by have := tz.2.1; simp only at this; omega) _ _ rid (by omega) (by simp)) ?_
          rintro t m7 n7 ⟨hn7, ⟨x, ⟨y, hy, rfl⟩, rfl⟩, P4, hP4, hP5, rfl⟩
          have u1 := far (show id < n7 by omega)
          have u2 := far (show rid < n7 by omega)
          have u3 := far (show n < n7 by omega)
          simp -dsimp [t0, t1, t4, t5, mz, mid, rd, h1, h2, h3, a0, a1, a2, a3, a4, a5, nes, r0, b1, b2, b3, v1, v2, v3, w1, w2, w3, q0, q1, u1, u2, u3]
          refine ⟨by omega, ⟨_, by simp -dsimp [t0, t1, t4, t5, mz, mid, rd, h1, h2, h3, a0, a1, a2, a3, a4, a5, nes, r0, b1, b2, b3, v1, v2, v3, w1, w2, w3, u1, u2, u3] <;> rfl, ⟨s1, y, s3⟩, ⟨by have := tz.1; simp only at this ⊢; omega, hy⟩, rfl⟩, fun j j1 j2 => ?_, P4, by omega, by omega, by simp -dsimp [t0, t1, t4, t5, mz, mid, rd, h1, h2, h3, a0, a1, a2, a3, a4, a5, nes, r0, b1, b2, b3, v1, v2, v3, w1, w2, w3, u1, u2, u3]⟩
          simp -dsimp [t0, t1, t4, t5, mz, mid, rd, h1, h2, h3, a0, a1, a2, a3, a4, a5, nes, r0, b1, b2, b3, v1, v2, v3, w1, w2, w3, u1, u2, u3, show ¬ j = n by omega, show ¬ j = id by omega, far (show j < s.n by omega), j2, out j j1 j2]
theorem drawStoreOpen_z (bs : List UInt8) (m : Mem) (n : Nat) : FnS Tryz.prog 25 m n [.v (codeV bs)] (Drawn SomeStore m n) := by
  refine Drawn_of ⟨_, Tryz.func25, rfl, rfl⟩ fun hfr => ?_
  refine FnS_of (rs := [.cell 2 25]) false Tryz.func25 rfl rfl rfl rfl (Nat.le_of_ble_eq_true rfl) ?_
  simp -dsimp
  refine callS_ (open_at bs _ _) ?_
  rintro t m1 n1 ⟨rfl, rfl, rfl⟩
  simp -dsimp
  refine callS_ (store_z (bs.take 2000) 0 (by omega) 9 (by omega) (by omega) _ _ _ (by omega) (by simp)) ?_
  rintro t m2 n2 ⟨hn2, ⟨x, ⟨s, hs, rfl⟩, rfl⟩, p2, hp1, hp2, rfl⟩
  simp -dsimp [Store.v]
  refine ⟨by omega, ⟨_, by simp <;> rfl, ⟨s, hs, rfl⟩⟩, fun j j1 => ?_⟩
  simp [far j1]
theorem drawStoreSave_z (bs : List UInt8) (m : Mem) (n : Nat) : FnS Tryz.prog 14 m n [.v (codeV bs)] (Drawn SomeStore m n) := by
  refine Drawn_of ⟨_, Tryz.func14, rfl, rfl⟩ fun hfr => ?_
  refine FnS_of (rs := [.cell 2 25]) false Tryz.func14 rfl rfl rfl rfl (Nat.le_of_ble_eq_true rfl) ?_
  simp -dsimp
  refine callS_ (open_at bs _ _) ?_
  rintro t m1 n1 ⟨rfl, rfl, rfl⟩
  simp -dsimp
  refine callS_ (store_z (bs.take 2000) 0 (by omega) 9 (by omega) (by omega) _ _ _ (by omega) (by simp)) ?_
  rintro t m2 n2 ⟨hn2, ⟨x, ⟨s, hs, rfl⟩, rfl⟩, p2, hp1, hp2, rfl⟩
  simp -dsimp [Store.v]
  refine ⟨by omega, ⟨_, by simp <;> rfl, ⟨s, hs, rfl⟩⟩, fun j j1 => ?_⟩
  simp [far j1]
theorem drawStoreMend_z (bs : List UInt8) (m : Mem) (n : Nat) : FnS Tryz.prog 31 m n [.v (codeV bs)] (Drawn SomeStore m n) := by
  refine Drawn_of ⟨_, Tryz.func31, rfl, rfl⟩ fun hfr => ?_
  refine FnS_of (rs := [.cell 2 25]) false Tryz.func31 rfl rfl rfl rfl (Nat.le_of_ble_eq_true rfl) ?_
  simp -dsimp
  refine callS_ (open_at bs _ _) ?_
  rintro t m1 n1 ⟨rfl, rfl, rfl⟩
  simp -dsimp
  refine callS_ (store_z (bs.take 2000) 0 (by omega) 6 (by omega) (by omega) _ _ _ (by omega) (by simp)) ?_
  rintro t m2 n2 ⟨hn2, ⟨x, ⟨s, hs, rfl⟩, rfl⟩, p2, hp1, hp2, rfl⟩
  simp -dsimp [Store.v]
  refine ⟨by omega, ⟨_, by simp <;> rfl, ⟨s, hs, rfl⟩⟩, fun j j1 => ?_⟩
  simp [far j1]
def SomeStoreInt (x : V) : Prop := ∃ (s : Store) (k : Int), s.tiny ∧ x = .tup [s.v, .int .i64 k]
theorem drawStoreCrash_z (bs : List UInt8) (m : Mem) (n : Nat) : FnS Tryz.prog 20 m n [.v (codeV bs)] (Drawn SomeStoreInt m n) := by
  refine Drawn_of ⟨_, Tryz.func20, rfl, rfl⟩ fun hfr => ?_
  refine FnS_of (rs := [.cell 2 25, .tmp 3]) false Tryz.func20 rfl rfl rfl rfl (Nat.le_of_ble_eq_true rfl) ?_
  simp -dsimp
  refine callS_ (open_at bs _ _) ?_
  rintro t m1 n1 ⟨rfl, rfl, rfl⟩
  simp -dsimp
  refine callS_ (store_z (bs.take 2000) 0 (by omega) 9 (by omega) (by omega) _ _ _ (by omega) (by simp)) ?_
  rintro t m2 n2 ⟨hn2, ⟨x, ⟨s, hs, rfl⟩, rfl⟩, p2, hp1, hp2, rfl⟩
  obtain ⟨s1, s2, s3⟩ := s
  have f1 := far (show n + 1 < n2 by omega)
  have f2 := far (show n < n2 by omega)
  simp -dsimp [f1, f2, nes]
  refine twp_draw [0, 1, 2, 3, 4, 5, 6, 7, 8, 9, 10, 11, 14, 18, 12, 13, 15, 16, 17, 19, 20, 21, 22, 23, 24] [n2] (List.replicate 25 [0]) (List.replicate 25 [0]) (by kernel_rfl) (by kernel_rfl) (by kernel_rfl) (by kernel_rfl) ?_
  simp -dsimp [List.range_succ, f1, f2, nes]
  refine callS_ (pick_at (bs.take 2000) p2 (by omega) _ _ _ (n + 1) (by simp [f1, f2])) ?_
  rintro t m3 n3 ⟨hn3, ⟨r, rfl, hr0, hr1⟩, rfl⟩
  have g1 := far (show n + 1 < n3 by omega)
  have g2 := far (show n < n3 by omega)
  have g3 := far (show n2 < n3 by omega)
  simp -dsimp [List.range_succ, f1, f2, g1, g2, g3, nes]
  refine callS_ (pick_at (bs.take 2000) (p2 + 1) (by omega) _ _ _ (n + 1) (by simp [f1, f2])) ?_
  rintro t m4 n4 ⟨hn4, ⟨r4, rfl, hr40, hr41⟩, rfl⟩
  have i1 := far (show n + 1 < n4 by omega)
  have i2 := far (show n < n4 by omega)
  have i3 := far (show n2 < n4 by omega)
  simp -dsimp [List.range_succ, f1, f2, g1, g2, g3, i1, i2, i3, nes]
  refine callS_ (pick_at (bs.take 2000) (p2 + 1 + 1) (by omega) _ _ _ (n + 1) (by simp [f1, f2])) ?_
  rintro t m5 n5 ⟨hn5, ⟨r5, rfl, hr50, hr51⟩, rfl⟩
  have j1 := far (show n + 1 < n5 by omega)
  have j2 := far (show n < n5 by omega)
  have j3 := far (show n2 < n5 by omega)
  simp -dsimp [List.range_succ, f1, f2, g1, g2, g3, i1, i2, i3, j1, j2, j3, nes]
  refine ⟨by omega, ⟨_, by simp <;> rfl, ⟨⟨s1, s2, s3⟩, _, hs, rfl⟩⟩, fun j j1 => ?_⟩
  simp [far j1, far (show j < n2 by omega), show ¬ j = n + 1 by omega]
def SomeStoreDeed (x : V) : Prop := ∃ (s : Store) (a : Deed), s.tiny ∧ a.words.length ≤ 200 ∧ x = .tup [s.v, a.v]
end TL

/- The laws of deeds' texts. -/
set_option linter.unusedSimpArgs false
set_option linter.unusedVariables false
set_option maxRecDepth 100000
set_option maxHeartbeats 4000000
set_option pp.maxSteps 1500
namespace TL
open Go Go.Proofs
attribute [local simp] marksV storyV codeV Claim.v Place.v Deed.v
theorem readD_more {s : List UInt8} {c : UInt8} (hc : c = 32 ∨ c = 10) : readD (s ++ [c]) = none := readD_none fun b h1 h2 => by
  have hne : deedTx b ≠ [] := by rw [h2]; exact h1
  rcases deed_cases hne with ⟨w, rfl, ⟨d, hd⟩, e⟩ | ⟨n, h0, h9, rfl, e⟩ | ⟨n, h0, h9, rfl, e⟩ | ⟨rfl, e⟩ | ⟨rfl, e⟩
  · have hw : w ≠ [] := fun e0 => by rw [e0] at hd; cases hd
    have := readC_clean hd c (last_in hw (e.symm.trans h2))
    rcases hc with rfl | rfl
    · exact this.1 rfl
    · exact this.2 rfl
  · have hw : dec n ≠ [] := fun e0 => by have := (good_dec h0 h9).2.1; rw [e0] at this; cases this
    have := (good_dec h0 h9).2.2 c (last_in hw (e.symm.trans h2))
    rcases hc with rfl | rfl
    · exact this.1 rfl
    · exact this.2 rfl
  · have hw : dec n ≠ [] := fun e0 => by have := (good_dec h0 h9).2.1; rw [e0] at this; cases this
    have := (good_dec h0 h9).2.2 c (last_in hw (e.symm.trans h2))
    rcases hc with rfl | rfl
    · exact this.1 rfl
    · exact this.2 rfl
  · have := last_in (p := []) (w := txLeast) (by decide) (e.symm.trans h2)
    rcases hc with rfl | rfl <;> revert this <;> decide
  · have := last_in (p := []) (w := txBack) (by decide) (e.symm.trans h2)
    rcases hc with rfl | rfl <;> revert this <;> decide
end TL

/- The library's functions, off the shelf: texts cut, numbers read. -/
set_option linter.unusedSimpArgs false
set_option linter.unusedVariables false
set_option maxRecDepth 100000
namespace TL
open Go Go.Proofs Go.RowKit
section
variable {P : Program}
theorem cut_FnZ {ρ : Go.Shelf.Ren} (L : Go.Proofs.Lays.n145 P ρ) (hf : ∃ fn, P.funcs[ρ.f 145]? = some fn ∧ (fn.name == "runtime.NumGoroutine") = false ∧ fn.body.isNone = false)
    (hg : P.globalNamed "internal/bytealg.MaxLen" = some (ρ.g 1)) (s c : List UInt8) (hs : s.length < 4294967281) : FnZ P (ρ.f 145) [.str s, .str c] (.tup [.str (Go.Lib.cut s c).1, .str (Go.Lib.cut s c).2.1, .bool (Go.Lib.cut s c).2.2]) := by
  refine FnZ_calls hf fun Z w vs hz hv => ?_
  cases hv with | cons h1 hv => cases hv with | cons h2 hv => cases hv with | nil =>
    cases h1 with
    | @str _ b hb =>
      cases h2 with
      | @str _ bsep hb2 =>
        have hq : GQ P (ρ.g 1) (fun v => ∃ m, v = .int .i64 m) := GQ.maxLen hg
        obtain ⟨_, v, hc, m, rfl⟩ := hz.gl _ _ hq
        have hsz : b.size = s.length := by rw [← hb]; rfl
        refine calls_mono (Any.strings_Cut L b bsep m w (by omega) hc) ?_
        rintro e w' ⟨rfl, n, rfl⟩
        rw [hb, hb2]
        exact ⟨_, rfl, below_drewN (Below.refl _ _) n, .tup (.cons (.str (by simp)) (.cons (.str (by simp)) (.cons (.bool _) .nil)))⟩
theorem atoi_FnZ {ρ : Go.Shelf.Ren} (L : Go.Proofs.LaysC.n172 P ρ) (hf : ∃ fn, P.funcs[ρ.f 172]? = some fn ∧ (fn.name == "runtime.NumGoroutine") = false ∧ fn.body.isNone = false)
    (s : List UInt8) (hs : s.length ≤ 2000000000) : FnZ P (ρ.f 172) [.str s] (.tup [.int .i64 (atoiV s), .any]) := by
  refine FnZ_calls hf fun Z w vs hz hv => ?_
  cases hv with | cons h1 hv => cases hv with | nil =>
    cases h1 with
    | @str _ b hb =>
      have hsz : b.size = s.length := by rw [← hb]; rfl
      have q1 : GQ P (ρ.g 15) (fun v => v = .nilIface ∨ ∃ t p, v = .iface t p) := GQ.errSyntax L.m15
      have q2 : GQ P (ρ.g 16) (fun v => v = .nilIface ∨ ∃ t p, v = .iface t p) := GQ.errRange L.m16
      obtain ⟨_, v1, hc1, hv1⟩ := hz.gl _ _ q1
      obtain ⟨_, v2, hc2, hv2⟩ := hz.gl _ _ q2
      cases e : Go.Lib.atoiAll s with
      | ok v =>
        have ev : atoiV s = v := by unfold atoiV; rw [e]
        rw [ev]
        refine calls_mono (Any.strconv_Atoi_ok L b (by omega) v (by rw [hb]; exact e) w) ?_
        rintro e' w' ⟨rfl, hw⟩
        refine ⟨_, rfl, ?_, .tup (.cons (.int _ _) (.cons (.any _) .nil))⟩
        rcases hw with rfl | ⟨t, rfl⟩
        · exact Below.refl _ _
        · exact Go.Joins.below_bytesWorld _ _ _ _ (Nat.le_refl _)
      | range =>
        have ev : atoiV s = Go.Lib.atoiSat s := by unfold atoiV; rw [e]
        rw [ev]
        refine calls_mono (Any.strconv_Atoi_range L b (by omega) (by rw [hb]; exact e) v2 w hc2 hv2) ?_
        rintro e' w' ⟨N, rfl, _, _, hw⟩
        rw [hb]
        exact ⟨_, rfl, hw, .tup (.cons (.int _ _) (.cons (.any _) .nil))⟩
      | _ =>
        have ev : atoiV s = 0 := by unfold atoiV; rw [e]
        rw [ev]
        refine calls_mono (Any.strconv_Atoi_syntax L b (by omega) (by rw [hb]; exact e) v1 w hc1 hv1) ?_
        rintro e' w' ⟨N, rfl, _, _, hw⟩
        exact ⟨_, rfl, hw, .tup (.cons (.int _ _) (.cons (.any _) .nil))⟩
end
theorem cut_fn (s c : List UInt8) (hs : s.length < 4294967281) : FnZ Tryz.prog 49 [.str s, .str c] (.tup [.str (Go.Lib.cut s c).1, .str (Go.Lib.cut s c).2.1, .bool (Go.Lib.cut s c).2.2]) :=
  cut_FnZ Tryz.lays145 ⟨_, Tryz.func49, rfl, rfl⟩ (by kernel_rfl) s c hs
theorem atoi_fn (s : List UInt8) (hs : s.length ≤ 2000000000) : FnZ Tryz.prog 84 [.str s] (.tup [.int .i64 (atoiV s), .any]) :=
  atoi_FnZ Tryz.laysC172 ⟨_, Tryz.func84, rfl, rfl⟩ s hs
end TL

/- Deeds read: the program and the reference, and the exact law. -/
set_option linter.unusedSimpArgs false
set_option linter.unusedVariables false
set_option maxRecDepth 100000
set_option maxHeartbeats 4000000
set_option pp.maxSteps 1500
namespace TL
open Go Go.Proofs
attribute [local simp] marksV storyV codeV Claim.v Place.v Deed.v
theorem readDeed_fn (s : List UInt8) (hl : s.length ≤ 2000000000) : FnZ Tryz.prog 50 [.str s] (optD (readD s)) := by
  have hcut := cut_fn s [32] (by omega)
  have hon : ∀ a, deedW (Go.Lib.cut s [32]).1 (Go.Lib.cut s [32]).2.1 = some a → s ≠ [] → readD s = if deedTx a = s then some a else none := fun a h => readD_on h
  have hoff : deedW (Go.Lib.cut s [32]).1 (Go.Lib.cut s [32]).2.1 = none → readD s = none := readD_off
  have hne := cutW_nil (s := s)
  have hrl := cutR_len s [32]
  have hdt : ∀ a : Deed, a.words.length ≤ 2000000000 → FnZ Tryz.prog 51 [a.v] (.str (deedTx a)) := fun a h => deedText_fn a h
  generalize (Go.Lib.cut s [32]).2.2 = f at *
  generalize (Go.Lib.cut s [32]).2.1 = r at *
  generalize (Go.Lib.cut s [32]).1 = w at *
  have hrl2 : r.length ≤ 2000000000 := by omega
  by_cases h1 : w = [115, 97, 121]
  · subst h1
    have ho := hon ⟨0, 0, r⟩ rfl (hne (by simp))
    have hd := hdt ⟨0, 0, r⟩ hrl2
    clear hon hoff hne hdt
    rw [ho]
    by_cases hx : deedTx ⟨0, 0, r⟩ = s
    · rw [hx] at hd
      rw [if_pos hx]
      refine FnZ_of (rs := [.cell 2 53, .tmp 3]) false Tryz.func50 rfl rfl rfl rfl (Nat.le_of_ble_eq_true rfl) ?_
      simp -dsimp
      refine call_ hcut (by simp -dsimp) ?_
      simp -dsimp
      refine call_ hd (by simp -dsimp) ?_
      simp -dsimp [optD]
    · rw [if_neg hx]
      refine FnZ_of (rs := [.cell 2 53, .tmp 3]) false Tryz.func50 rfl rfl rfl rfl (Nat.le_of_ble_eq_true rfl) ?_
      simp -dsimp
      refine call_ hcut (by simp -dsimp) ?_
      simp -dsimp
      refine call_ hd (by simp -dsimp) ?_
      simp -dsimp [optD, hx]
  by_cases h2 : w = [100, 114, 111, 112]
  · subst h2
    have ho := hon ⟨1, atoiV r, []⟩ rfl (hne (by simp))
    have hd := hdt ⟨1, atoiV r, []⟩ (by simp)
    have ha := atoi_fn r hrl2
    clear hon hoff hne hdt
    rw [ho]
    generalize atoiV r = num at *
    by_cases hx : deedTx ⟨1, num, []⟩ = s
    · rw [hx] at hd
      rw [if_pos hx]
      refine FnZ_of (rs := [.cell 2 53, .tmp 3]) false Tryz.func50 rfl rfl rfl rfl (Nat.le_of_ble_eq_true rfl) ?_
      simp -dsimp
      refine call_ hcut (by simp -dsimp) ?_
      simp -dsimp
      refine call_ ha (by simp -dsimp) ?_
      simp -dsimp
      refine call_ hd (by simp -dsimp) ?_
      simp -dsimp [optD]
    · rw [if_neg hx]
      refine FnZ_of (rs := [.cell 2 53, .tmp 3]) false Tryz.func50 rfl rfl rfl rfl (Nat.le_of_ble_eq_true rfl) ?_
      simp -dsimp
      refine call_ hcut (by simp -dsimp) ?_
      simp -dsimp
      refine call_ ha (by simp -dsimp) ?_
      simp -dsimp
      refine call_ hd (by simp -dsimp) ?_
      simp -dsimp [optD, hx]
  by_cases h3 : w = [112, 101, 111, 112, 108, 101]
  · subst h3
    have ho := hon ⟨2, atoiV r, []⟩ rfl (hne (by simp))
    have hd := hdt ⟨2, atoiV r, []⟩ (by simp)
    have ha := atoi_fn r hrl2
    clear hon hoff hne hdt
    rw [ho]
    generalize atoiV r = num at *
    by_cases hx : deedTx ⟨2, num, []⟩ = s
    · rw [hx] at hd
      rw [if_pos hx]
      refine FnZ_of (rs := [.cell 2 53, .tmp 3]) false Tryz.func50 rfl rfl rfl rfl (Nat.le_of_ble_eq_true rfl) ?_
      simp -dsimp
      refine call_ hcut (by simp -dsimp) ?_
      simp -dsimp
      refine call_ ha (by simp -dsimp) ?_
      simp -dsimp
      refine call_ hd (by simp -dsimp) ?_
      simp -dsimp [optD]
    · rw [if_neg hx]
      refine FnZ_of (rs := [.cell 2 53, .tmp 3]) false Tryz.func50 rfl rfl rfl rfl (Nat.le_of_ble_eq_true rfl) ?_
      simp -dsimp
      refine call_ hcut (by simp -dsimp) ?_
      simp -dsimp
      refine call_ ha (by simp -dsimp) ?_
      simp -dsimp
      refine call_ hd (by simp -dsimp) ?_
      simp -dsimp [optD, hx]
  by_cases h4 : w = [108, 101, 97, 115, 116]
  · subst h4
    have ho := hon ⟨3, 0, []⟩ rfl (hne (by simp))
    have hd := hdt ⟨3, 0, []⟩ (by simp)
    clear hon hoff hne hdt
    rw [ho]
    by_cases hx : deedTx ⟨3, 0, []⟩ = s
    · rw [hx] at hd
      rw [if_pos hx]
      refine FnZ_of (rs := [.cell 2 53, .tmp 3]) false Tryz.func50 rfl rfl rfl rfl (Nat.le_of_ble_eq_true rfl) ?_
      simp -dsimp
      refine call_ hcut (by simp -dsimp) ?_
      simp -dsimp
      refine call_ hd (by simp -dsimp) ?_
      simp -dsimp [optD]
    · rw [if_neg hx]
      refine FnZ_of (rs := [.cell 2 53, .tmp 3]) false Tryz.func50 rfl rfl rfl rfl (Nat.le_of_ble_eq_true rfl) ?_
      simp -dsimp
      refine call_ hcut (by simp -dsimp) ?_
      simp -dsimp
      refine call_ hd (by simp -dsimp) ?_
      simp -dsimp [optD, hx]
  by_cases h5 : w = [98, 97, 99, 107]
  · subst h5
    have ho := hon ⟨4, 0, []⟩ rfl (hne (by simp))
    have hd := hdt ⟨4, 0, []⟩ (by simp)
    clear hon hoff hne hdt
    rw [ho]
    by_cases hx : deedTx ⟨4, 0, []⟩ = s
    · rw [hx] at hd
      rw [if_pos hx]
      refine FnZ_of (rs := [.cell 2 53, .tmp 3]) false Tryz.func50 rfl rfl rfl rfl (Nat.le_of_ble_eq_true rfl) ?_
      simp -dsimp
      refine call_ hcut (by simp -dsimp) ?_
      simp -dsimp
      refine call_ hd (by simp -dsimp) ?_
      simp -dsimp [optD]
    · rw [if_neg hx]
      refine FnZ_of (rs := [.cell 2 53, .tmp 3]) false Tryz.func50 rfl rfl rfl rfl (Nat.le_of_ble_eq_true rfl) ?_
      simp -dsimp
      refine call_ hcut (by simp -dsimp) ?_
      simp -dsimp
      refine call_ hd (by simp -dsimp) ?_
      simp -dsimp [optD, hx]
  · have e : deedW w r = none := by unfold deedW; rw [if_neg h1, if_neg h2, if_neg h3, if_neg h4, if_neg h5]
    rw [hoff e]
    clear hon hoff hne hdt
    refine FnZ_of (rs := [.cell 2 53, .tmp 3]) false Tryz.func50 rfl rfl rfl rfl (Nat.le_of_ble_eq_true rfl) ?_
    simp -dsimp
    refine call_ hcut (by simp -dsimp) ?_
    simp -dsimp [optD, h1, h2, h3, h4, h5]
end TL

/- Journals read. -/
set_option linter.unusedSimpArgs false
set_option linter.unusedVariables false
set_option maxRecDepth 100000
set_option maxHeartbeats 4000000
set_option pp.maxSteps 1500
namespace TL
open Go Go.Proofs
attribute [local simp] marksV storyV codeV Claim.v Place.v Deed.v
def Irj (s : List UInt8) (J : List Deed × Nat) (y : S) : Prop := ∃ (pos id f : Nat) (l : List Deed), y.tm 0 = .v (.str s) ∧ y.tm 4 = .loc id ∧ id < y.n ∧ y.m id = some (.arr 53 (l.map Deed.v)) ∧ y.tm 5 = .v (.int .i64 pos) ∧ y.mu = false ∧ pos ≤ s.length ∧ l.length ≤ pos ∧
  (s.drop pos).length < f ∧ l ++ (readJF f (s.drop pos)).1 = J.1 ∧ pos + (readJF f (s.drop pos)).2 = J.2
theorem readJournal_fn (s : List UInt8) (hl : s.length ≤ 2000000000) : FnZ Tryz.prog 22 [.str s] (.tup [.sl ((readJ s).1.map Deed.v), .int .i64 (readJ s).2]) := by
  generalize hJ : readJ s = J
  refine FnZ_of (rs := [.tmp 2, .tmp 3]) false Tryz.func22 rfl rfl rfl rfl (Nat.le_of_ble_eq_true rfl) ?_
  simp -dsimp
  refine twp_loop (Irj s J) (fun y => s.length - natOf (y.tm 5)) ?_ ?_
  · exact ⟨0, 0, s.length + 1, [], by simp -dsimp, by simp -dsimp, by simp -dsimp, by simp -dsimp, by simp -dsimp, by simp -dsimp, by omega, by simp, by simp, by rw [← hJ]; rfl, by rw [← hJ]; simp [readJ]⟩
  · rintro y ⟨pos, id, f, l, t0, t4, hid, hm, t5, hmu, hpos, hll, hf, hj1, hj2⟩
    have hcut := cut_fn (s.drop pos) [10] (by rw [List.length_drop]; omega)
    have hpos' : (pos : Int) ≤ s.length := by omega
    have f1 := far hid
    have hstop : (Go.Lib.cut (s.drop pos) [10]).2.2 = false ∨ readD (Go.Lib.cut (s.drop pos) [10]).1 = none → J = (l, pos) := fun h => by
      cases f with
      | zero => simp at hf
      | succ f =>
        rw [readJF_stop h] at hj1 hj2
        obtain ⟨J1, J2⟩ := J
        simp at hj1 hj2
        rw [← hj1, ← hj2]
    have hgo : ∀ a, (Go.Lib.cut (s.drop pos) [10]).2.2 = true → readD (Go.Lib.cut (s.drop pos) [10]).1 = some a → ∃ g, pos + ((Go.Lib.cut (s.drop pos) [10]).1.length + 1) ≤ s.length ∧ (s.drop (pos + ((Go.Lib.cut (s.drop pos) [10]).1.length + 1))).length < g ∧
        (l ++ [a]) ++ (readJF g (s.drop (pos + ((Go.Lib.cut (s.drop pos) [10]).1.length + 1)))).1 = J.1 ∧ pos + ((Go.Lib.cut (s.drop pos) [10]).1.length + 1) + (readJF g (s.drop (pos + ((Go.Lib.cut (s.drop pos) [10]).1.length + 1)))).2 = J.2 := fun a h ha => by
      cases f with
      | zero => simp at hf
      | succ f =>
        rw [readJF_step h ha] at hj1 hj2
        obtain ⟨e, _⟩ := cut_found h
        have e2 : s.drop (pos + ((Go.Lib.cut (s.drop pos) [10]).1.length + 1)) = (Go.Lib.cut (s.drop pos) [10]).2.1 := by
          rw [← List.drop_drop]
          generalize Go.Lib.cut (s.drop pos) [10] = C at *
          rw [e, List.drop_append, List.drop_of_length_le (by omega)]
          have : C.1.length + 1 - C.1.length = 1 := by omega
          rw [this]; simp
        have e3 := congrArg List.length e
        rw [List.length_append, List.length_cons, List.length_drop] at e3
        have e4 := congrArg List.length e2
        rw [List.length_drop] at e4
        refine ⟨f, by omega, by rw [List.length_drop] at hf ⊢; omega, ?_, ?_⟩
        · rw [e2, ← hj1]; simp
        · rw [e2, ← hj2]; simp only; omega
    have hwl : (Go.Lib.cut (s.drop pos) [10]).1.length ≤ s.length := by
      unfold Go.Lib.cut
      split
      · simp only [List.length_take, List.length_drop]; omega
      · simp only [List.length_drop]; omega
    have hrd := readDeed_fn (Go.Lib.cut (s.drop pos) [10]).1 (by omega)
    generalize (Go.Lib.cut (s.drop pos) [10]).2.1 = r at *
    generalize (Go.Lib.cut (s.drop pos) [10]).2.2 = fd at *
    generalize (Go.Lib.cut (s.drop pos) [10]).1 = w at *
    generalize readD w = o at *
    cases fd with
    | false =>
      have hst := hstop (.inl rfl)
      rw [hst]
      simp -dsimp [t0, t5, hpos, hpos']
      refine call_ hcut (by simp -dsimp) ?_
      simp -dsimp
      refine call_ hrd (by simp -dsimp) ?_
      simp -dsimp [optD, t4, t5, hm, f1]
    | true =>
      cases o with
      | none =>
        have hst := hstop (.inr rfl)
        rw [hst]
        simp -dsimp [t0, t5, hpos, hpos']
        refine call_ hcut (by simp -dsimp) ?_
        simp -dsimp
        refine call_ hrd (by simp -dsimp) ?_
        simp -dsimp [optD, t4, t5, hm, f1]
      | some a =>
        have hg := hgo a rfl rfl
        clear hgo hstop
        refine hg.elim fun g hg => ?_
        obtain ⟨g1, g2, g3, g4⟩ := hg
        have b1 : (l.length + 1) * 32 ≤ 140737488355328 := by omega
        have w1 : IntKind.wrap .i64 ((w.length : Int) + 1) = (w.length : Int) + 1 := w64 (by omega) (by omega)
        have w2 : IntKind.wrap .i64 ((pos : Int) + ((w.length : Int) + 1)) = ((pos + (w.length + 1) : Nat) : Int) := by rw [w64 (by omega) (by omega)]; omega
        have hmu1 : s.length - (pos + (w.length + 1)) < s.length - pos := by omega
        have hT : ((pos : Int) + ((w.length : Int) + 1)).toNat = pos + (w.length + 1) := by omega
        simp -dsimp [t0, t5, hpos, hpos']
        refine call_ hcut (by simp -dsimp) ?_
        simp -dsimp
        refine call_ hrd (by simp -dsimp) ?_
        simp -dsimp [optD, t4, t5, hm, f1, hmu, b1, w1, w2, hT, hmu1, nes]
        refine st_out fun s' ht hm' hn' hu' => ?_
        have a0 := ht 0
        have a4 := ht 4
        have a5 := ht 5
        simp -dsimp [t0, w2] at a0 a4 a5 hm' hn' hu'
        clear ht
        refine ⟨pos + (w.length + 1), _, g, l ++ [a], a0, a4, by omega, ?_, a5, by rw [hu', hmu], g1, by simp; omega, g2, g3, g4⟩
        simp [hm', nes, f1]
end TL

/- Stores: mended, opened, acted at, saved. -/
set_option linter.unusedSimpArgs false
set_option linter.unusedVariables false
set_option maxRecDepth 100000
set_option maxHeartbeats 4000000
set_option pp.maxSteps 1500
namespace TL
open Go Go.Proofs
attribute [local simp] marksV storyV codeV Claim.v Place.v Store.v Desk.v Deed.v
theorem storeMend_fn (s : Store) (h : s.small) : FnZ Tryz.prog 21 [s.v] (.tup [(storeMend s).v, .bool (storeOk s)]) := by
  have ho := storeOk_fn s h
  have hj := readJournal_fn s.log h.2
  have hle := readJ_le s.log
  have hk := ft (storeOk s)
  unfold storeMend
  generalize storeOk s = o at *
  generalize readJ s.log = J at *
  obtain ⟨s1, s2, s3⟩ := s
  obtain ⟨J1, J2⟩ := J
  simp only at hle hj ⊢
  have hle' : (J2 : Int) ≤ s2.length := by omega
  refine FnZ_of (rs := [.cell 2 25, .tmp 3]) false Tryz.func21 rfl rfl rfl rfl (Nat.le_of_ble_eq_true rfl) ?_
  simp -dsimp
  refine call_ ho (by simp -dsimp) ?_
  rcases hk with rfl | rfl
  · simp -dsimp [noStore]
  · simp -dsimp
    refine call_ hj (by simp -dsimp) ?_
    simp -dsimp [hle, hle']
theorem opened_fn (s : Store) (h : s.small) (hs : storeOk s = true) : FnZ Tryz.prog 43 [s.v] (opened s).v := by
  have hr := readPlace_fn s.saved h.1
  have hj := readJournal_fn s.log h.2
  have hp := placeOf_ok (storeOk_iff.1 hs).1
  rw [hp.2.2] at hr
  have hw : ∀ a ∈ (readJ s.log).1, a.words.length ≤ 1000000000 := fun a ha => words_short (readJ_all _ a ha)
  have hd := doAll_fn ⟨placeOf s, []⟩ (readJ s.log).1 (desk_new hp.1) (by have := readJ_many s.log; have := (storeOk_iff.1 hs).2.1; omega) hw
  unfold opened
  generalize doAll ⟨placeOf s, []⟩ (readJ s.log).1 = R at *
  generalize readJ s.log = J at *
  generalize placeOf s = p at *
  obtain ⟨s1, s2, s3⟩ := s
  obtain ⟨J1, J2⟩ := J
  obtain ⟨⟨⟨R1, R2⟩, R3⟩, R4⟩ := R
  obtain ⟨p1, p2⟩ := p
  simp only at hr hj hd ⊢
  refine FnZ_of (rs := [.cell 2 40]) false Tryz.func43 rfl rfl rfl rfl (Nat.le_of_ble_eq_true rfl) ?_
  simp -dsimp
  refine call_ hr (by simp -dsimp) ?_
  simp -dsimp [optP]
  refine call_ hj (by simp -dsimp) ?_
  simp -dsimp
  refine call_ hd (by simp -dsimp) ?_
  simp -dsimp
theorem storeOpen_fn (s : Store) (h : s.small) : FnZ Tryz.prog 17 [s.v] (.tup [(storeOpen s).v, .bool (storeOk s)]) := by
  have ho := storeOk_fn s h
  have hk := ft (storeOk s)
  have hop := opened_fn s h
  unfold storeOpen
  generalize storeOk s = o at *
  generalize opened s = D at *
  obtain ⟨s1, s2, s3⟩ := s
  obtain ⟨⟨D1, D2⟩, D3⟩ := D
  refine FnZ_of (rs := [.cell 2 40, .tmp 3]) false Tryz.func17 rfl rfl rfl rfl (Nat.le_of_ble_eq_true rfl) ?_
  simp -dsimp
  refine call_ ho (by simp -dsimp) ?_
  rcases hk with rfl | rfl
  · simp -dsimp [noDeskV]
  · simp -dsimp
    refine call_ (hop rfl) (by simp -dsimp) ?_
    simp -dsimp
theorem storeAct_fn (s : Store) (a : Deed) (h : s.small) (ha : a.words.length ≤ 1000000000) : FnZ Tryz.prog 23 [s.v, a.v] (.tup [(storeAct s a).v, .bool (actOk s a)]) := by
  have ho := storeOk_fn s h
  have hk := ft (storeOk s)
  rcases hk with hk | hk
  · obtain ⟨e1, e2⟩ := storeAct_out (a := a) hk
    rw [e1, e2]
    rw [hk] at ho
    obtain ⟨s1, s2, s3⟩ := s
    obtain ⟨a1, a2, a3⟩ := a
    refine FnZ_of (rs := [.cell 4 25, .tmp 5]) false Tryz.func23 rfl rfl rfl rfl (Nat.le_of_ble_eq_true rfl) ?_
    simp -dsimp
    refine call_ ho (by simp -dsimp) ?_
    simp -dsimp [noStore]
  have hj := readJournal_fn s.log h.2
  have hop := opened_fn s h hk
  have hd := deskDo_fn (opened s) a (desk_fine (opened_ok hk)).1 ha
  have ht := deedText_fn a (by omega)
  have htl := deedTx_len a
  have hll := (storeOk_iff.1 hk).2.1
  have hA : actOk s a = (decide ((readJ s.log).2 = s.log.length) && (deskDo (opened s) a).2 && !decide (deedTx a = []) && decide (s.log.length + (deedTx a).length + 1 ≤ 1000)) := by unfold actOk; rw [hk]; rfl
  unfold storeAct
  rw [hA, hk]
  rw [hk] at ho
  clear hA
  generalize deskDo (opened s) a = E at *
  generalize opened s = D at *
  generalize deedTx a = tx at *
  generalize readJ s.log = J at *
  clear hk h ha
  obtain ⟨s1, s2, s3⟩ := s
  obtain ⟨a1, a2, a3⟩ := a
  obtain ⟨J1, J2⟩ := J
  obtain ⟨⟨D1, D2⟩, D3⟩ := D
  obtain ⟨⟨⟨E1, E2⟩, E3⟩, E4⟩ := E
  simp only at hj hd hll ⊢
  have b1 : (s2.length : Int) + tx.length ≤ 9223372036854775807 := by omega
  have b2 : (s2.length : Int) + (tx.length + 1) ≤ 9223372036854775807 := by omega
  have b3 : (s2.length : Int) + tx.length + 1 ≤ 9223372036854775807 := by omega
  refine FnZ_of (rs := [.cell 4 25, .tmp 5]) false Tryz.func23 rfl rfl rfl rfl (Nat.le_of_ble_eq_true rfl) ?_
  simp -dsimp
  refine call_ ho (by simp -dsimp) ?_
  simp -dsimp
  refine call_ hj (by simp -dsimp) ?_
  simp -dsimp
  refine twp_drawT (.run [0, 2] (.alt (.run [1] (.alt (.run [3, 4, 5, 6, 7, 8, 9] .done) (.run [7, 3, 4, 5, 6, 8, 9] .done))) (.run [7, 1, 3, 4, 5, 6, 8, 9] .done))) [0, 1] (List.replicate 10 [0, 1]) (List.replicate 10 [0, 1]) (by kernel_rfl) (by kernel_rfl) (by kernel_rfl) (by kernel_rfl) ?_
  simp -dsimp
  refine ordT_both ?_ ?_
  · simp -dsimp
    refine call_ hop (by simp -dsimp) ?_
    simp -dsimp
    refine ordT_both ?_ ?_
    · simp -dsimp
      refine call_ hd (by simp -dsimp) ?_
      simp -dsimp
      refine twp_draw (List.range 7) [0, 1] (List.replicate 7 [0, 1]) (List.replicate 7 [0, 1]) (by kernel_rfl) (by kernel_rfl) (by kernel_rfl) (by kernel_rfl) ?_
      simp -dsimp [List.range_succ]
      refine call_ ht (by simp -dsimp) ?_
      simp -dsimp [List.range_succ, b1, b2, b3]
      by_cases q1 : J2 = s2.length
      case neg =>
        have q1' : ¬ (J2 : Int) = s2.length := by omega
        simp -dsimp [q1, q1']
      have q1' : (J2 : Int) = s2.length := by omega
      cases E4 with
      | false => simp -dsimp [q1, q1']
      | true =>
        simp -dsimp [q1, q1']
        refine call_ ht (by simp -dsimp) ?_
        by_cases q2 : tx = []
        · simp -dsimp [q2]
        by_cases q3 : s2.length + tx.length + 1 ≤ 1000
        · have q3' : ¬ (1000 : Int) < (s2.length : Int) + (tx.length + 1) := by omega
          have q3'' : ¬ (1000 : Int) < (s2.length : Int) + tx.length + 1 := by omega
          simp -dsimp [q1, q2, q3, q3', q3'']
        · have q3' : (1000 : Int) < (s2.length : Int) + (tx.length + 1) := by omega
          have q3'' : (1000 : Int) < (s2.length : Int) + tx.length + 1 := by omega
          simp -dsimp [q1, q2, q3, q3', q3'']
    · simp -dsimp
      refine call_ hd (by simp -dsimp) ?_
      simp -dsimp
      refine twp_draw (List.range 7) [0, 1] (List.replicate 7 [0, 1]) (List.replicate 7 [0, 1]) (by kernel_rfl) (by kernel_rfl) (by kernel_rfl) (by kernel_rfl) ?_
      simp -dsimp [List.range_succ]
      refine call_ ht (by simp -dsimp) ?_
      simp -dsimp [List.range_succ, b1, b2, b3]
      by_cases q1 : J2 = s2.length
      case neg =>
        have q1' : ¬ (J2 : Int) = s2.length := by omega
        simp -dsimp [q1, q1']
      have q1' : (J2 : Int) = s2.length := by omega
      cases E4 with
      | false => simp -dsimp [q1, q1']
      | true =>
        simp -dsimp [q1, q1']
        refine call_ ht (by simp -dsimp) ?_
        by_cases q2 : tx = []
        · simp -dsimp [q2]
        by_cases q3 : s2.length + tx.length + 1 ≤ 1000
        · have q3' : ¬ (1000 : Int) < (s2.length : Int) + (tx.length + 1) := by omega
          have q3'' : ¬ (1000 : Int) < (s2.length : Int) + tx.length + 1 := by omega
          simp -dsimp [q1, q2, q3, q3', q3'']
        · have q3' : (1000 : Int) < (s2.length : Int) + (tx.length + 1) := by omega
          have q3'' : (1000 : Int) < (s2.length : Int) + tx.length + 1 := by omega
          simp -dsimp [q1, q2, q3, q3', q3'']
  · simp -dsimp
    refine call_ hop (by simp -dsimp) ?_
    simp -dsimp
    refine call_ hd (by simp -dsimp) ?_
    simp -dsimp
    refine twp_draw (List.range 7) [0, 1] (List.replicate 7 [0, 1]) (List.replicate 7 [0, 1]) (by kernel_rfl) (by kernel_rfl) (by kernel_rfl) (by kernel_rfl) ?_
    simp -dsimp [List.range_succ]
    refine call_ ht (by simp -dsimp) ?_
    simp -dsimp [List.range_succ, b1, b2, b3]
    by_cases q1 : J2 = s2.length
    case neg =>
      have q1' : ¬ (J2 : Int) = s2.length := by omega
      simp -dsimp [q1, q1']
    have q1' : (J2 : Int) = s2.length := by omega
    cases E4 with
    | false => simp -dsimp [q1, q1']
    | true =>
      simp -dsimp [q1, q1']
      refine call_ ht (by simp -dsimp) ?_
      by_cases q2 : tx = []
      · simp -dsimp [q2]
      by_cases q3 : s2.length + tx.length + 1 ≤ 1000
      · have q3' : ¬ (1000 : Int) < (s2.length : Int) + (tx.length + 1) := by omega
        have q3'' : ¬ (1000 : Int) < (s2.length : Int) + tx.length + 1 := by omega
        simp -dsimp [q1, q2, q3, q3', q3'']
      · have q3' : (1000 : Int) < (s2.length : Int) + (tx.length + 1) := by omega
        have q3'' : (1000 : Int) < (s2.length : Int) + tx.length + 1 := by omega
        simp -dsimp [q1, q2, q3, q3', q3'']
end TL

/- Laws of stores: mended, saved, acted at, opened. -/
set_option linter.unusedSimpArgs false
set_option linter.unusedVariables false
set_option maxRecDepth 100000
set_option maxHeartbeats 4000000
set_option pp.maxSteps 1500
namespace TL
open Go Go.Proofs
attribute [local simp] marksV storyV codeV Claim.v Place.v Store.v Desk.v Deed.v
theorem out_mend {s : Store} (h : storeOk s = false) : storeMend s = noStore := if_neg (by simp [h])
theorem out_save {s : Store} (h : storeOk s = false) : storeSave s = noStore := if_neg (by simp [h])
theorem out_open {s : Store} (h : storeOk s = false) : storeOpen s = noDeskV := if_neg (by simp [h])
theorem yes_open {s : Store} (h : storeOk s = true) : storeOpen s = opened s := if_pos h
theorem mend_small {s : Store} (h : s.small) : (storeMend s).small := by
  unfold storeMend; split
  · exact ⟨h.1, by have := h.2; simp; omega⟩
  · exact ⟨by simp [noStore], by simp [noStore]⟩
theorem drop_len : (deedTx ⟨1, 0, []⟩).length = 6 ∧ deedTx ⟨1, 0, []⟩ ≠ [] := by
  have h0 : (readC 4 []).isSome = false := rfl
  have e : deedTx ⟨1, 0, []⟩ = txDrop ++ dec 0 := by unfold deedTx; simp
  have e2 : dec 0 = [48] := by simp [dec, Go.Lib.decDigits]
  rw [e, e2]; exact ⟨rfl, by simp [txDrop]⟩
end TL

/- Stores: mended, opened, acted at, saved. -/
set_option linter.unusedSimpArgs false
set_option linter.unusedVariables false
set_option maxRecDepth 100000
set_option maxHeartbeats 4000000
set_option pp.maxSteps 1500
namespace TL
open Go Go.Proofs
attribute [local simp] evField marksV storyV codeV Claim.v Place.v Store.v Desk.v Deed.v
theorem storeSave_fn (s : Store) (h : s.small) : FnZ Tryz.prog 12 [s.v] (.tup [(storeSave s).v, .bool (storeOk s)]) := by
  have ho := storeOk_fn s h
  have hk := ft (storeOk s)
  have hop := opened_fn s h
  have hpt : storeOk s = true → FnZ Tryz.prog 42 [(opened s).now.v] (.str (placeTx (opened s).now)) := fun h => placeText_fn _ (by have := (desk_fine (opened_ok h)).1.1.1; omega)
  unfold storeSave
  generalize storeOk s = o at *
  generalize placeTx (opened s).now = tx at *
  generalize opened s = D at *
  obtain ⟨s1, s2, s3⟩ := s
  obtain ⟨⟨D1, D2⟩, D3⟩ := D
  refine FnZ_of (rs := [.cell 2 25, .tmp 3]) false Tryz.func12 rfl rfl rfl rfl (Nat.le_of_ble_eq_true rfl) ?_
  simp -dsimp
  refine call_ ho (by simp -dsimp) ?_
  rcases hk with rfl | rfl
  · simp -dsimp [noStore]
  · simp -dsimp
    refine call_ (hop rfl) (by simp -dsimp) ?_
    simp -dsimp
    refine call_ (hpt rfl) (by simp -dsimp) ?_
    simp -dsimp
theorem storeSaveS_fn (s : Store) (h : s.small) : FnZ Tryz.prog 10 [s.v] (.tup [(storeSave s).v, .bool (storeOk s)]) := by
  have ho := storeOpenS_fn s h
  have hk := ft (storeOk s)
  have hpt : storeOk s = true → FnZ Tryz.prog 41 [(opened s).now.v] (.str (placeTx (opened s).now)) := fun h => placeTextS_fn _ (desk_fine (opened_ok h)).2.2.2
  have eo : storeOk s = true → storeOpen s = opened s := fun h => if_pos h
  unfold storeSave
  generalize storeOk s = o at *
  generalize placeTx (opened s).now = tx at *
  generalize storeOpen s = D0 at *
  generalize opened s = D at *
  obtain ⟨s1, s2, s3⟩ := s
  obtain ⟨⟨D1, D2⟩, D3⟩ := D
  refine FnZ_of (rs := [.cell 2 25, .tmp 3]) false Tryz.func10 rfl rfl rfl rfl (Nat.le_of_ble_eq_true rfl) ?_
  rcases hk with rfl | rfl
  · obtain ⟨⟨E1, E2⟩, E3⟩ := D0
    simp -dsimp
    refine call_ ho (by simp -dsimp) ?_
    simp -dsimp [noStore]
  · obtain rfl := eo rfl
    simp -dsimp
    refine call_ ho (by simp -dsimp) ?_
    simp -dsimp
    refine call_ (hpt rfl) (by simp -dsimp) ?_
    simp -dsimp
end TL

/- Laws of stores: mended, saved, acted at, opened. -/
set_option linter.unusedSimpArgs false
set_option linter.unusedVariables false
set_option maxRecDepth 100000
set_option maxHeartbeats 4000000
set_option pp.maxSteps 1500
namespace TL
open Go Go.Proofs
attribute [local simp] marksV storyV codeV Claim.v Place.v Store.v Desk.v Deed.v
theorem lawStoreSave (bs : List UInt8) : FnZ Tryz.prog 4 [codeV bs] (.bool true) := by
  refine FnZ_of (rs := [.tmp 2]) false Tryz.func4 rfl rfl rfl rfl (Nat.le_of_ble_eq_true rfl) ?_
  by_cases h : (1048576 : Int) < bs.length
  · simp -dsimp [nes, nes8, nes9, h]
  simp -dsimp [nes, nes8, nes9, h]
  refine callS_ (drawStoreSave_z bs _ _) ?_
  rintro t m1 n1 ⟨hn1, ⟨x, ⟨s, hs, rfl⟩, rfl⟩, rfl⟩
  have small := hs.small
  have h1 := storeSave_fn s small
  have h2 := storeSaveS_fn s small
  have h0 := storeOk_fn s small
  have hk := ft (storeOk s)
  rcases hk with hk | hk
  · rw [hk, out_save hk] at h1 h2
    rw [hk] at h0
    clear hs small
    obtain ⟨s1, s2, s3⟩ := s
    simp -dsimp [nes, nes8, nes9]
    refine call_ h1 (by simp -dsimp) ?_
    simp -dsimp [nes, nes8, nes9, noStore]
    refine call_ h2 (by simp -dsimp) ?_
    simp -dsimp [nes, nes8, nes9, noStore]
    refine call_ h0 (by simp -dsimp) ?_
    simp -dsimp [nes, nes8, nes9]
    refine call_ alive_fn (by simp -dsimp) ?_
    simp -dsimp [nes, nes8, nes9]
  · obtain ⟨a1, a2, a3, a4⟩ := save_done hk
    have hsm := (desk_fine (opened_ok hk)).1.1
    have hl := placeTx_len (opened s).now
    have hst := (place_fine (deskOk_iff.1 (opened_ok hk)).2.1).2.2.2
    have sx : (storeSave s).small := by rw [a4]; exact ⟨by simp only; omega, by simp⟩
    have ho := yes_open hk
    have ho2 : storeOpen (storeSave s) = ⟨(opened s).now, []⟩ := by rw [yes_open a1, a2]
    have h3 := storeOpen_fn s small
    have h4 := storeOpen_fn (storeSave s) sx
    have hc : crashOk (storeSave s) 0 = true := by
      simp only [crashOk, Bool.and_eq_true, decide_eq_true_eq]; rw [a1, a4]; simp
    have hc2 : storeCrash (storeSave s) 0 = storeSave s := by unfold storeCrash; rw [if_pos hc, a4]; simp
    have h5 := storeCrash_fn (storeSave s) 0 sx
    have h6 := storeSave_fn (storeSave s) sx
    have h7 := storeOk_fn (storeSave s) sx
    have h8 := samePlace_fn (opened s).now (opened s).now hsm
    rw [hk, ho] at h3
    rw [a1, ho2] at h4
    rw [hc, hc2] at h5
    rw [a1, a3] at h6
    rw [a1] at h7
    rw [hk] at h1 h2
    rw [a4] at h1 h2 h4 h5 h6 h7
    generalize placeTx (opened s).now = tx at *
    generalize opened s = D at *
    clear hs small hk a1 a2 a3 a4 ho ho2 hc hc2 h0 hsm hl hst sx
    obtain ⟨s1, s2, s3⟩ := s
    obtain ⟨⟨D1, D2⟩, D3⟩ := D
    simp -dsimp [nes, nes8, nes9]
    refine call_ h1 (by simp -dsimp) ?_
    simp -dsimp [nes, nes8, nes9]
    refine call_ h2 (by simp -dsimp) ?_
    simp -dsimp [nes, nes8, nes9]
    refine call_ h3 (by simp -dsimp) ?_
    simp -dsimp [nes, nes8, nes9]
    refine call_ h4 (by simp -dsimp) ?_
    simp -dsimp [nes, nes8, nes9]
    refine call_ h5 (by simp -dsimp) ?_
    simp -dsimp [nes, nes8, nes9]
    refine call_ h6 (by simp -dsimp) ?_
    simp -dsimp [nes, nes8, nes9]
    refine call_ h7 (by simp -dsimp) ?_
    simp -dsimp [nes, nes8, nes9]
    refine call_ h8 (by simp -dsimp) ?_
    simp -dsimp [nes, nes8, nes9]
end TL

/- The exact laws of stores that are saved. -/
set_option linter.unusedSimpArgs false
set_option linter.unusedVariables false
set_option maxRecDepth 100000
set_option maxHeartbeats 4000000
set_option pp.maxSteps 1500
namespace TL
open Go Go.Proofs
attribute [local simp] marksV storyV codeV Claim.v Place.v Store.v Deed.v
theorem exactStoreSave_row (s : Store) (h : s.mid) : FnZ Tryz.prog 3 [s.v] (.bool true) := by
  have hsz := szStore_fn s h
  by_cases hz : szR 1048576 s.bulk < 0
  · generalize szR 1048576 s.bulk = z at *
    refine FnZ_of (rs := [.tmp 2]) false Tryz.func3 rfl rfl rfl rfl (Nat.le_of_ble_eq_true rfl) ?_
    simp -dsimp [Store.v]
    refine call_ hsz (by simp -dsimp [Store.v]) ?_
    simp -dsimp [hz]
  · have small := store_ready hz
    have h1 := storeSaveS_fn s small
    have h2 := storeSave_fn s small
    have h3 := toStore_fn s
    have heq := eqStore_fn (storeSave s) (storeSave s)
    generalize szR 1048576 s.bulk = z at *
    generalize storeOk s = o at *
    generalize storeSave s = c at *
    obtain ⟨c1, c2, c3⟩ := c
    refine FnZ_of (rs := [.tmp 2]) false Tryz.func3 rfl rfl rfl rfl (Nat.le_of_ble_eq_true rfl) ?_
    simp -dsimp [Store.v]
    refine call_ hsz (by simp -dsimp [Store.v]) ?_
    simp -dsimp [hz]
    refine call_ h3 (by simp -dsimp [Store.v]) ?_
    simp -dsimp [Store.v]
    refine call_ h1 (by simp -dsimp [Store.v]) ?_
    simp -dsimp [Store.v]
    refine call_ h3 (by simp -dsimp [Store.v]) ?_
    simp -dsimp [Store.v]
    refine call_ h2 (by simp -dsimp [Store.v]) ?_
    simp -dsimp [Store.v]
    refine call_ heq (by simp -dsimp [Store.v]) ?_
    simp -dsimp
end TL

/- In the end all is there again. -/
set_option linter.unusedSimpArgs false
set_option linter.unusedVariables false
set_option maxRecDepth 100000
set_option maxHeartbeats 4000000
set_option pp.maxSteps 1500
namespace TL
open Go Go.Proofs
attribute [local simp] marksV storyV codeV Claim.v Place.v Store.v Desk.v Deed.v
theorem jr_ge (l : List Deed) : l.length ≤ (jr l deedTx).length := by
  induction l with
  | nil => simp
  | cons a l ih => rw [jr_cons]; simp; omega
/-- The loop: p holds the store, q the mended one with k of the deeds done again. -/
def Ien (s : Store) (l : List Deed) (p q e : Nat) (st : S) : Prop := ∃ (x : Store) (k : Nat), st.tm 3 = .ptr p 0 ∧ st.tm 5 = .ptr q 0 ∧ st.tm 7 = .v (.bool true) ∧ p < st.n ∧ q < st.n ∧
  st.m p = some (.box 25 3 [.v (.str s.saved), .v (.str s.log), .v (.int .i64 s.sure)]) ∧ st.m q = some (.box 25 3 [.v (.str x.saved), .v (.str x.log), .v (.int .i64 x.sure)]) ∧
  st.tm 8 = .v (.sl (l.map Deed.v)) ∧ st.tm 12 = .v (.int .i64 k) ∧ k ≤ l.length ∧ EndInv s x k ∧ x.saved = s.saved ∧ (e = 1 → k = l.length)
theorem end_small {s x : Store} {k : Nat} (hs : s.small) (h : EndInv s x k) (hv : x.saved = s.saved) : x.small := by
  refine ⟨by rw [hv]; exact hs.1, ?_⟩
  have h1 := h.short
  have h2 := jr_take_le (readJ s.log).1 k
  have h3 := readJ_le s.log
  rw [← readJ_len] at h2
  have := hs.2
  omega
theorem lawStoreEnd (bs : List UInt8) : FnZ Tryz.prog 5 [codeV bs] (.bool true) := by
  refine FnZ_of (rs := [.tmp 2]) false Tryz.func5 rfl rfl rfl rfl (Nat.le_of_ble_eq_true rfl) ?_
  by_cases h : (1048576 : Int) < bs.length
  · simp -dsimp [nes, nes8, nes9, h]
  simp -dsimp [nes, nes8, nes9, h]
  refine callS_ (drawStoreCrash_z bs _ _) ?_
  rintro t m1 n1 ⟨hn1, ⟨x, ⟨s, c, hs, rfl⟩, rfl⟩, rfl⟩
  have small := hs.small
  have h1 := storeCrash_fn s c small
  have hk := ft (crashOk s c)
  rcases hk with hk | hk
  · rw [hk, crash_no hk] at h1
    clear hs small
    obtain ⟨s1, s2, s3⟩ := s
    simp -dsimp [nes, nes8, nes9]
    refine call_ h1 (by simp -dsimp) ?_
    simp -dsimp [nes, nes8, nes9, noStore]
    refine call_ alive_fn (by simp -dsimp) ?_
    simp -dsimp [nes, nes8, nes9]
  · obtain ⟨a1, a2, a3, a4, a5, a6, a7, a8, a9⟩ := crash_again hk
    have hs0 := (crash_iff.1 hk).1
    have hst := end_start hk
    have csm : (storeCrash s c).small := by rw [a9]; exact ⟨small.1, by have := small.2; simp only [List.length_take]; omega⟩
    have msm : (storeMend (storeCrash s c)).small := by
      unfold storeMend; rw [if_pos a1]; exact ⟨csm.1, by have := csm.2; simp only [List.length_take]; omega⟩
    have msv : (storeMend (storeCrash s c)).saved = s.saved := by unfold storeMend; rw [if_pos a1, a9]
    have h2 := storeMend_fn (storeCrash s c) csm
    have h3 := readJournal_fn s.log small.2
    have h4 := readJournal_fn (storeMend (storeCrash s c)).log msm.2
    have h5 := storeOpen_fn s small
    have e5 : storeOpen s = opened s := if_pos hs0
    have hll : (readJ s.log).1.length ≤ 2000000000 := by
      have g1 := jr_ge (readJ s.log).1
      rw [← readJ_len] at g1
      have g2 := readJ_le s.log
      have := small.2
      omega
    rw [hk] at h1
    rw [a1] at h2
    rw [hs0, e5] at h5
    generalize hJ : (readJ (storeMend (storeCrash s c)).log) = J at *
    generalize storeMend (storeCrash s c) = x0 at *
    generalize storeCrash s c = c0 at *
    clear csm msm a1 a2 a3 a4 a5 a6 a7 a8 a9 hk hJ
    simp -dsimp [nes, nes8, nes9]
    refine call_ h1 (by simp -dsimp) ?_
    simp -dsimp [nes, nes8, nes9]
    refine call_ h2 (by simp -dsimp) ?_
    simp -dsimp [nes, nes8, nes9]
    refine call_ h3 (by simp -dsimp) ?_
    simp -dsimp [nes, nes8, nes9]
    refine call_ h4 (by simp -dsimp) ?_
    simp -dsimp [nes, nes8, nes9]
    refine twp_loopC (Ien s (readJ s.log).1 n1 (n1 + 1 + 1) 0) (fun st => (readJ s.log).1.length - natOf (st.tm 12)) (Ien s (readJ s.log).1 n1 (n1 + 1 + 1) 1) ?_ ?_ ?_
    · exact ⟨x0, J.1.length, by simp -dsimp, by simp -dsimp, by simp -dsimp, by simp -dsimp <;> omega, by simp -dsimp <;> omega, by simp -dsimp [nes], by simp -dsimp [nes], by simp -dsimp, by simp -dsimp, hst.2, hst.1, msv, by simp⟩
    · rintro st ⟨x, k, t3, t5, t7, hp, hq, mp, mq, t8, t12, hkl, hE, hsv, hend⟩
      by_cases hlt : k < (readJ s.log).1.length
      case neg =>
        simp -dsimp [t8, t12, hlt]
        exact ⟨x, k, by simp -dsimp [t3], by simp -dsimp [t5], by simp -dsimp [t7], by simp -dsimp; omega, by simp -dsimp; omega, by simp -dsimp [mp], by simp -dsimp [mq], by simp -dsimp [t8], by simp -dsimp [t12], hkl, hE, hsv, fun _ => by omega⟩
      have xsm := end_small small hE hsv
      have hcall := storeAct_fn x (readJ s.log).1[k] xsm (words_short (readJ_all s.log _ (List.getElem_mem hlt)))
      obtain ⟨e1, e2⟩ := end_step hs0 hE hlt
      have e3 : actOk x (readJ s.log).1[k] = true → (storeAct x (readJ s.log).1[k]).saved = x.saved := fun h => (act_done h).2.2.2.2.2
      have ha := ft (actOk x (readJ s.log).1[k])
      have hget : ((readJ s.log).1.map Deed.v)[k]? = some ((readJ s.log).1[k].v) := by simp [hlt]
      have wi : IntKind.wrap .i64 ((k : Int) + 1) = ((k + 1 : Nat) : Int) := by rw [w64 (by omega) (by omega)]; omega
      have hmu1 : (readJ s.log).1.length - (k + 1) < (readJ s.log).1.length - k := by omega
      have f0 := far hp
      have f1 := far hq
      have z1 : ¬ n1 = n1 + 1 + 1 := by omega
      have z2 : ¬ n1 + 1 + 1 = n1 := by omega
      generalize hL : (readJ s.log).1 = L at *
      generalize hx : L[k] = a at *
      generalize storeAct x a = y at *
      generalize actOk x a = b at *
      clear xsm
      obtain ⟨d1, d2, d3⟩ := a
      simp -dsimp [t8, t12, hlt]
      refine twp_drawT (.run [0, 1, 2, 3, 4] (.alt (.run [5, 6, 7, 8, 9, 10, 11] .done) (.run [9, 5, 6, 7, 8, 10, 11] .done))) [n1 + 1 + 1] (List.replicate 12 [0]) (List.replicate 12 [0]) (by kernel_rfl) (by kernel_rfl) (by kernel_rfl) (by kernel_rfl) ?_
      simp -dsimp [t5, t8, t12, hlt, hget, mq, mp, f0, f1, nes, hx]
      refine ordT_both ?_ ?_
      · simp -dsimp [t5, t8, t12, hlt, hget, mq, mp, f0, f1, nes, hx]
        refine call_ hcall (by simp -dsimp) ?_
        rcases ha with rfl | rfl
        · have e2 := e2 rfl
          subst e2
          simp -dsimp [t5, t8, t12, hlt, hget, mq, mp, f0, f1, nes, wi, hmu1]
          exact ⟨y, k + 1, by simp -dsimp [t3], by simp -dsimp [t5], by simp -dsimp [t7], by simp -dsimp <;> omega, by simp -dsimp <;> omega, by simp -dsimp [mp, f0], by simp -dsimp [mq, f1], by simp -dsimp [t8], by simp -dsimp, by omega, e1, hsv, by simp⟩
        · have e3 := e3 rfl
          simp -dsimp [t5, t8, t12, hlt, hget, mq, mp, f0, f1, nes, wi, hmu1]
          exact ⟨y, k + 1, by simp -dsimp [t3], by simp -dsimp [t5], by simp -dsimp [t7], by simp -dsimp <;> omega, by simp -dsimp <;> omega, by simp -dsimp [mp, f0, z1], by simp -dsimp [mq, f1], by simp -dsimp [t8], by simp -dsimp, by omega, e1, by rw [e3, hsv], by simp⟩
      · simp -dsimp [t5, t8, t12, hlt, hget, mq, mp, f0, f1, nes, hx]
        refine call_ hcall (by simp -dsimp) ?_
        rcases ha with rfl | rfl
        · have e2 := e2 rfl
          subst e2
          simp -dsimp [t5, t8, t12, hlt, hget, mq, mp, f0, f1, nes, wi, hmu1]
          exact ⟨y, k + 1, by simp -dsimp [t3], by simp -dsimp [t5], by simp -dsimp [t7], by simp -dsimp <;> omega, by simp -dsimp <;> omega, by simp -dsimp [mp, f0], by simp -dsimp [mq, f1], by simp -dsimp [t8], by simp -dsimp, by omega, e1, hsv, by simp⟩
        · have e3 := e3 rfl
          simp -dsimp [t5, t8, t12, hlt, hget, mq, mp, f0, f1, nes, wi, hmu1]
          exact ⟨y, k + 1, by simp -dsimp [t3], by simp -dsimp [t5], by simp -dsimp [t7], by simp -dsimp <;> omega, by simp -dsimp <;> omega, by simp -dsimp [mp, f0, z1], by simp -dsimp [mq, f1], by simp -dsimp [t8], by simp -dsimp, by omega, e1, by rw [e3, hsv], by simp⟩
    · rintro st ⟨x, k, t3, t5, t7, hp, hq, mp, mq, t8, t12, hkl, hE, hsv, hend⟩
      have hkk := hend rfl
      subst hkk
      have xsm := end_small small hE hsv
      have h6 := storeOpen_fn x xsm
      have e6 : storeOpen x = opened s := by rw [yes_open hE.ok]; exact end_end hE
      rw [hE.ok, e6] at h6
      have h7 := sameDesk_fn (opened s) (opened s) (desk_fine (opened_ok hs0)).1
      have f0 := far hp
      have f1 := far hq
      generalize opened s = D at *
      clear hE e6 xsm hst hs small
      obtain ⟨⟨D1, D2⟩, D3⟩ := D
      simp -dsimp [t3, t5, t7, mp, mq, f0, f1, nes]
      refine call_ h6 (by simp -dsimp) ?_
      simp -dsimp [t3, t5, t7, mp, mq, f0, f1, nes]
      refine call_ h5 (by simp -dsimp) ?_
      simp -dsimp [t3, t5, t7, mp, mq, f0, f1, nes]
      refine call_ h7 (by simp -dsimp) ?_
      simp -dsimp [t3, t5, t7, mp, mq, f0, f1, nes]
end TL

/- Runs of deeds at a desk. -/
set_option linter.unusedSimpArgs false
set_option linter.unusedVariables false
set_option maxRecDepth 100000
set_option maxHeartbeats 4000000
set_option pp.maxSteps 1500
namespace TL
open Go Go.Proofs
attribute [local simp] marksV storyV codeV Claim.v Place.v Deed.v Desk.v
noncomputable def deskRun (d : Desk) (l : List Deed) : Desk × Nat := if deskOk d = true ∧ l.length ≤ 40 then doAll d l else (noDeskV, 0)
theorem deskRun_fn (d : Desk) (l : List Deed) (hd : d.small) (hw : ∀ a ∈ l, a.words.length ≤ 1000000000) : FnZ Tryz.prog 30 [d.v, .sl (l.map Deed.v)] (.tup [(deskRun d l).1.v, .int .i64 (deskRun d l).2]) := by
  have hok := deskOk_fn d (by have := hd.2.1; omega) (by have := hd.1.1; omega) (fun p hp => by have := (hd.2.2 p hp).1; omega)
  have hk := ft (deskOk d)
  rcases hk with hk | hk
  · have e : deskRun d l = (noDeskV, 0) := if_neg (by simp [hk])
    rw [e]
    rw [hk] at hok
    refine FnZ_of (rs := [.cell 4 40, .tmp 5]) false Tryz.func30 rfl rfl rfl rfl (Nat.le_of_ble_eq_true rfl) ?_
    simp -dsimp
    refine call_ hok (by simp -dsimp) ?_
    simp -dsimp [noDeskV]
  rw [hk] at hok
  by_cases hl : l.length ≤ 40
  case neg =>
    have e : deskRun d l = (noDeskV, 0) := if_neg (by simp [hl])
    have hl' : (40 : Int) < l.length := by omega
    have hl'' : 40 < l.length := by omega
    rw [e]
    refine FnZ_of (rs := [.cell 4 40, .tmp 5]) false Tryz.func30 rfl rfl rfl rfl (Nat.le_of_ble_eq_true rfl) ?_
    simp -dsimp
    refine call_ hok (by simp -dsimp) ?_
    simp -dsimp [noDeskV, hl', hl'']
  have e : deskRun d l = doAll d l := if_pos ⟨hk, hl⟩
  have hl' : ¬ (40 : Int) < l.length := by omega
  have hl'' : ¬ 40 < l.length := by omega
  have h := doAll_fn d l hk (by omega) hw
  rw [e]
  generalize doAll d l = R at *
  obtain ⟨⟨⟨D1, D2⟩, D3⟩, c⟩ := R
  refine FnZ_of (rs := [.cell 4 40, .tmp 5]) false Tryz.func30 rfl rfl rfl rfl (Nat.le_of_ble_eq_true rfl) ?_
  simp -dsimp
  refine call_ hok (by simp -dsimp) ?_
  simp -dsimp [hl', hl'', nes]
  refine call_ h (by simp -dsimp) ?_
  simp -dsimp [nes]
theorem deskRunS_fn (d : Desk) (l : List Deed) (hd : d.small) (hf : d.fit) (hw : ∀ a ∈ l, a.words.length ≤ 1000000000) : FnZ Tryz.prog 36 [d.v, .sl (l.map Deed.v)] (.tup [(deskRun d l).1.v, .int .i64 (deskRun d l).2]) := by
  have hok := deskOkS_fn d hd hf
  have hk := ft (deskOk d)
  rcases hk with hk | hk
  · have e : deskRun d l = (noDeskV, 0) := if_neg (by simp [hk])
    rw [e]
    rw [hk] at hok
    refine FnZ_of (rs := [.cell 4 40, .tmp 5]) false Tryz.func36 rfl rfl rfl rfl (Nat.le_of_ble_eq_true rfl) ?_
    simp -dsimp
    refine call_ hok (by simp -dsimp) ?_
    simp -dsimp [noDeskV]
  rw [hk] at hok
  by_cases hl : l.length ≤ 40
  case neg =>
    have e : deskRun d l = (noDeskV, 0) := if_neg (by simp [hl])
    have hl' : (40 : Int) < l.length := by omega
    have hl'' : 40 < l.length := by omega
    rw [e]
    refine FnZ_of (rs := [.cell 4 40, .tmp 5]) false Tryz.func36 rfl rfl rfl rfl (Nat.le_of_ble_eq_true rfl) ?_
    simp -dsimp
    refine call_ hok (by simp -dsimp) ?_
    simp -dsimp [noDeskV, hl', hl'']
  have e : deskRun d l = doAll d l := if_pos ⟨hk, hl⟩
  have hl' : ¬ (40 : Int) < l.length := by omega
  have hl'' : ¬ 40 < l.length := by omega
  have h := doAllS_fn d l hk (by omega) hw
  rw [e]
  generalize doAll d l = R at *
  obtain ⟨⟨⟨D1, D2⟩, D3⟩, c⟩ := R
  refine FnZ_of (rs := [.cell 4 40, .tmp 5]) false Tryz.func36 rfl rfl rfl rfl (Nat.le_of_ble_eq_true rfl) ?_
  simp -dsimp
  refine call_ hok (by simp -dsimp) ?_
  simp -dsimp [hl', hl'', nes]
  refine call_ h (by simp -dsimp) ?_
  simp -dsimp [nes]
end TL

/- The law of journals' texts. -/
set_option linter.unusedSimpArgs false
set_option linter.unusedVariables false
set_option maxRecDepth 100000
set_option maxHeartbeats 4000000
set_option pp.maxSteps 1500
namespace TL
open Go Go.Proofs
attribute [local simp] marksV storyV codeV Claim.v Place.v Deed.v
def IsameDeeds (a b : List Deed) (e : Nat) (s : S) : Prop := ∃ i : Nat, s.tm 0 = .v (.sl (a.map Deed.v)) ∧ s.tm 1 = .v (.sl (b.map Deed.v)) ∧ s.tm 5 = .v (.int .i64 i) ∧ i ≤ a.length ∧ a.take i = b.take i ∧ (e = 1 → i = a.length)
theorem sameDeeds_fn (a b : List Deed) (hl : a.length ≤ 1048576) : FnZ Tryz.prog 29 [.sl (a.map Deed.v), .sl (b.map Deed.v)] (.bool (decide (a = b))) := by
  refine FnZ_of (rs := [.tmp 4]) false Tryz.func29 rfl rfl rfl rfl (Nat.le_of_ble_eq_true rfl) ?_
  by_cases hn : a.length = b.length
  case neg =>
    have e : decide (a = b) = false := by simp; rintro rfl; exact hn rfl
    have hn' : ¬ (a.length : Int) = b.length := by omega
    simp -dsimp [hn, hn', e]
  simp -dsimp [hn]
  refine twp_loopC (IsameDeeds a b 0) (fun s => a.length - natOf (s.tm 5)) (IsameDeeds a b 1) ?_ ?_ ?_
  · exact ⟨0, by simp -dsimp, by simp -dsimp, by simp -dsimp, by omega, by simp, by simp⟩
  · rintro s ⟨i, h0, h1, h5, hi, htk, hend⟩
    by_cases hlt : i < a.length
    case neg =>
      have hlt2 : ¬ i < b.length := by omega
      simp -dsimp [h0, h5, hlt, hlt2, hn]
      exact ⟨i, by simp -dsimp [h0], by simp -dsimp [h1], by simp -dsimp [h5], hi, htk, fun _ => by omega⟩
    have hlt2 : i < b.length := by omega
    have hgeta : (a.map Deed.v)[i]? = some (a[i].v) := by simp [hlt]
    have hgetb : (b.map Deed.v)[i]? = some (b[i].v) := by simp [hlt2]
    have wi : IntKind.wrap .i64 ((i : Int) + 1) = ((i + 1 : Nat) : Int) := by rw [w64 (by omega) (by omega)]; omega
    have hmu : a.length - (i + 1) < a.length - i := by omega
    have hmu2 : b.length - (i + 1) < b.length - i := by omega
    have hne : ¬ a[i] = b[i] → decide (a = b) = false := fun h => by
      simp; rintro rfl; exact h rfl
    have heq : a[i].kind = b[i].kind → a[i].num = b[i].num → a[i].words = b[i].words → a[i] = b[i] := fun x y z => by
      cases h1 : a[i]; cases h2 : b[i]; rw [h1, h2] at x y z; simp only at x y z; rw [x, y, z]
    simp -dsimp [h0, h5, hlt, hlt2, hn]
    refine twp_draw (List.range 9) [] (List.replicate 9 []) (List.replicate 9 []) (by kernel_rfl) (by kernel_rfl) (by kernel_rfl) (by kernel_rfl) ?_
    by_cases q1 : a[i].kind = b[i].kind
    case neg =>
      have e := hne fun h => q1 (by rw [h])
      simp -dsimp [List.range_succ, h0, h1, h5, hlt, hlt2, hgeta, hgetb, q1, e]
    by_cases q2 : a[i].num = b[i].num
    case neg =>
      have e := hne fun h => q2 (by rw [h])
      simp -dsimp [List.range_succ, h0, h1, h5, hlt, hlt2, hgeta, hgetb, q1, q2, e]
    by_cases q3 : a[i].words = b[i].words
    case neg =>
      have e := hne fun h => q3 (by rw [h])
      simp -dsimp [List.range_succ, h0, h1, h5, hlt, hlt2, hgeta, hgetb, q1, q2, q3, e]
    have htk2 := take_eq_succ hlt hlt2 htk (heq q1 q2 q3)
    simp -dsimp [List.range_succ, h0, h1, h5, hlt, hlt2, hgeta, hgetb, q1, q2, q3, wi, hmu, hmu2]
    exact ⟨i + 1, by simp -dsimp [h0], by simp -dsimp [h1], by simp -dsimp, by omega, htk2, by simp⟩
  · rintro s ⟨i, h0, h1, h5, hi, htk, hend⟩
    have := hend rfl
    subst this
    rw [List.take_length, hn, List.take_length] at htk
    have e : decide (a = b) = true := by simpa using htk
    simp -dsimp [e]
/-! Drawn rows of deeds. -/
def SomeDeeds (x : V) : Prop := ∃ l : List Deed, l.length ≤ 10 + 1 ∧ (∀ a ∈ l, a.words.length ≤ 200) ∧ x = .sl (l.map Deed.v)
def SomeDeeds0 (x : V) : Prop := ∃ l : List Deed, l.length ≤ 10 ∧ (∀ a ∈ l, a.words.length ≤ 200) ∧ x = .sl (l.map Deed.v)
def DLI (m0 : Mem) (n0 rid : Nat) (bs : List UInt8) (p : Nat) (q : Place) (e : Nat) (s : S) : Prop := ∃ (c id p' : Nat) (l : List Deed), s.tm 0 = .ptr rid 0 ∧ s.tm 3 = .ptr n0 0 ∧ s.m n0 = some (.box 37 2 [.v (.int .i64 q.people), .v (storyV q.story)]) ∧
  s.tm 5 = .loc id ∧ s.tm 6 = .v (.int .i64 c) ∧ s.mu = false ∧ n0 < id ∧ id < s.n ∧ s.m id = some (.arr 53 (l.map Deed.v)) ∧ l.length + c ≤ 5 ∧ p ≤ p' ∧ p' + 100 * c ≤ p + 600 ∧ (∀ a ∈ l, a.words.length ≤ 200) ∧ s.m rid = some (rdB bs p') ∧ (∀ j, j < n0 → j ≠ rid → s.m j = m0 j) ∧ (e = 1 → c = 0)
theorem deeds_z (bs : List UInt8) (p : Nat) (hp : p < 500000000) (q : Place) (hq : q.story.length ≤ 1000) (m : Mem) (n rid : Nat) (hr : rid < n) (hm : m rid = some (rdB bs p)) :
    FnS Tryz.prog 62 m n [.ptr rid 0, .v q.v] (Draws SomeDeeds0 700 m n rid bs p) := by
  refine Draws_of hr ⟨_, Tryz.func62, rfl, rfl⟩ fun hfr => ?_
  refine FnS_of (rs := [.tmp 4]) false Tryz.func62 rfl rfl rfl rfl (Nat.le_of_ble_eq_true rfl) ?_
  have f1 := far hr
  simp -dsimp
  refine callS_ (pick_at bs p (by omega) _ _ _ rid (by simp [hm, f1])) ?_
  rintro t m1 n1 ⟨hn1, ⟨r, rfl, hr0, hr1⟩, rfl⟩
  have hr1 := hr1 (by decide)
  obtain ⟨r, rfl⟩ := Int.eq_ofNat_of_zero_le hr0
  have f2 := far (show rid < n1 by omega)
  have f3 := far (show n < n1 by omega)
  simp -dsimp
  refine twp_loopC (DLI m n rid bs p q 0) (fun s => natOf (s.tm 6)) (DLI m n rid bs p q 1) ?_ ?_ ?_
  · refine ⟨r, n + 1, p + 1, [], by simp -dsimp, by simp -dsimp, by simp -dsimp [f1], by simp -dsimp, by simp -dsimp, by simp -dsimp, by omega, by simp -dsimp <;> omega, by simp -dsimp [f1], by simp; omega, by omega, by omega, by simp, by simp -dsimp [f1], fun j j1 j2 => ?_, by simp⟩
    simp -dsimp [far j1, j2]
  · rintro s ⟨c, id, p', l, t0, t3, m0, t5, t6, hmu, hid0, hid, mid, hlc, hp0, hp1, hw, mrd, hout, hend⟩
    by_cases hc : 0 < c
    case neg =>
      have hc0 : c = 0 := by omega
      simp -dsimp [t6, hc, hc0]
      exact ⟨c, id, p', l, by simp -dsimp [t0], by simp -dsimp [t3], by simp -dsimp [m0], by simp -dsimp [t5], by simp -dsimp [t6], by simp -dsimp [hmu], hid0, by simp -dsimp [hid], by simp -dsimp [mid], hlc, hp0, hp1, hw, by simp -dsimp [mrd], fun j j1 j2 => by simp -dsimp [hout j j1 j2], fun _ => hc0⟩
    have d0 : ¬ rid = id := by omega
    have d1 : ¬ id = rid := by omega
    have d2 : ¬ n = id := by omega
    have d3 : ¬ n = rid := by omega
    have d4 : ¬ id = n := by omega
    have h1 := far hid
    have h2 := far (show rid < s.n by omega)
    have h3 := far (show n < s.n by omega)
    have wc : IntKind.wrap .i64 ((c : Int) - 1) = ((c - 1 : Nat) : Int) := by rw [w64 (by omega) (by omega)]; omega
    have hmu1 : c - 1 < c := by omega
    have b1 : (l.length + 1) * 32 ≤ 140737488355328 := by omega
    simp -dsimp [t0, t3, t5, t6, m0, hc]
    refine callS_ (deed_zA bs p' (by omega) q hq _ _ rid (by omega) (by simp [mrd])) ?_
    rintro t m2 n2 ⟨hn2, ⟨x, ⟨a, ha, rfl⟩, rfl⟩, p3, hp3, hp4, rfl⟩
    have h4 := far (show id < n2 by omega)
    have h5 := far (show rid < n2 by omega)
    have h6 := far (show n < n2 by omega)
    simp -dsimp [t0, t3, t5, t6, hmu, mid, d0, d1, d2, d3, d4, h4, h5, h6, b1, wc, hmu1, nes]
    refine st_out fun s' ht hm' hn' hu' => ?_
    have a0 := ht 0
    have a3 := ht 3
    have a5 := ht 5
    have a6 := ht 6
    simp -dsimp [t0, t3, wc] at a0 a3 a5 a6 hm' hn' hu'
    clear ht
    refine ⟨c - 1, _, p3, l ++ [a], a0, a3, by simp [hm', d2, d3, h6, m0], a5, a6, by rw [hu', hmu], by omega, by omega, ?_, by simp; omega, by omega, by omega, fun b hb => ?_, by simp [hm', d0, h5], fun j j1 j2 => ?_, by simp⟩
    · simp [hm', nes]
    · rcases List.mem_append.1 hb with hb | hb
      · exact hw b hb
      · rw [List.mem_singleton.1 hb]; exact ha
    · simp [hm', show ¬ j = id by omega, far (show j < n2 by omega), j2, hout j j1 j2]
  · rintro s ⟨c, id, p', l, t0, t3, m0, t5, t6, hmu, hid0, hid, mid, hlc, hp0, hp1, hw, mrd, hout, hend⟩
    simp -dsimp [t5]
    refine ⟨by omega, ⟨_, by simp -dsimp [mid, show n ≤ id by omega], l, by omega, hw, rfl⟩, hout, p', by omega, by omega, mrd⟩
/-- Rows of deeds of the caller's own. -/
def OwnDeeds (m : Mem) (n rid : Nat) (bs : List UInt8) (p : Nat) (t : T) (m' : Mem) (n' : Nat) : Prop := ∃ (id p' : Nat) (l : List Deed), t = .loc id ∧ n ≤ id ∧ id < n' ∧ m' id = some (.arr 53 (l.map Deed.v)) ∧ l.length ≤ 10 ∧ (∀ a ∈ l, a.words.length ≤ 200) ∧
  m' rid = some (rdB bs p') ∧ p ≤ p' ∧ p' ≤ p + 1000 ∧ (∀ j, j < n → j ≠ rid → m' j = m j) ∧ n ≤ n'
def WLI (m0 : Mem) (n0 rid : Nat) (bs : List UInt8) (p : Nat) (l : List Deed) (e : Nat) (s : S) : Prop := ∃ (i id : Nat) (w : List Deed), s.tm 0 = .ptr rid 0 ∧ s.tm 3 = .loc id ∧ s.tm 4 = .v (.sl (l.map Deed.v)) ∧ s.tm 5 = .v (.int .i64 i) ∧ s.mu = false ∧ n0 ≤ id ∧ id < s.n ∧ i ≤ l.length ∧
  s.m id = some (.arr 53 (w.map Deed.v)) ∧ w.length ≤ i ∧ (∀ a ∈ w, a.words.length ≤ 200) ∧ s.m rid = some (rdB bs p) ∧ (∀ j, j < n0 → j ≠ rid → s.m j = m0 j) ∧ (e = 1 → i = l.length)
end TL

/- What was sure is never lost. -/
set_option linter.unusedSimpArgs false
set_option linter.unusedVariables false
set_option maxRecDepth 100000
set_option maxHeartbeats 4000000
set_option pp.maxSteps 1500
namespace TL
open Go Go.Proofs
attribute [local simp] marksV storyV codeV Claim.v Place.v Store.v Desk.v Deed.v
theorem run_to_small {d : Desk} {l : List Deed} : (deskRun d l).1.small := by
  unfold deskRun; split
  · rename_i h; exact (desk_fine (doAll_ok l d h.1)).1
  · exact ⟨⟨by simp [noDeskV], by simp [noDeskV]⟩, by simp [noDeskV], by simp [noDeskV]⟩
/-- The loop: n1 holds the store, r the desk of the saved place. -/
def Inv (s : Store) (l u : List Deed) (p r e : Nat) (st : S) : Prop := ∃ k : Nat, st.tm 3 = .ptr p 0 ∧ st.tm 6 = .ptr r 0 ∧ st.tm 5 = .v (.bool true) ∧ st.tm 7 = .v (.bool true) ∧ p < st.n ∧ r < st.n ∧
  st.m p = some (.box 25 3 [.v (.str s.saved), .v (.str s.log), .v (.int .i64 s.sure)]) ∧ st.m r = some (.box 40 3 [.v (.int .i64 (placeOf s).people), .v (storyV (placeOf s).story), .v (.sl [])]) ∧
  st.tm 8 = .v (.sl (l.map Deed.v)) ∧ st.tm 10 = .v (.sl (u.map Deed.v)) ∧ st.tm 12 = .v (.int .i64 k) ∧ s.sure ≤ k ∧ k ≤ s.log.length + 1 ∧ (e = 1 → True)
theorem lawStoreNever (bs : List UInt8) : FnZ Tryz.prog 6 [codeV bs] (.bool true) := by
  refine FnZ_of (rs := [.tmp 2]) false Tryz.func6 rfl rfl rfl rfl (Nat.le_of_ble_eq_true rfl) ?_
  by_cases h : (1048576 : Int) < bs.length
  · simp -dsimp [nes, nes8, nes9, h]
  simp -dsimp [nes, nes8, nes9, h]
  refine callS_ (drawStoreOpen_z bs _ _) ?_
  rintro t m1 n1 ⟨hn1, ⟨x, ⟨s, hs, rfl⟩, rfl⟩, rfl⟩
  have small := hs.small
  have h0 := storeOkS_fn s small
  have hk := ft (storeOk s)
  rcases hk with hk | hk
  · rw [hk] at h0
    clear hs small
    obtain ⟨s1, s2, s3⟩ := s
    simp -dsimp [nes, nes8, nes9]
    refine call_ h0 (by simp -dsimp) ?_
    simp -dsimp [nes, nes8, nes9]
    refine call_ alive_fn (by simp -dsimp) ?_
    simp -dsimp [nes, nes8, nes9]
  obtain ⟨g1, g2, g3, g4⟩ := storeOk_iff.1 hk
  have hpo := (placeOf_ok g1).1
  have hnew := desk_new hpo
  have h1 := readPlace_fn s.saved small.1
  have hrp : readP s.saved = some (placeOf s) := (placeOf_ok g1).2.2
  rw [hrp] at h1
  have h2 := deskNew_fn (placeOf s) (desk_fine hnew).1.1
  have e2 : deskNew (placeOf s) = ⟨placeOf s, []⟩ := if_pos hpo
  rw [hpo, e2] at h2
  have h3 := readJournal_fn s.log small.2
  have h4 := readJournal_fn (s.log.take s.sure.toNat) (by have := small.2; simp only [List.length_take]; omega)
  have hll : (readJ s.log).1.length ≤ 1000 := by
    have g1 := jr_ge (readJ s.log).1
    rw [← readJ_len] at g1
    have g3 := readJ_le s.log
    omega
  rw [hk] at h0
  have b0 : s.sure.toNat ≤ s.log.length := by omega
  simp -dsimp [nes, nes8, nes9]
  refine call_ h0 (by simp -dsimp) ?_
  simp -dsimp [nes, nes8, nes9]
  refine call_ h1 (by simp -dsimp) ?_
  simp -dsimp [nes, nes8, nes9, optP]
  refine call_ h2 (by simp -dsimp) ?_
  simp -dsimp [nes, nes8, nes9]
  refine call_ h3 (by simp -dsimp) ?_
  simp -dsimp [nes, nes8, nes9, b0, g3, g4]
  refine call_ h4 (by simp -dsimp) ?_
  simp -dsimp [nes, nes8, nes9]
  refine twp_loopC (Inv s (readJ s.log).1 (readJ (s.log.take s.sure.toNat)).1 n1 (n1 + 1 + 1 + 1 + 1) 0) (fun st => s.log.length + 1 - natOf (st.tm 12)) (Inv s (readJ s.log).1 (readJ (s.log.take s.sure.toNat)).1 n1 (n1 + 1 + 1 + 1 + 1) 1) ?_ ?_ ?_
  · have hsn : ((s.sure.toNat : Nat) : Int) = s.sure := by omega
    exact ⟨s.sure.toNat, by simp -dsimp, by simp -dsimp, by simp -dsimp, by simp -dsimp, by simp -dsimp <;> omega, by simp -dsimp <;> omega, by simp -dsimp [nes], by simp -dsimp [nes], by simp -dsimp, by simp -dsimp, by simp -dsimp [hsn], by omega, by omega, by simp⟩
  · rintro st ⟨k, t3, t6, t5, t7, hp, hr, mp, mr, t8, t10, t12, hk1, hk2, hend⟩
    by_cases hlt : k ≤ s.log.length
    case neg =>
      have hlt' : ¬ (k : Int) ≤ s.log.length := by omega
      simp -dsimp [t3, t12, mp, hlt, hlt']
      exact ⟨k, by simp -dsimp [t3], by simp -dsimp [t6], by simp -dsimp [t5], by simp -dsimp [t7], by simp -dsimp; omega, by simp -dsimp; omega, by simp -dsimp [mp], by simp -dsimp [mr], by simp -dsimp [t8], by simp -dsimp [t10], by simp -dsimp [t12], hk1, hk2, by simp⟩
    have hlt' : (k : Int) ≤ s.log.length := by omega
    obtain ⟨f1, f2, f3, f4, f5, f6, f7⟩ := never_facts hk (k := (k : Int)) hk1 hlt'
    have ec := (crash_again f1).2.2.2.2.2.2.2.2
    rw [Int.toNat_natCast] at f2 f4 f5 f6 f7 ec
    have c1 := storeCrash_fn s (k : Int) small
    rw [f1] at c1
    have xl : (s.log.take k).length ≤ 2000000000 := by have := small.2; simp only [List.length_take]; omega
    have c2 := readJournal_fn (s.log.take k) xl
    have c4 := storeOpen_fn (storeCrash s k) (by rw [ec]; exact ⟨small.1, xl⟩)
    rw [f3, yes_open f3, f7] at c4
    rw [ec] at c1 c4
    have hw : ∀ a ∈ (readJ (s.log.take k)).1, a.words.length ≤ 1000000000 := fun a ha => words_short (readJ_all _ a ha)
    have c5 := deskRun_fn ⟨placeOf s, []⟩ (readJ (s.log.take k)).1 (desk_fine hnew).1 hw
    have hrun : (readJ (s.log.take k)).1.length ≤ 40 → deskRun ⟨placeOf s, []⟩ (readJ (s.log.take k)).1 = doAll ⟨placeOf s, []⟩ (readJ (s.log.take k)).1 := fun h => if_pos ⟨hnew, h⟩
    have c6 := sameDesk_fn (doAll ⟨placeOf s, []⟩ (readJ (s.log.take k)).1).1 (doAll ⟨placeOf s, []⟩ (readJ (s.log.take k)).1).1 (desk_fine (doAll_ok _ _ hnew)).1
    have c3 := sameDeeds_fn (readJ (s.log.take k)).1 (readJ (s.log.take k)).1
    have wi : IntKind.wrap .i64 ((k : Int) + 1) = ((k + 1 : Nat) : Int) := by rw [w64 (by omega) (by omega)]; omega
    have hmu1 : s.log.length - k < s.log.length + 1 - k := by omega
    have hq0 := far hp
    have hq1 := far hr
    have hz : (¬ n1 = st.n) ∧ (¬ n1 + 1 = st.n) ∧ (¬ n1 + 1 + 1 = st.n) ∧ (¬ n1 + 1 + 1 + 1 = st.n) := by refine ⟨?_, ?_, ?_, ?_⟩ <;> omega
    have tk : ((readJ s.log).1.map Deed.v).take (readJ (s.log.take k)).1.length = (readJ (s.log.take k)).1.map Deed.v := by rw [← List.map_take, f6]
    have mi : min (((readJ (s.log.take k)).1.length : Int)) ((readJ s.log).1.length : Int) = ((readJ (s.log.take k)).1.length : Int) := by omega
    have mi2 : min ((readJ (s.log.take k)).1.length) ((readJ s.log).1.length) = (readJ (s.log.take k)).1.length := by omega
    have k1 : ¬ ((readJ s.log).1.length : Int) < ((readJ (s.log.take k)).1.length : Int) := by omega
    have k2 : ¬ ((readJ (s.log.take k)).1.length : Int) < ((readJ (s.log.take s.sure.toNat)).1.length : Int) := by omega
    have k1' : ¬ ((readJ s.log).1.length) < ((readJ (s.log.take k)).1.length) := by omega
    have k2' : ¬ ((readJ (s.log.take k)).1.length) < ((readJ (s.log.take s.sure.toNat)).1.length) := by omega
    generalize (readJ (s.log.take s.sure.toNat)).1 = U at *
    generalize readJ (s.log.take k) = J at *
    generalize hL : (readJ s.log).1 = L at *
    generalize hqq : placeOf s = q at *
    generalize doAll ⟨q, []⟩ J.1 = R at *
    generalize deskRun ⟨q, []⟩ J.1 = R2 at *
    clear f1 f2 f3 f5 f6 f7 ec h1 h2 h3 h4 hw hnew hpo g1 hrp e2
    obtain ⟨⟨⟨R1, R3⟩, R4⟩, Rn⟩ := R
    obtain ⟨⟨⟨E1, E3⟩, E4⟩, En⟩ := R2
    obtain ⟨J1, J2⟩ := J
    simp only at c2 c3 c4 c5 c6 tk mi mi2 k1 k2 k1' k2' hrun f4
    have c3 := c3 (by omega)
    have hJ := Nat.lt_or_ge 40 J1.length
    simp -dsimp [t3, t12, mp, hlt, hlt']
    refine call_ c1 (by simp -dsimp) ?_
    simp -dsimp [nes, hz, hq0, hq1]
    refine call_ c2 (by simp -dsimp) ?_
    simp -dsimp [nes, hz, hq0, hq1, t8, t10, k1, k2, k1', k2', mi, mi2, f4, tk]
    refine call_ c3 (by simp -dsimp) ?_
    simp -dsimp [nes, hz, hq0, hq1]
    refine call_ c4 (by simp -dsimp) ?_
    simp -dsimp [nes, hz, hq0, hq1, t6, mr]
    refine call_ c5 (by simp -dsimp) ?_
    rcases hJ with hJ | hJ
    · have j1 : ¬ (J1.length : Int) ≤ 40 := by omega
      have j2 : ¬ J1.length ≤ 40 := by omega
      simp -dsimp [nes, hz, hq0, hq1, t12, j1, j2, wi, hmu1]
      exact ⟨k + 1, by simp -dsimp [t3], by simp -dsimp [t6], by simp -dsimp [t5], by simp -dsimp [t7], by simp -dsimp; omega, by simp -dsimp; omega, by simp -dsimp [mp, nes, hz, hq0], by simp -dsimp [mr, nes, hz, hq1, hqq], by simp -dsimp [t8], by simp -dsimp [t10], by simp -dsimp, by omega, by omega, by simp⟩
    · have j1 : (J1.length : Int) ≤ 40 := by omega
      have j2 : J1.length ≤ 40 := hJ
      have hR := hrun hJ
      cases hR
      simp -dsimp [nes, hz, hq0, hq1, t12, j1, j2]
      refine call_ c6 (by simp -dsimp) ?_
      simp -dsimp [nes, hz, hq0, hq1, t12, j1, j2, wi, hmu1]
      exact ⟨k + 1, by simp -dsimp [t3], by simp -dsimp [t6], by simp -dsimp [t5], by simp -dsimp [t7], by simp -dsimp; omega, by simp -dsimp; omega, by simp -dsimp [mp, nes, hz, hq0], by simp -dsimp [mr, nes, hz, hq1, hqq], by simp -dsimp [t8], by simp -dsimp [t10], by simp -dsimp, by omega, by omega, by simp⟩
  · rintro st ⟨k, t3, t6, t5, t7, hp, hr, mp, mr, t8, t10, t12, hk1, hk2, hend⟩
    simp -dsimp [t5, t7]
end TL

/- Rows of places as cells that may change. -/
set_option linter.unusedSimpArgs false
set_option linter.unusedVariables false
set_option maxRecDepth 100000
set_option maxHeartbeats 4000000
set_option pp.maxSteps 1500
namespace TL
open Go Go.Proofs
def plT : List Place → List T
  | [] => []
  | p :: l => .v (.int .i64 p.people) :: .v (storyV p.story) :: plT l
@[simp] theorem plT_nil : plT [] = [] := rfl
theorem plT_append (a b : List Place) : plT (a ++ b) = plT a ++ plT b := by
  induction a with
  | nil => rfl
  | cons x xs ih => simp [plT, ih]
@[simp] theorem plT_length (a : List Place) : (plT a).length = a.length * 2 := by
  induction a with
  | nil => rfl
  | cons x xs ih => simp [plT, ih]; omega
theorem plT_take_ex (a : List Place) (ex : List T) : (plT a ++ ex).take (a.length * 2) = plT a := List.take_left' (by simp)
theorem plT_one (p : Place) : [T.v (.int .i64 p.people), T.v (storyV p.story)] = plT [p] := rfl
@[simp] theorem plT_cells (a : List Place) : allC (plT a) := by
  induction a with
  | nil => simp
  | cons x xs ih => simp [plT, storyV]; exact ih
theorem plT_get {l : List Place} {ex : List T} {k : Nat} (h : k < l.length) : ((plT l ++ ex).drop (k * 2)).take 2 = [.v (.int .i64 l[k].people), .v (storyV l[k].story)] := by
  have e : l = l.take k ++ l[k] :: l.drop (k + 1) := by rw [← List.drop_eq_getElem_cons h, List.take_append_drop]
  have e2 : plT l = plT (l.take k) ++ ([.v (.int .i64 l[k].people), .v (storyV l[k].story)] ++ plT (l.drop (k + 1))) := by
    conv => lhs; rw [e, plT_append]
    rfl
  rw [e2, List.append_assoc, List.drop_left' (by simp; omega)]
  rfl
theorem plT_take {l : List Place} {ex : List T} {j : Nat} (h : j ≤ l.length) : (plT l ++ ex).take (j * 2) = plT (l.take j) := by
  have e : plT l = plT (l.take j) ++ plT (l.drop j) := by rw [← plT_append, List.take_append_drop]
  rw [e, List.append_assoc, List.take_left' (by simp; omega)]
theorem plT_bor (k : Bool) (m : Mem) (d : Nat) (l : List Place) : mapO (bor k m d) (plT l) = some (l.flatMap fun p => p.v.cells) := by
  induction l with
  | nil => rfl
  | cons p l ih => simp [plT, mapO, ih, Place.v, V.cells]
theorem plV_cell (l : List Place) : ∀ x ∈ (l.flatMap fun p => p.v.cells), x.cell = true := by
  intro x hx
  obtain ⟨p, _, hp⟩ := List.mem_flatMap.1 hx
  simp [Place.v, V.cells, storyV] at hp
  rcases hp with rfl | rfl <;> rfl
theorem plV_chunk (l : List Place) : chunk 2 l.length (l.flatMap fun p => p.v.cells) = l.map Place.v := chunk_elems (v := Place.v) (k := 2) elemOk_place l
end TL
