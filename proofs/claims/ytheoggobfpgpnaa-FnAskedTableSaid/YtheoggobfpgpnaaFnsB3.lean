/- Asked tables: the reference. -/
import Derived.Test.YtheoggobfpgpnaaFnsB2
set_option linter.unusedSimpArgs false
set_option linter.unusedVariables false
set_option maxRecDepth 100000
set_option maxHeartbeats 4000000
set_option pp.maxSteps 1500
namespace TL
open Go Go.Proofs
attribute [local simp] marksV storyV codeV Claim.v Place.v
theorem tableOkS_fn (people t : Int) : FnZ Try.prog 36 [.int .i64 people, .int .i64 t] (.bool (tableOk people t)) := by
  have hpk : inR people 1 4 = peopleOk people := rfl
  have hk := ft (peopleOk people)
  rcases hk with hk | hk
  · refine FnZ_of (rs := [.tmp 4]) false Try.func36 rfl rfl rfl rfl (Nat.le_of_ble_eq_true rfl) ?_
    simp -dsimp
    refine call_ (l1In_fn people 1 4) (by simp -dsimp) ?_
    simp -dsimp [hk, hpk, tableOk]
  · have h2 : people = 1 ∨ people = 2 ∨ people = 3 ∨ people = 4 := by simp [peopleOk] at hk; omega
    rcases h2 with rfl | rfl | rfl | rfl
    · have e : inR t 0 3 = tableOk 1 t := by rw [Bool.eq_iff_iff, inR_true]; simp [tableOk, hk]; omega
      refine FnZ_of (rs := [.tmp 4]) false Try.func36 rfl rfl rfl rfl (Nat.le_of_ble_eq_true rfl) ?_
      simp -dsimp
      refine call_ (l1In_fn 1 1 4) (by simp -dsimp) ?_
      simp -dsimp [hk, hpk, show IntKind.wrap .u64 (2 ^ min 1 IntKind.u64.bits) = 2 from rfl, show IntKind.wrap .u64 (2 ^ min 2 IntKind.u64.bits) = 4 from rfl, show IntKind.wrap .u64 (2 ^ min 3 IntKind.u64.bits) = 8 from rfl, show IntKind.wrap .u64 (2 ^ min 4 IntKind.u64.bits) = 16 from rfl, show IntKind.wrap .i64 (2 ^ min 2 IntKind.i64.bits) = 4 from rfl, show IntKind.wrap .i64 (2 ^ min 4 IntKind.i64.bits) = 16 from rfl, show IntKind.wrap .i64 (2 ^ min 8 IntKind.i64.bits) = 256 from rfl, show IntKind.wrap .i64 (2 ^ min 16 IntKind.i64.bits) = 65536 from rfl, show IntKind.wrap .i64 3 = 3 from rfl]
      refine call_ (l1In_fn t 0 3) (by simp -dsimp) ?_
      simp -dsimp [e]
    · have e : inR t 0 15 = tableOk 2 t := by rw [Bool.eq_iff_iff, inR_true]; simp [tableOk, hk]; omega
      refine FnZ_of (rs := [.tmp 4]) false Try.func36 rfl rfl rfl rfl (Nat.le_of_ble_eq_true rfl) ?_
      simp -dsimp
      refine call_ (l1In_fn 2 1 4) (by simp -dsimp) ?_
      simp -dsimp [hk, hpk, show IntKind.wrap .u64 (2 ^ min 1 IntKind.u64.bits) = 2 from rfl, show IntKind.wrap .u64 (2 ^ min 2 IntKind.u64.bits) = 4 from rfl, show IntKind.wrap .u64 (2 ^ min 3 IntKind.u64.bits) = 8 from rfl, show IntKind.wrap .u64 (2 ^ min 4 IntKind.u64.bits) = 16 from rfl, show IntKind.wrap .i64 (2 ^ min 2 IntKind.i64.bits) = 4 from rfl, show IntKind.wrap .i64 (2 ^ min 4 IntKind.i64.bits) = 16 from rfl, show IntKind.wrap .i64 (2 ^ min 8 IntKind.i64.bits) = 256 from rfl, show IntKind.wrap .i64 (2 ^ min 16 IntKind.i64.bits) = 65536 from rfl, show IntKind.wrap .i64 15 = 15 from rfl]
      refine call_ (l1In_fn t 0 15) (by simp -dsimp) ?_
      simp -dsimp [e]
    · have e : inR t 0 255 = tableOk 3 t := by rw [Bool.eq_iff_iff, inR_true]; simp [tableOk, hk]; omega
      refine FnZ_of (rs := [.tmp 4]) false Try.func36 rfl rfl rfl rfl (Nat.le_of_ble_eq_true rfl) ?_
      simp -dsimp
      refine call_ (l1In_fn 3 1 4) (by simp -dsimp) ?_
      simp -dsimp [hk, hpk, show IntKind.wrap .u64 (2 ^ min 1 IntKind.u64.bits) = 2 from rfl, show IntKind.wrap .u64 (2 ^ min 2 IntKind.u64.bits) = 4 from rfl, show IntKind.wrap .u64 (2 ^ min 3 IntKind.u64.bits) = 8 from rfl, show IntKind.wrap .u64 (2 ^ min 4 IntKind.u64.bits) = 16 from rfl, show IntKind.wrap .i64 (2 ^ min 2 IntKind.i64.bits) = 4 from rfl, show IntKind.wrap .i64 (2 ^ min 4 IntKind.i64.bits) = 16 from rfl, show IntKind.wrap .i64 (2 ^ min 8 IntKind.i64.bits) = 256 from rfl, show IntKind.wrap .i64 (2 ^ min 16 IntKind.i64.bits) = 65536 from rfl, show IntKind.wrap .i64 255 = 255 from rfl]
      refine call_ (l1In_fn t 0 255) (by simp -dsimp) ?_
      simp -dsimp [e]
    · have e : inR t 0 65535 = tableOk 4 t := by rw [Bool.eq_iff_iff, inR_true]; simp [tableOk, hk]; omega
      refine FnZ_of (rs := [.tmp 4]) false Try.func36 rfl rfl rfl rfl (Nat.le_of_ble_eq_true rfl) ?_
      simp -dsimp
      refine call_ (l1In_fn 4 1 4) (by simp -dsimp) ?_
      simp -dsimp [hk, hpk, show IntKind.wrap .u64 (2 ^ min 1 IntKind.u64.bits) = 2 from rfl, show IntKind.wrap .u64 (2 ^ min 2 IntKind.u64.bits) = 4 from rfl, show IntKind.wrap .u64 (2 ^ min 3 IntKind.u64.bits) = 8 from rfl, show IntKind.wrap .u64 (2 ^ min 4 IntKind.u64.bits) = 16 from rfl, show IntKind.wrap .i64 (2 ^ min 2 IntKind.i64.bits) = 4 from rfl, show IntKind.wrap .i64 (2 ^ min 4 IntKind.i64.bits) = 16 from rfl, show IntKind.wrap .i64 (2 ^ min 8 IntKind.i64.bits) = 256 from rfl, show IntKind.wrap .i64 (2 ^ min 16 IntKind.i64.bits) = 65536 from rfl, show IntKind.wrap .i64 65535 = 65535 from rfl]
      refine call_ (l1In_fn t 0 65535) (by simp -dsimp) ?_
      simp -dsimp [e]
def Ia13 (N n who whom : Nat) (people : Int) (yes : Bool) (g : Nat → Bool) (e : Nat) (s : S) : Prop := ∃ w : Nat, s.tm 0 = .v (.int .i64 people) ∧ s.tm 1 = .v (.int .i64 n) ∧ s.tm 2 = .v (.int .i64 who) ∧ s.tm 3 = .v (.int .i64 whom) ∧ s.tm 4 = .v (.bool yes) ∧ s.tm 12 = .v (.int .i64 w) ∧ s.tm 11 = .v (.int .i64 (tabN w g)) ∧ w ≤ N ∧ (e = 1 → w = N)
theorem shl_fact {w : Nat} (h : w < 60) : IntKind.wrap .i64 (2 ^ min w IntKind.i64.bits) = (2 : Int) ^ w := by
  have h1 : (2 : Nat) ^ w ≤ 2 ^ 59 := Nat.pow_le_pow_right (by omega) (by omega)
  have e : ((2 ^ w : Nat) : Int) = (2 : Int) ^ w := by simp
  have h3 := Int.natCast_nonneg (2 ^ w)
  have h4 : ((2 ^ w : Nat) : Int) ≤ ((2 ^ 59 : Nat) : Int) := Int.ofNat_le.mpr h1
  rw [Nat.min_eq_left (by simp [IntKind.bits]; omega), ← e]
  generalize ((2 ^ w : Nat) : Int) = q at *
  rw [w64 (by omega) (by omega)]
theorem l13Asked_fn (p n who whom : Nat) (yes : Bool) (hp1 : 1 ≤ p) (hp4 : p ≤ 4) (hn : n < 65536) (h1 : who < 4) (h2 : whom < 4) :
    FnZ Try.prog 61 [.int .i64 p, .int .i64 n, .int .i64 who, .int .i64 whom, .bool yes] (.int .i64 (tabN (2 ^ p) fun w => n.testBit w && sameKind who whom yes w)) := by
  have hN : 2 ^ p ≤ 16 := by
    have : p = 1 ∨ p = 2 ∨ p = 3 ∨ p = 4 := by omega
    rcases this with rfl | rfl | rfl | rfl <;> simp
  have ws : IntKind.wrap .i64 (2 ^ min p IntKind.i64.bits) = ((2 ^ p : Nat) : Int) := by rw [shl_fact (by omega)]; simp
  generalize hg : (fun w => n.testBit w && sameKind who whom yes w) = g
  generalize hNN : 2 ^ p = N at *
  have hp0 : ¬ (p : Int) < 0 := by omega
  have z1 : ¬ (who : Int) < 0 := by omega
  have z2 : ¬ (whom : Int) < 0 := by omega
  refine FnZ_of (rs := [.tmp 10]) false Try.func61 rfl rfl rfl rfl (Nat.le_of_ble_eq_true rfl) ?_
  simp -dsimp
  refine twp_loopC (Ia13 N n who whom p yes g 0) (fun s => N - natOf (s.tm 12)) (Ia13 N n who whom p yes g 1) ?_ ?_ ?_
  · exact ⟨0, by simp -dsimp, by simp -dsimp, by simp -dsimp, by simp -dsimp, by simp -dsimp, by simp -dsimp, by simp -dsimp [tabN], by omega, by simp⟩
  · rintro s ⟨w, t0, t1, t2, t3, t4, t12, t11, hw, hend⟩
    by_cases hlt : w < N
    case neg =>
      simp -dsimp [t0, t12, hp0, ws, hlt]
      exact ⟨w, by simp -dsimp [t0], by simp -dsimp [t1], by simp -dsimp [t2], by simp -dsimp [t3], by simp -dsimp [t4], by simp -dsimp [t12], by simp -dsimp [t11], hw, fun _ => by omega⟩
    have wi : IntKind.wrap .i64 ((w : Int) + 1) = ((w + 1 : Nat) : Int) := by rw [w64 (by omega) (by omega)]; omega
    have hmu : N - (w + 1) < N - w := by omega
    have z3 : ¬ (w : Int) < 0 := by omega
    have b0 := bit2 n w (by omega)
    have b1 := bit2 w who (by omega)
    have b2 := bit2 w whom (by omega)
    have hb := tabN_lt g w
    have hp : 2 ^ w ≤ 2 ^ 16 := Nat.pow_le_pow_right (by omega) (by omega)
    have h2' : (2 : Nat) ^ w < 4611686018427387904 := by omega
    have wsh := shl_fact (w := w) (by omega)
    have hor := or_ni (a := tabN w g) (b := 2 ^ w) (x := (2 : Int) ^ w) (by simp) (by omega) h2'
    have hgw : g w = (n.testBit w && sameKind who whom yes w) := by rw [← hg]
    have fin : ∀ s' : S, s'.tm 0 = .v (.int .i64 p) → s'.tm 1 = .v (.int .i64 n) → s'.tm 2 = .v (.int .i64 who) → s'.tm 3 = .v (.int .i64 whom) → s'.tm 4 = .v (.bool yes) → s'.tm 12 = .v (.int .i64 (w + 1 : Nat)) → s'.tm 11 = .v (.int .i64 (tabN (w + 1) g)) → Ia13 N n who whom p yes g 0 s' := fun s' a b c d e f h => ⟨w + 1, a, b, c, d, e, f, h, by omega, by simp⟩
    have hno : g w = false → tabN (w + 1) g = tabN w g := fun h => by simp [tabN, h]
    have hyes : g w = true → tabN (w + 1) g = tabN w g ||| 2 ^ w := fun h => by simp [tabN, h]
    simp -dsimp [t0, t12, hp0, ws, hlt]
    refine twp_draw (List.range 18) [] (List.replicate 18 []) (List.replicate 18 []) (by kernel_rfl) (by kernel_rfl) (by kernel_rfl) (by kernel_rfl) ?_
    have c0 := ft (n.testBit w)
    rcases c0 with c0 | c0
    · rw [c0] at b0 hgw
      have hno := hno (by rw [hgw]; rfl)
      simp -dsimp [List.range_succ, t0, t1, t2, t3, t4, t12, z1, z2, z3, b0, wi, hmu]
      exact fin _ (by simp -dsimp [t0]) (by simp -dsimp [t1]) (by simp -dsimp [t2]) (by simp -dsimp [t3]) (by simp -dsimp [t4]) (by simp -dsimp) (by simp -dsimp [t11, hno])
    · rw [c0] at b0 hgw
      have hsk : sameKind who whom yes w = ((decide ((if w.testBit who = true then (1 : Int) else 0) = if w.testBit whom = true then 1 else 0)) == yes) := by
        unfold sameKind; cases w.testBit who <;> cases w.testBit whom <;> simp
      have c1 := ft (sameKind who whom yes w)
      rcases c1 with c1 | c1
      · have hno := hno (by rw [hgw, c1]; rfl)
        rw [hsk] at c1
        simp -dsimp [List.range_succ, t0, t1, t2, t3, t4, t12, z1, z2, z3, b0, b1, b2, c1, wi, hmu]
        exact fin _ (by simp -dsimp [t0]) (by simp -dsimp [t1]) (by simp -dsimp [t2]) (by simp -dsimp [t3]) (by simp -dsimp [t4]) (by simp -dsimp) (by simp -dsimp [t11, hno])
      · have hyes := hyes (by rw [hgw, c1]; rfl)
        rw [hsk] at c1
        simp -dsimp [List.range_succ, t0, t1, t2, t3, t4, t11, t12, z1, z2, z3, b0, b1, b2, c1, wi, hmu, wsh, hor]
        exact fin _ (by simp -dsimp [t0]) (by simp -dsimp [t1]) (by simp -dsimp [t2]) (by simp -dsimp [t3]) (by simp -dsimp [t4]) (by simp -dsimp) (by simp -dsimp [hyes])
  · rintro s ⟨w, t0, t1, t2, t3, t4, t12, t11, hw, hend⟩
    have := hend rfl
    subst this
    simp -dsimp [t11]
end TL
