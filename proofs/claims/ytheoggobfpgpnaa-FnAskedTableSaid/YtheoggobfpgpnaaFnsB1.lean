/- Tables of worlds as numbers. -/
import Derived.Test.YtheoggobfpgpnaaFns10
set_option linter.unusedSimpArgs false
set_option linter.unusedVariables false
set_option maxRecDepth 100000
set_option maxHeartbeats 4000000
set_option pp.maxSteps 1500
namespace TL
open Go Go.Proofs
attribute [local simp] marksV storyV codeV Claim.v Place.v
/-- The table of all worlds below n for which something holds. -/
def tabN : Nat → (Nat → Bool) → Nat
  | 0, _ => 0
  | n + 1, f => if f n then tabN n f ||| 2 ^ n else tabN n f
theorem tabN_lt (f : Nat → Bool) : ∀ n, tabN n f < 2 ^ n
  | 0 => by simp [tabN]
  | n + 1 => by
    have h := tabN_lt f n
    have h2 : 2 ^ n < 2 ^ (n + 1) := Nat.pow_lt_pow_right (by omega) (by omega)
    unfold tabN; split
    · exact Nat.or_lt_two_pow (by omega) h2
    · omega
theorem testBit_tabN (f : Nat → Bool) (i : Nat) : ∀ n, (tabN n f).testBit i = (decide (i < n) && f i)
  | 0 => by simp [tabN]
  | n + 1 => by
    have ih := testBit_tabN f i n
    unfold tabN
    split
    · rename_i hf
      rw [Nat.testBit_or, ih, Nat.testBit_two_pow]
      by_cases h : n = i
      · subst h; simp [hf]
      · have : (i < n + 1) ↔ (i < n) := by omega
        simp [h, this]
    · rename_i hf
      rw [ih]
      by_cases h : n = i
      · subst h; simp [hf]
      · have : (i < n + 1) ↔ (i < n) := by omega
        simp [this]
theorem and_nat {a b : Nat} (ha : a < 4611686018427387904) (hb : b < 4611686018427387904) : IntKind.wrap .i64 ((((a : Int) % 2 ^ IntKind.i64.bits).toNat &&& ((b : Int) % 2 ^ IntKind.i64.bits).toNat : Nat) : Int) = ((a &&& b : Nat) : Int) := by
  have e1 : ((a : Int) % 2 ^ IntKind.i64.bits).toNat = a := by simp only [IntKind.bits]; omega
  have e2 : ((b : Int) % 2 ^ IntKind.i64.bits).toNat = b := by simp only [IntKind.bits]; omega
  have h : a &&& b ≤ a := Nat.and_le_left
  rw [e1, e2, w64 (by omega) (by omega)]
theorem or_nat {a b : Nat} (ha : a < 4611686018427387904) (hb : b < 4611686018427387904) : IntKind.wrap .i64 ((((a : Int) % 2 ^ IntKind.i64.bits).toNat ||| ((b : Int) % 2 ^ IntKind.i64.bits).toNat : Nat) : Int) = ((a ||| b : Nat) : Int) := by
  have e1 : ((a : Int) % 2 ^ IntKind.i64.bits).toNat = a := by simp only [IntKind.bits]; omega
  have e2 : ((b : Int) % 2 ^ IntKind.i64.bits).toNat = b := by simp only [IntKind.bits]; omega
  have h : a ||| b < 2 ^ 62 := Nat.or_lt_two_pow (by omega) (by omega)
  rw [e1, e2, w64 (by omega) (by omega)]
theorem and_nn {a b : Nat} (ha : a < 4611686018427387904) (hb : b < 4611686018427387904) : IntKind.wrap .i64 ((a % 2 ^ IntKind.i64.bits &&& b % 2 ^ IntKind.i64.bits : Nat) : Int) = ((a &&& b : Nat) : Int) := by
  have e1 : a % 2 ^ IntKind.i64.bits = a := Nat.mod_eq_of_lt (by simp only [IntKind.bits]; omega)
  have e2 : b % 2 ^ IntKind.i64.bits = b := Nat.mod_eq_of_lt (by simp only [IntKind.bits]; omega)
  rw [e1, e2, w64 (by omega) (by have : a &&& b ≤ a := Nat.and_le_left; omega)]
theorem and_ni {a b : Nat} {x : Int} (hx : x = b) (ha : a < 4611686018427387904) (hb : b < 4611686018427387904) : IntKind.wrap .i64 ((a % 2 ^ IntKind.i64.bits &&& (x % 2 ^ IntKind.i64.bits).toNat : Nat) : Int) = ((a &&& b : Nat) : Int) := by
  subst hx
  have e2 : ((b : Int) % 2 ^ IntKind.i64.bits).toNat = b % 2 ^ IntKind.i64.bits := by simp only [IntKind.bits]; omega
  rw [e2, and_nn ha hb]
theorem or_nn {a b : Nat} (ha : a < 4611686018427387904) (hb : b < 4611686018427387904) : IntKind.wrap .i64 ((a % 2 ^ IntKind.i64.bits ||| b % 2 ^ IntKind.i64.bits : Nat) : Int) = ((a ||| b : Nat) : Int) := by
  have e1 : a % 2 ^ IntKind.i64.bits = a := Nat.mod_eq_of_lt (by simp only [IntKind.bits]; omega)
  have e2 : b % 2 ^ IntKind.i64.bits = b := Nat.mod_eq_of_lt (by simp only [IntKind.bits]; omega)
  rw [e1, e2, w64 (by omega) (by have : a ||| b < 2 ^ 62 := Nat.or_lt_two_pow (by omega) (by omega); omega)]
theorem or_ni {a b : Nat} {x : Int} (hx : x = b) (ha : a < 4611686018427387904) (hb : b < 4611686018427387904) : IntKind.wrap .i64 ((a % 2 ^ IntKind.i64.bits ||| (x % 2 ^ IntKind.i64.bits).toNat : Nat) : Int) = ((a ||| b : Nat) : Int) := by
  subst hx
  have e2 : ((b : Int) % 2 ^ IntKind.i64.bits).toNat = b % 2 ^ IntKind.i64.bits := by simp only [IntKind.bits]; omega
  rw [e2, or_nn ha hb]
def tableOk (people t : Int) : Bool := peopleOk people && decide (0 ≤ t) && decide (t < 2 ^ (2 ^ people.toNat))
theorem tableOk_fn (people t : Int) : FnZ Try.prog 57 [.int .i64 people, .int .i64 t] (.bool (tableOk people t)) := by
  have hk := ft (peopleOk people)
  rcases hk with hk | hk
  · refine FnZ_of (rs := [.tmp 4]) false Try.func57 rfl rfl rfl rfl (Nat.le_of_ble_eq_true rfl) ?_
    simp -dsimp
    refine call_ (peopleOk_at people) (by simp -dsimp) ?_
    simp -dsimp [hk, tableOk]
  · by_cases h1 : 0 ≤ t
    · have h2 : people = 1 ∨ people = 2 ∨ people = 3 ∨ people = 4 := by simp [peopleOk] at hk; omega
      rcases h2 with rfl | rfl | rfl | rfl
      all_goals
        refine FnZ_of (rs := [.tmp 4]) false Try.func57 rfl rfl rfl rfl (Nat.le_of_ble_eq_true rfl) ?_
        simp -dsimp
        refine call_ (peopleOk_at _) (by simp -dsimp <;> rfl) ?_
        simp -dsimp [hk, tableOk, h1, show IntKind.wrap .u64 (2 ^ min 1 IntKind.u64.bits) = 2 from rfl, show IntKind.wrap .u64 (2 ^ min 2 IntKind.u64.bits) = 4 from rfl, show IntKind.wrap .u64 (2 ^ min 3 IntKind.u64.bits) = 8 from rfl, show IntKind.wrap .u64 (2 ^ min 4 IntKind.u64.bits) = 16 from rfl, show IntKind.wrap .i64 (2 ^ min 2 IntKind.i64.bits) = 4 from rfl, show IntKind.wrap .i64 (2 ^ min 4 IntKind.i64.bits) = 16 from rfl, show IntKind.wrap .i64 (2 ^ min 8 IntKind.i64.bits) = 256 from rfl, show IntKind.wrap .i64 (2 ^ min 16 IntKind.i64.bits) = 65536 from rfl]
    · refine FnZ_of (rs := [.tmp 4]) false Try.func57 rfl rfl rfl rfl (Nat.le_of_ble_eq_true rfl) ?_
      simp -dsimp
      refine call_ (peopleOk_at people) (by simp -dsimp) ?_
      simp -dsimp [hk, tableOk, h1]
def Itb (N : Nat) (f : Nat) (cap : List V) (g : Nat → Bool) (e : Nat) (s : S) : Prop := ∃ w : Nat, s.tm 1 = .v (.fn f cap) ∧ s.tm 8 = .v (.int .i64 N) ∧ s.tm 9 = .v (.int .i64 w) ∧ s.tm 5 = .v (.int .i64 (tabN w g)) ∧ w ≤ N ∧ (e = 1 → w = N)
theorem tableBy_fn (p : Nat) (hp1 : 1 ≤ p) (hp4 : p ≤ 4) (f : Nat) (cap : List V) (g : Nat → Bool) (hg : ∀ w : Nat, w < 2 ^ p → FnZ Try.prog f (.int .i64 (w : Int) :: cap) (.bool (g w))) : FnZ Try.prog 58 [.int .i64 p, .fn f cap] (.int .i64 (tabN (2 ^ p) g)) := by
  have hN : 2 ^ p ≤ 16 := by
    have : p = 1 ∨ p = 2 ∨ p = 3 ∨ p = 4 := by omega
    rcases this with rfl | rfl | rfl | rfl <;> simp
  have ws : IntKind.wrap .i64 (2 ^ min p IntKind.i64.bits) = ((2 ^ p : Nat) : Int) := by
    have : p = 1 ∨ p = 2 ∨ p = 3 ∨ p = 4 := by omega
    rcases this with rfl | rfl | rfl | rfl <;> rfl
  generalize hNN : 2 ^ p = N at *
  refine FnZ_of (rs := [.tmp 4]) false Try.func58 rfl rfl rfl rfl (Nat.le_of_ble_eq_true rfl) ?_
  have hp0 : ¬ (p : Int) < 0 := by omega
  simp -dsimp [ws, hp0]
  refine twp_loopC (Itb N f cap g 0) (fun s => N - natOf (s.tm 9)) (Itb N f cap g 1) ?_ ?_ ?_
  · exact ⟨0, by simp -dsimp, by simp -dsimp, by simp -dsimp, by simp -dsimp [tabN], by omega, by simp⟩
  · rintro s ⟨w, t1, t8, t9, t5, hw, hend⟩
    by_cases hlt : w < N
    case neg =>
      simp -dsimp [t8, t9, hlt]
      exact ⟨w, by simp -dsimp [t1], by simp -dsimp [t8], by simp -dsimp [t9], by simp -dsimp [t5], hw, fun _ => by omega⟩
    have wi : IntKind.wrap .i64 ((w : Int) + 1) = ((w + 1 : Nat) : Int) := by rw [w64 (by omega) (by omega)]; omega
    have hmu : N - (w + 1) < N - w := by omega
    have hb := tabN_lt g w
    have hp : 2 ^ w ≤ 2 ^ 16 := Nat.pow_le_pow_right (by omega) (by omega)
    have h2 : (2 : Nat) ^ w < 4611686018427387904 := by omega
    have wsh : IntKind.wrap .i64 (2 ^ min w IntKind.i64.bits) = ((2 ^ w : Nat) : Int) := by
      rw [Nat.min_eq_left (by simp [IntKind.bits]; omega), w64]
      · simp
      · have : (0 : Int) ≤ 2 ^ w := Int.pow_nonneg (by omega)
        omega
      · have : ((2 ^ w : Nat) : Int) = (2 : Int) ^ w := by simp
        omega
    have hor := or_ni (a := tabN w g) (b := 2 ^ w) (x := (2 : Int) ^ w) (by simp) (by omega) h2
    simp -dsimp [t1, t8, t9, hlt]
    refine call_ (hg w hlt) (by simpa using mapO_pure _ _ (.int .i64 w :: cap)) ?_
    have hgw := ft (g w)
    rcases hgw with hgw | hgw
    · have ht : tabN (w + 1) g = tabN w g := by simp [tabN, hgw]
      simp -dsimp [hgw, t5, t9, wi, hmu]
      exact ⟨w + 1, by simp -dsimp [t1], by simp -dsimp [t8], by simp -dsimp, by simp -dsimp [t5, ht], by omega, by simp⟩
    · have ht : tabN (w + 1) g = tabN w g ||| 2 ^ w := by simp [tabN, hgw]
      simp -dsimp [hgw, t5, t9, wi, hmu, wsh, hor, show ¬ (w : Int) < 0 by omega]
      exact ⟨w + 1, by simp -dsimp [t1], by simp -dsimp [t8], by simp -dsimp, by simp -dsimp [ht], by omega, by simp⟩
  · rintro s ⟨w, t1, t8, t9, t5, hw, hend⟩
    have := hend rfl
    subst this
    simp -dsimp [t5]
end TL
