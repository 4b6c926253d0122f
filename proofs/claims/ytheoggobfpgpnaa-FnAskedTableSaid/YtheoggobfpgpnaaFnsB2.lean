/- Asked tables. -/
import Derived.Test.YtheoggobfpgpnaaFnsB1
set_option linter.unusedSimpArgs false
set_option linter.unusedVariables false
set_option maxRecDepth 100000
set_option maxHeartbeats 4000000
set_option pp.maxSteps 1500
namespace TL
open Go Go.Proofs
attribute [local simp] marksV storyV codeV Claim.v Place.v
def sameKind (who whom : Nat) (yes : Bool) (w : Nat) : Bool := (w.testBit who == w.testBit whom) == yes
@[simp] theorem bor_ptr (m : Mem) (d id : Nat) : bor true m (d + 1) (.ptr id 0) = match m id with
    | some (.box _ _ cs) => obind (mapO (bor true m d) cs) fun xs => tst (∀ x ∈ xs, x.cell = true) (some (.ref xs))
    | _ => none := by
  conv => lhs; unfold bor
  simp only [if_true]
  cases m id with
  | none => rfl
  | some b => cases b <;> rfl
theorem shr_nat (w i : Nat) (hi : i < 60) : (w : Int).fdiv (2 ^ min i IntKind.i64.bits) = ((w / 2 ^ i : Nat) : Int) := by
  have e : min i IntKind.i64.bits = i := Nat.min_eq_left (by simp [IntKind.bits]; omega)
  have e2 : ((2 ^ i : Nat) : Int) = (2 : Int) ^ i := by simp
  rw [e, ← e2, Int.fdiv_eq_ediv_of_nonneg _ (Int.natCast_nonneg _)]
  rfl
theorem div_bit (w i : Nat) : w / 2 ^ i % 2 = if w.testBit i then 1 else 0 := by
  rw [Nat.testBit_eq_decide_div_mod_eq]
  have := Nat.mod_two_eq_zero_or_one (w / 2 ^ i)
  rcases this with h | h <;> simp [h]
theorem bit1 (w i : Nat) (hw : w < 4611686018427387904) (hi : i < 60) : IntKind.wrap .i64 ((((w : Int).fdiv (2 ^ min i IntKind.i64.bits) % 2 ^ IntKind.i64.bits).toNat &&& 1 % 2 ^ IntKind.i64.bits : Nat) : Int) = if w.testBit i then 1 else 0 := by
  rw [shr_nat w i hi]
  have h1 : w / 2 ^ i ≤ w := Nat.div_le_self _ _
  have e1 : (((w / 2 ^ i : Nat) : Int) % 2 ^ IntKind.i64.bits).toNat = w / 2 ^ i := by
    generalize w / 2 ^ i = q at *
    simp only [IntKind.bits]; omega
  have e2 : 1 % 2 ^ IntKind.i64.bits = 1 := by rfl
  rw [e1, e2, Nat.and_one_is_mod, div_bit]
  split <;> rfl
theorem bit2 (w i : Nat) (hi : i < 60) : ((w : Int).fdiv (2 ^ min i IntKind.i64.bits)).tmod 2 = if w.testBit i then 1 else 0 := by
  rw [shr_nat w i hi, Int.tmod_eq_emod_of_nonneg (Int.natCast_nonneg _)]
  have : ((w / 2 ^ i : Nat) : Int) % 2 = ((w / 2 ^ i % 2 : Nat) : Int) := by omega
  rw [this, div_bit]
  split <;> rfl
theorem asked1_fn (w who whom : Nat) (yes : Bool) (hw : w < 16) (h1 : who < 4) (h2 : whom < 4) : FnZ Try.prog 59 [.int .i64 w, .ref [.int .i64 who], .ref [.int .i64 whom], .ref [.bool yes]] (.bool (sameKind who whom yes w)) := by
  have z1 : ¬ (who : Int) < 0 := by omega
  have z2 : ¬ (whom : Int) < 0 := by omega
  refine FnZ_of (rs := [.tmp 5]) false Try.func59 rfl rfl rfl rfl (Nat.le_of_ble_eq_true rfl) ?_
  simp -dsimp
  refine twp_draw (List.range 12) [] (List.replicate 12 []) (List.replicate 12 []) (by kernel_rfl) (by kernel_rfl) (by kernel_rfl) (by kernel_rfl) ?_
  simp -dsimp [List.range_succ, z1, z2]
  rw [bit1 w who (by omega) (by omega), bit1 w whom (by omega) (by omega)]
  unfold sameKind
  cases w.testBit who <;> cases w.testBit whom <;> simp
/-- The table of the worlds in which one says of another one so. -/
def askMask (p who whom : Nat) (yes : Bool) : Nat := tabN (2 ^ p) (sameKind who whom yes)
def asked (people t who whom : Int) (yes : Bool) : Int :=
  if tableOk people t = true ∧ 0 ≤ who ∧ who < people ∧ 0 ≤ whom ∧ whom < people then ((t.toNat &&& askMask people.toNat who.toNat whom.toNat yes : Nat) : Int) else -1
theorem tableOk_spec {people t : Int} (h : tableOk people t = true) : ∃ p n : Nat, people = p ∧ t = n ∧ 1 ≤ p ∧ p ≤ 4 ∧ n < 2 ^ 2 ^ p := by
  simp only [tableOk, peopleOk, Bool.and_eq_true, decide_eq_true_eq] at h
  obtain ⟨⟨⟨h1, h2⟩, h3⟩, h4⟩ := h
  refine ⟨people.toNat, t.toNat, by omega, by omega, by omega, by omega, ?_⟩
  generalize people.toNat = p at *
  have e : ((2 ^ 2 ^ p : Nat) : Int) = (2 : Int) ^ 2 ^ p := by simp
  rw [← e] at h4; omega
theorem table_small {p n : Nat} (hp : p ≤ 4) (h : n < 2 ^ 2 ^ p) : n < 65536 := by
  have : 2 ^ p ≤ 2 ^ 4 := Nat.pow_le_pow_right (by omega) hp
  have : 2 ^ 2 ^ p ≤ 2 ^ 2 ^ 4 := Nat.pow_le_pow_right (by omega) this
  have : (2 : Nat) ^ 2 ^ 4 = 65536 := by decide
  omega
theorem asked_fn (people t who whom : Int) (yes : Bool) : FnZ Try.prog 22 [.int .i64 people, .int .i64 t, .int .i64 who, .int .i64 whom, .bool yes] (.int .i64 (asked people t who whom yes)) := by
  have hk := ft (tableOk people t)
  rcases hk with hk | hk
  · have e : asked people t who whom yes = -1 := by unfold asked; rw [if_neg (by simp [hk])]
    refine FnZ_of (rs := [.tmp 10]) false Try.func22 rfl rfl rfl rfl (Nat.le_of_ble_eq_true rfl) ?_
    simp -dsimp
    refine call_ (tableOk_fn people t) (by simp -dsimp) ?_
    simp -dsimp [hk, e]
  by_cases c1 : 0 ≤ who
  case neg =>
    have e : asked people t who whom yes = -1 := by unfold asked; rw [if_neg (by omega)]
    have c1' : who < 0 := by omega
    refine FnZ_of (rs := [.tmp 10]) false Try.func22 rfl rfl rfl rfl (Nat.le_of_ble_eq_true rfl) ?_
    simp -dsimp
    refine call_ (tableOk_fn people t) (by simp -dsimp) ?_
    simp -dsimp [hk, e, c1']
  have c1' : ¬ who < 0 := by omega
  by_cases c2 : who < people
  case neg =>
    have e : asked people t who whom yes = -1 := by unfold asked; rw [if_neg (by omega)]
    have c2' : people ≤ who := by omega
    refine FnZ_of (rs := [.tmp 10]) false Try.func22 rfl rfl rfl rfl (Nat.le_of_ble_eq_true rfl) ?_
    simp -dsimp
    refine call_ (tableOk_fn people t) (by simp -dsimp) ?_
    simp -dsimp [hk, e, c1', c2']
  have c2' : ¬ people ≤ who := by omega
  by_cases c3 : 0 ≤ whom
  case neg =>
    have e : asked people t who whom yes = -1 := by unfold asked; rw [if_neg (by omega)]
    have c3' : whom < 0 := by omega
    refine FnZ_of (rs := [.tmp 10]) false Try.func22 rfl rfl rfl rfl (Nat.le_of_ble_eq_true rfl) ?_
    simp -dsimp
    refine call_ (tableOk_fn people t) (by simp -dsimp) ?_
    simp -dsimp [hk, e, c1', c2', c3']
  have c3' : ¬ whom < 0 := by omega
  by_cases c4 : whom < people
  case neg =>
    have e : asked people t who whom yes = -1 := by unfold asked; rw [if_neg (by omega)]
    have c4' : people ≤ whom := by omega
    refine FnZ_of (rs := [.tmp 10]) false Try.func22 rfl rfl rfl rfl (Nat.le_of_ble_eq_true rfl) ?_
    simp -dsimp
    refine call_ (tableOk_fn people t) (by simp -dsimp) ?_
    simp -dsimp [hk, e, c1', c2', c3', c4']
  have c4' : ¬ people ≤ whom := by omega
  obtain ⟨p, n, rfl, rfl, hp1, hp4, hn⟩ := tableOk_spec hk
  obtain ⟨a, rfl⟩ := Int.eq_ofNat_of_zero_le c1
  obtain ⟨b, rfl⟩ := Int.eq_ofNat_of_zero_le c3
  have hN : 2 ^ p ≤ 2 ^ 4 := Nat.pow_le_pow_right (by omega) hp4
  have e : asked p n a b yes = ((n &&& askMask p a b yes : Nat) : Int) := by unfold asked; rw [if_pos (by exact ⟨hk, by omega, by omega, by omega, by omega⟩)]; rfl
  have hm : askMask p a b yes < 65536 := table_small hp4 (tabN_lt _ _)
  have hn' := table_small hp4 hn
  have hand := and_nn (a := n) (b := askMask p a b yes) (by omega) (by omega)
  unfold askMask at hand e
  refine FnZ_of (rs := [.tmp 10]) false Try.func22 rfl rfl rfl rfl (Nat.le_of_ble_eq_true rfl) ?_
  simp -dsimp
  refine call_ (tableOk_fn p n) (by simp -dsimp) ?_
  simp -dsimp [hk, c1', c2', c3', c4']
  refine callM_ (tableBy_fn p hp1 hp4 59 [.ref [.int .i64 a], .ref [.int .i64 b], .ref [.bool yes]] (sameKind a b yes) fun w hw => asked1_fn w a b yes (by omega) (by omega) (by omega)) (by simp -dsimp) rfl ?_
  simp -dsimp [hand, e]
end TL
