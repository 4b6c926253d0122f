import Derived.Test.YtcoapdapigpfgaaDoorTlFactsQ
set_option linter.unusedSimpArgs false
set_option linter.unusedVariables false
set_option maxRecDepth 100000
namespace TL
open Go Go.Proofs
theorem peopleOk_fn (p : Int) : FnZ Tryd.prog 97 [.int .i64 p] (.bool (decide (1 ≤ p) && decide (p ≤ 4))) := by
  refine FnZ_of (rs := [.tmp 2]) false Tryd.func97 rfl rfl rfl rfl (Nat.le_of_ble_eq_true rfl) ?_
  simp -dsimp
  refine iteP_intro (fun h => ?_) (fun h => ?_) <;> simp -dsimp [h]
theorem w64 {x : Int} (h1 : -9223372036854775808 ≤ x) (h2 : x ≤ 9223372036854775807) : IntKind.wrap .i64 x = x := by rw [IntKind.wrap_i64]; omega
def codeV (bs : List UInt8) : V := .sl (bs.map fun b => .int .u8 b.toNat)
theorem codeZ (bs : List UInt8) : allZ 1 (bs.map fun b => V.int .u8 b.toNat) := by
  intro x hx; obtain ⟨b, _, rfl⟩ := List.mem_map.1 hx; simp [V.cells, V.cell]
/-- The reader of codes. -/
theorem open_fn (bs : List UInt8) (m : Mem) (n : Nat) : FnS Tryd.prog 66 m n [.v (.sl (bs.map fun b => .int .u8 b.toNat))] (fun t m' n' => t = .ptr n 0 ∧ n' = n + 1 ∧ m' = updM m n (some (.box 128 2 [.v (.sl ((bs.take 2000).map fun b => .int .u8 b.toNat)), .v (.int .i64 0)]))) := by
  refine FnS_of (rs := [.tmp 2]) false Tryd.func66 rfl rfl rfl rfl (Nat.le_of_ble_eq_true rfl) ?_
  simp -dsimp
  refine iteP_intro (fun h => ?_) (fun h => ?_)
  · simp -dsimp at h
    have h' : (2000 : Int) ≤ bs.length := by omega
    simp -dsimp [h']
  · simp -dsimp at h
    have : bs.take 2000 = bs := List.take_of_length_le (by omega)
    simp -dsimp [this]
/-- What the reader says. -/
def rdNum (bs : List UInt8) (p : Nat) (k : Int) : Int :=
  if k < 1 ∨ bs.length = 0 then 0
  else if p < bs.length then ((bs.getD p 0).toNat : Int) % k
  else 0
theorem tmod_range (a k : Int) (h0 : 0 ≤ a) (hk : 1 ≤ k) : 0 ≤ a.tmod k ∧ (1 ≤ k → a.tmod k < k) := by
  rw [Int.tmod_eq_emod_of_nonneg h0]
  exact ⟨Int.emod_nonneg _ (by omega), fun _ => Int.emod_lt_of_pos _ (by omega)⟩
theorem tmod_nat (a b : Nat) (hb : 0 < b) : ∃ q : Nat, q < b ∧ (a : Int).tmod b = q := ⟨a % b, Nat.mod_lt _ hb, by rw [Int.tmod_eq_emod_of_nonneg (by omega)]; rfl⟩
theorem tdiv_nat (a b : Nat) : ∃ q : Nat, q ≤ a ∧ (a : Int).tdiv b = q := ⟨a / b, Nat.div_le_self _ _, by rw [Int.tdiv_eq_ediv_of_nonneg (by omega)]; rfl⟩
theorem xor64 (a b k : Int) (ha : 0 ≤ a) (ha' : a < 4611686018427387904) (hb : 0 ≤ b) (hb' : b < 4611686018427387904) (hk : 1 ≤ k) :
    0 ≤ (IntKind.wrap .i64 (((a % 2 ^ IntKind.i64.bits).toNat ^^^ (b % 2 ^ IntKind.i64.bits).toNat : Nat) : Int)).tmod k ∧ (1 ≤ k → (IntKind.wrap .i64 (((a % 2 ^ IntKind.i64.bits).toNat ^^^ (b % 2 ^ IntKind.i64.bits).toNat : Nat) : Int)).tmod k < k) := by
  obtain ⟨a, rfl⟩ := Int.eq_ofNat_of_zero_le ha
  obtain ⟨b, rfl⟩ := Int.eq_ofNat_of_zero_le hb
  have h1 : a < 2 ^ 62 := by omega
  have h2 : b < 2 ^ 62 := by omega
  have h3 := Nat.xor_lt_two_pow h1 h2
  have e1 : ((a : Int) % 2 ^ IntKind.i64.bits).toNat = a := by simp only [IntKind.bits]; omega
  have e2 : ((b : Int) % 2 ^ IntKind.i64.bits).toNat = b := by simp only [IntKind.bits]; omega
  rw [e1, e2, w64 (by omega) (by omega)]
  exact tmod_range _ _ (by omega) hk
theorem pick_facts (p c1 c2 q3 : Nat) (hp : p < 1000000000) (h1 : c1 < 256) (h2 : c2 < 256) (h3 : q3 ≤ p) :
    (IntKind.wrap .i64 ((p : Int) * 7) = p * 7) ∧
    (IntKind.wrap .i64 ((p : Int) * 7 + 3) = p * 7 + 3) ∧
    (IntKind.wrap .i64 (c1 : Int) = c1) ∧
    (IntKind.wrap .i64 ((c1 : Int) * 131) = c1 * 131) ∧
    (IntKind.wrap .i64 (c2 : Int) = c2) ∧
    (IntKind.wrap .i64 ((c2 : Int) * 1117) = c2 * 1117) ∧
    (IntKind.wrap .i64 ((c1 : Int) * 131 + c2 * 1117) = c1 * 131 + c2 * 1117) ∧
    (IntKind.wrap .i64 ((p : Int) * 29) = p * 29) ∧
    (IntKind.wrap .i64 ((c1 : Int) * 131 + c2 * 1117 + p * 29) = c1 * 131 + c2 * 1117 + p * 29) ∧
    (IntKind.wrap .i64 (q3 : Int) = q3) ∧
    (IntKind.wrap .i64 ((q3 : Int) * 53) = q3 * 53) ∧
    (IntKind.wrap .i64 ((c1 : Int) * 131 + c2 * 1117 + p * 29 + q3 * 53) = c1 * 131 + c2 * 1117 + p * 29 + q3 * 53) := by
  refine ⟨w64 ?_ ?_, w64 ?_ ?_, w64 ?_ ?_, w64 ?_ ?_, w64 ?_ ?_, w64 ?_ ?_, w64 ?_ ?_, w64 ?_ ?_, w64 ?_ ?_, w64 ?_ ?_, w64 ?_ ?_, w64 ?_ ?_⟩ <;> omega
theorem pick_fn (bs : List UInt8) (p : Nat) (hp : p < 1000000000) (k : Int) (m : Mem) (n rid : Nat) (hm : m rid = some (.box 128 2 [.v (.sl (bs.map fun b => .int .u8 b.toNat)), .v (.int .i64 p)])) :
    FnS Tryd.prog 77 m n [.ptr rid 0, .v (.int .i64 k)] (fun t m' n' => n ≤ n' ∧ (∃ r : Int, t = .v (.int .i64 r) ∧ 0 ≤ r ∧ (1 ≤ k → r < k)) ∧ m' = updM m rid (some (.box 128 2 [.v (.sl (bs.map fun b => .int .u8 b.toNat)), .v (.int .i64 (p + 1))]))) := by
  have w1 : IntKind.wrap .i64 ((p : Int) + 1) = p + 1 := by rw [IntKind.wrap_i64]; omega
  have w2 : IntKind.wrap .i64 (p : Int) = p := by rw [IntKind.wrap_i64]; omega
  by_cases hk : k < 1
  · refine FnS_of (rs := [.tmp 4]) false Tryd.func77 rfl rfl rfl rfl (Nat.le_of_ble_eq_true rfl) ?_
    simp -dsimp [hm, w1, w2, hk]
    omega
  have k0 : ¬ k = 0 := by omega
  by_cases hb : bs = []
  · refine FnS_of (rs := [.tmp 4]) false Tryd.func77 rfl rfl rfl rfl (Nat.le_of_ble_eq_true rfl) ?_
    simp -dsimp [hm, w1, w2, hk, hb]
    omega
  have hpos : 0 < bs.length := List.length_pos_iff.2 hb
  by_cases hq : (p : Int) < bs.length
  · have hlt : p < bs.length := by omega
    have hget : bs[p]? = some bs[p] := List.getElem?_eq_getElem hlt
    have w3 : IntKind.wrap .i64 (bs[p].toNat : Int) = bs[p].toNat := by have := UInt8.toNat_lt bs[p]; rw [IntKind.wrap_i64]; omega
    have hp0 : (0 : Int) ≤ p := by omega
    refine FnS_of (rs := [.tmp 4]) false Tryd.func77 rfl rfl rfl rfl (Nat.le_of_ble_eq_true rfl) ?_
    simp -dsimp [hm, w1, w2, hk, hb, hq, hget, w3, k0, hlt]
    exact tmod_range _ _ (by omega) (by omega)
  have hlt : ¬ p < bs.length := by omega
  have b0 : ¬ (bs.length : Int) = 0 := by omega
  obtain ⟨q1, l1, hr⟩ := tmod_nat p bs.length hpos
  obtain ⟨q2, l2, hr2⟩ := tmod_nat (p * 7 + 3) bs.length hpos
  obtain ⟨q3, l3, hr3⟩ := tdiv_nat p bs.length
  have e7 : ((p * 7 + 3 : Nat) : Int) = (p : Int) * 7 + 3 := by omega
  have hr2' : ((p : Int) * 7 + 3).tmod bs.length = q2 := by rw [← e7]; exact hr2
  have g1 : bs[q1]? = some bs[q1] := List.getElem?_eq_getElem l1
  have g2 : bs[q2]? = some bs[q2] := List.getElem?_eq_getElem l2
  have u1 := UInt8.toNat_lt bs[q1]
  have u2 := UInt8.toNat_lt bs[q2]
  obtain ⟨v1, v2, v3, v4, v5, v6, v7, v8, v9, v10, v11, v12⟩ := pick_facts p _ _ q3 hp u1 u2 l3
  refine FnS_of (rs := [.tmp 4]) false Tryd.func77 rfl rfl rfl rfl (Nat.le_of_ble_eq_true rfl) ?_
  simp -dsimp [hm, w1, w2, hk, hb, hq, hlt]
  refine twp_draw (List.range 46) [rid] (List.replicate 46 [0]) (List.replicate 46 [0]) (by kernel_rfl) (by kernel_rfl) (by kernel_rfl) (by kernel_rfl) ?_
  simp -dsimp [hm, w1, w2, hk, hb, hq, hlt, k0, b0, hr, hr2', hr3, g1, g2, List.range_succ, l1, l2, v1, v2, v3, v4, v5, v6, v7, v8, v9, v10, v11, v12]
  have q64 : 0 ≤ ((bs[q1].toNat : Int) * 131 + bs[q2].toNat * 1117 + p * 29 + q3 * 53).tdiv 64 ∧ ((bs[q1].toNat : Int) * 131 + bs[q2].toNat * 1117 + p * 29 + q3 * 53).tdiv 64 < 4611686018427387904 := by
    rw [Int.tdiv_eq_ediv_of_nonneg (by omega)]; omega
  rw [w64 (x := Int.tdiv _ 64) (by omega) (by omega)]
  exact xor64 _ _ k (by omega) (by omega) q64.1 q64.2 (by omega)
end TL
