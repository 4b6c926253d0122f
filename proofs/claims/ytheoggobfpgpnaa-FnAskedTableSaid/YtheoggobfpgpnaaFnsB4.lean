/- Majorities, turned tables, drawn tables. -/
import Derived.Test.YtheoggobfpgpnaaFnsB3
set_option linter.unusedSimpArgs false
set_option linter.unusedVariables false
set_option maxRecDepth 100000
set_option maxHeartbeats 4000000
set_option pp.maxSteps 1500
namespace TL
open Go Go.Proofs
attribute [local simp] marksV storyV codeV Claim.v Place.v
/-- How many bits are set. -/
def cnt (n : Nat) : Nat := if h : n = 0 then 0 else n % 2 + cnt (n / 2)
theorem cnt_step {n : Nat} (h : 0 < n) : cnt n = n % 2 + cnt (n / 2) := by rw [cnt, dif_neg (by omega)]
theorem cnt_zero : cnt 0 = 0 := by rw [cnt]; rfl
def Ihd (w : Nat) (e : Nat) (s : S) : Prop := ∃ x q : Nat, s.tm 0 = .v (.int .i64 x) ∧ s.tm 3 = .v (.int .i64 q) ∧ q + cnt x = cnt w ∧ q + x ≤ w ∧ (e = 1 → x = 0)
theorem l1Heads_fn (w : Nat) (hw : w < 4611686018427387904) : FnZ Try.prog 92 [.int .i64 w] (.int .i64 (cnt w)) := by
  refine FnZ_of (rs := [.tmp 2]) false Try.func92 rfl rfl rfl rfl (Nat.le_of_ble_eq_true rfl) ?_
  simp -dsimp
  refine twp_loopC (Ihd w 0) (fun s => natOf (s.tm 0)) (Ihd w 1) ?_ ?_ ?_
  · exact ⟨w, 0, by simp -dsimp, by simp -dsimp, by omega, by omega, by simp⟩
  · rintro s ⟨x, q, t0, t3, hq, hx, hend⟩
    by_cases h0 : 0 < x
    case neg =>
      simp -dsimp [t0, h0]
      exact ⟨x, q, by simp -dsimp [t0], by simp -dsimp [t3], hq, hx, fun _ => by omega⟩
    have e1 : (x : Int).tmod 2 = ((x % 2 : Nat) : Int) := by rw [Int.tmod_eq_emod_of_nonneg (by omega)]; omega
    have e2 : (x : Int).tdiv 2 = ((x / 2 : Nat) : Int) := by rw [Int.tdiv_eq_ediv_of_nonneg (by omega)]; omega
    have hs := cnt_step h0
    generalize hr : x % 2 = r at *
    generalize hy : x / 2 = y at *
    have w1 : IntKind.wrap .i64 ((q : Int) + r) = ((q + r : Nat) : Int) := by rw [w64 (by omega) (by omega)]; omega
    have w2 : IntKind.wrap .i64 (y : Int) = (y : Int) := by rw [w64 (by omega) (by omega)]
    have hmu : y < x := by omega
    simp -dsimp [t0, t3, h0, e1, e2, w1, w2, hmu]
    exact ⟨y, q + r, by simp -dsimp, by simp -dsimp, by omega, by omega, by simp⟩
  · rintro s ⟨x, q, t0, t3, hq, hx, hend⟩
    have := hend rfl
    subst this
    rw [cnt_zero] at hq
    have : q = cnt w := by omega
    subst this
    simp -dsimp [t3]
def majOf (p : Nat) : Nat := tabN (2 ^ p) fun w => decide (p < 2 * cnt w)
def majority (people : Int) : Int := if peopleOk people then (majOf people.toNat : Int) else -1
theorem cnt_le (w : Nat) : cnt w ≤ w := by
  induction w using Nat.strongRecOn with
  | _ w ih =>
    by_cases h : 0 < w
    · rw [cnt_step h]; have := ih (w / 2) (by omega); omega
    · have : w = 0 := by omega
      subst this; rw [cnt_zero]; omega
theorem peopleOk_spec {people : Int} (h : peopleOk people = true) : ∃ p : Nat, people = p ∧ 1 ≤ p ∧ p ≤ 4 := by
  simp only [peopleOk, Bool.and_eq_true, decide_eq_true_eq] at h
  exact ⟨people.toNat, by omega, by omega, by omega⟩
def Imaj (N : Nat) (p : Nat) (g : Nat → Bool) (e : Nat) (s : S) : Prop := ∃ w : Nat, s.tm 0 = .v (.int .i64 p) ∧ s.tm 4 = .v (.int .i64 w) ∧ s.tm 3 = .v (.int .i64 (tabN w g)) ∧ w ≤ N ∧ (e = 1 → w = N)
theorem majority_fn (people : Int) : FnZ Try.prog 85 [.int .i64 people] (.int .i64 (majority people)) := by
  have hpk : inR people 1 4 = peopleOk people := rfl
  have hk := ft (peopleOk people)
  rcases hk with hk | hk
  · refine FnZ_of (rs := [.tmp 2]) false Try.func85 rfl rfl rfl rfl (Nat.le_of_ble_eq_true rfl) ?_
    simp -dsimp
    refine call_ (l1In_fn people 1 4) (by simp -dsimp) ?_
    simp -dsimp [hk, hpk, majority]
  obtain ⟨p, rfl, hp1, hp4⟩ := peopleOk_spec hk
  have hN : 2 ^ p ≤ 16 := by
    have : p = 1 ∨ p = 2 ∨ p = 3 ∨ p = 4 := by omega
    rcases this with rfl | rfl | rfl | rfl <;> simp
  have ws : IntKind.wrap .i64 (2 ^ min p IntKind.i64.bits) = ((2 ^ p : Nat) : Int) := by rw [shl_fact (by omega)]; simp
  have hp0 : ¬ (p : Int) < 0 := by omega
  have hmaj : majority p = (tabN (2 ^ p) (fun w => decide (p < 2 * cnt w)) : Nat) := by simp [majority, hk, majOf]
  rw [hmaj]
  generalize hg : (fun w => decide (p < 2 * cnt w)) = g
  generalize hNN : 2 ^ p = N at *
  refine FnZ_of (rs := [.tmp 2]) false Try.func85 rfl rfl rfl rfl (Nat.le_of_ble_eq_true rfl) ?_
  simp -dsimp
  refine call_ (l1In_fn p 1 4) (by simp -dsimp) ?_
  simp -dsimp [hk, hpk]
  refine twp_loopC (Imaj N p g 0) (fun s => N - natOf (s.tm 4)) (Imaj N p g 1) ?_ ?_ ?_
  · exact ⟨0, by simp -dsimp, by simp -dsimp, by simp -dsimp [tabN], by omega, by simp⟩
  · rintro s ⟨w, t0, t4, t3, hw, hend⟩
    by_cases hlt : w < N
    case neg =>
      simp -dsimp [t0, t4, hp0, ws, hlt]
      exact ⟨w, by simp -dsimp [t0], by simp -dsimp [t4], by simp -dsimp [t3], hw, fun _ => by omega⟩
    have hgw : g w = decide (p < 2 * cnt w) := by rw [← hg]
    have hc := cnt_le w
    have hh := l1Heads_fn w (by omega)
    generalize cnt w = c at *
    have wc : IntKind.wrap .i64 (2 * (c : Int)) = 2 * c := w64 (by omega) (by omega)
    have wi : IntKind.wrap .i64 ((w : Int) + 1) = ((w + 1 : Nat) : Int) := by rw [w64 (by omega) (by omega)]; omega
    have hmu : N - (w + 1) < N - w := by omega
    have z3 : ¬ (w : Int) < 0 := by omega
    have hb := tabN_lt g w
    have hp : 2 ^ w ≤ 2 ^ 16 := Nat.pow_le_pow_right (by omega) (by omega)
    have wsh := shl_fact (w := w) (by omega)
    have hor := or_ni (a := tabN w g) (b := 2 ^ w) (x := (2 : Int) ^ w) (by simp) (by omega) (by omega)
    simp -dsimp [t0, t4, hp0, ws, hlt]
    refine call_ hh (by simp -dsimp) ?_
    by_cases hcc : (p : Int) < 2 * c
    · have ht : tabN (w + 1) g = tabN w g ||| 2 ^ w := by
        have : g w = true := by rw [hgw]; simp; omega
        simp [tabN, this]
      simp -dsimp [t0, t3, t4, wc, hcc, wsh, hor, wi, z3, hmu]
      exact ⟨w + 1, by simp -dsimp [t0], by simp -dsimp, by simp -dsimp [ht], by omega, by simp⟩
    · have ht : tabN (w + 1) g = tabN w g := by
        have : g w = false := by rw [hgw]; simp; omega
        simp [tabN, this]
      simp -dsimp [t0, t3, t4, wc, hcc, wi, z3, hmu]
      exact ⟨w + 1, by simp -dsimp [t0], by simp -dsimp, by simp -dsimp [t3, ht], by omega, by simp⟩
  · rintro s ⟨w, t0, t4, t3, hw, hend⟩
    have := hend rfl
    subst this
    simp -dsimp [t3]
/-- The table in which everybody is the other way. -/
def turned (p n : Nat) : Nat := tabN (2 ^ p) fun j => n.testBit (2 ^ p - 1 - j)
def Itn (N n : Nat) (p : Nat) (e : Nat) (s : S) : Prop := ∃ w : Nat, s.tm 0 = .v (.int .i64 p) ∧ s.tm 1 = .v (.int .i64 n) ∧ s.tm 6 = .v (.int .i64 w) ∧ s.tm 5 = .v (.int .i64 (tabN N fun j => decide (N - 1 - j < w) && n.testBit (N - 1 - j))) ∧ w ≤ N ∧ (e = 1 → w = N)
theorem turn_step {N n w : Nat} (hw : w < N) : (tabN N fun j => decide (N - 1 - j < w + 1) && n.testBit (N - 1 - j)) = (tabN N fun j => decide (N - 1 - j < w) && n.testBit (N - 1 - j)) ||| ((if n.testBit w then 1 else 0) * 2 ^ (N - 1 - w)) := by
  apply Nat.eq_of_testBit_eq
  intro i
  rw [Nat.testBit_or, testBit_tabN, testBit_tabN]
  by_cases h1 : i < N
  · by_cases h2 : i = N - 1 - w
    · subst h2
      have e1 : N - 1 - (N - 1 - w) = w := by omega
      rw [e1]
      cases n.testBit w <;> simp [h1]
    · have e2 : (N - 1 - i < w + 1) ↔ (N - 1 - i < w) := by omega
      have e3 : ((if n.testBit w then 1 else 0) * 2 ^ (N - 1 - w)).testBit i = false := by
        cases n.testBit w
        · simp
        · simp [Nat.testBit_two_pow]; omega
      rw [e3]; simp [e2]
  · have e3 : ((if n.testBit w then 1 else 0) * 2 ^ (N - 1 - w)).testBit i = false := by
      cases n.testBit w
      · simp
      · simp [Nat.testBit_two_pow]; omega
    rw [e3]; simp [h1]
theorem l1Turned_fn (p n : Nat) (hp1 : 1 ≤ p) (hp4 : p ≤ 4) (hn : n < 65536) : FnZ Try.prog 86 [.int .i64 p, .int .i64 n] (.int .i64 (turned p n)) := by
  have hN : 2 ^ p ≤ 16 := by
    have : p = 1 ∨ p = 2 ∨ p = 3 ∨ p = 4 := by omega
    rcases this with rfl | rfl | rfl | rfl <;> simp
  have hN1 : 1 ≤ 2 ^ p := Nat.one_le_two_pow
  have ws : IntKind.wrap .i64 (2 ^ min p IntKind.i64.bits) = ((2 ^ p : Nat) : Int) := by rw [shl_fact (by omega)]; simp
  have hp0 : ¬ (p : Int) < 0 := by omega
  have htu : turned p n = (tabN (2 ^ p) fun j => decide (2 ^ p - 1 - j < 2 ^ p) && n.testBit (2 ^ p - 1 - j)) := by
    have : ∀ j, decide (2 ^ p - 1 - j < 2 ^ p) = true := fun j => by simp; omega
    unfold turned; simp only [this, Bool.true_and]
  rw [htu]
  generalize hNN : 2 ^ p = N at *
  have ws1 : IntKind.wrap .i64 ((N : Int) - 1) = ((N - 1 : Nat) : Int) := by rw [w64 (by omega) (by omega)]; omega
  refine FnZ_of (rs := [.tmp 4]) false Try.func86 rfl rfl rfl rfl (Nat.le_of_ble_eq_true rfl) ?_
  simp -dsimp
  refine twp_loopC (Itn N n p 0) (fun s => N - natOf (s.tm 6)) (Itn N n p 1) ?_ ?_ ?_
  · refine ⟨0, by simp -dsimp, by simp -dsimp, by simp -dsimp, ?_, by omega, by simp⟩
    have : tabN N (fun j => decide (N - 1 - j < 0) && n.testBit (N - 1 - j)) = 0 := by
      apply Nat.eq_of_testBit_eq; intro i; rw [testBit_tabN]; simp
    rw [this]; simp -dsimp
  · rintro s ⟨w, t0, t1, t6, t5, hw, hend⟩
    by_cases hlt : w < N
    case neg =>
      simp -dsimp [t0, t6, hp0, ws, hlt]
      exact ⟨w, by simp -dsimp [t0], by simp -dsimp [t1], by simp -dsimp [t6], by simp -dsimp [t5], hw, fun _ => by omega⟩
    have wi : IntKind.wrap .i64 ((w : Int) + 1) = ((w + 1 : Nat) : Int) := by rw [w64 (by omega) (by omega)]; omega
    have hmu : N - (w + 1) < N - w := by omega
    have z3 : ¬ (w : Int) < 0 := by omega
    have b0 := bit2 n w (by omega)
    have hst := turn_step (n := n) hlt
    have hb := tabN_lt (fun j => decide (N - 1 - j < w) && n.testBit (N - 1 - j)) N
    have hp : 2 ^ N ≤ 2 ^ 16 := Nat.pow_le_pow_right (by omega) hN
    generalize (tabN N fun j => decide (N - 1 - j < w) && n.testBit (N - 1 - j)) = q at *
    have hq' : ∀ s' : S, s'.tm 0 = .v (.int .i64 p) → s'.tm 1 = .v (.int .i64 n) → s'.tm 6 = .v (.int .i64 (w + 1 : Nat)) → s'.tm 5 = .v (.int .i64 ((tabN N fun j => decide (N - 1 - j < w + 1) && n.testBit (N - 1 - j)) : Nat)) → Itn N n p 0 s' := fun s' a b c d => ⟨w + 1, a, b, c, d, by omega, by simp⟩
    generalize (tabN N fun j => decide (N - 1 - j < w + 1) && n.testBit (N - 1 - j)) = q' at *
    generalize hdd : N - 1 - w = d at *
    generalize hNM : N - 1 = M at *
    have wd : IntKind.wrap .i64 ((M : Int) - w) = (d : Int) := by rw [w64 (by omega) (by omega)]; omega
    have zd : ¬ (d : Int) < 0 := by omega
    have hp2 : 2 ^ d ≤ 2 ^ 16 := Nat.pow_le_pow_right (by omega) (by omega)
    have wsh := shl_fact (w := d) (by omega)
    have c0 := ft (n.testBit w)
    rcases c0 with c0 | c0
    · rw [c0] at b0 hst
      have e00 : (IntKind.wrap .i64 0 % 2 ^ IntKind.i64.bits).toNat = 0 := rfl
      have hor : IntKind.wrap .i64 ((q % 2 ^ IntKind.i64.bits ||| (IntKind.wrap .i64 0 % 2 ^ IntKind.i64.bits).toNat : Nat) : Int) = q := by
        have e : q % 2 ^ IntKind.i64.bits = q := Nat.mod_eq_of_lt (by simp only [IntKind.bits]; omega)
        rw [e00, Nat.or_zero, e, w64 (by omega) (by omega)]
      simp at hst
      subst hst
      simp -dsimp [t0, t6, hp0, ws, hlt]
      refine twp_draw (List.range 13) [] (List.replicate 13 []) (List.replicate 13 []) (by kernel_rfl) (by kernel_rfl) (by kernel_rfl) (by kernel_rfl) ?_
      simp -dsimp [List.range_succ, t0, t1, t5, t6, hp0, z3, zd, ws, ws1, wd, b0, hor, wi, hmu]
      exact hq' _ (by simp -dsimp [t0]) (by simp -dsimp [t1]) (by simp -dsimp) (by simp -dsimp)
    · rw [c0] at b0 hst
      have hor := or_ni (a := q) (b := 2 ^ d) (x := (2 : Int) ^ d) (by simp) (by omega) (by omega)
      simp at hst
      subst hst
      simp -dsimp [t0, t6, hp0, ws, hlt]
      refine twp_draw (List.range 13) [] (List.replicate 13 []) (List.replicate 13 []) (by kernel_rfl) (by kernel_rfl) (by kernel_rfl) (by kernel_rfl) ?_
      simp -dsimp [List.range_succ, t0, t1, t5, t6, hp0, z3, zd, ws, ws1, wd, wsh, b0, hor, wi, hmu]
      exact hq' _ (by simp -dsimp [t0]) (by simp -dsimp [t1]) (by simp -dsimp) (by simp -dsimp)
  · rintro s ⟨w, t0, t1, t6, t5, hw, hend⟩
    have := hend rfl
    subst this
    simp -dsimp [t5]
theorem l1Turned_at (a b : Int) (hk : tableOk a b = true) : FnZ Try.prog 86 [.int .i64 a, .int .i64 b] (.int .i64 (turned a.toNat b.toNat)) := by
  obtain ⟨pp, nn, rfl, rfl, h1, h4, hnn⟩ := tableOk_spec hk
  exact l1Turned_fn pp nn h1 h4 (table_small h4 hnn)
/-- Two numbers. -/
def SomeTwo (x : V) : Prop := ∃ a b : Int, x = .tup [.int .i64 a, .int .i64 b]
def Itb20 (bs : List UInt8) (p rid n0 : Nat) (m0 : Mem) (N : Nat) (thin : Int) (e : Nat) (s : S) : Prop := ∃ (w p' q : Nat) (x : Int), s.tm 0 = .ptr rid 0 ∧ s.tm 4 = .v (.int .i64 q) ∧ s.tm 5 = .v (.int .i64 x) ∧ s.tm 6 = .v (.int .i64 thin) ∧ s.tm 7 = .v (.int .i64 w) ∧ w ≤ N ∧ 1 ≤ q ∧ q ≤ 4 ∧ 2 ^ q = N ∧
  p ≤ p' ∧ p' ≤ p + w ∧ n0 ≤ s.n ∧ s.m = updM m0 rid (some (rdB bs p')) ∧ (e = 1 → w = N)
theorem l20Table_z (bs : List UInt8) (p : Nat) (hp : p < 700000000) (m : Mem) (n rid : Nat) (hr : rid < n) (hm : m rid = some (rdB bs p)) :
    FnS Try.prog 84 m n [.ptr rid 0] (Draws SomeTwo 30 m n rid bs p) := by
  refine Draws_of hr ⟨_, Try.func84, rfl, rfl⟩ fun hfr => ?_
  refine FnS_of (rs := [.tmp 2, .tmp 3]) false Try.func84 rfl rfl rfl rfl (Nat.le_of_ble_eq_true rfl) ?_
  have f1 := far hr
  simp -dsimp
  refine callS_ (pick_at bs p (by omega) _ _ _ rid (by simp [hm])) ?_
  rintro t m1 n1 ⟨hn1, ⟨r, rfl, hr0, hr1⟩, rfl⟩
  have hr1 := hr1 (by decide)
  obtain ⟨r, rfl⟩ := Int.eq_ofNat_of_zero_le hr0
  have w1 : IntKind.wrap .i64 (1 + (r : Int)) = ((1 + r : Nat) : Int) := by rw [w64 (by omega) (by omega)]; omega
  simp -dsimp
  refine callS_ (pick_at bs (p + 1) (by omega) _ _ _ rid (by simp)) ?_
  rintro t m2 n2 ⟨hn2, ⟨thin, rfl, ht0, ht1⟩, rfl⟩
  have ht1 := ht1 (by decide)
  have wt : IntKind.wrap .i64 (thin + 2) = thin + 2 := w64 (by omega) (by omega)
  have h16 : 2 ^ (1 + r) ≤ 16 := by
    have : r = 0 ∨ r = 1 ∨ r = 2 ∨ r = 3 := by omega
    rcases this with rfl | rfl | rfl | rfl <;> simp
  simp -dsimp
  refine twp_loopC (Itb20 bs (p + 2) rid n m (2 ^ (1 + r)) thin 0) (fun s => 2 ^ (1 + r) - natOf (s.tm 7)) (Itb20 bs (p + 2) rid n m (2 ^ (1 + r)) thin 1) ?_ ?_ ?_
  · exact ⟨0, p + 2, 1 + r, 0, by simp -dsimp, by simp -dsimp [w1], by simp -dsimp, by simp -dsimp, by simp -dsimp, Nat.zero_le _, by omega, by omega, rfl, by omega, by omega, by simp -dsimp; omega, by simp -dsimp, by simp⟩
  · rintro s ⟨w, p', q, x, t0, t4, t5, t6, t7, hw, hq1, hq4, hqN, hp1, hp2, hn, hm', hend⟩
    generalize 2 ^ (1 + r) = N at *
    have ws : IntKind.wrap .i64 (2 ^ min q IntKind.i64.bits) = (N : Int) := by rw [shl_fact (by omega), ← hqN]; simp
    have hq0 : ¬ (q : Int) < 0 := by omega
    by_cases hlt : w < N
    case neg =>
      simp -dsimp [t4, t7, hq0, ws, hlt]
      exact ⟨w, p', q, x, by simp -dsimp [t0], by simp -dsimp [t4], by simp -dsimp [t5], by simp -dsimp [t6], by simp -dsimp [t7], hw, hq1, hq4, hqN, hp1, hp2, by simp -dsimp; omega, by simp -dsimp [hm'], fun _ => by omega⟩
    have wi : IntKind.wrap .i64 ((w : Int) + 1) = ((w + 1 : Nat) : Int) := by rw [w64 (by omega) (by omega)]; omega
    have hmu : N - (w + 1) < N - w := by omega
    have z3 : ¬ (w : Int) < 0 := by omega
    simp -dsimp [t0, t4, t6, t7, hq0, ws, hlt, wt]
    refine callS_ (pick_at bs p' (by omega) _ _ _ rid (by simp [hm'])) ?_
    rintro t m3 n3 ⟨hn3, ⟨r2, rfl, hr20, hr21⟩, rfl⟩
    by_cases hz : r2 = 0
    · simp -dsimp [hz, t5, t7, z3, wi, hmu]
      exact ⟨w + 1, p' + 1, q, _, by simp -dsimp [t0], by simp -dsimp [t4], by simp -dsimp <;> rfl, by simp -dsimp [t6], by simp -dsimp, by omega, hq1, hq4, hqN, by omega, by omega, by simp -dsimp; omega, by simp -dsimp [hm'], by simp⟩
    · simp -dsimp [hz, t5, t7, z3, wi, hmu]
      exact ⟨w + 1, p' + 1, q, x, by simp -dsimp [t0], by simp -dsimp [t4], by simp -dsimp [t5], by simp -dsimp [t6], by simp -dsimp, by omega, hq1, hq4, hqN, by omega, by omega, by simp -dsimp; omega, by simp -dsimp [hm'], by simp⟩
  · rintro s ⟨w, p', q, x, t0, t4, t5, t6, t7, hw, hq1, hq4, hqN, hp1, hp2, hn, hm', hend⟩
    simp -dsimp [t0, t4, t5]
    refine callS_ (pick_at bs p' (by omega) _ _ _ rid (by simp [hm'])) ?_
    rintro t m3 n3 ⟨hn3, ⟨r3, rfl, hr30, hr31⟩, rfl⟩
    simp -dsimp [t0, t4, t5]
    refine callS_ (pick_at bs (p' + 1) (by omega) _ _ _ rid (by simp [hm'])) ?_
    rintro t m4 n4 ⟨hn4, ⟨r4, rfl, hr40, hr41⟩, rfl⟩
    simp -dsimp
    refine ⟨by omega, ⟨_, by simp <;> exact ⟨rfl, rfl⟩, _, _, rfl⟩, fun j j1 j2 => ?_, p' + 1 + 1, by omega, by omega, ?_⟩
    · simp [hm', j2]
    · simp [hm']
theorem known_z (bs : List UInt8) (p : Nat) (hp : p < 600000000) (m : Mem) (n rid : Nat) (hr : rid < n) (hm : m rid = some (rdB bs p)) :
    FnS Try.prog 55 m n [.ptr rid 0] (Draws SomeTwo 40 m n rid bs p) := by
  refine Draws_of hr ⟨_, Try.func55, rfl, rfl⟩ fun hfr => ?_
  refine FnS_of (rs := [.tmp 2, .tmp 3]) false Try.func55 rfl rfl rfl rfl (Nat.le_of_ble_eq_true rfl) ?_
  have f1 := far hr
  simp -dsimp
  refine callS_ (l20Table_z bs p (by omega) _ _ rid (by omega) (by simp [hm])) ?_
  rintro t m1 n1 ⟨hn1, ⟨x, ⟨a, b, rfl⟩, rfl⟩, p1, hp1, hp2, rfl⟩
  have f2 := far (show rid < n1 by omega)
  simp -dsimp
  refine callS_ (pick_at bs p1 (by omega) _ _ _ rid (by simp)) ?_
  rintro t m2 n2 ⟨hn2, ⟨r, rfl, hr0, hr1⟩, rfl⟩
  have fin : ∀ (m' : Mem) (n' : Nat) (a b : Int) (q : Nat), n ≤ n' → p ≤ q → q ≤ p + 40 → m' = updM m rid (some (rdB bs q)) → DrawPost SomeTwo 40 m n rid bs p (.tup [.v (.int .i64 a), .v (.int .i64 b)]) m' n' := by
    rintro m' n' a b q h1 h2 h3 rfl
    refine ⟨h1, ⟨_, by simp <;> exact ⟨rfl, rfl⟩, _, _, rfl⟩, fun j j1 j2 => ?_, q, h2, h3, ?_⟩
    · simp [j2]
    · simp
  have hk := ft (tableOk a b)
  have second : ∀ (m' : Mem) (n' : Nat) (q : Nat), n ≤ n' → q ≤ p + 39 → p ≤ q → m' = updM m rid (some (rdB bs q)) → True := fun _ _ _ _ _ _ _ => trivial
  by_cases hz : r = 0
  · simp -dsimp [hz]
    refine call_ (tableOkS_fn a b) (by simp -dsimp) ?_
    rcases hk with hk | hk
    · simp -dsimp [hk]
      refine callS_ (pick_at bs (p1 + 1) (by omega) _ _ _ rid (by simp)) ?_
      rintro t m3 n3 ⟨hn3, ⟨r2, rfl, hr20, hr21⟩, rfl⟩
      by_cases hz2 : r2 = 0
      · simp -dsimp [hz2]
        refine call_ (tableOkS_fn a b) (by simp -dsimp) ?_
        simp -dsimp [hk]
        exact fin _ _ _ _ (p1 + 1 + 1) (by omega) (by omega) (by omega) (by simp)
      · simp -dsimp [hz2]
        exact fin _ _ _ _ (p1 + 1 + 1) (by omega) (by omega) (by omega) (by simp)
    · simp -dsimp [hk]
      refine call_ (majority_fn a) (by simp -dsimp) ?_
      simp -dsimp
      exact fin _ _ _ _ (p1 + 1) (by omega) (by omega) (by omega) (by simp)
  · simp -dsimp [hz]
    refine callS_ (pick_at bs (p1 + 1) (by omega) _ _ _ rid (by simp)) ?_
    rintro t m3 n3 ⟨hn3, ⟨r2, rfl, hr20, hr21⟩, rfl⟩
    by_cases hz2 : r2 = 0
    · simp -dsimp [hz2]
      refine call_ (tableOkS_fn a b) (by simp -dsimp) ?_
      rcases hk with hk | hk
      · simp -dsimp [hk]
        exact fin _ _ _ _ (p1 + 1 + 1) (by omega) (by omega) (by omega) (by simp)
      · simp -dsimp [hk]
        refine call_ (l1Turned_at a b hk) (by simp -dsimp) ?_
        simp -dsimp
        exact fin _ _ _ _ (p1 + 1 + 1) (by omega) (by omega) (by omega) (by simp)
    · simp -dsimp [hz2]
      exact fin _ _ _ _ (p1 + 1 + 1) (by omega) (by omega) (by omega) (by simp)
/-- A number of people, a table, two of them and an answer. -/
def SomeAsk (x : V) : Prop := ∃ (a b c d : Int) (e : Bool), x = .tup [.int .i64 a, .int .i64 b, .int .i64 c, .int .i64 d, .bool e]
theorem drawAsked_z (bs : List UInt8) (m : Mem) (n : Nat) : FnS Try.prog 21 m n [.v (codeV bs)] (Drawn SomeAsk m n) := by
  refine Drawn_of ⟨_, Try.func21, rfl, rfl⟩ fun hfr => ?_
  refine FnS_of (rs := [.tmp 2, .tmp 3, .tmp 4, .tmp 5, .tmp 6]) false Try.func21 rfl rfl rfl rfl (Nat.le_of_ble_eq_true rfl) ?_
  simp -dsimp
  refine callS_ (open_at bs _ _) ?_
  rintro t m1 n1 ⟨rfl, rfl, rfl⟩
  simp -dsimp
  refine callS_ (known_z (bs.take 2000) 0 (by omega) _ _ n (by omega) (by simp)) ?_
  rintro t m2 n2 ⟨hn2, ⟨x, ⟨a, b, rfl⟩, rfl⟩, p1, hp1, hp2, rfl⟩
  simp -dsimp
  refine callS_ (pick_at (bs.take 2000) p1 (by omega) _ _ _ n (by simp)) ?_
  rintro t m3 n3 ⟨hn3, ⟨r3, rfl, _, _⟩, rfl⟩
  simp -dsimp
  refine callS_ (pick_at (bs.take 2000) (p1 + 1) (by omega) _ _ _ n (by simp)) ?_
  rintro t m4 n4 ⟨hn4, ⟨r4, rfl, _, _⟩, rfl⟩
  simp -dsimp
  refine callS_ (pick_at (bs.take 2000) (p1 + 1 + 1) (by omega) _ _ _ n (by simp)) ?_
  rintro t m5 n5 ⟨hn5, ⟨r5, rfl, _, _⟩, rfl⟩
  simp -dsimp
  refine callS_ (pick_at (bs.take 2000) (p1 + 1 + 1 + 1) (by omega) _ _ _ n (by simp)) ?_
  rintro t m6 n6 ⟨hn6, ⟨r6, rfl, _, _⟩, rfl⟩
  simp -dsimp
  refine callS_ (pick_at (bs.take 2000) (p1 + 1 + 1 + 1 + 1) (by omega) _ _ _ n (by simp)) ?_
  rintro t m7 n7 ⟨hn7, ⟨r7, rfl, _, _⟩, rfl⟩
  simp -dsimp
  refine ⟨by omega, ⟨_, by simp <;> exact ⟨rfl, rfl, rfl, rfl, rfl⟩, _, _, _, _, _, rfl⟩, fun j j1 => ?_⟩
  simp [far j1]
end TL
