/- Worlds of a table; answers. -/
import Derived.Test.YtheoggobfpgpnaaFnsB5
set_option linter.unusedSimpArgs false
set_option linter.unusedVariables false
set_option maxRecDepth 100000
set_option maxHeartbeats 4000000
set_option pp.maxSteps 1500
namespace TL
open Go Go.Proofs
attribute [local simp] marksV storyV codeV Claim.v Place.v
theorem askedS_val {p n a b : Nat} (yes : Bool) (hn : n < 2 ^ 2 ^ p) : (tabN (2 ^ p) fun w => n.testBit w && sameKind a b yes w) = n &&& askMask p a b yes := by
  apply Nat.eq_of_testBit_eq
  intro i
  rw [testBit_tabN, Nat.testBit_and, askMask, testBit_tabN]
  by_cases h : i < 2 ^ p
  · simp [h]
  · have : n.testBit i = false := Nat.testBit_lt_two_pow (Nat.lt_of_lt_of_le hn (Nat.pow_le_pow_right (by omega) (by omega)))
    simp [this]
theorem askedS_fn (people t who whom : Int) (yes : Bool) : FnZ Try.prog 23 [.int .i64 people, .int .i64 t, .int .i64 who, .int .i64 whom, .bool yes] (.int .i64 (asked people t who whom yes)) := by
  have hk := ft (tableOk people t)
  rcases hk with hk | hk
  · have e : asked people t who whom yes = -1 := by unfold asked; rw [if_neg (by simp [hk])]
    refine FnZ_of (rs := [.tmp 10]) false Try.func23 rfl rfl rfl rfl (Nat.le_of_ble_eq_true rfl) ?_
    simp -dsimp
    refine call_ (tableOkS_fn people t) (by simp -dsimp) ?_
    simp -dsimp [hk, e]
  obtain ⟨p, n, rfl, rfl, hp1, hp4, hn⟩ := tableOk_spec hk
  have wp : IntKind.wrap .i64 ((p : Int) - 1) = ((p - 1 : Nat) : Int) := by rw [w64 (by omega) (by omega)]; omega
  have c1 := ft (inR who 0 ((p - 1 : Nat) : Int))
  rcases c1 with c1 | c1
  · have c1' : ¬ (0 ≤ who ∧ who < p) := by
      intro h
      have : inR who 0 ((p - 1 : Nat) : Int) = true := (inR_true ..).2 (by omega)
      rw [c1] at this; cases this
    have e : asked p n who whom yes = -1 := by unfold asked; rw [if_neg (by omega)]
    generalize p - 1 = P1 at *
    refine FnZ_of (rs := [.tmp 10]) false Try.func23 rfl rfl rfl rfl (Nat.le_of_ble_eq_true rfl) ?_
    simp -dsimp
    refine call_ (tableOkS_fn p n) (by simp -dsimp) ?_
    simp -dsimp [hk, wp]
    refine call_ (l1In_fn who 0 P1) (by simp -dsimp) ?_
    simp -dsimp [c1, e]
  have c2 := ft (inR whom 0 ((p - 1 : Nat) : Int))
  rcases c2 with c2 | c2
  · have c1' : ¬ (0 ≤ whom ∧ whom < p) := by
      intro h
      have : inR whom 0 ((p - 1 : Nat) : Int) = true := (inR_true ..).2 (by omega)
      rw [c2] at this; cases this
    have e : asked p n who whom yes = -1 := by unfold asked; rw [if_neg (by omega)]
    generalize p - 1 = P1 at *
    refine FnZ_of (rs := [.tmp 10]) false Try.func23 rfl rfl rfl rfl (Nat.le_of_ble_eq_true rfl) ?_
    simp -dsimp
    refine call_ (tableOkS_fn p n) (by simp -dsimp) ?_
    simp -dsimp [hk, wp]
    refine call_ (l1In_fn who 0 P1) (by simp -dsimp) ?_
    simp -dsimp [c1, wp]
    refine call_ (l1In_fn whom 0 P1) (by simp -dsimp) ?_
    simp -dsimp [c2, e]
  have d1 := (inR_true ..).1 c1
  have d2 := (inR_true ..).1 c2
  obtain ⟨a, rfl⟩ := Int.eq_ofNat_of_zero_le d1.1
  obtain ⟨b, rfl⟩ := Int.eq_ofNat_of_zero_le d2.1
  have e : asked p n a b yes = ((n &&& askMask p a b yes : Nat) : Int) := by unfold asked; rw [if_pos (by exact ⟨hk, by omega, by omega, by omega, by omega⟩)]; rfl
  rw [e, ← askedS_val yes hn]
  have hcall := l13Asked_fn p n a b yes hp1 hp4 (table_small hp4 hn) (by omega) (by omega)
  generalize (tabN (2 ^ p) fun w => n.testBit w && sameKind a b yes w) = res at *
  generalize p - 1 = P1 at *
  refine FnZ_of (rs := [.tmp 10]) false Try.func23 rfl rfl rfl rfl (Nat.le_of_ble_eq_true rfl) ?_
  simp -dsimp
  refine call_ (tableOkS_fn p n) (by simp -dsimp) ?_
  simp -dsimp [hk, wp]
  refine call_ (l1In_fn a 0 P1) (by simp -dsimp) ?_
  simp -dsimp [c1, wp]
  refine call_ (l1In_fn b 0 P1) (by simp -dsimp) ?_
  simp -dsimp [c2]
  refine call_ hcall (by simp -dsimp) ?_
  simp -dsimp
/-- The worlds of a table. -/
def worldsOf (p n : Nat) : List Nat := (List.range (2 ^ p)).filter fun w => n.testBit w
def Iwi (N n p : Nat) (e : Nat) (s : S) : Prop := ∃ w id : Nat, s.tm 1 = .v (.int .i64 n) ∧ s.tm 5 = .loc id ∧ s.tm 13 = .v (.int .i64 N) ∧ s.tm 14 = .v (.int .i64 w) ∧ w ≤ N ∧ s.mu = false ∧ id < s.n ∧
  s.m id = some (.arr 3 (((List.range w).filter fun w => n.testBit w).map fun w => V.int .i64 (w : Nat))) ∧ (e = 1 → w = N)
theorem worldsIn_fn (p n : Nat) (hk : tableOk p n = true) (hp1 : 1 ≤ p) (hp4 : p ≤ 4) : FnZ Try.prog 24 [.int .i64 p, .int .i64 n] (.sl ((worldsOf p n).map fun w => V.int .i64 (w : Nat))) := by
  have hn : n < 65536 := by
    obtain ⟨p', n', h1, h2, _, h4, h5⟩ := tableOk_spec hk
    have : n' = n := by omega
    subst this
    exact table_small h4 h5
  have hN : 2 ^ p ≤ 16 := by
    have : p = 1 ∨ p = 2 ∨ p = 3 ∨ p = 4 := by omega
    rcases this with rfl | rfl | rfl | rfl <;> simp
  have ws : IntKind.wrap .i64 (2 ^ min p IntKind.i64.bits) = ((2 ^ p : Nat) : Int) := by rw [shl_fact (by omega)]; simp
  unfold worldsOf
  generalize hNN : 2 ^ p = N at *
  have hp0 : ¬ (p : Int) < 0 := by omega
  refine FnZ_of (rs := [.tmp 4]) false Try.func24 rfl rfl rfl rfl (Nat.le_of_ble_eq_true rfl) ?_
  simp -dsimp
  refine call_ (tableOk_fn p n) (by simp -dsimp) ?_
  simp -dsimp [hk, ws, hp0]
  refine twp_loopC (Iwi N n p 0) (fun s => N - natOf (s.tm 14)) (Iwi N n p 1) ?_ ?_ ?_
  · exact ⟨0, 0, by simp -dsimp, by simp -dsimp, by simp -dsimp, by simp -dsimp, by omega, by simp -dsimp, by simp -dsimp, by simp -dsimp, by simp⟩
  · rintro s ⟨w, id, t1, t5, t13, t14, hw, hmu, hid, hm, hend⟩
    by_cases hlt : w < N
    case neg =>
      simp -dsimp [t13, t14, hlt]
      exact ⟨w, id, by simp -dsimp [t1], by simp -dsimp [t5], by simp -dsimp [t13], by simp -dsimp [t14], hw, by simp -dsimp [hmu], by simp -dsimp; omega, by simp -dsimp [hm], fun _ => by omega⟩
    have wi : IntKind.wrap .i64 ((w : Int) + 1) = ((w + 1 : Nat) : Int) := by rw [w64 (by omega) (by omega)]; omega
    have hmu1 : N - (w + 1) < N - w := by omega
    have z3 : ¬ (w : Int) < 0 := by omega
    have b0 := bit1 n w (by omega) (by omega)
    have hrl : ((List.range w).filter fun w => n.testBit w).length ≤ w := by
      have := List.length_filter_le (fun w => n.testBit w) (List.range w)
      simpa using this
    have hsucc : (List.range (w + 1)).filter (fun w => n.testBit w) = (List.range w).filter (fun w => n.testBit w) ++ (if n.testBit w then [w] else []) := by
      rw [List.range_succ, List.filter_append]; congr 1
      cases h : n.testBit w <;> simp [h]
    have fin : ∀ (s' : S) (id' : Nat), s'.tm 1 = .v (.int .i64 n) → s'.tm 5 = .loc id' → s'.tm 13 = .v (.int .i64 N) → s'.tm 14 = .v (.int .i64 (w + 1 : Nat)) → s'.mu = false → id' < s'.n →
        s'.m id' = some (.arr 3 (((List.range w).filter fun w => n.testBit w).map (fun w => V.int .i64 (w : Nat)) ++ (if n.testBit w then [V.int .i64 w] else []))) → Iwi N n p 0 s' := by
      intro s' id' a1 a5 a13 a14 amu aid am
      refine ⟨w + 1, id', a1, a5, a13, a14, by omega, amu, aid, ?_, by simp⟩
      rw [am, hsucc]; cases n.testBit w <;> simp
    have f1 := far hid
    generalize hxs : ((List.range w).filter fun w => n.testBit w).map (fun w => V.int .i64 (w : Nat)) = xs at *
    have hxl : xs.length ≤ 16 := by rw [← hxs]; simp only [List.length_map]; omega
    have b1 : (xs.length + 1) * 8 ≤ 140737488355328 := by omega
    have c0 := ft (n.testBit w)
    rcases c0 with c0 | c0
    · rw [c0] at b0
      simp -dsimp [t1, t5, t13, t14, hlt, hmu, z3, b0, wi, hmu1]
      exact fin _ id (by simp -dsimp [t1]) (by simp -dsimp [t5]) (by simp -dsimp [t13]) (by simp -dsimp) (by simp -dsimp [hmu]) (by simp -dsimp; omega) (by simp -dsimp [hm, c0])
    · rw [c0] at b0
      simp -dsimp [t1, t5, t13, t14, hlt, hmu, z3, b0, hm, f1, b1, wi, hmu1]
      refine st_out fun s' ht' hm' hn' hu' => ?_
      have q1 := ht' 1
      have q5 := ht' 5
      have q13 := ht' 13
      have q14 := ht' 14
      simp -dsimp [t1, t5, t13] at q1 q5 q13 q14 hm' hn' hu'
      clear ht'
      exact fin s' _ q1 q5 q13 q14 (by rw [hu', hmu]) (by omega) (by simp [hm', c0])
  · rintro s ⟨w, id, t1, t5, t13, t14, hw, hmu, hid, hm, hend⟩
    have := hend rfl
    subst this
    simp -dsimp [t5, hm]
def answerIn (who : Nat) (t : List Mark) (w : Nat) : Int := if truth t w == w.testBit who then 1 else 0
theorem answerIn_fn (people : Int) (who : Nat) (t : List Mark) (w : Nat) (hw : worldOk people w = true) (ht : termOk people t = true) (h2 : who < people) : FnZ Try.prog 25 [.int .i64 people, .int .i64 who, marksV t, .int .i64 w] (.int .i64 (answerIn who t w)) := by
  have hp : 1 ≤ people ∧ people ≤ 4 ∧ w < 16 ∧ t.length ≤ 15 ∧ marksRun people 0 t = some 1 := by
    simp only [worldOk, termOk, peopleOk, Bool.and_eq_true, decide_eq_true_eq] at hw ht
    obtain ⟨⟨hw1, hw2⟩, hw3⟩ := hw
    have : people = 1 ∨ people = 2 ∨ people = 3 ∨ people = 4 := by omega
    have h16 : (w : Int) < 16 := by rcases this with rfl | rfl | rfl | rfl <;> simp at hw3 <;> omega
    exact ⟨hw1.1, hw1.2, by omega, ht.1.2, ht.2⟩
  obtain ⟨hp1, hp4, hw16, htl, hrun⟩ := hp
  have hb := bit1 w who (by omega) (by omega)
  have z1 : ¬ (who : Int) < 0 := by omega
  have z2 : ¬ people ≤ (who : Int) := by omega
  have hh := holds_fn people hp4 t hrun (by omega) w hw16
  unfold answerIn
  generalize truth t w = tr at *
  refine FnZ_of (rs := [.tmp 8]) false Try.func25 rfl rfl rfl rfl (Nat.le_of_ble_eq_true rfl) ?_
  simp -dsimp
  refine call_ (worldOk_fn people w) (by simp -dsimp) ?_
  simp -dsimp [hw]
  refine call_ (termOk_fn people t) (by simp -dsimp) ?_
  simp -dsimp [ht, z1, z2]
  refine twp_draw [0, 1, 3, 4, 5, 6, 7, 2, 8] [] (List.replicate 9 []) (List.replicate 9 []) (by kernel_rfl) (by kernel_rfl) (by kernel_rfl) (by kernel_rfl) ?_
  have c0 := ft (w.testBit who)
  rcases c0 with c0 | c0
  · rw [c0] at hb ⊢
    simp -dsimp [z1, hb]
    refine call_ hh (by simp -dsimp) ?_
    cases tr <;> simp -dsimp
  · rw [c0] at hb ⊢
    simp -dsimp [z1, hb]
    refine call_ hh (by simp -dsimp) ?_
    cases tr <;> simp -dsimp
end TL
