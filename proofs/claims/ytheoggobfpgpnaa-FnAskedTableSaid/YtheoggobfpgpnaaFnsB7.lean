/- The law of asked tables. -/
import Derived.Test.YtheoggobfpgpnaaFnsB6
set_option linter.unusedSimpArgs false
set_option linter.unusedVariables false
set_option maxRecDepth 100000
set_option maxHeartbeats 4000000
set_option pp.maxSteps 1500
namespace TL
open Go Go.Proofs
attribute [local simp] marksV storyV codeV Claim.v Place.v
theorem asked_split {p n a b : Nat} {yes : Bool} (hn : n < 2 ^ 2 ^ p) : (n &&& askMask p a b yes) ||| (n &&& askMask p a b (!yes)) = n ∧ (n &&& askMask p a b yes) &&& (n &&& askMask p a b (!yes)) = 0 := by
  have hi : ∀ i, ¬ i < 2 ^ p → n.testBit i = false := fun i h => Nat.testBit_lt_two_pow (Nat.lt_of_lt_of_le hn (Nat.pow_le_pow_right (by omega) (by omega)))
  constructor
  · apply Nat.eq_of_testBit_eq
    intro i
    rw [Nat.testBit_or, Nat.testBit_and, Nat.testBit_and, askMask, askMask, testBit_tabN, testBit_tabN]
    by_cases h : i < 2 ^ p
    · simp only [h, decide_true, Bool.true_and, sameKind]
      cases n.testBit i <;> cases i.testBit a <;> cases i.testBit b <;> cases yes <;> rfl
    · simp [hi i h]
  · apply Nat.eq_of_testBit_eq
    intro i
    rw [Nat.testBit_and, Nat.testBit_and, Nat.testBit_and, askMask, askMask, testBit_tabN, testBit_tabN]
    by_cases h : i < 2 ^ p
    · simp only [h, decide_true, Bool.true_and, sameKind]
      cases n.testBit i <;> cases i.testBit a <;> cases i.testBit b <;> cases yes <;> simp
    · simp [hi i h]
theorem asked_turn {p a b : Nat} {yes : Bool} : askMask p b a yes = askMask p a b yes := by
  have : sameKind b a yes = sameKind a b yes := by
    funext w; unfold sameKind; cases w.testBit a <;> cases w.testBit b <;> rfl
  unfold askMask; rw [this]
theorem asked_world {p n a b w : Nat} {yes : Bool} (h : w ∈ worldsOf p (n &&& askMask p a b yes)) : w < 2 ^ p ∧ (answerIn a [⟨0, b⟩] w = if yes then 1 else 0) := by
  unfold worldsOf at h
  rw [List.mem_filter, List.mem_range, Nat.testBit_and, askMask, testBit_tabN] at h
  obtain ⟨h1, h2⟩ := h
  refine ⟨h1, ?_⟩
  simp only [h1, decide_true, Bool.true_and, Bool.and_eq_true] at h2
  have h3 := h2.2
  unfold sameKind at h3
  have e : truth [⟨0, (b : Int)⟩] w = w.testBit b := by simp [truth, runR, runStep]
  unfold answerIn
  rw [e]
  revert h3
  cases w.testBit a <;> cases w.testBit b <;> cases yes <;> simp
def Ila (people tab who whom : Int) (yes : Bool) (r : Nat) (xs : List Nat) (e : Nat) (s : S) : Prop := ∃ k : Nat, s.tm 3 = .v (.int .i64 people) ∧ s.tm 4 = .v (.int .i64 tab) ∧ s.tm 5 = .v (.int .i64 who) ∧ s.tm 6 = .v (.int .i64 whom) ∧ s.tm 7 = .v (.bool yes) ∧ s.tm 8 = .v (.int .i64 r) ∧
  s.tm 9 = .v (.sl (xs.map fun w => V.int .i64 (w : Nat))) ∧ s.tm 10 = .v (.int .i64 k) ∧ k ≤ xs.length ∧ s.mu = false ∧ (e = 1 → k = xs.length)
theorem asked_at {p n a b : Nat} {yes : Bool} (hk : tableOk p n = true) (ha : a < p) (hb : b < p) : asked p n a b yes = ((n &&& askMask p a b yes : Nat) : Int) := by
  unfold asked; rw [if_pos (by exact ⟨hk, by omega, by omega, by omega, by omega⟩)]; rfl
structure AskPack (people tab who whom : Int) (yes : Bool) (r r2 : Nat) (xs : List Nat) : Prop where
  e1 : asked people tab who whom yes = r
  e2 : asked people tab who whom (!yes) = r2
  e3 : asked people tab whom who yes = r
  and : IntKind.wrap .i64 ((r % 2 ^ IntKind.i64.bits &&& r2 % 2 ^ IntKind.i64.bits : Nat) : Int) = 0
  or : IntKind.wrap .i64 ((r % 2 ^ IntKind.i64.bits ||| r2 % 2 ^ IntKind.i64.bits : Nat) : Int) = tab
  worlds : FnZ Try.prog 24 [.int .i64 people, .int .i64 r] (.sl (xs.map fun w => V.int .i64 (w : Nat)))
  ans : ∀ w ∈ xs, FnZ Try.prog 25 [.int .i64 people, .int .i64 who, marksV [⟨0, whom⟩], .int .i64 w] (.int .i64 (if yes then 1 else 0))
  len : xs.length ≤ 100
theorem askPack {people tab who whom : Int} {yes : Bool} (hv : tableOk people tab = true ∧ 0 ≤ who ∧ who < people ∧ 0 ≤ whom ∧ whom < people) : ∃ r r2 xs, AskPack people tab who whom yes r r2 xs := by
  obtain ⟨h1, h2, h3, h4, h5⟩ := hv
  obtain ⟨p, n, rfl, rfl, hp1, hp4, hn⟩ := tableOk_spec h1
  obtain ⟨a, rfl⟩ := Int.eq_ofNat_of_zero_le h2
  obtain ⟨b, rfl⟩ := Int.eq_ofNat_of_zero_le h4
  have ha : a < p := by omega
  have hb : b < p := by omega
  have hn' := table_small hp4 hn
  have hs := asked_split (a := a) (b := b) (yes := yes) hn
  have l1 : n &&& askMask p a b yes ≤ n := Nat.and_le_left
  have l2 : n &&& askMask p a b (!yes) ≤ n := Nat.and_le_left
  have hrk : tableOk p (n &&& askMask p a b yes : Nat) = true := by
    unfold tableOk at h1 ⊢
    simp only [Bool.and_eq_true, decide_eq_true_eq] at h1 ⊢
    exact ⟨⟨h1.1.1, by omega⟩, by omega⟩
  refine ⟨n &&& askMask p a b yes, n &&& askMask p a b (!yes), worldsOf p (n &&& askMask p a b yes), asked_at h1 ha hb, asked_at h1 ha hb, ?_, ?_, ?_, worldsIn_fn p _ hrk hp1 hp4, ?_, ?_⟩
  · rw [asked_at h1 hb ha, asked_turn]
  · rw [and_nn (by omega) (by omega), hs.2]; rfl
  · rw [or_nn (by omega) (by omega), hs.1]
  · intro w hw
    obtain ⟨w1, w2⟩ := asked_world hw
    rw [← w2]
    refine answerIn_fn p a [⟨0, b⟩] w ?_ ?_ (by omega)
    · have hpk : peopleOk p = true := by simp [peopleOk]; omega
      have : ((2 ^ p : Nat) : Int) = (2 : Int) ^ p := by simp
      simp only [worldOk, hpk, Bool.true_and, Int.toNat_natCast, Bool.and_eq_true, decide_eq_true_eq]
      exact ⟨by omega, by rw [← this]; omega⟩
    · have hpk : peopleOk p = true := by simp [peopleOk]; omega
      have : (0 : Int) ≤ b ∧ (b : Int) < p := by omega
      simp [termOk, hpk, marksRun, markStep, this]
  · have : (worldsOf p (n &&& askMask p a b yes)).length ≤ 2 ^ p := by
      have := List.length_filter_le (fun w => (n &&& askMask p a b yes).testBit w) (List.range (2 ^ p))
      simpa [worldsOf] using this
    have : 2 ^ p ≤ 2 ^ 4 := Nat.pow_le_pow_right (by omega) hp4
    omega
theorem lawAsked (bs : List UInt8) : FnZ Try.prog 6 [codeV bs] (.bool true) := by
  refine FnZ_of (rs := [.tmp 2]) false Try.func6 rfl rfl rfl rfl (Nat.le_of_ble_eq_true rfl) ?_
  by_cases h : (1048576 : Int) < bs.length
  · simp -dsimp [h]
  simp -dsimp [h]
  refine callS_ (drawAsked_z bs _ _) ?_
  rintro t m1 n1 ⟨hn1, ⟨x, ⟨people, tab, who, whom, yes, rfl⟩, rfl⟩, rfl⟩
  simp -dsimp
  refine call_ (asked_fn people tab who whom yes) (by simp -dsimp) ?_
  simp -dsimp
  refine call_ (askedS_fn people tab who whom yes) (by simp -dsimp) ?_
  by_cases hv : tableOk people tab = true ∧ 0 ≤ who ∧ who < people ∧ 0 ≤ whom ∧ whom < people
  case neg =>
    have e : asked people tab who whom yes = -1 := by unfold asked; rw [if_neg hv]
    simp -dsimp [e]
    refine call_ alive_fn (by simp -dsimp) ?_
    simp -dsimp
  refine (askPack (yes := yes) hv).elim fun r hx => ?_
  refine hx.elim fun r2 hx => ?_
  refine hx.elim fun xs hx => ?_
  have h1 := hx.e1
  have h2 := hx.e2
  have h3 := hx.e3
  have h4 := hx.and
  have h5 := hx.or
  have h6 := hx.len
  simp -dsimp [h1, show ¬ (r : Int) < 0 by omega]
  refine call_ hx.worlds (by simp -dsimp) ?_
  simp -dsimp
  refine twp_loopC (Ila people tab who whom yes r xs 0) (fun s => xs.length - natOf (s.tm 10)) (Ila people tab who whom yes r xs 1) ?_ ?_ ?_
  · exact ⟨0, by simp -dsimp, by simp -dsimp, by simp -dsimp, by simp -dsimp, by simp -dsimp, by simp -dsimp [h1], by simp -dsimp, by simp -dsimp, by omega, by simp -dsimp, by simp⟩
  · rintro s ⟨k, t3, t4, t5, t6, t7, t8, t9, t10, hk, hmu, hend⟩
    by_cases hlt : k < xs.length
    case neg =>
      simp -dsimp [t9, t10, hlt]
      exact ⟨k, by simp -dsimp [t3], by simp -dsimp [t4], by simp -dsimp [t5], by simp -dsimp [t6], by simp -dsimp [t7], by simp -dsimp [t8], by simp -dsimp [t9], by simp -dsimp [t10], hk, by simp -dsimp [hmu], fun _ => by omega⟩
    have wi : IntKind.wrap .i64 ((k : Int) + 1) = ((k + 1 : Nat) : Int) := by rw [w64 (by omega) (by omega)]; omega
    have hmu1 : xs.length - (k + 1) < xs.length - k := by omega
    have hans := hx.ans xs[k] (List.getElem_mem _)
    simp -dsimp [t3, t5, t6, t7, t9, t10, hlt, hmu]
    refine call_ hans (by simp -dsimp [Mark.v]) ?_
    have hy := ft yes
    rcases hy with hy | hy <;> simp -dsimp [hy, t7, t10, wi, hmu1]
    · exact ⟨k + 1, by simp -dsimp [t3], by simp -dsimp [t4], by simp -dsimp [t5], by simp -dsimp [t6], by simp -dsimp [t7, hy], by simp -dsimp [t8], by simp -dsimp [t9], by simp -dsimp, by omega, by simp -dsimp [hmu], by simp⟩
    · exact ⟨k + 1, by simp -dsimp [t3], by simp -dsimp [t4], by simp -dsimp [t5], by simp -dsimp [t6], by simp -dsimp [t7, hy], by simp -dsimp [t8], by simp -dsimp [t9], by simp -dsimp, by omega, by simp -dsimp [hmu], by simp⟩
  · rintro s ⟨k, t3, t4, t5, t6, t7, t8, t9, t10, hk, hmu, hend⟩
    simp -dsimp [t3, t4, t5, t6, t7, t8]
    refine call_ (asked_fn people tab who whom (!yes)) (by simp -dsimp) ?_
    simp -dsimp [h2, h4, h5, t3, t4, t5, t6, t7, t8]
    refine call_ (asked_fn people tab whom who yes) (by simp -dsimp) ?_
    simp -dsimp [h3, t8]
end TL
