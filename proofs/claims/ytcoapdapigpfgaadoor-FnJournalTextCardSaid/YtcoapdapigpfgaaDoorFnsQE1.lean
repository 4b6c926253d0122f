/- Deeds and their texts: what they are. -/
import Derived.Test.YtcoapdapigpfgaaDoorFnsQGB
import Derived.Lib.ItoaNum
set_option linter.unusedSimpArgs false
set_option linter.unusedVariables false
set_option maxRecDepth 100000
set_option maxHeartbeats 4000000
set_option pp.maxSteps 1500
namespace TL
open Go Go.Proofs
structure Deed where
  kind : Int
  num : Int
  words : List UInt8
  deriving DecidableEq
def Deed.v (a : Deed) : V := .agg [.int .i64 a.kind, .int .i64 a.num, .str a.words]
theorem deed_cells (a : Deed) : a.v.cells = [.int .i64 a.kind, .int .i64 a.num, .str a.words] := rfl
attribute [local simp] marksV storyV codeV Claim.v Place.v Deed.v
/-- The decimal text of a small number. -/
def dec (n : Int) : List UInt8 := Go.Lib.decDigits n.toNat
theorem dec_len {n : Int} (h0 : 0 ≤ n) (h : n ≤ 99) : (dec n).length ≤ 2 := by
  unfold dec
  by_cases h1 : n.toNat < 10
  · rw [Go.Lib.decDigits_one h1]; simp
  · rw [Go.Lib.decDigits_two h1 (by omega)]; simp
def txSay : List UInt8 := [115, 97, 121, 32]
def txDrop : List UInt8 := [100, 114, 111, 112, 32]
def txPeople : List UInt8 := [112, 101, 111, 112, 108, 101, 32]
def txLeast : List UInt8 := [108, 101, 97, 115, 116]
def txBack : List UInt8 := [98, 97, 99, 107]
noncomputable def deedTx (a : Deed) : List UInt8 :=
  if a.kind = 0 ∧ a.num = 0 ∧ (readC 4 a.words).isSome = true then txSay ++ a.words
  else if a.words ≠ [] ∨ a.num < 0 ∨ 99 < a.num then []
  else if a.kind = 1 then txDrop ++ dec a.num
  else if a.kind = 2 then txPeople ++ dec a.num
  else if a.kind = 3 ∧ a.num = 0 then txLeast
  else if a.kind = 4 ∧ a.num = 0 then txBack
  else []
theorem readC_len {people : Int} {s : List UInt8} {c : Claim} (h : readC people s = some c) : 3 ≤ s.length ∧ s.length ≤ 27 := by
  obtain ⟨h1, h2⟩ := readC_is h
  rw [← h2]; exact ⟨(claimTx_len h1).1, (claimTx_len h1).2.1⟩
theorem readC_nil (people : Int) : readC people [] = none := rfl
theorem deedTx_len (a : Deed) : (deedTx a).length ≤ 40 := by
  unfold deedTx
  split
  · rename_i h
    cases e : readC 4 a.words with
    | none => rw [e] at h; simp at h
    | some c => have := readC_len e; simp [txSay]; omega
  split
  · simp
  rename_i h
  have h0 : 0 ≤ a.num ∧ a.num ≤ 99 := by
    constructor
    · rcases Int.lt_or_le a.num 0 with h1 | h1
      · exact absurd (.inr (.inl h1)) h
      · exact h1
    · rcases Int.lt_or_le 99 a.num with h1 | h1
      · exact absurd (.inr (.inr h1)) h
      · exact h1
  have := dec_len h0.1 h0.2
  split
  · simp [txDrop]; omega
  split
  · simp [txPeople]; omega
  split
  · simp [txLeast]
  split
  · simp [txBack]
  · simp
/-- Numbers of the reference. -/
theorem l1Number2_fn (n : Int) (h0 : 0 ≤ n) (hn : n ≤ 99) : FnZ Tryd.prog 54 [.int .i64 n] (.str (dec n)) := by
  by_cases h : n < 10
  · have h1 := l1Number_fn n.toNat (by omega)
    have e : ((n.toNat : Nat) : Int) = n := by omega
    rw [e] at h1
    unfold dec
    rw [Go.Lib.decDigits_one (by omega)]; exact h1
  · have h1 := l1Number_fn (n.toNat / 10) (by omega)
    have e : ((n.toNat / 10 : Nat) : Int) = n / 10 := by omega
    rw [e] at h1
    have q1 : n.tdiv 10 = n / 10 := Int.tdiv_eq_ediv_of_nonneg h0
    have q2 : n.tmod 10 = n % 10 := Int.tmod_eq_emod_of_nonneg h0
    have w0 : IntKind.wrap .i64 (n / 10) = n / 10 := w64 (by omega) (by omega)
    have w1 : IntKind.wrap .i64 (48 + n % 10) = 48 + n % 10 := w64 (by omega) (by omega)
    have w2 : IntKind.wrap .u8 (48 + n % 10) = 48 + n % 10 := by rw [IntKind.wrap_u8]; omega
    have w3 : (48 + n % 10).toNat = 48 + n.toNat % 10 := by omega
    unfold dec
    rw [Go.Lib.decDigits_two (by omega) (by omega)]
    refine FnZ_of (rs := [.tmp 2]) false Tryd.func54 rfl rfl rfl rfl (Nat.le_of_ble_eq_true rfl) ?_
    simp -dsimp [h]
    refine twp_draw [0, 1, 1002, 3, 4, 5, 6, 7, 8, 9, 10] [0] (List.replicate 8 [] ++ [[0], [], []]) (List.replicate 7 [0] ++ [[], [0], [0], [0]]) (by kernel_rfl) (by kernel_rfl) (by kernel_rfl) (by kernel_rfl) ?_
    simp -dsimp [List.range_succ, q1, q2, w0, w1, w2, w3]
    refine pure_ h1 (by simp -dsimp) ?_
    simp -dsimp [List.range_succ, q1, q2, w0, w1, w2, w3]
theorem l1In_z (n a b : Int) : FnZ Tryd.prog 53 [.int .i64 n, .int .i64 a, .int .i64 b] (.bool (decide (a ≤ n) && decide (n ≤ b))) := l1In_fn n a b
theorem deedTx_out {a : Deed} (h : a.num < 0 ∨ 99 < a.num) : deedTx a = [] := by
  unfold deedTx; rw [if_neg (by omega), if_pos (.inr h)]
theorem deedTx_say {a : Deed} (h : a.kind = 0 ∧ a.num = 0 ∧ (readC 4 a.words).isSome = true) : deedTx a = txSay ++ a.words := by
  unfold deedTx; rw [if_pos h]
theorem deedTx_words {a : Deed} (h : ¬ (a.kind = 0 ∧ a.num = 0 ∧ (readC 4 a.words).isSome = true)) (hw : a.words ≠ []) : deedTx a = [] := by
  unfold deedTx; rw [if_neg h, if_pos (.inl hw)]
theorem deedTx_none {a : Deed} (h0 : 0 ≤ a.num) (h1 : a.num ≤ 99) (hw : a.words = []) : deedTx a = if a.kind = 1 then txDrop ++ dec a.num else if a.kind = 2 then txPeople ++ dec a.num else if a.kind = 3 ∧ a.num = 0 then txLeast else if a.kind = 4 ∧ a.num = 0 then txBack else [] := by
  unfold deedTx
  rw [if_neg (by rw [hw, readC_nil]; simp), if_neg (by rw [hw]; simp; omega)]
theorem readC_words {s : List UInt8} (h : (readC 4 s).isSome = true) : s ≠ [] := by
  rintro rfl; rw [readC_nil] at h; cases h
/-- The five ways of a deed. -/
theorem deed_ways (a : Deed) : (a.num < 0 ∨ 99 < a.num) ∨ (0 ≤ a.num ∧ a.num ≤ 99 ∧ ((a.words ≠ []) ∨ (a.words = [] ∧ (a.kind = 1 ∨ a.kind = 2 ∨ (a.kind = 3 ∧ a.num = 0) ∨ (a.kind = 4 ∧ a.num = 0) ∨ (¬ a.kind = 1 ∧ ¬ a.kind = 2 ∧ (¬ a.kind = 3 ∨ ¬ a.num = 0) ∧ (¬ a.kind = 4 ∨ ¬ a.num = 0)))))) := by
  by_cases h : a.num < 0 ∨ 99 < a.num
  · exact .inl h
  · refine .inr ⟨by omega, by omega, ?_⟩
    by_cases hw : a.words = []
    · refine .inr ⟨hw, by omega⟩
    · exact .inl hw
theorem deedTextS_fn (a : Deed) (hl : a.words.length ≤ 2000000000) : FnZ Tryd.prog 16 [a.v] (.str (deedTx a)) := by
  have hr := readClaimS_fn 4 a.words hl
  have hin := l1In_z a.num 0 99
  obtain ⟨kind, num, words⟩ := a
  simp only at hr hin hl
  have len5 : ∀ x : List UInt8, x.length ≤ 2 → (5 : Int) + x.length ≤ 9223372036854775807 ∧ (7 : Int) + x.length ≤ 9223372036854775807 := fun x h => ⟨by omega, by omega⟩
  have len4 : (4 : Int) + words.length ≤ 9223372036854775807 := by omega
  rcases deed_ways ⟨kind, num, words⟩ with h | ⟨h0, h1, h⟩
  · rw [deedTx_out h]
    have hb : (decide (0 ≤ num) && decide (num ≤ 99)) = false := by simp at h ⊢; omega
    refine FnZ_of (rs := [.tmp 2]) false Tryd.func16 rfl rfl rfl rfl (Nat.le_of_ble_eq_true rfl) ?_
    simp -dsimp
    refine call_ hin (by simp -dsimp) ?_
    simp -dsimp [hb]
  simp only at h0 h1 h
  have hb : (decide (0 ≤ num) && decide (num ≤ 99)) = true := by simp; omega
  have hd := dec_len h0 h1
  have hnum := l1Number2_fn num h0 h1
  obtain ⟨l5, l7⟩ := len5 _ hd
  rcases h with hw | ⟨hw, h⟩
  · by_cases hs : kind = 0 ∧ num = 0 ∧ (readC 4 words).isSome = true
    · rw [deedTx_say (a := ⟨kind, num, words⟩) hs]
      obtain ⟨rfl, rfl, h3⟩ := hs
      refine FnZ_of (rs := [.tmp 2]) false Tryd.func16 rfl rfl rfl rfl (Nat.le_of_ble_eq_true rfl) ?_
      simp -dsimp
      refine call_ hin (by simp -dsimp) ?_
      simp -dsimp [hw]
      refine call_ hr (by simp -dsimp) ?_
      simp -dsimp [optC, h3, len4, txSay]
    · rw [deedTx_words (a := ⟨kind, num, words⟩) hs hw]
      have hx : ((readC 4 words).isSome && (decide (kind = 0) && decide (num = 0))) = false := by
        rw [Bool.eq_false_iff]; intro h; simp at h; exact hs ⟨h.2.1, h.2.2, h.1⟩
      refine FnZ_of (rs := [.tmp 2]) false Tryd.func16 rfl rfl rfl rfl (Nat.le_of_ble_eq_true rfl) ?_
      simp -dsimp
      refine call_ hin (by simp -dsimp) ?_
      simp -dsimp [hb, hw]
      refine call_ hr (by simp -dsimp) ?_
      have hq := ft (readC 4 words).isSome
      rcases hq with hq | hq
      · simp -dsimp [optC, hq]
      · have hx2 : ¬ (kind = 0 ∧ num = 0) := fun h => hs ⟨h.1, h.2, hq⟩
        by_cases hk : kind = 0
        · have hn : ¬ num = 0 := fun h => hx2 ⟨hk, h⟩
          simp -dsimp [optC, hq, hk, hn]
        · simp -dsimp [optC, hq, hk]
  · subst hw
    rw [deedTx_none (a := ⟨kind, num, []⟩) h0 h1 rfl]
    simp only
    rcases h with rfl | rfl | ⟨rfl, rfl⟩ | ⟨rfl, rfl⟩ | ⟨k1, k2, k3, k4⟩
    · refine FnZ_of (rs := [.tmp 2]) false Tryd.func16 rfl rfl rfl rfl (Nat.le_of_ble_eq_true rfl) ?_
      simp -dsimp
      refine call_ hin (by simp -dsimp) ?_
      simp -dsimp [hb]
      refine call_ hnum (by simp -dsimp) ?_
      simp -dsimp [l5, txDrop]
    · refine FnZ_of (rs := [.tmp 2]) false Tryd.func16 rfl rfl rfl rfl (Nat.le_of_ble_eq_true rfl) ?_
      simp -dsimp
      refine call_ hin (by simp -dsimp) ?_
      simp -dsimp [hb]
      refine call_ hnum (by simp -dsimp) ?_
      simp -dsimp [l7, txPeople]
    · refine FnZ_of (rs := [.tmp 2]) false Tryd.func16 rfl rfl rfl rfl (Nat.le_of_ble_eq_true rfl) ?_
      simp -dsimp
      refine call_ hin (by simp -dsimp) ?_
      simp -dsimp [hb, txLeast]
    · refine FnZ_of (rs := [.tmp 2]) false Tryd.func16 rfl rfl rfl rfl (Nat.le_of_ble_eq_true rfl) ?_
      simp -dsimp
      refine call_ hin (by simp -dsimp) ?_
      simp -dsimp [hb, txBack]
    · have e : (if kind = 1 then txDrop ++ dec num else if kind = 2 then txPeople ++ dec num else if kind = 3 ∧ num = 0 then txLeast else if kind = 4 ∧ num = 0 then txBack else []) = [] := by
        rw [if_neg k1, if_neg k2, if_neg (by omega), if_neg (by omega)]
      rw [e]
      rw [readC_nil] at hr
      by_cases hn : num = 0
      · have k3' : ¬ kind = 3 := by omega
        have k4' : ¬ kind = 4 := by omega
        refine FnZ_of (rs := [.tmp 2]) false Tryd.func16 rfl rfl rfl rfl (Nat.le_of_ble_eq_true rfl) ?_
        simp -dsimp
        refine call_ hin (by simp -dsimp) ?_
        simp -dsimp [hb, k1, k2, k3', k4']
        refine call_ hr (by simp -dsimp) ?_
        simp -dsimp [optC]
      · refine FnZ_of (rs := [.tmp 2]) false Tryd.func16 rfl rfl rfl rfl (Nat.le_of_ble_eq_true rfl) ?_
        simp -dsimp
        refine call_ hin (by simp -dsimp) ?_
        simp -dsimp [hb, k1, k2, hn]
        refine call_ hr (by simp -dsimp) ?_
        simp -dsimp [optC]
end TL
