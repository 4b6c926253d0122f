/- The exact laws of the texts of places, and of new stores. -/
import Derived.Test.YtcoapdapigpfgaaDoorFnsQE4
import Derived.Test.YtcoapdapigpfgaaDoorFnsQE3
set_option linter.unusedSimpArgs false
set_option linter.unusedVariables false
set_option maxRecDepth 100000
set_option maxHeartbeats 4000000
set_option pp.maxSteps 1500
namespace TL
open Go Go.Proofs
attribute [local simp] marksV storyV codeV Claim.v Place.v Deed.v
structure Store where
  saved : List UInt8
  log : List UInt8
  sure : Int
  deriving DecidableEq
def Store.v (s : Store) : V := .agg [.str s.saved, .str s.log, .int .i64 s.sure]
theorem eqStore_fn (a b : Store) : FnZ Tryd.prog 31 [a.v, b.v] (.bool (decide (a = b))) := by
  obtain ⟨a1, a2, a3⟩ := a
  obtain ⟨b1, b2, b3⟩ := b
  refine FnZ_of (rs := [.tmp 4]) false Tryd.func31 rfl rfl rfl rfl (Nat.le_of_ble_eq_true rfl) ?_
  by_cases h1 : a1 = b1
  · by_cases h2 : a2 = b2
    · by_cases h3 : a3 = b3
      · simp -dsimp [Store.v, h1, h2, h3]
      · simp -dsimp [Store.v, h1, h2, h3]
    · simp -dsimp [Store.v, h1, h2]
  · simp -dsimp [Store.v, h1]
def noStore : Store := ⟨[], [], 0⟩
noncomputable def storeNew (p : Place) : Store := if placeOk p = true then ⟨placeTx p, [], 0⟩ else noStore
theorem storeNew_fn (p : Place) (hl : p.story.length < 1000000000000) : FnZ Tryd.prog 30 [p.v] (.tup [(storeNew p).v, .bool (placeOk p)]) := by
  have hok := placeOk_fn p hl
  have ht := placeText_fn p hl
  unfold storeNew
  generalize placeTx p = tx at *
  have hk := ft (placeOk p)
  refine FnZ_of (rs := [.cell 2 48, .tmp 3]) false Tryd.func30 rfl rfl rfl rfl (Nat.le_of_ble_eq_true rfl) ?_
  simp -dsimp
  refine call_ hok (by simp -dsimp) ?_
  rcases hk with hk | hk
  · simp -dsimp [hk, Store.v, noStore]
  · simp -dsimp [hk]
    refine call_ ht (by simp -dsimp) ?_
    simp -dsimp [Store.v, hk]
theorem storeNewS_fn (p : Place) (hf : p.fine) : FnZ Tryd.prog 29 [p.v] (.tup [(storeNew p).v, .bool (placeOk p)]) := by
  have hok := placeOkS_fn p hf
  have ht := placeTextS_fn p hf
  unfold storeNew
  generalize placeTx p = tx at *
  have hk := ft (placeOk p)
  refine FnZ_of (rs := [.cell 2 48, .tmp 3]) false Tryd.func29 rfl rfl rfl rfl (Nat.le_of_ble_eq_true rfl) ?_
  simp -dsimp
  refine call_ hok (by simp -dsimp) ?_
  rcases hk with hk | hk
  · simp -dsimp [hk, Store.v, noStore]
  · simp -dsimp [hk]
    refine call_ ht (by simp -dsimp) ?_
    simp -dsimp [Store.v, hk]
theorem place_ready {p : Place} (h : p.fit ∧ p.mid) (hz : ¬ (1048576 : Int) - p.bulk < 0) : p.small ∧ p.fine := by
  have hs := Place.small_of hz
  exact ⟨hs, by have := hs.1; omega, fun c hc => ⟨(h.1.2 c hc).2, by have := hs.2 c hc; unfold Claim.small at this; omega⟩⟩
theorem exactPlaceText_row (p : Place) (h : p.fit ∧ p.mid) : FnZ Tryd.prog 4 [p.v] (.bool true) := by
  have hsz := szPlace_fn p 1048576 (by omega) (by omega) h.2
  by_cases hz : (1048576 : Int) - p.bulk < 0
  · have e : szR 1048576 p.bulk = -1 := if_pos hz
    refine FnZ_of (rs := [.tmp 2]) false Tryd.func4 rfl rfl rfl rfl (Nat.le_of_ble_eq_true rfl) ?_
    simp -dsimp
    refine call_ hsz (by simp -dsimp) ?_
    simp -dsimp [e]
  · have e : szR 1048576 p.bulk = 1048576 - p.bulk := if_neg hz
    obtain ⟨small, fine⟩ := place_ready h hz
    have h1 := placeTextS_fn p fine
    have h2 := placeText_fn p (by have := small.1; omega)
    have heq := eqPlace_fn p p small
    generalize placeTx p = s at *
    refine FnZ_of (rs := [.tmp 2]) false Tryd.func4 rfl rfl rfl rfl (Nat.le_of_ble_eq_true rfl) ?_
    simp -dsimp
    refine call_ hsz (by simp -dsimp) ?_
    simp -dsimp [e, hz]
    refine call_ (toPlace_fn p small) (by simp -dsimp) ?_
    simp -dsimp
    refine call_ h1 (by simp -dsimp) ?_
    simp -dsimp
    refine call_ (toPlace_fn p small) (by simp -dsimp) ?_
    simp -dsimp
    refine call_ h2 (by simp -dsimp) ?_
    simp -dsimp
    refine twp_draw (List.range 5) [0, 1] [[1], [0], [], [], []] (List.replicate 5 [0, 1]) (by kernel_rfl) (by kernel_rfl) (by kernel_rfl) (by kernel_rfl) ?_
    simp -dsimp [List.range_succ]
    refine call_ (toPlace_fn p small) (by simp -dsimp) ?_
    simp -dsimp [List.range_succ]
    refine call_ heq (by simp -dsimp) ?_
    simp -dsimp [List.range_succ]
theorem exactStoreNew_row (p : Place) (h : p.fit ∧ p.mid) : FnZ Tryd.prog 6 [p.v] (.bool true) := by
  have hsz := szPlace_fn p 1048576 (by omega) (by omega) h.2
  by_cases hz : (1048576 : Int) - p.bulk < 0
  · have e : szR 1048576 p.bulk = -1 := if_pos hz
    refine FnZ_of (rs := [.tmp 2]) false Tryd.func6 rfl rfl rfl rfl (Nat.le_of_ble_eq_true rfl) ?_
    simp -dsimp
    refine call_ hsz (by simp -dsimp) ?_
    simp -dsimp [e]
  · have e : szR 1048576 p.bulk = 1048576 - p.bulk := if_neg hz
    obtain ⟨small, fine⟩ := place_ready h hz
    have h1 := storeNewS_fn p fine
    have h2 := storeNew_fn p (by have := small.1; omega)
    have heq := eqPlace_fn p p small
    have hes := eqStore_fn (storeNew p) (storeNew p)
    have hk := ft (placeOk p)
    generalize storeNew p = s at *
    obtain ⟨s1, s2, s3⟩ := s
    refine FnZ_of (rs := [.tmp 2]) false Tryd.func6 rfl rfl rfl rfl (Nat.le_of_ble_eq_true rfl) ?_
    simp -dsimp
    refine call_ hsz (by simp -dsimp) ?_
    simp -dsimp [e, hz]
    refine call_ (toPlace_fn p small) (by simp -dsimp) ?_
    simp -dsimp
    refine call_ h1 (by simp -dsimp) ?_
    simp -dsimp [Store.v]
    refine call_ (toPlace_fn p small) (by simp -dsimp) ?_
    simp -dsimp
    refine call_ h2 (by simp -dsimp) ?_
    simp -dsimp [Store.v]
    refine call_ hes (by simp -dsimp [Store.v]) ?_
    simp -dsimp
    refine twp_draw (List.range 5) [0, 1, 2, 3] (List.replicate 5 [0, 1, 2, 3]) (List.replicate 5 [0, 1, 2, 3]) (by kernel_rfl) (by kernel_rfl) (by kernel_rfl) (by kernel_rfl) ?_
    simp -dsimp [List.range_succ]
    refine call_ (toPlace_fn p small) (by simp -dsimp) ?_
    simp -dsimp [List.range_succ]
    refine call_ heq (by simp -dsimp) ?_
    simp -dsimp [List.range_succ]
end TL
