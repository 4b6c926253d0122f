/- The texts of claims. -/
import Derived.Test.YtcoapdapigpfgaaDoorFnsQW
import Derived.Test.YtcoapdapigpfgaaDoorFnsQ9
set_option linter.unusedSimpArgs false
set_option linter.unusedVariables false
set_option maxRecDepth 100000
set_option maxHeartbeats 4000000
set_option pp.maxSteps 1500
namespace TL
open Go Go.Proofs
attribute [local simp] marksV storyV codeV Claim.v Place.v
theorem claimOk_who {people : Int} {c : Claim} (h : claimOk people c = true) : 0 ≤ c.who ∧ c.who < 4 ∧ termOk people c.says = true ∧ c.says.length ≤ 13 := by
  simp only [claimOk, peopleOk, Bool.and_eq_true, decide_eq_true_eq] at h
  exact ⟨by omega, by omega, h.1.2, h.2⟩
/-- The text of a claim whose term is a tree. -/
def claimText (c : Claim) (T : Tm) : List UInt8 := UInt8.ofNat (97 + c.who.toNat) :: 58 :: T.text
theorem claimText_no (people : Int) (c : Claim) (h : claimOk people c = false) : FnZ Tryd.prog 62 [.int .i64 people, c.v] (.str []) := by
  refine FnZ_of (rs := [.tmp 4]) false Tryd.func62 rfl rfl rfl rfl (Nat.le_of_ble_eq_true rfl) ?_
  simp -dsimp
  refine call_ (claimOk_fn people c) (by simp -dsimp) ?_
  simp -dsimp [h]
theorem claimTextS_no (people : Int) (c : Claim) (hf : c.fine) (h : claimOk people c = false) : FnZ Tryd.prog 60 [.int .i64 people, c.v] (.str []) := by
  refine FnZ_of (rs := [.tmp 4]) false Tryd.func60 rfl rfl rfl rfl (Nat.le_of_ble_eq_true rfl) ?_
  simp -dsimp
  refine call_ (claimOkS_fn people c hf) (by simp -dsimp) ?_
  simp -dsimp [h]
theorem claimText_fn (people : Int) (c : Claim) (h : claimOk people c = true) (T : Tm) (hT : T.ok) (hm : T.marks = c.says) : FnZ Tryd.prog 62 [.int .i64 people, c.v] (.str (claimText c T)) := by
  obtain ⟨h0, h4, ht, hl⟩ := claimOk_who h
  have htx := textOf_fn T hT (by rw [hm]; omega)
  rw [hm] at htx
  have hlen := T.text_len
  rw [hm] at hlen
  have w1 : IntKind.wrap .i64 (97 + c.who) = 97 + c.who := w64 (by omega) (by omega)
  have w2 : IntKind.wrap .u8 (97 + c.who) = 97 + c.who := by rw [IntKind.wrap_u8]; omega
  have w3 : (97 + c.who).toNat = 97 + c.who.toNat := by omega
  have c1 : (1 : Int) + 1 + T.text.length ≤ 9223372036854775807 := by omega
  have c2 : (2 : Int) + T.text.length ≤ 9223372036854775807 := by omega
  unfold claimText
  generalize T.text = s at *
  refine FnZ_of (rs := [.tmp 4]) false Tryd.func62 rfl rfl rfl rfl (Nat.le_of_ble_eq_true rfl) ?_
  simp -dsimp
  refine call_ (claimOk_fn people c) (by simp -dsimp) ?_
  simp -dsimp [h]
  refine twp_draw [0, 1, 2, 3, 7, 8, 1009, 4, 5, 6, 10, 11] [0, 1] [[0], [0], [0], [0], [0], [0, 1], [0], [0], [0], [0], [0], [0]] (List.replicate 4 [0, 1] ++ [[0]] ++ List.replicate 7 [0, 1]) (by kernel_rfl) (by kernel_rfl) (by kernel_rfl) (by kernel_rfl) ?_
  simp -dsimp [List.range_succ, w1, w2, w3]
  refine pure_ htx (by simp -dsimp) ?_
  simp -dsimp [List.range_succ, w1, w2, w3, c1, c2]
theorem claimTextS_fn (people : Int) (c : Claim) (hf : c.fine) (h : claimOk people c = true) (T : Tm) (hT : T.ok) (hm : T.marks = c.says) : FnZ Tryd.prog 60 [.int .i64 people, c.v] (.str (claimText c T)) := by
  obtain ⟨h0, h4, ht, hl⟩ := claimOk_who h
  have htx := l2Text_fn T hT (by rw [hm]; omega)
  rw [hm] at htx
  have hlen := T.text_len
  rw [hm] at hlen
  have c1 : (1 : Int) + 1 + T.text.length ≤ 9223372036854775807 := by omega
  have c2 : (2 : Int) + T.text.length ≤ 9223372036854775807 := by omega
  have hw : c.who = 0 ∨ c.who = 1 ∨ c.who = 2 ∨ c.who = 3 := by omega
  have hok := claimOkS_fn people c hf
  rw [h] at hok
  unfold claimText
  generalize T.text = s at *
  obtain ⟨who, says⟩ := c
  simp only at hw
  rcases hw with rfl | rfl | rfl | rfl
  all_goals
    refine FnZ_of (rs := [.tmp 4]) false Tryd.func60 rfl rfl rfl rfl (Nat.le_of_ble_eq_true rfl) ?_
    simp -dsimp
    refine call_ hok (by simp -dsimp) ?_
    simp -dsimp
    refine twp_draw (List.range 12) [0] (List.replicate 12 [0]) (List.replicate 12 [0]) (by kernel_rfl) (by kernel_rfl) (by kernel_rfl) (by kernel_rfl) ?_
    simp -dsimp [List.range_succ, show IntKind.wrap .i64 1 = 1 from rfl, show IntKind.wrap .i64 2 = 2 from rfl, show IntKind.wrap .i64 3 = 3 from rfl, show IntKind.wrap .i64 4 = 4 from rfl]
    refine call_ htx (by simp -dsimp) ?_
    simp -dsimp [List.range_succ, c1, c2]
end TL
