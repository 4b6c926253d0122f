/- The law of places. -/
import Derived.Test.YtcoapdapigpfgaaDoorFnsQ9
import Derived.Test.YtcoapdapigpfgaaDoorFnsQGR
set_option linter.unusedSimpArgs false
set_option linter.unusedVariables false
set_option maxRecDepth 100000
set_option maxHeartbeats 4000000
set_option pp.maxSteps 1500
namespace TL
open Go Go.Proofs
attribute [local simp] marksV storyV codeV Claim.v Place.v
def worldOk (people w : Int) : Bool := peopleOk people && decide (0 ≤ w) && decide (w < 2 ^ people.toNat)
theorem worldOk_fn (people w : Int) : FnZ Tryd.prog 68 [.int .i64 people, .int .i64 w] (.bool (worldOk people w)) := by
  have hk := ft (peopleOk people)
  rcases hk with hk | hk
  · refine FnZ_of (rs := [.tmp 4]) false Tryd.func68 rfl rfl rfl rfl (Nat.le_of_ble_eq_true rfl) ?_
    simp -dsimp
    refine call_ (peopleOk_at people) (by simp -dsimp) ?_
    simp -dsimp [hk, worldOk]
  · by_cases h1 : 0 ≤ w
    · have h2 : people = 1 ∨ people = 2 ∨ people = 3 ∨ people = 4 := by simp [peopleOk] at hk; omega
      rcases h2 with rfl | rfl | rfl | rfl
      all_goals
        refine FnZ_of (rs := [.tmp 4]) false Tryd.func68 rfl rfl rfl rfl (Nat.le_of_ble_eq_true rfl) ?_
        simp -dsimp
        refine call_ (peopleOk_at _) (by simp -dsimp <;> rfl) ?_
        simp -dsimp [hk, worldOk, h1]
        rfl
    · refine FnZ_of (rs := [.tmp 4]) false Tryd.func68 rfl rfl rfl rfl (Nat.le_of_ble_eq_true rfl) ?_
      simp -dsimp
      refine call_ (peopleOk_at people) (by simp -dsimp) ?_
      simp -dsimp [hk, worldOk, h1]
theorem alive_fn : FnZ Tryd.prog 34 [] (.bool true) := by
  refine FnZ_of (rs := [.tmp 0]) false Tryd.func34 rfl rfl rfl rfl (Nat.le_of_ble_eq_true rfl) ?_
  have e1 : worldOk 1 1 = true := by decide
  have e2 : worldOk 1 2 = false := by decide
  simp -dsimp
  refine call_ (worldOk_fn 1 1) (by simp -dsimp) ?_
  simp -dsimp [e1]
  refine call_ (worldOk_fn 1 2) (by simp -dsimp) ?_
  simp -dsimp [e2]
theorem markStep_mono {people : Int} {parts q : Nat} {m : Mark} (h : markStep people parts m = some q) : markStep (people + 1) parts m = some q := by
  unfold markStep at h ⊢
  repeat' split at h
  all_goals first
    | (cases h; done)
    | (simp_all; omega)
    | simp_all
theorem marksRun_mono {people : Int} : ∀ (ms : List Mark) (parts : Nat) (q : Nat), marksRun people parts ms = some q → marksRun (people + 1) parts ms = some q
  | [], parts, q, h => h
  | m :: ms, parts, q, h => by
    simp only [marksRun] at h ⊢
    cases e : markStep people parts m with
    | none => rw [e] at h; cases h
    | some r =>
      rw [e] at h
      rw [markStep_mono e]
      exact marksRun_mono ms r q h
theorem termOk_mono {people : Int} {t : List Mark} (hp : people < 4) (h : termOk people t = true) : termOk (people + 1) t = true := by
  simp only [termOk, peopleOk, Bool.and_eq_true, decide_eq_true_eq] at h ⊢
  obtain ⟨⟨⟨⟨h1, h2⟩, h3⟩, h4⟩, h5⟩ := h
  exact ⟨⟨⟨⟨by omega, by omega⟩, h3⟩, h4⟩, marksRun_mono _ _ _ h5⟩
theorem claimOk_mono {people : Int} {c : Claim} (hp : people < 4) (h : claimOk people c = true) : claimOk (people + 1) c = true := by
  simp only [claimOk, peopleOk, Bool.and_eq_true, decide_eq_true_eq] at h ⊢
  obtain ⟨⟨⟨⟨⟨h1, h2⟩, h3⟩, h4⟩, h5⟩, h6⟩ := h
  exact ⟨⟨⟨⟨⟨by omega, by omega⟩, h3⟩, by omega⟩, termOk_mono hp h5⟩, h6⟩
theorem placeOk_mono {p : Place} (hp : p.people < 4) (h : placeOk p = true) : placeOk ⟨p.people + 1, p.story⟩ = true := by
  simp only [placeOk, storyOk, peopleOk, Bool.and_eq_true, decide_eq_true_eq, List.all_eq_true] at h ⊢
  obtain ⟨⟨h1, h2, h3⟩, h4⟩ := h
  exact ⟨⟨fun c hc => claimOk_mono hp (h1 c hc), by omega, by omega⟩, h4⟩
theorem placeOk_alone {p : Place} (h : placeOk p = true) : placeOk ⟨p.people, []⟩ = true := by
  simp only [placeOk, storyOk, peopleOk, Bool.and_eq_true, decide_eq_true_eq, List.all_eq_true] at h ⊢
  obtain ⟨⟨h1, h2, h3⟩, h4⟩ := h
  exact ⟨⟨by simp, by omega, by omega⟩, by simp⟩
end TL
