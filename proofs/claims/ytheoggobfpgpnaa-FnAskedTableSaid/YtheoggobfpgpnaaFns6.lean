/- Drawn arguments of the statements. -/
import Derived.Test.YtheoggobfpgpnaaFns5
set_option linter.unusedSimpArgs false
set_option linter.unusedVariables false
set_option maxRecDepth 100000
set_option maxHeartbeats 4000000
set_option pp.maxSteps 1500
namespace TL
open Go Go.Proofs
/-- What a function that draws from a code leaves: some value of a kind. -/
def Drawn (R : V → Prop) (m : Mem) (n : Nat) (t : T) (m' : Mem) (n' : Nat) : Prop := n ≤ n' ∧ (∃ x, R x ∧ t = .v x) ∧ m' = m
def DrawnPost (R : V → Prop) (m0 : Mem) (n0 : Nat) (t : T) (m' : Mem) (n' : Nat) : Prop := n0 ≤ n' ∧ (∃ x, bor true (upper n0 m') 4 t = some x ∧ R x) ∧ ∀ j, j < n0 → m' j = m0 j
theorem Drawn_of {f : Nat} {args : List T} {R : V → Prop} {m : Mem} {n : Nat} (hf : ∃ fn, Try.prog.funcs[f]? = some fn ∧ (fn.name == "runtime.NumGoroutine") = false ∧ fn.body.isNone = false)
    (h : (∀ j, n ≤ j → m j = none) → FnS Try.prog f m n args (DrawnPost R m n)) : FnS Try.prog f m n args (Drawn R m n) := by
  refine FnS_fresh hf fun hfr => ?_
  refine (h hfr).frz ?_
  rintro t m' n' ⟨hn, ⟨x, hx, hR⟩, hout⟩
  refine ⟨x, m, upper n m', ?_, ?_, ?_, hx, hn, ⟨x, hR, rfl⟩, rfl⟩
  · intro j b hb
    by_cases h : j < n
    · rw [hout j h, hb]
    · rw [hfr j (by omega)] at hb; cases hb
  · intro j b hb
    by_cases h : n ≤ j
    · simpa [h] using hb
    · simp [h] at hb
  · intro j
    by_cases h : n ≤ j
    · left; exact hfr j h
    · right; simp [h]
theorem open_at (bs : List UInt8) (m : Mem) (n : Nat) : FnS Try.prog 41 m n [.v (codeV bs)] (fun t m' n' => t = .ptr n 0 ∧ n' = n + 1 ∧ m' = updM m n (some (rdB (bs.take 2000) 0))) := open_fn bs m n
theorem drawPlaceOk_z (bs : List UInt8) (m : Mem) (n : Nat) : FnS Try.prog 9 m n [.v (codeV bs)] (Drawn SomePlace m n) := by
  refine Drawn_of ⟨_, Try.func9, rfl, rfl⟩ fun hfr => ?_
  refine FnS_of (rs := [.cell 2 25]) false Try.func9 rfl rfl rfl rfl (Nat.le_of_ble_eq_true rfl) ?_
  simp -dsimp
  refine callS_ (open_at bs _ _) ?_
  rintro t m1 n1 ⟨rfl, rfl, rfl⟩
  simp -dsimp
  refine callS_ (place_z (bs.take 2000) 0 (by omega) 2 (by omega) (by omega) _ _ _ (by omega) (by simp)) ?_
  rintro t m2 n2 ⟨hn2, ⟨x, hx, rfl⟩, p2, hp1, hp2, rfl⟩
  obtain ⟨q, hq1, hq2, hq3, rfl⟩ := hx
  simp -dsimp [Place.v, storyV]
  refine ⟨by omega, ⟨_, by simp; rfl, ⟨q, hq1, hq2, hq3, rfl⟩⟩, fun j j1 => ?_⟩
  simp [far j1]
end TL
