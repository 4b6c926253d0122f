/- spec: terms, claims, stories, places. -/
import Derived.Test.YtcoapdapigpfgaaDoorFnsQ7
set_option linter.unusedSimpArgs false
set_option linter.unusedVariables false
set_option maxRecDepth 100000
set_option maxHeartbeats 4000000
set_option pp.maxSteps 1500
namespace TL
open Go Go.Proofs
attribute [local simp] marksV storyV codeV Claim.v Place.v
def inR (n a b : Int) : Bool := decide (a ≤ n) && decide (n ≤ b)
theorem inR_true {n a b : Int} : inR n a b = true ↔ a ≤ n ∧ n ≤ b := by simp [inR]
theorem inR_false {n a b : Int} : inR n a b = false ↔ ¬ (a ≤ n ∧ n ≤ b) := by rw [← inR_true]; cases inR n a b <;> simp
theorem l1In_fn (n a b : Int) : FnZ Tryd.prog 53 [.int .i64 n, .int .i64 a, .int .i64 b] (.bool (inR n a b)) := by
  unfold inR
  refine FnZ_of (rs := [.tmp 6]) false Tryd.func53 rfl rfl rfl rfl (Nat.le_of_ble_eq_true rfl) ?_
  by_cases h : a ≤ n <;> simp -dsimp [h]
theorem termOk_eq (people : Int) (t : List Mark) : termOk people t = (peopleOk people && decide (marksRun people 0 t = some 1) && decide (t.length ≤ 15)) := by
  cases t with
  | nil => simp [termOk, marksRun]
  | cons x xs =>
    rw [Bool.eq_iff_iff]
    simp only [termOk, Bool.and_eq_true, decide_eq_true_eq, List.length_cons]
    constructor
    · rintro ⟨⟨⟨h1, h2⟩, h3⟩, h4⟩; exact ⟨⟨h1, h4⟩, h3⟩
    · rintro ⟨⟨h1, h4⟩, h3⟩; exact ⟨⟨⟨h1, by omega⟩, h3⟩, h4⟩
def TOS (people : Int) (t : List Mark) (a : Nat) (s : S) : Prop := ∃ (i parts : Nat), s.tm 0 = .v (.int .i64 people) ∧ s.tm 1 = .v (.sl (t.map Mark.v)) ∧ s.tm 6 = .v (.int .i64 i) ∧ s.tm 5 = .v (.int .i64 parts) ∧ i ≤ t.length ∧ parts ≤ i ∧
  marksRun people parts (t.drop i) = marksRun people 0 t ∧ (a = 1 → i = t.length)
theorem termOkS_fn (people : Int) (t : List Mark) (hf : fits t) (hl : t.length < 1000000000000) : FnZ Tryd.prog 105 [.int .i64 people, marksV t] (.bool (termOk people t)) := by
  rw [termOk_eq]
  refine FnZ_of (rs := [.tmp 4]) false Tryd.func105 rfl rfl rfl rfl (Nat.le_of_ble_eq_true rfl) ?_
  simp -dsimp
  refine twp_loopC (TOS people t 0) (fun s => t.length - natOf (s.tm 6)) (TOS people t 1) ?_ ?_ ?_
  · exact ⟨0, 0, by simp -dsimp, by simp -dsimp, by simp -dsimp, by simp -dsimp, by simp, by simp, by simp, by simp⟩
  · rintro s ⟨i, parts, h0, h1, h6, h5, hi, hpi, hrun, hend⟩
    by_cases hlt : i < t.length
    case neg =>
      simp -dsimp [h1, h6, hlt]
      exact ⟨i, parts, by simp -dsimp [h0], by simp -dsimp [h1], by simp -dsimp [h6], by simp -dsimp [h5], hi, hpi, hrun, fun _ => by omega⟩
    have hget : (t.map Mark.v)[i]? = some (.agg [.int .i64 t[i].kind, .int .i64 t[i].num]) := by simp [Mark.v, hlt]
    have hv : t[i].v = .agg [.int .i64 t[i].kind, .int .i64 t[i].num] := rfl
    have hfi := hf t[i] (List.getElem_mem _)
    have hfa := hfi.2
    unfold TL.fit at hfa
    have hstep := hrun
    rw [drop_cons hlt] at hstep
    simp only [marksRun] at hstep
    have wi : IntKind.wrap .i64 ((i : Int) + 1) = ((i + 1 : Nat) : Int) := by rw [w64 (by omega) (by omega)]; omega
    have wp : IntKind.wrap .i64 ((parts : Int) + 1) = ((parts + 1 : Nat) : Int) := by rw [w64 (by omega) (by omega)]; omega
    have wq : 2 ≤ parts → IntKind.wrap .i64 ((parts : Int) - 1) = ((parts - 1 : Nat) : Int) := fun h => by rw [w64 (by omega) (by omega)]; omega
    have hmu : t.length - (i + 1) < t.length - i := by omega
    have bad : markStep people parts t[i] = none → marksRun people 0 t = none := fun hs => by rw [hs] at hstep; exact hstep.symm
    by_cases k0 : t[i].kind = 0
    · by_cases a0 : 0 ≤ t[i].num ∧ t[i].num < people
      · have hs : markStep people parts t[i] = some (parts + 1) := by simp [markStep, k0, a0]
        rw [hs] at hstep
        simp -dsimp [h0, h1, h5, h6, hlt, hget, wi, wp, k0, a0.1, a0.2, hmu]
        exact ⟨i + 1, parts + 1, by simp -dsimp [h0], by simp -dsimp [h1], by simp -dsimp, by simp -dsimp [h5], by omega, by omega, hstep, by simp⟩
      · have hn := bad (by simp only [markStep, k0, if_neg a0, if_true])
        by_cases a1 : 0 ≤ t[i].num
        · have a2 : ¬ t[i].num < people := by omega
          simp -dsimp [h0, h1, h5, h6, hlt, hget, wi, wp, k0, a1, a2]
          refine call_ (l1In_fn _ _ _) (by simp -dsimp <;> exact ⟨rfl, rfl, rfl⟩) ?_
          simp -dsimp [k0, hn, show inR 0 3 5 = false from rfl]
        · simp -dsimp [h0, h1, h5, h6, hlt, hget, wi, wp, k0, a1]
          refine call_ (l1In_fn _ _ _) (by simp -dsimp <;> exact ⟨rfl, rfl, rfl⟩) ?_
          simp -dsimp [k0, hn, show inR 0 3 5 = false from rfl]
    by_cases k1 : t[i].kind = 1
    · have w1 : IntKind.wrap .i64 (t[i].num - 1) = if 0 ≤ t[i].num then t[i].num - 1 else IntKind.wrap .i64 (t[i].num - 1) := by
        split
        · exact w64 (by omega) (by omega)
        · rfl
      by_cases a0 : 0 ≤ t[i].num ∧ t[i].num ≤ people + 1
      · have hs : markStep people parts t[i] = some (parts + 1) := by simp [markStep, k1, a0]
        rw [hs] at hstep
        have w2 : IntKind.wrap .i64 (t[i].num - 1) = t[i].num - 1 := w64 (by omega) (by omega)
        by_cases a1 : t[i].num ≤ people
        · simp -dsimp [h0, h1, h5, h6, hlt, hget, wi, wp, k1, a0.1, a1, hmu]
          exact ⟨i + 1, parts + 1, by simp -dsimp [h0], by simp -dsimp [h1], by simp -dsimp, by simp -dsimp [h5], by omega, by omega, hstep, by simp⟩
        · have a2 : t[i].num - 1 = people := by omega
          simp -dsimp [h0, h1, h5, h6, hlt, hget, wi, wp, k1, a0.1, show ¬ t[i].num ≤ people from a1, w2.trans a2, hmu]
          exact ⟨i + 1, parts + 1, by simp -dsimp [h0], by simp -dsimp [h1], by simp -dsimp, by simp -dsimp [h5], by omega, by omega, hstep, by simp⟩
      · have hn := bad (by simp only [markStep, k1, if_neg a0, if_true]; simp)
        by_cases a1 : 0 ≤ t[i].num
        · have a2 : ¬ t[i].num ≤ people := by omega
          have a3 : ¬ t[i].num - 1 = people := by omega
          have w2 : IntKind.wrap .i64 (t[i].num - 1) = t[i].num - 1 := w64 (by omega) (by omega)
          simp -dsimp [h0, h1, h5, h6, hlt, hget, wi, wp, k1, a1, a2, w2, a3]
          refine call_ (l1In_fn _ _ _) (by simp -dsimp <;> exact ⟨rfl, rfl, rfl⟩) ?_
          simp -dsimp [k1, hn, show inR 1 3 5 = false from rfl]
        · simp -dsimp [h0, h1, h5, h6, hlt, hget, wi, wp, k1, a1]
          refine call_ (l1In_fn _ _ _) (by simp -dsimp <;> exact ⟨rfl, rfl, rfl⟩) ?_
          simp -dsimp [k1, hn, show inR 1 3 5 = false from rfl]
    by_cases k2 : t[i].kind = 2
    · by_cases a0 : t[i].num = 0 ∧ 1 ≤ parts
      · have hs : markStep people parts t[i] = some parts := by simp [markStep, k2, a0]
        rw [hs] at hstep
        have e1 : (1 : Int) ≤ parts := by omega
        simp -dsimp [h0, h1, h5, h6, hlt, hget, wi, wp, hv, k2, a0.1, e1, hmu]
        exact ⟨i + 1, parts, by simp -dsimp [h0], by simp -dsimp [h1], by simp -dsimp, by simp -dsimp [h5], by omega, by omega, hstep, by simp⟩
      · have hn := bad (by simp only [markStep, k2, if_neg a0, if_true]; simp)
        by_cases a1 : t[i].num = 0
        · have e1 : ¬ (1 : Int) ≤ parts := by omega
          simp -dsimp [h0, h1, h5, h6, hlt, hget, wi, wp, hv, k2, a1, e1]
          refine call_ (l1In_fn _ _ _) (by simp -dsimp <;> exact ⟨rfl, rfl, rfl⟩) ?_
          simp -dsimp [k2, hn, show inR 2 3 5 = false from rfl]
        · simp -dsimp [h0, h1, h5, h6, hlt, hget, wi, wp, hv, k2, a1]
          refine call_ (l1In_fn _ _ _) (by simp -dsimp <;> exact ⟨rfl, rfl, rfl⟩) ?_
          simp -dsimp [k2, hn, show inR 2 3 5 = false from rfl]
    have hk2 : (decide (t[i].kind = 2)) = false := by simp [k2]
    by_cases k3 : t[i].kind = 3 ∨ t[i].kind = 4 ∨ t[i].kind = 5
    · have hin : inR t[i].kind 3 5 = true := inR_true.2 (by omega)
      by_cases a0 : t[i].num = 0 ∧ 2 ≤ parts
      · have hs : markStep people parts t[i] = some (parts - 1) := by simp [markStep, k0, k1, k2, k3, a0]
        rw [hs] at hstep
        have e1 : (2 : Int) ≤ parts := by omega
        have wq := wq a0.2
        simp -dsimp [h0, h1, h5, h6, hlt, hget, wi, wp, hv, k0, k1, k2]
        refine call_ (l1In_fn _ _ _) (by simp -dsimp <;> exact ⟨rfl, rfl, rfl⟩) ?_
        simp -dsimp [h0, h1, h5, h6, hlt, hget, wi, wp, hin, a0.1, e1, wq, hmu]
        exact ⟨i + 1, parts - 1, by simp -dsimp [h0], by simp -dsimp [h1], by simp -dsimp, by simp -dsimp [h5], by omega, by omega, hstep, by simp⟩
      · have hn := bad (by simp only [markStep, if_neg k0, if_neg k1, if_neg k2, if_pos k3, if_neg a0])
        simp -dsimp [h0, h1, h5, h6, hlt, hget, wi, wp, hv, k0, k1, k2]
        refine call_ (l1In_fn _ _ _) (by simp -dsimp <;> exact ⟨rfl, rfl, rfl⟩) ?_
        by_cases a1 : t[i].num = 0
        · have e1 : ¬ (2 : Int) ≤ parts := by omega
          simp -dsimp [h0, h1, h5, h6, hlt, hget, wi, wp, hin, a1, e1, hn]
        · simp -dsimp [h0, h1, h5, h6, hlt, hget, wi, wp, hin, a1, hn]
    · have hn := bad (by simp only [markStep, if_neg k0, if_neg k1, if_neg k2, if_neg k3])
      have hin : inR t[i].kind 3 5 = false := inR_false.2 (by omega)
      simp -dsimp [h0, h1, h5, h6, hlt, hget, wi, wp, hv, k0, k1, k2]
      refine call_ (l1In_fn _ _ _) (by simp -dsimp <;> exact ⟨rfl, rfl, rfl⟩) ?_
      simp -dsimp [hin, hn]
  · rintro s ⟨i, parts, h0, h1, h6, h5, hi, hpi, hrun, hend⟩
    have := hend rfl
    subst this
    simp [marksRun] at hrun
    simp -dsimp [h0]
    refine call_ (l1In_fn _ _ _) (by simp -dsimp <;> exact ⟨rfl, rfl, rfl⟩) ?_
    have hpk : inR people 1 4 = peopleOk people := rfl
    have hk := ft (peopleOk people)
    rcases hk with hk | hk
    · simp -dsimp [hpk, hk, ← hrun]
    · by_cases e1 : parts = 1
      · have e2 : (parts : Int) = 1 := by omega
        simp -dsimp [h1, h5, e1, hpk, hk, ← hrun]; omega
      · have e2 : ¬ (parts : Int) = 1 := by omega
        simp -dsimp [h1, h5, e1, e2, hpk, hk, ← hrun]
end TL
