/- Drawn claims and places. -/
import Derived.Test.YtcoapdapigpfgaaFns3
set_option linter.unusedSimpArgs false
set_option linter.unusedVariables false
set_option maxRecDepth 100000
set_option maxHeartbeats 4000000
set_option pp.maxSteps 1500
namespace TL
open Go Go.Proofs
theorem mapO_mkT (k : Bool) (m : Mem) (d : Nat) (l : List Mark) : mapO (bor k m d) (mkT l) = some (l.flatMap fun x => [V.int .i64 x.kind, V.int .i64 x.num]) := by
  induction l with
  | nil => rfl
  | cons x xs ih => simp [mkT, mapO, ih]
theorem chunk_marks (l : List Mark) : chunk 2 l.length (l.flatMap fun x => [V.int .i64 x.kind, V.int .i64 x.num]) = l.map Mark.v := by
  induction l with
  | nil => rfl
  | cons x xs ih => simp [chunk, ih, Mark.v]
theorem bor_marks {m : Mem} {i e : Nat} {ms : List Mark} (d : Nat) (h : m i = some (.box e 2 (mkT ms))) : bor true m (d + 1) (.sv i 0 ms.length) = some (marksV ms) := by
  unfold bor
  simp -dsimp [h, mapO_mkT, marksV, chunk_marks]
  rw [tst_pos]
  · rw [chunk_marks]
  · intro x hx
    obtain ⟨y, _, hy⟩ := List.mem_flatMap.1 hx
    simp at hy; rcases hy with rfl | rfl <;> rfl
/-- What a drawing function leaves. -/
def DrawPost (R : V → Prop) (K : Nat) (m0 : Mem) (n0 rid : Nat) (bs : List UInt8) (p : Nat) (t : T) (m' : Mem) (n' : Nat) : Prop := n0 ≤ n' ∧ (∃ x, bor true (upper n0 m') 4 t = some x ∧ R x) ∧
  (∀ j, j < n0 → j ≠ rid → m' j = m0 j) ∧ ∃ p', p ≤ p' ∧ p' ≤ p + K ∧ m' rid = some (rdB bs p')
/-- A drawing function's contract: some value of a kind. -/
def Draws (R : V → Prop) (K : Nat) (m : Mem) (n rid : Nat) (bs : List UInt8) (p : Nat) (t : T) (m' : Mem) (n' : Nat) : Prop := n ≤ n' ∧ (∃ x, R x ∧ t = .v x) ∧ RdTo K m rid bs p m'
theorem Draws_of {f : Nat} {args : List T} {R : V → Prop} {K : Nat} {m : Mem} {n rid : Nat} {bs : List UInt8} {p : Nat} (hr : rid < n) (hf : ∃ fn, Try.prog.funcs[f]? = some fn ∧ (fn.name == "runtime.NumGoroutine") = false ∧ fn.body.isNone = false)
    (h : (∀ j, n ≤ j → m j = none) → FnS Try.prog f m n args (DrawPost R K m n rid bs p)) : FnS Try.prog f m n args (Draws R K m n rid bs p) := by
  refine FnS_fresh hf fun hfr => ?_
  refine (h hfr).frz ?_
  rintro t m' n' ⟨hn, ⟨x, hx, hR⟩, hout, p', hp1, hp2, hrd⟩
  refine ⟨x, updM m rid (some (rdB bs p')), upper n m', ?_, ?_, ?_, hx, hn, ⟨x, hR, rfl⟩, p', hp1, hp2, rfl⟩
  · intro j b hb
    by_cases hj : j = rid
    · subst hj; simp at hb; rw [hrd, hb]
    · rw [updM_ne _ _ hj] at hb
      have : j < n := by
        by_cases h : j < n
        · exact h
        · rw [hfr j (by omega)] at hb; cases hb
      rw [hout j this hj, hb]
  · intro j b hb
    by_cases h : n ≤ j
    · simpa [h] using hb
    · simp [h] at hb
  · intro j
    by_cases h : n ≤ j
    · left; rw [updM_ne _ _ (by omega), hfr j h]
    · right; simp [h]
/-- A drawn term: pure. -/
def SomeTerm (x : V) : Prop := ∃ ms : List Mark, ms.length ≤ 20 ∧ fits ms ∧ x = marksV ms
theorem term_z (bs : List UInt8) (p : Nat) (hp : p < 900000000) (people k : Int) (hk : k < 1000000) (m : Mem) (n rid : Nat) (hr : rid < n) (hm : m rid = some (rdB bs p)) :
    FnS Try.prog 61 m n [.ptr rid 0, .v (.int .i64 people), .v (.int .i64 k)] (Draws SomeTerm 40 m n rid bs p) := by
  refine Draws_of hr ⟨_, Try.func61, rfl, rfl⟩ fun hfr => (term_at bs p hp people k hk m n rid hr hm).weak ?_
  rintro t m' n' ⟨hn, i, ms, rfl, hi, hi', hrow, hl, hfit, hout, p', hp1, hp2, hrd⟩
  exact ⟨hn, ⟨marksV ms, bor_marks (e := 67) 3 (by simp [hi, hrow]), ms, hl, hfit, rfl⟩, hout, p', hp1, hp2, hrd⟩
/-- A drawn claim. -/
def SomeClaim (x : V) : Prop := ∃ c : Claim, c.says.length ≤ 20 ∧ c.fit ∧ x = c.v
theorem claim_z (bs : List UInt8) (p : Nat) (hp : p < 800000000) (people k : Int) (hpe : people < 1000000) (hk0 : 0 ≤ k) (hk : k < 100000) (m : Mem) (n rid : Nat) (hr : rid < n) (hm : m rid = some (rdB bs p)) :
    FnS Try.prog 41 m n [.ptr rid 0, .v (.int .i64 people), .v (.int .i64 k)] (Draws SomeClaim 50 m n rid bs p) := by
  refine Draws_of hr ⟨_, Try.func41, rfl, rfl⟩ fun hfr => ?_
  refine FnS_of (rs := [.cell 6 25]) false Try.func41 rfl rfl rfl rfl (Nat.le_of_ble_eq_true rfl) ?_
  have f1 := far hr
  have wk : IntKind.wrap .i64 (k * 2) = k * 2 := w64 (by omega) (by omega)
  simp -dsimp [wk]
  refine callS_ (pick_at bs p (by omega) _ _ _ rid (by simp [hm]; omega)) ?_
  rintro t m1 n1 ⟨hn1, ⟨r, rfl, hr0, hr1⟩, rfl⟩
  have hr1 := hr1 (by omega)
  simp -dsimp [wk]
  refine callS_ (term_z bs (p + 1) (by omega) _ _ (by omega) _ _ rid (by omega) (by simp)) ?_
  rintro t m2 n2 ⟨hn2, ⟨x, ⟨ms, hl, hfit, rfl⟩, rfl⟩, p2, hp1, hp2, rfl⟩
  have f2 := far (show rid < n2 by omega)
  have f3 := far (show n < n2 by omega)
  simp -dsimp [f1, f2, f3, marksV]
  refine callS_ (odd_at bs p2 (by omega) k (by omega) _ _ rid (by simp [f1, f2, f3])) ?_
  rintro t m3 n3 ⟨hn3, ⟨b, rfl, hb0⟩, p3, hp3, hp4, rfl⟩
  cases b with
  | false =>
    simp -dsimp [f1, f2, f3]
    refine ⟨by omega, ⟨_, by simp; rfl, ⟨r, ms⟩, hl, ⟨⟨by simp only; omega, by simp only; omega⟩, hfit⟩, rfl⟩, fun j j1 j2 => ?_, p3, by omega, by omega, by simp [f1]⟩
    simp [far j1, far (show j < n2 by omega), j2]
  | true => 
    have f4 := far (show n2 < n3 by omega)
    have f5 := far (show n < n3 by omega)
    have f6 := far (show rid < n3 by omega)
    simp -dsimp [f1, f2, f3, f4, f5, f6]
    refine callS_ (pick_at bs p3 (by omega) _ _ _ rid (by simp [f1, f2, f3, f4, f5, f6])) ?_
    rintro t m4 n4 ⟨hn4, ⟨r2, rfl, hr2, hr3⟩, rfl⟩
    have f7 := far (show n3 < n4 by omega)
    have hr4 : r2 = 0 ∨ r2 = 1 := by have := hr3 (by decide); omega
    rcases hr4 with rfl | rfl
    · simp -dsimp [f1, f2, f3, f4, f5, f6, f7]
      refine ⟨by omega, ⟨_, by simp; rfl, ⟨-1, ms⟩, hl, ⟨⟨by simp, by simp⟩, hfit⟩, rfl⟩, fun j j1 j2 => ?_, p3 + 1, by omega, by omega, by simp [f1, f2, f3, f4, f5, f6]⟩
      simp [far j1, far (show j < n2 by omega), far (show j < n3 by omega), j2]
    · simp -dsimp [f1, f2, f3, f4, f5, f6, f7]
      refine ⟨by omega, ⟨_, by simp; rfl, ⟨4, ms⟩, hl, ⟨⟨by simp, by simp⟩, hfit⟩, rfl⟩, fun j j1 j2 => ?_, p3 + 1, by omega, by omega, by simp [f1, f2, f3, f4, f5, f6]⟩
      simp [far j1, far (show j < n2 by omega), far (show j < n3 by omega), j2]
end TL
