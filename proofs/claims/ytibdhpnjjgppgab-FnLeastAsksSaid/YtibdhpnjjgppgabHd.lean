/- TL: parts Fns3, Fns4, Fns5, Fns6, Fns10, FnsB1, FnsB2, FnsB3, FnsB4, FnsB5, FnsB6, FnsA1, FnsA2, FnsA3, FnsA4, FnsA5. -/
import Derived.Test.YtibdhpnjjgppgabHc
/- A drawn term: some row of marks. -/
set_option linter.unusedSimpArgs false
set_option linter.unusedVariables false
set_option maxRecDepth 100000
set_option maxHeartbeats 4000000
set_option pp.maxSteps 1500
namespace TL
open Go Go.Proofs
/-- Marks as cells. -/
def mkT : List Mark → List T
  | [] => []
  | m :: ms => .v (.int .i64 m.kind) :: .v (.int .i64 m.num) :: mkT ms
@[simp] theorem mkT_nil : mkT [] = [] := rfl
theorem mkT_append (a b : List Mark) : mkT (a ++ b) = mkT a ++ mkT b := by
  induction a with
  | nil => rfl
  | cons x xs ih => simp [mkT, ih]
@[simp] theorem mkT_length (a : List Mark) : (mkT a).length = a.length * 2 := by
  induction a with
  | nil => rfl
  | cons x xs ih => simp [mkT, ih]; omega
@[simp] theorem mkT_take (a : List Mark) : (mkT a).take (a.length * 2) = mkT a := List.take_of_length_le (by simp)
@[simp] theorem mkT_cells (a : List Mark) : allC (mkT a) := by
  induction a with
  | nil => simp
  | cons x xs ih => simp [mkT]; exact ih
theorem mkT_one (k a : Int) : [T.v (.int .i64 k), T.v (.int .i64 a)] = mkT [⟨k, a⟩] := rfl
/-- Parts as cells of a row. -/
def partsT (l : List (Nat × List Mark)) : List T := l.map fun q => .sv q.1 0 q.2.length
@[simp] theorem partsT_length (a : List (Nat × List Mark)) : (partsT a).length = a.length := by simp [partsT]
@[simp] theorem partsT_take (a : List (Nat × List Mark)) : (partsT a).take a.length = partsT a := List.take_of_length_le (by simp)
@[simp] theorem partsT_cells (a : List (Nat × List Mark)) : allC (partsT a) := by
  intro x hx; simp only [partsT, List.mem_map] at hx; obtain ⟨q, _, rfl⟩ := hx; rfl
@[simp] theorem partsT_cells_take (a : List (Nat × List Mark)) (k : Nat) : allC ((partsT a).take k) := allC_take (partsT_cells a) k
@[simp] theorem partsT_cells_drop (a : List (Nat × List Mark)) (k : Nat) : allC ((partsT a).drop k) := allC_drop (partsT_cells a) k
def sumLen (l : List (Nat × List Mark)) : Nat := (l.map fun q => q.2.length).sum
theorem sumLen_one {l : List (Nat × List Mark)} (h : ∀ q ∈ l, q.2.length = 1) : sumLen l = l.length := by
  induction l with
  | nil => rfl
  | cons x xs ih =>
    have := ih fun q hq => h q (List.mem_cons_of_mem _ hq)
    have h1 := h x (List.mem_cons_self ..)
    simp only [sumLen, List.map_cons, List.sum_cons, List.length_cons] at this ⊢; omega
theorem sumLen_append (a b : List (Nat × List Mark)) : sumLen (a ++ b) = sumLen a + sumLen b := by simp [sumLen]
theorem sumLen_set {l : List (Nat × List Mark)} {i : Nat} {q x : Nat × List Mark} (h : l[i]? = some q) : sumLen (l.set i x) + q.2.length = sumLen l + x.2.length := by
  induction l generalizing i with
  | nil => cases h
  | cons y ys ih =>
    cases i with
    | zero => cases h; simp [sumLen]; omega
    | succ i => have := ih (i := i) (by simpa using h); simp only [sumLen, List.set_cons_succ, List.map_cons, List.sum_cons] at this ⊢; omega
theorem two_split {α : Type} {l : List α} {i : Nat} (h : i + 1 < l.length) : ∃ a b, l[i]? = some a ∧ l[i + 1]? = some b ∧ l = l.take i ++ [a, b] ++ l.drop (i + 2) := by
  refine ⟨l[i], l[i + 1], List.getElem?_eq_getElem _, List.getElem?_eq_getElem _, ?_⟩
  have h1 : l.drop i = l[i] :: l.drop (i + 1) := List.drop_eq_getElem_cons (by omega)
  have h2 : l.drop (i + 1) = l[i + 1] :: l.drop (i + 2) := List.drop_eq_getElem_cons (by omega)
  rw [List.append_assoc]
  conv => lhs; rw [← List.take_append_drop i l, h1, h2]
  rfl
theorem sumLen_mem {l : List (Nat × List Mark)} {q : Nat × List Mark} (h : q ∈ l) : q.2.length ≤ sumLen l := by
  induction l with
  | nil => cases h
  | cons y ys ih =>
    rcases List.mem_cons.1 h with rfl | h
    · simp [sumLen]
    · have := ih h; simp only [sumLen, List.map_cons, List.sum_cons] at this ⊢; omega
end TL

/- Drawn claims and places. -/
set_option linter.unusedSimpArgs false
set_option linter.unusedVariables false
set_option maxRecDepth 100000
set_option maxHeartbeats 4000000
set_option pp.maxSteps 1500
namespace TL
open Go Go.Proofs
theorem mapO_mkT (k : Bool) (m : Mem) (d : Nat) (l : List Mark) : mapO (bor k m d) (mkT l) = some (l.flatMap fun x => [V.int .i64 x.kind, V.int .i64 x.num]) := by
  induction l with
  | nil => rfl
  | cons x xs ih => simp [mkT, mapO, ih]
theorem chunk_marks (l : List Mark) : chunk 2 l.length (l.flatMap fun x => [V.int .i64 x.kind, V.int .i64 x.num]) = l.map Mark.v := by
  induction l with
  | nil => rfl
  | cons x xs ih => simp [chunk, ih, Mark.v]
theorem bor_marks {m : Mem} {i e : Nat} {ms : List Mark} (d : Nat) (h : m i = some (.box e 2 (mkT ms))) : bor true m (d + 1) (.sv i 0 ms.length) = some (marksV ms) := by
  unfold bor
  simp -dsimp [h, mapO_mkT, marksV, chunk_marks]
  rw [tst_pos]
  · rw [chunk_marks]
  · intro x hx
    obtain ⟨y, _, hy⟩ := List.mem_flatMap.1 hx
    simp at hy; rcases hy with rfl | rfl <;> rfl
/-- What a drawing function leaves. -/
def DrawPost (R : V → Prop) (K : Nat) (m0 : Mem) (n0 rid : Nat) (bs : List UInt8) (p : Nat) (t : T) (m' : Mem) (n' : Nat) : Prop := n0 ≤ n' ∧ (∃ x, bor true (upper n0 m') 4 t = some x ∧ R x) ∧
  (∀ j, j < n0 → j ≠ rid → m' j = m0 j) ∧ ∃ p', p ≤ p' ∧ p' ≤ p + K ∧ m' rid = some (rdB bs p')
/-- A drawing function's contract: some value of a kind. -/
def Draws (R : V → Prop) (K : Nat) (m : Mem) (n rid : Nat) (bs : List UInt8) (p : Nat) (t : T) (m' : Mem) (n' : Nat) : Prop := n ≤ n' ∧ (∃ x, R x ∧ t = .v x) ∧ RdTo K m rid bs p m'
theorem Draws_of {f : Nat} {args : List T} {R : V → Prop} {K : Nat} {m : Mem} {n rid : Nat} {bs : List UInt8} {p : Nat} (hr : rid < n) (hf : ∃ fn, Try.prog.funcs[f]? = some fn ∧ (fn.name == "runtime.NumGoroutine") = false ∧ fn.body.isNone = false)
    (h : (∀ j, n ≤ j → m j = none) → FnS Try.prog f m n args (DrawPost R K m n rid bs p)) : FnS Try.prog f m n args (Draws R K m n rid bs p) := by
  refine FnS_fresh hf fun hfr => ?_
  refine (h hfr).frz ?_
  rintro t m' n' ⟨hn, ⟨x, hx, hR⟩, hout, p', hp1, hp2, hrd⟩
  refine ⟨x, updM m rid (some (rdB bs p')), upper n m', ?_, ?_, ?_, hx, hn, ⟨x, hR, rfl⟩, p', hp1, hp2, rfl⟩
  · intro j b hb
    by_cases hj : j = rid
    · subst hj; simp at hb; rw [hrd, hb]
    · rw [updM_ne _ _ hj] at hb
      have : j < n := by
        by_cases h : j < n
        · exact h
        · rw [hfr j (by omega)] at hb; cases hb
      rw [hout j this hj, hb]
  · intro j b hb
    by_cases h : n ≤ j
    · simpa [h] using hb
    · simp [h] at hb
  · intro j
    by_cases h : n ≤ j
    · left; rw [updM_ne _ _ (by omega), hfr j h]
    · right; simp [h]
/-- A drawn term: pure. -/
def SomeTerm (x : V) : Prop := ∃ ms : List Mark, ms.length ≤ 20 ∧ fits ms ∧ x = marksV ms
/-- A drawn claim. -/
def SomeClaim (x : V) : Prop := ∃ c : Claim, c.says.length ≤ 20 ∧ c.fit ∧ x = c.v
end TL

/- Drawn places. -/
set_option linter.unusedSimpArgs false
set_option linter.unusedVariables false
set_option maxRecDepth 100000
set_option maxHeartbeats 4000000
set_option pp.maxSteps 1500
namespace TL
open Go Go.Proofs
def SomePlace (x : V) : Prop := ∃ q : Place, q.story.length ≤ 10 ∧ (∀ c ∈ q.story, c.says.length ≤ 20) ∧ q.fit ∧ x = q.v
theorem fitBad : Claim.fit ⟨4, [⟨0, 0⟩]⟩ := ⟨⟨by simp, by simp⟩, by simp [fits]; exact fit_mk (by omega) (by omega) (by omega) (by omega)⟩
theorem claim_cells (c : Claim) : c.v.cells = [.int .i64 c.who, marksV c.says] := rfl
end TL

/- Drawn arguments of the statements. -/
set_option linter.unusedSimpArgs false
set_option linter.unusedVariables false
set_option maxRecDepth 100000
set_option maxHeartbeats 4000000
set_option pp.maxSteps 1500
namespace TL
open Go Go.Proofs
/-- What a function that draws from a code leaves: some value of a kind. -/
def Drawn (R : V → Prop) (m : Mem) (n : Nat) (t : T) (m' : Mem) (n' : Nat) : Prop := n ≤ n' ∧ (∃ x, R x ∧ t = .v x) ∧ m' = m
def DrawnPost (R : V → Prop) (m0 : Mem) (n0 : Nat) (t : T) (m' : Mem) (n' : Nat) : Prop := n0 ≤ n' ∧ (∃ x, bor true (upper n0 m') 4 t = some x ∧ R x) ∧ ∀ j, j < n0 → m' j = m0 j
theorem Drawn_of {f : Nat} {args : List T} {R : V → Prop} {m : Mem} {n : Nat} (hf : ∃ fn, Try.prog.funcs[f]? = some fn ∧ (fn.name == "runtime.NumGoroutine") = false ∧ fn.body.isNone = false)
    (h : (∀ j, n ≤ j → m j = none) → FnS Try.prog f m n args (DrawnPost R m n)) : FnS Try.prog f m n args (Drawn R m n) := by
  refine FnS_fresh hf fun hfr => ?_
  refine (h hfr).frz ?_
  rintro t m' n' ⟨hn, ⟨x, hx, hR⟩, hout⟩
  refine ⟨x, m, upper n m', ?_, ?_, ?_, hx, hn, ⟨x, hR, rfl⟩, rfl⟩
  · intro j b hb
    by_cases h : j < n
    · rw [hout j h, hb]
    · rw [hfr j (by omega)] at hb; cases hb
  · intro j b hb
    by_cases h : n ≤ j
    · simpa [h] using hb
    · simp [h] at hb
  · intro j
    by_cases h : n ≤ j
    · left; exact hfr j h
    · right; simp [h]
theorem open_at (bs : List UInt8) (m : Mem) (n : Nat) : FnS Try.prog 13 m n [.v (codeV bs)] (fun t m' n' => t = .ptr n 0 ∧ n' = n + 1 ∧ m' = updM m n (some (rdB (bs.take 2000) 0))) := open_fn bs m n
end TL

/- The law of places. -/
set_option linter.unusedSimpArgs false
set_option linter.unusedVariables false
set_option maxRecDepth 100000
set_option maxHeartbeats 4000000
set_option pp.maxSteps 1500
namespace TL
open Go Go.Proofs
attribute [local simp] marksV storyV codeV Claim.v Place.v
def worldOk (people w : Int) : Bool := peopleOk people && decide (0 ≤ w) && decide (w < 2 ^ people.toNat)
theorem worldOk_fn (people w : Int) : FnZ Try.prog 18 [.int .i64 people, .int .i64 w] (.bool (worldOk people w)) := by
  have hk := ft (peopleOk people)
  rcases hk with hk | hk
  · refine FnZ_of (rs := [.tmp 4]) false Try.func18 rfl rfl rfl rfl (Nat.le_of_ble_eq_true rfl) ?_
    simp -dsimp
    refine call_ (peopleOk_at people) (by simp -dsimp) ?_
    simp -dsimp [hk, worldOk]
  · by_cases h1 : 0 ≤ w
    · have h2 : people = 1 ∨ people = 2 ∨ people = 3 ∨ people = 4 := by simp [peopleOk] at hk; omega
      rcases h2 with rfl | rfl | rfl | rfl
      all_goals
        refine FnZ_of (rs := [.tmp 4]) false Try.func18 rfl rfl rfl rfl (Nat.le_of_ble_eq_true rfl) ?_
        simp -dsimp
        refine call_ (peopleOk_at _) (by simp -dsimp <;> rfl) ?_
        simp -dsimp [hk, worldOk, h1]
        rfl
    · refine FnZ_of (rs := [.tmp 4]) false Try.func18 rfl rfl rfl rfl (Nat.le_of_ble_eq_true rfl) ?_
      simp -dsimp
      refine call_ (peopleOk_at people) (by simp -dsimp) ?_
      simp -dsimp [hk, worldOk, h1]
theorem alive_fn : FnZ Try.prog 8 [] (.bool true) := by
  refine FnZ_of (rs := [.tmp 0]) false Try.func8 rfl rfl rfl rfl (Nat.le_of_ble_eq_true rfl) ?_
  have e1 : worldOk 1 1 = true := by decide
  have e2 : worldOk 1 2 = false := by decide
  simp -dsimp
  refine call_ (worldOk_fn 1 1) (by simp -dsimp) ?_
  simp -dsimp [e1]
  refine call_ (worldOk_fn 1 2) (by simp -dsimp) ?_
  simp -dsimp [e2]
theorem markStep_mono {people : Int} {parts q : Nat} {m : Mark} (h : markStep people parts m = some q) : markStep (people + 1) parts m = some q := by
  unfold markStep at h ⊢
  repeat' split at h
  all_goals first
    | (cases h; done)
    | (simp_all; omega)
    | simp_all
theorem marksRun_mono {people : Int} : ∀ (ms : List Mark) (parts : Nat) (q : Nat), marksRun people parts ms = some q → marksRun (people + 1) parts ms = some q
  | [], parts, q, h => h
  | m :: ms, parts, q, h => by
    simp only [marksRun] at h ⊢
    cases e : markStep people parts m with
    | none => rw [e] at h; cases h
    | some r =>
      rw [e] at h
      rw [markStep_mono e]
      exact marksRun_mono ms r q h
theorem termOk_mono {people : Int} {t : List Mark} (hp : people < 4) (h : termOk people t = true) : termOk (people + 1) t = true := by
  simp only [termOk, peopleOk, Bool.and_eq_true, decide_eq_true_eq] at h ⊢
  obtain ⟨⟨⟨⟨h1, h2⟩, h3⟩, h4⟩, h5⟩ := h
  exact ⟨⟨⟨⟨by omega, by omega⟩, h3⟩, h4⟩, marksRun_mono _ _ _ h5⟩
theorem claimOk_mono {people : Int} {c : Claim} (hp : people < 4) (h : claimOk people c = true) : claimOk (people + 1) c = true := by
  simp only [claimOk, peopleOk, Bool.and_eq_true, decide_eq_true_eq] at h ⊢
  obtain ⟨⟨⟨⟨⟨h1, h2⟩, h3⟩, h4⟩, h5⟩, h6⟩ := h
  exact ⟨⟨⟨⟨⟨by omega, by omega⟩, h3⟩, by omega⟩, termOk_mono hp h5⟩, h6⟩
theorem placeOk_mono {p : Place} (hp : p.people < 4) (h : placeOk p = true) : placeOk ⟨p.people + 1, p.story⟩ = true := by
  simp only [placeOk, storyOk, peopleOk, Bool.and_eq_true, decide_eq_true_eq, List.all_eq_true] at h ⊢
  obtain ⟨⟨h1, h2, h3⟩, h4⟩ := h
  exact ⟨⟨fun c hc => claimOk_mono hp (h1 c hc), by omega, by omega⟩, h4⟩
theorem placeOk_alone {p : Place} (h : placeOk p = true) : placeOk ⟨p.people, []⟩ = true := by
  simp only [placeOk, storyOk, peopleOk, Bool.and_eq_true, decide_eq_true_eq, List.all_eq_true] at h ⊢
  obtain ⟨⟨h1, h2, h3⟩, h4⟩ := h
  exact ⟨⟨by simp, by omega, by omega⟩, by simp⟩
end TL

/- Tables of worlds as numbers. -/
set_option linter.unusedSimpArgs false
set_option linter.unusedVariables false
set_option maxRecDepth 100000
set_option maxHeartbeats 4000000
set_option pp.maxSteps 1500
namespace TL
open Go Go.Proofs
attribute [local simp] marksV storyV codeV Claim.v Place.v
/-- The table of all worlds below n for which something holds. -/
def tabN : Nat → (Nat → Bool) → Nat
  | 0, _ => 0
  | n + 1, f => if f n then tabN n f ||| 2 ^ n else tabN n f
theorem tabN_lt (f : Nat → Bool) : ∀ n, tabN n f < 2 ^ n
  | 0 => by simp [tabN]
  | n + 1 => by
    have h := tabN_lt f n
    have h2 : 2 ^ n < 2 ^ (n + 1) := Nat.pow_lt_pow_right (by omega) (by omega)
    unfold tabN; split
    · exact Nat.or_lt_two_pow (by omega) h2
    · omega
theorem testBit_tabN (f : Nat → Bool) (i : Nat) : ∀ n, (tabN n f).testBit i = (decide (i < n) && f i)
  | 0 => by simp [tabN]
  | n + 1 => by
    have ih := testBit_tabN f i n
    unfold tabN
    split
    · rename_i hf
      rw [Nat.testBit_or, ih, Nat.testBit_two_pow]
      by_cases h : n = i
      · subst h; simp [hf]
      · have : (i < n + 1) ↔ (i < n) := by omega
        simp [h, this]
    · rename_i hf
      rw [ih]
      by_cases h : n = i
      · subst h; simp [hf]
      · have : (i < n + 1) ↔ (i < n) := by omega
        simp [this]
theorem and_nat {a b : Nat} (ha : a < 4611686018427387904) (hb : b < 4611686018427387904) : IntKind.wrap .i64 ((((a : Int) % 2 ^ IntKind.i64.bits).toNat &&& ((b : Int) % 2 ^ IntKind.i64.bits).toNat : Nat) : Int) = ((a &&& b : Nat) : Int) := by
  have e1 : ((a : Int) % 2 ^ IntKind.i64.bits).toNat = a := by simp only [IntKind.bits]; omega
  have e2 : ((b : Int) % 2 ^ IntKind.i64.bits).toNat = b := by simp only [IntKind.bits]; omega
  have h : a &&& b ≤ a := Nat.and_le_left
  rw [e1, e2, w64 (by omega) (by omega)]
theorem or_nat {a b : Nat} (ha : a < 4611686018427387904) (hb : b < 4611686018427387904) : IntKind.wrap .i64 ((((a : Int) % 2 ^ IntKind.i64.bits).toNat ||| ((b : Int) % 2 ^ IntKind.i64.bits).toNat : Nat) : Int) = ((a ||| b : Nat) : Int) := by
  have e1 : ((a : Int) % 2 ^ IntKind.i64.bits).toNat = a := by simp only [IntKind.bits]; omega
  have e2 : ((b : Int) % 2 ^ IntKind.i64.bits).toNat = b := by simp only [IntKind.bits]; omega
  have h : a ||| b < 2 ^ 62 := Nat.or_lt_two_pow (by omega) (by omega)
  rw [e1, e2, w64 (by omega) (by omega)]
theorem and_nn {a b : Nat} (ha : a < 4611686018427387904) (hb : b < 4611686018427387904) : IntKind.wrap .i64 ((a % 2 ^ IntKind.i64.bits &&& b % 2 ^ IntKind.i64.bits : Nat) : Int) = ((a &&& b : Nat) : Int) := by
  have e1 : a % 2 ^ IntKind.i64.bits = a := Nat.mod_eq_of_lt (by simp only [IntKind.bits]; omega)
  have e2 : b % 2 ^ IntKind.i64.bits = b := Nat.mod_eq_of_lt (by simp only [IntKind.bits]; omega)
  rw [e1, e2, w64 (by omega) (by have : a &&& b ≤ a := Nat.and_le_left; omega)]
theorem and_ni {a b : Nat} {x : Int} (hx : x = b) (ha : a < 4611686018427387904) (hb : b < 4611686018427387904) : IntKind.wrap .i64 ((a % 2 ^ IntKind.i64.bits &&& (x % 2 ^ IntKind.i64.bits).toNat : Nat) : Int) = ((a &&& b : Nat) : Int) := by
  subst hx
  have e2 : ((b : Int) % 2 ^ IntKind.i64.bits).toNat = b % 2 ^ IntKind.i64.bits := by simp only [IntKind.bits]; omega
  rw [e2, and_nn ha hb]
theorem or_nn {a b : Nat} (ha : a < 4611686018427387904) (hb : b < 4611686018427387904) : IntKind.wrap .i64 ((a % 2 ^ IntKind.i64.bits ||| b % 2 ^ IntKind.i64.bits : Nat) : Int) = ((a ||| b : Nat) : Int) := by
  have e1 : a % 2 ^ IntKind.i64.bits = a := Nat.mod_eq_of_lt (by simp only [IntKind.bits]; omega)
  have e2 : b % 2 ^ IntKind.i64.bits = b := Nat.mod_eq_of_lt (by simp only [IntKind.bits]; omega)
  rw [e1, e2, w64 (by omega) (by have : a ||| b < 2 ^ 62 := Nat.or_lt_two_pow (by omega) (by omega); omega)]
theorem or_ni {a b : Nat} {x : Int} (hx : x = b) (ha : a < 4611686018427387904) (hb : b < 4611686018427387904) : IntKind.wrap .i64 ((a % 2 ^ IntKind.i64.bits ||| (x % 2 ^ IntKind.i64.bits).toNat : Nat) : Int) = ((a ||| b : Nat) : Int) := by
  subst hx
  have e2 : ((b : Int) % 2 ^ IntKind.i64.bits).toNat = b % 2 ^ IntKind.i64.bits := by simp only [IntKind.bits]; omega
  rw [e2, or_nn ha hb]
def tableOk (people t : Int) : Bool := peopleOk people && decide (0 ≤ t) && decide (t < 2 ^ (2 ^ people.toNat))
theorem tableOk_fn (people t : Int) : FnZ Try.prog 14 [.int .i64 people, .int .i64 t] (.bool (tableOk people t)) := by
  have hk := ft (peopleOk people)
  rcases hk with hk | hk
  · refine FnZ_of (rs := [.tmp 4]) false Try.func14 rfl rfl rfl rfl (Nat.le_of_ble_eq_true rfl) ?_
    simp -dsimp
    refine call_ (peopleOk_at people) (by simp -dsimp) ?_
    simp -dsimp [hk, tableOk]
  · by_cases h1 : 0 ≤ t
    · have h2 : people = 1 ∨ people = 2 ∨ people = 3 ∨ people = 4 := by simp [peopleOk] at hk; omega
      rcases h2 with rfl | rfl | rfl | rfl
      all_goals
        refine FnZ_of (rs := [.tmp 4]) false Try.func14 rfl rfl rfl rfl (Nat.le_of_ble_eq_true rfl) ?_
        simp -dsimp
        refine call_ (peopleOk_at _) (by simp -dsimp <;> rfl) ?_
        simp -dsimp [hk, tableOk, h1, show IntKind.wrap .u64 (2 ^ min 1 IntKind.u64.bits) = 2 from rfl, show IntKind.wrap .u64 (2 ^ min 2 IntKind.u64.bits) = 4 from rfl, show IntKind.wrap .u64 (2 ^ min 3 IntKind.u64.bits) = 8 from rfl, show IntKind.wrap .u64 (2 ^ min 4 IntKind.u64.bits) = 16 from rfl, show IntKind.wrap .i64 (2 ^ min 2 IntKind.i64.bits) = 4 from rfl, show IntKind.wrap .i64 (2 ^ min 4 IntKind.i64.bits) = 16 from rfl, show IntKind.wrap .i64 (2 ^ min 8 IntKind.i64.bits) = 256 from rfl, show IntKind.wrap .i64 (2 ^ min 16 IntKind.i64.bits) = 65536 from rfl]
    · refine FnZ_of (rs := [.tmp 4]) false Try.func14 rfl rfl rfl rfl (Nat.le_of_ble_eq_true rfl) ?_
      simp -dsimp
      refine call_ (peopleOk_at people) (by simp -dsimp) ?_
      simp -dsimp [hk, tableOk, h1]
def Itb (N : Nat) (f : Nat) (cap : List V) (g : Nat → Bool) (e : Nat) (s : S) : Prop := ∃ w : Nat, s.tm 1 = .v (.fn f cap) ∧ s.tm 8 = .v (.int .i64 N) ∧ s.tm 9 = .v (.int .i64 w) ∧ s.tm 5 = .v (.int .i64 (tabN w g)) ∧ w ≤ N ∧ (e = 1 → w = N)
theorem tableBy_fn (p : Nat) (hp1 : 1 ≤ p) (hp4 : p ≤ 4) (f : Nat) (cap : List V) (g : Nat → Bool) (hg : ∀ w : Nat, w < 2 ^ p → FnZ Try.prog f (.int .i64 (w : Int) :: cap) (.bool (g w))) : FnZ Try.prog 21 [.int .i64 p, .fn f cap] (.int .i64 (tabN (2 ^ p) g)) := by
  have hN : 2 ^ p ≤ 16 := by
    have : p = 1 ∨ p = 2 ∨ p = 3 ∨ p = 4 := by omega
    rcases this with rfl | rfl | rfl | rfl <;> simp
  have ws : IntKind.wrap .i64 (2 ^ min p IntKind.i64.bits) = ((2 ^ p : Nat) : Int) := by
    have : p = 1 ∨ p = 2 ∨ p = 3 ∨ p = 4 := by omega
    rcases this with rfl | rfl | rfl | rfl <;> rfl
  generalize hNN : 2 ^ p = N at *
  refine FnZ_of (rs := [.tmp 4]) false Try.func21 rfl rfl rfl rfl (Nat.le_of_ble_eq_true rfl) ?_
  have hp0 : ¬ (p : Int) < 0 := by omega
  simp -dsimp [ws, hp0]
  refine twp_loopC (Itb N f cap g 0) (fun s => N - natOf (s.tm 9)) (Itb N f cap g 1) ?_ ?_ ?_
  · exact ⟨0, by simp -dsimp, by simp -dsimp, by simp -dsimp, by simp -dsimp [tabN], by omega, by simp⟩
  · rintro s ⟨w, t1, t8, t9, t5, hw, hend⟩
    by_cases hlt : w < N
    case neg =>
      simp -dsimp [t8, t9, hlt]
      exact ⟨w, by simp -dsimp [t1], by simp -dsimp [t8], by simp -dsimp [t9], by simp -dsimp [t5], hw, fun _ => by omega⟩
    have wi : IntKind.wrap .i64 ((w : Int) + 1) = ((w + 1 : Nat) : Int) := by rw [w64 (by omega) (by omega)]; omega
    have hmu : N - (w + 1) < N - w := by omega
    have hb := tabN_lt g w
    have hp : 2 ^ w ≤ 2 ^ 16 := Nat.pow_le_pow_right (by omega) (by omega)
    have h2 : (2 : Nat) ^ w < 4611686018427387904 := by omega
    have wsh : IntKind.wrap .i64 (2 ^ min w IntKind.i64.bits) = ((2 ^ w : Nat) : Int) := by
      rw [Nat.min_eq_left (by simp [IntKind.bits]; omega), w64]
      · simp
      · have : (0 : Int) ≤ 2 ^ w := Int.pow_nonneg (by omega)
        omega
      · have : ((2 ^ w : Nat) : Int) = (2 : Int) ^ w := by simp
        omega
    have hor := or_ni (a := tabN w g) (b := 2 ^ w) (x := (2 : Int) ^ w) (by simp) (by omega) h2
    simp -dsimp [t1, t8, t9, hlt]
    refine call_ (hg w hlt) (by simpa using mapO_pure _ _ (.int .i64 w :: cap)) ?_
    have hgw := ft (g w)
    rcases hgw with hgw | hgw
    · have ht : tabN (w + 1) g = tabN w g := by simp [tabN, hgw]
      simp -dsimp [hgw, t5, t9, wi, hmu]
      exact ⟨w + 1, by simp -dsimp [t1], by simp -dsimp [t8], by simp -dsimp, by simp -dsimp [t5, ht], by omega, by simp⟩
    · have ht : tabN (w + 1) g = tabN w g ||| 2 ^ w := by simp [tabN, hgw]
      simp -dsimp [hgw, t5, t9, wi, hmu, wsh, hor, show ¬ (w : Int) < 0 by omega]
      exact ⟨w + 1, by simp -dsimp [t1], by simp -dsimp [t8], by simp -dsimp, by simp -dsimp [ht], by omega, by simp⟩
  · rintro s ⟨w, t1, t8, t9, t5, hw, hend⟩
    have := hend rfl
    subst this
    simp -dsimp [t5]
end TL

/- Asked tables. -/
set_option linter.unusedSimpArgs false
set_option linter.unusedVariables false
set_option maxRecDepth 100000
set_option maxHeartbeats 4000000
set_option pp.maxSteps 1500
namespace TL
open Go Go.Proofs
attribute [local simp] marksV storyV codeV Claim.v Place.v
def sameKind (who whom : Nat) (yes : Bool) (w : Nat) : Bool := (w.testBit who == w.testBit whom) == yes
@[simp] theorem bor_ptr (m : Mem) (d id : Nat) : bor true m (d + 1) (.ptr id 0) = match m id with
    | some (.box _ _ cs) => obind (mapO (bor true m d) cs) fun xs => tst (∀ x ∈ xs, x.cell = true) (some (.ref xs))
    | _ => none := by
  conv => lhs; unfold bor
  simp only [if_true]
  cases m id with
  | none => rfl
  | some b => cases b <;> rfl
theorem shr_nat (w i : Nat) (hi : i < 60) : (w : Int).fdiv (2 ^ min i IntKind.i64.bits) = ((w / 2 ^ i : Nat) : Int) := by
  have e : min i IntKind.i64.bits = i := Nat.min_eq_left (by simp [IntKind.bits]; omega)
  have e2 : ((2 ^ i : Nat) : Int) = (2 : Int) ^ i := by simp
  rw [e, ← e2, Int.fdiv_eq_ediv_of_nonneg _ (Int.natCast_nonneg _)]
  rfl
theorem div_bit (w i : Nat) : w / 2 ^ i % 2 = if w.testBit i then 1 else 0 := by
  rw [Nat.testBit_eq_decide_div_mod_eq]
  have := Nat.mod_two_eq_zero_or_one (w / 2 ^ i)
  rcases this with h | h <;> simp [h]
theorem bit1 (w i : Nat) (hw : w < 4611686018427387904) (hi : i < 60) : IntKind.wrap .i64 ((((w : Int).fdiv (2 ^ min i IntKind.i64.bits) % 2 ^ IntKind.i64.bits).toNat &&& 1 % 2 ^ IntKind.i64.bits : Nat) : Int) = if w.testBit i then 1 else 0 := by
  rw [shr_nat w i hi]
  have h1 : w / 2 ^ i ≤ w := Nat.div_le_self _ _
  have e1 : (((w / 2 ^ i : Nat) : Int) % 2 ^ IntKind.i64.bits).toNat = w / 2 ^ i := by
    generalize w / 2 ^ i = q at *
    simp only [IntKind.bits]; omega
  have e2 : 1 % 2 ^ IntKind.i64.bits = 1 := by rfl
  rw [e1, e2, Nat.and_one_is_mod, div_bit]
  split <;> rfl
theorem bit2 (w i : Nat) (hi : i < 60) : ((w : Int).fdiv (2 ^ min i IntKind.i64.bits)).tmod 2 = if w.testBit i then 1 else 0 := by
  rw [shr_nat w i hi, Int.tmod_eq_emod_of_nonneg (Int.natCast_nonneg _)]
  have : ((w / 2 ^ i : Nat) : Int) % 2 = ((w / 2 ^ i % 2 : Nat) : Int) := by omega
  rw [this, div_bit]
  split <;> rfl
theorem asked1_fn (w who whom : Nat) (yes : Bool) (hw : w < 16) (h1 : who < 4) (h2 : whom < 4) : FnZ Try.prog 34 [.int .i64 w, .ref [.int .i64 who], .ref [.int .i64 whom], .ref [.bool yes]] (.bool (sameKind who whom yes w)) := by
  have z1 : ¬ (who : Int) < 0 := by omega
  have z2 : ¬ (whom : Int) < 0 := by omega
  refine FnZ_of (rs := [.tmp 5]) false Try.func34 rfl rfl rfl rfl (Nat.le_of_ble_eq_true rfl) ?_
  simp -dsimp
  refine twp_draw (List.range 12) [] (List.replicate 12 []) (List.replicate 12 []) (by kernel_rfl) (by kernel_rfl) (by kernel_rfl) (by kernel_rfl) ?_
  simp -dsimp [List.range_succ, z1, z2]
  rw [bit1 w who (by omega) (by omega), bit1 w whom (by omega) (by omega)]
  unfold sameKind
  cases w.testBit who <;> cases w.testBit whom <;> simp
/-- The table of the worlds in which one says of another one so. -/
def askMask (p who whom : Nat) (yes : Bool) : Nat := tabN (2 ^ p) (sameKind who whom yes)
def asked (people t who whom : Int) (yes : Bool) : Int :=
  if tableOk people t = true ∧ 0 ≤ who ∧ who < people ∧ 0 ≤ whom ∧ whom < people then ((t.toNat &&& askMask people.toNat who.toNat whom.toNat yes : Nat) : Int) else -1
theorem tableOk_spec {people t : Int} (h : tableOk people t = true) : ∃ p n : Nat, people = p ∧ t = n ∧ 1 ≤ p ∧ p ≤ 4 ∧ n < 2 ^ 2 ^ p := by
  simp only [tableOk, peopleOk, Bool.and_eq_true, decide_eq_true_eq] at h
  obtain ⟨⟨⟨h1, h2⟩, h3⟩, h4⟩ := h
  refine ⟨people.toNat, t.toNat, by omega, by omega, by omega, by omega, ?_⟩
  generalize people.toNat = p at *
  have e : ((2 ^ 2 ^ p : Nat) : Int) = (2 : Int) ^ 2 ^ p := by simp
  rw [← e] at h4; omega
theorem table_small {p n : Nat} (hp : p ≤ 4) (h : n < 2 ^ 2 ^ p) : n < 65536 := by
  have : 2 ^ p ≤ 2 ^ 4 := Nat.pow_le_pow_right (by omega) hp
  have : 2 ^ 2 ^ p ≤ 2 ^ 2 ^ 4 := Nat.pow_le_pow_right (by omega) this
  have : (2 : Nat) ^ 2 ^ 4 = 65536 := by decide
  omega
theorem asked_fn (people t who whom : Int) (yes : Bool) : FnZ Try.prog 29 [.int .i64 people, .int .i64 t, .int .i64 who, .int .i64 whom, .bool yes] (.int .i64 (asked people t who whom yes)) := by
  have hk := ft (tableOk people t)
  rcases hk with hk | hk
  · have e : asked people t who whom yes = -1 := by unfold asked; rw [if_neg (by simp [hk])]
    refine FnZ_of (rs := [.tmp 10]) false Try.func29 rfl rfl rfl rfl (Nat.le_of_ble_eq_true rfl) ?_
    simp -dsimp
    refine call_ (tableOk_fn people t) (by simp -dsimp) ?_
    simp -dsimp [hk, e]
  by_cases c1 : 0 ≤ who
  case neg =>
    have e : asked people t who whom yes = -1 := by unfold asked; rw [if_neg (by omega)]
    have c1' : who < 0 := by omega
    refine FnZ_of (rs := [.tmp 10]) false Try.func29 rfl rfl rfl rfl (Nat.le_of_ble_eq_true rfl) ?_
    simp -dsimp
    refine call_ (tableOk_fn people t) (by simp -dsimp) ?_
    simp -dsimp [hk, e, c1']
  have c1' : ¬ who < 0 := by omega
  by_cases c2 : who < people
  case neg =>
    have e : asked people t who whom yes = -1 := by unfold asked; rw [if_neg (by omega)]
    have c2' : people ≤ who := by omega
    refine FnZ_of (rs := [.tmp 10]) false Try.func29 rfl rfl rfl rfl (Nat.le_of_ble_eq_true rfl) ?_
    simp -dsimp
    refine call_ (tableOk_fn people t) (by simp -dsimp) ?_
    simp -dsimp [hk, e, c1', c2']
  have c2' : ¬ people ≤ who := by omega
  by_cases c3 : 0 ≤ whom
  case neg =>
    have e : asked people t who whom yes = -1 := by unfold asked; rw [if_neg (by omega)]
    have c3' : whom < 0 := by omega
    refine FnZ_of (rs := [.tmp 10]) false Try.func29 rfl rfl rfl rfl (Nat.le_of_ble_eq_true rfl) ?_
    simp -dsimp
    refine call_ (tableOk_fn people t) (by simp -dsimp) ?_
    simp -dsimp [hk, e, c1', c2', c3']
  have c3' : ¬ whom < 0 := by omega
  by_cases c4 : whom < people
  case neg =>
    have e : asked people t who whom yes = -1 := by unfold asked; rw [if_neg (by omega)]
    have c4' : people ≤ whom := by omega
    refine FnZ_of (rs := [.tmp 10]) false Try.func29 rfl rfl rfl rfl (Nat.le_of_ble_eq_true rfl) ?_
    simp -dsimp
    refine call_ (tableOk_fn people t) (by simp -dsimp) ?_
    simp -dsimp [hk, e, c1', c2', c3', c4']
  have c4' : ¬ people ≤ whom := by omega
  obtain ⟨p, n, rfl, rfl, hp1, hp4, hn⟩ := tableOk_spec hk
  obtain ⟨a, rfl⟩ := Int.eq_ofNat_of_zero_le c1
  obtain ⟨b, rfl⟩ := Int.eq_ofNat_of_zero_le c3
  have hN : 2 ^ p ≤ 2 ^ 4 := Nat.pow_le_pow_right (by omega) hp4
  have e : asked p n a b yes = ((n &&& askMask p a b yes : Nat) : Int) := by unfold asked; rw [if_pos (by exact ⟨hk, by omega, by omega, by omega, by omega⟩)]; rfl
  have hm : askMask p a b yes < 65536 := table_small hp4 (tabN_lt _ _)
  have hn' := table_small hp4 hn
  have hand := and_nn (a := n) (b := askMask p a b yes) (by omega) (by omega)
  unfold askMask at hand e
  refine FnZ_of (rs := [.tmp 10]) false Try.func29 rfl rfl rfl rfl (Nat.le_of_ble_eq_true rfl) ?_
  simp -dsimp
  refine call_ (tableOk_fn p n) (by simp -dsimp) ?_
  simp -dsimp [hk, c1', c2', c3', c4']
  refine callM_ (tableBy_fn p hp1 hp4 34 [.ref [.int .i64 a], .ref [.int .i64 b], .ref [.bool yes]] (sameKind a b yes) fun w hw => asked1_fn w a b yes (by omega) (by omega) (by omega)) (by simp -dsimp) rfl ?_
  simp -dsimp [hand, e]
end TL

/- Asked tables: the reference. -/
set_option linter.unusedSimpArgs false
set_option linter.unusedVariables false
set_option maxRecDepth 100000
set_option maxHeartbeats 4000000
set_option pp.maxSteps 1500
namespace TL
open Go Go.Proofs
attribute [local simp] marksV storyV codeV Claim.v Place.v
theorem tableOkS_fn (people t : Int) : FnZ Try.prog 7 [.int .i64 people, .int .i64 t] (.bool (tableOk people t)) := by
  have hpk : inR people 1 4 = peopleOk people := rfl
  have hk := ft (peopleOk people)
  rcases hk with hk | hk
  · refine FnZ_of (rs := [.tmp 4]) false Try.func7 rfl rfl rfl rfl (Nat.le_of_ble_eq_true rfl) ?_
    simp -dsimp
    refine call_ (l1In_fn people 1 4) (by simp -dsimp) ?_
    simp -dsimp [hk, hpk, tableOk]
  · have h2 : people = 1 ∨ people = 2 ∨ people = 3 ∨ people = 4 := by simp [peopleOk] at hk; omega
    rcases h2 with rfl | rfl | rfl | rfl
    · have e : inR t 0 3 = tableOk 1 t := by rw [Bool.eq_iff_iff, inR_true]; simp [tableOk, hk]; omega
      refine FnZ_of (rs := [.tmp 4]) false Try.func7 rfl rfl rfl rfl (Nat.le_of_ble_eq_true rfl) ?_
      simp -dsimp
      refine call_ (l1In_fn 1 1 4) (by simp -dsimp) ?_
      simp -dsimp [hk, hpk, show IntKind.wrap .u64 (2 ^ min 1 IntKind.u64.bits) = 2 from rfl, show IntKind.wrap .u64 (2 ^ min 2 IntKind.u64.bits) = 4 from rfl, show IntKind.wrap .u64 (2 ^ min 3 IntKind.u64.bits) = 8 from rfl, show IntKind.wrap .u64 (2 ^ min 4 IntKind.u64.bits) = 16 from rfl, show IntKind.wrap .i64 (2 ^ min 2 IntKind.i64.bits) = 4 from rfl, show IntKind.wrap .i64 (2 ^ min 4 IntKind.i64.bits) = 16 from rfl, show IntKind.wrap .i64 (2 ^ min 8 IntKind.i64.bits) = 256 from rfl, show IntKind.wrap .i64 (2 ^ min 16 IntKind.i64.bits) = 65536 from rfl, show IntKind.wrap .i64 3 = 3 from rfl]
      refine call_ (l1In_fn t 0 3) (by simp -dsimp) ?_
      simp -dsimp [e]
    · have e : inR t 0 15 = tableOk 2 t := by rw [Bool.eq_iff_iff, inR_true]; simp [tableOk, hk]; omega
      refine FnZ_of (rs := [.tmp 4]) false Try.func7 rfl rfl rfl rfl (Nat.le_of_ble_eq_true rfl) ?_
      simp -dsimp
      refine call_ (l1In_fn 2 1 4) (by simp -dsimp) ?_
      simp -dsimp [hk, hpk, show IntKind.wrap .u64 (2 ^ min 1 IntKind.u64.bits) = 2 from rfl, show IntKind.wrap .u64 (2 ^ min 2 IntKind.u64.bits) = 4 from rfl, show IntKind.wrap .u64 (2 ^ min 3 IntKind.u64.bits) = 8 from rfl, show IntKind.wrap .u64 (2 ^ min 4 IntKind.u64.bits) = 16 from rfl, show IntKind.wrap .i64 (2 ^ min 2 IntKind.i64.bits) = 4 from rfl, show IntKind.wrap .i64 (2 ^ min 4 IntKind.i64.bits) = 16 from rfl, show IntKind.wrap .i64 (2 ^ min 8 IntKind.i64.bits) = 256 from rfl, show IntKind.wrap .i64 (2 ^ min 16 IntKind.i64.bits) = 65536 from rfl, show IntKind.wrap .i64 15 = 15 from rfl]
      refine call_ (l1In_fn t 0 15) (by simp -dsimp) ?_
      simp -dsimp [e]
    · have e : inR t 0 255 = tableOk 3 t := by rw [Bool.eq_iff_iff, inR_true]; simp [tableOk, hk]; omega
      refine FnZ_of (rs := [.tmp 4]) false Try.func7 rfl rfl rfl rfl (Nat.le_of_ble_eq_true rfl) ?_
      simp -dsimp
      refine call_ (l1In_fn 3 1 4) (by simp -dsimp) ?_
      simp -dsimp [hk, hpk, show IntKind.wrap .u64 (2 ^ min 1 IntKind.u64.bits) = 2 from rfl, show IntKind.wrap .u64 (2 ^ min 2 IntKind.u64.bits) = 4 from rfl, show IntKind.wrap .u64 (2 ^ min 3 IntKind.u64.bits) = 8 from rfl, show IntKind.wrap .u64 (2 ^ min 4 IntKind.u64.bits) = 16 from rfl, show IntKind.wrap .i64 (2 ^ min 2 IntKind.i64.bits) = 4 from rfl, show IntKind.wrap .i64 (2 ^ min 4 IntKind.i64.bits) = 16 from rfl, show IntKind.wrap .i64 (2 ^ min 8 IntKind.i64.bits) = 256 from rfl, show IntKind.wrap .i64 (2 ^ min 16 IntKind.i64.bits) = 65536 from rfl, show IntKind.wrap .i64 255 = 255 from rfl]
      refine call_ (l1In_fn t 0 255) (by simp -dsimp) ?_
      simp -dsimp [e]
    · have e : inR t 0 65535 = tableOk 4 t := by rw [Bool.eq_iff_iff, inR_true]; simp [tableOk, hk]; omega
      refine FnZ_of (rs := [.tmp 4]) false Try.func7 rfl rfl rfl rfl (Nat.le_of_ble_eq_true rfl) ?_
      simp -dsimp
      refine call_ (l1In_fn 4 1 4) (by simp -dsimp) ?_
      simp -dsimp [hk, hpk, show IntKind.wrap .u64 (2 ^ min 1 IntKind.u64.bits) = 2 from rfl, show IntKind.wrap .u64 (2 ^ min 2 IntKind.u64.bits) = 4 from rfl, show IntKind.wrap .u64 (2 ^ min 3 IntKind.u64.bits) = 8 from rfl, show IntKind.wrap .u64 (2 ^ min 4 IntKind.u64.bits) = 16 from rfl, show IntKind.wrap .i64 (2 ^ min 2 IntKind.i64.bits) = 4 from rfl, show IntKind.wrap .i64 (2 ^ min 4 IntKind.i64.bits) = 16 from rfl, show IntKind.wrap .i64 (2 ^ min 8 IntKind.i64.bits) = 256 from rfl, show IntKind.wrap .i64 (2 ^ min 16 IntKind.i64.bits) = 65536 from rfl, show IntKind.wrap .i64 65535 = 65535 from rfl]
      refine call_ (l1In_fn t 0 65535) (by simp -dsimp) ?_
      simp -dsimp [e]
def Ia13 (N n who whom : Nat) (people : Int) (yes : Bool) (g : Nat → Bool) (e : Nat) (s : S) : Prop := ∃ w : Nat, s.tm 0 = .v (.int .i64 people) ∧ s.tm 1 = .v (.int .i64 n) ∧ s.tm 2 = .v (.int .i64 who) ∧ s.tm 3 = .v (.int .i64 whom) ∧ s.tm 4 = .v (.bool yes) ∧ s.tm 12 = .v (.int .i64 w) ∧ s.tm 11 = .v (.int .i64 (tabN w g)) ∧ w ≤ N ∧ (e = 1 → w = N)
theorem shl_fact {w : Nat} (h : w < 60) : IntKind.wrap .i64 (2 ^ min w IntKind.i64.bits) = (2 : Int) ^ w := by
  have h1 : (2 : Nat) ^ w ≤ 2 ^ 59 := Nat.pow_le_pow_right (by omega) (by omega)
  have e : ((2 ^ w : Nat) : Int) = (2 : Int) ^ w := by simp
  have h3 := Int.natCast_nonneg (2 ^ w)
  have h4 : ((2 ^ w : Nat) : Int) ≤ ((2 ^ 59 : Nat) : Int) := Int.ofNat_le.mpr h1
  rw [Nat.min_eq_left (by simp [IntKind.bits]; omega), ← e]
  generalize ((2 ^ w : Nat) : Int) = q at *
  rw [w64 (by omega) (by omega)]
theorem l13Asked_fn (p n who whom : Nat) (yes : Bool) (hp1 : 1 ≤ p) (hp4 : p ≤ 4) (hn : n < 65536) (h1 : who < 4) (h2 : whom < 4) :
    FnZ Try.prog 31 [.int .i64 p, .int .i64 n, .int .i64 who, .int .i64 whom, .bool yes] (.int .i64 (tabN (2 ^ p) fun w => n.testBit w && sameKind who whom yes w)) := by
  have hN : 2 ^ p ≤ 16 := by
    have : p = 1 ∨ p = 2 ∨ p = 3 ∨ p = 4 := by omega
    rcases this with rfl | rfl | rfl | rfl <;> simp
  have ws : IntKind.wrap .i64 (2 ^ min p IntKind.i64.bits) = ((2 ^ p : Nat) : Int) := by rw [shl_fact (by omega)]; simp
  generalize hg : (fun w => n.testBit w && sameKind who whom yes w) = g
  generalize hNN : 2 ^ p = N at *
  have hp0 : ¬ (p : Int) < 0 := by omega
  have z1 : ¬ (who : Int) < 0 := by omega
  have z2 : ¬ (whom : Int) < 0 := by omega
  refine FnZ_of (rs := [.tmp 10]) false Try.func31 rfl rfl rfl rfl (Nat.le_of_ble_eq_true rfl) ?_
  simp -dsimp
  refine twp_loopC (Ia13 N n who whom p yes g 0) (fun s => N - natOf (s.tm 12)) (Ia13 N n who whom p yes g 1) ?_ ?_ ?_
  · exact ⟨0, by simp -dsimp, by simp -dsimp, by simp -dsimp, by simp -dsimp, by simp -dsimp, by simp -dsimp, by simp -dsimp [tabN], by omega, by simp⟩
  · rintro s ⟨w, t0, t1, t2, t3, t4, t12, t11, hw, hend⟩
    by_cases hlt : w < N
    case neg =>
      simp -dsimp [t0, t12, hp0, ws, hlt]
      exact ⟨w, by simp -dsimp [t0], by simp -dsimp [t1], by simp -dsimp [t2], by simp -dsimp [t3], by simp -dsimp [t4], by simp -dsimp [t12], by simp -dsimp [t11], hw, fun _ => by omega⟩
    have wi : IntKind.wrap .i64 ((w : Int) + 1) = ((w + 1 : Nat) : Int) := by rw [w64 (by omega) (by omega)]; omega
    have hmu : N - (w + 1) < N - w := by omega
    have z3 : ¬ (w : Int) < 0 := by omega
    have b0 := bit2 n w (by omega)
    have b1 := bit2 w who (by omega)
    have b2 := bit2 w whom (by omega)
    have hb := tabN_lt g w
    have hp : 2 ^ w ≤ 2 ^ 16 := Nat.pow_le_pow_right (by omega) (by omega)
    have h2' : (2 : Nat) ^ w < 4611686018427387904 := by omega
    have wsh := shl_fact (w := w) (by omega)
    have hor := or_ni (a := tabN w g) (b := 2 ^ w) (x := (2 : Int) ^ w) (by simp) (by omega) h2'
    have hgw : g w = (n.testBit w && sameKind who whom yes w) := by rw [← hg]
    have fin : ∀ s' : S, s'.tm 0 = .v (.int .i64 p) → s'.tm 1 = .v (.int .i64 n) → s'.tm 2 = .v (.int .i64 who) → s'.tm 3 = .v (.int .i64 whom) → s'.tm 4 = .v (.bool yes) → s'.tm 12 = .v (.int .i64 (w + 1 : Nat)) → s'.tm 11 = .v (.int .i64 (tabN (w + 1) g)) → Ia13 N n who whom p yes g 0 s' := fun s' a b c d e f h => ⟨w + 1, a, b, c, d, e, f, h, by omega, by simp⟩
    have hno : g w = false → tabN (w + 1) g = tabN w g := fun h => by simp [tabN, h]
    have hyes : g w = true → tabN (w + 1) g = tabN w g ||| 2 ^ w := fun h => by simp [tabN, h]
    simp -dsimp [t0, t12, hp0, ws, hlt]
    refine twp_draw (List.range 18) [] (List.replicate 18 []) (List.replicate 18 []) (by kernel_rfl) (by kernel_rfl) (by kernel_rfl) (by kernel_rfl) ?_
    have c0 := ft (n.testBit w)
    rcases c0 with c0 | c0
    · rw [c0] at b0 hgw
      have hno := hno (by rw [hgw]; rfl)
      simp -dsimp [List.range_succ, t0, t1, t2, t3, t4, t12, z1, z2, z3, b0, wi, hmu]
      exact fin _ (by simp -dsimp [t0]) (by simp -dsimp [t1]) (by simp -dsimp [t2]) (by simp -dsimp [t3]) (by simp -dsimp [t4]) (by simp -dsimp) (by simp -dsimp [t11, hno])
    · rw [c0] at b0 hgw
      have hsk : sameKind who whom yes w = ((decide ((if w.testBit who = true then (1 : Int) else 0) = if w.testBit whom = true then 1 else 0)) == yes) := by
        unfold sameKind; cases w.testBit who <;> cases w.testBit whom <;> simp
      have c1 := ft (sameKind who whom yes w)
      rcases c1 with c1 | c1
      · have hno := hno (by rw [hgw, c1]; rfl)
        rw [hsk] at c1
        simp -dsimp [List.range_succ, t0, t1, t2, t3, t4, t12, z1, z2, z3, b0, b1, b2, c1, wi, hmu]
        exact fin _ (by simp -dsimp [t0]) (by simp -dsimp [t1]) (by simp -dsimp [t2]) (by simp -dsimp [t3]) (by simp -dsimp [t4]) (by simp -dsimp) (by simp -dsimp [t11, hno])
      · have hyes := hyes (by rw [hgw, c1]; rfl)
        rw [hsk] at c1
        simp -dsimp [List.range_succ, t0, t1, t2, t3, t4, t11, t12, z1, z2, z3, b0, b1, b2, c1, wi, hmu, wsh, hor]
        exact fin _ (by simp -dsimp [t0]) (by simp -dsimp [t1]) (by simp -dsimp [t2]) (by simp -dsimp [t3]) (by simp -dsimp [t4]) (by simp -dsimp) (by simp -dsimp [hyes])
  · rintro s ⟨w, t0, t1, t2, t3, t4, t12, t11, hw, hend⟩
    have := hend rfl
    subst this
    simp -dsimp [t11]
end TL

/- Majorities, turned tables, drawn tables. -/
set_option linter.unusedSimpArgs false
set_option linter.unusedVariables false
set_option maxRecDepth 100000
set_option maxHeartbeats 4000000
set_option pp.maxSteps 1500
namespace TL
open Go Go.Proofs
attribute [local simp] marksV storyV codeV Claim.v Place.v
/-- How many bits are set. -/
def cnt (n : Nat) : Nat := if h : n = 0 then 0 else n % 2 + cnt (n / 2)
theorem cnt_step {n : Nat} (h : 0 < n) : cnt n = n % 2 + cnt (n / 2) := by rw [cnt, dif_neg (by omega)]
theorem cnt_zero : cnt 0 = 0 := by rw [cnt]; rfl
def Ihd (w : Nat) (e : Nat) (s : S) : Prop := ∃ x q : Nat, s.tm 0 = .v (.int .i64 x) ∧ s.tm 3 = .v (.int .i64 q) ∧ q + cnt x = cnt w ∧ q + x ≤ w ∧ (e = 1 → x = 0)
theorem l1Heads_fn (w : Nat) (hw : w < 4611686018427387904) : FnZ Try.prog 33 [.int .i64 w] (.int .i64 (cnt w)) := by
  refine FnZ_of (rs := [.tmp 2]) false Try.func33 rfl rfl rfl rfl (Nat.le_of_ble_eq_true rfl) ?_
  simp -dsimp
  refine twp_loopC (Ihd w 0) (fun s => natOf (s.tm 0)) (Ihd w 1) ?_ ?_ ?_
  · exact ⟨w, 0, by simp -dsimp, by simp -dsimp, by omega, by omega, by simp⟩
  · rintro s ⟨x, q, t0, t3, hq, hx, hend⟩
    by_cases h0 : 0 < x
    case neg =>
      simp -dsimp [t0, h0]
      exact ⟨x, q, by simp -dsimp [t0], by simp -dsimp [t3], hq, hx, fun _ => by omega⟩
    have e1 : (x : Int).tmod 2 = ((x % 2 : Nat) : Int) := by rw [Int.tmod_eq_emod_of_nonneg (by omega)]; omega
    have e2 : (x : Int).tdiv 2 = ((x / 2 : Nat) : Int) := by rw [Int.tdiv_eq_ediv_of_nonneg (by omega)]; omega
    have hs := cnt_step h0
    generalize hr : x % 2 = r at *
    generalize hy : x / 2 = y at *
    have w1 : IntKind.wrap .i64 ((q : Int) + r) = ((q + r : Nat) : Int) := by rw [w64 (by omega) (by omega)]; omega
    have w2 : IntKind.wrap .i64 (y : Int) = (y : Int) := by rw [w64 (by omega) (by omega)]
    have hmu : y < x := by omega
    simp -dsimp [t0, t3, h0, e1, e2, w1, w2, hmu]
    exact ⟨y, q + r, by simp -dsimp, by simp -dsimp, by omega, by omega, by simp⟩
  · rintro s ⟨x, q, t0, t3, hq, hx, hend⟩
    have := hend rfl
    subst this
    rw [cnt_zero] at hq
    have : q = cnt w := by omega
    subst this
    simp -dsimp [t3]
def majOf (p : Nat) : Nat := tabN (2 ^ p) fun w => decide (p < 2 * cnt w)
def majority (people : Int) : Int := if peopleOk people then (majOf people.toNat : Int) else -1
theorem cnt_le (w : Nat) : cnt w ≤ w := by
  induction w using Nat.strongRecOn with
  | _ w ih =>
    by_cases h : 0 < w
    · rw [cnt_step h]; have := ih (w / 2) (by omega); omega
    · have : w = 0 := by omega
      subst this; rw [cnt_zero]; omega
theorem peopleOk_spec {people : Int} (h : peopleOk people = true) : ∃ p : Nat, people = p ∧ 1 ≤ p ∧ p ≤ 4 := by
  simp only [peopleOk, Bool.and_eq_true, decide_eq_true_eq] at h
  exact ⟨people.toNat, by omega, by omega, by omega⟩
def Imaj (N : Nat) (p : Nat) (g : Nat → Bool) (e : Nat) (s : S) : Prop := ∃ w : Nat, s.tm 0 = .v (.int .i64 p) ∧ s.tm 4 = .v (.int .i64 w) ∧ s.tm 3 = .v (.int .i64 (tabN w g)) ∧ w ≤ N ∧ (e = 1 → w = N)
theorem majority_fn (people : Int) : FnZ Try.prog 27 [.int .i64 people] (.int .i64 (majority people)) := by
  have hpk : inR people 1 4 = peopleOk people := rfl
  have hk := ft (peopleOk people)
  rcases hk with hk | hk
  · refine FnZ_of (rs := [.tmp 2]) false Try.func27 rfl rfl rfl rfl (Nat.le_of_ble_eq_true rfl) ?_
    simp -dsimp
    refine call_ (l1In_fn people 1 4) (by simp -dsimp) ?_
    simp -dsimp [hk, hpk, majority]
  obtain ⟨p, rfl, hp1, hp4⟩ := peopleOk_spec hk
  have hN : 2 ^ p ≤ 16 := by
    have : p = 1 ∨ p = 2 ∨ p = 3 ∨ p = 4 := by omega
    rcases this with rfl | rfl | rfl | rfl <;> simp
  have ws : IntKind.wrap .i64 (2 ^ min p IntKind.i64.bits) = ((2 ^ p : Nat) : Int) := by rw [shl_fact (by omega)]; simp
  have hp0 : ¬ (p : Int) < 0 := by omega
  have hmaj : majority p = (tabN (2 ^ p) (fun w => decide (p < 2 * cnt w)) : Nat) := by simp [majority, hk, majOf]
  rw [hmaj]
  generalize hg : (fun w => decide (p < 2 * cnt w)) = g
  generalize hNN : 2 ^ p = N at *
  refine FnZ_of (rs := [.tmp 2]) false Try.func27 rfl rfl rfl rfl (Nat.le_of_ble_eq_true rfl) ?_
  simp -dsimp
  refine call_ (l1In_fn p 1 4) (by simp -dsimp) ?_
  simp -dsimp [hk, hpk]
  refine twp_loopC (Imaj N p g 0) (fun s => N - natOf (s.tm 4)) (Imaj N p g 1) ?_ ?_ ?_
  · exact ⟨0, by simp -dsimp, by simp -dsimp, by simp -dsimp [tabN], by omega, by simp⟩
  · rintro s ⟨w, t0, t4, t3, hw, hend⟩
    by_cases hlt : w < N
    case neg =>
      simp -dsimp [t0, t4, hp0, ws, hlt]
      exact ⟨w, by simp -dsimp [t0], by simp -dsimp [t4], by simp -dsimp [t3], hw, fun _ => by omega⟩
    have hgw : g w = decide (p < 2 * cnt w) := by rw [← hg]
    have hc := cnt_le w
    have hh := l1Heads_fn w (by omega)
    generalize cnt w = c at *
    have wc : IntKind.wrap .i64 (2 * (c : Int)) = 2 * c := w64 (by omega) (by omega)
    have wi : IntKind.wrap .i64 ((w : Int) + 1) = ((w + 1 : Nat) : Int) := by rw [w64 (by omega) (by omega)]; omega
    have hmu : N - (w + 1) < N - w := by omega
    have z3 : ¬ (w : Int) < 0 := by omega
    have hb := tabN_lt g w
    have hp : 2 ^ w ≤ 2 ^ 16 := Nat.pow_le_pow_right (by omega) (by omega)
    have wsh := shl_fact (w := w) (by omega)
    have hor := or_ni (a := tabN w g) (b := 2 ^ w) (x := (2 : Int) ^ w) (by simp) (by omega) (by omega)
    simp -dsimp [t0, t4, hp0, ws, hlt]
    refine call_ hh (by simp -dsimp) ?_
    by_cases hcc : (p : Int) < 2 * c
    · have ht : tabN (w + 1) g = tabN w g ||| 2 ^ w := by
        have : g w = true := by rw [hgw]; simp; omega
        simp [tabN, this]
      simp -dsimp [t0, t3, t4, wc, hcc, wsh, hor, wi, z3, hmu]
      exact ⟨w + 1, by simp -dsimp [t0], by simp -dsimp, by simp -dsimp [ht], by omega, by simp⟩
    · have ht : tabN (w + 1) g = tabN w g := by
        have : g w = false := by rw [hgw]; simp; omega
        simp [tabN, this]
      simp -dsimp [t0, t3, t4, wc, hcc, wi, z3, hmu]
      exact ⟨w + 1, by simp -dsimp [t0], by simp -dsimp, by simp -dsimp [t3, ht], by omega, by simp⟩
  · rintro s ⟨w, t0, t4, t3, hw, hend⟩
    have := hend rfl
    subst this
    simp -dsimp [t3]
/-- The table in which everybody is the other way. -/
def turned (p n : Nat) : Nat := tabN (2 ^ p) fun j => n.testBit (2 ^ p - 1 - j)
def Itn (N n : Nat) (p : Nat) (e : Nat) (s : S) : Prop := ∃ w : Nat, s.tm 0 = .v (.int .i64 p) ∧ s.tm 1 = .v (.int .i64 n) ∧ s.tm 6 = .v (.int .i64 w) ∧ s.tm 5 = .v (.int .i64 (tabN N fun j => decide (N - 1 - j < w) && n.testBit (N - 1 - j))) ∧ w ≤ N ∧ (e = 1 → w = N)
theorem turn_step {N n w : Nat} (hw : w < N) : (tabN N fun j => decide (N - 1 - j < w + 1) && n.testBit (N - 1 - j)) = (tabN N fun j => decide (N - 1 - j < w) && n.testBit (N - 1 - j)) ||| ((if n.testBit w then 1 else 0) * 2 ^ (N - 1 - w)) := by
  apply Nat.eq_of_testBit_eq
  intro i
  rw [Nat.testBit_or, testBit_tabN, testBit_tabN]
  by_cases h1 : i < N
  · by_cases h2 : i = N - 1 - w
    · subst h2
      have e1 : N - 1 - (N - 1 - w) = w := by omega
      rw [e1]
      cases n.testBit w <;> simp [h1]
    · have e2 : (N - 1 - i < w + 1) ↔ (N - 1 - i < w) := by omega
      have e3 : ((if n.testBit w then 1 else 0) * 2 ^ (N - 1 - w)).testBit i = false := by
        cases n.testBit w
        · simp
        · simp [Nat.testBit_two_pow]; omega
      rw [e3]; simp [e2]
  · have e3 : ((if n.testBit w then 1 else 0) * 2 ^ (N - 1 - w)).testBit i = false := by
      cases n.testBit w
      · simp
      · simp [Nat.testBit_two_pow]; omega
    rw [e3]; simp [h1]
theorem l1Turned_fn (p n : Nat) (hp1 : 1 ≤ p) (hp4 : p ≤ 4) (hn : n < 65536) : FnZ Try.prog 28 [.int .i64 p, .int .i64 n] (.int .i64 (turned p n)) := by
  have hN : 2 ^ p ≤ 16 := by
    have : p = 1 ∨ p = 2 ∨ p = 3 ∨ p = 4 := by omega
    rcases this with rfl | rfl | rfl | rfl <;> simp
  have hN1 : 1 ≤ 2 ^ p := Nat.one_le_two_pow
  have ws : IntKind.wrap .i64 (2 ^ min p IntKind.i64.bits) = ((2 ^ p : Nat) : Int) := by rw [shl_fact (by omega)]; simp
  have hp0 : ¬ (p : Int) < 0 := by omega
  have htu : turned p n = (tabN (2 ^ p) fun j => decide (2 ^ p - 1 - j < 2 ^ p) && n.testBit (2 ^ p - 1 - j)) := by
    have : ∀ j, decide (2 ^ p - 1 - j < 2 ^ p) = true := fun j => by simp; omega
    unfold turned; simp only [this, Bool.true_and]
  rw [htu]
  generalize hNN : 2 ^ p = N at *
  have ws1 : IntKind.wrap .i64 ((N : Int) - 1) = ((N - 1 : Nat) : Int) := by rw [w64 (by omega) (by omega)]; omega
  refine FnZ_of (rs := [.tmp 4]) false Try.func28 rfl rfl rfl rfl (Nat.le_of_ble_eq_true rfl) ?_
  simp -dsimp
  refine twp_loopC (Itn N n p 0) (fun s => N - natOf (s.tm 6)) (Itn N n p 1) ?_ ?_ ?_
  · refine ⟨0, by simp -dsimp, by simp -dsimp, by simp -dsimp, ?_, by omega, by simp⟩
    have : tabN N (fun j => decide (N - 1 - j < 0) && n.testBit (N - 1 - j)) = 0 := by
      apply Nat.eq_of_testBit_eq; intro i; rw [testBit_tabN]; simp
    rw [this]; simp -dsimp
  · rintro s ⟨w, t0, t1, t6, t5, hw, hend⟩
    by_cases hlt : w < N
    case neg =>
      simp -dsimp [t0, t6, hp0, ws, hlt]
      exact ⟨w, by simp -dsimp [t0], by simp -dsimp [t1], by simp -dsimp [t6], by simp -dsimp [t5], hw, fun _ => by omega⟩
    have wi : IntKind.wrap .i64 ((w : Int) + 1) = ((w + 1 : Nat) : Int) := by rw [w64 (by omega) (by omega)]; omega
    have hmu : N - (w + 1) < N - w := by omega
    have z3 : ¬ (w : Int) < 0 := by omega
    have b0 := bit2 n w (by omega)
    have hst := turn_step (n := n) hlt
    have hb := tabN_lt (fun j => decide (N - 1 - j < w) && n.testBit (N - 1 - j)) N
    have hp : 2 ^ N ≤ 2 ^ 16 := Nat.pow_le_pow_right (by omega) hN
    generalize (tabN N fun j => decide (N - 1 - j < w) && n.testBit (N - 1 - j)) = q at *
    have hq' : ∀ s' : S, s'.tm 0 = .v (.int .i64 p) → s'.tm 1 = .v (.int .i64 n) → s'.tm 6 = .v (.int .i64 (w + 1 : Nat)) → s'.tm 5 = .v (.int .i64 ((tabN N fun j => decide (N - 1 - j < w + 1) && n.testBit (N - 1 - j)) : Nat)) → Itn N n p 0 s' := fun s' a b c d => ⟨w + 1, a, b, c, d, by omega, by simp⟩
    generalize (tabN N fun j => decide (N - 1 - j < w + 1) && n.testBit (N - 1 - j)) = q' at *
    generalize hdd : N - 1 - w = d at *
    generalize hNM : N - 1 = M at *
    have wd : IntKind.wrap .i64 ((M : Int) - w) = (d : Int) := by rw [w64 (by omega) (by omega)]; omega
    have zd : ¬ (d : Int) < 0 := by omega
    have hp2 : 2 ^ d ≤ 2 ^ 16 := Nat.pow_le_pow_right (by omega) (by omega)
    have wsh := shl_fact (w := d) (by omega)
    have c0 := ft (n.testBit w)
    rcases c0 with c0 | c0
    · rw [c0] at b0 hst
      have e00 : (IntKind.wrap .i64 0 % 2 ^ IntKind.i64.bits).toNat = 0 := rfl
      have hor : IntKind.wrap .i64 ((q % 2 ^ IntKind.i64.bits ||| (IntKind.wrap .i64 0 % 2 ^ IntKind.i64.bits).toNat : Nat) : Int) = q := by
        have e : q % 2 ^ IntKind.i64.bits = q := Nat.mod_eq_of_lt (by simp only [IntKind.bits]; omega)
        rw [e00, Nat.or_zero, e, w64 (by omega) (by omega)]
      simp at hst
      subst hst
      simp -dsimp [t0, t6, hp0, ws, hlt]
      refine twp_draw (List.range 13) [] (List.replicate 13 []) (List.replicate 13 []) (by kernel_rfl) (by kernel_rfl) (by kernel_rfl) (by kernel_rfl) ?_
      simp -dsimp [List.range_succ, t0, t1, t5, t6, hp0, z3, zd, ws, ws1, wd, b0, hor, wi, hmu]
      exact hq' _ (by simp -dsimp [t0]) (by simp -dsimp [t1]) (by simp -dsimp) (by simp -dsimp)
    · rw [c0] at b0 hst
      have hor := or_ni (a := q) (b := 2 ^ d) (x := (2 : Int) ^ d) (by simp) (by omega) (by omega)
      simp at hst
      subst hst
      simp -dsimp [t0, t6, hp0, ws, hlt]
      refine twp_draw (List.range 13) [] (List.replicate 13 []) (List.replicate 13 []) (by kernel_rfl) (by kernel_rfl) (by kernel_rfl) (by kernel_rfl) ?_
      simp -dsimp [List.range_succ, t0, t1, t5, t6, hp0, z3, zd, ws, ws1, wd, wsh, b0, hor, wi, hmu]
      exact hq' _ (by simp -dsimp [t0]) (by simp -dsimp [t1]) (by simp -dsimp) (by simp -dsimp)
  · rintro s ⟨w, t0, t1, t6, t5, hw, hend⟩
    have := hend rfl
    subst this
    simp -dsimp [t5]
theorem l1Turned_at (a b : Int) (hk : tableOk a b = true) : FnZ Try.prog 28 [.int .i64 a, .int .i64 b] (.int .i64 (turned a.toNat b.toNat)) := by
  obtain ⟨pp, nn, rfl, rfl, h1, h4, hnn⟩ := tableOk_spec hk
  exact l1Turned_fn pp nn h1 h4 (table_small h4 hnn)
/-- Two numbers. -/
def SomeTwo (x : V) : Prop := ∃ a b : Int, x = .tup [.int .i64 a, .int .i64 b]
def Itb20 (bs : List UInt8) (p rid n0 : Nat) (m0 : Mem) (N : Nat) (thin : Int) (e : Nat) (s : S) : Prop := ∃ (w p' q : Nat) (x : Int), s.tm 0 = .ptr rid 0 ∧ s.tm 4 = .v (.int .i64 q) ∧ s.tm 5 = .v (.int .i64 x) ∧ s.tm 6 = .v (.int .i64 thin) ∧ s.tm 7 = .v (.int .i64 w) ∧ w ≤ N ∧ 1 ≤ q ∧ q ≤ 4 ∧ 2 ^ q = N ∧
  p ≤ p' ∧ p' ≤ p + w ∧ n0 ≤ s.n ∧ s.m = updM m0 rid (some (rdB bs p')) ∧ (e = 1 → w = N)
theorem l20Table_z (bs : List UInt8) (p : Nat) (hp : p < 700000000) (m : Mem) (n rid : Nat) (hr : rid < n) (hm : m rid = some (rdB bs p)) :
    FnS Try.prog 25 m n [.ptr rid 0] (Draws SomeTwo 30 m n rid bs p) := by
  refine Draws_of hr ⟨_, Try.func25, rfl, rfl⟩ fun hfr => ?_
  refine FnS_of (rs := [.tmp 2, .tmp 3]) false Try.func25 rfl rfl rfl rfl (Nat.le_of_ble_eq_true rfl) ?_
  have f1 := far hr
  simp -dsimp
  refine callS_ (pick_at bs p (by omega) _ _ _ rid (by simp [hm])) ?_
  rintro t m1 n1 ⟨hn1, ⟨r, rfl, hr0, hr1⟩, rfl⟩
  have hr1 := hr1 (by decide)
  obtain ⟨r, rfl⟩ := Int.eq_ofNat_of_zero_le hr0
  have w1 : IntKind.wrap .i64 (1 + (r : Int)) = ((1 + r : Nat) : Int) := by rw [w64 (by omega) (by omega)]; omega
  simp -dsimp
  refine callS_ (pick_at bs (p + 1) (by omega) _ _ _ rid (by simp)) ?_
  rintro t m2 n2 ⟨hn2, ⟨thin, rfl, ht0, ht1⟩, rfl⟩
  have ht1 := ht1 (by decide)
  have wt : IntKind.wrap .i64 (thin + 2) = thin + 2 := w64 (by omega) (by omega)
  have h16 : 2 ^ (1 + r) ≤ 16 := by
    have : r = 0 ∨ r = 1 ∨ r = 2 ∨ r = 3 := by omega
    rcases this with rfl | rfl | rfl | rfl <;> simp
  simp -dsimp
  refine twp_loopC (Itb20 bs (p + 2) rid n m (2 ^ (1 + r)) thin 0) (fun s => 2 ^ (1 + r) - natOf (s.tm 7)) (Itb20 bs (p + 2) rid n m (2 ^ (1 + r)) thin 1) ?_ ?_ ?_
  · exact ⟨0, p + 2, 1 + r, 0, by simp -dsimp, by simp -dsimp [w1], by simp -dsimp, by simp -dsimp, by simp -dsimp, Nat.zero_le _, by omega, by omega, rfl, by omega, by omega, by simp -dsimp; omega, by simp -dsimp, by simp⟩
  · rintro s ⟨w, p', q, x, t0, t4, t5, t6, t7, hw, hq1, hq4, hqN, hp1, hp2, hn, hm', hend⟩
    generalize 2 ^ (1 + r) = N at *
    have ws : IntKind.wrap .i64 (2 ^ min q IntKind.i64.bits) = (N : Int) := by rw [shl_fact (by omega), ← hqN]; simp
    have hq0 : ¬ (q : Int) < 0 := by omega
    by_cases hlt : w < N
    case neg =>
      simp -dsimp [t4, t7, hq0, ws, hlt]
      exact ⟨w, p', q, x, by simp -dsimp [t0], by simp -dsimp [t4], by simp -dsimp [t5], by simp -dsimp [t6], by simp -dsimp [t7], hw, hq1, hq4, hqN, hp1, hp2, by simp -dsimp; omega, by simp -dsimp [hm'], fun _ => by omega⟩
    have wi : IntKind.wrap .i64 ((w : Int) + 1) = ((w + 1 : Nat) : Int) := by rw [w64 (by omega) (by omega)]; omega
    have hmu : N - (w + 1) < N - w := by omega
    have z3 : ¬ (w : Int) < 0 := by omega
    simp -dsimp [t0, t4, t6, t7, hq0, ws, hlt, wt]
    refine callS_ (pick_at bs p' (by omega) _ _ _ rid (by simp [hm'])) ?_
    rintro t m3 n3 ⟨hn3, ⟨r2, rfl, hr20, hr21⟩, rfl⟩
    by_cases hz : r2 = 0
    · simp -dsimp [hz, t5, t7, z3, wi, hmu]
      exact ⟨w + 1, p' + 1, q, _, by simp -dsimp [t0], by simp -dsimp [t4], by simp -dsimp <;> rfl, by simp -dsimp [t6], by simp -dsimp, by omega, hq1, hq4, hqN, by omega, by omega, by simp -dsimp; omega, by simp -dsimp [hm'], by simp⟩
    · simp -dsimp [hz, t5, t7, z3, wi, hmu]
      exact ⟨w + 1, p' + 1, q, x, by simp -dsimp [t0], by simp -dsimp [t4], by simp -dsimp [t5], by simp -dsimp [t6], by simp -dsimp, by omega, hq1, hq4, hqN, by omega, by omega, by simp -dsimp; omega, by simp -dsimp [hm'], by simp⟩
  · rintro s ⟨w, p', q, x, t0, t4, t5, t6, t7, hw, hq1, hq4, hqN, hp1, hp2, hn, hm', hend⟩
    simp -dsimp [t0, t4, t5]
    refine callS_ (pick_at bs p' (by omega) _ _ _ rid (by simp [hm'])) ?_
    rintro t m3 n3 ⟨hn3, ⟨r3, rfl, hr30, hr31⟩, rfl⟩
    simp -dsimp [t0, t4, t5]
    refine callS_ (pick_at bs (p' + 1) (by omega) _ _ _ rid (by simp [hm'])) ?_
    rintro t m4 n4 ⟨hn4, ⟨r4, rfl, hr40, hr41⟩, rfl⟩
    simp -dsimp
    refine ⟨by omega, ⟨_, by simp <;> exact ⟨rfl, rfl⟩, _, _, rfl⟩, fun j j1 j2 => ?_, p' + 1 + 1, by omega, by omega, ?_⟩
    · simp [hm', j2]
    · simp [hm']
theorem known_z (bs : List UInt8) (p : Nat) (hp : p < 600000000) (m : Mem) (n rid : Nat) (hr : rid < n) (hm : m rid = some (rdB bs p)) :
    FnS Try.prog 12 m n [.ptr rid 0] (Draws SomeTwo 40 m n rid bs p) := by
  refine Draws_of hr ⟨_, Try.func12, rfl, rfl⟩ fun hfr => ?_
  refine FnS_of (rs := [.tmp 2, .tmp 3]) false Try.func12 rfl rfl rfl rfl (Nat.le_of_ble_eq_true rfl) ?_
  have f1 := far hr
  simp -dsimp
  refine callS_ (l20Table_z bs p (by omega) _ _ rid (by omega) (by simp [hm])) ?_
  rintro t m1 n1 ⟨hn1, ⟨x, ⟨a, b, rfl⟩, rfl⟩, p1, hp1, hp2, rfl⟩
  have f2 := far (show rid < n1 by omega)
  simp -dsimp
  refine callS_ (pick_at bs p1 (by omega) _ _ _ rid (by simp)) ?_
  rintro t m2 n2 ⟨hn2, ⟨r, rfl, hr0, hr1⟩, rfl⟩
  have fin : ∀ (m' : Mem) (n' : Nat) (a b : Int) (q : Nat), n ≤ n' → p ≤ q → q ≤ p + 40 → m' = updM m rid (some (rdB bs q)) → DrawPost SomeTwo 40 m n rid bs p (.tup [.v (.int .i64 a), .v (.int .i64 b)]) m' n' := by
    rintro m' n' a b q h1 h2 h3 rfl
    refine ⟨h1, ⟨_, by simp <;> exact ⟨rfl, rfl⟩, _, _, rfl⟩, fun j j1 j2 => ?_, q, h2, h3, ?_⟩
    · simp [j2]
    · simp
  have hk := ft (tableOk a b)
  have second : ∀ (m' : Mem) (n' : Nat) (q : Nat), n ≤ n' → q ≤ p + 39 → p ≤ q → m' = updM m rid (some (rdB bs q)) → True := fun _ _ _ _ _ _ _ => trivial
  by_cases hz : r = 0
  · simp -dsimp [hz]
    refine call_ (tableOkS_fn a b) (by simp -dsimp) ?_
    rcases hk with hk | hk
    · simp -dsimp [hk]
      refine callS_ (pick_at bs (p1 + 1) (by omega) _ _ _ rid (by simp)) ?_
      rintro t m3 n3 ⟨hn3, ⟨r2, rfl, hr20, hr21⟩, rfl⟩
      by_cases hz2 : r2 = 0
      · simp -dsimp [hz2]
        refine call_ (tableOkS_fn a b) (by simp -dsimp) ?_
        simp -dsimp [hk]
        exact fin _ _ _ _ (p1 + 1 + 1) (by omega) (by omega) (by omega) (by simp)
      · simp -dsimp [hz2]
        exact fin _ _ _ _ (p1 + 1 + 1) (by omega) (by omega) (by omega) (by simp)
    · simp -dsimp [hk]
      refine call_ (majority_fn a) (by simp -dsimp) ?_
      simp -dsimp
      exact fin _ _ _ _ (p1 + 1) (by omega) (by omega) (by omega) (by simp)
  · simp -dsimp [hz]
    refine callS_ (pick_at bs (p1 + 1) (by omega) _ _ _ rid (by simp)) ?_
    rintro t m3 n3 ⟨hn3, ⟨r2, rfl, hr20, hr21⟩, rfl⟩
    by_cases hz2 : r2 = 0
    · simp -dsimp [hz2]
      refine call_ (tableOkS_fn a b) (by simp -dsimp) ?_
      rcases hk with hk | hk
      · simp -dsimp [hk]
        exact fin _ _ _ _ (p1 + 1 + 1) (by omega) (by omega) (by omega) (by simp)
      · simp -dsimp [hk]
        refine call_ (l1Turned_at a b hk) (by simp -dsimp) ?_
        simp -dsimp
        exact fin _ _ _ _ (p1 + 1 + 1) (by omega) (by omega) (by omega) (by simp)
    · simp -dsimp [hz2]
      exact fin _ _ _ _ (p1 + 1 + 1) (by omega) (by omega) (by omega) (by simp)
/-- A number of people, a table, two of them and an answer. -/
def SomeAsk (x : V) : Prop := ∃ (a b c d : Int) (e : Bool), x = .tup [.int .i64 a, .int .i64 b, .int .i64 c, .int .i64 d, .bool e]
end TL

/- Terms in a world. -/
set_option linter.unusedSimpArgs false
set_option linter.unusedVariables false
set_option maxRecDepth 100000
set_option maxHeartbeats 4000000
set_option pp.maxSteps 1500
namespace TL
open Go Go.Proofs
attribute [local simp] marksV storyV codeV Claim.v Place.v
theorem cnt_vals : cnt 0 = 0 ∧ cnt 1 = 1 ∧ cnt 2 = 1 ∧ cnt 3 = 2 ∧ cnt 4 = 1 ∧ cnt 5 = 2 ∧ cnt 6 = 2 ∧ cnt 7 = 3 ∧ cnt 8 = 1 ∧ cnt 9 = 2 ∧ cnt 10 = 2 ∧ cnt 11 = 3 ∧ cnt 12 = 2 ∧ cnt 13 = 3 ∧ cnt 14 = 3 ∧ cnt 15 = 4 := by simp [cnt]
theorem onesCount64_fn (w : Nat) (hw : w < 16) : FnZ Try.prog 36 [.int .u64 w] (.int .i64 (cnt w)) := by
  have h : w = 0 ∨ w = 1 ∨ w = 2 ∨ w = 3 ∨ w = 4 ∨ w = 5 ∨ w = 6 ∨ w = 7 ∨ w = 8 ∨ w = 9 ∨ w = 10 ∨ w = 11 ∨ w = 12 ∨ w = 13 ∨ w = 14 ∨ w = 15 := by omega
  rcases h with rfl | rfl | rfl | rfl | rfl | rfl | rfl | rfl | rfl | rfl | rfl | rfl | rfl | rfl | rfl | rfl
  all_goals
    simp only [cnt_vals]
    refine FnZ_of (rs := [.tmp 2]) false Try.func36 rfl rfl rfl rfl (Nat.le_of_ble_eq_true rfl) ?_
    simp -dsimp
    rfl
theorem onesCount_fn (w : Nat) (hw : w < 16) : FnZ Try.prog 32 [.int .u64 w] (.int .i64 (cnt w)) := by
  have e : IntKind.wrap .u64 (w : Int) = w := by simp only [IntKind.wrap, IntKind.bits, IntKind.signed]; simp; omega
  refine FnZ_of (rs := [.tmp 2]) false Try.func32 rfl rfl rfl rfl (Nat.le_of_ble_eq_true rfl) ?_
  simp -dsimp
  refine call_ (onesCount64_fn w hw) (by simp -dsimp) ?_
  simp -dsimp
/-- What a term's last part is, the parts' answers last one first. -/
def runStep (w : Nat) (m : Mark) (r : List Bool) : List Bool :=
  if m.kind = 0 then w.testBit m.num.toNat :: r
  else if m.kind = 1 then decide (m.num ≤ cnt w) :: r
  else if m.kind = 2 then match r with
    | b :: r => (!b) :: r
    | [] => []
  else match r with
    | b :: a :: r => (if m.kind = 3 then a && b else if m.kind = 4 then a || b else a == b) :: r
    | _ => []
def runR (w : Nat) (r : List Bool) (t : List Mark) : List Bool := t.foldl (fun r m => runStep w m r) r
def truth (t : List Mark) (w : Nat) : Bool := (runR w [] t).headD false
def stkT (l : List Bool) : List T := l.map fun b => .v (.bool b)
theorem runStep_length {people : Int} {w : Nat} {m : Mark} {r : List Bool} {q : Nat} (h : markStep people r.length m = some q) : (runStep w m r).length = q := by
  unfold markStep at h; unfold runStep
  by_cases k0 : m.kind = 0
  · rw [if_pos k0] at h ⊢
    split at h
    · cases h; simp
    · cases h
  by_cases k1 : m.kind = 1
  · rw [if_neg k0, if_pos k1] at h ⊢
    split at h
    · cases h; simp
    · cases h
  by_cases k2 : m.kind = 2
  · rw [if_neg k0, if_neg k1, if_pos k2] at h ⊢
    split at h
    · cases h
      cases r with
      | nil => simp at *
      | cons b r => simp
    · cases h
  rw [if_neg k0, if_neg k1, if_neg k2] at h ⊢
  split at h
  · split at h
    · cases h
      match r with
      | [] => simp at *
      | [b] => simp at *
      | b :: a :: r => simp
    · cases h
  · cases h
theorem runR_length {people : Int} {w : Nat} : ∀ {t : List Mark} {r : List Bool} {q : Nat}, marksRun people r.length t = some q → (runR w r t).length = q
  | [], r, q, h => by cases h; rfl
  | m :: t, r, q, h => by
    simp only [marksRun] at h
    cases e : markStep people r.length m with
    | none => rw [e] at h; cases h
    | some q' =>
      rw [e] at h
      have hl := runStep_length (w := w) e
      have : marksRun people (runStep w m r).length t = some q := by rw [hl]; exact h
      exact runR_length (t := t) this
/-- The row of answers on the way. -/
def Ihs (people : Int) (w : Nat) (t : List Mark) (e : Nat) (s : S) : Prop := ∃ (i id : Nat) (r : List Bool) (cs ex : List T), s.tm 1 = .v (.int .i64 w) ∧ s.tm 12 = .v (.sl (t.map Mark.v)) ∧ s.tm 13 = .v (.int .i64 t.length) ∧ s.tm 14 = .v (.int .i64 i) ∧ s.tm 5 = .sv id 0 r.length ∧ s.mu = true ∧
  id < s.n ∧ s.m id = some (.box 4 1 cs) ∧ cs = stkT r.reverse ++ ex ∧ i ≤ t.length ∧ r.length ≤ i ∧ marksRun people r.length (t.drop i) = some 1 ∧ runR w r (t.drop i) = runR w [] t ∧ (e = 1 → i = t.length)
theorem stkT_append (a b : List Bool) : stkT (a ++ b) = stkT a ++ stkT b := by simp [stkT]
end TL

/- Worlds of a table; answers. -/
set_option linter.unusedSimpArgs false
set_option linter.unusedVariables false
set_option maxRecDepth 100000
set_option maxHeartbeats 4000000
set_option pp.maxSteps 1500
namespace TL
open Go Go.Proofs
attribute [local simp] marksV storyV codeV Claim.v Place.v
theorem askedS_val {p n a b : Nat} (yes : Bool) (hn : n < 2 ^ 2 ^ p) : (tabN (2 ^ p) fun w => n.testBit w && sameKind a b yes w) = n &&& askMask p a b yes := by
  apply Nat.eq_of_testBit_eq
  intro i
  rw [testBit_tabN, Nat.testBit_and, askMask, testBit_tabN]
  by_cases h : i < 2 ^ p
  · simp [h]
  · have : n.testBit i = false := Nat.testBit_lt_two_pow (Nat.lt_of_lt_of_le hn (Nat.pow_le_pow_right (by omega) (by omega)))
    simp [this]
/-- The worlds of a table. -/
def worldsOf (p n : Nat) : List Nat := (List.range (2 ^ p)).filter fun w => n.testBit w
def Iwi (N n p : Nat) (e : Nat) (s : S) : Prop := ∃ w id : Nat, s.tm 1 = .v (.int .i64 n) ∧ s.tm 5 = .loc id ∧ s.tm 13 = .v (.int .i64 N) ∧ s.tm 14 = .v (.int .i64 w) ∧ w ≤ N ∧ s.mu = false ∧ id < s.n ∧
  s.m id = some (.arr 3 (((List.range w).filter fun w => n.testBit w).map fun w => V.int .i64 (w : Nat))) ∧ (e = 1 → w = N)
theorem worldsIn_fn (p n : Nat) (hk : tableOk p n = true) (hp1 : 1 ≤ p) (hp4 : p ≤ 4) : FnZ Try.prog 19 [.int .i64 p, .int .i64 n] (.sl ((worldsOf p n).map fun w => V.int .i64 (w : Nat))) := by
  have hn : n < 65536 := by
    obtain ⟨p', n', h1, h2, _, h4, h5⟩ := tableOk_spec hk
    have : n' = n := by omega
    subst this
    exact table_small h4 h5
  have hN : 2 ^ p ≤ 16 := by
    have : p = 1 ∨ p = 2 ∨ p = 3 ∨ p = 4 := by omega
    rcases this with rfl | rfl | rfl | rfl <;> simp
  have ws : IntKind.wrap .i64 (2 ^ min p IntKind.i64.bits) = ((2 ^ p : Nat) : Int) := by rw [shl_fact (by omega)]; simp
  unfold worldsOf
  generalize hNN : 2 ^ p = N at *
  have hp0 : ¬ (p : Int) < 0 := by omega
  refine FnZ_of (rs := [.tmp 4]) false Try.func19 rfl rfl rfl rfl (Nat.le_of_ble_eq_true rfl) ?_
  simp -dsimp
  refine call_ (tableOk_fn p n) (by simp -dsimp) ?_
  simp -dsimp [hk, ws, hp0]
  refine twp_loopC (Iwi N n p 0) (fun s => N - natOf (s.tm 14)) (Iwi N n p 1) ?_ ?_ ?_
  · exact ⟨0, 0, by simp -dsimp, by simp -dsimp, by simp -dsimp, by simp -dsimp, by omega, by simp -dsimp, by simp -dsimp, by simp -dsimp, by simp⟩
  · rintro s ⟨w, id, t1, t5, t13, t14, hw, hmu, hid, hm, hend⟩
    by_cases hlt : w < N
    case neg =>
      simp -dsimp [t13, t14, hlt]
      exact ⟨w, id, by simp -dsimp [t1], by simp -dsimp [t5], by simp -dsimp [t13], by simp -dsimp [t14], hw, by simp -dsimp [hmu], by simp -dsimp; omega, by simp -dsimp [hm], fun _ => by omega⟩
    have wi : IntKind.wrap .i64 ((w : Int) + 1) = ((w + 1 : Nat) : Int) := by rw [w64 (by omega) (by omega)]; omega
    have hmu1 : N - (w + 1) < N - w := by omega
    have z3 : ¬ (w : Int) < 0 := by omega
    have b0 := bit1 n w (by omega) (by omega)
    have hrl : ((List.range w).filter fun w => n.testBit w).length ≤ w := by
      have := List.length_filter_le (fun w => n.testBit w) (List.range w)
      simpa using this
    have hsucc : (List.range (w + 1)).filter (fun w => n.testBit w) = (List.range w).filter (fun w => n.testBit w) ++ (if n.testBit w then [w] else []) := by
      rw [List.range_succ, List.filter_append]; congr 1
      cases h : n.testBit w <;> simp [h]
    have fin : ∀ (s' : S) (id' : Nat), s'.tm 1 = .v (.int .i64 n) → s'.tm 5 = .loc id' → s'.tm 13 = .v (.int .i64 N) → s'.tm 14 = .v (.int .i64 (w + 1 : Nat)) → s'.mu = false → id' < s'.n →
        s'.m id' = some (.arr 3 (((List.range w).filter fun w => n.testBit w).map (fun w => V.int .i64 (w : Nat)) ++ (if n.testBit w then [V.int .i64 w] else []))) → Iwi N n p 0 s' := by
      intro s' id' a1 a5 a13 a14 amu aid am
      refine ⟨w + 1, id', a1, a5, a13, a14, by omega, amu, aid, ?_, by simp⟩
      rw [am, hsucc]; cases n.testBit w <;> simp
    have f1 := far hid
    generalize hxs : ((List.range w).filter fun w => n.testBit w).map (fun w => V.int .i64 (w : Nat)) = xs at *
    have hxl : xs.length ≤ 16 := by rw [← hxs]; simp only [List.length_map]; omega
    have b1 : (xs.length + 1) * 8 ≤ 140737488355328 := by omega
    have c0 := ft (n.testBit w)
    rcases c0 with c0 | c0
    · rw [c0] at b0
      simp -dsimp [t1, t5, t13, t14, hlt, hmu, z3, b0, wi, hmu1]
      exact fin _ id (by simp -dsimp [t1]) (by simp -dsimp [t5]) (by simp -dsimp [t13]) (by simp -dsimp) (by simp -dsimp [hmu]) (by simp -dsimp; omega) (by simp -dsimp [hm, c0])
    · rw [c0] at b0
      simp -dsimp [t1, t5, t13, t14, hlt, hmu, z3, b0, hm, f1, b1, wi, hmu1]
      refine st_out fun s' ht' hm' hn' hu' => ?_
      have q1 := ht' 1
      have q5 := ht' 5
      have q13 := ht' 13
      have q14 := ht' 14
      simp -dsimp [t1, t5, t13] at q1 q5 q13 q14 hm' hn' hu'
      clear ht'
      exact fin s' _ q1 q5 q13 q14 (by rw [hu', hmu]) (by omega) (by simp [hm', c0])
  · rintro s ⟨w, id, t1, t5, t13, t14, hw, hmu, hid, hm, hend⟩
    have := hend rfl
    subst this
    simp -dsimp [t5, hm]
def answerIn (who : Nat) (t : List Mark) (w : Nat) : Int := if truth t w == w.testBit who then 1 else 0
end TL

/- The least number of questions, in plain words. -/
set_option linter.unusedSimpArgs false
set_option linter.unusedVariables false
set_option maxRecDepth 100000
set_option maxHeartbeats 4000000
set_option pp.maxSteps 1500
namespace TL
open Go Go.Proofs
/-- A table of worlds of p people. -/
def InT (p T : Nat) : Prop := T < 2 ^ 2 ^ p
theorem InT.bit {p T w : Nat} (h : InT p T) (hw : T.testBit w = true) : w < 2 ^ p := by
  rcases Nat.lt_or_ge w (2 ^ p) with h1 | h1
  · exact h1
  · have : T.testBit w = false := Nat.testBit_lt_two_pow (Nat.lt_of_lt_of_le h (Nat.pow_le_pow_right (by omega) h1))
    rw [this] at hw; cases hw
/-- The person tells the truth in all worlds of a table. -/
def tells (p T k : Nat) : Bool := (List.range (2 ^ p)).all fun w => !T.testBit w || w.testBit k
theorem tells_iff {p T k : Nat} (h : InT p T) : tells p T k = true ↔ ∀ w, T.testBit w = true → w.testBit k = true := by
  simp only [tells, List.all_eq_true, List.mem_range, Bool.or_eq_true, Bool.not_eq_true']
  constructor
  · intro h1 w hw
    rcases h1 w (h.bit hw) with h2 | h2
    · rw [h2] at hw; cases hw
    · exact h2
  · intro h1 w _
    cases hw : T.testBit w
    · exact .inl rfl
    · exact .inr (h1 w hw)
def doneT (p T : Nat) : Bool := decide (T = 0) || (List.range p).any (tells p T)
theorem doneT_iff {p T : Nat} : doneT p T = true ↔ T = 0 ∨ ∃ k, k < p ∧ tells p T k = true := by
  simp [doneT]
def askY (p T i j : Nat) : Nat := T &&& askMask p i j true
def askN (p T i j : Nat) : Nat := T &&& askMask p i j false
theorem bit_askY {p T i j w : Nat} (h : InT p T) : (askY p T i j).testBit w = (T.testBit w && (w.testBit i == w.testBit j)) := by
  unfold askY askMask
  rw [Nat.testBit_and, testBit_tabN]
  cases hw : T.testBit w
  · simp
  · simp [h.bit hw, sameKind]
theorem bit_askN {p T i j w : Nat} (h : InT p T) : (askN p T i j).testBit w = (T.testBit w && !(w.testBit i == w.testBit j)) := by
  unfold askN askMask
  rw [Nat.testBit_and, testBit_tabN]
  cases hw : T.testBit w
  · simp
  · simp [h.bit hw, sameKind]
theorem InT.askY {p T i j : Nat} (h : InT p T) : InT p (askY p T i j) := Nat.lt_of_le_of_lt Nat.and_le_left h
theorem InT.askN {p T i j : Nat} (h : InT p T) : InT p (askN p T i j) := Nat.lt_of_le_of_lt Nat.and_le_left h
theorem askY_comm {p T i j : Nat} (h : InT p T) : askY p T i j = askY p T j i := by
  apply Nat.eq_of_testBit_eq; intro w
  rw [bit_askY h, bit_askY h]
  cases T.testBit w <;> cases w.testBit i <;> cases w.testBit j <;> rfl
theorem askN_comm {p T i j : Nat} (h : InT p T) : askN p T i j = askN p T j i := by
  apply Nat.eq_of_testBit_eq; intro w
  rw [bit_askN h, bit_askN h]
  cases T.testBit w <;> cases w.testBit i <;> cases w.testBit j <;> rfl
theorem ne_zero_iff {T : Nat} : T ≠ 0 ↔ ∃ w, T.testBit w = true := by
  constructor
  · intro h
    refine Classical.byContradiction fun hn => h (Nat.eq_of_testBit_eq fun w => ?_)
    rw [Nat.zero_testBit]
    cases hw : T.testBit w
    · rfl
    · exact absurd ⟨w, hw⟩ hn
  · rintro ⟨w, hw⟩ rfl
    rw [Nat.zero_testBit] at hw; cases hw
def splits (p T i j : Nat) : Bool := decide (askY p T i j ≠ 0) && decide (askN p T i j ≠ 0)
theorem splits_iff {p T i j : Nat} : splits p T i j = true ↔ askY p T i j ≠ 0 ∧ askN p T i j ≠ 0 := by simp [splits]
/-- With so many questions it is enough. -/
def sol (p : Nat) : Nat → Nat → Bool
  | 0, T => doneT p T
  | d + 1, T => doneT p T || (List.range p).any fun i => (List.range i).any fun j => splits p T i j && sol p d (askY p T i j) && sol p d (askN p T i j)
theorem sol_succ {p d T : Nat} : sol p (d + 1) T = true ↔ doneT p T = true ∨ ∃ i j, i < p ∧ j < i ∧ splits p T i j = true ∧ sol p d (askY p T i j) = true ∧ sol p d (askN p T i j) = true := by
  simp only [sol, Bool.or_eq_true, List.any_eq_true, List.mem_range, Bool.and_eq_true]
  constructor
  · rintro (h | ⟨i, hi, j, hj, ⟨h1, h2⟩, h3⟩)
    · exact .inl h
    · exact .inr ⟨i, j, hi, hj, h1, h2, h3⟩
  · rintro (h | ⟨i, j, hi, hj, h1, h2, h3⟩)
    · exact .inl h
    · exact .inr ⟨i, hi, j, hj, ⟨h1, h2⟩, h3⟩
theorem sol_done {p T : Nat} (h : doneT p T = true) : ∀ d, sol p d T = true
  | 0 => h
  | d + 1 => sol_succ.2 (.inl h)
theorem sol_mono1 {p : Nat} : ∀ d T, sol p d T = true → sol p (d + 1) T = true
  | 0, T, h => sol_done h 1
  | d + 1, T, h => by
    rcases sol_succ.1 h with h | ⟨i, j, hi, hj, h1, h2, h3⟩
    · exact sol_done h _
    · exact sol_succ.2 (.inr ⟨i, j, hi, hj, h1, sol_mono1 d _ h2, sol_mono1 d _ h3⟩)
theorem sol_mono {p d e T : Nat} (h : d ≤ e) (hs : sol p d T = true) : sol p e T = true := by
  obtain ⟨k, rfl⟩ := Nat.exists_eq_add_of_le h
  induction k with
  | zero => exact hs
  | succ k ih => exact sol_mono1 _ _ (ih (by omega))
/-! The least number, at most m. -/
def lv (p m T : Nat) : Int := match (List.range (m + 1)).find? fun d => sol p d T with
  | some d => (d : Int)
  | none => -1
def IsLv (p m T : Nat) (v : Int) : Prop := (v = -1 ∧ ∀ d, d ≤ m → sol p d T = false) ∨ ∃ d : Nat, d ≤ m ∧ v = d ∧ sol p d T = true ∧ ∀ e, e < d → sol p e T = false
theorem find_range {f : Nat → Bool} : ∀ n, (∃ d, (List.range n).find? f = some d ∧ d < n ∧ f d = true ∧ ∀ e, e < d → f e = false) ∨ ((List.range n).find? f = none ∧ ∀ e, e < n → f e = false)
  | 0 => .inr ⟨rfl, fun e h => absurd h (by omega)⟩
  | n + 1 => by
    rw [List.range_succ, List.find?_append]
    rcases find_range (f := f) n with ⟨d, h1, h2, h3, h4⟩ | ⟨h1, h2⟩
    · exact .inl ⟨d, by rw [h1]; rfl, by omega, h3, h4⟩
    · rw [h1]
      cases hf : f n
      · refine .inr ⟨by simp [hf], fun e he => ?_⟩
        rcases Nat.lt_or_ge e n with h | h
        · exact h2 e h
        · have : e = n := by omega
          rw [this]; exact hf
      · exact .inl ⟨n, by simp [hf], by omega, hf, h2⟩
theorem lv_is (p m T : Nat) : IsLv p m T (lv p m T) := by
  unfold lv
  rcases find_range (f := fun d => sol p d T) (m + 1) with ⟨d, h1, h2, h3, h4⟩ | ⟨h1, h2⟩
  · rw [h1]; exact .inr ⟨d, by omega, rfl, h3, h4⟩
  · rw [h1]; exact .inl ⟨rfl, fun d hd => h2 d (by omega)⟩
theorem IsLv.uniq {p m T : Nat} {v u : Int} (h : IsLv p m T v) (g : IsLv p m T u) : v = u := by
  rcases h with ⟨h1, h2⟩ | ⟨d, h1, h2, h3, h4⟩ <;> rcases g with ⟨g1, g2⟩ | ⟨e, g1, g2, g3, g4⟩
  · rw [h1, g1]
  · rw [h2 e g1] at g3; cases g3
  · rw [g2 d h1] at h3; cases h3
  · have : d = e := by
      rcases Nat.lt_trichotomy d e with h | h | h
      · rw [g4 d h] at h3; cases h3
      · exact h
      · rw [h4 e h] at g3; cases g3
    rw [h2, g2, this]
theorem lv_nonneg {p m T : Nat} (h : 0 ≤ lv p m T) : ∃ d : Nat, d ≤ m ∧ lv p m T = d ∧ sol p d T = true := by
  rcases lv_is p m T with ⟨h1, _⟩ | ⟨d, h1, h2, h3, _⟩
  · omega
  · exact ⟨d, h1, h2, h3⟩
theorem lv_le {p m T d : Nat} (hd : d ≤ m) (h : sol p d T = true) : 0 ≤ lv p m T ∧ lv p m T ≤ d := by
  rcases lv_is p m T with ⟨h1, h2⟩ | ⟨e, h1, h2, h3, h4⟩
  · rw [h2 d hd] at h; cases h
  · rcases Nat.lt_or_ge d e with h5 | h5
    · rw [h4 d h5] at h; cases h
    · omega
/-! The loops' best number. -/
def stepB (best : Int) : Option Int → Int
  | none => best
  | some v => if best < 0 ∨ v < best then v else best
def candB (p T : Nat) (g : Nat → Int) (i j : Nat) : Option Int := if splits p T i j = true ∧ 0 ≤ g (askY p T i j) ∧ 0 ≤ g (askN p T i j) then some (1 + max (g (askY p T i j)) (g (askN p T i j))) else none
def InvB (p T : Nat) (g : Nat → Int) (S : Nat → Nat → Prop) (b : Int) : Prop := (b = -1 ∧ ∀ i j, S i j → candB p T g i j = none) ∨ (0 ≤ b ∧ (∃ i j, S i j ∧ candB p T g i j = some b) ∧ ∀ i j v, S i j → candB p T g i j = some v → b ≤ v)
theorem InvB.same {p T : Nat} {g : Nat → Int} {S S' : Nat → Nat → Prop} {b : Int} (h : InvB p T g S b) (hs : ∀ i j, S' i j ↔ S i j) : InvB p T g S' b := by
  have e : S' = S := by funext i j; exact propext (hs i j)
  rw [e]; exact h
theorem cand_pos {p T : Nat} {g : Nat → Int} {i j : Nat} {v : Int} (h : candB p T g i j = some v) : 0 ≤ v ∧ splits p T i j = true ∧ 0 ≤ g (askY p T i j) ∧ 0 ≤ g (askN p T i j) ∧ v = 1 + max (g (askY p T i j)) (g (askN p T i j)) := by
  unfold candB at h
  split at h
  · rename_i hh; cases h; exact ⟨by omega, hh.1, hh.2.1, hh.2.2, rfl⟩
  · cases h
theorem InvB.step {p T : Nat} {g : Nat → Int} {S S' : Nat → Nat → Prop} {b : Int} {a c : Nat} (h : InvB p T g S b) (hs : ∀ i j, S' i j ↔ S i j ∨ (i = a ∧ j = c)) : InvB p T g S' (stepB b (candB p T g a c)) := by
  cases hc : candB p T g a c with
  | none =>
    simp only [stepB]
    rcases h with ⟨h1, h2⟩ | ⟨h1, ⟨i, j, h2, h3⟩, h4⟩
    · refine .inl ⟨h1, fun i j hij => ?_⟩
      rcases (hs i j).1 hij with h | ⟨rfl, rfl⟩
      · exact h2 i j h
      · exact hc
    · refine .inr ⟨h1, ⟨i, j, (hs i j).2 (.inl h2), h3⟩, fun x y v hxy hv => ?_⟩
      rcases (hs x y).1 hxy with h | ⟨rfl, rfl⟩
      · exact h4 x y v h hv
      · rw [hc] at hv; cases hv
  | some u =>
    have hu := (cand_pos hc).1
    simp only [stepB]
    rcases h with ⟨h1, h2⟩ | ⟨h1, ⟨i, j, h2, h3⟩, h4⟩
    · rw [if_pos (.inl (by omega))]
      refine .inr ⟨hu, ⟨a, c, (hs a c).2 (.inr ⟨rfl, rfl⟩), hc⟩, fun x y v hxy hv => ?_⟩
      rcases (hs x y).1 hxy with h | ⟨rfl, rfl⟩
      · rw [h2 x y h] at hv; cases hv
      · rw [hc] at hv; cases hv; omega
    · by_cases hlt : u < b
      · rw [if_pos (.inr hlt)]
        refine .inr ⟨hu, ⟨a, c, (hs a c).2 (.inr ⟨rfl, rfl⟩), hc⟩, fun x y v hxy hv => ?_⟩
        rcases (hs x y).1 hxy with h | ⟨rfl, rfl⟩
        · have := h4 x y v h hv; omega
        · rw [hc] at hv; cases hv; omega
      · rw [if_neg (by omega)]
        refine .inr ⟨h1, ⟨i, j, (hs i j).2 (.inl h2), h3⟩, fun x y v hxy hv => ?_⟩
        rcases (hs x y).1 hxy with h | ⟨rfl, rfl⟩
        · exact h4 x y v h hv
        · rw [hc] at hv; cases hv; omega
theorem cand_comm {p T : Nat} {g : Nat → Int} {i j : Nat} (h : InT p T) : candB p T g i j = candB p T g j i := by
  unfold candB splits
  rw [askY_comm h, askN_comm h]
/-- What the loops find is the least number. -/
theorem InvB.lv {p m T : Nat} {S : Nat → Nat → Prop} {b : Int} (hT : InT p T) (hd : doneT p T = false) (h : InvB p T (TL.lv p m) S b) (h1 : ∀ i j, S i j → i < p ∧ j < p ∧ i ≠ j) (h2 : ∀ i j, i < p → j < i → S i j ∨ S j i) : IsLv p (m + 1) T b := by
  have hno : ∀ i j, i < p → j < i → (∃ d, d ≤ m ∧ sol p d (askY p T i j) = true ∧ sol p d (askN p T i j) = true) → splits p T i j = true → ∃ v, candB p T (TL.lv p m) i j = some v := fun i j hi hj ⟨d, hdm, g1, g2⟩ g3 => by
    have q1 := lv_le hdm g1
    have q2 := lv_le hdm g2
    exact ⟨_, by unfold candB; rw [if_pos ⟨g3, q1.1, q2.1⟩]⟩
  rcases h with ⟨e1, e2⟩ | ⟨e1, ⟨i, j, e2, e3⟩, e4⟩
  · refine .inl ⟨e1, fun d hdm => ?_⟩
    cases hs : sol p d T
    · rfl
    · exfalso
      cases d with
      | zero => rw [show sol p 0 T = doneT p T from rfl, hd] at hs; cases hs
      | succ d =>
        rcases sol_succ.1 hs with h | ⟨i, j, hi, hj, g1, g2, g3⟩
        · rw [hd] at h; cases h
        · obtain ⟨v, hv⟩ := hno i j hi hj ⟨d, by omega, g2, g3⟩ g1
          rcases h2 i j hi hj with h | h
          · rw [e2 i j h] at hv; cases hv
          · rw [cand_comm hT, e2 j i h] at hv; cases hv
  · obtain ⟨_, s1, s2, s3, s4⟩ := cand_pos e3
    obtain ⟨d1, a1, a2, a3⟩ := lv_nonneg s2
    obtain ⟨d2, b1, b2, b3⟩ := lv_nonneg s3
    rw [a2, b2] at s4
    refine .inr ⟨max d1 d2 + 1, by omega, by omega, ?_, fun e he => ?_⟩
    · obtain ⟨g1, g2, g3⟩ := h1 i j e2
      refine sol_succ.2 (.inr ?_)
      rcases Nat.lt_or_ge j i with hji | hji
      · exact ⟨i, j, g1, hji, s1, sol_mono (by omega) a3, sol_mono (by omega) b3⟩
      · have s1' : splits p T j i = true := by unfold splits at s1 ⊢; rw [askY_comm hT, askN_comm hT]; exact s1
        exact ⟨j, i, g2, by omega, s1', by rw [askY_comm hT]; exact sol_mono (by omega) a3, by rw [askN_comm hT]; exact sol_mono (by omega) b3⟩
    · cases hs : sol p e T
      · rfl
      · exfalso
        cases e with
        | zero => rw [show sol p 0 T = doneT p T from rfl, hd] at hs; cases hs
        | succ e =>
          rcases sol_succ.1 hs with h | ⟨x, y, hx, hy, g1, g2, g3⟩
          · rw [hd] at h; cases h
          · have q1 := lv_le (m := m) (by omega) g2
            have q2 := lv_le (m := m) (by omega) g3
            have hv : candB p T (TL.lv p m) x y = some (1 + max (TL.lv p m (askY p T x y)) (TL.lv p m (askN p T x y))) := by unfold candB; rw [if_pos ⟨g1, q1.1, q2.1⟩]
            have : b ≤ 1 + max (TL.lv p m (askY p T x y)) (TL.lv p m (askN p T x y)) := by
              rcases h2 x y hx hy with h | h
              · exact e4 x y _ h hv
              · rw [cand_comm hT] at hv; exact e4 y x _ h hv
            omega
theorem lv_done {p m T : Nat} (h : doneT p T = true) : lv p m T = 0 :=
  IsLv.uniq (lv_is p m T) (.inr ⟨0, by omega, rfl, h, fun e he => absurd he (by omega)⟩)
theorem lv_zero {p T : Nat} (h : doneT p T = false) : lv p 0 T = -1 := by
  refine IsLv.uniq (lv_is p 0 T) (.inl ⟨rfl, fun d hd => ?_⟩)
  have : d = 0 := by omega
  subst this
  exact h
theorem lv_zero_iff {p m T : Nat} : lv p m T = 0 ↔ doneT p T = true := by
  constructor
  · intro h
    rcases lv_is p m T with ⟨h1, _⟩ | ⟨d, h1, h2, h3, _⟩
    · omega
    · have : d = 0 := by omega
      subst this; exact h3
  · exact lv_done
end TL

/- The least number of questions: fewer than people; majorities; opposites. -/
set_option linter.unusedSimpArgs false
set_option linter.unusedVariables false
set_option maxRecDepth 100000
set_option maxHeartbeats 4000000
set_option pp.maxSteps 1500
namespace TL
open Go Go.Proofs
/-- Two people are always alike, or always not, in the worlds of a table. -/
def rel (T i j : Nat) : Prop := ∃ c : Bool, ∀ w, T.testBit w = true → (w.testBit i == w.testBit j) = c
theorem rel_refl (T i : Nat) : rel T i i := ⟨true, fun w _ => by simp⟩
theorem rel_symm {T i j : Nat} (h : rel T i j) : rel T j i := by
  obtain ⟨c, h⟩ := h
  refine ⟨c, fun w hw => ?_⟩
  rw [← h w hw]
  cases w.testBit i <;> cases w.testBit j <;> rfl
theorem rel_trans {T i j k : Nat} (h : rel T i j) (g : rel T j k) : rel T i k := by
  obtain ⟨c, h⟩ := h
  obtain ⟨d, g⟩ := g
  refine ⟨c == d, fun w hw => ?_⟩
  rw [← h w hw, ← g w hw]
  cases w.testBit i <;> cases w.testBit j <;> cases w.testBit k <;> rfl
theorem rel_sub {T U i j : Nat} (hs : ∀ w, U.testBit w = true → T.testBit w = true) (h : rel T i j) : rel U i j := by
  obtain ⟨c, h⟩ := h
  exact ⟨c, fun w hw => h w (hs w hw)⟩
/-- The first ones of their kind. -/
def isRep (T k : Nat) : Prop := ∀ j, j < k → ¬ rel T j k
open Classical in
noncomputable def cls (p T : Nat) : Nat := (List.range p).countP fun k => decide (isRep T k)
theorem count_lt {α : Type} {P Q : α → Bool} : ∀ (l : List α), (∀ x ∈ l, P x = true → Q x = true) → (∃ a ∈ l, Q a = true ∧ P a = false) → l.countP P < l.countP Q
  | [], _, ⟨a, h, _⟩ => by cases h
  | x :: l, hi, ⟨a, ha, hq, hp⟩ => by
    rw [List.countP_cons, List.countP_cons]
    rcases List.mem_cons.1 ha with rfl | ha
    · rw [hq, hp]
      have : l.countP P ≤ l.countP Q := List.countP_mono_left fun x hx h => hi x (by simp [hx]) h
      simp; omega
    · have := count_lt l (fun x hx => hi x (by simp [hx])) ⟨a, ha, hq, hp⟩
      have h1 := hi x (by simp)
      cases hpx : P x
      · cases Q x <;> simp <;> omega
      · rw [h1 hpx]; simp; omega
theorem first_rel (T i : Nat) : ∃ a, a ≤ i ∧ rel T a i ∧ isRep T a := by
  induction i using Nat.strongRecOn with
  | _ i ih =>
    by_cases h : isRep T i
    · exact ⟨i, Nat.le_refl _, rel_refl T i, h⟩
    · have : ∃ j, j < i ∧ rel T j i := by
        refine Classical.byContradiction fun hn => h fun j hj hr => hn ⟨j, hj, hr⟩
      obtain ⟨j, hj, hr⟩ := this
      obtain ⟨a, h1, h2, h3⟩ := ih j hj
      exact ⟨a, by omega, rel_trans h2 hr, h3⟩
theorem cls_lt {p T U i j : Nat} (hi : i < p) (hj : j < p) (hs : ∀ w, U.testBit w = true → T.testBit w = true) (hn : ¬ rel T i j) (hr : rel U i j) : cls p U < cls p T := by
  unfold cls
  refine count_lt _ (fun k _ h => ?_) ?_
  · simp only [decide_eq_true_eq] at h ⊢
    exact fun a ha hra => h a ha (rel_sub hs hra)
  · obtain ⟨a, a1, a2, a3⟩ := first_rel T i
    obtain ⟨b, b1, b2, b3⟩ := first_rel T j
    have hab : a ≠ b := by
      rintro rfl
      exact hn (rel_trans (rel_symm a2) b2)
    have hu : rel U a b := rel_trans (rel_sub hs a2) (rel_trans hr (rel_symm (rel_sub hs b2)))
    rcases Nat.lt_or_ge a b with h | h
    · refine ⟨b, List.mem_range.2 (by omega), by simpa using b3, ?_⟩
      simp only [decide_eq_false_iff_not]
      exact fun hc => hc a h hu
    · refine ⟨a, List.mem_range.2 (by omega), by simpa using a3, ?_⟩
      simp only [decide_eq_false_iff_not]
      exact fun hc => hc b (by omega) (rel_symm hu)
theorem cls_le (p T : Nat) : cls p T ≤ p := by
  unfold cls
  exact Nat.le_trans (List.countP_le_length) (by simp)
theorem cls_pos {p : Nat} (T : Nat) (hp : 1 ≤ p) : 1 ≤ cls p T := by
  unfold cls
  exact List.countP_pos_iff.2 ⟨0, List.mem_range.2 (by omega), by simp only [decide_eq_true_eq]; exact fun j hj => absurd hj (by omega)⟩
theorem split_rel {p T i j : Nat} (hT : InT p T) (h : splits p T i j = true) : ¬ rel T i j ∧ rel (askY p T i j) i j ∧ rel (askN p T i j) i j := by
  obtain ⟨h1, h2⟩ := splits_iff.1 h
  obtain ⟨u, hu⟩ := ne_zero_iff.1 h1
  obtain ⟨v, hv⟩ := ne_zero_iff.1 h2
  rw [bit_askY hT, Bool.and_eq_true] at hu
  rw [bit_askN hT, Bool.and_eq_true] at hv
  refine ⟨?_, ⟨true, fun w hw => ?_⟩, ⟨false, fun w hw => ?_⟩⟩
  · rintro ⟨c, hc⟩
    have e1 := hc u hu.1
    have e2 := hc v hv.1
    rw [hu.2] at e1
    have e3 := hv.2
    rw [e2, ← e1] at e3
    cases e3
  · rw [bit_askY hT, Bool.and_eq_true] at hw; exact hw.2
  · rw [bit_askN hT, Bool.and_eq_true] at hw
    cases hb : (w.testBit i == w.testBit j)
    · rfl
    · rw [hb] at hw; cases hw.2
theorem sol_cls {p : Nat} (hp : 1 ≤ p) : ∀ d T, InT p T → sol p d T = true → sol p (cls p T - 1) T = true
  | 0, T, _, h => sol_done h _
  | d + 1, T, hT, h => by
    rcases sol_succ.1 h with h | ⟨i, j, hi, hj, h1, h2, h3⟩
    · exact sol_done h _
    · obtain ⟨g1, g2, g3⟩ := split_rel hT h1
      have s1 : ∀ w, (askY p T i j).testBit w = true → T.testBit w = true := fun w hw => by rw [bit_askY hT, Bool.and_eq_true] at hw; exact hw.1
      have s2 : ∀ w, (askN p T i j).testBit w = true → T.testBit w = true := fun w hw => by rw [bit_askN hT, Bool.and_eq_true] at hw; exact hw.1
      have c1 := cls_lt hi (show j < p by omega) s1 g1 g2
      have c2 := cls_lt hi (show j < p by omega) s2 g1 g3
      have p1 := cls_pos (askY p T i j) hp
      have p2 := cls_pos (askN p T i j) hp
      have i1 := sol_cls hp d _ hT.askY h2
      have i2 := sol_cls hp d _ hT.askN h3
      obtain ⟨k, hk⟩ : ∃ k, cls p T - 1 = k + 1 := ⟨cls p T - 2, by omega⟩
      rw [hk]
      exact sol_succ.2 (.inr ⟨i, j, hi, hj, h1, sol_mono (by omega) i1, sol_mono (by omega) i2⟩)
/-- Fewer questions than people. -/
theorem sol_few {p d T : Nat} (hp : 1 ≤ p) (hT : InT p T) (h : sol p d T = true) : sol p (p - 1) T = true := by
  have := cls_le p T
  exact sol_mono (by omega) (sol_cls hp d T hT h)
theorem lv_lt {p m T : Nat} (hp : 1 ≤ p) (hT : InT p T) : lv p m T < p := by
  rcases lv_is p m T with ⟨h1, _⟩ | ⟨d, h1, h2, h3, h4⟩
  · omega
  · have := sol_few hp hT h3
    rcases Nat.lt_or_ge d p with h | h
    · omega
    · rw [h4 (p - 1) (by omega)] at this; cases this
theorem IsLv.down {p m T : Nat} {v : Int} (hp : 1 ≤ p) (hm : p - 1 ≤ m) (hT : InT p T) (h : IsLv p (m + 1) T v) : IsLv p m T v := by
  rcases h with ⟨h1, h2⟩ | ⟨d, h1, h2, h3, h4⟩
  · exact .inl ⟨h1, fun d hd => h2 d (by omega)⟩
  · refine .inr ⟨d, ?_, h2, h3, h4⟩
    have := sol_few hp hT h3
    rcases Nat.lt_or_ge (p - 1) d with h | h
    · rw [h4 _ h] at this; cases this
    · omega
/-- Fewer worlds need no more. -/
theorem sol_sub {p : Nat} : ∀ d T U, InT p T → InT p U → (∀ w, U.testBit w = true → T.testBit w = true) → sol p d T = true → sol p d U = true := by
  have key : ∀ T U, InT p T → InT p U → (∀ w, U.testBit w = true → T.testBit w = true) → doneT p T = true → doneT p U = true := fun T U hT hU hs h => by
    rcases doneT_iff.1 h with rfl | ⟨k, hk, ht⟩
    · refine doneT_iff.2 (.inl ?_)
      apply Nat.eq_of_testBit_eq; intro w
      rw [Nat.zero_testBit]
      cases hw : U.testBit w
      · rfl
      · have := hs w hw; rw [Nat.zero_testBit] at this; cases this
    · exact doneT_iff.2 (.inr ⟨k, hk, (tells_iff hU).2 fun w hw => (tells_iff hT).1 ht w (hs w hw)⟩)
  intro d
  induction d with
  | zero => exact fun T U hT hU hs h => key T U hT hU hs h
  | succ d ih =>
    intro T U hT hU hs h
    rcases sol_succ.1 h with h | ⟨i, j, hi, hj, h1, h2, h3⟩
    · exact sol_done (key T U hT hU hs h) _
    · have s1 : ∀ w, (askY p U i j).testBit w = true → (askY p T i j).testBit w = true := fun w hw => by
        rw [bit_askY hU, Bool.and_eq_true] at hw
        rw [bit_askY hT, hs w hw.1, hw.2]; rfl
      have s2 : ∀ w, (askN p U i j).testBit w = true → (askN p T i j).testBit w = true := fun w hw => by
        rw [bit_askN hU, Bool.and_eq_true] at hw
        rw [bit_askN hT, hs w hw.1, hw.2]; rfl
      have i1 := ih _ _ hT.askY hU.askY s1 h2
      have i2 := ih _ _ hT.askN hU.askN s2 h3
      by_cases hy : askY p U i j = 0
      · have e : askN p U i j = U := by
          apply Nat.eq_of_testBit_eq; intro w
          have : (askY p U i j).testBit w = false := by rw [hy, Nat.zero_testBit]
          rw [bit_askY hU] at this
          rw [bit_askN hU]
          cases hw : U.testBit w
          · rfl
          · rw [hw] at this
            rw [show (w.testBit i == w.testBit j) = false by simpa using this]; rfl
        rw [e] at i2; exact sol_mono1 _ _ i2
      by_cases hn : askN p U i j = 0
      · have e : askY p U i j = U := by
          apply Nat.eq_of_testBit_eq; intro w
          have : (askN p U i j).testBit w = false := by rw [hn, Nat.zero_testBit]
          rw [bit_askN hU] at this
          rw [bit_askY hU]
          cases hw : U.testBit w
          · rfl
          · rw [hw] at this
            rw [show (w.testBit i == w.testBit j) = true by simpa using this]; rfl
        rw [e] at i1; exact sol_mono1 _ _ i1
      exact sol_succ.2 (.inr ⟨i, j, hi, hj, splits_iff.2 ⟨hy, hn⟩, i1, i2⟩)
theorem InT.maj (p : Nat) : InT p (majOf p) := tabN_lt _ _
/-- A table, its majorities in closed form. -/
theorem maj_sol {p : Nat} (h1 : 1 ≤ p) (h4 : p ≤ 4) : sol p (p - 1) (majOf p) = true := by
  have : p = 1 ∨ p = 2 ∨ p = 3 ∨ p = 4 := by omega
  rcases this with rfl | rfl | rfl | rfl
  all_goals decide +kernel
theorem lv_maj {p T : Nat} (h1 : 1 ≤ p) (h4 : p ≤ 4) (hT : InT p T) (hs : ∀ w, T.testBit w = true → (majOf p).testBit w = true) : 0 ≤ lv p p T :=
  (lv_le (by omega) (sol_sub _ _ _ (InT.maj p) hT hs (maj_sol h1 h4))).1
/-- A table that is its own opposite. -/
def opp (p T : Nat) : Prop := ∀ w, w < 2 ^ p → T.testBit w = true → T.testBit (2 ^ p - 1 - w) = true
theorem comp_bit {p w k : Nat} (hw : w < 2 ^ p) (hk : k < p) : (2 ^ p - 1 - w).testBit k = !w.testBit k := by
  have := Nat.testBit_two_pow_sub_succ hw k
  rw [show 2 ^ p - 1 - w = 2 ^ p - (w + 1) by omega, this]
  simp [hk]
theorem opp_no {p : Nat} : ∀ d T, InT p T → T ≠ 0 → opp p T → sol p d T = false := by
  have base : ∀ T, InT p T → T ≠ 0 → opp p T → doneT p T = false := fun T hT h0 ho => by
    cases h : doneT p T
    · rfl
    · exfalso
      rcases doneT_iff.1 h with h | ⟨k, hk, ht⟩
      · exact h0 h
      · obtain ⟨w, hw⟩ := ne_zero_iff.1 h0
        have hlt := hT.bit hw
        have e1 := (tells_iff hT).1 ht w hw
        have e2 := (tells_iff hT).1 ht _ (ho w hlt hw)
        rw [comp_bit hlt hk, e1] at e2
        cases e2
  intro d
  induction d with
  | zero => exact base
  | succ d ih =>
    intro T hT h0 ho
    cases h : sol p (d + 1) T
    · rfl
    · exfalso
      rcases sol_succ.1 h with h | ⟨i, j, hi, hj, h1, h2, h3⟩
      · rw [base T hT h0 ho] at h; cases h
      · have hy := (splits_iff.1 h1).1
        have ho2 : opp p (askY p T i j) := fun w hlt hw => by
          rw [bit_askY hT, Bool.and_eq_true] at hw ⊢
          refine ⟨ho w hlt hw.1, ?_⟩
          rw [comp_bit hlt hi, comp_bit hlt (show j < p by omega)]
          have := hw.2
          revert this
          cases w.testBit i <;> cases w.testBit j <;> simp
        rw [ih _ hT.askY hy ho2] at h2; cases h2
theorem lv_opp {p m T : Nat} (hT : InT p T) (h0 : T ≠ 0) (ho : turned p T = T) : lv p m T = -1 := by
  have hopp : opp p T := fun w hlt hw => by
    rw [← ho] at hw
    unfold turned at hw
    rw [testBit_tabN, Bool.and_eq_true] at hw
    exact hw.2
  exact IsLv.uniq (lv_is p m T) (.inl ⟨rfl, fun d _ => opp_no d T hT h0 hopp⟩)
end TL

/- Who is known, and the least number of questions: the program. -/
set_option linter.unusedSimpArgs false
set_option linter.unusedVariables false
set_option maxRecDepth 100000
set_option maxHeartbeats 4000000
set_option pp.maxSteps 1500
namespace TL
open Go Go.Proofs
theorem tab_ok {p T : Nat} (h1 : 1 ≤ p) (h4 : p ≤ 4) (hT : InT p T) : tableOk p T = true := by
  have e : ((2 ^ 2 ^ p : Nat) : Int) = (2 : Int) ^ 2 ^ p := by simp
  have : (T : Int) < (2 : Int) ^ 2 ^ p := by rw [← e]; unfold InT at hT; omega
  simp only [tableOk, peopleOk, Bool.and_eq_true, decide_eq_true_eq]
  exact ⟨⟨⟨by omega, by omega⟩, by omega⟩, by simpa using this⟩
/-- The first one who is known. -/
def ktell (p T : Nat) : Int := match (List.range p).find? (tells p T) with
  | some k => (k : Int)
  | none => -1
def kt (p T : Nat) : Int := if T = 0 then -1 else ktell p T
theorem kt_done {p T : Nat} : (0 ≤ kt p T ∨ T = 0) ↔ doneT p T = true := by
  rw [doneT_iff]
  unfold kt ktell
  by_cases h0 : T = 0
  · simp [h0]
  · rw [if_neg h0]
    rcases find_range (f := tells p T) p with ⟨d, h1, h2, h3, h4⟩ | ⟨h1, h2⟩
    · rw [h1]
      exact ⟨fun _ => .inr ⟨d, h2, h3⟩, fun _ => .inl (by simp)⟩
    · rw [h1]
      constructor
      · rintro (h | h)
        · simp at h
        · exact absurd h h0
      · rintro (h | ⟨k, hk, ht⟩)
        · exact absurd h h0
        · rw [h2 k hk] at ht; cases ht
def andAll (N : Nat) (l : List Nat) : Nat := l.foldl (· &&& ·) N
theorem andAll_le (N : Nat) : ∀ l, andAll N l ≤ N := fun l => by
  unfold andAll
  induction l generalizing N with
  | nil => exact Nat.le_refl _
  | cons x xs ih => exact Nat.le_trans (ih _) Nat.and_le_left
theorem andAll_bit (i : Nat) : ∀ (l : List Nat) (N : Nat), (andAll N l).testBit i = (N.testBit i && l.all fun w => w.testBit i)
  | [], N => by simp [andAll]
  | x :: xs, N => by
    have := andAll_bit i xs (N &&& x)
    unfold andAll at this ⊢
    rw [List.foldl_cons, this, Nat.testBit_and, List.all_cons, Bool.and_assoc]
theorem andAll_snoc (N : Nat) (l : List Nat) (x : Nat) : andAll N (l ++ [x]) = andAll N l &&& x := by simp [andAll]
theorem worlds_tells {p T k : Nat} (hk : k < p) : (andAll (2 ^ p - 1) (worldsOf p T)).testBit k = tells p T k := by
  rw [andAll_bit, Nat.testBit_two_pow_sub_one]
  simp only [hk, decide_true, Bool.true_and]
  rw [Bool.eq_iff_iff]
  simp only [worldsOf, tells, List.all_eq_true, List.mem_filter, List.mem_range, Bool.or_eq_true, Bool.not_eq_true']
  constructor
  · intro h w hw
    cases hb : T.testBit w
    · exact .inl rfl
    · exact .inr (h w ⟨hw, hb⟩)
  · rintro h w ⟨hw, hb⟩
    rcases h w hw with h | h
    · rw [hb] at h; cases h
    · exact h
theorem worlds_nil {p T : Nat} (hT : InT p T) : worldsOf p T = [] ↔ T = 0 := by
  constructor
  · intro h
    apply Nat.eq_of_testBit_eq; intro w
    rw [Nat.zero_testBit]
    cases hb : T.testBit w
    · rfl
    · have : w ∈ worldsOf p T := by simp [worldsOf, hb, hT.bit hb]
      rw [h] at this; cases this
  · rintro rfl
    simp [worldsOf]
theorem worlds_small {p T : Nat} (h4 : p ≤ 4) : (worldsOf p T).length ≤ 16 ∧ ∀ w ∈ worldsOf p T, w < 16 := by
  have hN : 2 ^ p ≤ 2 ^ 4 := Nat.pow_le_pow_right (by omega) h4
  refine ⟨Nat.le_trans (List.length_filter_le _ _) (by simp; omega), fun w hw => ?_⟩
  simp [worldsOf] at hw
  omega
def Ikt1 (p T : Nat) (e : Nat) (s : S) : Prop := ∃ i : Nat, s.tm 0 = .v (.int .i64 p) ∧ s.tm 6 = .v (.int .i64 (andAll (2 ^ p - 1) ((worldsOf p T).take i))) ∧ s.tm 19 = .v (.sl ((worldsOf p T).map fun w => V.int .i64 (w : Nat))) ∧ s.tm 20 = .v (.int .i64 (worldsOf p T).length) ∧ s.tm 21 = .v (.int .i64 i) ∧ i ≤ (worldsOf p T).length ∧ (e = 1 → i = (worldsOf p T).length)
def Ikt2 (p T : Nat) (e : Nat) (s : S) : Prop := ∃ i : Nat, s.tm 6 = .v (.int .i64 (andAll (2 ^ p - 1) (worldsOf p T))) ∧ s.tm 29 = .v (.int .i64 p) ∧ s.tm 30 = .v (.int .i64 i) ∧ i ≤ p ∧ (∀ k, k < i → tells p T k = false) ∧ (e = 1 → i = p)
theorem knownTeller_fn (p T : Nat) (h1 : 1 ≤ p) (h4 : p ≤ 4) (hT : InT p T) : FnZ Try.prog 9 [.int .i64 p, .int .i64 T] (.int .i64 (kt p T)) := by
  have hw := worldsIn_fn p T (tab_ok h1 h4 hT) h1 h4
  have ws : IntKind.wrap .i64 (2 ^ min p IntKind.i64.bits) = ((2 ^ p : Nat) : Int) := by rw [shl_fact (by omega)]; simp
  have hN : 2 ^ p ≤ 2 ^ 4 := Nat.pow_le_pow_right (by omega) h4
  have hN1 : 1 ≤ 2 ^ p := Nat.one_le_two_pow
  have w1 : IntKind.wrap .i64 (((2 ^ p : Nat) : Int) - 1) = ((2 ^ p - 1 : Nat) : Int) := by rw [w64 (by omega) (by omega)]; omega
  have hp0 : ¬ (p : Int) < 0 := by omega
  have hnil := worlds_nil hT
  obtain ⟨s1, s2⟩ := worlds_small (T := T) h4
  refine FnZ_of (rs := [.tmp 4]) false Try.func9 rfl rfl rfl rfl (Nat.le_of_ble_eq_true rfl) ?_
  simp -dsimp
  refine call_ hw (by simp -dsimp) ?_
  by_cases h0 : T = 0
  · have e := hnil.2 h0
    have e2 : kt p T = -1 := if_pos h0
    simp -dsimp [e, e2]
  have hne : ¬ worldsOf p T = [] := fun h => h0 (hnil.1 h)
  have hne2 : ¬ ((worldsOf p T).length : Int) = 0 := fun h => hne (List.length_eq_zero_iff.1 (by omega))
  have ekt : kt p T = ktell p T := if_neg h0
  have hwt := fun k hk => worlds_tells (p := p) (T := T) (k := k) hk
  have wsp : IntKind.wrap .i64 ((2 : Int) ^ p - 1) = ((2 ^ p - 1 : Nat) : Int) := by rw [← w1]; simp
  have hAl := fun l => andAll_le (2 ^ p - 1) l
  rw [ekt]
  clear ekt hnil
  simp -dsimp [hne, hne2, ws, w1, wsp, hp0]
  refine twp_loopC (Ikt1 p T 0) (fun s => (worldsOf p T).length - natOf (s.tm 21)) (Ikt1 p T 1) ?_ ?_ ?_
  · exact ⟨0, by simp -dsimp, by simp -dsimp [andAll], by simp -dsimp, by simp -dsimp, by simp -dsimp, by omega, by simp⟩
  · rintro s ⟨i, t0, t6, t19, t20, t21, hi, hend⟩
    by_cases hlt : i < (worldsOf p T).length
    case neg =>
      simp -dsimp [t20, t21, hlt]
      exact ⟨i, by simp -dsimp [t0], by simp -dsimp [t6], by simp -dsimp [t19], by simp -dsimp [t20], by simp -dsimp [t21], hi, fun _ => by omega⟩
    have htk : (worldsOf p T).take (i + 1) = (worldsOf p T).take i ++ [(worldsOf p T)[i]] := List.take_succ_eq_append_getElem hlt
    have hw16 := s2 _ (List.getElem_mem hlt)
    have hA := hAl ((worldsOf p T).take i)
    have hget : ((worldsOf p T).map fun w => V.int .i64 (w : Nat))[i]? = some (.int .i64 ((worldsOf p T)[i] : Nat)) := by simp [hlt]
    have wi : IntKind.wrap .i64 ((i : Int) + 1) = ((i + 1 : Nat) : Int) := by rw [w64 (by omega) (by omega)]; omega
    have hmu : (worldsOf p T).length - (i + 1) < (worldsOf p T).length - i := by omega
    have hand := and_nn (a := andAll (2 ^ p - 1) ((worldsOf p T).take i)) (b := (worldsOf p T)[i]) (by omega) (by omega)
    have hsn := andAll_snoc (2 ^ p - 1) ((worldsOf p T).take i) (worldsOf p T)[i]
    rw [← htk] at hsn
    rw [← hsn] at hand
    clear hsn htk hA
    generalize hA1 : andAll (2 ^ p - 1) ((worldsOf p T).take (i + 1)) = A1 at *
    generalize andAll (2 ^ p - 1) ((worldsOf p T).take i) = A0 at *
    simp -dsimp [t6, t19, t20, t21, hlt, hget, hand, wi, hmu]
    exact ⟨i + 1, by simp -dsimp [t0], by simp -dsimp [hA1], by simp -dsimp [t19], by simp -dsimp [t20], by simp -dsimp, by omega, by simp⟩
  · rintro s ⟨i, t0, t6, t19, t20, t21, hi, hend⟩
    have := hend rfl
    subst this
    rw [List.take_length] at t6
    have hA := hAl (worldsOf p T)
    simp -dsimp [t0, t6]
    refine twp_loopC (Ikt2 p T 0) (fun s => p - natOf (s.tm 30)) (Ikt2 p T 1) ?_ ?_ ?_
    · exact ⟨0, by simp -dsimp [t6], by simp -dsimp, by simp -dsimp, by omega, fun k hk => absurd hk (by omega), by simp⟩
    · rintro s ⟨i, u6, u29, u30, hi, hno, hend⟩
      by_cases hlt : i < p
      case neg =>
        simp -dsimp [u29, u30, hlt]
        exact ⟨i, by simp -dsimp [u6], by simp -dsimp [u29], by simp -dsimp [u30], hi, hno, fun _ => by omega⟩
      have wi : IntKind.wrap .i64 ((i : Int) + 1) = ((i + 1 : Nat) : Int) := by rw [w64 (by omega) (by omega)]; omega
      have hmu : p - (i + 1) < p - i := by omega
      have hb := bit1 (andAll (2 ^ p - 1) (worldsOf p T)) i (by omega) (by omega)
      have z3 : ¬ (i : Int) < 0 := by omega
      have hwi := hwt i hlt
      rw [hwi] at hb
      have htc := ft (tells p T i)
      generalize hAA : andAll (2 ^ p - 1) (worldsOf p T) = A at *
      rcases htc with htc | htc
      · rw [htc] at hb
        simp -dsimp [u6, u29, u30, hlt, z3, hb, wi, hmu]
        refine ⟨i + 1, by simp -dsimp [u6, hAA], by simp -dsimp [u29], by simp -dsimp, by omega, fun k hk => ?_, by simp⟩
        rcases Nat.lt_or_ge k i with h | h
        · exact hno k h
        · have : k = i := by omega
          rw [this]; exact htc
      · rw [htc] at hb
        have e : ktell p T = (i : Int) := by
          unfold ktell
          rcases find_range (f := tells p T) p with ⟨d, g1, g2, g3, g4⟩ | ⟨g1, g2⟩
          · rw [g1]
            have : d = i := by
              rcases Nat.lt_trichotomy d i with h | h | h
              · rw [hno d h] at g3; cases g3
              · exact h
              · rw [g4 i h] at htc; cases htc
            rw [this]
          · rw [g2 i hlt] at htc; cases htc
        simp -dsimp [u6, u29, u30, hlt, z3, hb, e]
    · rintro s ⟨i, u6, u29, u30, hi, hno, hend⟩
      have := hend rfl
      subst this
      have e : ktell i T = -1 := by
        unfold ktell
        rcases find_range (f := tells i T) i with ⟨d, g1, g2, g3, g4⟩ | ⟨g1, g2⟩
        · rw [hno d g2] at g3; cases g3
        · rw [g1]
      simp -dsimp [e]
end TL

/- The least number of questions: the program, with its memory of tables. -/
set_option linter.unusedSimpArgs false
set_option linter.unusedVariables false
set_option maxRecDepth 100000
set_option maxHeartbeats 4000000
set_option pp.maxSteps 1500
namespace TL
open Go Go.Proofs
theorem mapZ_ii : mapZ Try.prog 34 = some (.int .i64 0) := by kernel_rfl
attribute [local simp] mapZ_ii
/-- A loop in its block at the end of another block, with a cut behind it. -/
theorem twp_loopB {P : Program} {c : Code} {i : Nat} {Q : TExit → S → Prop} {s : S} (I : S → Prop) (μ : S → Nat) (J : S → Prop) (hi : I s)
    (hs : ∀ s, I s → twp P c (fun e s1 => thenP (fun s' => I s' ∧ μ s' < μ s) (fun e s => blockP i (fun e s1 => thenP J Q e s1) e s) e s1) s)
    (hj : ∀ s, J s → Q .normal s) : twp P (.loop c) (fun e s => blockP i Q e s) s := by
  refine twp_mono (.loop c) (fun e s g => ?_) (twp_loopC (A := fun s => Q .normal s) (Q := Q) (i := i) I μ J hi hs hj)
  have key : ∀ e s, thenP (fun s => Q .normal s) Q e s → Q e s := fun e s g => by
    cases e with
    | normal => exact g
    | exit j => exact g
    | ret => exact g
  cases e with
  | normal => exact key .normal s g
  | ret => exact key .ret s g
  | exit j =>
    by_cases hj : j = i
    · simp only [blockP, hj, if_true] at g ⊢; exact key _ _ g
    · simp only [blockP, hj, if_false] at g ⊢; exact key _ _ g
theorem mget_mset (k j : Int) (v : V) : ∀ es : List (Int × V), mget k (mset j v es) = if k = j then some v else mget k es
  | [] => by
    simp only [mset, mget]
    by_cases h : j = k
    · simp [h]
    · simp [h, Ne.symm h]
  | (a, u) :: es => by
    have ih := mget_mset k j v es
    by_cases h : a = j
    · subst h
      simp only [mset, if_true, mget]
      by_cases h2 : a = k
      · simp [h2]
      · simp [h2, Ne.symm h2]
    · simp only [mset, if_neg h, mget]
      by_cases h2 : a = k
      · subst h2; simp [h]
      · simp only [if_neg h2, ih]
def GoodM (p : Nat) (es : List (Int × V)) : Prop := ∀ (T : Nat) (v : V), mget (T : Int) es = some v → v = .int .i64 (lv p p T)
theorem GoodM.set {p T : Nat} {es : List (Int × V)} (h : GoodM p es) : GoodM p (mset (T : Int) (.int .i64 (lv p p T)) es) := fun U v hv => by
  rw [mget_mset] at hv
  split at hv
  · rename_i he
    have : U = T := by omega
    subst this
    cases hv; rfl
  · exact h U v hv
theorem split_lt {p T i j : Nat} (hT : InT p T) (h : splits p T i j = true) : askY p T i j < T ∧ askN p T i j < T := by
  obtain ⟨h1, h2⟩ := splits_iff.1 h
  have l1 : askY p T i j ≤ T := Nat.and_le_left
  have l2 : askN p T i j ≤ T := Nat.and_le_left
  obtain ⟨u, hu⟩ := ne_zero_iff.1 h1
  obtain ⟨v, hv⟩ := ne_zero_iff.1 h2
  rw [bit_askY hT, Bool.and_eq_true] at hu
  rw [bit_askN hT, Bool.and_eq_true] at hv
  refine ⟨Nat.lt_of_le_of_ne l1 fun e => ?_, Nat.lt_of_le_of_ne l2 fun e => ?_⟩
  · have := bit_askY (i := i) (j := j) (w := v) hT
    rw [e, hv.1] at this
    have q := hv.2
    rw [show (v.testBit i == v.testBit j) = true by simpa using this.symm] at q
    cases q
  · have := bit_askN (i := i) (j := j) (w := u) hT
    rw [e, hu.1, hu.2] at this
    simp at this
theorem andnot_ask {p T i j : Nat} (h4 : p ≤ 4) (hT : InT p T) : IntKind.i64.wrap ((T % 2 ^ IntKind.i64.bits &&& 2 ^ IntKind.i64.bits - 1 - askY p T i j % 2 ^ IntKind.i64.bits : Nat) : Int) = ((askN p T i j : Nat) : Int) := by
  have hs : T < 65536 := table_small h4 hT
  have l1 : askY p T i j ≤ T := Nat.and_le_left
  have l2 : askN p T i j ≤ T := Nat.and_le_left
  have e : (T % 2 ^ IntKind.i64.bits &&& 2 ^ IntKind.i64.bits - 1 - askY p T i j % 2 ^ IntKind.i64.bits) = askN p T i j := by
    have hb : IntKind.i64.bits = 64 := rfl
    rw [hb]
    have e1 : T % 2 ^ 64 = T := Nat.mod_eq_of_lt (by omega)
    have e2 : askY p T i j % 2 ^ 64 = askY p T i j := Nat.mod_eq_of_lt (by omega)
    rw [e1, e2, show 2 ^ 64 - 1 - askY p T i j = 2 ^ 64 - (askY p T i j + 1) by omega]
    apply Nat.eq_of_testBit_eq; intro w
    rw [Nat.testBit_and, Nat.testBit_two_pow_sub_succ (by omega), bit_askY hT, bit_askN hT]
    cases hw : T.testBit w
    · rfl
    · have hw16 := hT.bit hw
      have hN : 2 ^ p ≤ 2 ^ 4 := Nat.pow_le_pow_right (by omega) h4
      have : w < 64 := by omega
      simp [this]
  rw [e, w64 (by omega) (by omega)]
theorem asked_ask {p T i j : Nat} (h1 : 1 ≤ p) (h4 : p ≤ 4) (hT : InT p T) (hi : i < p) (hj : j < p) : asked p T i j true = ((askY p T i j : Nat) : Int) := by
  unfold asked
  rw [if_pos ⟨tab_ok h1 h4 hT, by omega, by omega, by omega, by omega⟩]; rfl
theorem lv_ge (p m T : Nat) : -1 ≤ lv p m T := by
  rcases lv_is p m T with ⟨h1, _⟩ | ⟨d, _, h2, _⟩ <;> omega
theorem updM_two (m : Mem) (i : Nat) (a b : Option Blk) : updM (updM m i a) i b = updM m i b := by
  funext x; by_cases h : x = i <;> simp [h]
def Ilo (p T id : Nat) (m0 : Mem) (n0 : Nat) (e : Nat) (s : S) : Prop := ∃ (i : Nat) (best : Int) (es : List (Int × V)), s.tm 0 = .v (.int .i64 p) ∧ s.tm 1 = .v (.int .i64 T) ∧ s.tm 2 = .mp id ∧ s.tm 9 = .v (.int .i64 best) ∧ s.tm 32 = .v (.int .i64 p) ∧ s.tm 33 = .v (.int .i64 i) ∧ i ≤ p ∧
  InvB p T (lv p p) (fun a b => a < i ∧ b < a) best ∧ n0 ≤ s.n ∧ GoodM p es ∧ s.m = updM m0 id (some (.mp es)) ∧ (e = 1 → i = p)
def Ili (p T id i : Nat) (m0 : Mem) (n0 : Nat) (e : Nat) (s : S) : Prop := ∃ (j : Nat) (best : Int) (es : List (Int × V)), s.tm 0 = .v (.int .i64 p) ∧ s.tm 1 = .v (.int .i64 T) ∧ s.tm 2 = .mp id ∧ s.tm 9 = .v (.int .i64 best) ∧ s.tm 10 = .v (.int .i64 i) ∧ s.tm 32 = .v (.int .i64 p) ∧ s.tm 33 = .v (.int .i64 i) ∧ s.tm 36 = .v (.int .i64 i) ∧ s.tm 37 = .v (.int .i64 j) ∧ j ≤ i ∧
  InvB p T (lv p p) (fun a b => (a < i ∧ b < a) ∨ (a = i ∧ b < j)) best ∧ n0 ≤ s.n ∧ GoodM p es ∧ s.m = updM m0 id (some (.mp es)) ∧ (e = 1 → j = i)
theorem leastAsks_s (p : Nat) (h1 : 1 ≤ p) (h4 : p ≤ 4) : ∀ T, InT p T → ∀ (m : Mem) (n id : Nat) (es : List (Int × V)), id < n → m id = some (.mp es) → GoodM p es →
    FnS Try.prog 15 m n [.v (.int .i64 p), .v (.int .i64 T), .mp id] (fun t m' n' => t = .v (.int .i64 (lv p p T)) ∧ n ≤ n' ∧ ∃ es', GoodM p es' ∧ m' = updM m id (some (.mp es'))) := by
  intro T
  induction T using Nat.strongRecOn with
  | _ T ih =>
  intro hT m n id es hid hm hg
  have hkt := knownTeller_fn p T h1 h4 hT
  have hdn := kt_done (p := p) (T := T)
  have hself : m = updM m id (some (.mp es)) := (updM_self hm).symm
  by_cases h0 : T = 0
  · have e : lv p p T = 0 := lv_done (hdn.1 (.inr h0))
    refine FnS_of (rs := [.tmp 6]) false Try.func15 rfl rfl rfl rfl (Nat.le_of_ble_eq_true rfl) ?_
    simp -dsimp [h0]
    exact ⟨by rw [← h0, e], es, hg, hself⟩
  by_cases hk : 0 ≤ kt p T
  · have e : lv p p T = 0 := lv_done (hdn.1 (.inl hk))
    generalize kt p T = q at *
    refine FnS_of (rs := [.tmp 6]) false Try.func15 rfl rfl rfl rfl (Nat.le_of_ble_eq_true rfl) ?_
    simp -dsimp [h0]
    refine call_ hkt (by simp -dsimp) ?_
    simp -dsimp [h0, hk]
    exact ⟨by rw [e], es, hg, hself⟩
  have hd : doneT p T = false := by
    cases hq : doneT p T
    · rfl
    · rcases hdn.2 hq with h | h
      · exact absurd h hk
      · exact absurd h h0
  generalize kt p T = q at *
  cases hme : mget (T : Int) es with
  | some v =>
    have hv := hg T v hme
    subst hv
    refine FnS_of (rs := [.tmp 6]) false Try.func15 rfl rfl rfl rfl (Nat.le_of_ble_eq_true rfl) ?_
    simp -dsimp [h0]
    refine call_ hkt (by simp -dsimp) ?_
    simp -dsimp [h0, hk, hm, hme]
    exact ⟨es, hg, hself⟩
  | none =>
    refine FnS_of (rs := [.tmp 6]) false Try.func15 rfl rfl rfl rfl (Nat.le_of_ble_eq_true rfl) ?_
    simp -dsimp [h0]
    refine call_ hkt (by simp -dsimp) ?_
    simp -dsimp [h0, hk, hm, hme]
    refine twp_loopC (Ilo p T id m n 0) (fun s => p - natOf (s.tm 33)) (Ilo p T id m n 1) ?_ ?_ ?_
    · exact ⟨0, -1, es, by simp -dsimp, by simp -dsimp, by simp -dsimp, by simp -dsimp, by simp -dsimp, by simp -dsimp, by omega, .inl ⟨rfl, fun a b hab => by omega⟩, by simp -dsimp, hg, by simpa -dsimp using hself, by simp⟩
    · rintro s ⟨i, best, es1, t0, t1, t2, t9, t32, t33, hi, hinv, hn, hg1, hmm, hend⟩
      by_cases hlt : i < p
      case neg =>
        simp -dsimp [t32, t33, hlt]
        exact ⟨i, best, es1, by simp -dsimp [t0], by simp -dsimp [t1], by simp -dsimp [t2], by simp -dsimp [t9], by simp -dsimp [t32], by simp -dsimp [t33], hi, hinv, by simp -dsimp [hn], hg1, by simp -dsimp [hmm], fun _ => by omega⟩
      have wi : IntKind.wrap .i64 ((i : Int) + 1) = ((i + 1 : Nat) : Int) := by rw [w64 (by omega) (by omega)]; omega
      have hmu : p - (i + 1) < p - i := by omega
      simp -dsimp [t32, t33, hlt]
      refine twp_loopB (Ili p T id i m n 0) (fun s => i - natOf (s.tm 37)) (Ili p T id i m n 1) ?_ ?_ ?_
      · exact ⟨0, best, es1, by simp -dsimp [t0], by simp -dsimp [t1], by simp -dsimp [t2], by simp -dsimp [t9], by simp -dsimp, by simp -dsimp [t32], by simp -dsimp [t33], by simp -dsimp, by simp -dsimp, by omega, hinv.same (fun a b => by omega), by simp -dsimp [hn], hg1, by simp -dsimp [hmm], by simp⟩
      · rintro s2 ⟨j, best, es2, u0, u1, u2, u9, u10, u32, u33, u36, u37, hj, hinv2, hn2, hg2, hmm2, hend2⟩
        by_cases hlt2 : j < i
        case neg =>
          simp -dsimp [u36, u37, hlt2]
          exact ⟨j, best, es2, by simp -dsimp [u0], by simp -dsimp [u1], by simp -dsimp [u2], by simp -dsimp [u9], by simp -dsimp [u10], by simp -dsimp [u32], by simp -dsimp [u33], by simp -dsimp [u36], by simp -dsimp [u37], hj, hinv2, by simp -dsimp [hn2], hg2, by simp -dsimp [hmm2], fun _ => by omega⟩
        have wj : IntKind.wrap .i64 ((j : Int) + 1) = ((j + 1 : Nat) : Int) := by rw [w64 (by omega) (by omega)]; omega
        have hmu2 : i - (j + 1) < i - j := by omega
        have hask := asked_fn p T i j true
        rw [asked_ask h1 h4 hT hlt (show j < p by omega)] at hask
        have hnot := andnot_ask (i := i) (j := j) h4 hT
        have hstep := hinv2.step (S' := fun a b => (a < i ∧ b < a) ∨ (a = i ∧ b < j + 1)) (a := i) (c := j) (fun a b => by omega)
        obtain ⟨y, hY⟩ : ∃ y, askY p T i j = y := ⟨_, rfl⟩
        obtain ⟨z, hZ⟩ : ∃ z, askN p T i j = z := ⟨_, rfl⟩
        have hyT := hT.askY (i := i) (j := j)
        have hzT := hT.askN (i := i) (j := j)
        have hlts := fun h => split_lt (i := i) (j := j) hT h
        have hcd : candB p T (lv p p) i j = if splits p T i j = true ∧ 0 ≤ lv p p y ∧ 0 ≤ lv p p z then some (1 + max (lv p p y) (lv p p z)) else none := by rw [← hY, ← hZ]; rfl
        have hspi := splits_iff (p := p) (T := T) (i := i) (j := j)
        rw [hY] at hask hnot hyT hlts hspi
        rw [hZ] at hnot hzT hlts hspi
        cases hsp : splits p T i j with
        | false =>
          rw [hsp] at hcd hspi
          rw [hcd, if_neg (by simp)] at hstep
          simp only [stepB] at hstep
          by_cases hy0 : y = 0
          · simp -dsimp [u0, u1, u2, u9, u10, u36, u37, hlt2, hnot]
            refine call_ hask (by simp -dsimp) ?_
            simp -dsimp [u0, u1, u2, u9, u10, u36, u37, hlt2, hnot, hy0, wj, hmu2]
            exact ⟨j + 1, best, es2, by simp -dsimp [u0], by simp -dsimp [u1], by simp -dsimp [u2], by simp -dsimp [u9], by simp -dsimp [u10], by simp -dsimp [u32], by simp -dsimp [u33], by simp -dsimp [u36], by simp -dsimp, by omega, hstep, by simp -dsimp; omega, hg2, by simp -dsimp [hmm2], by simp⟩
          · have hz0 : z = 0 := by
              refine Classical.byContradiction fun hz => ?_
              have := hspi.2 ⟨hy0, hz⟩
              cases this
            simp -dsimp [u0, u1, u2, u9, u10, u36, u37, hlt2, hnot]
            refine call_ hask (by simp -dsimp) ?_
            simp -dsimp [u0, u1, u2, u9, u10, u36, u37, hlt2, hnot, hy0, hz0, wj, hmu2]
            exact ⟨j + 1, best, es2, by simp -dsimp [u0], by simp -dsimp [u1], by simp -dsimp [u2], by simp -dsimp [u9], by simp -dsimp [u10], by simp -dsimp [u32], by simp -dsimp [u33], by simp -dsimp [u36], by simp -dsimp, by omega, hstep, by simp -dsimp; omega, hg2, by simp -dsimp [hmm2], by simp⟩
        | true =>
          rw [hsp] at hspi hcd
          obtain ⟨hy0, hz0⟩ := hspi.1 rfl
          obtain ⟨l1, l2⟩ := hlts hsp
          have ihy := ih y l1 hyT
          have ihz := ih z l2 hzT
          have a1 := lv_ge p p y
          have a2 := lv_lt (m := p) h1 hyT
          have b1 := lv_ge p p z
          have b2 := lv_lt (m := p) h1 hzT
          obtain ⟨a, ha⟩ : ∃ a, lv p p y = a := ⟨_, rfl⟩
          obtain ⟨b, hb⟩ : ∃ b, lv p p z = b := ⟨_, rfl⟩
          simp only [ha, hb] at ihy ihz a1 a2 b1 b2 hcd
          have wab : IntKind.wrap .i64 (1 + max a b) = 1 + max a b := w64 (by omega) (by omega)
          simp -dsimp [u0, u1, u2, u9, u10, u36, u37, hlt2, hnot]
          refine call_ hask (by simp -dsimp) ?_
          simp -dsimp [u0, u1, u2, u9, u10, u36, u37, hlt2, hnot, hy0, hz0]
          refine callS_ (ihy s2.m s2.n id es2 (by omega) (by rw [hmm2]; simp) hg2) ?_
          rintro t m3 n3 ⟨rfl, hn3, es3, hg3, rfl⟩
          simp -dsimp [u0, u1, u2, u9, u10, u36, u37, hlt2, hnot, hy0, hz0]
          refine callS_ (ihz _ n3 id es3 (by omega) (by simp) hg3) ?_
          rintro t m4 n4 ⟨rfl, hn4, es4, hg4, rfl⟩
          by_cases ca : 0 ≤ a
          case neg =>
            rw [hcd, if_neg (by omega)] at hstep
            simp only [stepB] at hstep
            simp -dsimp [u0, u1, u2, u9, u10, u36, u37, hlt2, hnot, ca, wj, hmu2]
            exact ⟨j + 1, best, es4, by simp -dsimp [u0], by simp -dsimp [u1], by simp -dsimp [u2], by simp -dsimp [u9], by simp -dsimp [u10], by simp -dsimp [u32], by simp -dsimp [u33], by simp -dsimp [u36], by simp -dsimp, by omega, hstep, by simp -dsimp; omega, hg4, by simp -dsimp [hmm2, updM_two], by simp⟩
          by_cases cb : 0 ≤ b
          case neg =>
            rw [hcd, if_neg (by omega)] at hstep
            simp only [stepB] at hstep
            simp -dsimp [u0, u1, u2, u9, u10, u36, u37, hlt2, hnot, ca, cb, wj, hmu2]
            exact ⟨j + 1, best, es4, by simp -dsimp [u0], by simp -dsimp [u1], by simp -dsimp [u2], by simp -dsimp [u9], by simp -dsimp [u10], by simp -dsimp [u32], by simp -dsimp [u33], by simp -dsimp [u36], by simp -dsimp, by omega, hstep, by simp -dsimp; omega, hg4, by simp -dsimp [hmm2, updM_two], by simp⟩
          rw [hcd, if_pos (by simp [ca, cb])] at hstep
          simp only [stepB] at hstep
          by_cases cc : best < 0
          · rw [if_pos (.inl cc)] at hstep
            simp -dsimp [u0, u1, u2, u9, u10, u36, u37, hlt2, hnot, ca, cb, cc, wab, wj, hmu2]
            exact ⟨j + 1, 1 + max a b, es4, by simp -dsimp [u0], by simp -dsimp [u1], by simp -dsimp [u2], by simp -dsimp [u9], by simp -dsimp [u10], by simp -dsimp [u32], by simp -dsimp [u33], by simp -dsimp [u36], by simp -dsimp, by omega, hstep, by simp -dsimp; omega, hg4, by simp -dsimp [hmm2, updM_two], by simp⟩
          by_cases cd : 1 + max a b < best
          · rw [if_pos (.inr cd)] at hstep
            simp -dsimp [u0, u1, u2, u9, u10, u36, u37, hlt2, hnot, ca, cb, cc, cd, wab, wj, hmu2]
            exact ⟨j + 1, 1 + max a b, es4, by simp -dsimp [u0], by simp -dsimp [u1], by simp -dsimp [u2], by simp -dsimp [u9], by simp -dsimp [u10], by simp -dsimp [u32], by simp -dsimp [u33], by simp -dsimp [u36], by simp -dsimp, by omega, hstep, by simp -dsimp; omega, hg4, by simp -dsimp [hmm2, updM_two], by simp⟩
          · rw [if_neg (by omega)] at hstep
            simp -dsimp [u0, u1, u2, u9, u10, u36, u37, hlt2, hnot, ca, cb, cc, cd, wab, wj, hmu2]
            exact ⟨j + 1, best, es4, by simp -dsimp [u0], by simp -dsimp [u1], by simp -dsimp [u2], by simp -dsimp [u9], by simp -dsimp [u10], by simp -dsimp [u32], by simp -dsimp [u33], by simp -dsimp [u36], by simp -dsimp, by omega, hstep, by simp -dsimp; omega, hg4, by simp -dsimp [hmm2, updM_two], by simp⟩
      · rintro s2 ⟨j, best, es2, u0, u1, u2, u9, u10, u32, u33, u36, u37, hj, hinv2, hn2, hg2, hmm2, hend2⟩
        have := hend2 rfl
        subst this
        simp -dsimp [u0, u33, wi, hmu, t33]
        exact ⟨j + 1, best, es2, by simp -dsimp [u0], by simp -dsimp [u1], by simp -dsimp [u2], by simp -dsimp [u9], by simp -dsimp [u32], by simp -dsimp, by omega, hinv2.same (fun a b => by omega), by simp -dsimp [hn2], hg2, by simp -dsimp [hmm2], by simp⟩
    · rintro s ⟨i, best, es1, t0, t1, t2, t9, t32, t33, hi, hinv, hn, hg1, hmm, hend⟩
      have := hend rfl
      subst this
      have hlv := (hinv.lv hT hd (fun a b hab => by omega) (fun a b ha hb => .inl ⟨ha, hb⟩)).down h1 (by omega) hT
      have e : best = lv i i T := IsLv.uniq hlv (lv_is i i T)
      subst e
      simp -dsimp [t1, t2, t9, hmm, V.flat]
      exact ⟨by omega, _, hg1.set (T := T), rfl⟩
end TL

/- The least number of questions: the program and the reference. -/
set_option linter.unusedSimpArgs false
set_option linter.unusedVariables false
set_option maxRecDepth 100000
set_option maxHeartbeats 4000000
set_option pp.maxSteps 1500
namespace TL
open Go Go.Proofs
attribute [local simp] mapZ_ii
def la (people t : Int) : Int := if tableOk people t = true then lv people.toNat people.toNat t.toNat else -1
theorem la_ok {p T : Nat} (h1 : 1 ≤ p) (h4 : p ≤ 4) (hT : InT p T) : la p T = lv p p T := by
  unfold la; rw [if_pos (tab_ok h1 h4 hT)]; rfl
theorem leastAsks_fn (people t : Int) : FnZ Try.prog 5 [.int .i64 people, .int .i64 t] (.int .i64 (la people t)) := by
  have hk := ft (tableOk people t)
  have hok := tableOk_fn people t
  rcases hk with hk | hk
  · have e : la people t = -1 := if_neg (by simp [hk])
    rw [hk] at hok
    refine FnZ_of (rs := [.tmp 4]) false Try.func5 rfl rfl rfl rfl (Nat.le_of_ble_eq_true rfl) ?_
    simp -dsimp
    refine call_ hok (by simp -dsimp) ?_
    simp -dsimp [e]
  · rw [hk] at hok
    obtain ⟨p, T, rfl, rfl, h1, h4, hT⟩ := tableOk_spec hk
    have e := la_ok h1 h4 hT
    have hs := leastAsks_s p h1 h4 T hT
    refine FnZ_of (rs := [.tmp 4]) false Try.func5 rfl rfl rfl rfl (Nat.le_of_ble_eq_true rfl) ?_
    simp -dsimp
    refine call_ hok (by simp -dsimp) ?_
    simp -dsimp [e]
    refine callS_ (hs _ 1 0 [] (by omega) (by simp) (fun U v h => by cases h)) ?_
    rintro t m3 n3 ⟨rfl, hn3, es3, hg3, rfl⟩
    simp -dsimp [e]
def Ilt1 (p T : Nat) (e : Nat) (s : S) : Prop := ∃ k : Nat, s.tm 0 = .v (.int .i64 p) ∧ s.tm 1 = .v (.int .i64 T) ∧ s.tm 5 = .v (.int .i64 k) ∧ k ≤ p ∧ (∀ i, i < k → tells p T i = false) ∧ (e = 1 → k = p)
def Ilt2 (p T k : Nat) (e : Nat) (s : S) : Prop := ∃ w : Nat, s.tm 0 = .v (.int .i64 p) ∧ s.tm 1 = .v (.int .i64 T) ∧ s.tm 5 = .v (.int .i64 k) ∧ s.tm 6 = .v (.bool ((List.range w).all fun w => !T.testBit w || w.testBit k)) ∧ s.tm 7 = .v (.int .i64 w) ∧ w ≤ 2 ^ p ∧ (e = 1 → w = 2 ^ p)
theorem l13Teller_fn (p T : Nat) (h1 : 1 ≤ p) (h4 : p ≤ 4) (hT : InT p T) : FnZ Try.prog 30 [.int .i64 p, .int .i64 T] (.int .i64 (ktell p T)) := by
  have hs := table_small h4 hT
  have hN : 2 ^ p ≤ 2 ^ 4 := Nat.pow_le_pow_right (by omega) h4
  have ws : IntKind.wrap .i64 (2 ^ min p IntKind.i64.bits) = ((2 ^ p : Nat) : Int) := by rw [shl_fact (by omega)]; simp
  have hp0 : ¬ (p : Int) < 0 := by omega
  refine FnZ_of (rs := [.tmp 4]) false Try.func30 rfl rfl rfl rfl (Nat.le_of_ble_eq_true rfl) ?_
  simp -dsimp
  refine twp_loopC (Ilt1 p T 0) (fun s => p - natOf (s.tm 5)) (Ilt1 p T 1) ?_ ?_ ?_
  · exact ⟨0, by simp -dsimp, by simp -dsimp, by simp -dsimp, by omega, fun i hi => absurd hi (by omega), by simp⟩
  · rintro s ⟨k, t0, t1, t5, hk, hno, hend⟩
    by_cases hlt : k < p
    case neg =>
      simp -dsimp [t0, t5, hlt]
      exact ⟨k, by simp -dsimp [t0], by simp -dsimp [t1], by simp -dsimp [t5], hk, hno, fun _ => by omega⟩
    have wk : IntKind.wrap .i64 ((k : Int) + 1) = ((k + 1 : Nat) : Int) := by rw [w64 (by omega) (by omega)]; omega
    have hmu : p - (k + 1) < p - k := by omega
    have z5 : ¬ (k : Int) < 0 := by omega
    simp -dsimp [t0, t5, hlt]
    refine twp_loopC (Ilt2 p T k 0) (fun s => 2 ^ p - natOf (s.tm 7)) (Ilt2 p T k 1) ?_ ?_ ?_
    · exact ⟨0, by simp -dsimp [t0], by simp -dsimp [t1], by simp -dsimp [t5], by simp -dsimp, by simp -dsimp, Nat.zero_le _, by simp⟩
    · rintro s2 ⟨w, u0, u1, u5, u6, u7, hw, hend2⟩
      generalize hNN : 2 ^ p = N at ws hN hw hend2
      by_cases hlt2 : w < N
      case neg =>
        simp -dsimp [u0, u7, hp0, ws, hlt2]
        exact ⟨w, by simp -dsimp [u0], by simp -dsimp [u1], by simp -dsimp [u5], by simp -dsimp [u6], by simp -dsimp [u7], by omega, fun _ => by omega⟩
      have ww : IntKind.wrap .i64 ((w : Int) + 1) = ((w + 1 : Nat) : Int) := by rw [w64 (by omega) (by omega)]; omega
      have hmu2 : N - (w + 1) < N - w := by omega
      have z7 : ¬ (w : Int) < 0 := by omega
      have b1 := bit2 T w (by omega)
      have b2 := bit2 w k (by omega)
      have hall : ((List.range (w + 1)).all fun w => !T.testBit w || w.testBit k) = (((List.range w).all fun w => !T.testBit w || w.testBit k) && (!T.testBit w || w.testBit k)) := by rw [List.range_succ, List.all_append]; simp
      generalize ((List.range w).all fun w => !T.testBit w || w.testBit k) = A at *
      cases A with
      | false =>
        simp -dsimp [u0, u1, u5, u6, u7, hp0, ws, hlt2, ww, hmu2]
        exact ⟨w + 1, by simp -dsimp [u0], by simp -dsimp [u1], by simp -dsimp [u5], by simp -dsimp [hall], by simp -dsimp, by omega, by simp⟩
      | true =>
        cases hb : T.testBit w with
        | false =>
          rw [hb] at b1 hall
          simp -dsimp [u0, u1, u5, u6, u7, hp0, ws, hlt2, ww, hmu2, z5, z7, b1, b2]
          exact ⟨w + 1, by simp -dsimp [u0], by simp -dsimp [u1], by simp -dsimp [u5], by simp -dsimp [hall], by simp -dsimp, by omega, by simp⟩
        | true =>
          rw [hb] at b1 hall
          cases hc : w.testBit k with
          | false =>
            rw [hc] at b2 hall
            simp -dsimp [u0, u1, u5, u6, u7, hp0, ws, hlt2, ww, hmu2, z5, z7, b1, b2]
            exact ⟨w + 1, by simp -dsimp [u0], by simp -dsimp [u1], by simp -dsimp [u5], by simp -dsimp [hall], by simp -dsimp, by omega, by simp⟩
          | true =>
            rw [hc] at b2 hall
            simp -dsimp [u0, u1, u5, u6, u7, hp0, ws, hlt2, ww, hmu2, z5, z7, b1, b2]
            exact ⟨w + 1, by simp -dsimp [u0], by simp -dsimp [u1], by simp -dsimp [u5], by simp -dsimp [hall], by simp -dsimp, by omega, by simp⟩
    · rintro s2 ⟨w, u0, u1, u5, u6, u7, hw, hend2⟩
      have := hend2 rfl
      subst this
      have htl : ((List.range (2 ^ p)).all fun w => !T.testBit w || w.testBit k) = tells p T k := rfl
      rw [htl] at u6
      have htc := ft (tells p T k)
      rcases htc with htc | htc
      · rw [htc] at u6
        simp -dsimp [u5, u6, wk, hmu, t5]
        refine ⟨k + 1, by simp -dsimp [u0], by simp -dsimp [u1], by simp -dsimp, by omega, fun i hi => ?_, by simp⟩
        rcases Nat.lt_or_ge i k with h | h
        · exact hno i h
        · have : i = k := by omega
          rw [this]; exact htc
      · have e : ktell p T = (k : Int) := by
          unfold ktell
          rcases find_range (f := tells p T) p with ⟨d, g1, g2, g3, g4⟩ | ⟨g1, g2⟩
          · rw [g1]
            have : d = k := by
              rcases Nat.lt_trichotomy d k with h | h | h
              · rw [hno d h] at g3; cases g3
              · exact h
              · rw [g4 k h] at htc; cases htc
            rw [this]
          · rw [g2 k hlt] at htc; cases htc
        rw [htc] at u6
        simp -dsimp [u5, u6, e]
  · rintro s ⟨k, t0, t1, t5, hk, hno, hend⟩
    have := hend rfl
    subst this
    have e : ktell k T = -1 := by
      unfold ktell
      rcases find_range (f := tells k T) k with ⟨d, g1, g2, g3, g4⟩ | ⟨g1, g2⟩
      · rw [hno d g2] at g3; cases g3
      · rw [g1]
    simp -dsimp [e]
end TL
