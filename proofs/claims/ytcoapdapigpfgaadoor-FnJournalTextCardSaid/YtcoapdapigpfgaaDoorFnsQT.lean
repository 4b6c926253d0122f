/- Terms as trees; their texts. -/
import Derived.Test.YtcoapdapigpfgaaDoorFnsQ8
set_option linter.unusedSimpArgs false
set_option linter.unusedVariables false
set_option maxRecDepth 100000
set_option maxHeartbeats 4000000
set_option pp.maxSteps 1500
namespace TL
open Go Go.Proofs
attribute [local simp] marksV storyV codeV Claim.v Place.v
inductive Tm where
  | tells (i : Nat) | count (n : Nat) | not (a : Tm) | bin (k : Nat) (a b : Tm)
def Tm.marks : Tm → List Mark
  | .tells i => [⟨0, i⟩]
  | .count n => [⟨1, n⟩]
  | .not a => a.marks ++ [⟨2, 0⟩]
  | .bin k a b => a.marks ++ b.marks ++ [⟨3 + k, 0⟩]
def Tm.kind : Tm → Nat
  | .tells _ => 0
  | .count _ => 1
  | .not _ => 2
  | .bin k _ _ => 3 + k
def Tm.ok : Tm → Prop
  | .tells i => i < 4
  | .count n => n < 6
  | .not a => a.ok
  | .bin k a b => k < 3 ∧ a.ok ∧ b.ok
def par (b : Bool) (s : List UInt8) : List UInt8 := if b then 40 :: (s ++ [41]) else s
def sign (k : Nat) : UInt8 := if k = 0 then 38 else if k = 1 then 124 else 61
def Tm.text : Tm → List UInt8
  | .tells i => [UInt8.ofNat (97 + i)]
  | .count n => [UInt8.ofNat (48 + n)]
  | .not a => 33 :: par (decide (3 ≤ a.kind)) a.text
  | .bin k a b => par (decide (3 + k < a.kind)) a.text ++ sign k :: par (decide (3 + k ≤ b.kind)) b.text
theorem par_len (b : Bool) (s : List UInt8) : (par b s).length ≤ s.length + 2 := by unfold par; split <;> simp
theorem Tm.marks_pos : ∀ T : Tm, 1 ≤ T.marks.length
  | .tells _ => by simp [marks]
  | .count _ => by simp [marks]
  | .not a => by simp [marks]
  | .bin k a b => by simp [marks]; omega
theorem Tm.text_len : ∀ T : Tm, T.text.length ≤ 6 * T.marks.length
  | .tells _ => by simp [text, marks]
  | .count _ => by simp [text, marks]
  | .not a => by
    have := a.text_len; have := par_len (decide (3 ≤ a.kind)) a.text
    simp [text, marks] at *; omega
  | .bin k a b => by
    have := a.text_len; have := b.text_len; have := par_len (decide (3 + k < a.kind)) a.text; have := par_len (decide (3 + k ≤ b.kind)) b.text
    simp [text, marks] at *; omega
theorem Tm.last : ∀ T : Tm, ∃ pre m, T.marks = pre ++ [m] ∧ m.kind = (T.kind : Int)
  | .tells i => ⟨[], ⟨0, i⟩, rfl, rfl⟩
  | .count n => ⟨[], ⟨1, n⟩, rfl, rfl⟩
  | .not a => ⟨a.marks, ⟨2, 0⟩, rfl, rfl⟩
  | .bin k a b => ⟨a.marks ++ b.marks, ⟨3 + k, 0⟩, rfl, by simp [kind]⟩
theorem Tm.kinds : ∀ T : Tm, T.ok → ∀ m ∈ T.marks, 0 ≤ m.kind ∧ m.kind ≤ 5
  | .tells i, _, m, hm => by simp [marks] at hm; subst hm; simp
  | .count n, _, m, hm => by simp [marks] at hm; subst hm; simp
  | .not a, h, m, hm => by
    simp only [marks, List.mem_append, List.mem_singleton] at hm
    rcases hm with hm | rfl
    · exact a.kinds h m hm
    · simp
  | .bin k a b, h, m, hm => by
    simp only [marks, List.mem_append, List.mem_singleton] at hm
    rcases hm with (hm | hm) | rfl
    · exact a.kinds h.2.1 m hm
    · exact b.kinds h.2.2 m hm
    · have := h.1; simp; omega
/-! A row of marks that is a term is a tree. -/
def flat (st : List Tm) : List Mark := st.flatMap Tm.marks
theorem flat_append (a b : List Tm) : flat (a ++ b) = flat a ++ flat b := by simp [flat]
theorem last_of {α : Type} {l : List α} {n : Nat} (h : l.length = n + 1) : ∃ a x, l = a ++ [x] ∧ a.length = n := by
  have hne : l ≠ [] := by rintro rfl; simp at h
  refine ⟨l.dropLast, l.getLast hne, (List.dropLast_concat_getLast hne).symm, by simp [h]⟩
theorem run_tree {people : Int} (hp : people ≤ 4) : ∀ (ms : List Mark) (parts q : Nat) (st : List Tm), st.length = parts → (∀ T ∈ st, T.ok) → marksRun people parts ms = some q → ∃ st' : List Tm, st'.length = q ∧ (∀ T ∈ st', T.ok) ∧ flat st' = flat st ++ ms
  | [], parts, q, st, h1, h2, h3 => by
    simp [marksRun] at h3; exact ⟨st, by omega, h2, by simp⟩
  | m :: ms, parts, q, st, h1, h2, h3 => by
    simp only [marksRun] at h3
    cases e : markStep people parts m with
    | none => rw [e] at h3; cases h3
    | some r =>
      rw [e] at h3
      have go : ∀ st1 : List Tm, st1.length = r → (∀ T ∈ st1, T.ok) → flat st1 = flat st ++ [m] → ∃ st' : List Tm, st'.length = q ∧ (∀ T ∈ st', T.ok) ∧ flat st' = flat st ++ m :: ms := fun st1 a b c => by
        obtain ⟨st', x, y, z⟩ := run_tree hp ms r q st1 a b h3
        exact ⟨st', x, y, by rw [z, c]; simp⟩
      obtain ⟨k, a⟩ := m
      unfold markStep at e
      simp only at e
      split at e
      · rename_i hk; subst hk
        split at e
        · rename_i ha; cases e
          refine go (st ++ [.tells a.toNat]) (by simp; omega) ?_ ?_
          · intro T hT; rcases List.mem_append.1 hT with hT | hT
            · exact h2 T hT
            · cases List.mem_singleton.1 hT; show a.toNat < 4; omega
          · have : ((a.toNat : Nat) : Int) = a := by omega
            simp [flat, Tm.marks, this]
        · cases e
      split at e
      · rename_i hk; subst hk
        split at e
        · rename_i ha; cases e
          refine go (st ++ [.count a.toNat]) (by simp; omega) ?_ ?_
          · intro T hT; rcases List.mem_append.1 hT with hT | hT
            · exact h2 T hT
            · cases List.mem_singleton.1 hT; show a.toNat < 6; omega
          · have : ((a.toNat : Nat) : Int) = a := by omega
            simp [flat, Tm.marks, this]
        · cases e
      split at e
      · rename_i hk; subst hk
        split at e
        · rename_i ha; cases e
          obtain ⟨rfl, hp1⟩ := ha
          obtain ⟨st0, x, rfl, hx⟩ := last_of (l := st) (n := parts - 1) (by omega)
          refine go (st0 ++ [.not x]) (by simp at h1 ⊢; omega) ?_ ?_
          · intro T hT; rcases List.mem_append.1 hT with hT | hT
            · exact h2 T (List.mem_append_left _ hT)
            · cases List.mem_singleton.1 hT; exact h2 x (by simp)
          · simp [flat, Tm.marks]
        · cases e
      split at e
      · rename_i hk
        split at e
        · rename_i ha; cases e
          obtain ⟨rfl, hp1⟩ := ha
          obtain ⟨st0, y, rfl, hy⟩ := last_of (l := st) (n := parts - 1) (by omega)
          obtain ⟨st1, x, rfl, hx⟩ := last_of (l := st0) (n := parts - 2) (by omega)
          refine go (st1 ++ [.bin (k - 3).toNat x y]) (by simp at h1 ⊢; omega) ?_ ?_
          · intro T hT; rcases List.mem_append.1 hT with hT | hT
            · exact h2 T (by simp [hT])
            · cases List.mem_singleton.1 hT; exact ⟨by omega, h2 x (by simp), h2 y (by simp)⟩
          · have : (3 : Int) + ((k - 3).toNat : Nat) = k := by omega
            simp [flat, Tm.marks]; omega
        · cases e
      · cases e
theorem termOk_tree {people : Int} {t : List Mark} (h : termOk people t = true) : ∃ T : Tm, T.ok ∧ T.marks = t := by
  simp only [termOk, peopleOk, Bool.and_eq_true, decide_eq_true_eq] at h
  obtain ⟨st, h1, h2, h3⟩ := run_tree (by omega) t 0 1 [] rfl (by simp) h.2
  obtain ⟨T, rfl⟩ := List.length_eq_one_iff.1 h1
  exact ⟨T, h2 T (by simp), by simpa [flat] using h3⟩
/-! Where the last part begins. -/
def dl (m : Mark) : Int := if m.kind = 0 ∨ m.kind = 1 then -1 else if m.kind = 3 ∨ m.kind = 4 ∨ m.kind = 5 then 1 else 0
def dsum (l : List Mark) : Int := (l.map dl).sum
@[simp] theorem dsum_nil : dsum [] = 0 := rfl
@[simp] theorem dsum_cons (m : Mark) (l : List Mark) : dsum (m :: l) = dl m + dsum l := by simp [dsum]
@[simp] theorem dsum_append (a b : List Mark) : dsum (a ++ b) = dsum a + dsum b := by simp [dsum]
theorem dl_abs (m : Mark) : -1 ≤ dl m ∧ dl m ≤ 1 := by unfold dl; split <;> (try split) <;> omega
theorem dsum_abs : ∀ l : List Mark, -(l.length : Int) ≤ dsum l ∧ dsum l ≤ l.length
  | [] => by simp
  | m :: l => by have := dsum_abs l; have := dl_abs m; simp; omega
theorem Tm.scan : ∀ T : Tm, T.ok → dsum T.marks = -1 ∧ ∀ j, 1 ≤ j → 0 ≤ dsum (T.marks.drop j)
  | .tells i, _ => ⟨by simp [marks, dl], fun j hj => by rw [List.drop_eq_nil_of_le (by simp [marks]; omega)]; simp⟩
  | .count i, _ => ⟨by simp [marks, dl], fun j hj => by rw [List.drop_eq_nil_of_le (by simp [marks]; omega)]; simp⟩
  | .not a, h => by
    obtain ⟨h1, h2⟩ := a.scan h
    have e : dl ⟨2, 0⟩ = 0 := by simp [dl]
    refine ⟨by simp [marks, h1, e], fun j hj => ?_⟩
    have := h2 j hj
    have e3 : 0 ≤ dsum ([(⟨2, 0⟩ : Mark)].drop (j - a.marks.length)) := by
      rcases Nat.eq_zero_or_pos (j - a.marks.length) with h | h
      · rw [h]; simp [e]
      · rw [List.drop_eq_nil_of_le (by simp; omega)]; simp
    simp only [marks, List.drop_append, dsum_append]; omega
  | .bin k a b, h => by
    obtain ⟨h1, h2⟩ := a.scan h.2.1
    obtain ⟨h3, h4⟩ := b.scan h.2.2
    have e : dl ⟨3 + k, 0⟩ = 1 := by have := h.1; unfold dl; rw [if_neg (by simp; omega), if_pos (by simp; omega)]
    refine ⟨by simp [marks, h1, h3, e], fun j hj => ?_⟩
    have := h2 j hj
    simp only [marks, List.drop_append, dsum_append, List.length_append]
    rcases Nat.eq_zero_or_pos (j - a.marks.length) with h0 | h0
    · have e4 : j - (a.marks.length + b.marks.length) = 0 := by omega
      rw [h0, e4]; simp [h3, e]; omega
    · have := h4 _ h0
      have e3 : 0 ≤ dsum ([(⟨3 + k, 0⟩ : Mark)].drop (j - (a.marks.length + b.marks.length))) := by
        rcases Nat.eq_zero_or_pos (j - (a.marks.length + b.marks.length)) with h | h
        · rw [h]; simp [e]
        · rw [List.drop_eq_nil_of_le (by simp; omega)]; simp
      omega
def Ilp (l : List Mark) (p : Nat) (s : S) : Prop := ∃ i : Nat, s.tm 0 = .v (.sl (l.map Mark.v)) ∧ s.tm 4 = .v (.int .i64 i) ∧ i < l.length ∧ p ≤ i ∧ s.tm 3 = .v (.int .i64 (1 + dsum (l.drop (i + 1))))
theorem lastPart_fn (pre : List Mark) (T : Tm) (hok : T.ok) (hl : (pre ++ T.marks).length ≤ 1048576) : FnZ Tryd.prog 117 [marksV (pre ++ T.marks)] (.int .i64 pre.length) := by
  obtain ⟨s1, s2⟩ := T.scan hok
  have hpos := T.marks_pos
  have d1 : dsum ((pre ++ T.marks).drop pre.length) = -1 := by simpa using s1
  have d2 : ∀ i, pre.length < i → 0 ≤ dsum ((pre ++ T.marks).drop i) := fun i hi => by
    rw [List.drop_append, List.drop_eq_nil_of_le (by omega), List.nil_append]; exact s2 _ (by omega)
  have hlen : pre.length < (pre ++ T.marks).length := by simp; omega
  generalize pre ++ T.marks = l at *
  generalize pre.length = p at *
  have w1 : IntKind.wrap .i64 ((l.length : Int) - 1) = ((l.length - 1 : Nat) : Int) := by rw [w64 (by omega) (by omega)]; omega
  refine FnZ_of (rs := [.tmp 2]) false Tryd.func117 rfl rfl rfl rfl (Nat.le_of_ble_eq_true rfl) ?_
  simp -dsimp [w1]
  refine twp_loop (Ilp l p) (fun s => natOf (s.tm 4)) ?_ ?_
  · refine ⟨l.length - 1, by simp -dsimp, by simp -dsimp, by omega, by omega, ?_⟩
    have e : l.drop (l.length - 1 + 1) = [] := List.drop_eq_nil_of_le (by omega)
    rw [e]; simp -dsimp
  · rintro s ⟨i, t0, t4, hi, hpi, t3⟩
    have hget : (l.map Mark.v)[i]? = some (l[i].v) := by simp [hi]
    have hd : dsum (l.drop i) = dl l[i] + dsum (l.drop (i + 1)) := by rw [drop_cons hi, dsum_cons]
    have habs := dsum_abs (l.drop (i + 1))
    rw [List.length_drop] at habs
    have hN0 := d2 (i + 1) (by omega)
    generalize hN : dsum (l.drop (i + 1)) = N at *
    have wn : IntKind.wrap .i64 (1 + N - 1) = N := by rw [w64 (by omega) (by omega)]; omega
    have wn' : IntKind.wrap .i64 N = N := w64 (by omega) (by omega)
    have wp : IntKind.wrap .i64 (1 + N + 1) = 1 + N + 1 := w64 (by omega) (by omega)
    have z1 : ¬ 1 + N = 0 := by omega
    have z2 : ¬ 1 + N + 1 = 0 := by omega
    have again : ∀ (s' : S) (x : Int), 0 < i → x = 1 + dsum (l.drop i) → s'.tm 0 = .v (.sl (l.map Mark.v)) → s'.tm 4 = .v (.int .i64 ((i - 1 : Nat) : Int)) → p ≤ i - 1 → s'.tm 3 = .v (.int .i64 x) → Ilp l p s' := fun s' x h0 hx a0 a4 hp a3 =>
      ⟨i - 1, a0, a4, by omega, hp, by rw [a3, hx, show i - 1 + 1 = i by omega]⟩
    have hmu : 0 < i → i - 1 < i := fun h => by omega
    have mins : dl l[i] = -1 → (N = 0 → i = p) ∧ (¬ N = 0 → p < i) := fun h => by
      constructor
      · intro h0
        by_cases hip : i = p
        · exact hip
        · have := d2 i (by omega); omega
      · intro h0
        by_cases hip : i = p
        · subst hip; omega
        · omega
    have plus : 0 ≤ dl l[i] → p < i := fun h => by
      by_cases hip : i = p
      · subst hip; omega
      · omega
    have wi : 0 < i → IntKind.wrap .i64 ((i : Int) - 1) = ((i - 1 : Nat) : Int) := fun h => by rw [w64 (by omega) (by omega)]; omega
    by_cases k01 : l[i].kind = 0 ∨ l[i].kind = 1
    · have hdl : dl l[i] = -1 := by unfold dl; rw [if_pos k01]
      obtain ⟨m1, m2⟩ := mins hdl
      by_cases hz : N = 0
      · have hip := m1 hz
        subst hip
        rcases k01 with k | k <;> simp -dsimp [t0, t3, t4, hi, hget, k, wn, wn', hz, show IntKind.wrap .i64 0 = 0 from rfl]
      · have hip := m2 hz
        have h0i : 0 < i := by omega
        have wi := wi h0i
        have hmu := hmu h0i
        rcases k01 with k | k
        · simp -dsimp [t0, t3, t4, hi, hget, k, wn, wn', hz, wi, hmu]
          exact again _ N h0i (by omega) (by simp -dsimp [t0]) (by simp -dsimp) (by omega) (by simp -dsimp)
        · simp -dsimp [t0, t3, t4, hi, hget, k, wn, wn', hz, wi, hmu]
          exact again _ N h0i (by omega) (by simp -dsimp [t0]) (by simp -dsimp) (by omega) (by simp -dsimp)
    have k0 := (not_or.1 k01).1
    have k1 := (not_or.1 k01).2
    by_cases k345 : l[i].kind = 3 ∨ l[i].kind = 4 ∨ l[i].kind = 5
    · have hdl : dl l[i] = 1 := by unfold dl; rw [if_neg k01, if_pos k345]
      have hip := plus (by omega)
      have h0i : 0 < i := by omega
      have wi := wi h0i
      have hmu := hmu h0i
      rcases k345 with k | k | k
      all_goals
        simp -dsimp [t0, t3, t4, hi, hget, k, wp, z2, wi, hmu]
        exact again _ (1 + N + 1) h0i (by omega) (by simp -dsimp [t0]) (by simp -dsimp) (by omega) (by simp -dsimp)
    · have hdl : dl l[i] = 0 := by unfold dl; rw [if_neg k01, if_neg k345]
      have hip := plus (by omega)
      have h0i : 0 < i := by omega
      have wi := wi h0i
      have hmu := hmu h0i
      have k3 := (not_or.1 k345).1
      have k4 := (not_or.1 (not_or.1 k345).2).1
      have k5 := (not_or.1 (not_or.1 k345).2).2
      simp -dsimp [t0, t3, t4, hi, hget, k0, k1, k3, k4, k5, z1, wi, hmu]
      exact again _ (1 + N) h0i (by omega) (by simp -dsimp [t0]) (by simp -dsimp) (by omega) (by simp -dsimp [t3])
def intOf : T → Int
  | .v (.int _ z) => z
  | _ => 0
@[simp] theorem intOf_int (k : IntKind) (z : Int) : intOf (.v (.int k z)) = z := rfl
def Ils (l : List Mark) (p e : Nat) (B : List Mark) (x : Nat) (s : S) : Prop := ∃ i : Nat, s.tm 0 = .v (.sl (l.map Mark.v)) ∧ s.tm 6 = .v (.int .i64 ((p : Int) + i - 1)) ∧ i ≤ B.length ∧ s.tm 5 = .v (.int .i64 (1 + dsum (B.drop i))) ∧ (x = 1 → i = 0)
theorem l2Starts_fn (pre rest : List Mark) (T : Tm) (hok : T.ok) (hl : (pre ++ T.marks ++ rest).length ≤ 1048576) :
    FnZ Tryd.prog 112 [marksV (pre ++ T.marks ++ rest), .int .i64 ((pre.length : Int) + T.marks.length - 1)] (.int .i64 pre.length) := by
  obtain ⟨s1, s2⟩ := T.scan hok
  have hpos := T.marks_pos
  have hk := T.kinds hok
  have hget : ∀ i, i < T.marks.length → ∃ m, T.marks[i]? = some m ∧ 0 ≤ m.kind ∧ m.kind ≤ 5 ∧ (pre ++ T.marks ++ rest)[pre.length + i]? = some m := fun i hi => by
    refine ⟨T.marks[i], List.getElem?_eq_getElem hi, (hk _ (List.getElem_mem _)).1, (hk _ (List.getElem_mem _)).2, ?_⟩
    rw [List.append_assoc, List.getElem?_append_right (by omega), List.getElem?_append_left (by omega)]
    rw [show pre.length + i - pre.length = i by omega, List.getElem?_eq_getElem hi]
  have hlen : pre.length + T.marks.length ≤ (pre ++ T.marks ++ rest).length := by simp
  generalize pre ++ T.marks ++ rest = l at *
  generalize pre.length = p at *
  generalize T.marks = B at *
  refine FnZ_of (rs := [.tmp 4]) false Tryd.func112 rfl rfl rfl rfl (Nat.le_of_ble_eq_true rfl) ?_
  simp -dsimp
  refine twp_loopC (Ils l p 0 B 0) (fun s => (intOf (s.tm 6) - p + 1).toNat) (Ils l p 0 B 1) ?_ ?_ ?_
  · refine ⟨B.length, by simp -dsimp, by simp -dsimp, by omega, ?_, by simp⟩
    rw [List.drop_length]; simp -dsimp
  · rintro s ⟨i, t0, t6, hi, t5, hx⟩
    by_cases hi0 : i = 0
    · subst hi0
      rw [List.drop_zero, s1] at t5
      simp -dsimp [t5]
      exact ⟨0, by simp -dsimp [t0], by simp -dsimp [t6], hi, by rw [List.drop_zero, s1]; simp -dsimp [t5], fun _ => rfl⟩
    have hN := s2 i (by omega)
    obtain ⟨m, hm1, hm2, hm3, hm4⟩ := hget (i - 1) (by omega)
    have hd : dsum (B.drop (i - 1)) = dl m + dsum (B.drop i) := by
      have hlt : i - 1 < B.length := by omega
      rw [drop_cons hlt, dsum_cons, show i - 1 + 1 = i by omega]
      rw [List.getElem?_eq_getElem hlt] at hm1
      cases hm1; rfl
    have habs := dsum_abs (B.drop i)
    rw [List.length_drop] at habs
    generalize hNN : dsum (B.drop i) = N at *
    have hz : 0 < 1 + N := by omega
    obtain ⟨q, hq⟩ : ∃ q : Nat, q = p + (i - 1) := ⟨_, rfl⟩
    have idx : ((p : Int) + i - 1) = (q : Int) := by omega
    rw [← hq] at hm4
    have wn : IntKind.wrap .i64 (1 + N - 1) = 1 + N - 1 := w64 (by omega) (by omega)
    have wn' : IntKind.wrap .i64 N = N := w64 (by omega) (by omega)
    have wp : IntKind.wrap .i64 (1 + N + 1) = 1 + N + 1 := w64 (by omega) (by omega)
    have wi : IntKind.wrap .i64 ((q : Int) - 1) = (p : Int) + (i - 1 : Nat) - 1 := by rw [w64 (by omega) (by omega)]; omega
    have again : ∀ (s' : S) (x : Int), x = 1 + dsum (B.drop (i - 1)) → s'.tm 0 = .v (.sl (l.map Mark.v)) → s'.tm 6 = .v (.int .i64 ((p : Int) + (i - 1 : Nat) - 1)) → s'.tm 5 = .v (.int .i64 x) → Ils l p 0 B 0 s' := fun s' x hx a0 a6 a5 =>
      ⟨i - 1, a0, a6, by omega, by rw [a5, hx], by simp⟩
    rw [idx] at t6
    have hmu : ((p : Int) + (i - 1 : Nat) - 1 - p + 1).toNat < ((q : Int) - p + 1).toNat := by omega
    by_cases k1 : m.kind ≤ 1
    · have hdl : dl m = -1 := by unfold dl; rw [if_pos (by omega)]
      simp -dsimp [t0, t5, t6, hz, hm4, k1, wn, wi]
      refine ⟨again _ (1 + N - 1) (by omega) (by simp -dsimp [t0]) (by simp -dsimp) (by simp -dsimp [t5]), ?_⟩
      omega
    · have k2 : ¬ m.kind ≤ 1 := k1
      by_cases k3 : 2 < m.kind
      · have hdl : dl m = 1 := by unfold dl; rw [if_neg (by omega), if_pos (by omega)]
        simp -dsimp [t0, t5, t6, hz, hm4, k2, k3, wp, wi]
        refine ⟨again _ (1 + N + 1) (by omega) (by simp -dsimp [t0]) (by simp -dsimp) (by simp -dsimp [t5]), ?_⟩
        omega
      · have hdl : dl m = 0 := by unfold dl; rw [if_neg (by omega), if_neg (by omega)]
        simp -dsimp [t0, t5, t6, hz, hm4, k2, k3, wi]
        refine ⟨again _ (1 + N) (by omega) (by simp -dsimp [t0]) (by simp -dsimp) (by simp -dsimp [t5]), ?_⟩
        omega
  · rintro s ⟨i, t0, t6, hi, t5, hx⟩
    have := hx rfl
    subst this
    have w : IntKind.wrap .i64 ((p : Int) + (0 : Nat) - 1 + 1) = p := by rw [w64 (by omega) (by omega)]; omega
    simp -dsimp [t6]
    exact w64 (by omega) (by omega)
/-! The texts. -/
def Ihe (l : List Mark) (st : List UInt8) (ks : List Int) (m : Mark) (s : S) : Prop := ∃ i : Nat, s.tm 0 = .v (.sl (l.map Mark.v)) ∧ s.tm 5 = .v (.str st) ∧ s.tm 10 = .v (.sl (ks.map (V.int .i64))) ∧ s.tm 11 = .v (.int .i64 ks.length) ∧ s.tm 12 = .v (.int .i64 i) ∧ i ≤ ks.length ∧ m.kind ∉ ks.take i
theorem held_fn (l : List Mark) (st : List UInt8) (pre : List Mark) (m : Mark) (ks : List Int) (hlast : l = pre ++ [m]) (h : FnZ Tryd.prog 91 [marksV l] (.str st)) (hs : st.length ≤ 1000000000) (hl : l.length ≤ 1048576) (hks : ks.length ≤ 10) :
    FnZ Tryd.prog 116 [marksV l, .sl (ks.map (V.int .i64))] (.str (par (decide (m.kind ∈ ks)) st)) := by
  have hlen : l.length = pre.length + 1 := by rw [hlast]; simp
  have hget : l[pre.length]? = some m := by rw [hlast]; simp
  have w1 : IntKind.wrap .i64 ((l.length : Int) - 1) = (pre.length : Int) := by rw [w64 (by omega) (by omega)]; omega
  have b1 : (1 : Int) + st.length ≤ 9223372036854775807 := by omega
  have b2 : (st.length : Int) + 1 + 1 ≤ 9223372036854775807 := by omega
  generalize pre.length = n at *
  refine FnZ_of (rs := [.tmp 4]) false Tryd.func116 rfl rfl rfl rfl (Nat.le_of_ble_eq_true rfl) ?_
  simp -dsimp
  refine call_ h (by simp -dsimp) ?_
  simp -dsimp
  refine twp_loopC (Ihe l st ks m) (fun s => ks.length - natOf (s.tm 12))
    (fun s => s.tm 5 = .v (.str st) ∧ m.kind ∉ ks) ?_ ?_ ?_
  · exact ⟨0, by simp -dsimp, by simp -dsimp, by simp -dsimp, by simp -dsimp, by simp -dsimp, by omega, by simp⟩
  · rintro s ⟨i, t0, t5, t10, t11, t12, hi, hn⟩
    by_cases hlt : i < ks.length
    case neg =>
      have : i = ks.length := by omega
      subst this
      rw [List.take_length] at hn
      simp -dsimp [t11, t12]
      exact ⟨by simp -dsimp [t5], hn⟩
    have hk : (ks.map (V.int .i64))[i]? = some (.int .i64 ks[i]) := by simp [hlt]
    have wi : IntKind.wrap .i64 ((i : Int) + 1) = ((i + 1 : Nat) : Int) := by rw [w64 (by omega) (by omega)]; omega
    have hmu : ks.length - (i + 1) < ks.length - i := by omega
    by_cases he : m.kind = ks[i]
    · have hin : m.kind ∈ ks := by rw [he]; exact List.getElem_mem _
      have he' : (m.kind = ks[i]) = True := eq_true he
      simp -dsimp [t0, t5, t10, t11, t12, hlt, hk, w1, hget, he', par, hin, b1, b2]
    · have hn' : m.kind ∉ ks.take (i + 1) := by
        rw [List.take_succ_eq_append_getElem hlt, List.mem_append, List.mem_singleton]
        exact not_or.2 ⟨hn, he⟩
      simp -dsimp [t0, t5, t10, t11, t12, hlt, hk, w1, hget, he, wi, hmu]
      exact ⟨i + 1, by simp -dsimp [t0], by simp -dsimp [t5], by simp -dsimp [t10], by simp -dsimp [t11], by simp -dsimp, by omega, hn'⟩
  · rintro s ⟨t5, hn⟩
    simp -dsimp [t5, par, hn]
end TL
