/- TL: parts FnsQE3, FnsQE6. -/
import Derived.Test.YtcoapdapigpfgaaDoorFnsQE2
import Derived.Test.YtcoapdapigpfgaaDoorFnsQ14
/- The exact law of the texts of deeds. -/
set_option linter.unusedSimpArgs false
set_option linter.unusedVariables false
set_option maxRecDepth 100000
set_option maxHeartbeats 4000000
set_option pp.maxSteps 1500
namespace TL
open Go Go.Proofs
attribute [local simp] marksV storyV codeV Claim.v Place.v Deed.v
def Deed.fit (a : Deed) : Prop := TL.fit a.kind ∧ TL.fit a.num ∧ a.words.length ≤ 9223372036854775807
theorem szDeed_fn (a : Deed) (left : Int) (h0 : 0 ≤ left) (h1 : left ≤ 1048576) (hl : a.words.length ≤ 9223372036854775807) : FnZ Tryd.prog 15 [a.v, .int .i64 left] (.int .i64 (szR left a.words.length)) := by
  obtain ⟨kind, num, words⟩ := a
  simp only at hl
  have w1 : IntKind.wrap .i64 (left - words.length) = left - words.length := w64 (by omega) (by omega)
  unfold szR
  refine FnZ_of (rs := [.tmp 4]) false Tryd.func15 rfl rfl rfl rfl (Nat.le_of_ble_eq_true rfl) ?_
  by_cases h : left - words.length < 0
  · simp -dsimp [w1, h]
  · simp -dsimp [w1, h]
theorem toDeed_fn (a : Deed) : FnZ Tryd.prog 17 [a.v] a.v := by
  refine FnZ_of (rs := [.cell 2 26]) false Tryd.func17 rfl rfl rfl rfl (Nat.le_of_ble_eq_true rfl) ?_
  simp -dsimp
theorem opens_deed (w : World) : Opens Tryd.prog w 23 fun vs => ∃ a : Deed, a.fit ∧ a.v = .agg vs :=
  (opens_struct3 Tryd.underlying23 rfl (by kernel_rfl) (by kernel_rfl) (by kernel_rfl) (opens_int Tryd.underlying3) (opens_int Tryd.underlying3) (opens_string Tryd.underlying9)).mono fun vs h => by
    obtain ⟨v0, v1, v2, rfl, ⟨n0, rfl, w0⟩, ⟨n1, rfl, w1⟩, ⟨s, rfl, hl⟩⟩ := h
    exact ⟨⟨n0, n1, s⟩, ⟨fit_wf w0, fit_wf w1, by simpa [maxLen] using hl⟩, rfl⟩
theorem exactDeedText_row (a : Deed) (hf : a.fit) : FnZ Tryd.prog 3 [a.v] (.bool true) := by
  have hsz := szDeed_fn a 1048576 (by omega) (by omega) hf.2.2
  by_cases hz : (1048576 : Int) - a.words.length < 0
  · have e : szR 1048576 a.words.length = -1 := if_pos hz
    refine FnZ_of (rs := [.tmp 2]) false Tryd.func3 rfl rfl rfl rfl (Nat.le_of_ble_eq_true rfl) ?_
    simp -dsimp
    refine call_ hsz (by simp -dsimp) ?_
    simp -dsimp [e]
  · have e : szR 1048576 a.words.length = 1048576 - a.words.length := if_neg hz
    have h1 := deedTextS_fn a (by omega)
    have h2 := deedText_fn a (by omega)
    generalize deedTx a = s at *
    refine FnZ_of (rs := [.tmp 2]) false Tryd.func3 rfl rfl rfl rfl (Nat.le_of_ble_eq_true rfl) ?_
    simp -dsimp
    refine call_ hsz (by simp -dsimp) ?_
    simp -dsimp [e, hz]
    refine call_ (toDeed_fn a) (by simp -dsimp) ?_
    simp -dsimp
    refine call_ h1 (by simp -dsimp) ?_
    simp -dsimp
    refine call_ (toDeed_fn a) (by simp -dsimp) ?_
    simp -dsimp
    refine call_ h2 (by simp -dsimp) ?_
    simp -dsimp
end TL

/- Journals. -/
set_option linter.unusedSimpArgs false
set_option linter.unusedVariables false
set_option maxRecDepth 100000
set_option maxHeartbeats 4000000
set_option pp.maxSteps 1500
namespace TL
open Go Go.Proofs
attribute [local simp] marksV storyV codeV Claim.v Place.v Deed.v
def jr (l : List Deed) (f : Deed → List UInt8) : List UInt8 := (l.map fun a => f a ++ [10]).flatten
noncomputable def journalTx (l : List Deed) : List UInt8 := by
  classical exact if ∃ a ∈ l, deedTx a = [] then [] else jr l deedTx
theorem jr_take {l : List Deed} {f : Deed → List UInt8} {i : Nat} (h : i < l.length) : jr (l.take (i + 1)) f = jr (l.take i) f ++ f l[i] ++ [10] := by
  unfold jr; rw [List.take_succ_eq_append_getElem h, List.map_append, List.flatten_append]; simp
theorem jr_len (l : List Deed) : (jr l deedTx).length ≤ 41 * l.length := by
  induction l with
  | nil => simp [jr]
  | cons a l ih =>
    have := deedTx_len a
    simp only [jr, List.map_cons, List.flatten_cons, List.length_append, List.length_cons, List.length_nil] at ih ⊢; omega
theorem journalTx_none {l : List Deed} {a : Deed} (h : a ∈ l) (h0 : deedTx a = []) : journalTx l = [] := by
  unfold journalTx; exact if_pos ⟨a, h, h0⟩
theorem journalTx_all {l : List Deed} (h : ∀ a ∈ l, deedTx a ≠ []) : journalTx l = jr l deedTx := by
  unfold journalTx; exact if_neg fun ⟨a, ha, h0⟩ => h a ha h0
def Ijt (l : List Deed) (e : Nat) (s : S) : Prop := ∃ i : Nat, s.tm 7 = .v (.sl (l.map Deed.v)) ∧ s.tm 8 = .v (.int .i64 l.length) ∧ s.tm 9 = .v (.int .i64 i) ∧ s.tm 3 = .v (.str (jr (l.take i) deedTx)) ∧ i ≤ l.length ∧ (∀ a ∈ l.take i, deedTx a ≠ []) ∧ (e = 1 → i = l.length)
theorem take_next {l : List Deed} {i : Nat} (h : i < l.length) (ha : ∀ a ∈ l.take i, deedTx a ≠ []) (h0 : deedTx l[i] ≠ []) : ∀ a ∈ l.take (i + 1), deedTx a ≠ [] := fun a hx => by
  rw [List.take_succ_eq_append_getElem h] at hx
  rcases List.mem_append.1 hx with hx | hx
  · exact ha a hx
  · cases List.mem_singleton.1 hx; exact h0
theorem journalText_fn (l : List Deed) (hl : l.length ≤ 1048576) (hw : ∀ a ∈ l, a.words.length ≤ 2000000000) : FnZ Tryd.prog 27 [.sl (l.map Deed.v)] (.str (journalTx l)) := by
  refine FnZ_of (rs := [.tmp 2]) false Tryd.func27 rfl rfl rfl rfl (Nat.le_of_ble_eq_true rfl) ?_
  simp -dsimp
  refine twp_loopC (Ijt l 0) (fun s => l.length - natOf (s.tm 9)) (Ijt l 1) ?_ ?_ ?_
  · exact ⟨0, by simp -dsimp, by simp -dsimp, by simp -dsimp, by simp -dsimp [jr], by omega, by simp, by simp⟩
  · rintro s ⟨i, t7, t8, t9, t3, hi, hall, hend⟩
    by_cases hlt : i < l.length
    case neg =>
      simp -dsimp [t8, t9, hlt]
      exact ⟨i, by simp -dsimp [t7], by simp -dsimp [t8], by simp -dsimp [t9], by simp -dsimp [t3], hi, hall, fun _ => by omega⟩
    have hget : (l.map Deed.v)[i]? = some (l[i].v) := by simp [hlt]
    have wi : IntKind.wrap .i64 ((i : Int) + 1) = ((i + 1 : Nat) : Int) := by rw [w64 (by omega) (by omega)]; omega
    have hmu : l.length - (i + 1) < l.length - i := by omega
    have hdt := deedText_fn l[i] (hw _ (List.getElem_mem _))
    have hdl := deedTx_len l[i]
    have hjl := jr_len (l.take i)
    rw [List.length_take] at hjl
    have hjt := jr_take (f := deedTx) hlt
    have f0 := far (show s.n < s.n + 1 by omega)
    by_cases h0 : deedTx l[i] = []
    · have hj := journalTx_none (List.getElem_mem hlt) h0
      rw [h0] at hdt
      simp -dsimp [t7, t8, t9, hlt, hget]
      refine call_ hdt (by simp -dsimp) ?_
      simp -dsimp [hj]
    · have hnx := take_next hlt hall h0
      generalize deedTx l[i] = d at *
      generalize jr (l.take i) deedTx = J at *
      have b1 : (d.length : Int) + 1 ≤ 9223372036854775807 := by omega
      have b2 : (J.length : Int) + (d.length + 1) ≤ 9223372036854775807 := by omega
      simp -dsimp [t7, t8, t9, hlt, hget]
      refine call_ hdt (by simp -dsimp) ?_
      simp -dsimp [h0, t3, t7, t8, t9, b1, b2, wi, hmu]
      exact ⟨i + 1, by simp -dsimp [t7], by simp -dsimp [t8], by simp -dsimp, by simp -dsimp [hjt], by omega, hnx, by simp⟩
  · rintro s ⟨i, t7, t8, t9, t3, hi, hall, hend⟩
    have hil := hend rfl
    rw [hil, List.take_length] at t3 hall
    have hj := journalTx_all hall
    simp -dsimp [t3, hj]
def Isjt (l : List Deed) (e : Nat) (s : S) : Prop := ∃ i : Nat, s.tm 0 = .v (.sl (l.map Deed.v)) ∧ s.tm 4 = .v (.int .i64 i) ∧ s.tm 3 = .v (.str (jr (l.take i) deedTx)) ∧ i ≤ l.length ∧ (∀ a ∈ l.take i, deedTx a ≠ []) ∧ (e = 1 → i = l.length)
theorem journalTextS_fn (l : List Deed) (hl : l.length ≤ 1048576) (hw : ∀ a ∈ l, a.words.length ≤ 2000000000) : FnZ Tryd.prog 25 [.sl (l.map Deed.v)] (.str (journalTx l)) := by
  refine FnZ_of (rs := [.tmp 2]) false Tryd.func25 rfl rfl rfl rfl (Nat.le_of_ble_eq_true rfl) ?_
  simp -dsimp
  refine twp_loopC (Isjt l 0) (fun s => l.length - natOf (s.tm 4)) (Isjt l 1) ?_ ?_ ?_
  · exact ⟨0, by simp -dsimp, by simp -dsimp, by simp -dsimp [jr], by omega, by simp, by simp⟩
  · rintro s ⟨i, t0, t4, t3, hi, hall, hend⟩
    by_cases hlt : i < l.length
    case neg =>
      simp -dsimp [t0, t4, hlt]
      exact ⟨i, by simp -dsimp [t0], by simp -dsimp [t4], by simp -dsimp [t3], hi, hall, fun _ => by omega⟩
    have hget : (l.map Deed.v)[i]? = some (l[i].v) := by simp [hlt]
    have wi : IntKind.wrap .i64 ((i : Int) + 1) = ((i + 1 : Nat) : Int) := by rw [w64 (by omega) (by omega)]; omega
    have hmu : l.length - (i + 1) < l.length - i := by omega
    have hdt := deedTextS_fn l[i] (hw _ (List.getElem_mem _))
    have hdl := deedTx_len l[i]
    have hjl := jr_len (l.take i)
    rw [List.length_take] at hjl
    have hjt := jr_take (f := deedTx) hlt
    by_cases h0 : deedTx l[i] = []
    · have hj := journalTx_none (List.getElem_mem hlt) h0
      rw [h0] at hdt
      simp -dsimp [t0, t4, hlt, hget]
      refine call_ hdt (by simp -dsimp) ?_
      simp -dsimp [hj]
    · have hnx := take_next hlt hall h0
      generalize deedTx l[i] = d at *
      generalize jr (l.take i) deedTx = J at *
      have b1 : (J.length : Int) + d.length ≤ 9223372036854775807 := by omega
      have b2 : (J.length : Int) + d.length + 1 ≤ 9223372036854775807 := by omega
      have b3 : (J.length : Int) + (d.length + 1) ≤ 9223372036854775807 := by omega
      simp -dsimp [t0, t4, hlt, hget]
      refine call_ hdt (by simp -dsimp) ?_
      simp -dsimp [h0, t0, t3, t4, hlt, hget]
      refine call_ hdt (by simp -dsimp) ?_
      simp -dsimp [h0, t0, t3, t4, b1, b2, b3, wi, hmu]
      exact ⟨i + 1, by simp -dsimp [t0], by simp -dsimp, by simp -dsimp [hjt], by omega, hnx, by simp⟩
  · rintro s ⟨i, t0, t4, t3, hi, hall, hend⟩
    have hil := hend rfl
    rw [hil, List.take_length] at t3 hall
    have hj := journalTx_all hall
    simp -dsimp [t3, hj]
/-! Rows of deeds. -/
theorem elemOk_deed : ElemOk Deed.v 3 := fun a => ⟨rfl, by simp, by simp⟩
theorem cellsT_deed (a : Deed) : cellsT a.v = [.v (.int .i64 a.kind), .v (.int .i64 a.num), .v (.str a.words)] := rfl
def ItoDeedS (l : List Deed) (a : Nat) (s : S) : Prop := ∃ i : Nat, s.tm 0 = .v (.sl (l.map Deed.v)) ∧ s.tm 3 = .sv 0 0 l.length ∧ s.tm 4 = .v (.int .i64 i) ∧ i ≤ l.length ∧ s.m 0 = some (.box 26 3 (filled Deed.v [T.v (.int .i64 0), T.v (.int .i64 0), T.v (.str [])] l i).flatten) ∧ (a = 1 → i = l.length)
theorem toDeedS_fn (l : List Deed) (hl : l.length ≤ 1048576) : FnZ Tryd.prog 26 [.sl (l.map Deed.v)] (.sl (l.map Deed.v)) := by
  have b1 : (32 : Int) * l.length ≤ 281474976710656 := by omega
  have b2 : (l.length : Int) ≤ 9223372036854775807 := by omega
  have b3 : (0 : Int) ≤ l.length := by omega
  refine FnZ_of (rs := [.tmp 2]) false Tryd.func26 rfl rfl rfl rfl (Nat.le_of_ble_eq_true rfl) ?_
  simp -dsimp [b1, b2, b3]
  refine twp_loopC (ItoDeedS l 0) (fun s => l.length - natOf (s.tm 4)) (ItoDeedS l 1) ?_ ?_ ?_
  · exact ⟨0, by simp -dsimp, by simp -dsimp, by simp -dsimp, by omega, by rw [filled_zero]; simp -dsimp, by simp⟩
  · rintro s ⟨i, h0, h3, h4, hi, hm, hend⟩
    by_cases hlt : i < l.length
    case neg =>
      simp -dsimp [h0, h4, hlt]
      exact ⟨i, by simp -dsimp [h0], by simp -dsimp [h3], by simp -dsimp [h4], hi, by simp -dsimp [hm], fun _ => by omega⟩
    have hget : (l.map Deed.v)[i]? = some (l[i].v) := by simp [hlt]
    have wi : IntKind.wrap .i64 ((i : Int) + 1) = ((i + 1 : Nat) : Int) := by rw [w64 (by omega) (by omega)]; omega
    have hmu : l.length - (i + 1) < l.length - i := by omega
    have hfl : (filled Deed.v [T.v (.int .i64 0), T.v (.int .i64 0), T.v (.str [])] l i).flatten.length = l.length * 3 := filled_flat_len (k := 3) elemOk_deed rfl hi
    have hst := filled_set (v := Deed.v) (zs := [T.v (.int .i64 0), T.v (.int .i64 0), T.v (.str [])]) (k := 3) elemOk_deed rfl hlt
    have hoff : i * 3 + 3 ≤ l.length * 3 := by omega
    have hlt' : (i : Int) < l.length := by omega
    rw [cellsT_deed] at hst
    simp -dsimp [h0, h3, h4, hlt, hget]
    refine call_ (toDeed_fn l[i]) (by simp -dsimp) ?_
    simp -dsimp [h0, h3, h4, hlt, hlt', hm, hfl, hoff, hst, wi, hmu, filled_len]
    exact ⟨i + 1, by simp -dsimp [h0], by simp -dsimp [h3], by simp -dsimp, by omega, by simp -dsimp, by simp⟩
  · rintro s ⟨i, h0, h3, h4, hi, hm, hend⟩
    have := hend rfl
    subst this
    have hb := bor_filled (k := 3) elemOk_deed 3 hm
    simp -dsimp [h3, hb]
theorem eqDeed_fn (a b : Deed) : FnZ Tryd.prog 47 [a.v, b.v] (.bool (decide (a = b))) := by
  obtain ⟨a1, a2, a3⟩ := a
  obtain ⟨b1, b2, b3⟩ := b
  refine FnZ_of (rs := [.tmp 4]) false Tryd.func47 rfl rfl rfl rfl (Nat.le_of_ble_eq_true rfl) ?_
  by_cases h1 : a1 = b1
  · by_cases h2 : a2 = b2
    · by_cases h3 : a3 = b3
      · simp -dsimp [h1, h2, h3]
      · simp -dsimp [h1, h2, h3]
    · simp -dsimp [h1, h2]
  · simp -dsimp [h1]
def IeqDeedS (a b : List Deed) (e : Nat) (s : S) : Prop := ∃ i : Nat, s.tm 0 = .v (.sl (a.map Deed.v)) ∧ s.tm 1 = .v (.sl (b.map Deed.v)) ∧ s.tm 5 = .v (.int .i64 i) ∧ i ≤ a.length ∧ a.take i = b.take i ∧ (e = 1 → i = a.length)
theorem eqDeedS_fn (a b : List Deed) (hl : a.length ≤ 1048576) : FnZ Tryd.prog 28 [.sl (a.map Deed.v), .sl (b.map Deed.v)] (.bool (decide (a = b))) := by
  refine FnZ_of (rs := [.tmp 4]) false Tryd.func28 rfl rfl rfl rfl (Nat.le_of_ble_eq_true rfl) ?_
  by_cases hn : a.length = b.length
  case neg =>
    have e : decide (a = b) = false := by simp; rintro rfl; exact hn rfl
    have hn' : ¬ (a.length : Int) = b.length := by omega
    simp -dsimp [hn, hn', e]
  simp -dsimp [hn]
  refine twp_loopC (IeqDeedS a b 0) (fun s => a.length - natOf (s.tm 5)) (IeqDeedS a b 1) ?_ ?_ ?_
  · exact ⟨0, by simp -dsimp, by simp -dsimp, by simp -dsimp, by omega, by simp, by simp⟩
  · rintro s ⟨i, h0, h1, h5, hi, htk, hend⟩
    by_cases hlt : i < a.length
    case neg =>
      have hlt2 : ¬ i < b.length := by omega
      simp -dsimp [h0, h5, hlt, hlt2, hn]
      exact ⟨i, by simp -dsimp [h0], by simp -dsimp [h1], by simp -dsimp [h5], hi, htk, fun _ => by omega⟩
    have hlt2 : i < b.length := by omega
    have hgeta : (a.map Deed.v)[i]? = some (a[i].v) := by simp [hlt]
    have hgetb : (b.map Deed.v)[i]? = some (b[i].v) := by simp [hlt2]
    have wi : IntKind.wrap .i64 ((i : Int) + 1) = ((i + 1 : Nat) : Int) := by rw [w64 (by omega) (by omega)]; omega
    have hmu : a.length - (i + 1) < a.length - i := by omega
    simp -dsimp [h0, h5, hlt, hlt2, hn]
    refine twp_draw (List.range 10) [] (List.replicate 10 []) (List.replicate 10 []) (by kernel_rfl) (by kernel_rfl) (by kernel_rfl) (by kernel_rfl) ?_
    simp -dsimp [List.range_succ, h0, h1, h5, hlt, hlt2, hgeta, hgetb]
    refine call_ (eqDeed_fn a[i] b[i]) (by simp -dsimp) ?_
    have hq := ft (decide (a[i] = b[i]))
    rcases hq with hq | hq
    · have e : decide (a = b) = false := by
        simp at hq ⊢; rintro rfl; exact hq rfl
      simp -dsimp [List.range_succ, hq, e]
    · have hq' : a[i] = b[i] := by simpa using hq
      have htk2 := take_eq_succ hlt hlt2 htk hq'
      have hmu2 : b.length - (i + 1) < b.length - i := by omega
      simp -dsimp [List.range_succ, hq, h5, wi, hmu, hmu2]
      exact ⟨i + 1, by simp -dsimp [h0], by simp -dsimp [h1], by simp -dsimp, by omega, htk2, by simp⟩
  · rintro s ⟨i, h0, h1, h5, hi, htk, hend⟩
    have := hend rfl
    subst this
    rw [List.take_length, hn, List.take_length] at htk
    have e : decide (a = b) = true := by simpa using htk
    simp -dsimp [e]
def wordsSum (l : List Deed) : Nat := (l.map fun c => c.words.length).sum
theorem wordsSum_take {l : List Deed} {i : Nat} (h : i < l.length) : wordsSum (l.take (i + 1)) = wordsSum (l.take i) + l[i].words.length := by
  unfold wordsSum; rw [List.take_succ_eq_append_getElem h, List.map_append, List.sum_append]; rfl
theorem wordsSum_le (l : List Deed) (i : Nat) : wordsSum (l.take i) ≤ wordsSum l := by
  have e : wordsSum l = wordsSum (l.take i ++ l.drop i) := by rw [List.take_append_drop]
  rw [e]; unfold wordsSum; rw [List.map_append, List.sum_append]; omega
theorem wordsSum_mem {l : List Deed} {c : Deed} (h : c ∈ l) : c.words.length ≤ wordsSum l := by
  induction l with
  | nil => cases h
  | cons y ys ih =>
    rcases List.mem_cons.1 h with rfl | h
    · simp [wordsSum]
    · have := ih h; simp only [wordsSum, List.map_cons, List.sum_cons] at this ⊢; omega
def SZD (l : List Deed) (left : Int) (e : Nat) (s : S) : Prop := ∃ i : Nat, s.tm 0 = .v (.sl (l.map Deed.v)) ∧ s.tm 1 = .v (.int .i64 (left - l.length - wordsSum (l.take i))) ∧ s.tm 5 = .v (.int .i64 i) ∧ i ≤ l.length ∧ 0 ≤ left - l.length - wordsSum (l.take i) ∧ (e = 1 → i = l.length)
theorem szDeedS_fn (l : List Deed) (left : Int) (h0 : 0 ≤ left) (h1 : left ≤ 1048576) (hl : mid l.length) (hc : ∀ c ∈ l, c.words.length ≤ 9223372036854775807) : FnZ Tryd.prog 24 [.sl (l.map Deed.v), .int .i64 left] (.int .i64 (szR left (l.length + wordsSum l))) := by
  unfold mid at hl
  have w : IntKind.wrap .i64 (left - l.length) = left - l.length := w64 (by omega) (by omega)
  refine FnZ_of (rs := [.tmp 4]) false Tryd.func24 rfl rfl rfl rfl (Nat.le_of_ble_eq_true rfl) ?_
  by_cases h : left - l.length < 0
  · have e : szR left (l.length + wordsSum l) = -1 := if_pos (by omega)
    simp -dsimp [w, h, e]
  simp -dsimp [w, h]
  refine twp_loopC (SZD l left 0) (fun s => l.length - natOf (s.tm 5)) (SZD l left 1) ?_ ?_ ?_
  · exact ⟨0, by simp -dsimp, by simp -dsimp [wordsSum], by simp -dsimp, by omega, by simp [wordsSum]; omega, by simp⟩
  · rintro s ⟨i, t0, t1, t5, hi, hp, hend⟩
    by_cases hlt : i < l.length
    case neg =>
      simp -dsimp [t0, t5, hlt]
      exact ⟨i, by simp -dsimp [t0], by simp -dsimp [t1], by simp -dsimp [t5], hi, hp, fun _ => by omega⟩
    have hget : (l.map Deed.v)[i]? = some (l[i].v) := by simp [hlt]
    have wi : IntKind.wrap .i64 ((i : Int) + 1) = ((i + 1 : Nat) : Int) := by rw [w64 (by omega) (by omega)]; omega
    have hmu : l.length - (i + 1) < l.length - i := by omega
    have hs := wordsSum_take hlt
    have hle := wordsSum_le l (i + 1)
    simp -dsimp [t0, t1, t5, hlt, hget]
    refine call_ (szDeed_fn l[i] (left - l.length - wordsSum (l.take i)) (by omega) (by omega) (hc _ (List.getElem_mem _))) (by simp -dsimp) ?_
    by_cases hn : left - l.length - wordsSum (l.take i) - l[i].words.length < 0
    · have e1 : szR (left - l.length - wordsSum (l.take i)) l[i].words.length = -1 := if_pos hn
      have e2 : szR left (l.length + wordsSum l) = -1 := if_pos (by omega)
      simp -dsimp [e1, e2]
    · have e1 : szR (left - l.length - wordsSum (l.take i)) l[i].words.length = left - l.length - wordsSum (l.take (i + 1)) := by rw [szR, if_neg hn]; omega
      have e2 : ¬ left - l.length - wordsSum (l.take (i + 1)) < 0 := by omega
      simp -dsimp [e1, e2, t5, wi, hmu]
      exact ⟨i + 1, by simp -dsimp [t0], by simp -dsimp, by simp -dsimp, by omega, by omega, by simp⟩
  · rintro s ⟨i, t0, t1, t5, hi, hp, hend⟩
    have := hend rfl
    subst this
    rw [List.take_length] at t1 hp
    have e : szR left (l.length + wordsSum l) = left - l.length - wordsSum l := by rw [szR, if_neg (by omega)]; omega
    simp -dsimp [t1, e]
theorem opens_deeds (w : World) : Opens Tryd.prog w 40 fun vs => ∃ l : List Deed, vs = [.sl (l.map Deed.v)] ∧ (l.length ≤ maxLen ∧ ∀ a ∈ l, a.fit) :=
  (opens_slice Tryd.underlying40 (z := 3) (by kernel_rfl) (by omega) ((opens_deed w).mono fun vs h => by obtain ⟨a, h1, h2⟩ := h; exact ⟨a, h1, .inl h2⟩)).mono fun vs h => by
    obtain ⟨l, rfl, h1, h2⟩ := h; exact ⟨l, rfl, h1, h2⟩
theorem exactJournalText_row (l : List Deed) (h : l.length ≤ maxLen ∧ ∀ a ∈ l, a.fit) : FnZ Tryd.prog 5 [.sl (l.map Deed.v)] (.bool true) := by
  have hsz := szDeedS_fn l 1048576 (by omega) (by omega) (by have := h.1; simpa [mid, maxLen] using this) (fun c hc => (h.2 c hc).2.2)
  by_cases hz : (1048576 : Int) - ((l.length + wordsSum l : Nat) : Int) < 0
  · have e : szR 1048576 (l.length + wordsSum l) = -1 := if_pos hz
    refine FnZ_of (rs := [.tmp 2]) false Tryd.func5 rfl rfl rfl rfl (Nat.le_of_ble_eq_true rfl) ?_
    simp -dsimp
    refine call_ hsz (by simp -dsimp) ?_
    simp -dsimp [e]
  · have e : szR 1048576 (l.length + wordsSum l) = 1048576 - ((l.length + wordsSum l : Nat) : Int) := if_neg hz
    rw [e] at hsz
    have hl : l.length ≤ 1048576 := by omega
    have hw : ∀ a ∈ l, a.words.length ≤ 2000000000 := fun a ha => by have := wordsSum_mem ha; omega
    have h1 := journalTextS_fn l hl hw
    have h2 := journalText_fn l hl hw
    have heq := eqDeedS_fn l l hl
    generalize ((1048576 : Int) - ((l.length + wordsSum l : Nat) : Int)) = z at *
    generalize journalTx l = s at *
    refine FnZ_of (rs := [.tmp 2]) false Tryd.func5 rfl rfl rfl rfl (Nat.le_of_ble_eq_true rfl) ?_
    simp -dsimp
    refine call_ hsz (by simp -dsimp) ?_
    simp -dsimp [hz]
    refine call_ (toDeedS_fn l hl) (by simp -dsimp) ?_
    simp -dsimp
    refine call_ h1 (by simp -dsimp) ?_
    simp -dsimp
    refine call_ (toDeedS_fn l hl) (by simp -dsimp) ?_
    simp -dsimp
    refine call_ h2 (by simp -dsimp) ?_
    simp -dsimp
    refine call_ (toDeedS_fn l hl) (by simp -dsimp) ?_
    simp -dsimp
    refine call_ heq (by simp -dsimp) ?_
    simp -dsimp
end TL
