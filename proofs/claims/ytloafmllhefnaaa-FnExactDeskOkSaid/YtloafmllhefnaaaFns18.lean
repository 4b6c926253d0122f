/- The exact law of DeskOk. -/
import Derived.Test.YtloafmllhefnaaaFns14
import Derived.Test.YtloafmllhefnaaaFnsD
set_option linter.unusedSimpArgs false
set_option linter.unusedVariables false
set_option maxRecDepth 100000
set_option maxHeartbeats 4000000
set_option pp.maxSteps 1500
namespace TL
open Go Go.Proofs
attribute [local simp] marksV storyV codeV Claim.v Place.v Desk.v
def Desk.fit (d : Desk) : Prop := d.now.fit ∧ ∀ p ∈ d.past, p.fit
def Desk.mid (d : Desk) : Prop := d.now.mid ∧ TL.mid d.past.length ∧ ∀ p ∈ d.past, p.mid
def ItoPlaceS (l : List Place) (a : Nat) (s : S) : Prop := ∃ i : Nat, s.tm 0 = .v (.sl (l.map Place.v)) ∧ s.tm 3 = .sv 0 0 l.length ∧ s.tm 4 = .v (.int .i64 i) ∧ i ≤ l.length ∧ s.m 0 = some (.box 32 2 (filled Place.v [T.v (.int .i64 0), T.nil] l i).flatten) ∧ (a = 1 → i = l.length)
theorem toPlaceS_fn (l : List Place) (hl : l.length ≤ 1048576) (hs : ∀ a ∈ l, a.small) : FnZ Try.prog 28 [.sl (l.map Place.v)] (.sl (l.map Place.v)) := by
  have b1 : (32 : Int) * l.length ≤ 281474976710656 := by omega
  have b2 : (l.length : Int) ≤ 9223372036854775807 := by omega
  have b3 : (0 : Int) ≤ l.length := by omega
  refine FnZ_of (rs := [.tmp 2]) false Try.func28 rfl rfl rfl rfl (Nat.le_of_ble_eq_true rfl) ?_
  simp -dsimp [b1, b2, b3]
  refine twp_loopC (ItoPlaceS l 0) (fun s => l.length - natOf (s.tm 4)) (ItoPlaceS l 1) ?_ ?_ ?_
  · exact ⟨0, by simp -dsimp, by simp -dsimp, by simp -dsimp, by omega, by rw [filled_zero]; simp -dsimp, by simp⟩
  · rintro s ⟨i, h0, h3, h4, hi, hm, hend⟩
    by_cases hlt : i < l.length
    case neg =>
      simp -dsimp [h0, h4, hlt]
      exact ⟨i, by simp -dsimp [h0], by simp -dsimp [h3], by simp -dsimp [h4], hi, by simp -dsimp [hm], fun _ => by omega⟩
    have hget : (l.map Place.v)[i]? = some (l[i].v) := by simp [hlt]
    have wi : IntKind.wrap .i64 ((i : Int) + 1) = ((i + 1 : Nat) : Int) := by rw [w64 (by omega) (by omega)]; omega
    have hmu : l.length - (i + 1) < l.length - i := by omega
    have hfl : (filled Place.v [T.v (.int .i64 0), T.nil] l i).flatten.length = l.length * 2 := filled_flat_len (k := 2) elemOk_place rfl hi
    have hst := filled_set (v := Place.v) (zs := [T.v (.int .i64 0), T.nil]) (k := 2) elemOk_place rfl hlt
    have hcv : l[i].v.cells = (l[i].v).cells := rfl
    have hoff : i * 2 + 2 ≤ l.length * 2 := by omega
    have hlt' : (i : Int) < l.length := by omega
    rw [cellsT_place] at hst
    simp -dsimp [h0, h3, h4, hlt, hget]
    refine call_ (toPlace_fn l[i] (hs _ (List.getElem_mem _))) (by simp -dsimp [Mark.v]) ?_
    simp -dsimp [Mark.v, h0, h3, h4, hlt, hlt', hm, hfl, hoff, hst, wi, hmu, filled_len]
    exact ⟨i + 1, by simp -dsimp [h0], by simp -dsimp [h3], by simp -dsimp, by omega, by simp -dsimp, by simp⟩
  · rintro s ⟨i, h0, h3, h4, hi, hm, hend⟩
    have := hend rfl
    subst this
    have hb := bor_filled (k := 2) elemOk_place 3 hm
    simp -dsimp [h3, hb]
theorem toDesk_fn (a : Desk) (hc : a.small) : FnZ Try.prog 9 [a.v] a.v := by
  refine FnZ_of (rs := [.cell 2 35]) false Try.func9 rfl rfl rfl rfl (Nat.le_of_ble_eq_true rfl) ?_
  simp -dsimp
  refine call_ (toPlace_fn a.now hc.1) (by simp -dsimp) ?_
  simp -dsimp
  refine call_ (toPlaceS_fn a.past hc.2.1 hc.2.2) (by simp -dsimp) ?_
  simp -dsimp
def IeqPlaceS (a b : List Place) (e : Nat) (s : S) : Prop := ∃ i : Nat, s.tm 0 = .v (.sl (a.map Place.v)) ∧ s.tm 1 = .v (.sl (b.map Place.v)) ∧ s.tm 5 = .v (.int .i64 i) ∧ i ≤ a.length ∧ a.take i = b.take i ∧ (e = 1 → i = a.length)
theorem eqPlaceS_fn (a b : List Place) (hl : a.length ≤ 1048576) (hs : ∀ x ∈ a, x.small) : FnZ Try.prog 31 [.sl (a.map Place.v), .sl (b.map Place.v)] (.bool (decide (a = b))) := by
  refine FnZ_of (rs := [.tmp 4]) false Try.func31 rfl rfl rfl rfl (Nat.le_of_ble_eq_true rfl) ?_
  by_cases hn : a.length = b.length
  case neg =>
    have e : decide (a = b) = false := by simp; rintro rfl; exact hn rfl
    have hn' : ¬ (a.length : Int) = b.length := by omega
    simp -dsimp [hn, hn', e]
  simp -dsimp [hn]
  refine twp_loopC (IeqPlaceS a b 0) (fun s => a.length - natOf (s.tm 5)) (IeqPlaceS a b 1) ?_ ?_ ?_
  · exact ⟨0, by simp -dsimp, by simp -dsimp, by simp -dsimp, by omega, by simp, by simp⟩
  · rintro s ⟨i, h0, h1, h5, hi, htk, hend⟩
    by_cases hlt : i < a.length
    case neg =>
      have hlt2 : ¬ i < b.length := by omega
      simp -dsimp [h0, h5, hlt, hlt2, hn]
      exact ⟨i, by simp -dsimp [h0], by simp -dsimp [h1], by simp -dsimp [h5], hi, htk, fun _ => by omega⟩
    have hlt2 : i < b.length := by omega
    have hgeta : (a.map Place.v)[i]? = some (a[i].v) := by simp [hlt]
    have hgetb : (b.map Place.v)[i]? = some (b[i].v) := by simp [hlt2]
    have wi : IntKind.wrap .i64 ((i : Int) + 1) = ((i + 1 : Nat) : Int) := by rw [w64 (by omega) (by omega)]; omega
    have hmu : a.length - (i + 1) < a.length - i := by omega
    simp -dsimp [h0, h5, hlt, hlt2, hn]
    refine twp_draw (List.range 10) [] (List.replicate 10 []) (List.replicate 10 []) (by kernel_rfl) (by kernel_rfl) (by kernel_rfl) (by kernel_rfl) ?_
    simp -dsimp [List.range_succ, h0, h1, h5, hlt, hlt2, hgeta, hgetb]
    refine call_ (eqPlace_fn a[i] b[i] (hs _ (List.getElem_mem _))) (by simp -dsimp [Mark.v]) ?_
    have hq := ft (decide (a[i] = b[i]))
    rcases hq with hq | hq
    · have e : decide (a = b) = false := by
        simp at hq ⊢; rintro rfl; exact hq rfl
      simp -dsimp [List.range_succ, hq, e]
    · have hq' : a[i] = b[i] := by simpa using hq
      have htk2 := take_eq_succ hlt hlt2 htk hq'
      have hmu2 : b.length - (i + 1) < b.length - i := by omega
      simp -dsimp [List.range_succ, hq, h5, wi, hmu, hmu2]
      exact ⟨i + 1, by simp -dsimp [h0], by simp -dsimp [h1], by simp -dsimp, by omega, htk2, by simp⟩
  · rintro s ⟨i, h0, h1, h5, hi, htk, hend⟩
    have := hend rfl
    subst this
    rw [List.take_length, hn, List.take_length] at htk
    have e : decide (a = b) = true := by simpa using htk
    simp -dsimp [e]
theorem eqDesk_fn (a b : Desk) (ha : a.small) : FnZ Try.prog 11 [a.v, b.v] (.bool (decide (a = b))) := by
  refine FnZ_of (rs := [.tmp 4]) false Try.func11 rfl rfl rfl rfl (Nat.le_of_ble_eq_true rfl) ?_
  simp -dsimp
  refine call_ (eqPlace_fn a.now b.now ha.1) (by simp -dsimp) ?_
  have h0 := ft (decide (a.now = b.now))
  rcases h0 with h0 | h0
  · have e : decide (a = b) = false := by cases a; cases b; simp_all
    simp -dsimp [h0, e]
  simp -dsimp [h0]
  refine call_ (eqPlaceS_fn a.past b.past ha.2.1 ha.2.2) (by simp -dsimp) ?_
  have h1 := ft (decide (a.past = b.past))
  rcases h1 with h1 | h1
  · have e : decide (a = b) = false := by cases a; cases b; simp_all
    simp -dsimp [h1, e]
  · have e : decide (a = b) = true := by cases a; cases b; simp_all
    simp -dsimp [h1, e]
def bulkSum (l : List Place) : Nat := (l.map fun p => p.bulk).sum
theorem bulkSum_take {l : List Place} {i : Nat} (h : i < l.length) : bulkSum (l.take (i + 1)) = bulkSum (l.take i) + l[i].bulk := by
  unfold bulkSum; rw [List.take_succ_eq_append_getElem h, List.map_append, List.sum_append]; rfl
theorem bulkSum_le (l : List Place) (i : Nat) : bulkSum (l.take i) ≤ bulkSum l := by
  have e : bulkSum l = bulkSum (l.take i ++ l.drop i) := by rw [List.take_append_drop]
  rw [e]; unfold bulkSum; rw [List.map_append, List.sum_append]; omega
theorem bulkSum_mem {l : List Place} {c : Place} (h : c ∈ l) : c.bulk ≤ bulkSum l := by
  induction l with
  | nil => cases h
  | cons y ys ih =>
    rcases List.mem_cons.1 h with rfl | h
    · simp [bulkSum]
    · have := ih h; simp only [bulkSum, List.map_cons, List.sum_cons] at this ⊢; omega
def SZP (l : List Place) (left : Int) (e : Nat) (s : S) : Prop := ∃ i : Nat, s.tm 0 = .v (.sl (l.map Place.v)) ∧ s.tm 1 = .v (.int .i64 (left - l.length - bulkSum (l.take i))) ∧ s.tm 5 = .v (.int .i64 i) ∧ i ≤ l.length ∧ 0 ≤ left - l.length - bulkSum (l.take i) ∧ (e = 1 → i = l.length)
theorem szPlaceS_fn (l : List Place) (left : Int) (h0 : 0 ≤ left) (h1 : left ≤ 1048576) (hl : mid l.length) (hc : ∀ c ∈ l, c.mid) : FnZ Try.prog 25 [.sl (l.map Place.v), .int .i64 left] (.int .i64 (szR left (l.length + bulkSum l))) := by
  unfold mid at hl
  have w : IntKind.wrap .i64 (left - l.length) = left - l.length := w64 (by omega) (by omega)
  refine FnZ_of (rs := [.tmp 4]) false Try.func25 rfl rfl rfl rfl (Nat.le_of_ble_eq_true rfl) ?_
  by_cases h : left - l.length < 0
  · have e : szR left (l.length + bulkSum l) = -1 := if_pos (by omega)
    simp -dsimp [w, h, e]
  simp -dsimp [w, h]
  refine twp_loopC (SZP l left 0) (fun s => l.length - natOf (s.tm 5)) (SZP l left 1) ?_ ?_ ?_
  · exact ⟨0, by simp -dsimp, by simp -dsimp [bulkSum], by simp -dsimp, by omega, by simp [bulkSum]; omega, by simp⟩
  · rintro s ⟨i, t0, t1, t5, hi, hp, hend⟩
    by_cases hlt : i < l.length
    case neg =>
      simp -dsimp [t0, t5, hlt]
      exact ⟨i, by simp -dsimp [t0], by simp -dsimp [t1], by simp -dsimp [t5], hi, hp, fun _ => by omega⟩
    have hget : (l.map Place.v)[i]? = some (l[i].v) := by simp [hlt]
    have wi : IntKind.wrap .i64 ((i : Int) + 1) = ((i + 1 : Nat) : Int) := by rw [w64 (by omega) (by omega)]; omega
    have hmu : l.length - (i + 1) < l.length - i := by omega
    have hs := bulkSum_take hlt
    have hle := bulkSum_le l (i + 1)
    simp -dsimp [t0, t1, t5, hlt, hget]
    refine call_ (szPlace_fn l[i] (left - l.length - bulkSum (l.take i)) (by omega) (by omega) (hc _ (List.getElem_mem _))) (by simp -dsimp) ?_
    by_cases hn : left - l.length - bulkSum (l.take i) - l[i].bulk < 0
    · have e1 : szR (left - l.length - bulkSum (l.take i)) l[i].bulk = -1 := if_pos hn
      have e2 : szR left (l.length + bulkSum l) = -1 := if_pos (by omega)
      simp -dsimp [e1, e2]
    · have e1 : szR (left - l.length - bulkSum (l.take i)) l[i].bulk = left - l.length - bulkSum (l.take (i + 1)) := by rw [szR, if_neg hn]; omega
      have e2 : ¬ left - l.length - bulkSum (l.take (i + 1)) < 0 := by omega
      simp -dsimp [e1, e2, t5, wi, hmu]
      exact ⟨i + 1, by simp -dsimp [t0], by simp -dsimp, by simp -dsimp, by omega, by omega, by simp⟩
  · rintro s ⟨i, t0, t1, t5, hi, hp, hend⟩
    have := hend rfl
    subst this
    rw [List.take_length] at t1 hp
    have e : szR left (l.length + bulkSum l) = left - l.length - bulkSum l := by rw [szR, if_neg (by omega)]; omega
    simp -dsimp [t1, e]
def Desk.bulk (d : Desk) : Nat := d.now.bulk + (d.past.length + bulkSum d.past)
theorem szDesk_fn (d : Desk) (left : Int) (h0 : 0 ≤ left) (h1 : left ≤ 1048576) (hd : d.mid) : FnZ Try.prog 7 [d.v, .int .i64 left] (.int .i64 (szR left d.bulk)) := by
  refine FnZ_of (rs := [.tmp 4]) false Try.func7 rfl rfl rfl rfl (Nat.le_of_ble_eq_true rfl) ?_
  simp -dsimp
  refine call_ (szPlace_fn d.now left h0 h1 hd.1) (by simp -dsimp) ?_
  by_cases h : left - d.now.bulk < 0
  · have e : szR left d.now.bulk = -1 := if_pos h
    have e2 : szR left d.bulk = -1 := if_pos (by unfold Desk.bulk; omega)
    simp -dsimp [e, e2]
  have e : szR left d.now.bulk = left - d.now.bulk := if_neg h
  simp -dsimp [e, h]
  refine call_ (szPlaceS_fn d.past (left - d.now.bulk) (by omega) (by omega) hd.2.1 hd.2.2) (by simp -dsimp) ?_
  by_cases h2 : left - d.now.bulk - (d.past.length + bulkSum d.past : Nat) < 0
  · have e2 : szR (left - d.now.bulk) (d.past.length + bulkSum d.past) = -1 := if_pos h2
    have e3 : szR left d.bulk = -1 := if_pos (by unfold Desk.bulk; omega)
    simp -dsimp [e2, e3]
  · have e2 : szR (left - d.now.bulk) (d.past.length + bulkSum d.past) = left - d.bulk := by rw [szR, if_neg h2]; unfold Desk.bulk; omega
    have e3 : szR left d.bulk = left - d.bulk := if_neg (by unfold Desk.bulk; omega)
    have e4 : ¬ left - d.bulk < 0 := by unfold Desk.bulk; omega
    simp -dsimp [e2, e3, e4]
theorem Desk.small_of {d : Desk} (h : ¬ (1048576 : Int) - d.bulk < 0) : d.small := by
  unfold Desk.bulk at h
  exact ⟨Place.small_of (by omega), by omega, fun p hp => Place.small_of (by have := bulkSum_mem hp; omega)⟩
theorem Place.fine_of {p : Place} (hs : p.small) (hf : p.fit) : p.fine := ⟨by have := hs.1; omega, fun c hc => ⟨(hf.2 c hc).2, by have := hs.2 c hc; unfold Claim.small at this; omega⟩⟩
def IdeskOkS (d : Desk) (e : Nat) (s : S) : Prop := ∃ i : Nat, s.tm 1 = .ptr 0 0 ∧ s.m 0 = some (.box 35 3 [.v (.int .i64 d.now.people), .v (storyV d.now.story), .v (.sl (d.past.map Place.v))]) ∧ s.tm 3 = .v (.int .i64 i) ∧
  i ≤ d.past.length ∧ (d.past.take i).all placeOk = true ∧ (e = 1 → i = d.past.length)
theorem deskOkS_fn (d : Desk) (hs : d.small) (hf : d.fit) : FnZ Try.prog 8 [d.v] (.bool (deskOk d)) := by
  have hl := hs.2.1
  refine FnZ_of (rs := [.tmp 2]) false Try.func8 rfl rfl rfl rfl (Nat.le_of_ble_eq_true rfl) ?_
  simp -dsimp
  refine twp_loopC (IdeskOkS d 0) (fun s => d.past.length - natOf (s.tm 3)) (IdeskOkS d 1) ?_ ?_ ?_
  · exact ⟨0, by simp -dsimp, by simp -dsimp, by simp -dsimp, by omega, by simp, by simp⟩
  · rintro s ⟨i, t1, m0, t8, hi, hall, hend⟩
    by_cases hlt : i < d.past.length
    case neg =>
      simp -dsimp [t1, m0, t8, hlt]
      exact ⟨i, by simp -dsimp [t1], by simp -dsimp [m0], by simp -dsimp [t8], hi, hall, fun _ => by omega⟩
    have hget : (d.past.map Place.v)[i]? = some (d.past[i].v) := by simp [hlt]
    have hall' := all_take_succ (f := placeOk) hlt
    have wi : IntKind.wrap .i64 ((i : Int) + 1) = ((i + 1 : Nat) : Int) := by rw [w64 (by omega) (by omega)]; omega
    have hmu : d.past.length - (i + 1) < d.past.length - i := by omega
    have hbad := all_bad (f := placeOk) hlt
    have hm := List.getElem_mem hlt
    simp -dsimp [t1, m0, t8, hlt, hget]
    refine call_ (placeOkS_fn d.past[i] (Place.fine_of (hs.2.2 _ hm) (hf.2 _ hm))) (by simp -dsimp) ?_
    have hc := ft (placeOk d.past[i])
    rcases hc with hc | hc
    · simp -dsimp [hc, deskOk, hbad hc]
    · simp -dsimp [hc, t8, wi, hmu]
      exact ⟨i + 1, by simp -dsimp [t1], by simp -dsimp [m0], by simp -dsimp, by omega, by rw [hall', hall, hc]; rfl, by simp⟩
  · rintro s ⟨i, t1, m0, t8, hi, hall, hend⟩
    have := hend rfl
    subst this
    rw [List.take_length] at hall
    simp -dsimp [t1, m0]
    refine call_ (placeOkS_fn d.now (Place.fine_of hs.1 hf.1)) (by simp -dsimp) ?_
    have hk := ft (placeOk d.now)
    rcases hk with hk | hk
    · simp -dsimp [deskOk, hk]
    · simp -dsimp [t1, m0, deskOk, hk, hall]
      omega
theorem exactDeskOk_row (d : Desk) (h : d.fit ∧ d.mid) : FnZ Try.prog 3 [d.v] (.bool true) := by
  obtain ⟨hf, hm⟩ := h
  refine FnZ_of (rs := [.tmp 2]) false Try.func3 rfl rfl rfl rfl (Nat.le_of_ble_eq_true rfl) ?_
  simp -dsimp
  refine call_ (szDesk_fn d 1048576 (by omega) (by omega) hm) (by simp -dsimp) ?_
  by_cases h : (1048576 : Int) - d.bulk < 0
  · have e : szR 1048576 d.bulk = -1 := if_pos h
    simp -dsimp [e]
  have e : szR 1048576 d.bulk = 1048576 - d.bulk := if_neg h
  have hs := Desk.small_of h
  have hl := hs.2.1
  simp -dsimp [e, h]
  refine call_ (toDesk_fn d hs) (by simp -dsimp) ?_
  simp -dsimp
  refine call_ (deskOkS_fn d hs hf) (by simp -dsimp) ?_
  simp -dsimp
  refine call_ (toDesk_fn d hs) (by simp -dsimp) ?_
  simp -dsimp
  refine call_ (deskOk_fn d (by omega) (by have := hs.1.1; omega) (fun p hp => by have := (hs.2.2 p hp).1; omega)) (by simp -dsimp) ?_
  simp -dsimp
  refine twp_draw (List.range 5) [0, 1] [[1], [0], [], [], []] (List.replicate 5 [0, 1]) (by kernel_rfl) (by kernel_rfl) (by kernel_rfl) (by kernel_rfl) ?_
  simp -dsimp [List.range_succ]
  refine call_ (toDesk_fn d hs) (by simp -dsimp) ?_
  simp -dsimp [List.range_succ]
  refine call_ (eqDesk_fn d d hs) (by simp -dsimp) ?_
  simp -dsimp [List.range_succ]
theorem opens_places (w : World) : Opens Try.prog w 25 fun vs => ∃ l : List Place, vs = [.sl (l.map Place.v)] ∧ l.length ≤ maxLen ∧ ∀ a ∈ l, a.fit ∧ a.mid :=
  opens_slice Try.underlying25 (z := 2) (by kernel_rfl) (by omega) ((opens_place w).mono fun vs h => by obtain ⟨a, h1, h2⟩ := h; exact ⟨a, h1, .inl h2⟩)
theorem opens_desk (w : World) : Opens Try.prog w 27 fun vs => ∃ a : Desk, (a.fit ∧ a.mid) ∧ a.v = .agg vs :=
  (opens_struct2 Try.underlying27 rfl (by kernel_rfl) (by kernel_rfl) (opens_place w) (opens_places w)).mono fun vs h => by
    obtain ⟨v0, v1, rfl, ⟨p, hp, hv⟩, ⟨l, rfl, hl, hf⟩⟩ := h
    cases hv
    exact ⟨⟨p, l⟩, ⟨⟨hp.1, fun c hc => (hf c hc).1⟩, hp.2, by simpa [mid, maxLen] using hl, fun c hc => (hf c hc).2⟩, rfl⟩
end TL
