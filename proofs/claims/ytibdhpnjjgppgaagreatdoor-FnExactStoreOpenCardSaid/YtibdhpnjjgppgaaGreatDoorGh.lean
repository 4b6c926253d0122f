/- TL: parts Fns18, FnsJD, FnsJE, FnsJF, FnsE14, FnsB1, FnsB2, FnsB3, FnsB4, FnsB5, FnsP1, FnsO1, FnsO2, FnsO3, FnsO4. -/
import Derived.Test.YtibdhpnjjgppgaaGreatDoorGf
import Derived.Test.YtibdhpnjjgppgaaGreatDoorGg
import Derived.Lib.ItoaNum
import Derived.Lib.AtoiAll
import Derived.Test.YtibdhpnjjgppgaaGreatDoorGe
/- The exact law of DeskOk. -/
set_option linter.unusedSimpArgs false
set_option linter.unusedVariables false
set_option maxRecDepth 100000
set_option maxHeartbeats 4000000
set_option pp.maxSteps 1500
namespace TL
open Go Go.Proofs
attribute [local simp] marksV storyV codeV Claim.v Place.v Desk.v
def Desk.fit (d : Desk) : Prop := d.now.fit ∧ ∀ p ∈ d.past, p.fit
def Desk.mid (d : Desk) : Prop := d.now.mid ∧ TL.mid d.past.length ∧ ∀ p ∈ d.past, p.mid
def ItoPlaceS (l : List Place) (a : Nat) (s : S) : Prop := ∃ i : Nat, s.tm 0 = .v (.sl (l.map Place.v)) ∧ s.tm 3 = .sv 0 0 l.length ∧ s.tm 4 = .v (.int .i64 i) ∧ i ≤ l.length ∧ s.m 0 = some (.box 34 2 (filled Place.v [T.v (.int .i64 0), T.nil] l i).flatten) ∧ (a = 1 → i = l.length)
theorem toPlaceS_fn (l : List Place) (hl : l.length ≤ 1048576) (hs : ∀ a ∈ l, a.small) : FnZ Tryz.prog 33 [.sl (l.map Place.v)] (.sl (l.map Place.v)) := by
  have b1 : (32 : Int) * l.length ≤ 281474976710656 := by omega
  have b2 : (l.length : Int) ≤ 9223372036854775807 := by omega
  have b3 : (0 : Int) ≤ l.length := by omega
  refine FnZ_of (rs := [.tmp 2]) false Tryz.func33 rfl rfl rfl rfl (Nat.le_of_ble_eq_true rfl) ?_
  simp -dsimp [b1, b2, b3]
  refine twp_loopC (ItoPlaceS l 0) (fun s => l.length - natOf (s.tm 4)) (ItoPlaceS l 1) ?_ ?_ ?_
  · exact ⟨0, by simp -dsimp, by simp -dsimp, by simp -dsimp, by omega, by rw [filled_zero]; simp -dsimp, by simp⟩
  · rintro s ⟨i, h0, h3, h4, hi, hm, hend⟩
    by_cases hlt : i < l.length
    case neg =>
      simp -dsimp [h0, h4, hlt]
      exact ⟨i, by simp -dsimp [h0], by simp -dsimp [h3], by simp -dsimp [h4], hi, by simp -dsimp [hm], fun _ => by omega⟩
    have hget : (l.map Place.v)[i]? = some (l[i].v) := by simp [hlt]
    have wi : IntKind.wrap .i64 ((i : Int) + 1) = ((i + 1 : Nat) : Int) := by rw [w64 (by omega) (by omega)]; omega
    have hmu : l.length - (i + 1) < l.length - i := by omega
    have hfl : (filled Place.v [T.v (.int .i64 0), T.nil] l i).flatten.length = l.length * 2 := filled_flat_len (k := 2) elemOk_place rfl hi
    have hst := filled_set (v := Place.v) (zs := [T.v (.int .i64 0), T.nil]) (k := 2) elemOk_place rfl hlt
    have hcv : l[i].v.cells = (l[i].v).cells := rfl
    have hoff : i * 2 + 2 ≤ l.length * 2 := by omega
    have hlt' : (i : Int) < l.length := by omega
    rw [cellsT_place] at hst
    simp -dsimp [h0, h3, h4, hlt, hget]
    refine call_ (toPlace_fn l[i] (hs _ (List.getElem_mem _))) (by simp -dsimp [Mark.v]) ?_
    simp -dsimp [Mark.v, h0, h3, h4, hlt, hlt', hm, hfl, hoff, hst, wi, hmu, filled_len]
    exact ⟨i + 1, by simp -dsimp [h0], by simp -dsimp [h3], by simp -dsimp, by omega, by simp -dsimp, by simp⟩
  · rintro s ⟨i, h0, h3, h4, hi, hm, hend⟩
    have := hend rfl
    subst this
    have hb := bor_filled (k := 2) elemOk_place 3 hm
    simp -dsimp [h3, hb]
theorem toDesk_fn (a : Desk) (hc : a.small) : FnZ Tryz.prog 9 [a.v] a.v := by
  refine FnZ_of (rs := [.cell 2 37]) false Tryz.func9 rfl rfl rfl rfl (Nat.le_of_ble_eq_true rfl) ?_
  simp -dsimp
  refine call_ (toPlace_fn a.now hc.1) (by simp -dsimp) ?_
  simp -dsimp
  refine call_ (toPlaceS_fn a.past hc.2.1 hc.2.2) (by simp -dsimp) ?_
  simp -dsimp
def IeqPlaceS (a b : List Place) (e : Nat) (s : S) : Prop := ∃ i : Nat, s.tm 0 = .v (.sl (a.map Place.v)) ∧ s.tm 1 = .v (.sl (b.map Place.v)) ∧ s.tm 5 = .v (.int .i64 i) ∧ i ≤ a.length ∧ a.take i = b.take i ∧ (e = 1 → i = a.length)
theorem eqPlaceS_fn (a b : List Place) (hl : a.length ≤ 1048576) (hs : ∀ x ∈ a, x.small) : FnZ Tryz.prog 44 [.sl (a.map Place.v), .sl (b.map Place.v)] (.bool (decide (a = b))) := by
  refine FnZ_of (rs := [.tmp 4]) false Tryz.func44 rfl rfl rfl rfl (Nat.le_of_ble_eq_true rfl) ?_
  by_cases hn : a.length = b.length
  case neg =>
    have e : decide (a = b) = false := by simp; rintro rfl; exact hn rfl
    have hn' : ¬ (a.length : Int) = b.length := by omega
    simp -dsimp [hn, hn', e]
  simp -dsimp [hn]
  refine twp_loopC (IeqPlaceS a b 0) (fun s => a.length - natOf (s.tm 5)) (IeqPlaceS a b 1) ?_ ?_ ?_
  · exact ⟨0, by simp -dsimp, by simp -dsimp, by simp -dsimp, by omega, by simp, by simp⟩
  · rintro s ⟨i, h0, h1, h5, hi, htk, hend⟩
    by_cases hlt : i < a.length
    case neg =>
      have hlt2 : ¬ i < b.length := by omega
      simp -dsimp [h0, h5, hlt, hlt2, hn]
      exact ⟨i, by simp -dsimp [h0], by simp -dsimp [h1], by simp -dsimp [h5], hi, htk, fun _ => by omega⟩
    have hlt2 : i < b.length := by omega
    have hgeta : (a.map Place.v)[i]? = some (a[i].v) := by simp [hlt]
    have hgetb : (b.map Place.v)[i]? = some (b[i].v) := by simp [hlt2]
    have wi : IntKind.wrap .i64 ((i : Int) + 1) = ((i + 1 : Nat) : Int) := by rw [w64 (by omega) (by omega)]; omega
    have hmu : a.length - (i + 1) < a.length - i := by omega
    simp -dsimp [h0, h5, hlt, hlt2, hn]
    refine twp_draw (List.range 10) [] (List.replicate 10 []) (List.replicate 10 []) (by kernel_rfl) (by kernel_rfl) (by kernel_rfl) (by kernel_rfl) ?_
    simp -dsimp [List.range_succ, h0, h1, h5, hlt, hlt2, hgeta, hgetb]
    refine call_ (eqPlace_fn a[i] b[i] (hs _ (List.getElem_mem _))) (by simp -dsimp [Mark.v]) ?_
    have hq := ft (decide (a[i] = b[i]))
    rcases hq with hq | hq
    · have e : decide (a = b) = false := by
        simp at hq ⊢; rintro rfl; exact hq rfl
      simp -dsimp [List.range_succ, hq, e]
    · have hq' : a[i] = b[i] := by simpa using hq
      have htk2 := take_eq_succ hlt hlt2 htk hq'
      have hmu2 : b.length - (i + 1) < b.length - i := by omega
      simp -dsimp [List.range_succ, hq, h5, wi, hmu, hmu2]
      exact ⟨i + 1, by simp -dsimp [h0], by simp -dsimp [h1], by simp -dsimp, by omega, htk2, by simp⟩
  · rintro s ⟨i, h0, h1, h5, hi, htk, hend⟩
    have := hend rfl
    subst this
    rw [List.take_length, hn, List.take_length] at htk
    have e : decide (a = b) = true := by simpa using htk
    simp -dsimp [e]
theorem eqDesk_fn (a b : Desk) (ha : a.small) : FnZ Tryz.prog 12 [a.v, b.v] (.bool (decide (a = b))) := by
  refine FnZ_of (rs := [.tmp 4]) false Tryz.func12 rfl rfl rfl rfl (Nat.le_of_ble_eq_true rfl) ?_
  simp -dsimp
  refine call_ (eqPlace_fn a.now b.now ha.1) (by simp -dsimp) ?_
  have h0 := ft (decide (a.now = b.now))
  rcases h0 with h0 | h0
  · have e : decide (a = b) = false := by cases a; cases b; simp_all
    simp -dsimp [h0, e]
  simp -dsimp [h0]
  refine call_ (eqPlaceS_fn a.past b.past ha.2.1 ha.2.2) (by simp -dsimp) ?_
  have h1 := ft (decide (a.past = b.past))
  rcases h1 with h1 | h1
  · have e : decide (a = b) = false := by cases a; cases b; simp_all
    simp -dsimp [h1, e]
  · have e : decide (a = b) = true := by cases a; cases b; simp_all
    simp -dsimp [h1, e]
def bulkSum (l : List Place) : Nat := (l.map fun p => p.bulk).sum
theorem bulkSum_take {l : List Place} {i : Nat} (h : i < l.length) : bulkSum (l.take (i + 1)) = bulkSum (l.take i) + l[i].bulk := by
  unfold bulkSum; rw [List.take_succ_eq_append_getElem h, List.map_append, List.sum_append]; rfl
theorem bulkSum_le (l : List Place) (i : Nat) : bulkSum (l.take i) ≤ bulkSum l := by
  have e : bulkSum l = bulkSum (l.take i ++ l.drop i) := by rw [List.take_append_drop]
  rw [e]; unfold bulkSum; rw [List.map_append, List.sum_append]; omega
theorem bulkSum_mem {l : List Place} {c : Place} (h : c ∈ l) : c.bulk ≤ bulkSum l := by
  induction l with
  | nil => cases h
  | cons y ys ih =>
    rcases List.mem_cons.1 h with rfl | h
    · simp [bulkSum]
    · have := ih h; simp only [bulkSum, List.map_cons, List.sum_cons] at this ⊢; omega
def SZP (l : List Place) (left : Int) (e : Nat) (s : S) : Prop := ∃ i : Nat, s.tm 0 = .v (.sl (l.map Place.v)) ∧ s.tm 1 = .v (.int .i64 (left - l.length - bulkSum (l.take i))) ∧ s.tm 5 = .v (.int .i64 i) ∧ i ≤ l.length ∧ 0 ≤ left - l.length - bulkSum (l.take i) ∧ (e = 1 → i = l.length)
theorem szPlaceS_fn (l : List Place) (left : Int) (h0 : 0 ≤ left) (h1 : left ≤ 1048576) (hl : mid l.length) (hc : ∀ c ∈ l, c.mid) : FnZ Tryz.prog 26 [.sl (l.map Place.v), .int .i64 left] (.int .i64 (szR left (l.length + bulkSum l))) := by
  unfold mid at hl
  have w : IntKind.wrap .i64 (left - l.length) = left - l.length := w64 (by omega) (by omega)
  refine FnZ_of (rs := [.tmp 4]) false Tryz.func26 rfl rfl rfl rfl (Nat.le_of_ble_eq_true rfl) ?_
  by_cases h : left - l.length < 0
  · have e : szR left (l.length + bulkSum l) = -1 := if_pos (by omega)
    simp -dsimp [w, h, e]
  simp -dsimp [w, h]
  refine twp_loopC (SZP l left 0) (fun s => l.length - natOf (s.tm 5)) (SZP l left 1) ?_ ?_ ?_
  · exact ⟨0, by simp -dsimp, by simp -dsimp [bulkSum], by simp -dsimp, by omega, by simp [bulkSum]; omega, by simp⟩
  · rintro s ⟨i, t0, t1, t5, hi, hp, hend⟩
    by_cases hlt : i < l.length
    case neg =>
      simp -dsimp [t0, t5, hlt]
      exact ⟨i, by simp -dsimp [t0], by simp -dsimp [t1], by simp -dsimp [t5], hi, hp, fun _ => by omega⟩
    have hget : (l.map Place.v)[i]? = some (l[i].v) := by simp [hlt]
    have wi : IntKind.wrap .i64 ((i : Int) + 1) = ((i + 1 : Nat) : Int) := by rw [w64 (by omega) (by omega)]; omega
    have hmu : l.length - (i + 1) < l.length - i := by omega
    have hs := bulkSum_take hlt
    have hle := bulkSum_le l (i + 1)
    simp -dsimp [t0, t1, t5, hlt, hget]
    refine call_ (szPlace_fn l[i] (left - l.length - bulkSum (l.take i)) (by omega) (by omega) (hc _ (List.getElem_mem _))) (by simp -dsimp) ?_
    by_cases hn : left - l.length - bulkSum (l.take i) - l[i].bulk < 0
    · have e1 : szR (left - l.length - bulkSum (l.take i)) l[i].bulk = -1 := if_pos hn
      have e2 : szR left (l.length + bulkSum l) = -1 := if_pos (by omega)
      simp -dsimp [e1, e2]
    · have e1 : szR (left - l.length - bulkSum (l.take i)) l[i].bulk = left - l.length - bulkSum (l.take (i + 1)) := by rw [szR, if_neg hn]; omega
      have e2 : ¬ left - l.length - bulkSum (l.take (i + 1)) < 0 := by omega
      simp -dsimp [e1, e2, t5, wi, hmu]
      exact ⟨i + 1, by simp -dsimp [t0], by simp -dsimp, by simp -dsimp, by omega, by omega, by simp⟩
  · rintro s ⟨i, t0, t1, t5, hi, hp, hend⟩
    have := hend rfl
    subst this
    rw [List.take_length] at t1 hp
    have e : szR left (l.length + bulkSum l) = left - l.length - bulkSum l := by rw [szR, if_neg (by omega)]; omega
    simp -dsimp [t1, e]
def Desk.bulk (d : Desk) : Nat := d.now.bulk + (d.past.length + bulkSum d.past)
theorem szDesk_fn (d : Desk) (left : Int) (h0 : 0 ≤ left) (h1 : left ≤ 1048576) (hd : d.mid) : FnZ Tryz.prog 6 [d.v, .int .i64 left] (.int .i64 (szR left d.bulk)) := by
  refine FnZ_of (rs := [.tmp 4]) false Tryz.func6 rfl rfl rfl rfl (Nat.le_of_ble_eq_true rfl) ?_
  simp -dsimp
  refine call_ (szPlace_fn d.now left h0 h1 hd.1) (by simp -dsimp) ?_
  by_cases h : left - d.now.bulk < 0
  · have e : szR left d.now.bulk = -1 := if_pos h
    have e2 : szR left d.bulk = -1 := if_pos (by unfold Desk.bulk; omega)
    simp -dsimp [e, e2]
  have e : szR left d.now.bulk = left - d.now.bulk := if_neg h
  simp -dsimp [e, h]
  refine call_ (szPlaceS_fn d.past (left - d.now.bulk) (by omega) (by omega) hd.2.1 hd.2.2) (by simp -dsimp) ?_
  by_cases h2 : left - d.now.bulk - (d.past.length + bulkSum d.past : Nat) < 0
  · have e2 : szR (left - d.now.bulk) (d.past.length + bulkSum d.past) = -1 := if_pos h2
    have e3 : szR left d.bulk = -1 := if_pos (by unfold Desk.bulk; omega)
    simp -dsimp [e2, e3]
  · have e2 : szR (left - d.now.bulk) (d.past.length + bulkSum d.past) = left - d.bulk := by rw [szR, if_neg h2]; unfold Desk.bulk; omega
    have e3 : szR left d.bulk = left - d.bulk := if_neg (by unfold Desk.bulk; omega)
    have e4 : ¬ left - d.bulk < 0 := by unfold Desk.bulk; omega
    simp -dsimp [e2, e3, e4]
theorem Desk.small_of {d : Desk} (h : ¬ (1048576 : Int) - d.bulk < 0) : d.small := by
  unfold Desk.bulk at h
  exact ⟨Place.small_of (by omega), by omega, fun p hp => Place.small_of (by have := bulkSum_mem hp; omega)⟩
theorem Place.fine_of {p : Place} (hs : p.small) (hf : p.fit) : p.fine := ⟨by have := hs.1; omega, fun c hc => ⟨(hf.2 c hc).2, by have := hs.2 c hc; unfold Claim.small at this; omega⟩⟩
def IdeskOkS (d : Desk) (e : Nat) (s : S) : Prop := ∃ i : Nat, s.tm 1 = .ptr 0 0 ∧ s.m 0 = some (.box 37 3 [.v (.int .i64 d.now.people), .v (storyV d.now.story), .v (.sl (d.past.map Place.v))]) ∧ s.tm 3 = .v (.int .i64 i) ∧
  i ≤ d.past.length ∧ (d.past.take i).all placeOk = true ∧ (e = 1 → i = d.past.length)
theorem deskOkS_fn (d : Desk) (hs : d.small) (hf : d.fit) : FnZ Tryz.prog 27 [d.v] (.bool (deskOk d)) := by
  have hl := hs.2.1
  refine FnZ_of (rs := [.tmp 2]) false Tryz.func27 rfl rfl rfl rfl (Nat.le_of_ble_eq_true rfl) ?_
  simp -dsimp
  refine twp_loopC (IdeskOkS d 0) (fun s => d.past.length - natOf (s.tm 3)) (IdeskOkS d 1) ?_ ?_ ?_
  · exact ⟨0, by simp -dsimp, by simp -dsimp, by simp -dsimp, by omega, by simp, by simp⟩
  · rintro s ⟨i, t1, m0, t8, hi, hall, hend⟩
    by_cases hlt : i < d.past.length
    case neg =>
      simp -dsimp [t1, m0, t8, hlt]
      exact ⟨i, by simp -dsimp [t1], by simp -dsimp [m0], by simp -dsimp [t8], hi, hall, fun _ => by omega⟩
    have hget : (d.past.map Place.v)[i]? = some (d.past[i].v) := by simp [hlt]
    have hall' := all_take_succ (f := placeOk) hlt
    have wi : IntKind.wrap .i64 ((i : Int) + 1) = ((i + 1 : Nat) : Int) := by rw [w64 (by omega) (by omega)]; omega
    have hmu : d.past.length - (i + 1) < d.past.length - i := by omega
    have hbad := all_bad (f := placeOk) hlt
    have hm := List.getElem_mem hlt
    simp -dsimp [t1, m0, t8, hlt, hget]
    refine call_ (placeOkS_fn d.past[i] (Place.fine_of (hs.2.2 _ hm) (hf.2 _ hm))) (by simp -dsimp) ?_
    have hc := ft (placeOk d.past[i])
    rcases hc with hc | hc
    · simp -dsimp [hc, deskOk, hbad hc]
    · simp -dsimp [hc, t8, wi, hmu]
      exact ⟨i + 1, by simp -dsimp [t1], by simp -dsimp [m0], by simp -dsimp, by omega, by rw [hall', hall, hc]; rfl, by simp⟩
  · rintro s ⟨i, t1, m0, t8, hi, hall, hend⟩
    have := hend rfl
    subst this
    rw [List.take_length] at hall
    simp -dsimp [t1, m0]
    refine call_ (placeOkS_fn d.now (Place.fine_of hs.1 hf.1)) (by simp -dsimp) ?_
    have hk := ft (placeOk d.now)
    rcases hk with hk | hk
    · simp -dsimp [deskOk, hk]
    · simp -dsimp [t1, m0, deskOk, hk, hall]
      omega
theorem opens_places (w : World) : Opens Tryz.prog w 25 fun vs => ∃ l : List Place, vs = [.sl (l.map Place.v)] ∧ l.length ≤ maxLen ∧ ∀ a ∈ l, a.fit ∧ a.mid :=
  opens_slice Tryz.underlying25 (z := 2) (by kernel_rfl) (by omega) ((opens_place w).mono fun vs h => by obtain ⟨a, h1, h2⟩ := h; exact ⟨a, h1, .inl h2⟩)
theorem opens_desk (w : World) : Opens Tryz.prog w 27 fun vs => ∃ a : Desk, (a.fit ∧ a.mid) ∧ a.v = .agg vs :=
  (opens_struct2 Tryz.underlying27 rfl (by kernel_rfl) (by kernel_rfl) (opens_place w) (opens_places w)).mono fun vs h => by
    obtain ⟨v0, v1, rfl, ⟨p, hp, hv⟩, ⟨l, rfl, hl, hf⟩⟩ := h
    cases hv
    exact ⟨⟨p, l⟩, ⟨⟨hp.1, fun c hc => (hf c hc).1⟩, hp.2, by simpa [mid, maxLen] using hl, fun c hc => (hf c hc).2⟩, rfl⟩
end TL

/- Desks of the caller's own: where their rows lie, lent, moved, flat; marks. -/
set_option linter.unusedSimpArgs false
set_option linter.unusedVariables false
set_option maxRecDepth 100000
set_option maxHeartbeats 4000000
set_option pp.maxSteps 1500
namespace TL
open Go Go.Proofs
attribute [local simp] marksV storyV codeV Claim.v Place.v Desk.v
theorem OwnPl.wide {m : Mem} {l : List Place} {ss : List T} {lo hi lo' hi' : Nat} (h : OwnPl m lo hi l ss) (h1 : lo' ≤ lo) (h2 : hi ≤ hi') : OwnPl m lo' hi' l ss := by
  induction l generalizing ss lo lo' with
  | nil =>
    cases ss with
    | nil => have : lo ≤ hi := h; show lo' ≤ hi'; omega
    | cons st ss => exact h.elim
  | cons p l ih =>
    cases ss with
    | nil => exact h.elim
    | cons st ss =>
      obtain ⟨mid, js, g1, g2, g3⟩ := h
      exact ⟨mid, js, by omega, g2.wide h1 (Nat.le_refl _) fun _ _ _ => rfl, ih g3 (Nat.le_refl _)⟩
theorem PastO.keep {m m' : Mem} {b hi b' hi' : Nat} {P : T} {l : List Place} {ss : List T} (h : PastO m b hi P l ss) (h1 : b' ≤ b) (h2 : hi ≤ hi') (hk : ∀ j, b ≤ j → j < hi → m' j = m j) : PastO m' b' hi' P l ss := by
  rcases h with h | ⟨id, ex, e1, e2, e3, e4, e5⟩
  · exact .inl h
  · exact .inr ⟨id, ex, e1, by omega, by omega, e4, by rw [hk id e2 e3, e5]⟩
/-- A desk of one's own: three parts of memory, apart from each other. -/
def OwnD (m : Mem) (lo hi : Nat) (sn P : T) (d : Desk) : Prop := ∃ (jn : List Nat) (ss : List T) (a1 b1 a2 b2 a3 b3 : Nat), OwnRowC m a1 b1 sn d.now.story jn ∧ OwnPl m a2 b2 d.past ss ∧ PastO m a3 b3 P d.past ss ∧ lo ≤ a1 ∧ a1 ≤ b1 ∧ b1 ≤ hi ∧ lo ≤ a2 ∧ b2 ≤ hi ∧ lo ≤ a3 ∧ a3 ≤ b3 ∧ b3 ≤ hi ∧ (b1 ≤ a2 ∨ b2 ≤ a1) ∧ (b1 ≤ a3 ∨ b3 ≤ a1) ∧ (b2 ≤ a3 ∨ b3 ≤ a2)
def dT (d : Desk) (sn P : T) : T := .agg [.v (.int .i64 d.now.people), sn, P]
theorem OwnD.keep {m m' : Mem} {lo hi lo' hi' : Nat} {sn P : T} {d : Desk} (h : OwnD m lo hi sn P d) (h1 : lo' ≤ lo) (h2 : hi ≤ hi') (hk : ∀ j, lo ≤ j → j < hi → m' j = m j) : OwnD m' lo' hi' sn P d := by
  obtain ⟨jn, ss, a1, b1, a2, b2, a3, b3, r1, r2, r3, c1, c2, c3, c4, c5, c6, c7, c8, c9, c10, c11⟩ := h
  exact ⟨jn, ss, a1, b1, a2, b2, a3, b3, r1.keep fun j j1 j2 => hk j (by omega) (by omega), r2.keep fun j j1 j2 => hk j (by omega) (by omega), r3.keep (Nat.le_refl _) (Nat.le_refl _) fun j j1 j2 => hk j (by omega) (by omega), by omega, by omega, by omega, by omega, by omega, by omega, by omega, by omega, c9, c10, c11⟩
theorem OwnD.facts {m : Mem} {lo hi : Nat} {sn P : T} {d : Desk} (h : OwnD m lo hi sn P d) : sn.cell = true ∧ sn.cells = [sn] ∧ P.cell = true ∧ P.cells = [P] := by
  obtain ⟨jn, ss, a1, b1, a2, b2, a3, b3, r1, r2, r3, _⟩ := h
  exact ⟨r1.cell, r1.cells, r3.cell, r3.cells⟩
/-! Lent. -/
theorem pcT_bor {m : Mem} (d : Nat) : ∀ {l : List Place} {ss : List T} {lo hi : Nat}, OwnPl m lo hi l ss → mapO (bor true m (d + 2)) (pcT l ss) = some (l.flatMap fun p => p.v.cells)
  | [], [], lo, hi, _ => rfl
  | p :: l, st :: ss, lo, hi, ⟨mid, js, h1, h2, h3⟩ => by
    have e := h2.bor d
    have e2 := pcT_bor d h3
    simp [mapO, e, e2, V.cells]
  | [], st :: ss, _, _, h => h.elim
  | p :: l, [], _, _, h => h.elim
theorem plV_cell (l : List Place) : ∀ x ∈ (l.flatMap fun p => p.v.cells), x.cell = true := by
  intro x hx
  obtain ⟨p, _, hp⟩ := List.mem_flatMap.1 hx
  simp [V.cells] at hp
  rcases hp with rfl | rfl <;> rfl
theorem plV_chunk (l : List Place) : chunk 2 l.length (l.flatMap fun p => p.v.cells) = l.map Place.v := by
  induction l with
  | nil => rfl
  | cons x xs ih => simp [chunk, V.cells]; simpa [V.cells] using ih
theorem PastO.bor {m : Mem} {lo hi b hh : Nat} {P : T} {l : List Place} {ss : List T} (h : PastO m b hh P l ss) (hp : OwnPl m lo hi l ss) (d : Nat) : TL.bor true m (d + 3) P = some (.sl (l.map Place.v)) := by
  rcases h with ⟨rfl, rfl, rfl⟩ | ⟨i, ex, rfl, _, _, _, h⟩
  · rfl
  · have hl := pcT_len l ss hp.len
    have c1 : 0 + l.length * 2 ≤ (pcT l ss ++ ex).length := by simp; omega
    have e1 : List.take (l.length * 2) (List.drop 0 (pcT l ss ++ ex)) = pcT l ss := by rw [List.drop_zero, ← hl]; exact List.take_left
    show (match m i with | some (.box _ z cs) => tst (0 + l.length * z ≤ cs.length) (obind (mapO (TL.bor true m (d + 2)) ((cs.drop 0).take (l.length * z))) fun xs => tst (∀ x ∈ xs, x.cell = true) (some (V.sl (chunk z l.length xs)))) | _ => none) = _
    rw [h]
    show tst (0 + l.length * 2 ≤ (pcT l ss ++ ex).length) (obind (mapO (TL.bor true m (d + 2)) (((pcT l ss ++ ex).drop 0).take (l.length * 2))) fun xs => tst (∀ x ∈ xs, x.cell = true) (some (V.sl (chunk 2 l.length xs)))) = _
    rw [tst_pos c1, e1, pcT_bor d hp, obind_some, tst_pos (plV_cell l), plV_chunk]
theorem OwnD.bor {m : Mem} {lo hi : Nat} {sn P : T} {d : Desk} (h : OwnD m lo hi sn P d) : TL.bor true m 3 sn = some (.sl (d.now.story.map Claim.v)) ∧ TL.bor true m 3 P = some (.sl (d.past.map Place.v)) := by
  obtain ⟨jn, ss, a1, b1, a2, b2, a3, b3, r1, r2, r3, _⟩ := h
  exact ⟨r1.bor 1, r3.bor r2 0⟩
/-! The part of memory that names nothing but memory. -/
def flM (m : Mem) : Mem := fun i => match m i with
  | some b => if b.fl = true then some b else none
  | none => none
theorem flM_le (m : Mem) : LeM (flM m) m := fun i b hb => by
  unfold flM at hb
  split at hb
  · rename_i c hc; split at hb
    · cases hb; exact hc
    · cases hb
  · cases hb
theorem flM_fl (m : Mem) : ∀ i b, flM m i = some b → b.fl = true := fun i b hb => by
  unfold flM at hb
  split at hb
  · split at hb
    · cases hb; assumption
    · cases hb
  · cases hb
theorem flM_of {m : Mem} {i : Nat} {b : Blk} (h : m i = some b) (hf : b.fl = true) : flM m i = some b := by
  unfold flM; rw [h]; exact if_pos hf
theorem Says.flat {m : Mem} : ∀ {l : List Claim} {js : List Nat}, Says m l js → Says (flM m) l js
  | [], [], _ => trivial
  | c :: l, j :: js, h => ⟨flM_of h.1 (mkT_fl _), h.2.flat⟩
  | [], j :: js, h => h.elim
  | c :: l, [], h => h.elim
theorem OwnRowC.flat {m : Mem} {lo hi : Nat} {st : T} {l : List Claim} {js : List Nat} (h : OwnRowC m lo hi st l js) : OwnRowC (flM m) lo hi st l js := by
  obtain ⟨h1, h2, h3, h4⟩ := h
  refine ⟨h1, h2, h3.flat, ?_⟩
  rcases h4 with h4 | ⟨id, e, i0, i1, i2, i3⟩
  · exact .inl h4
  · exact .inr ⟨id, e, i0, i1, i2, flM_of i3 (clT_fl _ _)⟩
theorem OwnPl.flat {m : Mem} : ∀ {l : List Place} {ss : List T} {lo hi : Nat}, OwnPl m lo hi l ss → OwnPl (flM m) lo hi l ss
  | [], [], lo, hi, h => h
  | p :: l, st :: ss, lo, hi, ⟨mid, js, h1, h2, h3⟩ => ⟨mid, js, h1, h2.flat, h3.flat⟩
  | [], st :: ss, _, _, h => h.elim
  | p :: l, [], _, _, h => h.elim
theorem OwnPl.fl {m : Mem} : ∀ {l : List Place} {ss : List T} {lo hi : Nat}, OwnPl m lo hi l ss → flT (pcT l ss) = true
  | [], [], lo, hi, h => rfl
  | p :: l, st :: ss, lo, hi, ⟨mid, js, h1, h2, h3⟩ => by simp [h2.fl, h3.fl, V.flat]
  | [], st :: ss, _, _, h => h.elim
  | p :: l, [], _, _, h => h.elim
theorem PastO.flat {m : Mem} {lo hi b hh : Nat} {P : T} {l : List Place} {ss : List T} (h : PastO m b hh P l ss) (hp : OwnPl m lo hi l ss) : PastO (flM m) b hh P l ss := by
  rcases h with h | ⟨id, ex, e1, e2, e3, e4, e5⟩
  · exact .inl h
  · exact .inr ⟨id, ex, e1, e2, e3, e4, flM_of e5 (by show flT _ = true; rw [flT_append, hp.fl, e4]; rfl)⟩
theorem OwnD.flat {m : Mem} {lo hi : Nat} {sn P : T} {d : Desk} (h : OwnD m lo hi sn P d) : OwnD (flM m) lo hi sn P d ∧ (dT d sn P).fl = true := by
  obtain ⟨jn, ss, a1, b1, a2, b2, a3, b3, r1, r2, r3, c⟩ := h
  refine ⟨⟨jn, ss, a1, b1, a2, b2, a3, b3, r1.flat, r2.flat, r3.flat r2, c⟩, ?_⟩
  have e : P.fl = true := by rcases r3 with ⟨rfl, _⟩ | ⟨_, _, rfl, _⟩ <;> rfl
  simp [dT, r1.fl, e, V.flat]
/-! Moved up. -/
theorem mkT_up (k : Nat) (l : List Mark) : upT k (mkT l) = mkT l := by
  induction l with
  | nil => rfl
  | cons x xs ih => simp [mkT, ih]
theorem clT_up (k : Nat) : ∀ (l : List Claim) (js : List Nat), upT k (clT l js) = clT l (js.map (· + k))
  | [], js => by simp
  | c :: l, [] => by simp [clT]
  | c :: l, j :: js => by simp [clT_up k l js]
theorem Says.up {n : Nat} {m m' : Mem} : ∀ {l : List Claim} {js : List Nat}, Says m' l js → Says (catM n m m') l (js.map (· + n))
  | [], [], _ => trivial
  | c :: l, j :: js, h => ⟨by rw [catM_hi h.1, up_box, mkT_up], h.2.up⟩
  | [], j :: js, h => h.elim
  | c :: l, [], h => h.elim
theorem OwnRowC.up {n : Nat} {m m' : Mem} {lo hi : Nat} {st : T} {l : List Claim} {js : List Nat} (h : OwnRowC m' lo hi st l js) : OwnRowC (catM n m m') (lo + n) (hi + n) (st.up n) l (js.map (· + n)) := by
  obtain ⟨h1, h2, h3, h4⟩ := h
  refine ⟨fun j hj => ?_, ?_, h3.up, ?_⟩
  · obtain ⟨i, hi, rfl⟩ := List.mem_map.1 hj
    have := h1 i hi; omega
  · exact List.pairwise_map.2 (List.Pairwise.imp (fun {a b} h e => h (by omega)) h2)
  · rcases h4 with ⟨rfl, rfl, rfl⟩ | ⟨id, rfl, i0, i1, i2, i3⟩
    · exact .inl ⟨rfl, rfl, rfl⟩
    · refine .inr ⟨id + n, rfl, by omega, by omega, fun h => ?_, by rw [catM_hi i3, up_box, clT_up]⟩
      obtain ⟨i, hi, e⟩ := List.mem_map.1 h
      exact i2 (by have : i = id := by omega
                   rw [← this]; exact hi)
theorem pcT_up (k : Nat) : ∀ (l : List Place) (ss : List T), upT k (pcT l ss) = pcT l (upT k ss)
  | [], ss => by simp
  | p :: l, [] => by simp [pcT]
  | p :: l, st :: ss => by simp [pcT_up k l ss]
theorem OwnPl.up {n : Nat} {m m' : Mem} : ∀ {l : List Place} {ss : List T} {lo hi : Nat}, OwnPl m' lo hi l ss → OwnPl (catM n m m') (lo + n) (hi + n) l (upT n ss)
  | [], [], lo, hi, h => by have : lo ≤ hi := h; show lo + n ≤ hi + n; omega
  | p :: l, st :: ss, lo, hi, ⟨mid, js, h1, h2, h3⟩ => ⟨mid + n, _, by omega, h2.up, h3.up⟩
  | [], st :: ss, _, _, h => h.elim
  | p :: l, [], _, _, h => h.elim
mutual
theorem up_fl (k : Nat) : ∀ (x : T), x.fl = true → (x.up k).fl = true
  | .sv _ _ _, _ => rfl
  | .ptr _ _, _ => rfl
  | .agg cs, h => upT_fl k cs h
  | .tup cs, h => upT_fl k cs h
  | .v _, h => h
  | .nil, _ => rfl
  | .loc _, h => by cases h
  | .fptr _ _, h => by cases h
  | .fn _ _, h => by cases h
theorem upT_fl (k : Nat) : ∀ (cs : List T), flT cs = true → flT (upT k cs) = true
  | [], _ => rfl
  | x :: xs, h => by
    simp only [flT_cons, Bool.and_eq_true] at h
    simp only [upT_cons, flT_cons, Bool.and_eq_true]
    exact ⟨up_fl k x h.1, upT_fl k xs h.2⟩
end
theorem PastO.up {n : Nat} {m m' : Mem} {b hh : Nat} {P : T} {l : List Place} {ss : List T} (h : PastO m' b hh P l ss) : PastO (catM n m m') (b + n) (hh + n) (P.up n) l (upT n ss) := by
  rcases h with ⟨rfl, rfl, rfl⟩ | ⟨id, ex, rfl, e2, e3, e4, e5⟩
  · exact .inl ⟨rfl, rfl, rfl⟩
  · exact .inr ⟨id + n, upT n ex, rfl, by omega, by omega, upT_fl n _ e4, by rw [catM_hi e5, up_box, upT_append, pcT_up]⟩
theorem OwnD.up {n : Nat} {m m' : Mem} {lo hi : Nat} {sn P : T} {d : Desk} (h : OwnD m' lo hi sn P d) : OwnD (catM n m m') (lo + n) (hi + n) (sn.up n) (P.up n) d := by
  obtain ⟨jn, ss, a1, b1, a2, b2, a3, b3, r1, r2, r3, c1, c2, c3, c4, c5, c6, c7, c8, c9, c10, c11⟩ := h
  exact ⟨_, _, a1 + n, b1 + n, a2 + n, b2 + n, a3 + n, b3 + n, r1.up, r2.up, r3.up, by omega, by omega, by omega, by omega, by omega, by omega, by omega, by omega, by omega, by omega, by omega⟩
theorem OwnD.none {m : Mem} {lo hi : Nat} : lo ≤ hi → OwnD m lo hi .nil .nil noDeskV := fun h => ⟨[], [], lo, lo, lo, lo, lo, lo, ⟨by simp, List.nodup_nil, trivial, .inl ⟨rfl, rfl, rfl⟩⟩, Nat.le_refl _, .inl ⟨rfl, rfl, rfl⟩, by omega, by omega, by omega, by omega, by omega, by omega, by omega, by omega, by omega, by omega, by omega⟩
theorem dT_up (d : Desk) (sn P : T) (n : Nat) : (dT d sn P).up n = dT d (sn.up n) (P.up n) := rfl
/-- A copied desk. -/
theorem DeepD.own {d : Desk} {m m' : Mem} {n n' : Nat} {t : T} (h : DeepD d m n t m' n') : n ≤ n' ∧ (∀ j, j < n → m' j = m j) ∧ ∃ sn P, t = dT d sn P ∧ OwnD m' n n' sn P d := by
  obtain ⟨h1, h2, sn, P, jn, ss, a, b, e, r1, c1, r2, c2, r3⟩ := h
  have := r2.le
  refine ⟨h1, h2, sn, P, e, jn, ss, n, a, a, b, b, n', r1, r2, r3, ?_, ?_, ?_, ?_, ?_, ?_, ?_, ?_, ?_, ?_, ?_⟩ <;> omega
end TL

/- Desks of the caller's own: marked, and held. -/
set_option linter.unusedSimpArgs false
set_option linter.unusedVariables false
set_option maxRecDepth 100000
set_option maxHeartbeats 4000000
set_option pp.maxSteps 1500
namespace TL
open Go Go.Proofs
attribute [local simp] marksV storyV codeV Claim.v Place.v Desk.v
def mkp (k : Int) : List Place → List Place
  | [] => []
  | p :: l => ⟨k, mkc (k + 1) p.story⟩ :: mkp (mkn (k + 1) p.story) l
def mkpn (k : Int) : List Place → Int
  | [] => k
  | p :: l => mkpn (mkn (k + 1) p.story) l
theorem mkpn_ge : ∀ (l : List Place) (k : Int), k + l.length ≤ mkpn k l
  | [], k => by simp [mkpn]
  | p :: l, k => by have := mkpn_ge l (mkn (k + 1) p.story); have := mkn_ge p.story (k + 1); simp only [mkpn, List.length_cons]; omega
@[simp] theorem mkp_length : ∀ (l : List Place) (k : Int), (mkp k l).length = l.length
  | [], k => rfl
  | p :: l, k => by simp [mkp, mkp_length l]
def mkD (k : Int) (d : Desk) : Desk := ⟨⟨d.now.people, mkc k d.now.story⟩, mkp (mkn k d.now.story) d.past⟩
def mkDn (k : Int) (d : Desk) : Int := mkpn (mkn k d.now.story) d.past
theorem mkn_sum : ∀ (l : List Claim) (k : Int), mkn k l ≤ k + 2 * (l.length + saysSum l)
  | [], k => by simp [mkn, saysSum]
  | c :: l, k => by
    have := mkn_sum l (k + 1 + 2 * c.says.length)
    have e : saysSum (c :: l) = c.says.length + saysSum l := by simp [saysSum]
    simp only [mkn, List.length_cons, e]; omega
theorem mkpn_sum : ∀ (l : List Place) (k : Int), mkpn k l ≤ k + 2 * (l.length + bulkSum l)
  | [], k => by simp [mkpn, bulkSum]
  | p :: l, k => by
    have h1 := mkpn_sum l (mkn (k + 1) p.story)
    have h2 := mkn_sum p.story (k + 1)
    have e : bulkSum (p :: l) = p.bulk + bulkSum l := by simp [bulkSum]
    have e2 : p.bulk = p.story.length + saysSum p.story := rfl
    simp only [mkpn, List.length_cons, e, e2]; omega
theorem mkDn_sum (d : Desk) (k : Int) : mkn k d.now.story ≤ k + 2 * d.bulk ∧ mkDn k d ≤ k + 2 * d.bulk ∧ k ≤ mkn k d.now.story ∧ mkn k d.now.story ≤ mkDn k d := by
  have h1 := mkpn_sum d.past (mkn k d.now.story)
  have h2 := mkn_sum d.now.story k
  have h3 := mkpn_ge d.past (mkn k d.now.story)
  have h4 := mkn_ge d.now.story k
  have e : d.bulk = (d.now.story.length + saysSum d.now.story) + (d.past.length + bulkSum d.past) := rfl
  unfold mkDn
  omega
theorem markClaimS_own (l : List Claim) (k : Int) (hk0 : 0 ≤ k) (hk : mkn k l ≤ 100000000000000) (hl : ∀ c ∈ l, c.says.length ≤ 1000000000) (m : Mem) (lo hi n : Nat) (hlo : hi ≤ n) (st : T) (js : List Nat) (h : OwnRowC m lo hi st l js) :
    FnS Tryz.prog 78 m n [st, .v (.int .i64 k)] (fun t m' n' => t = .v (.int .i64 (mkn k l)) ∧ n ≤ n' ∧ OwnRowC m' lo hi st (mkc k l) js ∧ ∀ j, j < n → j < lo ∨ hi ≤ j → m' j = m j) := by
  obtain ⟨h1, h2, h3, h4⟩ := h
  rcases h4 with ⟨rfl, rfl, rfl⟩ | ⟨id, rfl, i0, i1, i2, i3⟩
  · refine (markClaimS_nil m n k).weak ?_
    rintro t m' n' ⟨rfl, hn, rfl⟩
    exact ⟨rfl, hn, ⟨by simp, List.nodup_nil, trivial, .inl ⟨rfl, rfl, rfl⟩⟩, fun j _ _ => rfl⟩
  · refine (markClaimS_fn l js k hk0 hk m n id (by omega) (fun j hj => by have := (h1 j hj).2; omega) h2 i2 i3 h3 hl).weak ?_
    rintro t m' n' ⟨rfl, hn, e1, e2, e3⟩
    refine ⟨rfl, hn, ⟨h1, h2, e2, .inr ⟨id, by simp, i0, i1, i2, e1⟩⟩, fun j j1 j2 => ?_⟩
    have q1 : j ∉ js := fun hj => by have := h1 j hj; omega
    exact e3 j j1 (by omega) q1
theorem OwnPl.parts {m : Mem} : ∀ {A B : List Place} {sa sb : List T} {lo hi : Nat}, A.length = sa.length → (OwnPl m lo hi (A ++ B) (sa ++ sb) ↔ ∃ mid, OwnPl m lo mid A sa ∧ OwnPl m mid hi B sb)
  | [], B, [], sb, lo, hi, _ => ⟨fun h => ⟨lo, Nat.le_refl _, h⟩, fun ⟨mid, h1, h2⟩ => h2.wide h1 (Nat.le_refl _)⟩
  | p :: A, B, st :: sa, sb, lo, hi, h => by
    have ih := fun lo => OwnPl.parts (m := m) (A := A) (B := B) (sa := sa) (sb := sb) (lo := lo) (hi := hi) (by simpa using h)
    constructor
    · rintro ⟨mid, js, h1, h2, h3⟩
      obtain ⟨mid2, h4, h5⟩ := (ih mid).1 h3
      exact ⟨mid2, ⟨mid, js, h1, h2, h4⟩, h5⟩
    · rintro ⟨mid2, ⟨mid, js, h1, h2, h4⟩, h5⟩
      exact ⟨mid, js, h1, h2, (ih mid).2 ⟨mid2, h4, h5⟩⟩
  | [], B, st :: sa, sb, lo, hi, h => by simp at h
  | p :: A, B, [], sb, lo, hi, h => by simp at h
def Imp (id : Nat) (l : List Place) (ss ex : List T) (k : Int) (m0 : Mem) (n0 lo hi : Nat) (e : Nat) (s : S) : Prop := ∃ (i mid : Nat) (A B : List Place) (sa sb : List T) (kk : Int), s.tm 0 = .sv id 0 l.length ∧ s.tm 1 = .v (.int .i64 kk) ∧ s.tm 5 = .v (.int .i64 i) ∧ A.length = i ∧ sa.length = i ∧ i + B.length = l.length ∧ sa ++ sb = ss ∧
  n0 ≤ s.n ∧ s.m id = some (.box 34 2 (pcT (A ++ B) ss ++ ex)) ∧ OwnPl s.m lo mid A sa ∧ OwnPl s.m mid hi B sb ∧ mkp k l = A ++ mkp kk B ∧ mkpn k l = mkpn kk B ∧ 0 ≤ kk ∧ (∀ j, j < n0 → j ≠ id → j < lo ∨ hi ≤ j → s.m j = m0 j) ∧ (∀ p ∈ B, ∀ c ∈ p.story, c.says.length ≤ 1000000000) ∧ (e = 1 → B = [])
theorem markPlaceS_own (l : List Place) (ss ex : List T) (k : Int) (hk0 : 0 ≤ k) (hk : mkpn k l ≤ 100000000000000) (m : Mem) (n id lo hi : Nat) (hid : id < n) (hhi : hi ≤ n) (hin : id < lo ∨ hi ≤ id) (hm : m id = some (.box 34 2 (pcT l ss ++ ex))) (hp : OwnPl m lo hi l ss) (hl : ∀ p ∈ l, ∀ c ∈ p.story, c.says.length ≤ 1000000000) :
    FnS Tryz.prog 46 m n [.sv id 0 l.length, .v (.int .i64 k)] (fun t m' n' => t = .v (.int .i64 (mkpn k l)) ∧ n ≤ n' ∧ m' id = some (.box 34 2 (pcT (mkp k l) ss ++ ex)) ∧ OwnPl m' lo hi (mkp k l) ss ∧ ∀ j, j < n → j ≠ id → j < lo ∨ hi ≤ j → m' j = m j) := by
  refine FnS_of (rs := [.tmp 4]) false Tryz.func46 rfl rfl rfl rfl (Nat.le_of_ble_eq_true rfl) ?_
  have hge := mkpn_ge l k
  simp -dsimp
  refine twp_loopC (Imp id l ss ex k m n lo hi 0) (fun s => l.length - natOf (s.tm 5)) (Imp id l ss ex k m n lo hi 1) ?_ ?_ ?_
  · exact ⟨0, lo, [], l, [], ss, k, by simp -dsimp, by simp -dsimp, by simp -dsimp, rfl, rfl, by omega, rfl, by simp -dsimp, by simpa -dsimp using hm, Nat.le_refl _, by simpa -dsimp using hp, rfl, rfl, hk0, fun j _ _ _ => by simp -dsimp, hl, by simp⟩
  · rintro s ⟨i, mid, A, B, sa, sb, kk, t0, t1, t5, hA, hsa, hB, hss, hn, hmm, hpa, hpb, hmk, hmn, hk1, hout, hbl, hend⟩
    cases B with
    | nil =>
      have hlt : ¬ i < l.length := by simp at hB; omega
      simp -dsimp [t0, t5, hlt]
      exact ⟨i, mid, A, [], sa, sb, kk, by simp -dsimp [t0], by simp -dsimp [t1], by simp -dsimp [t5], hA, hsa, hB, hss, by simp -dsimp [hn], by simp -dsimp [hmm], hpa, hpb, hmk, hmn, hk1, fun j j1 j2 j3 => by simp -dsimp [hout j j1 j2 j3], hbl, fun _ => rfl⟩
    | cons p B =>
      have hlt : i < l.length := by simp at hB; omega
      cases sb with
      | nil => exact hpb.elim
      | cons st sb =>
        subst hss
        obtain ⟨mid2, js, g1, g2, g3⟩ := hpb
        have hAj : A.length = sa.length := by omega
        have hle1 := hpa.le
        have hle2 := g3.le
        have ecl : pcT (A ++ p :: B) (sa ++ st :: sb) ++ ex = pcT A sa ++ .v (.int .i64 p.people) :: st :: (pcT B sb ++ ex) := by rw [pcT_app _ _ _ _ hAj]; simp
        have hAl : (pcT A sa).length = i * 2 := by rw [pcT_len _ _ hAj, hA]
        have hset := cell_set (pcT A sa) (.v (.int .i64 p.people)) (.v (.int .i64 kk)) (st :: (pcT B sb ++ ex)) (i * 2) hAl
        have hll : (pcT A sa ++ T.v (.int .i64 p.people) :: st :: (pcT B sb ++ ex)).length = i * 2 + 2 + (pcT B sb ++ ex).length := by simp [hAl]; omega
        have hg1 : (pcT A sa ++ T.v (.int .i64 kk) :: st :: (pcT B sb ++ ex))[i * 2 + 1]? = some st := by
          rw [List.getElem?_append_right (by omega), hAl]; simp
        have hcl := hbl p (by simp)
        have hmnl := mkpn_ge B (mkn (kk + 1) p.story)
        have hmnk := mkn_ge p.story (kk + 1)
        have hmn2 : mkpn k l = mkpn (mkn (kk + 1) p.story) B := hmn
        rw [hmn2] at hk
        have wi : IntKind.wrap .i64 ((i : Int) + 1) = ((i + 1 : Nat) : Int) := by rw [w64 (by omega) (by omega)]; omega
        have w1 : IntKind.wrap .i64 (kk + 1) = kk + 1 := w64 (by omega) (by omega)
        have hmu : l.length - (i + 1) < l.length - i := by omega
        have hlt' : (i : Int) < (l.length : Int) := by omega
        have f1 := far (show id < s.n by omega)
        rw [ecl] at hmm
        have hmark := fun m n hlo h => markClaimS_own p.story (kk + 1) (by omega) (by omega) hcl m mid mid2 n hlo st js h
        have o1 : i * 2 + 1 ≤ i * 2 + 2 + (pcT B sb ++ ex).length := by omega
        have o2 : i * 2 + 1 + 1 ≤ i * 2 + 2 + (pcT B sb ++ ex).length := by omega
        have o3 : i * 2 < i * 2 + 2 + (pcT B sb ++ ex).length := by omega
        have hc := g2.cell
        have hcs := g2.cells
        generalize hc1 : pcT A sa ++ T.v (.int .i64 p.people) :: st :: (pcT B sb ++ ex) = c1 at *
        generalize hc2 : pcT A sa ++ T.v (.int .i64 kk) :: st :: (pcT B sb ++ ex) = c2 at *
        generalize hll2 : (pcT B sb ++ ex).length = ll at *
        simp -dsimp [t0, t1, t5, hlt, hlt', hmm, hll, setAt, hset, hg1, w1, wi, hmu, o1, o2, o3]
        refine callS_ (hmark _ _ (by omega) (g2.keep fun j j1 j2 => by simp [show ¬ j = id by omega])) ?_
        rintro t m2 n2 ⟨rfl, hn2, e1, e2⟩
        have k1 := e2 id (by omega) (by omega)
        simp -dsimp at k1
        simp -dsimp [t0, t1, t5, wi, hmu]
        refine st_out fun s' ht hm' hn' hu' => ?_
        have a0 := ht 0
        have a1 := ht 1
        have a5 := ht 5
        simp -dsimp [t0, wi] at a0 a1 a5 hm' hn' hu'
        clear ht
        have e0 : A ++ [(⟨kk, mkc (kk + 1) p.story⟩ : Place)] ++ B = A ++ ⟨kk, mkc (kk + 1) p.story⟩ :: B := by simp
        refine ⟨i + 1, mid2, A ++ [⟨kk, mkc (kk + 1) p.story⟩], B, sa ++ [st], sb, mkn (kk + 1) p.story, a0, by rw [a1], a5, by simp [hA], by simp [hsa], by simp at hB ⊢; omega, by simp, by omega, ?_, ?_, ?_, ?_, hmn, by omega, fun j j1 j2 j3 => ?_, fun x hx => hbl x (by simp [hx]), by simp⟩
        · rw [e0, pcT_app _ _ _ _ hAj, pcT_cons, hm', k1, ← hc2]; simp
        · rw [hm']
          exact (hpa.keep fun j j1 j2 => by rw [e2 j (by omega) (by omega)]; simp [show ¬ j = id by omega]).snoc (Nat.le_refl _) g1 e1
        · rw [hm']
          exact g3.keep fun j j1 j2 => by rw [e2 j (by omega) (by omega)]; simp [show ¬ j = id by omega]
        · rw [hmk]; simp [mkp]
        · rw [hm', e2 j (by omega) (by omega)]; simp [j2, hout j j1 j2 j3]
  · rintro s ⟨i, mid, A, B, sa, sb, kk, t0, t1, t5, hA, hsa, hB, hss, hn, hmm, hpa, hpb, hmk, hmn, hk1, hout, hbl, hend⟩
    have hb := hend rfl
    subst hb
    have hsb : sb = [] := by
      cases sb with
      | nil => rfl
      | cons st sb => exact hpb.elim
    subst hsb
    rw [List.append_nil] at hmm hss
    subst hss
    have e1 : mkp k l = A := by rw [hmk]; simp [mkp]
    have e2 : mkpn k l = kk := hmn
    rw [e1, e2]
    have : mid ≤ hi := hpb
    simp -dsimp [t1]
    exact ⟨hn, hmm, hpa.wide (Nat.le_refl _) this, hout⟩
theorem markDesk_deep (d : Desk) (k : Int) (hk0 : 0 ≤ k) (hk : mkDn k d ≤ 100000000000000) (hl0 : ∀ c ∈ d.now.story, c.says.length ≤ 1000000000) (hl : ∀ p ∈ d.past, ∀ c ∈ p.story, c.says.length ≤ 1000000000) (m : Mem) (lo hi n : Nat) (hlo : hi ≤ n) (sn P : T) (h : OwnD m lo hi sn P d) :
    FnS Tryz.prog 13 m n [dT d sn P, .v (.int .i64 k)] (fun t m' n' => t = .v (.int .i64 (mkDn k d)) ∧ n ≤ n' ∧ OwnD m' lo hi sn P (mkD k d) ∧ ∀ j, j < n → j < lo ∨ hi ≤ j → m' j = m j) := by
  obtain ⟨hc, hcs, hcP, hcsP⟩ := h.facts
  obtain ⟨jn, ss, a1, b1, a2, b2, a3, b3, r1, r2, r3, c1, c2, c3, c4, c5, c6, c7, c8, c9, c10, c11⟩ := h
  have hge1 := mkn_ge d.now.story k
  have hge2 := mkpn_ge d.past (mkn k d.now.story)
  have hle2 := r2.le
  unfold mkDn at hk
  unfold dT
  refine FnS_of (rs := [.tmp 4]) false Tryz.func13 rfl rfl rfl rfl (Nat.le_of_ble_eq_true rfl) ?_
  simp -dsimp [nes, hc, hcs, hcP, hcsP]
  refine callS_ (markPlace_own d.now k hk0 (by omega) hl0 _ a1 b1 _ (by omega) sn jn (r1.keep fun j j1 j2 => by simp [show ¬ j = n by omega])) ?_
  rintro t m1 n1 ⟨rfl, hn1, hrow, hout⟩
  have k0 := hout n (by omega) (.inr (by omega))
  simp -dsimp at k0
  simp -dsimp [nes, hc, hcs, hcP, hcsP, k0]
  have hk1 : ∀ j, a2 ≤ j → j < b2 → m1 j = m j := fun j j1 j2 => by rw [hout j (by omega) (by omega)]; simp [show ¬ j = n by omega]
  have r2' := r2.keep hk1
  rcases r3 with ⟨rfl, e1, rfl⟩ | ⟨id, ex, rfl, i0, i1, i2, i3⟩
  · refine callS_ (markPlaceS_nil _ _ _) ?_
    rintro t m2 n2 ⟨rfl, hn2, rfl⟩
    simp -dsimp
    refine ⟨by simp [mkDn, e1, mkpn], by omega, ⟨jn, [], a1, b1, a2, b2, a3, b3, hrow, ?_, .inl ⟨rfl, by simp [mkD, e1, mkp], rfl⟩, c1, c2, c3, c4, c5, c6, c7, c8, c9, c10, c11⟩, fun j j1 j2 => ?_⟩
    · simp only [mkD, e1, mkp]; exact hle2
    · rw [hout j (by omega) (by omega)]; simp [show ¬ j = n by omega]
  · have hid : m1 id = m id := by rw [hout id (by omega) (by omega)]; simp [show ¬ id = n by omega]
    refine callS_ (markPlaceS_own d.past ss ex _ (by omega) hk _ _ id a2 b2 (by omega) (by omega) (by omega) (by rw [hid, i3]) r2' hl) ?_
    rintro t m2 n2 ⟨rfl, hn2, e1, e2, e3⟩
    simp -dsimp
    refine ⟨rfl, by omega, ⟨jn, ss, a1, b1, a2, b2, a3, b3, hrow.keep fun j j1 j2 => e3 j (by omega) (by omega) (by omega), e2, .inr ⟨id, ex, by simp [mkD], i0, i1, i2, e1⟩, c1, c2, c3, c4, c5, c6, c7, c8, c9, c10, c11⟩, fun j j1 j2 => ?_⟩
    rw [e3 j (by omega) (by omega) (by omega), hout j (by omega) (by omega)]; simp [show ¬ j = n by omega]
def Ihp (l : List Place) (k : Int) (e : Nat) (s : S) : Prop := ∃ (i : Nat) (A B : List Place) (kk : Int), s.tm 0 = .v (.sl ((mkp k l).map Place.v)) ∧ s.tm 1 = .v (.int .i64 kk) ∧ s.tm 5 = .v (.int .i64 i) ∧ A.length = i ∧ i + B.length = l.length ∧ mkp k l = A ++ mkp kk B ∧ mkpn k l = mkpn kk B ∧ 0 ≤ kk ∧ (∀ p ∈ B, ∀ c ∈ p.story, c.says.length ≤ 1000000000) ∧ (e = 1 → B = [])
theorem heldPlaceS_fn (l : List Place) (k : Int) (hk0 : 0 ≤ k) (hk : mkpn k l ≤ 100000000000000) (hl : ∀ p ∈ l, ∀ c ∈ p.story, c.says.length ≤ 1000000000) : FnZ Tryz.prog 48 [.sl ((mkp k l).map Place.v), .int .i64 k] (.int .i64 (mkpn k l)) := by
  refine FnZ_of (rs := [.tmp 4]) false Tryz.func48 rfl rfl rfl rfl (Nat.le_of_ble_eq_true rfl) ?_
  have hge := mkpn_ge l k
  simp -dsimp
  refine twp_loopC (Ihp l k 0) (fun s => l.length - natOf (s.tm 5)) (Ihp l k 1) ?_ ?_ ?_
  · exact ⟨0, [], l, k, by simp -dsimp, by simp -dsimp, by simp -dsimp, rfl, by omega, rfl, rfl, hk0, hl, by simp⟩
  · rintro s ⟨i, A, B, kk, t0, t1, t5, hA, hB, hmk, hmn, hk1, hbl, hend⟩
    have hcl : ((mkp k l).map Place.v).length = l.length := by simp
    cases B with
    | nil =>
      have hlt : ¬ i < l.length := by simp at hB; omega
      simp -dsimp [t0, t5, hlt]
      exact ⟨i, A, [], kk, by simp -dsimp [t0], by simp -dsimp [t1], by simp -dsimp [t5], hA, hB, hmk, hmn, hk1, hbl, fun _ => rfl⟩
    | cons p B =>
      have hlt : i < l.length := by simp at hB; omega
      have hget : ((mkp k l).map Place.v)[i]? = some (Place.v ⟨kk, mkc (kk + 1) p.story⟩) := by
        rw [hmk, List.getElem?_map, List.getElem?_append_right (by omega), hA, Nat.sub_self]; rfl
      have hcc := hbl p (by simp)
      have hmnl := mkpn_ge B (mkn (kk + 1) p.story)
      have hmnk := mkn_ge p.story (kk + 1)
      have hmn2 : mkpn k l = mkpn (mkn (kk + 1) p.story) B := hmn
      have hmk2 : mkp k l = (A ++ [⟨kk, mkc (kk + 1) p.story⟩]) ++ mkp (mkn (kk + 1) p.story) B := by rw [hmk]; simp [mkp]
      rw [hmn2] at hk
      have wi : IntKind.wrap .i64 ((i : Int) + 1) = ((i + 1 : Nat) : Int) := by rw [w64 (by omega) (by omega)]; omega
      have w1 : IntKind.wrap .i64 (kk + 1) = kk + 1 := w64 (by omega) (by omega)
      have hmu : l.length - (i + 1) < l.length - i := by omega
      have hneg : ¬ mkn (kk + 1) p.story < 0 := by omega
      have hheld := heldClaimS_fn p.story (kk + 1) (by omega) (by omega) hcc
      generalize hrow : (mkp k l).map Place.v = row at *
      have hlt2 : i < row.length := by omega
      have hget2 : row[i] = Place.v ⟨kk, mkc (kk + 1) p.story⟩ := by rw [List.getElem?_eq_getElem hlt2] at hget; exact Option.some.inj hget
      generalize hM : mkn (kk + 1) p.story = M at *
      simp -dsimp [t0, t1, t5, hlt, hlt2, hcl, hget2, w1, wi, hmu]
      refine call_ hheld (by simp -dsimp) ?_
      simp -dsimp [t0, t1, t5, hlt, hlt2, hcl, hget2, w1, wi, hmu, hneg]
      refine st_out fun s' ht hm' hn' hu' => ?_
      have a0 := ht 0
      have a1 := ht 1
      have a5 := ht 5
      simp -dsimp [t0, wi] at a0 a1 a5 hm' hn' hu'
      clear ht
      exact ⟨i + 1, A ++ [⟨kk, mkc (kk + 1) p.story⟩], B, M, by rw [a0, hrow], by rw [a1], a5, by simp [hA], by simp at hB ⊢; omega, hmk2, hmn2, by omega, fun x hx => hbl x (by simp [hx]), by simp⟩
  · rintro s ⟨i, A, B, kk, t0, t1, t5, hA, hB, hmk, hmn, hk1, hbl, hend⟩
    have hb := hend rfl
    subst hb
    have e2 : mkpn k l = kk := hmn
    rw [e2]
    simp -dsimp [t1]
theorem heldDesk_deep (d : Desk) (k : Int) (hk0 : 0 ≤ k) (hk : mkDn k d ≤ 100000000000000) (hl0 : ∀ c ∈ d.now.story, c.says.length ≤ 1000000000) (hl : ∀ p ∈ d.past, ∀ c ∈ p.story, c.says.length ≤ 1000000000) : FnZ Tryz.prog 14 [(mkD k d).v, .int .i64 k] (.int .i64 (mkDn k d)) := by
  have hge1 := mkn_ge d.now.story k
  have hge2 := mkpn_ge d.past (mkn k d.now.story)
  unfold mkDn at hk
  have h := heldPlace_fn d.now.people d.now.story k hk0 (by omega) hl0
  have h2 := heldPlaceS_fn d.past (mkn k d.now.story) (by omega) hk hl
  have h0 : ¬ mkn k d.now.story < 0 := by omega
  have h02 : ¬ mkpn (mkn k d.now.story) d.past < 0 := by omega
  unfold mkD mkDn
  generalize mkn k d.now.story = y at *
  generalize mkpn y d.past = z at *
  refine FnZ_of (rs := [.tmp 4]) false Tryz.func14 rfl rfl rfl rfl (Nat.le_of_ble_eq_true rfl) ?_
  simp -dsimp
  refine call_ h (by simp -dsimp) ?_
  simp -dsimp [h0]
  refine call_ h2 (by simp -dsimp) ?_
  simp -dsimp [h02]
end TL

/- Desks made for the laws, in memory of the caller's own. -/
set_option linter.unusedSimpArgs false
set_option linter.unusedVariables false
set_option maxRecDepth 100000
set_option maxHeartbeats 4000000
set_option pp.maxSteps 1500
namespace TL
open Go Go.Proofs
attribute [local simp] marksV storyV codeV Claim.v Place.v Desk.v
def ItpO (l : List Place) (m : Mem) (n : Nat) (a : Nat) (s : S) : Prop := ∃ (i : Nat) (ss : List T), s.tm 0 = .v (.sl (l.map Place.v)) ∧ s.tm 3 = .sv n 0 l.length ∧ s.tm 4 = .v (.int .i64 i) ∧ i ≤ l.length ∧ n < s.n ∧ s.m n = some (.box 34 2 (pcT (l.take i) ss ++ zc (l.length - i))) ∧
  OwnPl s.m (n + 1) s.n (l.take i) ss ∧ (∀ j, j < n → s.m j = m j) ∧ (a = 1 → i = l.length)
theorem toPlaceS_own (l : List Place) (hl : l.length ≤ 1048576) (hs : ∀ a ∈ l, a.small) (m : Mem) (n : Nat) : FnS Tryz.prog 33 m n [.v (.sl (l.map Place.v))] (fun t m' n' => n < n' ∧ (∀ j, j < n → m' j = m j) ∧ ∃ ss, t = .sv n 0 l.length ∧ m' n = some (.box 34 2 (pcT l ss ++ [])) ∧ OwnPl m' (n + 1) n' l ss) := by
  have b1 : (32 : Int) * l.length ≤ 281474976710656 := by omega
  have b2 : (l.length : Int) ≤ 9223372036854775807 := by omega
  have b3 : (0 : Int) ≤ l.length := by omega
  refine FnS_of (rs := [.tmp 2]) true Tryz.func33 rfl rfl rfl rfl (Nat.le_of_ble_eq_true rfl) ?_
  simp -dsimp [b1, b2, b3]
  refine twp_loopC (ItpO l m n 0) (fun s => l.length - natOf (s.tm 4)) (ItpO l m n 1) ?_ ?_ ?_
  · exact ⟨0, [], by simp -dsimp, by simp -dsimp, by simp -dsimp, by omega, by simp -dsimp <;> omega, by simp -dsimp [zc], by simp -dsimp [OwnPl] <;> omega, fun j j1 => by simp -dsimp [far j1], by simp⟩
  · rintro s ⟨i, ss, h0, h3, h4, hi, hn, hm, hpl, hout, hend⟩
    by_cases hlt : i < l.length
    case neg =>
      simp -dsimp [h0, h4, hlt]
      exact ⟨i, ss, by simp -dsimp [h0], by simp -dsimp [h3], by simp -dsimp [h4], hi, by simp -dsimp; omega, by simp -dsimp [hm], hpl, fun j j1 => by simp -dsimp [hout j j1], fun _ => by omega⟩
    have hget : (l.map Place.v)[i]? = some (l[i].v) := by simp [hlt]
    have wi : IntKind.wrap .i64 ((i : Int) + 1) = ((i + 1 : Nat) : Int) := by rw [w64 (by omega) (by omega)]; omega
    have hmu : l.length - (i + 1) < l.length - i := by omega
    have hlt' : (i : Int) < l.length := by omega
    have htk : l.take (i + 1) = l.take i ++ [l[i]] := List.take_succ_eq_append_getElem hlt
    have htl : (l.take i).length = i := by simp; omega
    have r5 := pcT_len (l.take i) ss hpl.len
    rw [htl] at r5
    have ezc : l.length - i = (l.length - (i + 1)) + 1 := by omega
    rw [ezc, zc_succ] at hm
    have zl := zc_len (l.length - (i + 1))
    have hown := fun m n => toPlace_own l[i] (hs _ (List.getElem_mem hlt)) m n
    generalize hc : l[i] = c at *
    have hset := fun st => cell_set2 (pcT (l.take i) ss) (.v (.int .i64 0)) .nil (.v (.int .i64 c.people)) st (zc (l.length - (i + 1))) (i * 2) r5
    have hll : (pcT (l.take i) ss ++ T.v (.int .i64 0) :: T.nil :: zc (l.length - (i + 1))).length = l.length * 2 := by simp [r5, zl]; omega
    have hoff : i * 2 + 2 ≤ l.length * 2 := by omega
    have f1 := far hn
    generalize hcells : pcT (l.take i) ss ++ T.v (.int .i64 0) :: T.nil :: zc (l.length - (i + 1)) = cells at *
    obtain ⟨c1, c2⟩ := c
    simp -dsimp [h0, h3, h4, hlt, hget, hc]
    refine callL_ (vs := [(⟨c1, c2⟩ : Place).v]) (hown _ _) (by simp -dsimp) ?_
    rintro t m2 n2 ⟨hn2, hout2, st, js, rfl, hrow⟩
    have k1 := hout2 n (by omega)
    have g1 := far (show n < n2 by omega)
    have hset2 := hset st
    have hcc := hrow.cell
    have hcs := hrow.cells
    simp -dsimp [f1, hm] at k1
    simp only at hset2
    simp -dsimp [h0, h3, h4, hlt', k1, hll, hoff, setAt, hset2, wi, hmu, nes, hcc, hcs]
    refine st_out fun s' ht hm' hn' hu' => ?_
    have a0 := ht 0
    have a3 := ht 3
    have a4 := ht 4
    simp -dsimp [h0, h3, wi] at a0 a3 a4 hm' hn' hu'
    clear ht
    have hsl : (l.take i).length = ss.length := hpl.len
    refine ⟨i + 1, ss ++ [st], a0, a3, a4, by omega, by omega, ?_, ?_, fun j j1 => ?_, by simp⟩
    · rw [htk, pcT_app _ _ _ _ hsl]
      simp [hm']
    · rw [htk]
      have hle := hpl.le
      refine OwnPl.snoc (a := s.n) (hpl.keep fun j j1 j2 => ?_) (Nat.le_refl _) (by omega) (hrow.wide (Nat.le_refl _) (by omega) fun j j1 j2 => by simp [hm', show ¬ j = n by omega])
      have q3 := hout2 j (by omega)
      simp [hm', show ¬ j = n by omega, q3]
    · have q3 := hout2 j (by omega)
      simp [hm', show ¬ j = n by omega, q3, hout j j1]
  · rintro s ⟨i, ss, h0, h3, h4, hi, hn, hm, hpl, hout, hend⟩
    have := hend rfl
    subst this
    rw [Nat.sub_self, List.take_length] at hm
    rw [List.take_length] at hpl
    have e : pcT l ss ++ zc 0 = pcT l ss ++ [] := by simp [zc]
    rw [e] at hm
    simp -dsimp [h3]
    exact ⟨by omega, hout, ss, by simpa using hm, hpl⟩
/-- A desk of the caller's own. -/
def DeepK (d : Desk) (m : Mem) (n : Nat) (t : T) (m' : Mem) (n' : Nat) : Prop := n ≤ n' ∧ (∀ j, j < n → m' j = m j) ∧ ∃ sn P, t = dT d sn P ∧ OwnD m' n n' sn P d
theorem toDesk_own (d : Desk) (hd : d.small) (m : Mem) (n : Nat) : FnS Tryz.prog 9 m n [.v d.v] (DeepK d m n) := by
  refine FnS_of (rs := [.cell 2 37]) true Tryz.func9 rfl rfl rfl rfl (Nat.le_of_ble_eq_true rfl) ?_
  have e0 : ¬ n = n + 1 := by omega
  have e5 : ¬ n + 1 = n := by omega
  simp -dsimp [nes, e0, e5]
  refine callL_ (vs := [d.now.v]) (toPlace_own d.now hd.1 _ _) (by simp -dsimp) ?_
  rintro t m1 n1 ⟨hn1, hout, sn, js, rfl, hrow⟩
  have k0 := hout n (by omega)
  have k1 := hout (n + 1) (by omega)
  have k2 := hout (n + 1 + 1) (by omega)
  simp -dsimp [nes, e0, e5] at k0 k1 k2
  have hc := hrow.cell
  have hcs := hrow.cells
  have f0 := far (show n < n1 by omega)
  have f1 := far (show n + 1 < n1 by omega)
  have f2 := far (show n + 1 + 1 < n1 by omega)
  have ho : ∀ j, j < n → m1 j = m j := fun j j1 => by have hj := hout j (by omega); simp [far j1] at hj; exact hj
  simp -dsimp [nes, e0, e5, k0, k1, k2, hc, hcs, f0, f1, f2]
  refine callS_ (toPlaceS_own d.past hd.2.1 hd.2.2 _ _) ?_
  rintro t m2 n2 ⟨hn2, hout2, ss, rfl, him, hpl⟩
  have q0 := hout2 n (by omega)
  have q1 := hout2 (n + 1) (by omega)
  have q2 := hout2 (n + 1 + 1) (by omega)
  simp -dsimp [nes, e0, e5, k0, k1, k2, f0, f1, f2] at q0 q1 q2
  simp -dsimp [nes, e0, e5, q0, q1, q2, hc, hcs]
  have hk : ∀ j, ¬ j = n + 1 → ¬ j = n + 1 + 1 → (updM (updM m2 (n + 1 + 1) (some (.box 37 3 [.v (.int .i64 d.now.people), sn, .sv (n1 + 1) 0 d.past.length]))) (n + 1) (some (.box 37 3 [.v (.int .i64 d.now.people), sn, .sv (n1 + 1) 0 d.past.length]))) j = m2 j := fun j j1 j2 => by simp [j1, j2]
  generalize updM (updM m2 (n + 1 + 1) _) (n + 1) _ = mm at *
  have hrow2 : OwnRowC mm n n1 sn d.now.story js := hrow.wide (by omega) (Nat.le_refl _) fun j j1 j2 => by
    rw [hk j (by omega) (by omega), hout2 j (by omega)]; simp [show ¬ j = n1 by omega, show ¬ j = n by omega, show ¬ j = n + 1 by omega, show ¬ j = n + 1 + 1 by omega]
  refine ⟨by omega, fun j j1 => ?_, sn, .sv (n1 + 1) 0 d.past.length, rfl, js, ss, n, n1, n1 + 1 + 1, n2, n1 + 1, n1 + 1 + 1, hrow2, hpl.keep fun j j1 j2 => hk j (by omega) (by omega), .inr ⟨n1 + 1, [], rfl, by omega, by omega, rfl, by rw [hk _ (by omega) (by omega), him]⟩, ?_, ?_, ?_, ?_, ?_, ?_, ?_, ?_, ?_, ?_, ?_⟩
  · rw [hk j (by omega) (by omega), hout2 j (by omega)]; simp [show ¬ j = n1 by omega, show ¬ j = n + 1 by omega, show ¬ j = n + 1 + 1 by omega, ho j j1]
  all_goals omega
theorem OwnD.form {m : Mem} {lo hi : Nat} {sn P : T} {d : Desk} (hown : OwnD m lo hi sn P d) : sn = .nil ∧ d.now.story.length = 0 ∨ ∃ i, sn = .sv i 0 d.now.story.length := by
  obtain ⟨jn, ss, a1, b1, a2, b2, a3, b3, r1, _⟩ := hown
  rcases r1.2.2.2 with ⟨h1, h2, _⟩ | ⟨i, h1, _⟩
  · exact .inl ⟨h1, by rw [h2]; rfl⟩
  · exact .inr ⟨i, h1⟩
theorem OwnD.none_past {m : Mem} {lo hi : Nat} {sn P : T} {d : Desk} (hown : OwnD m lo hi sn P d) (he : d.past = []) : P = .nil ∨ ∃ i, P = .sv i 0 0 := by
  obtain ⟨jn, ss, a1, b1, a2, b2, a3, b3, r1, r2, r3, _⟩ := hown
  rcases r3 with ⟨h1, _⟩ | ⟨i, ex, h1, _⟩
  · exact .inl h1
  · exact .inr ⟨i, by rw [h1, he]; rfl⟩
/-- The place of before taken back. -/
theorem OwnD.last {m : Mem} {lo hi : Nat} {sn P : T} {d : Desk} {dd : List Place} {q : Place} (h : OwnD m lo hi sn P d) (hp : d.past = dd ++ [q]) :
    ∃ (r : Nat) (cc : List T) (st : T) (ex : List T), P = .sv r 0 (dd.length + 1) ∧ lo ≤ r ∧ r < hi ∧ m r = some (.box 34 2 cc) ∧ cc.length = dd.length * 2 + 2 + ex.length ∧ cc.drop (dd.length * 2) = .v (.int .i64 q.people) :: st :: ex ∧ st.cell = true ∧ st.cells = [st] ∧
      OwnD m lo hi st (.sv r 0 dd.length) ⟨q, dd⟩ := by
  obtain ⟨jn, ss, a1, b1, a2, b2, a3, b3, r1, r2, r3, c1, c2, c3, c4, c5, c6, c7, c8, c9, c10, c11⟩ := h
  rw [hp] at r2 r3
  rcases r3 with ⟨_, h1, _⟩ | ⟨r, ex, rfl, i0, i1, hex, him⟩
  · simp at h1
  have hsl := r2.len
  have hss : ss ≠ [] := fun h => by rw [h] at hsl; simp at hsl
  have hslast := List.dropLast_concat_getLast hss
  generalize ss.getLast hss = st at *
  generalize ss.dropLast = sd at *
  subst hslast
  have hdl : dd.length = sd.length := by simpa using hsl
  obtain ⟨mid, r5, mid2, js, g1, g2, g3⟩ := (OwnPl.parts hdl).1 r2
  have hle := r5.le
  have hle3 : mid2 ≤ b2 := g3
  have hpl := pcT_len dd sd hdl
  have ecl : pcT (dd ++ [q]) (sd ++ [st]) ++ ex = pcT dd sd ++ (.v (.int .i64 q.people) :: st :: ex) := by rw [pcT_app _ _ _ _ hdl]; simp
  refine ⟨r, _, st, ex, by simp, by omega, by omega, him, by rw [ecl]; simp [hpl]; omega, by rw [ecl, ← hpl]; exact List.drop_left, g2.cell, g2.cells, js, sd, mid, mid2, a2, mid, a3, b3, g2, r5, .inr ⟨r, .v (.int .i64 q.people) :: st :: ex, rfl, i0, i1, ?_, by rw [him, ecl]⟩, ?_, ?_, ?_, ?_, ?_, ?_, ?_, ?_, ?_, ?_, ?_⟩
  · simp [g2.fl, hex, V.flat]
  all_goals omega
end TL

/- Deeds read: the plain part. -/
set_option linter.unusedSimpArgs false
set_option linter.unusedVariables false
set_option maxRecDepth 100000
namespace TL
open Go Go.Proofs
/-! Small numbers in figures. -/
open Go.Lib in
def atoiV (s : List UInt8) : Int := match atoiAll s with
  | .ok v => v
  | .range => atoiSat s
  | _ => 0
def goodDec (n : Nat) (l : List UInt8) : Bool := decide (digS l = (n : Int)) && decide (Go.Lib.atoiAll l = .ok (n : Int)) && l.all fun y => decide (y ≠ 32) && decide (y ≠ 10)
theorem good_one : ∀ n : Fin 10, goodDec n.val [UInt8.ofNat (48 + n.val)] = true := by decide +kernel
theorem good_two : ∀ n : Fin 100, ¬ n.val < 10 → goodDec n.val [UInt8.ofNat (48 + n.val / 10), UInt8.ofNat (48 + n.val % 10)] = true := by decide +kernel
theorem good_dec {n : Int} (h0 : 0 ≤ n) (h : n ≤ 99) : digS (dec n) = n ∧ Go.Lib.atoiAll (dec n) = .ok n ∧ ∀ y ∈ dec n, y ≠ 32 ∧ y ≠ 10 := by
  have e : ((n.toNat : Nat) : Int) = n := by omega
  have hg : goodDec n.toNat (dec n) = true := by
    unfold dec
    by_cases h1 : n.toNat < 10
    · rw [Go.Lib.decDigits_one h1]; exact good_one ⟨n.toNat, h1⟩
    · rw [Go.Lib.decDigits_two h1 (by omega)]; exact good_two ⟨n.toNat, by omega⟩ h1
  simp only [goodDec, Bool.and_eq_true, decide_eq_true_eq, List.all_eq_true, e] at hg
  exact ⟨hg.1.1, hg.1.2, hg.2⟩
theorem atoiV_dec {n : Int} (h0 : 0 ≤ n) (h : n ≤ 99) : atoiV (dec n) = n := by
  unfold atoiV; rw [(good_dec h0 h).2.1]
theorem dec_inj {a b : Int} (ha : 0 ≤ a) (ha9 : a ≤ 99) (hb : 0 ≤ b) (hb9 : b ≤ 99) (h : dec a = dec b) : a = b := by
  rw [← atoiV_dec ha ha9, ← atoiV_dec hb hb9, h]
/-! What deeds have a text. -/
theorem deed_cases {a : Deed} (h : deedTx a ≠ []) :
    (∃ w, a = ⟨0, 0, w⟩ ∧ (∃ c, readC 4 w = some c) ∧ deedTx a = txSay ++ w) ∨ (∃ n, 0 ≤ n ∧ n ≤ 99 ∧ a = ⟨1, n, []⟩ ∧ deedTx a = txDrop ++ dec n) ∨ (∃ n, 0 ≤ n ∧ n ≤ 99 ∧ a = ⟨2, n, []⟩ ∧ deedTx a = txPeople ++ dec n) ∨
    (a = ⟨3, 0, []⟩ ∧ deedTx a = txLeast) ∨ (a = ⟨4, 0, []⟩ ∧ deedTx a = txBack) := by
  obtain ⟨k, n, w⟩ := a
  unfold deedTx at h ⊢
  simp only at h ⊢
  split at h
  · rename_i h1
    obtain ⟨rfl, rfl, h3⟩ := h1
    refine .inl ⟨w, rfl, ?_, by rw [if_pos ⟨rfl, rfl, h3⟩]⟩
    cases e : readC 4 w with
    | none => rw [e] at h3; cases h3
    | some c => exact ⟨c, rfl⟩
  rename_i h1
  rw [if_neg h1]
  split at h
  · exact absurd rfl h
  rename_i h2
  rw [if_neg h2]
  have hw : w = [] := by
    cases w with
    | nil => rfl
    | cons x w => exact absurd (.inl (by simp)) h2
  have h0 : 0 ≤ n := by
    rcases Int.lt_or_le n 0 with h | h
    · exact absurd (.inr (.inl h)) h2
    · exact h
  have h9 : n ≤ 99 := by
    rcases Int.lt_or_le 99 n with h | h
    · exact absurd (.inr (.inr h)) h2
    · exact h
  subst hw
  split at h
  · rename_i h3; subst h3; exact .inr (.inl ⟨n, h0, h9, rfl, if_pos rfl⟩)
  rename_i h3
  split at h
  · rename_i h4; subst h4; exact .inr (.inr (.inl ⟨n, h0, h9, rfl, by rw [if_neg h3, if_pos rfl]⟩))
  rename_i h4
  split at h
  · rename_i h5; obtain ⟨rfl, rfl⟩ := h5; exact .inr (.inr (.inr (.inl ⟨rfl, by rw [if_neg h3, if_neg h4, if_pos ⟨rfl, rfl⟩]⟩)))
  rename_i h5
  split at h
  · rename_i h6; obtain ⟨rfl, rfl⟩ := h6; exact .inr (.inr (.inr (.inr ⟨rfl, by rw [if_neg h3, if_neg h4, if_neg h5, if_pos ⟨rfl, rfl⟩]⟩)))
  · exact absurd rfl h
theorem readC_clean {people : Int} {w : List UInt8} {c : Claim} (h : readC people w = some c) : ∀ y ∈ w, y ≠ 32 ∧ y ≠ 10 := by
  obtain ⟨h1, h2⟩ := readC_is h
  intro y hy
  rw [← h2] at hy
  have := claimTx_clean h1 y hy
  exact ⟨this.2.1, this.2.2.1⟩
/-! A text's first word, and what stands behind it. -/
theorem cut_clean {c : UInt8} {s : List UInt8} (h : ∀ y ∈ s, y ≠ c) : Go.Lib.cut s [c] = (s, [], false) := by
  unfold Go.Lib.cut; rw [index_clean h]; rfl
theorem cut_at {c : UInt8} {x r : List UInt8} (h : ∀ y ∈ x, y ≠ c) : Go.Lib.cut (x ++ c :: r) [c] = (x, r, true) := by
  unfold Go.Lib.cut
  rw [index_at h, if_pos (by omega)]
  have e1 : ((x.length : Nat) : Int).toNat = x.length := by omega
  rw [e1, List.take_left]
  congr 2
  rw [List.drop_append, List.drop_of_length_le (by simp)]; simp
def deedW (w r : List UInt8) : Option Deed :=
  if w = [115, 97, 121] then some ⟨0, 0, r⟩ else if w = [100, 114, 111, 112] then some ⟨1, atoiV r, []⟩ else if w = [112, 101, 111, 112, 108, 101] then some ⟨2, atoiV r, []⟩
  else if w = [108, 101, 97, 115, 116] then some ⟨3, 0, []⟩ else if w = [98, 97, 99, 107] then some ⟨4, 0, []⟩ else none
def deedI (s : List UInt8) : Option Deed := deedW (Go.Lib.cut s [32]).1 (Go.Lib.cut s [32]).2.1
theorem deedI_of {a : Deed} (h : deedTx a ≠ []) : deedI (deedTx a) = some a := by
  unfold deedI
  rcases deed_cases h with ⟨w, rfl, ⟨c, hc⟩, e⟩ | ⟨n, h0, h9, rfl, e⟩ | ⟨n, h0, h9, rfl, e⟩ | ⟨rfl, e⟩ | ⟨rfl, e⟩
  · have := cut_at (c := 32) (x := [115, 97, 121]) (r := w) (by decide)
    rw [e]
    show deedW (Go.Lib.cut ([115, 97, 121] ++ 32 :: w) [32]).1 _ = _
    have e2 : txSay ++ w = [115, 97, 121] ++ 32 :: w := rfl
    rw [e2, this]; rfl
  · have := cut_at (c := 32) (x := [100, 114, 111, 112]) (r := dec n) (by decide)
    have e2 : txDrop ++ dec n = [100, 114, 111, 112] ++ 32 :: dec n := rfl
    rw [e, e2, this]
    show some (⟨1, atoiV (dec n), []⟩ : Deed) = _
    rw [atoiV_dec h0 h9]
  · have := cut_at (c := 32) (x := [112, 101, 111, 112, 108, 101]) (r := dec n) (by decide)
    have e2 : txPeople ++ dec n = [112, 101, 111, 112, 108, 101] ++ 32 :: dec n := rfl
    rw [e, e2, this]
    show some (⟨2, atoiV (dec n), []⟩ : Deed) = _
    rw [atoiV_dec h0 h9]
  · rw [e, cut_clean (by decide)]; rfl
  · rw [e, cut_clean (by decide)]; rfl
theorem deedTx_inj {a b : Deed} (h : deedTx a ≠ []) (e : deedTx a = deedTx b) : a = b := by
  have h1 := deedI_of h
  rw [e, deedI_of (by rw [← e]; exact h)] at h1
  exact (Option.some.inj h1).symm
/-- What ReadDeed finds. -/
noncomputable def readD (s : List UInt8) : Option Deed := by
  classical exact if h : ∃ a, s ≠ [] ∧ deedTx a = s then some (Classical.choose h) else none
theorem readD_some {s : List UInt8} {a : Deed} (h : s ≠ []) (e : deedTx a = s) : readD s = some a := by
  have hx : ∃ a, s ≠ [] ∧ deedTx a = s := ⟨a, h, e⟩
  unfold readD; rw [dif_pos hx]
  have := Classical.choose_spec hx
  exact congrArg some (deedTx_inj (by rw [this.2]; exact h) (by rw [this.2, e]))
theorem readD_is {s : List UInt8} {a : Deed} (h : readD s = some a) : s ≠ [] ∧ deedTx a = s := by
  unfold readD at h
  split at h
  · rename_i hx; cases h; exact Classical.choose_spec hx
  · cases h
theorem readD_none {s : List UInt8} (h : ∀ a, s ≠ [] → deedTx a ≠ s) : readD s = none := by
  unfold readD; rw [dif_neg]; rintro ⟨a, h1, h2⟩; exact h a h1 h2
theorem readD_off {s : List UInt8} (h : deedI s = none) : readD s = none := readD_none fun a h1 h2 => by
  have := deedI_of (a := a) (by rw [h2]; exact h1)
  rw [h2, h] at this; cases this
theorem readD_on {s : List UInt8} {a : Deed} (h : deedI s = some a) (hs : s ≠ []) : readD s = if deedTx a = s then some a else none := by
  split
  · rename_i h1; exact readD_some hs h1
  · rename_i h1
    refine readD_none fun b h2 h3 => h1 ?_
    have := deedI_of (a := b) (by rw [h3]; exact h2)
    rw [h3, h] at this
    rw [Option.some.inj this]; exact h3
/-! The reference's candidates. -/
def deedS (s : List UInt8) : List Deed := [⟨3, 0, []⟩, ⟨4, 0, []⟩] ++ match cutAt 32 s with
  | [_, r] => [⟨0, 0, r⟩, ⟨1, digS r, []⟩, ⟨2, digS r, []⟩]
  | _ => []
theorem cut_word {x r : List UInt8} (hx : ∀ y ∈ x, y ≠ (32 : UInt8)) (hr : ∀ y ∈ r, y ≠ (32 : UInt8)) : cutAt 32 (x ++ 32 :: r) = [x, r] := by
  rw [cutAt_app hx, cutAt_none hr]
theorem deedS_of {a : Deed} (h : deedTx a ≠ []) : a ∈ deedS (deedTx a) := by
  unfold deedS
  rcases deed_cases h with ⟨w, rfl, ⟨c, hc⟩, e⟩ | ⟨n, h0, h9, rfl, e⟩ | ⟨n, h0, h9, rfl, e⟩ | ⟨rfl, e⟩ | ⟨rfl, e⟩
  · have e2 : txSay ++ w = [115, 97, 121] ++ 32 :: w := rfl
    rw [e, e2, cut_word (by decide) fun y hy => (readC_clean hc y hy).1]; simp
  · have e2 : txDrop ++ dec n = [100, 114, 111, 112] ++ 32 :: dec n := rfl
    rw [e, e2, cut_word (by decide) fun y hy => ((good_dec h0 h9).2.2 y hy).1]; simp [(good_dec h0 h9).1]
  · have e2 : txPeople ++ dec n = [112, 101, 111, 112, 108, 101] ++ 32 :: dec n := rfl
    rw [e, e2, cut_word (by decide) fun y hy => ((good_dec h0 h9).2.2 y hy).1]; simp [(good_dec h0 h9).1]
  · simp
  · simp
theorem readD_none' {s : List UInt8} (h : ∀ a ∈ deedS s, s ≠ [] → deedTx a ≠ s) : readD s = none := readD_none fun a h1 h2 => by
  have := deedS_of (a := a) (by rw [h2]; exact h1)
  rw [h2] at this
  exact h a this h1 h2
theorem cutR_len (s : List UInt8) (c : List UInt8) : (Go.Lib.cut s c).2.1.length ≤ s.length := by
  unfold Go.Lib.cut
  split
  · simp
  · simp
theorem cutW_nil {s : List UInt8} (h : (Go.Lib.cut s [32]).1 ≠ []) : s ≠ [] := fun e => by
  rw [e, cut_clean (by simp)] at h; exact h rfl
end TL

/- Tables of worlds as numbers. -/
set_option linter.unusedSimpArgs false
set_option linter.unusedVariables false
set_option maxRecDepth 100000
set_option maxHeartbeats 4000000
set_option pp.maxSteps 1500
namespace TL
open Go Go.Proofs
attribute [local simp] marksV storyV codeV Claim.v Place.v
/-- The table of all worlds below n for which something holds. -/
def tabN : Nat → (Nat → Bool) → Nat
  | 0, _ => 0
  | n + 1, f => if f n then tabN n f ||| 2 ^ n else tabN n f
theorem tabN_lt (f : Nat → Bool) : ∀ n, tabN n f < 2 ^ n
  | 0 => by simp [tabN]
  | n + 1 => by
    have h := tabN_lt f n
    have h2 : 2 ^ n < 2 ^ (n + 1) := Nat.pow_lt_pow_right (by omega) (by omega)
    unfold tabN; split
    · exact Nat.or_lt_two_pow (by omega) h2
    · omega
theorem testBit_tabN (f : Nat → Bool) (i : Nat) : ∀ n, (tabN n f).testBit i = (decide (i < n) && f i)
  | 0 => by simp [tabN]
  | n + 1 => by
    have ih := testBit_tabN f i n
    unfold tabN
    split
    · rename_i hf
      rw [Nat.testBit_or, ih, Nat.testBit_two_pow]
      by_cases h : n = i
      · subst h; simp [hf]
      · have : (i < n + 1) ↔ (i < n) := by omega
        simp [h, this]
    · rename_i hf
      rw [ih]
      by_cases h : n = i
      · subst h; simp [hf]
      · have : (i < n + 1) ↔ (i < n) := by omega
        simp [this]
theorem and_nat {a b : Nat} (ha : a < 4611686018427387904) (hb : b < 4611686018427387904) : IntKind.wrap .i64 ((((a : Int) % 2 ^ IntKind.i64.bits).toNat &&& ((b : Int) % 2 ^ IntKind.i64.bits).toNat : Nat) : Int) = ((a &&& b : Nat) : Int) := by
  have e1 : ((a : Int) % 2 ^ IntKind.i64.bits).toNat = a := by simp only [IntKind.bits]; omega
  have e2 : ((b : Int) % 2 ^ IntKind.i64.bits).toNat = b := by simp only [IntKind.bits]; omega
  have h : a &&& b ≤ a := Nat.and_le_left
  rw [e1, e2, w64 (by omega) (by omega)]
theorem or_nat {a b : Nat} (ha : a < 4611686018427387904) (hb : b < 4611686018427387904) : IntKind.wrap .i64 ((((a : Int) % 2 ^ IntKind.i64.bits).toNat ||| ((b : Int) % 2 ^ IntKind.i64.bits).toNat : Nat) : Int) = ((a ||| b : Nat) : Int) := by
  have e1 : ((a : Int) % 2 ^ IntKind.i64.bits).toNat = a := by simp only [IntKind.bits]; omega
  have e2 : ((b : Int) % 2 ^ IntKind.i64.bits).toNat = b := by simp only [IntKind.bits]; omega
  have h : a ||| b < 2 ^ 62 := Nat.or_lt_two_pow (by omega) (by omega)
  rw [e1, e2, w64 (by omega) (by omega)]
theorem and_nn {a b : Nat} (ha : a < 4611686018427387904) (hb : b < 4611686018427387904) : IntKind.wrap .i64 ((a % 2 ^ IntKind.i64.bits &&& b % 2 ^ IntKind.i64.bits : Nat) : Int) = ((a &&& b : Nat) : Int) := by
  have e1 : a % 2 ^ IntKind.i64.bits = a := Nat.mod_eq_of_lt (by simp only [IntKind.bits]; omega)
  have e2 : b % 2 ^ IntKind.i64.bits = b := Nat.mod_eq_of_lt (by simp only [IntKind.bits]; omega)
  rw [e1, e2, w64 (by omega) (by have : a &&& b ≤ a := Nat.and_le_left; omega)]
theorem and_ni {a b : Nat} {x : Int} (hx : x = b) (ha : a < 4611686018427387904) (hb : b < 4611686018427387904) : IntKind.wrap .i64 ((a % 2 ^ IntKind.i64.bits &&& (x % 2 ^ IntKind.i64.bits).toNat : Nat) : Int) = ((a &&& b : Nat) : Int) := by
  subst hx
  have e2 : ((b : Int) % 2 ^ IntKind.i64.bits).toNat = b % 2 ^ IntKind.i64.bits := by simp only [IntKind.bits]; omega
  rw [e2, and_nn ha hb]
theorem or_nn {a b : Nat} (ha : a < 4611686018427387904) (hb : b < 4611686018427387904) : IntKind.wrap .i64 ((a % 2 ^ IntKind.i64.bits ||| b % 2 ^ IntKind.i64.bits : Nat) : Int) = ((a ||| b : Nat) : Int) := by
  have e1 : a % 2 ^ IntKind.i64.bits = a := Nat.mod_eq_of_lt (by simp only [IntKind.bits]; omega)
  have e2 : b % 2 ^ IntKind.i64.bits = b := Nat.mod_eq_of_lt (by simp only [IntKind.bits]; omega)
  rw [e1, e2, w64 (by omega) (by have : a ||| b < 2 ^ 62 := Nat.or_lt_two_pow (by omega) (by omega); omega)]
theorem or_ni {a b : Nat} {x : Int} (hx : x = b) (ha : a < 4611686018427387904) (hb : b < 4611686018427387904) : IntKind.wrap .i64 ((a % 2 ^ IntKind.i64.bits ||| (x % 2 ^ IntKind.i64.bits).toNat : Nat) : Int) = ((a ||| b : Nat) : Int) := by
  subst hx
  have e2 : ((b : Int) % 2 ^ IntKind.i64.bits).toNat = b % 2 ^ IntKind.i64.bits := by simp only [IntKind.bits]; omega
  rw [e2, or_nn ha hb]
def tableOk (people t : Int) : Bool := peopleOk people && decide (0 ≤ t) && decide (t < 2 ^ (2 ^ people.toNat))
def Itb (N : Nat) (f : Nat) (cap : List V) (g : Nat → Bool) (e : Nat) (s : S) : Prop := ∃ w : Nat, s.tm 1 = .v (.fn f cap) ∧ s.tm 8 = .v (.int .i64 N) ∧ s.tm 9 = .v (.int .i64 w) ∧ s.tm 5 = .v (.int .i64 (tabN w g)) ∧ w ≤ N ∧ (e = 1 → w = N)
theorem tableBy_fn (p : Nat) (hp1 : 1 ≤ p) (hp4 : p ≤ 4) (f : Nat) (cap : List V) (g : Nat → Bool) (hg : ∀ w : Nat, w < 2 ^ p → FnZ Tryz.prog f (.int .i64 (w : Int) :: cap) (.bool (g w))) : FnZ Tryz.prog 120 [.int .i64 p, .fn f cap] (.int .i64 (tabN (2 ^ p) g)) := by
  have hN : 2 ^ p ≤ 16 := by
    have : p = 1 ∨ p = 2 ∨ p = 3 ∨ p = 4 := by omega
    rcases this with rfl | rfl | rfl | rfl <;> simp
  have ws : IntKind.wrap .i64 (2 ^ min p IntKind.i64.bits) = ((2 ^ p : Nat) : Int) := by
    have : p = 1 ∨ p = 2 ∨ p = 3 ∨ p = 4 := by omega
    rcases this with rfl | rfl | rfl | rfl <;> rfl
  generalize hNN : 2 ^ p = N at *
  refine FnZ_of (rs := [.tmp 4]) false Tryz.func120 rfl rfl rfl rfl (Nat.le_of_ble_eq_true rfl) ?_
  have hp0 : ¬ (p : Int) < 0 := by omega
  simp -dsimp [ws, hp0]
  refine twp_loopC (Itb N f cap g 0) (fun s => N - natOf (s.tm 9)) (Itb N f cap g 1) ?_ ?_ ?_
  · exact ⟨0, by simp -dsimp, by simp -dsimp, by simp -dsimp, by simp -dsimp [tabN], by omega, by simp⟩
  · rintro s ⟨w, t1, t8, t9, t5, hw, hend⟩
    by_cases hlt : w < N
    case neg =>
      simp -dsimp [t8, t9, hlt]
      exact ⟨w, by simp -dsimp [t1], by simp -dsimp [t8], by simp -dsimp [t9], by simp -dsimp [t5], hw, fun _ => by omega⟩
    have wi : IntKind.wrap .i64 ((w : Int) + 1) = ((w + 1 : Nat) : Int) := by rw [w64 (by omega) (by omega)]; omega
    have hmu : N - (w + 1) < N - w := by omega
    have hb := tabN_lt g w
    have hp : 2 ^ w ≤ 2 ^ 16 := Nat.pow_le_pow_right (by omega) (by omega)
    have h2 : (2 : Nat) ^ w < 4611686018427387904 := by omega
    have wsh : IntKind.wrap .i64 (2 ^ min w IntKind.i64.bits) = ((2 ^ w : Nat) : Int) := by
      rw [Nat.min_eq_left (by simp [IntKind.bits]; omega), w64]
      · simp
      · have : (0 : Int) ≤ 2 ^ w := Int.pow_nonneg (by omega)
        omega
      · have : ((2 ^ w : Nat) : Int) = (2 : Int) ^ w := by simp
        omega
    have hor := or_ni (a := tabN w g) (b := 2 ^ w) (x := (2 : Int) ^ w) (by simp) (by omega) h2
    simp -dsimp [t1, t8, t9, hlt]
    refine call_ (hg w hlt) (by simpa using mapO_pure _ _ (.int .i64 w :: cap)) ?_
    have hgw := ft (g w)
    rcases hgw with hgw | hgw
    · have ht : tabN (w + 1) g = tabN w g := by simp [tabN, hgw]
      simp -dsimp [hgw, t5, t9, wi, hmu]
      exact ⟨w + 1, by simp -dsimp [t1], by simp -dsimp [t8], by simp -dsimp, by simp -dsimp [t5, ht], by omega, by simp⟩
    · have ht : tabN (w + 1) g = tabN w g ||| 2 ^ w := by simp [tabN, hgw]
      simp -dsimp [hgw, t5, t9, wi, hmu, wsh, hor, show ¬ (w : Int) < 0 by omega]
      exact ⟨w + 1, by simp -dsimp [t1], by simp -dsimp [t8], by simp -dsimp, by simp -dsimp [ht], by omega, by simp⟩
  · rintro s ⟨w, t1, t8, t9, t5, hw, hend⟩
    have := hend rfl
    subst this
    simp -dsimp [t5]
end TL

/- Asked tables. -/
set_option linter.unusedSimpArgs false
set_option linter.unusedVariables false
set_option maxRecDepth 100000
set_option maxHeartbeats 4000000
set_option pp.maxSteps 1500
namespace TL
open Go Go.Proofs
attribute [local simp] marksV storyV codeV Claim.v Place.v
def sameKind (who whom : Nat) (yes : Bool) (w : Nat) : Bool := (w.testBit who == w.testBit whom) == yes
@[simp] theorem bor_ptr (m : Mem) (d id : Nat) : bor true m (d + 1) (.ptr id 0) = match m id with
    | some (.box _ _ cs) => obind (mapO (bor true m d) cs) fun xs => tst (∀ x ∈ xs, x.cell = true) (some (.ref xs))
    | _ => none := by
  conv => lhs; unfold bor
  simp only [if_true]
  cases m id with
  | none => rfl
  | some b => cases b <;> rfl
theorem shr_nat (w i : Nat) (hi : i < 60) : (w : Int).fdiv (2 ^ min i IntKind.i64.bits) = ((w / 2 ^ i : Nat) : Int) := by
  have e : min i IntKind.i64.bits = i := Nat.min_eq_left (by simp [IntKind.bits]; omega)
  have e2 : ((2 ^ i : Nat) : Int) = (2 : Int) ^ i := by simp
  rw [e, ← e2, Int.fdiv_eq_ediv_of_nonneg _ (Int.natCast_nonneg _)]
  rfl
theorem div_bit (w i : Nat) : w / 2 ^ i % 2 = if w.testBit i then 1 else 0 := by
  rw [Nat.testBit_eq_decide_div_mod_eq]
  have := Nat.mod_two_eq_zero_or_one (w / 2 ^ i)
  rcases this with h | h <;> simp [h]
theorem bit1 (w i : Nat) (hw : w < 4611686018427387904) (hi : i < 60) : IntKind.wrap .i64 ((((w : Int).fdiv (2 ^ min i IntKind.i64.bits) % 2 ^ IntKind.i64.bits).toNat &&& 1 % 2 ^ IntKind.i64.bits : Nat) : Int) = if w.testBit i then 1 else 0 := by
  rw [shr_nat w i hi]
  have h1 : w / 2 ^ i ≤ w := Nat.div_le_self _ _
  have e1 : (((w / 2 ^ i : Nat) : Int) % 2 ^ IntKind.i64.bits).toNat = w / 2 ^ i := by
    generalize w / 2 ^ i = q at *
    simp only [IntKind.bits]; omega
  have e2 : 1 % 2 ^ IntKind.i64.bits = 1 := by rfl
  rw [e1, e2, Nat.and_one_is_mod, div_bit]
  split <;> rfl
theorem bit2 (w i : Nat) (hi : i < 60) : ((w : Int).fdiv (2 ^ min i IntKind.i64.bits)).tmod 2 = if w.testBit i then 1 else 0 := by
  rw [shr_nat w i hi, Int.tmod_eq_emod_of_nonneg (Int.natCast_nonneg _)]
  have : ((w / 2 ^ i : Nat) : Int) % 2 = ((w / 2 ^ i % 2 : Nat) : Int) := by omega
  rw [this, div_bit]
  split <;> rfl
/-- The table of the worlds in which one says of another one so. -/
def askMask (p who whom : Nat) (yes : Bool) : Nat := tabN (2 ^ p) (sameKind who whom yes)
def asked (people t who whom : Int) (yes : Bool) : Int :=
  if tableOk people t = true ∧ 0 ≤ who ∧ who < people ∧ 0 ≤ whom ∧ whom < people then ((t.toNat &&& askMask people.toNat who.toNat whom.toNat yes : Nat) : Int) else -1
theorem tableOk_spec {people t : Int} (h : tableOk people t = true) : ∃ p n : Nat, people = p ∧ t = n ∧ 1 ≤ p ∧ p ≤ 4 ∧ n < 2 ^ 2 ^ p := by
  simp only [tableOk, peopleOk, Bool.and_eq_true, decide_eq_true_eq] at h
  obtain ⟨⟨⟨h1, h2⟩, h3⟩, h4⟩ := h
  refine ⟨people.toNat, t.toNat, by omega, by omega, by omega, by omega, ?_⟩
  generalize people.toNat = p at *
  have e : ((2 ^ 2 ^ p : Nat) : Int) = (2 : Int) ^ 2 ^ p := by simp
  rw [← e] at h4; omega
theorem table_small {p n : Nat} (hp : p ≤ 4) (h : n < 2 ^ 2 ^ p) : n < 65536 := by
  have : 2 ^ p ≤ 2 ^ 4 := Nat.pow_le_pow_right (by omega) hp
  have : 2 ^ 2 ^ p ≤ 2 ^ 2 ^ 4 := Nat.pow_le_pow_right (by omega) this
  have : (2 : Nat) ^ 2 ^ 4 = 65536 := by decide
  omega
end TL

/- Asked tables: the reference. -/
set_option linter.unusedSimpArgs false
set_option linter.unusedVariables false
set_option maxRecDepth 100000
set_option maxHeartbeats 4000000
set_option pp.maxSteps 1500
namespace TL
open Go Go.Proofs
attribute [local simp] marksV storyV codeV Claim.v Place.v
def Ia13 (N n who whom : Nat) (people : Int) (yes : Bool) (g : Nat → Bool) (e : Nat) (s : S) : Prop := ∃ w : Nat, s.tm 0 = .v (.int .i64 people) ∧ s.tm 1 = .v (.int .i64 n) ∧ s.tm 2 = .v (.int .i64 who) ∧ s.tm 3 = .v (.int .i64 whom) ∧ s.tm 4 = .v (.bool yes) ∧ s.tm 12 = .v (.int .i64 w) ∧ s.tm 11 = .v (.int .i64 (tabN w g)) ∧ w ≤ N ∧ (e = 1 → w = N)
theorem shl_fact {w : Nat} (h : w < 60) : IntKind.wrap .i64 (2 ^ min w IntKind.i64.bits) = (2 : Int) ^ w := by
  have h1 : (2 : Nat) ^ w ≤ 2 ^ 59 := Nat.pow_le_pow_right (by omega) (by omega)
  have e : ((2 ^ w : Nat) : Int) = (2 : Int) ^ w := by simp
  have h3 := Int.natCast_nonneg (2 ^ w)
  have h4 : ((2 ^ w : Nat) : Int) ≤ ((2 ^ 59 : Nat) : Int) := Int.ofNat_le.mpr h1
  rw [Nat.min_eq_left (by simp [IntKind.bits]; omega), ← e]
  generalize ((2 ^ w : Nat) : Int) = q at *
  rw [w64 (by omega) (by omega)]
end TL

/- Majorities, turned tables, drawn tables. -/
set_option linter.unusedSimpArgs false
set_option linter.unusedVariables false
set_option maxRecDepth 100000
set_option maxHeartbeats 4000000
set_option pp.maxSteps 1500
namespace TL
open Go Go.Proofs
attribute [local simp] marksV storyV codeV Claim.v Place.v
/-- How many bits are set. -/
def cnt (n : Nat) : Nat := if h : n = 0 then 0 else n % 2 + cnt (n / 2)
theorem cnt_step {n : Nat} (h : 0 < n) : cnt n = n % 2 + cnt (n / 2) := by rw [cnt, dif_neg (by omega)]
theorem cnt_zero : cnt 0 = 0 := by rw [cnt]; rfl
def Ihd (w : Nat) (e : Nat) (s : S) : Prop := ∃ x q : Nat, s.tm 0 = .v (.int .i64 x) ∧ s.tm 3 = .v (.int .i64 q) ∧ q + cnt x = cnt w ∧ q + x ≤ w ∧ (e = 1 → x = 0)
theorem l1Heads_fn (w : Nat) (hw : w < 4611686018427387904) : FnZ Tryz.prog 173 [.int .i64 w] (.int .i64 (cnt w)) := by
  refine FnZ_of (rs := [.tmp 2]) false Tryz.func173 rfl rfl rfl rfl (Nat.le_of_ble_eq_true rfl) ?_
  simp -dsimp
  refine twp_loopC (Ihd w 0) (fun s => natOf (s.tm 0)) (Ihd w 1) ?_ ?_ ?_
  · exact ⟨w, 0, by simp -dsimp, by simp -dsimp, by omega, by omega, by simp⟩
  · rintro s ⟨x, q, t0, t3, hq, hx, hend⟩
    by_cases h0 : 0 < x
    case neg =>
      simp -dsimp [t0, h0]
      exact ⟨x, q, by simp -dsimp [t0], by simp -dsimp [t3], hq, hx, fun _ => by omega⟩
    have e1 : (x : Int).tmod 2 = ((x % 2 : Nat) : Int) := by rw [Int.tmod_eq_emod_of_nonneg (by omega)]; omega
    have e2 : (x : Int).tdiv 2 = ((x / 2 : Nat) : Int) := by rw [Int.tdiv_eq_ediv_of_nonneg (by omega)]; omega
    have hs := cnt_step h0
    generalize hr : x % 2 = r at *
    generalize hy : x / 2 = y at *
    have w1 : IntKind.wrap .i64 ((q : Int) + r) = ((q + r : Nat) : Int) := by rw [w64 (by omega) (by omega)]; omega
    have w2 : IntKind.wrap .i64 (y : Int) = (y : Int) := by rw [w64 (by omega) (by omega)]
    have hmu : y < x := by omega
    simp -dsimp [t0, t3, h0, e1, e2, w1, w2, hmu]
    exact ⟨y, q + r, by simp -dsimp, by simp -dsimp, by omega, by omega, by simp⟩
  · rintro s ⟨x, q, t0, t3, hq, hx, hend⟩
    have := hend rfl
    subst this
    rw [cnt_zero] at hq
    have : q = cnt w := by omega
    subst this
    simp -dsimp [t3]
def majOf (p : Nat) : Nat := tabN (2 ^ p) fun w => decide (p < 2 * cnt w)
def majority (people : Int) : Int := if peopleOk people then (majOf people.toNat : Int) else -1
theorem cnt_le (w : Nat) : cnt w ≤ w := by
  induction w using Nat.strongRecOn with
  | _ w ih =>
    by_cases h : 0 < w
    · rw [cnt_step h]; have := ih (w / 2) (by omega); omega
    · have : w = 0 := by omega
      subst this; rw [cnt_zero]; omega
theorem peopleOk_spec {people : Int} (h : peopleOk people = true) : ∃ p : Nat, people = p ∧ 1 ≤ p ∧ p ≤ 4 := by
  simp only [peopleOk, Bool.and_eq_true, decide_eq_true_eq] at h
  exact ⟨people.toNat, by omega, by omega, by omega⟩
def Imaj (N : Nat) (p : Nat) (g : Nat → Bool) (e : Nat) (s : S) : Prop := ∃ w : Nat, s.tm 0 = .v (.int .i64 p) ∧ s.tm 4 = .v (.int .i64 w) ∧ s.tm 3 = .v (.int .i64 (tabN w g)) ∧ w ≤ N ∧ (e = 1 → w = N)
/-- The table in which everybody is the other way. -/
def turned (p n : Nat) : Nat := tabN (2 ^ p) fun j => n.testBit (2 ^ p - 1 - j)
def Itn (N n : Nat) (p : Nat) (e : Nat) (s : S) : Prop := ∃ w : Nat, s.tm 0 = .v (.int .i64 p) ∧ s.tm 1 = .v (.int .i64 n) ∧ s.tm 6 = .v (.int .i64 w) ∧ s.tm 5 = .v (.int .i64 (tabN N fun j => decide (N - 1 - j < w) && n.testBit (N - 1 - j))) ∧ w ≤ N ∧ (e = 1 → w = N)
theorem turn_step {N n w : Nat} (hw : w < N) : (tabN N fun j => decide (N - 1 - j < w + 1) && n.testBit (N - 1 - j)) = (tabN N fun j => decide (N - 1 - j < w) && n.testBit (N - 1 - j)) ||| ((if n.testBit w then 1 else 0) * 2 ^ (N - 1 - w)) := by
  apply Nat.eq_of_testBit_eq
  intro i
  rw [Nat.testBit_or, testBit_tabN, testBit_tabN]
  by_cases h1 : i < N
  · by_cases h2 : i = N - 1 - w
    · subst h2
      have e1 : N - 1 - (N - 1 - w) = w := by omega
      rw [e1]
      cases n.testBit w <;> simp [h1]
    · have e2 : (N - 1 - i < w + 1) ↔ (N - 1 - i < w) := by omega
      have e3 : ((if n.testBit w then 1 else 0) * 2 ^ (N - 1 - w)).testBit i = false := by
        cases n.testBit w
        · simp
        · simp [Nat.testBit_two_pow]; omega
      rw [e3]; simp [e2]
  · have e3 : ((if n.testBit w then 1 else 0) * 2 ^ (N - 1 - w)).testBit i = false := by
      cases n.testBit w
      · simp
      · simp [Nat.testBit_two_pow]; omega
    rw [e3]; simp [h1]
/-- Two numbers. -/
def SomeTwo (x : V) : Prop := ∃ a b : Int, x = .tup [.int .i64 a, .int .i64 b]
/-- A number of people, a table, two of them and an answer. -/
def SomeAsk (x : V) : Prop := ∃ (a b c d : Int) (e : Bool), x = .tup [.int .i64 a, .int .i64 b, .int .i64 c, .int .i64 d, .bool e]
end TL

/- Terms in a world. -/
set_option linter.unusedSimpArgs false
set_option linter.unusedVariables false
set_option maxRecDepth 100000
set_option maxHeartbeats 4000000
set_option pp.maxSteps 1500
namespace TL
open Go Go.Proofs
attribute [local simp] marksV storyV codeV Claim.v Place.v
theorem cnt_vals : cnt 0 = 0 ∧ cnt 1 = 1 ∧ cnt 2 = 1 ∧ cnt 3 = 2 ∧ cnt 4 = 1 ∧ cnt 5 = 2 ∧ cnt 6 = 2 ∧ cnt 7 = 3 ∧ cnt 8 = 1 ∧ cnt 9 = 2 ∧ cnt 10 = 2 ∧ cnt 11 = 3 ∧ cnt 12 = 2 ∧ cnt 13 = 3 ∧ cnt 14 = 3 ∧ cnt 15 = 4 := by simp [cnt]
theorem onesCount64_fn (w : Nat) (hw : w < 16) : FnZ Tryz.prog 176 [.int .u64 w] (.int .i64 (cnt w)) := by
  have h : w = 0 ∨ w = 1 ∨ w = 2 ∨ w = 3 ∨ w = 4 ∨ w = 5 ∨ w = 6 ∨ w = 7 ∨ w = 8 ∨ w = 9 ∨ w = 10 ∨ w = 11 ∨ w = 12 ∨ w = 13 ∨ w = 14 ∨ w = 15 := by omega
  rcases h with rfl | rfl | rfl | rfl | rfl | rfl | rfl | rfl | rfl | rfl | rfl | rfl | rfl | rfl | rfl | rfl
  all_goals
    simp only [cnt_vals]
    refine FnZ_of (rs := [.tmp 2]) false Tryz.func176 rfl rfl rfl rfl (Nat.le_of_ble_eq_true rfl) ?_
    simp -dsimp
    rfl
theorem onesCount_fn (w : Nat) (hw : w < 16) : FnZ Tryz.prog 155 [.int .u64 w] (.int .i64 (cnt w)) := by
  have e : IntKind.wrap .u64 (w : Int) = w := by simp only [IntKind.wrap, IntKind.bits, IntKind.signed]; simp; omega
  refine FnZ_of (rs := [.tmp 2]) false Tryz.func155 rfl rfl rfl rfl (Nat.le_of_ble_eq_true rfl) ?_
  simp -dsimp
  refine call_ (onesCount64_fn w hw) (by simp -dsimp) ?_
  simp -dsimp
/-- What a term's last part is, the parts' answers last one first. -/
def runStep (w : Nat) (m : Mark) (r : List Bool) : List Bool :=
  if m.kind = 0 then w.testBit m.num.toNat :: r
  else if m.kind = 1 then decide (m.num ≤ cnt w) :: r
  else if m.kind = 2 then match r with
    | b :: r => (!b) :: r
    | [] => []
  else match r with
    | b :: a :: r => (if m.kind = 3 then a && b else if m.kind = 4 then a || b else a == b) :: r
    | _ => []
def runR (w : Nat) (r : List Bool) (t : List Mark) : List Bool := t.foldl (fun r m => runStep w m r) r
def truth (t : List Mark) (w : Nat) : Bool := (runR w [] t).headD false
def stkT (l : List Bool) : List T := l.map fun b => .v (.bool b)
theorem runStep_length {people : Int} {w : Nat} {m : Mark} {r : List Bool} {q : Nat} (h : markStep people r.length m = some q) : (runStep w m r).length = q := by
  unfold markStep at h; unfold runStep
  by_cases k0 : m.kind = 0
  · rw [if_pos k0] at h ⊢
    split at h
    · cases h; simp
    · cases h
  by_cases k1 : m.kind = 1
  · rw [if_neg k0, if_pos k1] at h ⊢
    split at h
    · cases h; simp
    · cases h
  by_cases k2 : m.kind = 2
  · rw [if_neg k0, if_neg k1, if_pos k2] at h ⊢
    split at h
    · cases h
      cases r with
      | nil => simp at *
      | cons b r => simp
    · cases h
  rw [if_neg k0, if_neg k1, if_neg k2] at h ⊢
  split at h
  · split at h
    · cases h
      match r with
      | [] => simp at *
      | [b] => simp at *
      | b :: a :: r => simp
    · cases h
  · cases h
theorem runR_length {people : Int} {w : Nat} : ∀ {t : List Mark} {r : List Bool} {q : Nat}, marksRun people r.length t = some q → (runR w r t).length = q
  | [], r, q, h => by cases h; rfl
  | m :: t, r, q, h => by
    simp only [marksRun] at h
    cases e : markStep people r.length m with
    | none => rw [e] at h; cases h
    | some q' =>
      rw [e] at h
      have hl := runStep_length (w := w) e
      have : marksRun people (runStep w m r).length t = some q := by rw [hl]; exact h
      exact runR_length (t := t) this
/-- The row of answers on the way. -/
def Ihs (people : Int) (w : Nat) (t : List Mark) (e : Nat) (s : S) : Prop := ∃ (i id : Nat) (r : List Bool) (cs ex : List T), s.tm 1 = .v (.int .i64 w) ∧ s.tm 12 = .v (.sl (t.map Mark.v)) ∧ s.tm 13 = .v (.int .i64 t.length) ∧ s.tm 14 = .v (.int .i64 i) ∧ s.tm 5 = .sv id 0 r.length ∧ s.mu = true ∧
  id < s.n ∧ s.m id = some (.box 4 1 cs) ∧ cs = stkT r.reverse ++ ex ∧ i ≤ t.length ∧ r.length ≤ i ∧ marksRun people r.length (t.drop i) = some 1 ∧ runR w r (t.drop i) = runR w [] t ∧ (e = 1 → i = t.length)
theorem stkT_append (a b : List Bool) : stkT (a ++ b) = stkT a ++ stkT b := by simp [stkT]
theorem holds_fn (people : Int) (hp4 : people ≤ 4) (t : List Mark) (ht : marksRun people 0 t = some 1) (hl : t.length ≤ 100) (w : Nat) (hw : w < 16) : FnZ Tryz.prog 138 [marksV t, .int .i64 w] (.bool (truth t w)) := by
  refine FnZ_of (rs := [.tmp 4]) true Tryz.func138 rfl rfl rfl rfl (Nat.le_of_ble_eq_true rfl) ?_
  simp -dsimp
  refine twp_loopC (Ihs people w t 0) (fun s => t.length - natOf (s.tm 14)) (Ihs people w t 1) ?_ ?_ ?_
  · exact ⟨0, 0, [], [], [], by simp -dsimp, by simp -dsimp, by simp -dsimp, by simp -dsimp, by simp -dsimp, by simp -dsimp, by simp -dsimp, by simp -dsimp, by simp [stkT], by omega, by simp, by simpa using ht, by simp, by simp⟩
  · rintro s ⟨i, id, r, cs, ex, t1, t12, t13, t14, t5, hmu, hid, hm, hcs, hi, hri, hrun, hrr, hend⟩
    by_cases hlt : i < t.length
    case neg =>
      simp -dsimp [t13, t14, hlt]
      exact ⟨i, id, r, cs, ex, by simp -dsimp [t1], by simp -dsimp [t12], by simp -dsimp [t13], by simp -dsimp [t14], by simp -dsimp [t5], by simp -dsimp [hmu], by simp -dsimp; omega, by simp -dsimp [hm], hcs, hi, hri, hrun, hrr, fun _ => by omega⟩
    have hget : (t.map Mark.v)[i]? = some (t[i].v) := by simp [hlt]
    have hdrop := drop_cons hlt
    rw [hdrop] at hrun hrr
    have wi : IntKind.wrap .i64 ((i : Int) + 1) = ((i + 1 : Nat) : Int) := by rw [w64 (by omega) (by omega)]; omega
    have hmu1 : t.length - (i + 1) < t.length - i := by omega
    simp only [marksRun] at hrun
    have hsl : ∀ q, markStep people r.length t[i] = some q → (runStep w t[i] r).length = q := fun q h => runStep_length h
    have hrr2 : runR w (runStep w t[i] r) (t.drop (i + 1)) = runR w [] t := hrr
    have f1 := far hid
    have fin : ∀ (s' : S) (q id' : Nat) (ex' : List T), markStep people r.length t[i] = some q → s'.tm 1 = .v (.int .i64 w) → s'.tm 12 = .v (.sl (t.map Mark.v)) → s'.tm 13 = .v (.int .i64 t.length) → s'.tm 14 = .v (.int .i64 (i + 1 : Nat)) → s'.tm 5 = .sv id' 0 q → s'.mu = true →
        id' < s'.n → s'.m id' = some (.box 4 1 (stkT (runStep w t[i] r).reverse ++ ex')) → Ihs people w t 0 s' := by
      intro s' q id' ex' hq a1 a12 a13 a14 a5 amu aid am
      have := hsl q hq
      refine ⟨i + 1, id', runStep w t[i] r, _, ex', a1, a12, a13, a14, by rw [this]; exact a5, amu, aid, am, rfl, by omega, ?_, ?_, hrr2, by simp⟩
      · have := markStep_le hq; omega
      · rw [this]; rw [hq] at hrun; exact hrun
    have wl : IntKind.wrap .i64 ((r.length : Int) - 1) = (r.length : Int) - 1 := w64 (by omega) (by omega)
    have b1 : r.length + 1 ≤ 140737488355328 := by omega
    by_cases k0 : t[i].kind = 0
    · have hk : markStep people r.length t[i] = some (r.length + 1) := by
        unfold markStep at hrun ⊢
        rw [if_pos k0] at hrun ⊢
        split at hrun
        · rename_i h; rw [if_pos h]
        · cases hrun
      have hnum : 0 ≤ t[i].num ∧ t[i].num < people := by
        unfold markStep at hrun
        rw [if_pos k0] at hrun
        split at hrun
        · assumption
        · cases hrun
      obtain ⟨a, ha⟩ := Int.eq_ofNat_of_zero_le hnum.1
      have hbit := bit1 w a (by omega) (by omega)
      have hstep : runStep w t[i] r = w.testBit a :: r := by simp [runStep, k0, ha]
      have htake : cs.take r.length = stkT r.reverse := by rw [hcs, List.take_left' (by simp [stkT])]
      have hll : r.length ≤ cs.length := by rw [hcs]; simp [stkT]
      simp -dsimp [t5, t12, t13, t14, hlt, hget, hmu, hm, f1, wl, k0, ha, t1, hbit, htake, hll, b1, wi, hmu1, show ¬ (a : Int) < 0 by omega]
      refine st_out fun s' ht' hm' hn' hu' => ?_
      have q1 := ht' 1
      have q5 := ht' 5
      have q12 := ht' 12
      have q13 := ht' 13
      have q14 := ht' 14
      simp -dsimp [t1, t12, t13] at q1 q5 q12 q13 q14 hm' hn' hu'
      clear ht'
      refine fin s' (r.length + 1) _ [] hk q1 q12 q13 q14 q5 (by rw [hu', hmu]) (by omega) ?_
      rw [hstep]; simp [hm', stkT]
    by_cases k1 : t[i].kind = 1
    · have hk : markStep people r.length t[i] = some (r.length + 1) := by
        unfold markStep at hrun ⊢
        rw [if_neg k0, if_pos k1] at hrun ⊢
        split at hrun
        · rename_i h; rw [if_pos h]
        · cases hrun
      have hstep : runStep w t[i] r = decide (t[i].num ≤ cnt w) :: r := by simp [runStep, k1]
      have htake : cs.take r.length = stkT r.reverse := by rw [hcs, List.take_left' (by simp [stkT])]
      have hll : r.length ≤ cs.length := by rw [hcs]; simp [stkT]
      have wu : IntKind.wrap .u64 (w : Int) = w := by simp only [IntKind.wrap, IntKind.bits, IntKind.signed]; simp; omega
      have hc := onesCount_fn w hw
      simp -dsimp [t5, t12, t13, t14, hlt, hget, hmu, hm, f1, wl, k0, k1, t1]
      refine twp_draw [0, 1, 2, 4, 5, 3, 6, 7, 8, 9] [s.n] (List.replicate 10 [0]) (List.replicate 10 [0]) (by kernel_rfl) (by kernel_rfl) (by kernel_rfl) (by kernel_rfl) ?_
      simp -dsimp [List.range_succ, t5, t12, t13, t14, hlt, hget, hmu, hm, f1, wl, k0, k1, t1, wu]
      refine call_ hc (by simp -dsimp) ?_
      simp -dsimp [t5, t12, t13, t14, hmu, hm, f1, htake, hll, b1, wi, hmu1, nes]
      refine st_out fun s' ht' hm' hn' hu' => ?_
      have q1 := ht' 1
      have q5 := ht' 5
      have q12 := ht' 12
      have q13 := ht' 13
      have q14 := ht' 14
      simp -dsimp [t1, t5, t12, t13] at q1 q5 q12 q13 q14 hm' hn' hu'
      clear ht'
      refine fin s' (r.length + 1) _ [] hk q1 q12 q13 q14 q5 (by rw [hu', hmu]) (by omega) ?_
      rw [hstep]; simp [hm', stkT]
    by_cases k2 : t[i].kind = 2
    · have hk : markStep people r.length t[i] = some r.length ∧ 1 ≤ r.length := by
        unfold markStep at hrun ⊢
        rw [if_neg k0, if_neg k1, if_pos k2] at hrun ⊢
        split at hrun
        · rename_i h; rw [if_pos h]; exact ⟨rfl, h.2⟩
        · cases hrun
      obtain ⟨hk, h1⟩ := hk
      obtain ⟨b, r0, hr⟩ : ∃ b r0, r = b :: r0 := by
        cases r with
        | nil => simp at h1
        | cons b r0 => exact ⟨b, r0, rfl⟩
      obtain ⟨K1, hK1⟩ : ∃ K1, K1 = r0.length := ⟨_, rfl⟩
      have hKr : r.length = K1 + 1 := by rw [hr, hK1]; rfl
      have hstep : runStep w t[i] r = (!b) :: r0 := by rw [hr]; simp [runStep, k2]
      have g1 : cs[K1]? = some (.v (.bool b)) := by rw [hcs, hr, hK1]; simp [stkT]
      have hset : cs.set K1 (.v (.bool !b)) = stkT (runStep w t[i] r).reverse ++ ex := by
        rw [hstep, hcs, hr, hK1]; simp [stkT]
      have hlc : K1 + 1 ≤ cs.length := by rw [hcs, hr, hK1]; simp [stkT]
      have wl : IntKind.wrap .i64 ((r.length : Int) - 1) = (K1 : Int) := by rw [w64 (by omega) (by omega)]; omega
      have i1 : (K1 : Int) < r.length := by omega
      generalize r.length = K at *
      simp -dsimp [t5, t12, t13, t14, hlt, hget, hmu, hm, f1, wl, k0, k1, k2, t1, g1, i1, hset, hlc, wi, hmu1]
      refine st_out fun s' ht' hm' hn' hu' => ?_
      have q1 := ht' 1
      have q5 := ht' 5
      have q12 := ht' 12
      have q13 := ht' 13
      have q14 := ht' 14
      simp -dsimp [t1, t5, t12, t13] at q1 q5 q12 q13 q14 hm' hn' hu'
      clear ht'
      refine fin s' K _ ex hk q1 q12 q13 q14 q5 (by rw [hu', hmu]) (by omega) ?_
      simp [hm']
    have hk : (t[i].kind = 3 ∨ t[i].kind = 4 ∨ t[i].kind = 5) ∧ markStep people r.length t[i] = some (r.length - 1) ∧ 2 ≤ r.length := by
      unfold markStep at hrun ⊢
      rw [if_neg k0, if_neg k1, if_neg k2] at hrun ⊢
      split at hrun
      · rename_i hkk
        rw [if_pos hkk]
        split at hrun
        · rename_i h; rw [if_pos h]; exact ⟨hkk, rfl, h.2⟩
        · cases hrun
      · cases hrun
    obtain ⟨hkk, hk, h1⟩ := hk
    obtain ⟨b, a, r0, hr⟩ : ∃ b a r0, r = b :: a :: r0 := by
      match r, h1 with
      | b :: a :: r0, _ => exact ⟨b, a, r0, rfl⟩
    obtain ⟨K2, hK2⟩ : ∃ K2, K2 = r0.length := ⟨_, rfl⟩
    obtain ⟨K1, hK1⟩ : ∃ K1, K1 = K2 + 1 := ⟨_, rfl⟩
    have hKr : r.length = K1 + 1 := by rw [hr, hK1, hK2]; rfl
    have hstep : runStep w t[i] r = (if t[i].kind = 3 then a && b else if t[i].kind = 4 then a || b else a == b) :: r0 := by rw [hr]; simp [runStep, k0, k1, k2]
    have g1 : cs[K1]? = some (.v (.bool b)) := by rw [hcs, hr, hK1, hK2]; simp [stkT]
    have g2 : cs[K2]? = some (.v (.bool a)) := by rw [hcs, hr, hK2]; simp [stkT]
    have hset : ∀ x, (if t[i].kind = 3 then a && b else if t[i].kind = 4 then a || b else a == b) = x → cs.set K2 (.v (.bool x)) = stkT (runStep w t[i] r).reverse ++ (.v (.bool b) :: ex) := by
      intro x hx
      rw [hstep, hcs, hr, hK2, hx]; simp [stkT]
    have hlc : K2 + 1 ≤ cs.length := by rw [hcs, hr, hK2]; simp [stkT]
    have wl : IntKind.wrap .i64 ((r.length : Int) - 1) = (K1 : Int) := by rw [w64 (by omega) (by omega)]; omega
    have wl2 : IntKind.wrap .i64 ((K1 : Int) - 1) = (K2 : Int) := by rw [w64 (by omega) (by omega)]; omega
    have i1 : (K1 : Int) < r.length := by omega
    have i2 : (K2 : Int) < r.length := by omega
    have i3 : (K1 : Int) ≤ r.length := by omega
    have i4 : (K2 : Int) < K1 := by omega
    generalize r.length = K at *
    have hk : markStep people K t[i] = some K1 := by rw [hk]; congr 1; omega
    by_cases k3 : t[i].kind = 3
    · have ha := ft a
      rcases ha with ha | ha
      · have hset := hset (false) (by rw [if_pos k3, ha]; rfl)
        simp -dsimp [t5, t12, t13, t14, hlt, hget, hmu, hm, f1, wl, wl2, k0, k1, k2, k3, ha, t1]
        refine twp_draw (List.range 11) [id] (List.replicate 11 [0]) (List.replicate 11 [0]) (by kernel_rfl) (by kernel_rfl) (by kernel_rfl) (by kernel_rfl) ?_
        simp -dsimp [List.range_succ, t5, t12, t13, t14, hlt, hget, hmu, hm, f1, wl, wl2, k0, k1, k2, k3, ha, t1, g1, g2, i1, i2, i3, i4, hset, hlc, wi, hmu1]
        refine st_out fun s' ht' hm' hn' hu' => ?_
        have q1 := ht' 1
        have q5 := ht' 5
        have q12 := ht' 12
        have q13 := ht' 13
        have q14 := ht' 14
        simp -dsimp [t1, t5, t12, t13] at q1 q5 q12 q13 q14 hm' hn' hu'
        clear ht'
        refine fin s' K1 _ (.v (.bool b) :: ex) hk q1 q12 q13 q14 q5 (by rw [hu', hmu]) (by omega) ?_
        simp [hm']
      · have hset := hset (b) (by rw [if_pos k3, ha]; simp)
        simp -dsimp [t5, t12, t13, t14, hlt, hget, hmu, hm, f1, wl, wl2, k0, k1, k2, k3, ha, t1]
        refine twp_draw (List.range 11) [id] (List.replicate 11 [0]) (List.replicate 11 [0]) (by kernel_rfl) (by kernel_rfl) (by kernel_rfl) (by kernel_rfl) ?_
        simp -dsimp [List.range_succ, t5, t12, t13, t14, hlt, hget, hmu, hm, f1, wl, wl2, k0, k1, k2, k3, ha, t1, g1, g2, i1, i2, i3, i4, hset, hlc, wi, hmu1]
        refine st_out fun s' ht' hm' hn' hu' => ?_
        have q1 := ht' 1
        have q5 := ht' 5
        have q12 := ht' 12
        have q13 := ht' 13
        have q14 := ht' 14
        simp -dsimp [t1, t5, t12, t13] at q1 q5 q12 q13 q14 hm' hn' hu'
        clear ht'
        refine fin s' K1 _ (.v (.bool b) :: ex) hk q1 q12 q13 q14 q5 (by rw [hu', hmu]) (by omega) ?_
        simp [hm']
    by_cases k4 : t[i].kind = 4
    · have ha := ft a
      rcases ha with ha | ha
      · have hset := hset (b) (by rw [if_neg k3, if_pos k4, ha]; simp)
        simp -dsimp [t5, t12, t13, t14, hlt, hget, hmu, hm, f1, wl, wl2, k0, k1, k2, k3, k4, ha, t1]
        refine twp_draw (List.range 11) [id] (List.replicate 11 [0]) (List.replicate 11 [0]) (by kernel_rfl) (by kernel_rfl) (by kernel_rfl) (by kernel_rfl) ?_
        simp -dsimp [List.range_succ, t5, t12, t13, t14, hlt, hget, hmu, hm, f1, wl, wl2, k0, k1, k2, k3, k4, ha, t1, g1, g2, i1, i2, i3, i4, hset, hlc, wi, hmu1]
        refine st_out fun s' ht' hm' hn' hu' => ?_
        have q1 := ht' 1
        have q5 := ht' 5
        have q12 := ht' 12
        have q13 := ht' 13
        have q14 := ht' 14
        simp -dsimp [t1, t5, t12, t13] at q1 q5 q12 q13 q14 hm' hn' hu'
        clear ht'
        refine fin s' K1 _ (.v (.bool b) :: ex) hk q1 q12 q13 q14 q5 (by rw [hu', hmu]) (by omega) ?_
        simp [hm']
      · have hset := hset (true) (by rw [if_neg k3, if_pos k4, ha]; simp)
        simp -dsimp [t5, t12, t13, t14, hlt, hget, hmu, hm, f1, wl, wl2, k0, k1, k2, k3, k4, ha, t1]
        refine twp_draw (List.range 11) [id] (List.replicate 11 [0]) (List.replicate 11 [0]) (by kernel_rfl) (by kernel_rfl) (by kernel_rfl) (by kernel_rfl) ?_
        simp -dsimp [List.range_succ, t5, t12, t13, t14, hlt, hget, hmu, hm, f1, wl, wl2, k0, k1, k2, k3, k4, ha, t1, g1, g2, i1, i2, i3, i4, hset, hlc, wi, hmu1]
        refine st_out fun s' ht' hm' hn' hu' => ?_
        have q1 := ht' 1
        have q5 := ht' 5
        have q12 := ht' 12
        have q13 := ht' 13
        have q14 := ht' 14
        simp -dsimp [t1, t5, t12, t13] at q1 q5 q12 q13 q14 hm' hn' hu'
        clear ht'
        refine fin s' K1 _ (.v (.bool b) :: ex) hk q1 q12 q13 q14 q5 (by rw [hu', hmu]) (by omega) ?_
        simp [hm']
    have hset := hset (a == b) (by rw [if_neg k3, if_neg k4])
    simp -dsimp [t5, t12, t13, t14, hlt, hget, hmu, hm, f1, wl, wl2, k0, k1, k2, k3, k4, t1]
    refine twp_draw (List.range 11) [id] (List.replicate 11 [0]) (List.replicate 11 [0]) (by kernel_rfl) (by kernel_rfl) (by kernel_rfl) (by kernel_rfl) ?_
    simp -dsimp [List.range_succ, t5, t12, t13, t14, hlt, hget, hmu, hm, f1, wl, wl2, k0, k1, k2, k3, k4, t1, g1, g2, i1, i2, i3, i4, hset, hlc, wi, hmu1]
    refine st_out fun s' ht' hm' hn' hu' => ?_
    have q1 := ht' 1
    have q5 := ht' 5
    have q12 := ht' 12
    have q13 := ht' 13
    have q14 := ht' 14
    simp -dsimp [t1, t5, t12, t13] at q1 q5 q12 q13 q14 hm' hn' hu'
    clear ht'
    refine fin s' K1 _ (.v (.bool b) :: ex) hk q1 q12 q13 q14 q5 (by rw [hu', hmu]) (by omega) ?_
    simp [hm']
  · rintro s ⟨i, id, r, cs, ex, t1, t12, t13, t14, t5, hmu, hid, hm, hcs, hi, hri, hrun, hrr, hend⟩
    have := hend rfl
    subst this
    rw [List.drop_length] at hrun hrr
    simp only [marksRun, Option.some.injEq] at hrun
    obtain ⟨b, rfl⟩ : ∃ b, r = [b] := by
      match r, hrun with
      | [b], _ => exact ⟨b, rfl⟩
    have hb : truth t w = b := by unfold truth; rw [← hrr]; rfl
    rw [hb]
    simp -dsimp [t5, hm, hcs, stkT]
end TL

/- Desks: what a deed makes of one, in plain words. -/
set_option linter.unusedSimpArgs false
set_option linter.unusedVariables false
set_option maxRecDepth 100000
set_option maxHeartbeats 4000000
set_option pp.maxSteps 1500
namespace TL
open Go Go.Proofs
/-- Whether a claim may be made in a world. -/
def mayB (c : Claim) (w : Nat) : Bool := truth c.says w == w.testBit c.who.toNat
def claimTab (p : Nat) (c : Claim) : Nat := tabN (2 ^ p) (mayB c)
def storyTab (p : Nat) (l : List Claim) : Nat := l.foldl (fun t c => t &&& claimTab p c) (2 ^ 2 ^ p - 1)
theorem testBit_fold (p i : Nat) : ∀ (l : List Claim) (t : Nat), (l.foldl (fun t c => t &&& claimTab p c) t).testBit i = (t.testBit i && l.all fun c => (claimTab p c).testBit i)
  | [], t => by simp
  | c :: l, t => by
    rw [List.foldl_cons, testBit_fold p i l, Nat.testBit_and, List.all_cons, Bool.and_assoc]
theorem testBit_story (p i : Nat) (l : List Claim) : (storyTab p l).testBit i = (decide (i < 2 ^ p) && l.all fun c => mayB c i) := by
  unfold storyTab claimTab
  have h := testBit_fold p i l (2 ^ 2 ^ p - 1)
  unfold claimTab at h
  rw [h, Nat.testBit_two_pow_sub_one]
  by_cases hi : i < 2 ^ p
  · simp only [testBit_tabN, hi, decide_true, Bool.true_and]
  · simp [hi]
theorem storyTab_le (p : Nat) (l : List Claim) : storyTab p l < 2 ^ 2 ^ p := Nat.lt_pow_two_of_testBit _ fun i hi => by
  rw [testBit_story]
  have : ¬ i < 2 ^ p := by omega
  simp [this]
theorem fold_le (p : Nat) : ∀ (l : List Claim) (t : Nat), l.foldl (fun t c => t &&& claimTab p c) t ≤ t
  | [], t => Nat.le_refl _
  | c :: l, t => Nat.le_trans (fold_le p l _) Nat.and_le_left
/-- What is left of a story if each claim is left out that is not needed. -/
def leastGo (p : Nat) : Nat → Nat → List Claim → List Claim
  | 0, _, l => l
  | f + 1, i, l => if i < l.length then (if storyTab p (l.eraseIdx i) = storyTab p l then leastGo p f i (l.eraseIdx i) else leastGo p f (i + 1) l) else l
def least (p : Nat) (l : List Claim) : List Claim := leastGo p l.length 0 l
theorem leastGo_tab (p : Nat) : ∀ f i l, storyTab p (leastGo p f i l) = storyTab p l
  | 0, _, _ => rfl
  | f + 1, i, l => by
    unfold leastGo
    split
    · split
      · rename_i h; rw [leastGo_tab p f]; exact h
      · exact leastGo_tab p f _ _
    · rfl
theorem leastGo_sub (p : Nat) : ∀ f i l, (leastGo p f i l).Sublist l
  | 0, _, _ => List.Sublist.refl _
  | f + 1, i, l => by
    unfold leastGo
    split
    · split
      · exact (leastGo_sub p f _ _).trans (List.eraseIdx_sublist _ _)
      · exact leastGo_sub p f _ _
    · exact List.Sublist.refl _
theorem least_tab (p : Nat) (l : List Claim) : storyTab p (least p l) = storyTab p l := leastGo_tab ..
theorem least_sub (p : Nat) (l : List Claim) : (least p l).Sublist l := leastGo_sub ..
theorem leastGo_end {p f i : Nat} {l : List Claim} (hf : f = l.length - i) (h : ¬ i < l.length) : leastGo p f i l = l := by
  have : f = 0 := by omega
  subst this; rfl
theorem leastGo_out {p i : Nat} {l : List Claim} (h : i < l.length) (he : storyTab p (l.eraseIdx i) = storyTab p l) : leastGo p (l.length - i) i l = leastGo p ((l.eraseIdx i).length - i) i (l.eraseIdx i) := by
  have e1 : (l.eraseIdx i).length = l.length - 1 := by rw [List.length_eraseIdx]; simp [h]
  obtain ⟨f, hf⟩ : ∃ f, l.length - i = f + 1 := ⟨l.length - i - 1, by omega⟩
  rw [hf, show (l.eraseIdx i).length - i = f by omega, leastGo, if_pos h, if_pos he]
theorem leastGo_keep {p i : Nat} {l : List Claim} (h : i < l.length) (he : storyTab p (l.eraseIdx i) ≠ storyTab p l) : leastGo p (l.length - i) i l = leastGo p (l.length - (i + 1)) (i + 1) l := by
  obtain ⟨f, hf⟩ : ∃ f, l.length - i = f + 1 := ⟨l.length - i - 1, by omega⟩
  rw [hf, show l.length - (i + 1) = f by omega, leastGo, if_pos h, if_neg he]
theorem storyOk_sub {people : Int} {l k : List Claim} (h : storyOk people l = true) (hs : k.Sublist l) : storyOk people k = true := by
  simp only [storyOk, Bool.and_eq_true, decide_eq_true_eq, List.all_eq_true] at h ⊢
  exact ⟨⟨fun c hc => h.1.1 c (hs.subset hc), h.1.2⟩, Nat.le_trans hs.length_le h.2⟩
/-- What a deed makes of a place. -/
noncomputable def made (p : Place) (a : Deed) : Place :=
  if a.kind = 0 ∧ a.num = 0 then (match readC p.people a.words with
    | some c => ⟨p.people, p.story ++ [c]⟩
    | none => ⟨0, []⟩)
  else if a.kind = 1 ∧ a.words = [] ∧ 0 ≤ a.num ∧ a.num < p.story.length then ⟨p.people, p.story.eraseIdx a.num.toNat⟩
  else if a.kind = 2 ∧ a.words = [] then ⟨a.num, p.story⟩
  else if a.kind = 3 ∧ a.num = 0 ∧ a.words = [] then ⟨p.people, least p.people.toNat p.story⟩
  else ⟨0, []⟩
def keep8 (l : List Place) : List Place := if 8 < l.length then l.drop 1 else l
def isBack (a : Deed) : Bool := decide (a = ⟨4, 0, []⟩)
noncomputable def goodDo (d : Desk) (a : Deed) : Bool := placeOk (made d.now a) && !decide (placeTx (made d.now a) = placeTx d.now)
noncomputable def deskDo (d : Desk) (a : Deed) : Desk × Bool :=
  if deskOk d = true then
    if isBack a = true ∧ d.past ≠ [] then (⟨d.past.getLast?.getD d.now, d.past.dropLast⟩, true)
    else if goodDo d a = true then (⟨made d.now a, keep8 (d.past ++ [d.now])⟩, true) else (d, false)
  else (noDeskV, false)
theorem zero_no : placeOk ⟨0, []⟩ = false := by decide
theorem deskOk_iff {d : Desk} : deskOk d = true ↔ (∀ p ∈ d.past, placeOk p = true) ∧ placeOk d.now = true ∧ d.past.length ≤ 8 := by
  simp only [deskOk, Bool.and_eq_true, decide_eq_true_eq, List.all_eq_true, and_assoc]
theorem keep8_len (l : List Place) (h : l.length ≤ 9) : (keep8 l).length ≤ 8 := by
  unfold keep8; split
  · simp; omega
  · omega
theorem keep8_mem {l : List Place} {p : Place} (h : p ∈ keep8 l) : p ∈ l := by
  unfold keep8 at h; split at h
  · exact List.mem_of_mem_drop h
  · exact h
theorem deskDo_no {d : Desk} (h : deskOk d = false) (a : Deed) : deskDo d a = (noDeskV, false) := by unfold deskDo; rw [if_neg (by simp [h])]
theorem deskDo_back {d : Desk} (h : deskOk d = true) {a : Deed} (ha : isBack a = true) (hp : d.past ≠ []) : deskDo d a = (⟨d.past.getLast?.getD d.now, d.past.dropLast⟩, true) := by
  unfold deskDo; rw [if_pos h, if_pos ⟨ha, hp⟩]
theorem deskDo_good {d : Desk} (h : deskOk d = true) {a : Deed} (ha : goodDo d a = true) (hb : ¬ (isBack a = true ∧ d.past ≠ [])) : deskDo d a = (⟨made d.now a, keep8 (d.past ++ [d.now])⟩, true) := by
  unfold deskDo; rw [if_pos h, if_neg hb, if_pos ha]
theorem deskDo_bad {d : Desk} (h : deskOk d = true) {a : Deed} (ha : goodDo d a = false) (hb : ¬ (isBack a = true ∧ d.past ≠ [])) : deskDo d a = (d, false) := by
  unfold deskDo; rw [if_pos h, if_neg hb, if_neg (by simp [ha])]
theorem made_back {p : Place} {a : Deed} (h : isBack a = true) : made p a = ⟨0, []⟩ := by
  simp only [isBack, decide_eq_true_eq] at h
  subst h; simp [made]
theorem good_back {d : Desk} {a : Deed} (h : isBack a = true) : goodDo d a = false := by
  unfold goodDo; rw [made_back h, zero_no]; rfl
theorem deskDo_ways (d : Desk) (a : Deed) : (deskOk d = false ∧ deskDo d a = (noDeskV, false)) ∨ (deskOk d = true ∧ isBack a = true ∧ d.past ≠ [] ∧ deskDo d a = (⟨d.past.getLast?.getD d.now, d.past.dropLast⟩, true)) ∨
    (deskOk d = true ∧ isBack a = false ∧ goodDo d a = true ∧ deskDo d a = (⟨made d.now a, keep8 (d.past ++ [d.now])⟩, true)) ∨ (deskOk d = true ∧ goodDo d a = false ∧ deskDo d a = (d, false)) := by
  cases h : deskOk d
  · exact .inl ⟨rfl, deskDo_no h a⟩
  · by_cases hb : isBack a = true ∧ d.past ≠ []
    · exact .inr (.inl ⟨rfl, hb.1, hb.2, deskDo_back h hb.1 hb.2⟩)
    · cases hg : goodDo d a
      · exact .inr (.inr (.inr ⟨rfl, rfl, deskDo_bad h hg hb⟩))
      · refine .inr (.inr (.inl ⟨rfl, ?_, rfl, deskDo_good h hg hb⟩))
        cases hx : isBack a
        · rfl
        · rw [good_back hx] at hg; cases hg
theorem deskDo_ok (d : Desk) (a : Deed) (h : deskOk d = true) : deskOk (deskDo d a).1 = true := by
  have h0 := deskOk_iff.1 h
  rcases deskDo_ways d a with ⟨h1, _⟩ | ⟨_, _, hp, e⟩ | ⟨_, _, hg, e⟩ | ⟨_, _, e⟩
  · rw [h] at h1; cases h1
  · rw [e]
    refine deskOk_iff.2 ⟨fun p hp => h0.1 p (List.dropLast_subset _ hp), ?_, by simp; omega⟩
    rw [List.getLast?_eq_some_getLast hp]
    exact h0.1 _ (List.getLast_mem hp)
  · rw [e]
    have hg' : placeOk (made d.now a) = true := by
      simp only [goodDo, Bool.and_eq_true] at hg; exact hg.1
    refine deskOk_iff.2 ⟨fun p hp => ?_, hg', keep8_len _ (by simp; omega)⟩
    rcases List.mem_append.1 (keep8_mem hp) with h1 | h1
    · exact h0.1 p h1
    · rw [List.mem_singleton.1 h1]; exact h0.2.1
  · rw [e]; exact h
theorem deskDo_undo {d : Desk} {a : Deed} (h : (deskDo d a).2 = true) (hk : a.kind ≠ 4) (hl : d.past.length < 8) : deskDo (deskDo d a).1 ⟨4, 0, []⟩ = (d, true) := by
  rcases deskDo_ways d a with ⟨h1, e⟩ | ⟨_, hb, hp, e⟩ | ⟨h1, _, hg, e⟩ | ⟨_, _, e⟩
  · rw [e] at h; cases h
  · simp only [isBack, decide_eq_true_eq] at hb
    rw [hb] at hk; exact absurd rfl hk
  · have hok := deskDo_ok d a h1
    rw [e] at hok ⊢
    have ek : keep8 (d.past ++ [d.now]) = d.past ++ [d.now] := by unfold keep8; rw [if_neg (by simp; omega)]
    rw [ek] at hok ⊢
    rw [deskDo_back hok (by rfl) (by simp)]
    simp
  · rw [e] at h; cases h
theorem deskDo_sure {d : Desk} {a : Deed} (h : (deskDo d a).2 = true) : deskOk d = true := by
  cases hd : deskOk d
  · rw [deskDo_no hd] at h; cases h
  · rfl
theorem deskDo_same {d : Desk} {a : Deed} (h : (deskDo d a).2 = false) : deskOk d = false ∨ (deskDo d a).1 = d := by
  rcases deskDo_ways d a with ⟨h1, e⟩ | ⟨_, hb, hp, e⟩ | ⟨h1, _, hg, e⟩ | ⟨_, _, e⟩
  · exact .inl h1
  · rw [e] at h; cases h
  · rw [e] at h; cases h
  · exact .inr (by rw [e])
/-- The tables of before and after. -/
theorem kept_do {d : Desk} {a : Deed} (h : (deskDo d a).2 = true) :
    (a.kind = 0 → storyTab (deskDo d a).1.now.people.toNat (deskDo d a).1.now.story &&& storyTab d.now.people.toNat d.now.story = storyTab (deskDo d a).1.now.people.toNat (deskDo d a).1.now.story) ∧
    (a.kind = 1 → storyTab d.now.people.toNat d.now.story &&& storyTab (deskDo d a).1.now.people.toNat (deskDo d a).1.now.story = storyTab d.now.people.toNat d.now.story) ∧
    (a.kind = 3 → storyTab (deskDo d a).1.now.people.toNat (deskDo d a).1.now.story = storyTab d.now.people.toNat d.now.story) := by
  rcases deskDo_ways d a with ⟨h1, e⟩ | ⟨_, hb, hp, e⟩ | ⟨h1, _, hg, e⟩ | ⟨_, _, e⟩
  · rw [e] at h; cases h
  · simp only [isBack, decide_eq_true_eq] at hb
    subst hb
    refine ⟨fun h => ?_, fun h => ?_, fun h => ?_⟩ <;> simp at h
  · have hg' : placeOk (made d.now a) = true := by
      simp only [goodDo, Bool.and_eq_true] at hg; exact hg.1
    rw [e]
    simp only
    refine ⟨fun hk => ?_, fun hk => ?_, fun hk => ?_⟩
    · unfold made at hg' ⊢
      by_cases hn : a.num = 0
      · rw [if_pos ⟨hk, hn⟩] at hg' ⊢
        cases hr : readC d.now.people a.words with
        | none => rw [hr] at hg'; rw [zero_no] at hg'; cases hg'
        | some c =>
          simp only
          apply Nat.eq_of_testBit_eq
          intro i
          rw [Nat.testBit_and, testBit_story, testBit_story, List.all_append]
          cases decide (i < 2 ^ d.now.people.toNat) <;> cases (d.now.story.all fun c => mayB c i) <;> simp
      · rw [if_neg (fun h => hn h.2), if_neg (by rw [hk]; simp), if_neg (by rw [hk]; simp), if_neg (by rw [hk]; simp), zero_no] at hg'; cases hg'
    · unfold made at hg' ⊢
      rw [if_neg (by rw [hk]; simp)] at hg' ⊢
      by_cases hn : a.kind = 1 ∧ a.words = [] ∧ 0 ≤ a.num ∧ a.num < d.now.story.length
      · rw [if_pos hn] at hg' ⊢
        simp only
        apply Nat.eq_of_testBit_eq
        intro i
        rw [Nat.testBit_and, testBit_story, testBit_story]
        cases decide (i < 2 ^ d.now.people.toNat)
        · simp
        · cases hx : (d.now.story.all fun c => mayB c i)
          · simp
          · have : ((d.now.story.eraseIdx a.num.toNat).all fun c => mayB c i) = true := by
              rw [List.all_eq_true] at hx ⊢
              exact fun c hc => hx c ((List.eraseIdx_sublist _ _).subset hc)
            simp [this]
      · rw [if_neg hn, if_neg (by rw [hk]; simp), if_neg (by rw [hk]; simp), zero_no] at hg'; cases hg'
    · unfold made at hg' ⊢
      rw [if_neg (by rw [hk]; simp), if_neg (by rw [hk]; simp), if_neg (by rw [hk]; simp)] at hg' ⊢
      by_cases hn : a.kind = 3 ∧ a.num = 0 ∧ a.words = []
      · rw [if_pos hn]; exact least_tab _ _
      · rw [if_neg hn, zero_no] at hg'; cases hg'
  · rw [e] at h; cases h
/-- Deeds, one after the other. -/
noncomputable def doStep (x : Desk × Nat) (a : Deed) : Desk × Nat := if (deskDo x.1 a).2 = true then ((deskDo x.1 a).1, x.2 + 1) else x
noncomputable def doAll (d : Desk) (l : List Deed) : Desk × Nat := l.foldl doStep (d, 0)
theorem doAll_from (l : List Deed) : ∀ (d : Desk) (n : Nat), l.foldl doStep (d, n) = ((doAll d l).1, n + (doAll d l).2) := by
  induction l with
  | nil => intro d n; rfl
  | cons a l ih =>
    intro d n
    by_cases h : (deskDo d a).2 = true
    · have e : ∀ k, doStep (d, k) a = ((deskDo d a).1, k + 1) := fun k => if_pos h
      unfold doAll
      rw [List.foldl_cons, List.foldl_cons, e, e, ih, ih]
      simp only [Prod.mk.injEq, true_and]; omega
    · have e : ∀ k, doStep (d, k) a = (d, k) := fun k => if_neg h
      unfold doAll
      rw [List.foldl_cons, List.foldl_cons, e, e, ih]
      simp [doAll]
theorem doAll_append (d : Desk) (l k : List Deed) : doAll d (l ++ k) = ((doAll (doAll d l).1 k).1, (doAll d l).2 + (doAll (doAll d l).1 k).2) := by
  show (l ++ k).foldl doStep (d, 0) = _
  rw [List.foldl_append]
  exact doAll_from k (doAll d l).1 (doAll d l).2
theorem doAll_snoc (d : Desk) (l : List Deed) (a : Deed) : (doAll d (l ++ [a])).1 = if (deskDo (doAll d l).1 a).2 = true then (deskDo (doAll d l).1 a).1 else (doAll d l).1 := by
  rw [doAll_append]
  show (List.foldl doStep ((doAll d l).1, 0) [a]).1 = _
  rw [List.foldl_cons, List.foldl_nil]
  by_cases hd : (deskDo (doAll d l).1 a).2 = true
  · have e : doStep ((doAll d l).1, 0) a = ((deskDo (doAll d l).1 a).1, 0 + 1) := if_pos hd
    rw [e, if_pos hd]
  · have e : doStep ((doAll d l).1, 0) a = ((doAll d l).1, 0) := if_neg hd
    rw [e, if_neg hd]
theorem doAll_ok (l : List Deed) : ∀ d : Desk, deskOk d = true → deskOk (doAll d l).1 = true := by
  induction l with
  | nil => intro d h; exact h
  | cons a l ih =>
    intro d h
    show deskOk (List.foldl doStep (d, 0) (a :: l)).1 = true
    rw [List.foldl_cons]
    by_cases hd : (deskDo d a).2 = true
    · have e : doStep (d, 0) a = ((deskDo d a).1, 0 + 1) := if_pos hd
      rw [e, doAll_from]; exact ih _ (deskDo_ok d a h)
    · have e : doStep (d, 0) a = (d, 0) := if_neg hd
      rw [e, doAll_from]; exact ih _ h
theorem doAll_len (l : List Deed) (d : Desk) : (doAll d l).2 ≤ l.length := by
  induction l generalizing d with
  | nil => exact Nat.le_refl _
  | cons a l ih =>
    show (List.foldl doStep (d, 0) (a :: l)).2 ≤ _
    rw [List.foldl_cons]
    by_cases hd : (deskDo d a).2 = true
    · have e : doStep (d, 0) a = ((deskDo d a).1, 0 + 1) := if_pos hd
      rw [e, doAll_from]; have := ih (deskDo d a).1; simp; omega
    · have e : doStep (d, 0) a = (d, 0) := if_neg hd
      rw [e, doAll_from]; have := ih d; simp; omega
end TL

/- Copies of places and desks, as rows of the caller's own. -/
set_option linter.unusedSimpArgs false
set_option linter.unusedVariables false
set_option maxRecDepth 100000
set_option maxHeartbeats 4000000
set_option pp.maxSteps 1500
namespace TL
open Go Go.Proofs
attribute [local simp] marksV storyV codeV Claim.v Place.v Desk.v
/-- A place whose row of claims is the caller's own. -/
def OwnPlace (p : Place) (m : Mem) (n : Nat) (t : T) (m' : Mem) (n' : Nat) : Prop := n ≤ n' ∧ (∀ j, j < n → m' j = m j) ∧ ∃ st, t = .agg [.v (.int .i64 p.people), st] ∧ IsRow m' n n' 74 st (p.story.map Claim.v)
def Io15 (p : Place) (m : Mem) (n : Nat) (e : Nat) (s : S) : Prop := ∃ (i : Nat) (st : T) (z : List T), s.tm 1 = .ptr n 0 ∧ s.tm 2 = .ptr (n + 1) 0 ∧ s.tm 3 = .ptr (n + 2) 0 ∧ s.tm 4 = .v (.int .i64 i) ∧ s.mu = false ∧ i ≤ p.story.length ∧ n + 3 ≤ s.n ∧
  s.m n = some (.box 34 2 [.v (.int .i64 p.people), .v (storyV p.story)]) ∧ s.m (n + 1) = some (.box 34 2 z) ∧ z.length = 2 ∧ s.m (n + 2) = some (.box 34 2 [.v (.int .i64 p.people), st]) ∧ IsRow s.m (n + 3) s.n 74 st ((p.story.take i).map Claim.v) ∧ (∀ j, j < n → s.m j = m j) ∧ (e = 1 → i = p.story.length)
theorem l15Place_own (p : Place) (hp : p.small) (m : Mem) (n : Nat) : FnS Tryz.prog 59 m n [.v p.v] (OwnPlace p m n) := by
  have hl := hp.1
  refine FnS_of (rs := [.cell 2 34]) false Tryz.func59 rfl rfl rfl rfl (Nat.le_of_ble_eq_true rfl) ?_
  have e0 : ¬ n = n + 1 := by omega
  have e1 : ¬ n = n + 2 := by omega
  have e2 : ¬ n + 1 = n + 2 := by omega
  have e3 : ¬ n + 2 = n := by omega
  have e4 : ¬ n + 2 = n + 1 := by omega
  have e5 : ¬ n + 1 = n := by omega
  simp -dsimp
  refine twp_loopC (Io15 p m n 0) (fun s => p.story.length - natOf (s.tm 4)) (Io15 p m n 1) ?_ ?_ ?_
  · refine ⟨0, .nil, [.v (.int .i64 0), .nil], by simp -dsimp, by simp -dsimp, by simp -dsimp, by simp -dsimp, by simp -dsimp, by omega, by simp -dsimp, by simp -dsimp [nes], by simp -dsimp [nes], rfl, by simp -dsimp, .inl ⟨rfl, by simp⟩, fun j j1 => ?_, by simp⟩
    simp -dsimp [far j1]
  · rintro s ⟨i, st, z, t1, t2, t3, t4, hmu, hi, hn, m0, m1, hz, m2, hst, hout, hend⟩
    by_cases hlt : i < p.story.length
    case neg =>
      simp -dsimp [t1, t4, m0, hlt]
      exact ⟨i, st, z, by simp -dsimp [t1], by simp -dsimp [t2], by simp -dsimp [t3], by simp -dsimp [t4], by simp -dsimp [hmu], hi, by simp -dsimp; omega, by simp -dsimp [m0], by simp -dsimp [m1], hz, by simp -dsimp [m2], hst, fun j j1 => by simp -dsimp [hout j j1], fun _ => by omega⟩
    have hget : (p.story.map Claim.v)[i]? = some (p.story[i].v) := by simp [hlt]
    have wi : IntKind.wrap .i64 ((i : Int) + 1) = ((i + 1 : Nat) : Int) := by rw [w64 (by omega) (by omega)]; omega
    have hmu1 : p.story.length - (i + 1) < p.story.length - i := by omega
    have f0 := far (show n < s.n by omega)
    have f1 := far (show n + 1 < s.n by omega)
    have f2 := far (show n + 2 < s.n by omega)
    have hsm := hp.2 p.story[i] (List.getElem_mem _)
    unfold Claim.small at hsm
    have b0 : p.story[i].says.length * 16 ≤ 140737488355328 := by omega
    have b1 : (min i p.story.length + 1) * 32 ≤ 140737488355328 := by omega
    have htk : (p.story.take (i + 1)).map Claim.v = (p.story.take i).map Claim.v ++ [p.story[i].v] := by rw [List.take_succ_eq_append_getElem hlt, List.map_append]; rfl
    simp -dsimp [t1, t4, m0, hlt]
    refine twp_draw [0, 1, 2, 3, 4, 5, 6, 7, 9, 10, 11, 12, 13, 14, 8, 15, 16, 17, 18, 19, 20] [n, n + 2] (List.replicate 21 [0, 1]) (List.replicate 20 [0, 1] ++ [[0]]) (by kernel_rfl) (by kernel_rfl) (by kernel_rfl) (by kernel_rfl) ?_
    rcases hst with ⟨rfl, hs0⟩ | ⟨id, rfl, hi0, hi1, him⟩
    · simp -dsimp [t1, t3, t4, m0, m2, hlt, hget, hmu, nes, f0, f1, f2, e0, e1, e2, e3, e4, e5, b0, wi, hmu1]
      have hi00 : i = 0 := by
        simp at hs0; rcases hs0 with h | h
        · exact h
        · rw [h] at hlt; simp at hlt
      subst hi00
      refine st_out fun s' ht hm' hn' hu' => ?_
      have q1 := ht 1
      have q2 := ht 2
      have q3 := ht 3
      have q4 := ht 4
      simp -dsimp [t1, t2, t3] at q1 q2 q3 q4 hm' hn' hu'
      clear ht
      refine ⟨1, .loc (s.n + 1 + 1 + 1), z, q1, q2, q3, q4, by rw [hu', hmu], by omega, by omega, by simp [hm', nes, e0, e1, f0, m0], by simp [hm', nes, e2, f0, f1, m1], hz, by simp [hm', nes, f2], .inr ⟨s.n + 1 + 1 + 1, rfl, by omega, by omega, ?_⟩, fun j j1 => ?_, by simp⟩
      · rw [htk]; simp [hm', nes, f0, f2]
      · simp [hm', far (show j < s.n by omega), show ¬ j = n + 2 by omega, hout j j1]
    · have g1 := far hi1
      have g2 : ¬ id = n + 2 := by omega
      have g0 : ¬ id = n := by omega
      have g3 : ¬ id = n + 1 := by omega
      simp -dsimp [t1, t3, t4, m0, m2, hlt, hget, hmu, nes, f0, f1, f2, e0, e1, e2, e3, e4, e5, b0, b1, g1, g2, g0, g3, Ne.symm g0, Ne.symm g2, Ne.symm g3, him, wi, hmu1]
      refine st_out fun s' ht hm' hn' hu' => ?_
      have q1 := ht 1
      have q2 := ht 2
      have q3 := ht 3
      have q4 := ht 4
      simp -dsimp [t1, t2, t3] at q1 q2 q3 q4 hm' hn' hu'
      clear ht
      refine ⟨i + 1, .loc (s.n + 1 + 1 + 1), z, q1, q2, q3, q4, by rw [hu', hmu], by omega, by omega, by simp [hm', nes, e0, e1, f0, m0, Ne.symm g0], by simp [hm', nes, e2, f0, f1, m1, Ne.symm g3], hz, by simp [hm', nes, f2], .inr ⟨s.n + 1 + 1 + 1, rfl, by omega, by omega, ?_⟩, fun j j1 => ?_, by simp⟩
      · rw [htk]; simp [hm', f0, f2, nes]
      · simp [hm', far (show j < s.n by omega), show ¬ j = n + 2 by omega, show ¬ j = id by omega, hout j j1]
  · rintro s ⟨i, st, z, t1, t2, t3, t4, hmu, hi, hn, m0, m1, hz, m2, hst, hout, hend⟩
    have := hend rfl
    subst this
    rw [List.take_length] at hst
    have f1 := far (show n + 1 < s.n by omega)
    obtain ⟨z0, z1, rfl⟩ : ∃ a b, z = [a, b] := by
      match z, hz with
      | [a, b], _ => exact ⟨a, b, rfl⟩
    rcases hst with ⟨rfl, hs0⟩ | ⟨id, rfl, hi0, hi1, him⟩
    · simp -dsimp [t2, t3, m1, m2, e2, e4]
      exact ⟨by omega, fun j j1 => by simp [show ¬ j = n + 1 by omega, hout j j1], .nil, rfl, .inl ⟨rfl, hs0⟩⟩
    · have g3 : ¬ id = n + 1 := by omega
      simp -dsimp [t2, t3, m1, m2, e2, e4]
      exact ⟨by omega, fun j j1 => by simp [show ¬ j = n + 1 by omega, hout j j1], .loc id, rfl, .inr ⟨id, rfl, by omega, by omega, by simp [g3, him]⟩⟩
end TL

/- Copies of desks. -/
set_option linter.unusedSimpArgs false
set_option linter.unusedVariables false
set_option maxRecDepth 100000
set_option maxHeartbeats 4000000
set_option pp.maxSteps 1500
namespace TL
open Go Go.Proofs
attribute [local simp] marksV storyV codeV Claim.v Place.v Desk.v
def OwnDesk (d : Desk) (m : Mem) (n : Nat) (t : T) (m' : Mem) (n' : Nat) : Prop := n ≤ n' ∧ (∀ j, j < n → m' j = m j) ∧ ∃ st, t = .agg [.v (.int .i64 d.now.people), .v (storyV d.now.story), st] ∧ IsRow m' n n' 34 st (d.past.map Place.v)
def Iod (d : Desk) (m : Mem) (n : Nat) (e : Nat) (s : S) : Prop := ∃ (i : Nat) (st : T), s.tm 1 = .ptr n 0 ∧ s.tm 2 = .ptr (n + 1) 0 ∧ s.tm 3 = .ptr (n + 2) 0 ∧ s.tm 4 = .v (.int .i64 i) ∧ s.mu = false ∧ i ≤ d.past.length ∧ n + 3 ≤ s.n ∧
  s.m n = some (.box 37 3 [.v (.int .i64 d.now.people), .v (storyV d.now.story), .v (.sl (d.past.map Place.v))]) ∧ s.m (n + 1) = some (.box 37 3 [.v (.int .i64 0), .nil, .nil]) ∧
  s.m (n + 2) = some (.box 37 3 [.v (.int .i64 d.now.people), .v (storyV d.now.story), st]) ∧ IsRow s.m (n + 3) s.n 34 st ((d.past.take i).map Place.v) ∧ (∀ j, j < n → s.m j = m j) ∧ (e = 1 → i = d.past.length)
theorem l15Copy_own (d : Desk) (hd : d.small) (m : Mem) (n : Nat) : FnS Tryz.prog 28 m n [.v d.v] (OwnDesk d m n) := by
  have hl := hd.2.1
  refine FnS_of (rs := [.cell 2 37]) false Tryz.func28 rfl rfl rfl rfl (Nat.le_of_ble_eq_true rfl) ?_
  have e0 : ¬ n = n + 1 := by omega
  have e1 : ¬ n = n + 2 := by omega
  have e2 : ¬ n + 1 = n + 2 := by omega
  have e3 : ¬ n + 2 = n := by omega
  have e4 : ¬ n + 2 = n + 1 := by omega
  have e5 : ¬ n + 1 = n := by omega
  simp -dsimp
  refine call_ (l15Place_fn d.now hd.1) (by simp -dsimp) ?_
  simp -dsimp [e0, e1, e2, e3, e4, e5, nes]
  refine twp_loopC (Iod d m n 0) (fun s => d.past.length - natOf (s.tm 4)) (Iod d m n 1) ?_ ?_ ?_
  · refine ⟨0, .nil, by simp -dsimp, by simp -dsimp, by simp -dsimp, by simp -dsimp, by simp -dsimp, by omega, by simp -dsimp, by simp -dsimp [nes], by simp -dsimp [nes], by simp -dsimp, .inl ⟨rfl, by simp⟩, fun j j1 => ?_, by simp⟩
    simp -dsimp [far j1]
  · rintro s ⟨i, st, t1, t2, t3, t4, hmu, hi, hn, m0, m1, m2, hst, hout, hend⟩
    by_cases hlt : i < d.past.length
    case neg =>
      simp -dsimp [t1, t4, m0, hlt]
      exact ⟨i, st, by simp -dsimp [t1], by simp -dsimp [t2], by simp -dsimp [t3], by simp -dsimp [t4], by simp -dsimp [hmu], hi, by simp -dsimp; omega, by simp -dsimp [m0], by simp -dsimp [m1], by simp -dsimp [m2], hst, fun j j1 => by simp -dsimp [hout j j1], fun _ => by omega⟩
    have hget : (d.past.map Place.v)[i]? = some (d.past[i].v) := by simp [hlt]
    have wi : IntKind.wrap .i64 ((i : Int) + 1) = ((i + 1 : Nat) : Int) := by rw [w64 (by omega) (by omega)]; omega
    have hmu1 : d.past.length - (i + 1) < d.past.length - i := by omega
    have f0 := far (show n < s.n by omega)
    have f1 := far (show n + 1 < s.n by omega)
    have f2 := far (show n + 2 < s.n by omega)
    have hsm := hd.2.2 d.past[i] (List.getElem_mem _)
    have hpl := l15Place_fn d.past[i] hsm
    have b1 : (min i d.past.length + 1) * 32 ≤ 140737488355328 := by omega
    have htk : (d.past.take (i + 1)).map Place.v = (d.past.take i).map Place.v ++ [d.past[i].v] := by rw [List.take_succ_eq_append_getElem hlt, List.map_append]; rfl
    simp -dsimp [t1, t4, m0, hlt]
    refine twp_draw (List.range 12) [n, n + 2] (List.replicate 12 [0, 1]) (List.replicate 11 [0, 1] ++ [[0]]) (by kernel_rfl) (by kernel_rfl) (by kernel_rfl) (by kernel_rfl) ?_
    rcases hst with ⟨rfl, hs0⟩ | ⟨id, rfl, hi0, hi1, him⟩
    · simp -dsimp [List.range_succ, t1, t3, t4, m0, m2, hlt, hget, nes, f0, f1, f2, e0, e1, e2, e3, e4, e5]
      refine call_ hpl (by simp -dsimp) ?_
      simp -dsimp [List.range_succ, t1, t3, t4, m0, m2, hlt, hget, hmu, nes, f0, f1, f2, e0, e1, e2, e3, e4, e5, wi, hmu1]
      have hi00 : i = 0 := by
        simp at hs0; rcases hs0 with h | h
        · exact h
        · rw [h] at hlt; simp at hlt
      subst hi00
      refine st_out fun s' ht hm' hn' hu' => ?_
      have q1 := ht 1
      have q2 := ht 2
      have q3 := ht 3
      have q4 := ht 4
      simp -dsimp [t1, t2, t3] at q1 q2 q3 q4 hm' hn' hu'
      clear ht
      refine ⟨1, .loc (s.n + 1), q1, q2, q3, q4, by rw [hu', hmu], by omega, by omega, by simp [hm', nes, e0, e1, f0, m0], by simp [hm', nes, e2, f0, f1, m1], by simp [hm', nes, f2], .inr ⟨s.n + 1, rfl, by omega, by omega, ?_⟩, fun j j1 => ?_, by simp⟩
      · rw [htk]; simp [hm', nes, f0, f1, f2]
      · simp [hm', far (show j < s.n by omega), show ¬ j = n + 2 by omega, hout j j1]
    · have g1 := far hi1
      have g2 : ¬ id = n + 2 := by omega
      have g0 : ¬ id = n := by omega
      have g3 : ¬ id = n + 1 := by omega
      simp -dsimp [List.range_succ, t1, t3, t4, m0, m2, hlt, hget, nes, f0, f1, f2, e0, e1, e2, e3, e4, e5]
      refine call_ hpl (by simp -dsimp) ?_
      simp -dsimp [List.range_succ, t1, t3, t4, m0, m2, hlt, hget, hmu, nes, f0, f1, f2, e0, e1, e2, e3, e4, e5, b1, g1, g2, g0, g3, Ne.symm g0, Ne.symm g2, Ne.symm g3, him, wi, hmu1]
      refine st_out fun s' ht hm' hn' hu' => ?_
      have q1 := ht 1
      have q2 := ht 2
      have q3 := ht 3
      have q4 := ht 4
      simp -dsimp [t1, t2, t3] at q1 q2 q3 q4 hm' hn' hu'
      clear ht
      refine ⟨i + 1, .loc (s.n + 1), q1, q2, q3, q4, by rw [hu', hmu], by omega, by omega, by simp [hm', nes, e0, e1, f0, m0, Ne.symm g0], by simp [hm', nes, e2, f0, f1, m1, Ne.symm g3], by simp [hm', nes, f2], .inr ⟨s.n + 1, rfl, by omega, by omega, ?_⟩, fun j j1 => ?_, by simp⟩
      · rw [htk]; simp [hm', f0, f1, f2, nes]
      · simp [hm', far (show j < s.n by omega), show ¬ j = n + 2 by omega, show ¬ j = id by omega, hout j j1]
  · rintro s ⟨i, st, t1, t2, t3, t4, hmu, hi, hn, m0, m1, m2, hst, hout, hend⟩
    have := hend rfl
    subst this
    rw [List.take_length] at hst
    have f1 := far (show n + 1 < s.n by omega)
    rcases hst with ⟨rfl, hs0⟩ | ⟨id, rfl, hi0, hi1, him⟩
    · simp -dsimp [t2, t3, m1, m2, e2, e4]
      exact ⟨by omega, fun j j1 => by simp [show ¬ j = n + 1 by omega, hout j j1], .nil, rfl, .inl ⟨rfl, hs0⟩⟩
    · have g3 : ¬ id = n + 1 := by omega
      simp -dsimp [t2, t3, m1, m2, e2, e4]
      exact ⟨by omega, fun j j1 => by simp [show ¬ j = n + 1 by omega, hout j j1], .loc id, rfl, .inr ⟨id, rfl, by omega, by omega, by simp [g3, him]⟩⟩
end TL

/- Stories without one of their claims. -/
set_option linter.unusedSimpArgs false
set_option linter.unusedVariables false
set_option maxRecDepth 100000
set_option maxHeartbeats 4000000
set_option pp.maxSteps 1500
namespace TL
open Go Go.Proofs
attribute [local simp] marksV storyV codeV Claim.v Place.v Desk.v
theorem allZ_claims (l : List Claim) : allZ 2 (l.map Claim.v) := fun x hx => by
  obtain ⟨c, _, rfl⟩ := List.mem_map.1 hx
  exact ⟨by simp, by simp⟩
theorem l5Without_fn (l : List Claim) (k : Nat) (hk : k < l.length) (hl : l.length ≤ 1048576) : FnZ Tryz.prog 62 [storyV l, .int .i64 k] (storyV (l.eraseIdx k)) := by
  have e : l.eraseIdx k = l.take k ++ l.drop (k + 1) := List.eraseIdx_eq_take_drop_succ ..
  have h1 : (k : Int) ≤ l.length := by omega
  have h2 : k ≤ l.length := by omega
  have h3 : k + 1 ≤ l.length := by omega
  have h4 : (k : Int) + 1 ≤ l.length := by omega
  have w1 : IntKind.wrap .i64 ((k : Int) + 1) = (k : Int) + 1 := w64 (by omega) (by omega)
  have b1 : min k l.length * 32 ≤ 140737488355328 := by omega
  have b2 : (min k l.length + (l.length - (k + 1))) * 32 ≤ 140737488355328 := by omega
  have h5 : ((k : Int) + 1).toNat = k + 1 := by omega
  have h6 : (0 : Int) ≤ (k : Int) + 1 := by omega
  have z1 : allZ 2 (List.take k (List.map Claim.v l)) := by rw [← List.map_take]; exact allZ_claims _
  have z2 : allZ 2 (List.drop (k + 1) (List.map Claim.v l)) := by rw [← List.map_drop]; exact allZ_claims _
  have tk : List.take l.length (List.map Claim.v l) = List.map Claim.v l := List.take_of_length_le (by simp)
  have b3 : k * 32 ≤ 140737488355328 := by omega
  have b4 : (k + (l.length - (k + 1))) * 32 ≤ 140737488355328 := by omega
  rw [e]
  refine FnZ_of (rs := [.tmp 4]) false Tryz.func62 rfl rfl rfl rfl (Nat.le_of_ble_eq_true rfl) ?_
  simp -dsimp [h1, h2, h3, h4, h5, h6, w1, b1, b2, b3, b4, z1, z2, tk, nes]
end TL

/- Whether a term holds in a world: the reference. -/
set_option linter.unusedSimpArgs false
set_option linter.unusedVariables false
set_option maxRecDepth 100000
set_option maxHeartbeats 4000000
set_option pp.maxSteps 1500
namespace TL
open Go Go.Proofs
attribute [local simp] marksV storyV codeV Claim.v Place.v
/-- Whether a term holds in a world. -/
def Tm.sat (w : Nat) : Tm → Bool
  | .tells i => w.testBit i
  | .count i => decide ((i : Int) ≤ cnt w)
  | .not a => !a.sat w
  | .bin k a b => if k = 0 then a.sat w && b.sat w else if k = 1 then a.sat w || b.sat w else a.sat w == b.sat w
theorem sat_bit (w i : Nat) : decide (((w : Int).fdiv (2 ^ i)).tmod 2 = 1) = w.testBit i := by
  have e1 : (w : Int).fdiv (2 ^ i) = ((w / 2 ^ i : Nat) : Int) := by
    rw [Int.fdiv_eq_ediv_of_nonneg _ (by exact_mod_cast Nat.zero_le _)]
    push_cast; rfl
  rw [e1, Nat.testBit_eq_decide_div_mod_eq, decide_eq_decide]
  rw [Int.tmod_eq_emod_of_nonneg (Int.natCast_nonneg _)]
  omega
theorem l3Holds_fn (w : Nat) (hw : w < 16) : ∀ T : Tm, T.ok → T.marks.length ≤ 1048576 → FnZ Tryz.prog 152 [marksV T.marks, .int .i64 w] (.bool (T.sat w))
  | .tells i, hok, hl => by
    have hi : i < 4 := hok
    have w4 : IntKind.wrap .i64 0 = 0 := rfl
    refine FnZ_of (rs := [.tmp 4]) false Tryz.func152 rfl rfl rfl rfl (Nat.le_of_ble_eq_true rfl) ?_
    have hn : ¬ (i : Int) < 0 := by omega
    have hm : min i IntKind.i64.bits = i := Nat.min_eq_left (by show i ≤ 64; omega)
    have hb := sat_bit w i
    simp -dsimp [Tm.marks, Mark.v, w4, hn, hm, Tm.sat]
    exact hb
  | .count i, hok, hl => by
    have hi : i < 6 := hok
    have w4 : IntKind.wrap .i64 0 = 0 := rfl
    have hh := l1Heads_fn w (by omega)
    refine FnZ_of (rs := [.tmp 4]) false Tryz.func152 rfl rfl rfl rfl (Nat.le_of_ble_eq_true rfl) ?_
    simp -dsimp [Tm.marks, Mark.v, w4, Tm.sat]
    refine twp_draw [0, 2, 3, 4, 5, 6, 1, 7, 8] [] (List.replicate 9 []) (List.replicate 9 []) (by kernel_rfl) (by kernel_rfl) (by kernel_rfl) (by kernel_rfl) ?_
    simp -dsimp [List.range_succ, Tm.marks, Mark.v, w4]
    refine call_ hh (by simp -dsimp) ?_
    simp -dsimp [List.range_succ, Tm.marks, Mark.v, Tm.sat]
  | .not a, hok, hl => by
    have hla : a.marks.length ≤ 1048576 := by simp [Tm.marks] at hl; omega
    have ih := l3Holds_fn w hw a hok hla
    have e0 : (Tm.not a).marks = a.marks ++ [⟨2, 0⟩] := rfl
    have hlen : (Tm.not a).marks.length = a.marks.length + 1 := by rw [e0]; simp
    have hget : (Tm.not a).marks[a.marks.length]? = some ⟨2, 0⟩ := by rw [e0]; simp
    have htake : List.take a.marks.length (List.map Mark.v (Tm.not a).marks) = List.map Mark.v a.marks := by rw [e0]; simp
    have w1 : IntKind.wrap .i64 (((Tm.not a).marks.length : Int) - 1) = (a.marks.length : Int) := by rw [w64 (by omega) (by omega)]; omega
    have hle : a.marks.length ≤ (Tm.not a).marks.length := by omega
    have es : (Tm.not a).sat w = !a.sat w := rfl
    rw [es]
    generalize (Tm.not a).marks = l at *
    generalize a.sat w = b at *
    refine FnZ_of (rs := [.tmp 4]) false Tryz.func152 rfl rfl rfl rfl (Nat.le_of_ble_eq_true rfl) ?_
    simp -dsimp [w1, hget, htake, hle, Mark.v]
    refine call_ ih (by simp -dsimp) ?_
    simp -dsimp
  | .bin k a b, hok, hl => by
    obtain ⟨hk, hoa, hob⟩ := hok
    have hlab : a.marks.length + b.marks.length ≤ 1048575 := by simp [Tm.marks] at hl; omega
    have iha := l3Holds_fn w hw a hoa (by omega)
    have ihb := l3Holds_fn w hw b hob (by omega)
    have hlp := l2Starts_fn a.marks [⟨3 + k, 0⟩] b hob (by simp; omega)
    have e0 : (Tm.bin k a b).marks = a.marks ++ b.marks ++ [⟨3 + k, 0⟩] := rfl
    have hlen : (Tm.bin k a b).marks.length = a.marks.length + b.marks.length + 1 := by rw [e0]; simp; omega
    have hget : (Tm.bin k a b).marks[a.marks.length + b.marks.length]? = some ⟨3 + k, 0⟩ := by
      rw [e0, List.getElem?_append_right (by simp)]; simp
    have htake : List.take (a.marks.length + b.marks.length) (List.map Mark.v (Tm.bin k a b).marks) = List.map Mark.v (a.marks ++ b.marks) := by
      rw [e0, List.map_append, List.take_left' (by simp)]
    have htake2 : List.take a.marks.length (List.map Mark.v (Tm.bin k a b).marks) = List.map Mark.v a.marks := by
      rw [e0, List.append_assoc, List.map_append, List.take_left' (by simp)]
    have hdrop : List.drop a.marks.length (List.map Mark.v (a.marks ++ b.marks)) = List.map Mark.v b.marks := by
      rw [List.map_append, List.drop_left' (by simp)]
    have es : (Tm.bin k a b).sat w = if k = 0 then a.sat w && b.sat w else if k = 1 then a.sat w || b.sat w else a.sat w == b.sat w := rfl
    rw [es]
    obtain ⟨n, hn⟩ : ∃ n, n = a.marks.length + b.marks.length := ⟨_, rfl⟩
    rw [← hn] at hlen hget htake
    have hc1 : a.marks.length ≤ n := by omega
    have hle : n ≤ (Tm.bin k a b).marks.length := by omega
    have hle2 : a.marks.length ≤ (Tm.bin k a b).marks.length := by omega
    have w1 : IntKind.wrap .i64 (((Tm.bin k a b).marks.length : Int) - 1) = (n : Int) := by rw [w64 (by omega) (by omega)]; omega
    have wE : IntKind.wrap .i64 ((n : Int) - 1) = (a.marks.length : Int) + b.marks.length - 1 := by rw [w64 (by omega) (by omega)]; omega
    rw [← e0] at hlp
    have hkk : k = 0 ∨ k = 1 ∨ k = 2 := by omega
    generalize hL : (Tm.bin k a b).marks = l at *
    generalize hM : a.marks ++ b.marks = M at *
    clear e0 hL hM es
    generalize a.sat w = x at *
    generalize b.sat w = y at *
    have hx := ft x
    rcases hkk with rfl | rfl | rfl
    · refine FnZ_of (rs := [.tmp 4]) false Tryz.func152 rfl rfl rfl rfl (Nat.le_of_ble_eq_true rfl) ?_
      simp -dsimp [w1, hget, Mark.v]
      refine call_ hlp (by simp -dsimp [wE]) ?_
      simp -dsimp [htake2, hle2]
      refine call_ iha (by simp -dsimp) ?_
      simp -dsimp [htake, hdrop, hc1, hle]
      refine call_ ihb (by simp -dsimp) ?_
      rcases hx with rfl | rfl
      · simp -dsimp [hget, Mark.v]
      · simp -dsimp [hget, Mark.v]
    · refine FnZ_of (rs := [.tmp 4]) false Tryz.func152 rfl rfl rfl rfl (Nat.le_of_ble_eq_true rfl) ?_
      simp -dsimp [w1, hget, Mark.v]
      refine call_ hlp (by simp -dsimp [wE]) ?_
      simp -dsimp [htake2, hle2]
      refine call_ iha (by simp -dsimp) ?_
      simp -dsimp [htake, hdrop, hc1, hle]
      refine call_ ihb (by simp -dsimp) ?_
      rcases hx with rfl | rfl
      · simp -dsimp [hget, Mark.v]
      · simp -dsimp [hget, Mark.v]
    · refine FnZ_of (rs := [.tmp 4]) false Tryz.func152 rfl rfl rfl rfl (Nat.le_of_ble_eq_true rfl) ?_
      simp -dsimp [w1, hget, Mark.v]
      refine call_ hlp (by simp -dsimp [wE]) ?_
      simp -dsimp [htake2, hle2]
      refine call_ iha (by simp -dsimp) ?_
      simp -dsimp [htake, hdrop, hc1, hle]
      refine call_ ihb (by simp -dsimp) ?_
      simp -dsimp [hget, Mark.v]
end TL
