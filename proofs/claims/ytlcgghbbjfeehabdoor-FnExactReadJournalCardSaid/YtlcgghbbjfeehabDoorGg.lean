/- TL: parts FnsQE6, FnsQE15b, FnsQE17, FnsQE18p, FnsQL3, FnsQE15a, FnsQE18, FnsQJ1, FnsQE5, FnsQE12, FnsQB1, FnsQB2, FnsQB3, FnsQB4, FnsQB5, FnsQ16, FnsQP1, FnsQP2, FnsQS0, FnsQJ2, FnsQJ3, FnsQR7, FnsQR8, FnsQR9, FnsQJ4, FnsQGDb, FnsQGD, FnsQFWa, FnsQFWb, FnsQFWc, FnsQFWd. -/
import Derived.Test.YtlcgghbbjfeehabDoorGf
import Derived.Test.YtlcgghbbjfeehabDoorShelfC
import Derived.Shelf.Strings.Cut
import Derived.Shelf.Strconv.AtoiAll
import Derived.Lib.SmallJoins
import Derived.WalkSmall
import Derived.Test.YtlcgghbbjfeehabDoorGe
import Derived.Test.YtlcgghbbjfeehabDoorGd
import Derived.Test.YtlcgghbbjfeehabDoorShelfB
import Derived.Stop.LaidErr
import Derived.LaidLaws
import Derived.KernelRfl
import Derived.Test.YtlcgghbbjfeehabDoorRows
import Derived.JoinedOf
import Derived.SevenTiedAt
/- Journals. -/
set_option linter.unusedSimpArgs false
set_option linter.unusedVariables false
set_option maxRecDepth 100000
set_option maxHeartbeats 4000000
set_option pp.maxSteps 1500
namespace TL
open Go Go.Proofs
attribute [local simp] marksV storyV codeV Claim.v Place.v Deed.v
def jr (l : List Deed) (f : Deed → List UInt8) : List UInt8 := (l.map fun a => f a ++ [10]).flatten
noncomputable def journalTx (l : List Deed) : List UInt8 := by
  classical exact if ∃ a ∈ l, deedTx a = [] then [] else jr l deedTx
theorem jr_take {l : List Deed} {f : Deed → List UInt8} {i : Nat} (h : i < l.length) : jr (l.take (i + 1)) f = jr (l.take i) f ++ f l[i] ++ [10] := by
  unfold jr; rw [List.take_succ_eq_append_getElem h, List.map_append, List.flatten_append]; simp
theorem jr_len (l : List Deed) : (jr l deedTx).length ≤ 41 * l.length := by
  induction l with
  | nil => simp [jr]
  | cons a l ih =>
    have := deedTx_len a
    simp only [jr, List.map_cons, List.flatten_cons, List.length_append, List.length_cons, List.length_nil] at ih ⊢; omega
theorem journalTx_none {l : List Deed} {a : Deed} (h : a ∈ l) (h0 : deedTx a = []) : journalTx l = [] := by
  unfold journalTx; exact if_pos ⟨a, h, h0⟩
theorem journalTx_all {l : List Deed} (h : ∀ a ∈ l, deedTx a ≠ []) : journalTx l = jr l deedTx := by
  unfold journalTx; exact if_neg fun ⟨a, ha, h0⟩ => h a ha h0
def Ijt (l : List Deed) (e : Nat) (s : S) : Prop := ∃ i : Nat, s.tm 7 = .v (.sl (l.map Deed.v)) ∧ s.tm 8 = .v (.int .i64 l.length) ∧ s.tm 9 = .v (.int .i64 i) ∧ s.tm 3 = .v (.str (jr (l.take i) deedTx)) ∧ i ≤ l.length ∧ (∀ a ∈ l.take i, deedTx a ≠ []) ∧ (e = 1 → i = l.length)
theorem take_next {l : List Deed} {i : Nat} (h : i < l.length) (ha : ∀ a ∈ l.take i, deedTx a ≠ []) (h0 : deedTx l[i] ≠ []) : ∀ a ∈ l.take (i + 1), deedTx a ≠ [] := fun a hx => by
  rw [List.take_succ_eq_append_getElem h] at hx
  rcases List.mem_append.1 hx with hx | hx
  · exact ha a hx
  · cases List.mem_singleton.1 hx; exact h0
def Isjt (l : List Deed) (e : Nat) (s : S) : Prop := ∃ i : Nat, s.tm 0 = .v (.sl (l.map Deed.v)) ∧ s.tm 4 = .v (.int .i64 i) ∧ s.tm 3 = .v (.str (jr (l.take i) deedTx)) ∧ i ≤ l.length ∧ (∀ a ∈ l.take i, deedTx a ≠ []) ∧ (e = 1 → i = l.length)
/-! Rows of deeds. -/
theorem elemOk_deed : ElemOk Deed.v 3 := fun a => ⟨rfl, by simp, by simp⟩
theorem cellsT_deed (a : Deed) : cellsT a.v = [.v (.int .i64 a.kind), .v (.int .i64 a.num), .v (.str a.words)] := rfl
def ItoDeedS (l : List Deed) (a : Nat) (s : S) : Prop := ∃ i : Nat, s.tm 0 = .v (.sl (l.map Deed.v)) ∧ s.tm 3 = .sv 0 0 l.length ∧ s.tm 4 = .v (.int .i64 i) ∧ i ≤ l.length ∧ s.m 0 = some (.box 36 3 (filled Deed.v [T.v (.int .i64 0), T.v (.int .i64 0), T.v (.str [])] l i).flatten) ∧ (a = 1 → i = l.length)
theorem eqDeed_fn (a b : Deed) : FnZ Tryd.prog 18 [a.v, b.v] (.bool (decide (a = b))) := by
  obtain ⟨a1, a2, a3⟩ := a
  obtain ⟨b1, b2, b3⟩ := b
  refine FnZ_of (rs := [.tmp 4]) false Tryd.func18 rfl rfl rfl rfl (Nat.le_of_ble_eq_true rfl) ?_
  by_cases h1 : a1 = b1
  · by_cases h2 : a2 = b2
    · by_cases h3 : a3 = b3
      · simp -dsimp [h1, h2, h3]
      · simp -dsimp [h1, h2, h3]
    · simp -dsimp [h1, h2]
  · simp -dsimp [h1]
def IeqDeedS (a b : List Deed) (e : Nat) (s : S) : Prop := ∃ i : Nat, s.tm 0 = .v (.sl (a.map Deed.v)) ∧ s.tm 1 = .v (.sl (b.map Deed.v)) ∧ s.tm 5 = .v (.int .i64 i) ∧ i ≤ a.length ∧ a.take i = b.take i ∧ (e = 1 → i = a.length)
theorem eqDeedS_fn (a b : List Deed) (hl : a.length ≤ 1048576) : FnZ Tryd.prog 7 [.sl (a.map Deed.v), .sl (b.map Deed.v)] (.bool (decide (a = b))) := by
  refine FnZ_of (rs := [.tmp 4]) false Tryd.func7 rfl rfl rfl rfl (Nat.le_of_ble_eq_true rfl) ?_
  by_cases hn : a.length = b.length
  case neg =>
    have e : decide (a = b) = false := by simp; rintro rfl; exact hn rfl
    have hn' : ¬ (a.length : Int) = b.length := by omega
    simp -dsimp [hn, hn', e]
  simp -dsimp [hn]
  refine twp_loopC (IeqDeedS a b 0) (fun s => a.length - natOf (s.tm 5)) (IeqDeedS a b 1) ?_ ?_ ?_
  · exact ⟨0, by simp -dsimp, by simp -dsimp, by simp -dsimp, by omega, by simp, by simp⟩
  · rintro s ⟨i, h0, h1, h5, hi, htk, hend⟩
    by_cases hlt : i < a.length
    case neg =>
      have hlt2 : ¬ i < b.length := by omega
      simp -dsimp [h0, h5, hlt, hlt2, hn]
      exact ⟨i, by simp -dsimp [h0], by simp -dsimp [h1], by simp -dsimp [h5], hi, htk, fun _ => by omega⟩
    have hlt2 : i < b.length := by omega
    have hgeta : (a.map Deed.v)[i]? = some (a[i].v) := by simp [hlt]
    have hgetb : (b.map Deed.v)[i]? = some (b[i].v) := by simp [hlt2]
    have wi : IntKind.wrap .i64 ((i : Int) + 1) = ((i + 1 : Nat) : Int) := by rw [w64 (by omega) (by omega)]; omega
    have hmu : a.length - (i + 1) < a.length - i := by omega
    simp -dsimp [h0, h5, hlt, hlt2, hn]
    refine twp_draw (List.range 10) [] (List.replicate 10 []) (List.replicate 10 []) (by kernel_rfl) (by kernel_rfl) (by kernel_rfl) (by kernel_rfl) ?_
    simp -dsimp [List.range_succ, h0, h1, h5, hlt, hlt2, hgeta, hgetb]
    refine call_ (eqDeed_fn a[i] b[i]) (by simp -dsimp) ?_
    have hq := ft (decide (a[i] = b[i]))
    rcases hq with hq | hq
    · have e : decide (a = b) = false := by
        simp at hq ⊢; rintro rfl; exact hq rfl
      simp -dsimp [List.range_succ, hq, e]
    · have hq' : a[i] = b[i] := by simpa using hq
      have htk2 := take_eq_succ hlt hlt2 htk hq'
      have hmu2 : b.length - (i + 1) < b.length - i := by omega
      simp -dsimp [List.range_succ, hq, h5, wi, hmu, hmu2]
      exact ⟨i + 1, by simp -dsimp [h0], by simp -dsimp [h1], by simp -dsimp, by omega, htk2, by simp⟩
  · rintro s ⟨i, h0, h1, h5, hi, htk, hend⟩
    have := hend rfl
    subst this
    rw [List.take_length, hn, List.take_length] at htk
    have e : decide (a = b) = true := by simpa using htk
    simp -dsimp [e]
def wordsSum (l : List Deed) : Nat := (l.map fun c => c.words.length).sum
theorem wordsSum_take {l : List Deed} {i : Nat} (h : i < l.length) : wordsSum (l.take (i + 1)) = wordsSum (l.take i) + l[i].words.length := by
  unfold wordsSum; rw [List.take_succ_eq_append_getElem h, List.map_append, List.sum_append]; rfl
theorem wordsSum_le (l : List Deed) (i : Nat) : wordsSum (l.take i) ≤ wordsSum l := by
  have e : wordsSum l = wordsSum (l.take i ++ l.drop i) := by rw [List.take_append_drop]
  rw [e]; unfold wordsSum; rw [List.map_append, List.sum_append]; omega
theorem wordsSum_mem {l : List Deed} {c : Deed} (h : c ∈ l) : c.words.length ≤ wordsSum l := by
  induction l with
  | nil => cases h
  | cons y ys ih =>
    rcases List.mem_cons.1 h with rfl | h
    · simp [wordsSum]
    · have := ih h; simp only [wordsSum, List.map_cons, List.sum_cons] at this ⊢; omega
def SZD (l : List Deed) (left : Int) (e : Nat) (s : S) : Prop := ∃ i : Nat, s.tm 0 = .v (.sl (l.map Deed.v)) ∧ s.tm 1 = .v (.int .i64 (left - l.length - wordsSum (l.take i))) ∧ s.tm 5 = .v (.int .i64 i) ∧ i ≤ l.length ∧ 0 ≤ left - l.length - wordsSum (l.take i) ∧ (e = 1 → i = l.length)
end TL

/- Deeds read: the program and the reference, and the exact law. -/
set_option linter.unusedSimpArgs false
set_option linter.unusedVariables false
set_option maxRecDepth 100000
set_option maxHeartbeats 4000000
set_option pp.maxSteps 1500
namespace TL
open Go Go.Proofs
attribute [local simp] marksV storyV codeV Claim.v Place.v Deed.v
/-! The reference. -/
def Isrd (s : List UInt8) (l : List Deed) (e : Nat) (y : S) : Prop := ∃ i id : Nat, y.tm 0 = .v (.str s) ∧ y.tm 2 = .ptr 0 0 ∧ y.m 0 = some (.box 36 3 [.v (.int .i64 0), .v (.int .i64 0), .v (.str [])]) ∧ y.tm 5 = .loc id ∧ 0 < id ∧ id < y.n ∧
  y.m id = some (.arr 36 (l.map Deed.v)) ∧ y.tm 7 = .v (.int .i64 i) ∧ y.mu = false ∧ i ≤ l.length ∧ (∀ a ∈ l.take i, s ≠ [] → deedTx a ≠ s) ∧ (e = 1 → i = l.length)
theorem deedS_two {s x r : List UInt8} (h : cutAt 32 s = [x, r]) : deedS s = [⟨3, 0, []⟩, ⟨4, 0, []⟩, ⟨0, 0, r⟩, ⟨1, digS r, []⟩, ⟨2, digS r, []⟩] := by
  unfold deedS; rw [h]; rfl
theorem deedS_not {s : List UInt8} (h : (cutAt 32 s).length ≠ 2) : deedS s = [⟨3, 0, []⟩, ⟨4, 0, []⟩] := by
  unfold deedS
  generalize cutAt 32 s = ps at h
  match ps, h with
  | [], _ => rfl
  | [_], _ => rfl
  | [_, _], h => exact absurd rfl h
  | _ :: _ :: _ :: _, _ => rfl
theorem readDeedS_fn (s : List UInt8) (hl : s.length ≤ 2000000000) : FnZ Tryd.prog 15 [.str s] (optD (readD s)) := by
  have hcut := l1Cut_fn s 32 hl
  have e32 : (((32 : UInt8).toNat : Nat) : Int) = 32 := rfl
  rw [e32] at hcut
  have hno := readD_none' (s := s)
  have hyes : ∀ a, s ≠ [] → deedTx a = s → readD s = some a := fun a => readD_some
  have hlen : ∀ a ∈ deedS s, a.words.length ≤ 2000000000 := by
    by_cases h2 : (cutAt 32 s).length = 2
    · have h3 : ∃ x rest, cutAt 32 s = [x, rest] := by
        generalize cutAt 32 s = ps at h2
        match ps, h2 with
        | [x, r], _ => exact ⟨x, r, rfl⟩
      obtain ⟨x, r, h5⟩ := h3
      have hrl : r.length ≤ s.length := cutAt_piece (c := 32) (by rw [h5]; simp)
      rw [deedS_two h5]
      intro a ha
      simp only [List.mem_cons, List.mem_nil_iff, or_false] at ha
      rcases ha with rfl | rfl | rfl | rfl | rfl <;> simp <;> omega
    · rw [deedS_not h2]
      intro a ha
      simp only [List.mem_cons, List.mem_nil_iff, or_false] at ha
      rcases ha with rfl | rfl <;> simp
  have hll : (deedS s).length ≤ 5 := by
    by_cases h2 : (cutAt 32 s).length = 2
    · have h3 : ∃ x rest, cutAt 32 s = [x, rest] := by
        generalize cutAt 32 s = ps at h2
        match ps, h2 with
        | [x, r], _ => exact ⟨x, r, rfl⟩
      obtain ⟨x, r, h5⟩ := h3
      rw [deedS_two h5]; simp
    · rw [deedS_not h2]; simp
  by_cases h2 : (cutAt 32 s).length = 2
  case pos =>
    have h3 : ∃ x rest, cutAt 32 s = [x, rest] := by
      generalize cutAt 32 s = ps at h2
      match ps, h2 with
      | [x, r], _ => exact ⟨x, r, rfl⟩
    refine h3.elim fun x h4 => h4.elim fun r h5 => ?_
    clear h3 h4 h2
    have hrl : r.length ≤ s.length := cutAt_piece (c := 32) (by rw [h5]; simp)
    have hdg := l1Digits_fn r (by omega)
    have hds := deedS_two h5
    rw [h5] at hcut
    generalize deedS s = l at *
    generalize digS r = D at *
    clear h5
    refine FnZ_of (rs := [.cell 2 36, .tmp 3]) false Tryd.func15 rfl rfl rfl rfl (Nat.le_of_ble_eq_true rfl) ?_
    simp -dsimp
    refine call_ hcut (by simp -dsimp) ?_
    simp -dsimp
    refine call_ hdg (by simp -dsimp) ?_
    simp -dsimp
    refine twp_loopC (Isrd s l 0) (fun y => l.length - natOf (y.tm 7)) (Isrd s l 1) ?_ ?_ ?_
    · refine ⟨0, _, by simp -dsimp, by simp -dsimp, by simp -dsimp, by simp -dsimp; rfl, by simp -dsimp, by simp -dsimp, by simp -dsimp [hds], by simp -dsimp, by simp -dsimp, by omega, by simp, by simp⟩
    · rintro y ⟨i, id, t0, t2, m0, t5, hid0, hid, hm, t7, hmu, hi, hall, hend⟩
      by_cases hlt : i < l.length
      case neg =>
        simp -dsimp [t5, t7, hm, hlt]
        exact ⟨i, id, by simp -dsimp [t0], by simp -dsimp [t2], by simp -dsimp [m0], by simp -dsimp [t5], hid0, by simp -dsimp [hid], by simp -dsimp [hm], by simp -dsimp [t7], by simp -dsimp [hmu], hi, hall, fun _ => by omega⟩
      have hget : (l.map Deed.v)[i]? = some (l[i].v) := by simp [hlt]
      have wi : IntKind.wrap .i64 ((i : Int) + 1) = ((i + 1 : Nat) : Int) := by rw [w64 (by omega) (by omega)]; omega
      have hmu1 : l.length - (i + 1) < l.length - i := by omega
      have hdt := deedTextS_fn l[i] (hlen _ (List.getElem_mem _))
      have f0 := far (show 0 < y.n by omega)
      have f1 := far hid
      by_cases hs : s = []
      · have hnx : ∀ a ∈ l.take (i + 1), s ≠ [] → deedTx a ≠ s := fun a _ h => absurd hs h
        simp -dsimp [t0, t5, t7, hm, hlt, hs, wi, hmu1]
        exact ⟨i + 1, id, by simp -dsimp [t0, hs], by simp -dsimp [t2], by simp -dsimp [m0], by simp -dsimp [t5], hid0, by simp -dsimp [hid], by simp -dsimp [hm], by simp -dsimp, by simp -dsimp [hmu], by omega, fun a _ h => absurd rfl h, by simp⟩
      · by_cases he : deedTx l[i] = s
        · rw [hyes _ hs he]
          rw [he] at hdt
          simp -dsimp [t0, t5, t7, hm, hlt, hs, hget]
          refine call_ hdt (by simp -dsimp) ?_
          simp -dsimp [t0, t2, t5, t7, m0, hm, hget, hlt, f0, f1, optD]
        · have hnx : ∀ a ∈ l.take (i + 1), s ≠ [] → deedTx a ≠ s := fun a ha h => by
            rw [List.take_succ_eq_append_getElem hlt] at ha
            rcases List.mem_append.1 ha with ha | ha
            · exact hall a ha h
            · rw [List.mem_singleton.1 ha]; exact he
          simp -dsimp [t0, t5, t7, hm, hlt, hs, hget]
          refine call_ hdt (by simp -dsimp) ?_
          simp -dsimp [t0, he, t7, wi, hmu1]
          exact ⟨i + 1, id, by simp -dsimp [t0], by simp -dsimp [t2], by simp -dsimp [m0], by simp -dsimp [t5], hid0, by simp -dsimp [hid], by simp -dsimp [hm], by simp -dsimp, by simp -dsimp [hmu], by omega, hnx, by simp⟩
    · rintro y ⟨i, id, t0, t2, m0, t5, hid0, hid, hm, t7, hmu, hi, hall, hend⟩
      have hil := hend rfl
      rw [hil, List.take_length] at hall
      rw [hno hall]
      have f0 := far (show 0 < y.n by omega)
      simp -dsimp [t2, m0, f0, optD]
  case neg =>
    have h2' : ¬ ((cutAt 32 s).length : Int) = 2 := by omega
    have hds := deedS_not h2
    generalize deedS s = l at *
    refine FnZ_of (rs := [.cell 2 36, .tmp 3]) false Tryd.func15 rfl rfl rfl rfl (Nat.le_of_ble_eq_true rfl) ?_
    simp -dsimp
    refine call_ hcut (by simp -dsimp) ?_
    simp -dsimp [h2, h2']
    refine twp_loopC (Isrd s l 0) (fun y => l.length - natOf (y.tm 7)) (Isrd s l 1) ?_ ?_ ?_
    · refine ⟨0, _, by simp -dsimp, by simp -dsimp, by simp -dsimp, by simp -dsimp; rfl, by simp -dsimp, by simp -dsimp, by simp -dsimp [hds], by simp -dsimp, by simp -dsimp, by omega, by simp, by simp⟩
    · rintro y ⟨i, id, t0, t2, m0, t5, hid0, hid, hm, t7, hmu, hi, hall, hend⟩
      by_cases hlt : i < l.length
      case neg =>
        simp -dsimp [t5, t7, hm, hlt]
        exact ⟨i, id, by simp -dsimp [t0], by simp -dsimp [t2], by simp -dsimp [m0], by simp -dsimp [t5], hid0, by simp -dsimp [hid], by simp -dsimp [hm], by simp -dsimp [t7], by simp -dsimp [hmu], hi, hall, fun _ => by omega⟩
      have hget : (l.map Deed.v)[i]? = some (l[i].v) := by simp [hlt]
      have wi : IntKind.wrap .i64 ((i : Int) + 1) = ((i + 1 : Nat) : Int) := by rw [w64 (by omega) (by omega)]; omega
      have hmu1 : l.length - (i + 1) < l.length - i := by omega
      have hdt := deedTextS_fn l[i] (hlen _ (List.getElem_mem _))
      have f0 := far (show 0 < y.n by omega)
      have f1 := far hid
      by_cases hs : s = []
      · have hnx : ∀ a ∈ l.take (i + 1), s ≠ [] → deedTx a ≠ s := fun a _ h => absurd hs h
        simp -dsimp [t0, t5, t7, hm, hlt, hs, wi, hmu1]
        exact ⟨i + 1, id, by simp -dsimp [t0, hs], by simp -dsimp [t2], by simp -dsimp [m0], by simp -dsimp [t5], hid0, by simp -dsimp [hid], by simp -dsimp [hm], by simp -dsimp, by simp -dsimp [hmu], by omega, fun a _ h => absurd rfl h, by simp⟩
      · by_cases he : deedTx l[i] = s
        · rw [hyes _ hs he]
          rw [he] at hdt
          simp -dsimp [t0, t5, t7, hm, hlt, hs, hget]
          refine call_ hdt (by simp -dsimp) ?_
          simp -dsimp [t0, t2, t5, t7, m0, hm, hget, hlt, f0, f1, optD]
        · have hnx : ∀ a ∈ l.take (i + 1), s ≠ [] → deedTx a ≠ s := fun a ha h => by
            rw [List.take_succ_eq_append_getElem hlt] at ha
            rcases List.mem_append.1 ha with ha | ha
            · exact hall a ha h
            · rw [List.mem_singleton.1 ha]; exact he
          simp -dsimp [t0, t5, t7, hm, hlt, hs, hget]
          refine call_ hdt (by simp -dsimp) ?_
          simp -dsimp [t0, he, t7, wi, hmu1]
          exact ⟨i + 1, id, by simp -dsimp [t0], by simp -dsimp [t2], by simp -dsimp [m0], by simp -dsimp [t5], hid0, by simp -dsimp [hid], by simp -dsimp [hm], by simp -dsimp, by simp -dsimp [hmu], by omega, hnx, by simp⟩
    · rintro y ⟨i, id, t0, t2, m0, t5, hid0, hid, hm, t7, hmu, hi, hall, hend⟩
      have hil := hend rfl
      rw [hil, List.take_length] at hall
      rw [hno hall]
      have f0 := far (show 0 < y.n by omega)
      simp -dsimp [t2, m0, f0, optD]
end TL

/- The laws of deeds' texts. -/
set_option linter.unusedSimpArgs false
set_option linter.unusedVariables false
set_option maxRecDepth 100000
set_option maxHeartbeats 4000000
set_option pp.maxSteps 1500
namespace TL
open Go Go.Proofs
attribute [local simp] marksV storyV codeV Claim.v Place.v Deed.v
theorem readD_more {s : List UInt8} {c : UInt8} (hc : c = 32 ∨ c = 10) : readD (s ++ [c]) = none := readD_none fun b h1 h2 => by
  have hne : deedTx b ≠ [] := by rw [h2]; exact h1
  rcases deed_cases hne with ⟨w, rfl, ⟨d, hd⟩, e⟩ | ⟨n, h0, h9, rfl, e⟩ | ⟨n, h0, h9, rfl, e⟩ | ⟨rfl, e⟩ | ⟨rfl, e⟩
  · have hw : w ≠ [] := fun e0 => by rw [e0] at hd; cases hd
    have := readC_clean hd c (last_in hw (e.symm.trans h2))
    rcases hc with rfl | rfl
    · exact this.1 rfl
    · exact this.2 rfl
  · have hw : dec n ≠ [] := fun e0 => by have := (good_dec h0 h9).2.1; rw [e0] at this; cases this
    have := (good_dec h0 h9).2.2 c (last_in hw (e.symm.trans h2))
    rcases hc with rfl | rfl
    · exact this.1 rfl
    · exact this.2 rfl
  · have hw : dec n ≠ [] := fun e0 => by have := (good_dec h0 h9).2.1; rw [e0] at this; cases this
    have := (good_dec h0 h9).2.2 c (last_in hw (e.symm.trans h2))
    rcases hc with rfl | rfl
    · exact this.1 rfl
    · exact this.2 rfl
  · have := last_in (p := []) (w := txLeast) (by decide) (e.symm.trans h2)
    rcases hc with rfl | rfl <;> revert this <;> decide
  · have := last_in (p := []) (w := txBack) (by decide) (e.symm.trans h2)
    rcases hc with rfl | rfl <;> revert this <;> decide
end TL

/- What is read of a journal, in plain words. -/
set_option linter.unusedSimpArgs false
set_option linter.unusedVariables false
set_option maxRecDepth 100000
set_option maxHeartbeats 4000000
set_option pp.maxSteps 1500
namespace TL
open Go Go.Proofs
theorem cut_found {s : List UInt8} {c : UInt8} (h : (Go.Lib.cut s [c]).2.2 = true) : s = (Go.Lib.cut s [c]).1 ++ c :: (Go.Lib.cut s [c]).2.1 ∧ ∀ y ∈ (Go.Lib.cut s [c]).1, y ≠ c := by
  rcases cut_first c s with h1 | ⟨x, r, rfl, h1⟩
  · rw [cut_clean h1] at h; cases h
  · rw [cut_at h1]; exact ⟨rfl, h1⟩
/-- What ReadJournal reads, and how far. -/
noncomputable def readJF : Nat → List UInt8 → List Deed × Nat
  | 0, _ => ([], 0)
  | f + 1, s => if (Go.Lib.cut s [10]).2.2 = true then match readD (Go.Lib.cut s [10]).1 with
    | some a => (a :: (readJF f (Go.Lib.cut s [10]).2.1).1, (Go.Lib.cut s [10]).1.length + 1 + (readJF f (Go.Lib.cut s [10]).2.1).2)
    | none => ([], 0) else ([], 0)
noncomputable def readJ (s : List UInt8) : List Deed × Nat := readJF (s.length + 1) s
theorem readJF_step {f : Nat} {s : List UInt8} {a : Deed} (h : (Go.Lib.cut s [10]).2.2 = true) (ha : readD (Go.Lib.cut s [10]).1 = some a) :
    readJF (f + 1) s = (a :: (readJF f (Go.Lib.cut s [10]).2.1).1, (Go.Lib.cut s [10]).1.length + 1 + (readJF f (Go.Lib.cut s [10]).2.1).2) := by
  show (if _ then _ else _) = _
  rw [if_pos h, ha]
theorem readJF_stop {f : Nat} {s : List UInt8} (h : (Go.Lib.cut s [10]).2.2 = false ∨ readD (Go.Lib.cut s [10]).1 = none) : readJF (f + 1) s = ([], 0) := by
  show (if _ then _ else _) = _
  rcases h with h | h
  · rw [if_neg (by simp [h])]
  · rw [h]; split <;> rfl
theorem readJF_jr : ∀ (l : List Deed) (f : Nat), l.length < f → (∀ a ∈ l, deedTx a ≠ []) → readJF f (jr l deedTx) = (l, (jr l deedTx).length)
  | [], f + 1, _, _ => by
    have e : jr ([] : List Deed) deedTx = [] := rfl
    rw [e, readJF_stop (.inl (by rw [cut_clean (by simp)]))]; rfl
  | a :: l, f + 1, hf, h => by
    have h1 := h a (List.mem_cons_self ..)
    have e : jr (a :: l) deedTx = deedTx a ++ 10 :: jr l deedTx := by simp [jr]
    have hc : ∀ y ∈ deedTx a, y ≠ 10 := by
      rcases deed_cases h1 with ⟨w, rfl, ⟨d, hd⟩, e⟩ | ⟨n, h0, h9, rfl, e⟩ | ⟨n, h0, h9, rfl, e⟩ | ⟨rfl, e⟩ | ⟨rfl, e⟩ <;> rw [e]
      · intro y hy
        rcases List.mem_append.1 hy with hy | hy
        · have h10 : ∀ y ∈ txSay, y ≠ (10 : UInt8) := by decide
          exact h10 y hy
        · exact (readC_clean hd y hy).2
      · intro y hy
        rcases List.mem_append.1 hy with hy | hy
        · have h10 : ∀ y ∈ txDrop, y ≠ (10 : UInt8) := by decide
          exact h10 y hy
        · exact ((good_dec h0 h9).2.2 y hy).2
      · intro y hy
        rcases List.mem_append.1 hy with hy | hy
        · have h10 : ∀ y ∈ txPeople, y ≠ (10 : UInt8) := by decide
          exact h10 y hy
        · exact ((good_dec h0 h9).2.2 y hy).2
      · decide
      · decide
    have ih := readJF_jr l f (by simp at hf; omega) fun b hb => h b (List.mem_cons_of_mem _ hb)
    have hcut := cut_at (r := jr l deedTx) hc
    rw [e, readJF_step (a := a) (by rw [hcut]) (by rw [hcut]; exact readD_some h1 rfl), hcut]
    simp only
    rw [ih]
    simp only [List.length_append, List.length_cons]
    congr 1; omega
theorem jr_long : ∀ (l : List Deed), l.length ≤ (jr l deedTx).length
  | [] => by simp
  | a :: l => by
    have := jr_long l
    have e : jr (a :: l) deedTx = deedTx a ++ 10 :: jr l deedTx := by simp [jr]
    rw [e]; simp only [List.length_append, List.length_cons]; omega
theorem readJ_jr {l : List Deed} (h : ∀ a ∈ l, deedTx a ≠ []) : readJ (jr l deedTx) = (l, (jr l deedTx).length) := readJF_jr l _ (by have := jr_long l; omega) h
end TL

/- The library's functions, off the shelf: texts cut, numbers read. -/
set_option linter.unusedSimpArgs false
set_option linter.unusedVariables false
set_option maxRecDepth 100000
namespace TL
open Go Go.Proofs Go.RowKit
section
variable {P : Program}
theorem cut_FnZ {ρ : Go.Shelf.Ren} (L : Go.Proofs.Lays.n145 P ρ) (hf : ∃ fn, P.funcs[ρ.f 145]? = some fn ∧ (fn.name == "runtime.NumGoroutine") = false ∧ fn.body.isNone = false)
    (hg : P.globalNamed "internal/bytealg.MaxLen" = some (ρ.g 1)) (s c : List UInt8) (hs : s.length < 4294967281) : FnZ P (ρ.f 145) [.str s, .str c] (.tup [.str (Go.Lib.cut s c).1, .str (Go.Lib.cut s c).2.1, .bool (Go.Lib.cut s c).2.2]) := by
  refine FnZ_calls hf fun Z w vs hz hv => ?_
  cases hv with | cons h1 hv => cases hv with | cons h2 hv => cases hv with | nil =>
    cases h1 with
    | @str _ b hb =>
      cases h2 with
      | @str _ bsep hb2 =>
        have hq : GQ P (ρ.g 1) (fun v => ∃ m, v = .int .i64 m) := GQ.maxLen hg
        obtain ⟨_, v, hc, m, rfl⟩ := hz.gl _ _ hq
        have hsz : b.size = s.length := by rw [← hb]; rfl
        refine calls_mono (Any.strings_Cut L b bsep m w (by omega) hc) ?_
        rintro e w' ⟨rfl, n, rfl⟩
        rw [hb, hb2]
        exact ⟨_, rfl, below_drewN (Below.refl _ _) n, .tup (.cons (.str (by simp)) (.cons (.str (by simp)) (.cons (.bool _) .nil)))⟩
theorem atoi_FnZ {ρ : Go.Shelf.Ren} (L : Go.Proofs.LaysC.n172 P ρ) (hf : ∃ fn, P.funcs[ρ.f 172]? = some fn ∧ (fn.name == "runtime.NumGoroutine") = false ∧ fn.body.isNone = false)
    (s : List UInt8) (hs : s.length ≤ 2000000000) : FnZ P (ρ.f 172) [.str s] (.tup [.int .i64 (atoiV s), .any]) := by
  refine FnZ_calls hf fun Z w vs hz hv => ?_
  cases hv with | cons h1 hv => cases hv with | nil =>
    cases h1 with
    | @str _ b hb =>
      have hsz : b.size = s.length := by rw [← hb]; rfl
      have q1 : GQ P (ρ.g 15) (fun v => v = .nilIface ∨ ∃ t p, v = .iface t p) := GQ.errSyntax L.m15
      have q2 : GQ P (ρ.g 16) (fun v => v = .nilIface ∨ ∃ t p, v = .iface t p) := GQ.errRange L.m16
      obtain ⟨_, v1, hc1, hv1⟩ := hz.gl _ _ q1
      obtain ⟨_, v2, hc2, hv2⟩ := hz.gl _ _ q2
      cases e : Go.Lib.atoiAll s with
      | ok v =>
        have ev : atoiV s = v := by unfold atoiV; rw [e]
        rw [ev]
        refine calls_mono (Any.strconv_Atoi_ok L b (by omega) v (by rw [hb]; exact e) w) ?_
        rintro e' w' ⟨rfl, hw⟩
        refine ⟨_, rfl, ?_, .tup (.cons (.int _ _) (.cons (.any _) .nil))⟩
        rcases hw with rfl | ⟨t, rfl⟩
        · exact Below.refl _ _
        · exact Go.Joins.below_bytesWorld _ _ _ _ (Nat.le_refl _)
      | range =>
        have ev : atoiV s = Go.Lib.atoiSat s := by unfold atoiV; rw [e]
        rw [ev]
        refine calls_mono (Any.strconv_Atoi_range L b (by omega) (by rw [hb]; exact e) v2 w hc2 hv2) ?_
        rintro e' w' ⟨N, rfl, _, _, hw⟩
        rw [hb]
        exact ⟨_, rfl, hw, .tup (.cons (.int _ _) (.cons (.any _) .nil))⟩
      | _ =>
        have ev : atoiV s = 0 := by unfold atoiV; rw [e]
        rw [ev]
        refine calls_mono (Any.strconv_Atoi_syntax L b (by omega) (by rw [hb]; exact e) v1 w hc1 hv1) ?_
        rintro e' w' ⟨N, rfl, _, _, hw⟩
        exact ⟨_, rfl, hw, .tup (.cons (.int _ _) (.cons (.any _) .nil))⟩
end
theorem cut_fn (s c : List UInt8) (hs : s.length < 4294967281) : FnZ Tryd.prog 16 [.str s, .str c] (.tup [.str (Go.Lib.cut s c).1, .str (Go.Lib.cut s c).2.1, .bool (Go.Lib.cut s c).2.2]) :=
  cut_FnZ Tryd.lays145 ⟨_, Tryd.func16, rfl, rfl⟩ (by kernel_rfl) s c hs
theorem atoi_fn (s : List UInt8) (hs : s.length ≤ 2000000000) : FnZ Tryd.prog 32 [.str s] (.tup [.int .i64 (atoiV s), .any]) :=
  atoi_FnZ Tryd.laysC172 ⟨_, Tryd.func32, rfl, rfl⟩ s hs
end TL

/- Deeds read: the program and the reference, and the exact law. -/
set_option linter.unusedSimpArgs false
set_option linter.unusedVariables false
set_option maxRecDepth 100000
set_option maxHeartbeats 4000000
set_option pp.maxSteps 1500
namespace TL
open Go Go.Proofs
attribute [local simp] marksV storyV codeV Claim.v Place.v Deed.v
theorem readDeed_fn (s : List UInt8) (hl : s.length ≤ 2000000000) : FnZ Tryd.prog 17 [.str s] (optD (readD s)) := by
  have hcut := cut_fn s [32] (by omega)
  have hon : ∀ a, deedW (Go.Lib.cut s [32]).1 (Go.Lib.cut s [32]).2.1 = some a → s ≠ [] → readD s = if deedTx a = s then some a else none := fun a h => readD_on h
  have hoff : deedW (Go.Lib.cut s [32]).1 (Go.Lib.cut s [32]).2.1 = none → readD s = none := readD_off
  have hne := cutW_nil (s := s)
  have hrl := cutR_len s [32]
  have hdt : ∀ a : Deed, a.words.length ≤ 2000000000 → FnZ Tryd.prog 33 [a.v] (.str (deedTx a)) := fun a h => deedText_fn a h
  generalize (Go.Lib.cut s [32]).2.2 = f at *
  generalize (Go.Lib.cut s [32]).2.1 = r at *
  generalize (Go.Lib.cut s [32]).1 = w at *
  have hrl2 : r.length ≤ 2000000000 := by omega
  by_cases h1 : w = [115, 97, 121]
  · subst h1
    have ho := hon ⟨0, 0, r⟩ rfl (hne (by simp))
    have hd := hdt ⟨0, 0, r⟩ hrl2
    clear hon hoff hne hdt
    rw [ho]
    by_cases hx : deedTx ⟨0, 0, r⟩ = s
    · rw [hx] at hd
      rw [if_pos hx]
      refine FnZ_of (rs := [.cell 2 36, .tmp 3]) false Tryd.func17 rfl rfl rfl rfl (Nat.le_of_ble_eq_true rfl) ?_
      simp -dsimp
      refine call_ hcut (by simp -dsimp) ?_
      simp -dsimp
      refine call_ hd (by simp -dsimp) ?_
      simp -dsimp [optD]
    · rw [if_neg hx]
      refine FnZ_of (rs := [.cell 2 36, .tmp 3]) false Tryd.func17 rfl rfl rfl rfl (Nat.le_of_ble_eq_true rfl) ?_
      simp -dsimp
      refine call_ hcut (by simp -dsimp) ?_
      simp -dsimp
      refine call_ hd (by simp -dsimp) ?_
      simp -dsimp [optD, hx]
  by_cases h2 : w = [100, 114, 111, 112]
  · subst h2
    have ho := hon ⟨1, atoiV r, []⟩ rfl (hne (by simp))
    have hd := hdt ⟨1, atoiV r, []⟩ (by simp)
    have ha := atoi_fn r hrl2
    clear hon hoff hne hdt
    rw [ho]
    generalize atoiV r = num at *
    by_cases hx : deedTx ⟨1, num, []⟩ = s
    · rw [hx] at hd
      rw [if_pos hx]
      refine FnZ_of (rs := [.cell 2 36, .tmp 3]) false Tryd.func17 rfl rfl rfl rfl (Nat.le_of_ble_eq_true rfl) ?_
      simp -dsimp
      refine call_ hcut (by simp -dsimp) ?_
      simp -dsimp
      refine call_ ha (by simp -dsimp) ?_
      simp -dsimp
      refine call_ hd (by simp -dsimp) ?_
      simp -dsimp [optD]
    · rw [if_neg hx]
      refine FnZ_of (rs := [.cell 2 36, .tmp 3]) false Tryd.func17 rfl rfl rfl rfl (Nat.le_of_ble_eq_true rfl) ?_
      simp -dsimp
      refine call_ hcut (by simp -dsimp) ?_
      simp -dsimp
      refine call_ ha (by simp -dsimp) ?_
      simp -dsimp
      refine call_ hd (by simp -dsimp) ?_
      simp -dsimp [optD, hx]
  by_cases h3 : w = [112, 101, 111, 112, 108, 101]
  · subst h3
    have ho := hon ⟨2, atoiV r, []⟩ rfl (hne (by simp))
    have hd := hdt ⟨2, atoiV r, []⟩ (by simp)
    have ha := atoi_fn r hrl2
    clear hon hoff hne hdt
    rw [ho]
    generalize atoiV r = num at *
    by_cases hx : deedTx ⟨2, num, []⟩ = s
    · rw [hx] at hd
      rw [if_pos hx]
      refine FnZ_of (rs := [.cell 2 36, .tmp 3]) false Tryd.func17 rfl rfl rfl rfl (Nat.le_of_ble_eq_true rfl) ?_
      simp -dsimp
      refine call_ hcut (by simp -dsimp) ?_
      simp -dsimp
      refine call_ ha (by simp -dsimp) ?_
      simp -dsimp
      refine call_ hd (by simp -dsimp) ?_
      simp -dsimp [optD]
    · rw [if_neg hx]
      refine FnZ_of (rs := [.cell 2 36, .tmp 3]) false Tryd.func17 rfl rfl rfl rfl (Nat.le_of_ble_eq_true rfl) ?_
      simp -dsimp
      refine call_ hcut (by simp -dsimp) ?_
      simp -dsimp
      refine call_ ha (by simp -dsimp) ?_
      simp -dsimp
      refine call_ hd (by simp -dsimp) ?_
      simp -dsimp [optD, hx]
  by_cases h4 : w = [108, 101, 97, 115, 116]
  · subst h4
    have ho := hon ⟨3, 0, []⟩ rfl (hne (by simp))
    have hd := hdt ⟨3, 0, []⟩ (by simp)
    clear hon hoff hne hdt
    rw [ho]
    by_cases hx : deedTx ⟨3, 0, []⟩ = s
    · rw [hx] at hd
      rw [if_pos hx]
      refine FnZ_of (rs := [.cell 2 36, .tmp 3]) false Tryd.func17 rfl rfl rfl rfl (Nat.le_of_ble_eq_true rfl) ?_
      simp -dsimp
      refine call_ hcut (by simp -dsimp) ?_
      simp -dsimp
      refine call_ hd (by simp -dsimp) ?_
      simp -dsimp [optD]
    · rw [if_neg hx]
      refine FnZ_of (rs := [.cell 2 36, .tmp 3]) false Tryd.func17 rfl rfl rfl rfl (Nat.le_of_ble_eq_true rfl) ?_
      simp -dsimp
      refine call_ hcut (by simp -dsimp) ?_
      simp -dsimp
      refine call_ hd (by simp -dsimp) ?_
      simp -dsimp [optD, hx]
  by_cases h5 : w = [98, 97, 99, 107]
  · subst h5
    have ho := hon ⟨4, 0, []⟩ rfl (hne (by simp))
    have hd := hdt ⟨4, 0, []⟩ (by simp)
    clear hon hoff hne hdt
    rw [ho]
    by_cases hx : deedTx ⟨4, 0, []⟩ = s
    · rw [hx] at hd
      rw [if_pos hx]
      refine FnZ_of (rs := [.cell 2 36, .tmp 3]) false Tryd.func17 rfl rfl rfl rfl (Nat.le_of_ble_eq_true rfl) ?_
      simp -dsimp
      refine call_ hcut (by simp -dsimp) ?_
      simp -dsimp
      refine call_ hd (by simp -dsimp) ?_
      simp -dsimp [optD]
    · rw [if_neg hx]
      refine FnZ_of (rs := [.cell 2 36, .tmp 3]) false Tryd.func17 rfl rfl rfl rfl (Nat.le_of_ble_eq_true rfl) ?_
      simp -dsimp
      refine call_ hcut (by simp -dsimp) ?_
      simp -dsimp
      refine call_ hd (by simp -dsimp) ?_
      simp -dsimp [optD, hx]
  · have e : deedW w r = none := by unfold deedW; rw [if_neg h1, if_neg h2, if_neg h3, if_neg h4, if_neg h5]
    rw [hoff e]
    clear hon hoff hne hdt
    refine FnZ_of (rs := [.cell 2 36, .tmp 3]) false Tryd.func17 rfl rfl rfl rfl (Nat.le_of_ble_eq_true rfl) ?_
    simp -dsimp
    refine call_ hcut (by simp -dsimp) ?_
    simp -dsimp [optD, h1, h2, h3, h4, h5]
end TL

/- Journals read. -/
set_option linter.unusedSimpArgs false
set_option linter.unusedVariables false
set_option maxRecDepth 100000
set_option maxHeartbeats 4000000
set_option pp.maxSteps 1500
namespace TL
open Go Go.Proofs
attribute [local simp] marksV storyV codeV Claim.v Place.v Deed.v
def Irj (s : List UInt8) (J : List Deed × Nat) (y : S) : Prop := ∃ (pos id f : Nat) (l : List Deed), y.tm 0 = .v (.str s) ∧ y.tm 4 = .loc id ∧ id < y.n ∧ y.m id = some (.arr 36 (l.map Deed.v)) ∧ y.tm 5 = .v (.int .i64 pos) ∧ y.mu = false ∧ pos ≤ s.length ∧ l.length ≤ pos ∧
  (s.drop pos).length < f ∧ l ++ (readJF f (s.drop pos)).1 = J.1 ∧ pos + (readJF f (s.drop pos)).2 = J.2
theorem readJournal_fn (s : List UInt8) (hl : s.length ≤ 2000000000) : FnZ Tryd.prog 6 [.str s] (.tup [.sl ((readJ s).1.map Deed.v), .int .i64 (readJ s).2]) := by
  generalize hJ : readJ s = J
  refine FnZ_of (rs := [.tmp 2, .tmp 3]) false Tryd.func6 rfl rfl rfl rfl (Nat.le_of_ble_eq_true rfl) ?_
  simp -dsimp
  refine twp_loop (Irj s J) (fun y => s.length - natOf (y.tm 5)) ?_ ?_
  · exact ⟨0, 0, s.length + 1, [], by simp -dsimp, by simp -dsimp, by simp -dsimp, by simp -dsimp, by simp -dsimp, by simp -dsimp, by omega, by simp, by simp, by rw [← hJ]; rfl, by rw [← hJ]; simp [readJ]⟩
  · rintro y ⟨pos, id, f, l, t0, t4, hid, hm, t5, hmu, hpos, hll, hf, hj1, hj2⟩
    have hcut := cut_fn (s.drop pos) [10] (by rw [List.length_drop]; omega)
    have hpos' : (pos : Int) ≤ s.length := by omega
    have f1 := far hid
    have hstop : (Go.Lib.cut (s.drop pos) [10]).2.2 = false ∨ readD (Go.Lib.cut (s.drop pos) [10]).1 = none → J = (l, pos) := fun h => by
      cases f with
      | zero => simp at hf
      | succ f =>
        rw [readJF_stop h] at hj1 hj2
        obtain ⟨J1, J2⟩ := J
        simp at hj1 hj2
        rw [← hj1, ← hj2]
    have hgo : ∀ a, (Go.Lib.cut (s.drop pos) [10]).2.2 = true → readD (Go.Lib.cut (s.drop pos) [10]).1 = some a → ∃ g, pos + ((Go.Lib.cut (s.drop pos) [10]).1.length + 1) ≤ s.length ∧ (s.drop (pos + ((Go.Lib.cut (s.drop pos) [10]).1.length + 1))).length < g ∧
        (l ++ [a]) ++ (readJF g (s.drop (pos + ((Go.Lib.cut (s.drop pos) [10]).1.length + 1)))).1 = J.1 ∧ pos + ((Go.Lib.cut (s.drop pos) [10]).1.length + 1) + (readJF g (s.drop (pos + ((Go.Lib.cut (s.drop pos) [10]).1.length + 1)))).2 = J.2 := fun a h ha => by
      cases f with
      | zero => simp at hf
      | succ f =>
        rw [readJF_step h ha] at hj1 hj2
        obtain ⟨e, _⟩ := cut_found h
        have e2 : s.drop (pos + ((Go.Lib.cut (s.drop pos) [10]).1.length + 1)) = (Go.Lib.cut (s.drop pos) [10]).2.1 := by
          rw [← List.drop_drop]
          generalize Go.Lib.cut (s.drop pos) [10] = C at *
          rw [e, List.drop_append, List.drop_of_length_le (by omega)]
          have : C.1.length + 1 - C.1.length = 1 := by omega
          rw [this]; simp
        have e3 := congrArg List.length e
        rw [List.length_append, List.length_cons, List.length_drop] at e3
        have e4 := congrArg List.length e2
        rw [List.length_drop] at e4
        refine ⟨f, by omega, by rw [List.length_drop] at hf ⊢; omega, ?_, ?_⟩
        · rw [e2, ← hj1]; simp
        · rw [e2, ← hj2]; simp only; omega
    have hwl : (Go.Lib.cut (s.drop pos) [10]).1.length ≤ s.length := by
      unfold Go.Lib.cut
      split
      · simp only [List.length_take, List.length_drop]; omega
      · simp only [List.length_drop]; omega
    have hrd := readDeed_fn (Go.Lib.cut (s.drop pos) [10]).1 (by omega)
    generalize (Go.Lib.cut (s.drop pos) [10]).2.1 = r at *
    generalize (Go.Lib.cut (s.drop pos) [10]).2.2 = fd at *
    generalize (Go.Lib.cut (s.drop pos) [10]).1 = w at *
    generalize readD w = o at *
    cases fd with
    | false =>
      have hst := hstop (.inl rfl)
      rw [hst]
      simp -dsimp [t0, t5, hpos, hpos']
      refine call_ hcut (by simp -dsimp) ?_
      simp -dsimp
      refine call_ hrd (by simp -dsimp) ?_
      simp -dsimp [optD, t4, t5, hm, f1]
    | true =>
      cases o with
      | none =>
        have hst := hstop (.inr rfl)
        rw [hst]
        simp -dsimp [t0, t5, hpos, hpos']
        refine call_ hcut (by simp -dsimp) ?_
        simp -dsimp
        refine call_ hrd (by simp -dsimp) ?_
        simp -dsimp [optD, t4, t5, hm, f1]
      | some a =>
        have hg := hgo a rfl rfl
        clear hgo hstop
        refine hg.elim fun g hg => ?_
        obtain ⟨g1, g2, g3, g4⟩ := hg
        have b1 : (l.length + 1) * 32 ≤ 140737488355328 := by omega
        have w1 : IntKind.wrap .i64 ((w.length : Int) + 1) = (w.length : Int) + 1 := w64 (by omega) (by omega)
        have w2 : IntKind.wrap .i64 ((pos : Int) + ((w.length : Int) + 1)) = ((pos + (w.length + 1) : Nat) : Int) := by rw [w64 (by omega) (by omega)]; omega
        have hmu1 : s.length - (pos + (w.length + 1)) < s.length - pos := by omega
        have hT : ((pos : Int) + ((w.length : Int) + 1)).toNat = pos + (w.length + 1) := by omega
        simp -dsimp [t0, t5, hpos, hpos']
        refine call_ hcut (by simp -dsimp) ?_
        simp -dsimp
        refine call_ hrd (by simp -dsimp) ?_
        simp -dsimp [optD, t4, t5, hm, f1, hmu, b1, w1, w2, hT, hmu1, nes]
        refine st_out fun s' ht hm' hn' hu' => ?_
        have a0 := ht 0
        have a4 := ht 4
        have a5 := ht 5
        simp -dsimp [t0, w2] at a0 a4 a5 hm' hn' hu'
        clear ht
        refine ⟨pos + (w.length + 1), _, g, l ++ [a], a0, a4, by omega, ?_, a5, by rw [hu', hmu], g1, by simp; omega, g2, g3, g4⟩
        simp [hm', nes, f1]
end TL

/- Journals read into memory of the caller's own; marks in deeds. -/
set_option linter.unusedSimpArgs false
set_option linter.unusedVariables false
set_option maxRecDepth 100000
set_option maxHeartbeats 4000000
set_option pp.maxSteps 1500
namespace TL
open Go Go.Proofs
attribute [local simp] marksV storyV codeV Claim.v Place.v Deed.v
/-! The text of a mark. -/
def mtGo : Nat → Nat → List UInt8 → List UInt8
  | 0, _, acc => acc
  | f + 1, x, acc => if x = 0 then acc else mtGo f (x / 10) (UInt8.ofNat (48 + x % 10) :: acc)
def mt (k : Int) : List UInt8 := if k ≤ 0 then [109, 48] else 109 :: mtGo (k.toNat + 1) k.toNat []
def Imt (k : Nat) (e : Nat) (s : S) : Prop := ∃ (x f : Nat) (acc : List UInt8), s.tm 0 = .v (.int .i64 x) ∧ s.tm 3 = .v (.str acc) ∧ s.mu = false ∧ x < f ∧ acc.length + x ≤ k ∧ mtGo f x acc = mtGo (k + 1) k [] ∧ (e = 1 → x = 0)
theorem markText_fn (k : Int) (h9 : k ≤ 1000000000) : FnZ Tryd.prog 19 [.int .i64 k] (.str (mt k)) := by
  by_cases h0 : k ≤ 0
  · have e : mt k = [109, 48] := if_pos h0
    rw [e]
    refine FnZ_of (rs := [.tmp 2]) false Tryd.func19 rfl rfl rfl rfl (Nat.le_of_ble_eq_true rfl) ?_
    simp -dsimp [h0]
  have e : mt k = 109 :: mtGo (k.toNat + 1) k.toNat [] := if_neg h0
  rw [e]
  obtain ⟨n, rfl⟩ := Int.eq_ofNat_of_zero_le (show 0 ≤ k by omega)
  rw [Int.toNat_natCast]
  have h0' : ¬ n = 0 := by omega
  refine FnZ_of (rs := [.tmp 2]) false Tryd.func19 rfl rfl rfl rfl (Nat.le_of_ble_eq_true rfl) ?_
  simp -dsimp [h0, h0']
  refine twp_loopC (Imt n 0) (fun s => natOf (s.tm 0)) (Imt n 1) ?_ ?_ ?_
  · exact ⟨n, n + 1, [], by simp -dsimp, by simp -dsimp, by simp -dsimp, by omega, by simp, rfl, by simp⟩
  · rintro s ⟨x, f, acc, t0, t3, hmu, hf, hx, hg, hend⟩
    by_cases hx0 : x = 0
    · have hx0' : ¬ 0 < x := by omega
      simp -dsimp [t0, t3, hx0]
      exact ⟨0, f, acc, by simp -dsimp [t0, hx0], by simp -dsimp [t3], by simp -dsimp [hmu], by omega, by omega, by rw [← hg, hx0], fun _ => rfl⟩
    have hx1 : 0 < x := by omega
    have hx1' : (0 : Int) < x := by omega
    have r1 : ((x : Int)).tmod 10 = ((x % 10 : Nat) : Int) := by rw [Int.tmod_eq_emod_of_nonneg (by omega)]; omega
    have r2 : ((x : Int)).tdiv 10 = ((x / 10 : Nat) : Int) := by rw [Int.tdiv_eq_ediv_of_nonneg (by omega)]; omega
    have hms : natOf (s.tm 0) = x := by rw [t0]; simp
    have hmu1 : x / 10 < x := by omega
    have w1 : IntKind.wrap .i64 (48 + ((x % 10 : Nat) : Int)) = ((48 + x % 10 : Nat) : Int) := by rw [w64 (by omega) (by omega)]; omega
    have w2 : IntKind.wrap .u8 ((48 + x % 10 : Nat) : Int) = ((48 + x % 10 : Nat) : Int) := by
      rw [IntKind.wrap_u8]; omega
    have w3 : IntKind.wrap .i64 ((x / 10 : Nat) : Int) = ((x / 10 : Nat) : Int) := w64 (by omega) (by omega)
    cases f with
    | zero => omega
    | succ f =>
      have hg' : mtGo f (x / 10) (UInt8.ofNat (48 + x % 10) :: acc) = mtGo (n + 1) n [] := by rw [← hg]; exact (if_neg hx0).symm
      have hyz : x % 10 ≤ 9 ∧ x / 10 + 1 ≤ x := by omega
      have la : (1 : Int) + (acc.length : Int) ≤ 9223372036854775807 := by omega
      have w4 : IntKind.wrap .u8 (48 + ((x % 10 : Nat) : Int)) = ((48 + x % 10 : Nat) : Int) := by rw [IntKind.wrap_u8]; omega
      generalize x % 10 = y at *
      generalize x / 10 = z at *
      have w5 : IntKind.wrap .i64 (48 + (y : Int)) = 48 + (y : Int) := by rw [w1]; omega
      have w6 : (IntKind.wrap .u8 (48 + (y : Int))).toNat = 48 + y := by rw [w4]; omega
      simp -dsimp [t0, t3, hx1, hx1', hmu, r1, r2, w5, w6, w3, la, hms, hmu1]
      exact ⟨z, f, UInt8.ofNat (48 + y) :: acc, by simp -dsimp, by simp -dsimp, by simp -dsimp [hmu], by omega, by simp; omega, hg', by simp⟩
  · rintro s ⟨x, f, acc, t0, t3, hmu, hf, hx, hg, hend⟩
    have := hend rfl
    subst this
    cases f with
    | zero => omega
    | succ f =>
      have e : mtGo (f + 1) 0 acc = acc := if_pos rfl
      rw [e] at hg
      have la : (1 : Int) + ((mtGo (n + 1) n []).length : Int) ≤ 9223372036854775807 := by rw [← hg]; omega
      simp -dsimp [t3, hg, la]
/-! Deeds as cells that may change. -/
def deT : List Deed → List T
  | [] => []
  | a :: l => .v (.int .i64 a.kind) :: .v (.int .i64 a.num) :: .v (.str a.words) :: deT l
@[simp] theorem deT_nil : deT [] = [] := rfl
theorem deT_append (a b : List Deed) : deT (a ++ b) = deT a ++ deT b := by
  induction a with
  | nil => rfl
  | cons x xs ih => simp [deT, ih]
@[simp] theorem deT_length (a : List Deed) : (deT a).length = a.length * 3 := by
  induction a with
  | nil => rfl
  | cons x xs ih => simp [deT, ih]; omega
@[simp] theorem deT_take (a : List Deed) : (deT a).take (a.length * 3) = deT a := List.take_of_length_le (by simp)
@[simp] theorem deT_cells (a : List Deed) : allC (deT a) := by
  induction a with
  | nil => simp
  | cons x xs ih => simp [deT]; exact ih
theorem deT_bor (k : Bool) (m : Mem) (d : Nat) (l : List Deed) : mapO (bor k m d) (deT l) = some (l.flatMap fun a => a.v.cells) := by
  induction l with
  | nil => rfl
  | cons p l ih => simp [deT, mapO, ih, V.cells]
theorem deV_cell (l : List Deed) : ∀ x ∈ (l.flatMap fun a => a.v.cells), x.cell = true := by
  intro x hx
  obtain ⟨p, _, hp⟩ := List.mem_flatMap.1 hx
  simp [V.cells] at hp
  rcases hp with rfl | rfl | rfl <;> rfl
theorem deV_chunk (l : List Deed) : chunk 3 l.length (l.flatMap fun a => a.v.cells) = l.map Deed.v := by
  induction l with
  | nil => rfl
  | cons x xs ih => simp [chunk, V.cells]; simpa [V.cells] using ih
theorem bor_deeds {m : Mem} {i e : Nat} {l : List Deed} (d : Nat) (h : m i = some (.box e 3 (deT l))) : bor true m (d + 1) (.sv i 0 l.length) = some (.sl (l.map Deed.v)) := by
  have c1 : 0 + l.length * 3 ≤ (deT l).length := by simp
  show (match m i with | some (.box _ z cs) => tst (0 + l.length * z ≤ cs.length) (obind (mapO (TL.bor true m d) ((cs.drop 0).take (l.length * z))) fun xs => tst (∀ x ∈ xs, x.cell = true) (some (V.sl (chunk z l.length xs)))) | _ => none) = _
  rw [h]
  show tst (0 + l.length * 3 ≤ (deT l).length) (obind (mapO (TL.bor true m d) (((deT l).drop 0).take (l.length * 3))) fun xs => tst (∀ x ∈ xs, x.cell = true) (some (V.sl (chunk 3 l.length xs)))) = _
  rw [tst_pos c1, List.drop_zero, deT_take, deT_bor, obind_some, tst_pos (deV_cell l), deV_chunk]
theorem deT_set (y : Deed) : ∀ (l : List Deed) (i : Nat), i < l.length → (((deT l).set (i * 3) (.v (.int .i64 y.kind))).set (i * 3 + 1) (.v (.int .i64 y.num))).set (i * 3 + 2) (.v (.str y.words)) = deT (l.set i y)
  | [], i, h => by simp at h
  | a :: l, 0, h => rfl
  | a :: l, i + 1, h => by
    have e : (i + 1) * 3 = i * 3 + 1 + 1 + 1 := by omega
    rw [e]
    show T.v _ :: T.v _ :: T.v _ :: (((deT l).set (i * 3) _).set (i * 3 + 1) _).set (i * 3 + 2) _ = T.v _ :: T.v _ :: T.v _ :: deT (l.set i y)
    rw [deT_set y l i (by simpa using h)]
/-- Deeds that bear marks, from k on. -/
def mkd (k : Int) : Nat → List Deed
  | 0 => []
  | n + 1 => mkd k n ++ [⟨k + 3 * n, k + 3 * n + 1, mt (k + 3 * n + 2)⟩]
@[simp] theorem mkd_length (k : Int) (n : Nat) : (mkd k n).length = n := by
  induction n with
  | zero => rfl
  | succ n ih => simp [mkd, ih]
theorem mkd_get (k : Int) : ∀ (n i : Nat) (h : i < n), (mkd k n)[i]? = some ⟨k + 3 * i, k + 3 * i + 1, mt (k + 3 * i + 2)⟩
  | n + 1, i, h => by
    unfold mkd
    by_cases hi : i < n
    · rw [List.getElem?_append_left (by simpa using hi)]; exact mkd_get k n i hi
    · have : i = n := by omega
      subst this
      rw [List.getElem?_append_right (by simp)]; simp
theorem mkd_step (k : Int) (l : List Deed) (i : Nat) (h : i < l.length) : (mkd k i ++ l.drop i).set i ⟨k + 3 * i, k + 3 * i + 1, mt (k + 3 * i + 2)⟩ = mkd k (i + 1) ++ l.drop (i + 1) := by
  rw [List.set_append_right _ _ (by simp), mkd_length, Nat.sub_self, drop_cons h, List.set_cons_zero]
  simp [mkd]
def Imd (id : Nat) (l : List Deed) (k : Int) (m0 : Mem) (n0 : Nat) (e : Nat) (s : S) : Prop := ∃ i : Nat, s.tm 0 = .sv id 0 l.length ∧ s.tm 1 = .v (.int .i64 (k + 3 * i)) ∧ s.tm 5 = .v (.int .i64 i) ∧ i ≤ l.length ∧ n0 ≤ s.n ∧ s.m = updM m0 id (some (.box 36 3 (deT (mkd k i ++ l.drop i)))) ∧ (e = 1 → i = l.length)
theorem markDeedS_fn (l : List Deed) (k : Int) (hl : l.length ≤ 2000000) (hk0 : 0 ≤ k) (hk : k ≤ 1000000) (m : Mem) (n id : Nat) (hm : m id = some (.box 36 3 (deT l))) :
    FnS Tryd.prog 8 m n [.sv id 0 l.length, .v (.int .i64 k)] (fun t m' n' => t = .v (.int .i64 (k + 3 * l.length)) ∧ n ≤ n' ∧ m' = updM m id (some (.box 36 3 (deT (mkd k l.length))))) := by
  refine FnS_of (rs := [.tmp 4]) false Tryd.func8 rfl rfl rfl rfl (Nat.le_of_ble_eq_true rfl) ?_
  simp -dsimp
  refine twp_loopC (Imd id l k m n 0) (fun s => l.length - natOf (s.tm 5)) (Imd id l k m n 1) ?_ ?_ ?_
  · exact ⟨0, by simp -dsimp, by simp -dsimp, by simp -dsimp, by omega, by simp -dsimp, by simp -dsimp [mkd]; exact (updM_self hm).symm, by simp⟩
  · rintro s ⟨i, t0, t1, t5, hi, hn, hmm, hend⟩
    by_cases hlt : i < l.length
    case neg =>
      simp -dsimp [t0, t5, hlt]
      exact ⟨i, by simp -dsimp [t0], by simp -dsimp [t1], by simp -dsimp [t5], hi, by simp -dsimp [hn], by simp -dsimp [hmm], fun _ => by omega⟩
    have hL : (mkd k i ++ l.drop i).length = l.length := by simp; omega
    have hset := deT_set ⟨k + 3 * i, k + 3 * i + 1, mt (k + 3 * i + 2)⟩ (mkd k i ++ l.drop i) i (by omega)
    rw [mkd_step k l i hlt] at hset
    simp only at hset
    have hmi : s.m id = some (.box 36 3 (deT (mkd k i ++ l.drop i))) := by rw [hmm, updM_same]
    have hlen1 : (deT (mkd k i ++ l.drop i)).length = l.length * 3 := by rw [deT_length, hL]
    have hmt := markText_fn (k + 3 * i + 2) (by omega)
    have wi : IntKind.wrap .i64 ((i : Int) + 1) = ((i + 1 : Nat) : Int) := by rw [w64 (by omega) (by omega)]; omega
    have w1 : IntKind.wrap .i64 (k + 3 * i + 1) = k + 3 * i + 1 := w64 (by omega) (by omega)
    have w2 : IntKind.wrap .i64 (k + 3 * i + 1 + 1) = k + 3 * i + 2 := by rw [w64 (by omega) (by omega)]; omega
    have w3 : IntKind.wrap .i64 (k + 3 * i + 2 + 1) = k + 3 * ((i + 1 : Nat) : Int) := by rw [w64 (by omega) (by omega)]; omega
    have hmu : l.length - (i + 1) < l.length - i := by omega
    have hlt' : (i : Int) < (l.length : Int) := by omega
    have o0 : i * 3 < l.length * 3 := by omega
    have o1 : i * 3 + 1 ≤ l.length * 3 := by omega
    have o2 : i * 3 + 1 + 1 ≤ l.length * 3 := by omega
    have o3 : i * 3 + 2 + 1 ≤ l.length * 3 := by omega
    have o4 : i * 3 + 1 < l.length * 3 := by omega
    have o5 : i * 3 + 2 < l.length * 3 := by omega
    generalize mt (k + 3 * i + 2) = tx at *
    generalize deT (mkd k i ++ l.drop i) = c1 at *
    generalize hc3 : deT (mkd k (i + 1) ++ l.drop (i + 1)) = c3 at *
    simp -dsimp [t0, t1, t5, hlt, hlt', hmi, hlen1, setAt, w1, w2, wi, hmu, o0, o1, o2, o3, o4, o5]
    refine call_ hmt (by simp -dsimp) ?_
    simp -dsimp [t0, t1, t5, hlt, hlt', hmi, hlen1, setAt, hset, w1, w2, w3, wi, hmu, o0, o1, o2, o3, o4, o5]
    refine st_out fun s' ht hm' hn' hu' => ?_
    have a0 := ht 0
    have a1 := ht 1
    have a5 := ht 5
    simp -dsimp [t0] at a0 a1 a5 hm' hn' hu'
    clear ht
    refine ⟨i + 1, a0, by rw [a1]; congr 3, a5, by omega, by omega, ?_, by simp⟩
    rw [hm', hmm, hc3]; simp
  · rintro s ⟨i, t0, t1, t5, hi, hn, hmm, hend⟩
    have hil := hend rfl
    rw [hil, List.drop_length, List.append_nil] at hmm
    rw [hil] at t1
    simp -dsimp [t1]
    exact ⟨hn, hmm⟩
end TL

/- The exact laws of the texts of places, and of new stores. -/
set_option linter.unusedSimpArgs false
set_option linter.unusedVariables false
set_option maxRecDepth 100000
set_option maxHeartbeats 4000000
set_option pp.maxSteps 1500
namespace TL
open Go Go.Proofs
attribute [local simp] marksV storyV codeV Claim.v Place.v Deed.v
structure Store where
  saved : List UInt8
  log : List UInt8
  sure : Int
  deriving DecidableEq
def Store.v (s : Store) : V := .agg [.str s.saved, .str s.log, .int .i64 s.sure]
def noStore : Store := ⟨[], [], 0⟩
noncomputable def storeNew (p : Place) : Store := if placeOk p = true then ⟨placeTx p, [], 0⟩ else noStore
theorem place_ready {p : Place} (h : p.fit ∧ p.mid) (hz : ¬ (1048576 : Int) - p.bulk < 0) : p.small ∧ p.fine := by
  have hs := Place.small_of hz
  exact ⟨hs, by have := hs.1; omega, fun c hc => ⟨(h.1.2 c hc).2, by have := hs.2 c hc; unfold Claim.small at this; omega⟩⟩
end TL

/- Stores: whether they are sound, what a crash leaves, what a sync makes. -/
set_option linter.unusedSimpArgs false
set_option linter.unusedVariables false
set_option maxRecDepth 100000
set_option maxHeartbeats 4000000
set_option pp.maxSteps 1500
namespace TL
open Go Go.Proofs
attribute [local simp] marksV storyV codeV Claim.v Place.v Store.v
noncomputable def storeOk (s : Store) : Bool := (readP s.saved).isSome && decide (s.log.length ≤ 1000) && decide (0 ≤ s.sure) && decide (s.sure ≤ s.log.length)
def Store.small (s : Store) : Prop := s.saved.length ≤ 2000000000 ∧ s.log.length ≤ 2000000000
noncomputable def crashOk (s : Store) (k : Int) : Bool := storeOk s && (decide (s.sure ≤ k) && decide (k ≤ s.log.length))
noncomputable def storeCrash (s : Store) (k : Int) : Store := if crashOk s k = true then ⟨s.saved, s.log.take k.toNat, s.sure⟩ else noStore
theorem storeOk_sure {s : Store} (h : storeOk s = true) : 0 ≤ s.sure := by
  simp only [storeOk, Bool.and_eq_true, decide_eq_true_eq] at h; exact h.1.2
noncomputable def storeSync (s : Store) : Store := if storeOk s = true then ⟨s.saved, s.log, s.log.length⟩ else noStore
/-! The exact laws. -/
def Store.bulk (s : Store) : Nat := s.saved.length + s.log.length
def Store.mid (s : Store) : Prop := s.saved.length ≤ 9223372036854775807 ∧ s.log.length ≤ 9223372036854775807
theorem store_ready {s : Store} (hz : ¬ szR 1048576 s.bulk < 0) : s.small := by
  unfold szR Store.bulk at hz
  split at hz
  · omega
  · exact ⟨by omega, by omega⟩
end TL

/- Tables of worlds as numbers. -/
set_option linter.unusedSimpArgs false
set_option linter.unusedVariables false
set_option maxRecDepth 100000
set_option maxHeartbeats 4000000
set_option pp.maxSteps 1500
namespace TL
open Go Go.Proofs
attribute [local simp] marksV storyV codeV Claim.v Place.v
/-- The table of all worlds below n for which something holds. -/
def tabN : Nat → (Nat → Bool) → Nat
  | 0, _ => 0
  | n + 1, f => if f n then tabN n f ||| 2 ^ n else tabN n f
theorem tabN_lt (f : Nat → Bool) : ∀ n, tabN n f < 2 ^ n
  | 0 => by simp [tabN]
  | n + 1 => by
    have h := tabN_lt f n
    have h2 : 2 ^ n < 2 ^ (n + 1) := Nat.pow_lt_pow_right (by omega) (by omega)
    unfold tabN; split
    · exact Nat.or_lt_two_pow (by omega) h2
    · omega
theorem testBit_tabN (f : Nat → Bool) (i : Nat) : ∀ n, (tabN n f).testBit i = (decide (i < n) && f i)
  | 0 => by simp [tabN]
  | n + 1 => by
    have ih := testBit_tabN f i n
    unfold tabN
    split
    · rename_i hf
      rw [Nat.testBit_or, ih, Nat.testBit_two_pow]
      by_cases h : n = i
      · subst h; simp [hf]
      · have : (i < n + 1) ↔ (i < n) := by omega
        simp [h, this]
    · rename_i hf
      rw [ih]
      by_cases h : n = i
      · subst h; simp [hf]
      · have : (i < n + 1) ↔ (i < n) := by omega
        simp [this]
theorem and_nat {a b : Nat} (ha : a < 4611686018427387904) (hb : b < 4611686018427387904) : IntKind.wrap .i64 ((((a : Int) % 2 ^ IntKind.i64.bits).toNat &&& ((b : Int) % 2 ^ IntKind.i64.bits).toNat : Nat) : Int) = ((a &&& b : Nat) : Int) := by
  have e1 : ((a : Int) % 2 ^ IntKind.i64.bits).toNat = a := by simp only [IntKind.bits]; omega
  have e2 : ((b : Int) % 2 ^ IntKind.i64.bits).toNat = b := by simp only [IntKind.bits]; omega
  have h : a &&& b ≤ a := Nat.and_le_left
  rw [e1, e2, w64 (by omega) (by omega)]
theorem or_nat {a b : Nat} (ha : a < 4611686018427387904) (hb : b < 4611686018427387904) : IntKind.wrap .i64 ((((a : Int) % 2 ^ IntKind.i64.bits).toNat ||| ((b : Int) % 2 ^ IntKind.i64.bits).toNat : Nat) : Int) = ((a ||| b : Nat) : Int) := by
  have e1 : ((a : Int) % 2 ^ IntKind.i64.bits).toNat = a := by simp only [IntKind.bits]; omega
  have e2 : ((b : Int) % 2 ^ IntKind.i64.bits).toNat = b := by simp only [IntKind.bits]; omega
  have h : a ||| b < 2 ^ 62 := Nat.or_lt_two_pow (by omega) (by omega)
  rw [e1, e2, w64 (by omega) (by omega)]
theorem and_nn {a b : Nat} (ha : a < 4611686018427387904) (hb : b < 4611686018427387904) : IntKind.wrap .i64 ((a % 2 ^ IntKind.i64.bits &&& b % 2 ^ IntKind.i64.bits : Nat) : Int) = ((a &&& b : Nat) : Int) := by
  have e1 : a % 2 ^ IntKind.i64.bits = a := Nat.mod_eq_of_lt (by simp only [IntKind.bits]; omega)
  have e2 : b % 2 ^ IntKind.i64.bits = b := Nat.mod_eq_of_lt (by simp only [IntKind.bits]; omega)
  rw [e1, e2, w64 (by omega) (by have : a &&& b ≤ a := Nat.and_le_left; omega)]
theorem and_ni {a b : Nat} {x : Int} (hx : x = b) (ha : a < 4611686018427387904) (hb : b < 4611686018427387904) : IntKind.wrap .i64 ((a % 2 ^ IntKind.i64.bits &&& (x % 2 ^ IntKind.i64.bits).toNat : Nat) : Int) = ((a &&& b : Nat) : Int) := by
  subst hx
  have e2 : ((b : Int) % 2 ^ IntKind.i64.bits).toNat = b % 2 ^ IntKind.i64.bits := by simp only [IntKind.bits]; omega
  rw [e2, and_nn ha hb]
theorem or_nn {a b : Nat} (ha : a < 4611686018427387904) (hb : b < 4611686018427387904) : IntKind.wrap .i64 ((a % 2 ^ IntKind.i64.bits ||| b % 2 ^ IntKind.i64.bits : Nat) : Int) = ((a ||| b : Nat) : Int) := by
  have e1 : a % 2 ^ IntKind.i64.bits = a := Nat.mod_eq_of_lt (by simp only [IntKind.bits]; omega)
  have e2 : b % 2 ^ IntKind.i64.bits = b := Nat.mod_eq_of_lt (by simp only [IntKind.bits]; omega)
  rw [e1, e2, w64 (by omega) (by have : a ||| b < 2 ^ 62 := Nat.or_lt_two_pow (by omega) (by omega); omega)]
theorem or_ni {a b : Nat} {x : Int} (hx : x = b) (ha : a < 4611686018427387904) (hb : b < 4611686018427387904) : IntKind.wrap .i64 ((a % 2 ^ IntKind.i64.bits ||| (x % 2 ^ IntKind.i64.bits).toNat : Nat) : Int) = ((a ||| b : Nat) : Int) := by
  subst hx
  have e2 : ((b : Int) % 2 ^ IntKind.i64.bits).toNat = b % 2 ^ IntKind.i64.bits := by simp only [IntKind.bits]; omega
  rw [e2, or_nn ha hb]
def tableOk (people t : Int) : Bool := peopleOk people && decide (0 ≤ t) && decide (t < 2 ^ (2 ^ people.toNat))
def Itb (N : Nat) (f : Nat) (cap : List V) (g : Nat → Bool) (e : Nat) (s : S) : Prop := ∃ w : Nat, s.tm 1 = .v (.fn f cap) ∧ s.tm 8 = .v (.int .i64 N) ∧ s.tm 9 = .v (.int .i64 w) ∧ s.tm 5 = .v (.int .i64 (tabN w g)) ∧ w ≤ N ∧ (e = 1 → w = N)
end TL

/- Asked tables. -/
set_option linter.unusedSimpArgs false
set_option linter.unusedVariables false
set_option maxRecDepth 100000
set_option maxHeartbeats 4000000
set_option pp.maxSteps 1500
namespace TL
open Go Go.Proofs
attribute [local simp] marksV storyV codeV Claim.v Place.v
def sameKind (who whom : Nat) (yes : Bool) (w : Nat) : Bool := (w.testBit who == w.testBit whom) == yes
@[simp] theorem bor_ptr (m : Mem) (d id : Nat) : bor true m (d + 1) (.ptr id 0) = match m id with
    | some (.box _ _ cs) => obind (mapO (bor true m d) cs) fun xs => tst (∀ x ∈ xs, x.cell = true) (some (.ref xs))
    | _ => none := by
  conv => lhs; unfold bor
  simp only [if_true]
  cases m id with
  | none => rfl
  | some b => cases b <;> rfl
theorem shr_nat (w i : Nat) (hi : i < 60) : (w : Int).fdiv (2 ^ min i IntKind.i64.bits) = ((w / 2 ^ i : Nat) : Int) := by
  have e : min i IntKind.i64.bits = i := Nat.min_eq_left (by simp [IntKind.bits]; omega)
  have e2 : ((2 ^ i : Nat) : Int) = (2 : Int) ^ i := by simp
  rw [e, ← e2, Int.fdiv_eq_ediv_of_nonneg _ (Int.natCast_nonneg _)]
  rfl
theorem div_bit (w i : Nat) : w / 2 ^ i % 2 = if w.testBit i then 1 else 0 := by
  rw [Nat.testBit_eq_decide_div_mod_eq]
  have := Nat.mod_two_eq_zero_or_one (w / 2 ^ i)
  rcases this with h | h <;> simp [h]
theorem bit1 (w i : Nat) (hw : w < 4611686018427387904) (hi : i < 60) : IntKind.wrap .i64 ((((w : Int).fdiv (2 ^ min i IntKind.i64.bits) % 2 ^ IntKind.i64.bits).toNat &&& 1 % 2 ^ IntKind.i64.bits : Nat) : Int) = if w.testBit i then 1 else 0 := by
  rw [shr_nat w i hi]
  have h1 : w / 2 ^ i ≤ w := Nat.div_le_self _ _
  have e1 : (((w / 2 ^ i : Nat) : Int) % 2 ^ IntKind.i64.bits).toNat = w / 2 ^ i := by
    generalize w / 2 ^ i = q at *
    simp only [IntKind.bits]; omega
  have e2 : 1 % 2 ^ IntKind.i64.bits = 1 := by rfl
  rw [e1, e2, Nat.and_one_is_mod, div_bit]
  split <;> rfl
theorem bit2 (w i : Nat) (hi : i < 60) : ((w : Int).fdiv (2 ^ min i IntKind.i64.bits)).tmod 2 = if w.testBit i then 1 else 0 := by
  rw [shr_nat w i hi, Int.tmod_eq_emod_of_nonneg (Int.natCast_nonneg _)]
  have : ((w / 2 ^ i : Nat) : Int) % 2 = ((w / 2 ^ i % 2 : Nat) : Int) := by omega
  rw [this, div_bit]
  split <;> rfl
/-- The table of the worlds in which one says of another one so. -/
def askMask (p who whom : Nat) (yes : Bool) : Nat := tabN (2 ^ p) (sameKind who whom yes)
def asked (people t who whom : Int) (yes : Bool) : Int :=
  if tableOk people t = true ∧ 0 ≤ who ∧ who < people ∧ 0 ≤ whom ∧ whom < people then ((t.toNat &&& askMask people.toNat who.toNat whom.toNat yes : Nat) : Int) else -1
theorem tableOk_spec {people t : Int} (h : tableOk people t = true) : ∃ p n : Nat, people = p ∧ t = n ∧ 1 ≤ p ∧ p ≤ 4 ∧ n < 2 ^ 2 ^ p := by
  simp only [tableOk, peopleOk, Bool.and_eq_true, decide_eq_true_eq] at h
  obtain ⟨⟨⟨h1, h2⟩, h3⟩, h4⟩ := h
  refine ⟨people.toNat, t.toNat, by omega, by omega, by omega, by omega, ?_⟩
  generalize people.toNat = p at *
  have e : ((2 ^ 2 ^ p : Nat) : Int) = (2 : Int) ^ 2 ^ p := by simp
  rw [← e] at h4; omega
theorem table_small {p n : Nat} (hp : p ≤ 4) (h : n < 2 ^ 2 ^ p) : n < 65536 := by
  have : 2 ^ p ≤ 2 ^ 4 := Nat.pow_le_pow_right (by omega) hp
  have : 2 ^ 2 ^ p ≤ 2 ^ 2 ^ 4 := Nat.pow_le_pow_right (by omega) this
  have : (2 : Nat) ^ 2 ^ 4 = 65536 := by decide
  omega
end TL

/- Asked tables: the reference. -/
set_option linter.unusedSimpArgs false
set_option linter.unusedVariables false
set_option maxRecDepth 100000
set_option maxHeartbeats 4000000
set_option pp.maxSteps 1500
namespace TL
open Go Go.Proofs
attribute [local simp] marksV storyV codeV Claim.v Place.v
def Ia13 (N n who whom : Nat) (people : Int) (yes : Bool) (g : Nat → Bool) (e : Nat) (s : S) : Prop := ∃ w : Nat, s.tm 0 = .v (.int .i64 people) ∧ s.tm 1 = .v (.int .i64 n) ∧ s.tm 2 = .v (.int .i64 who) ∧ s.tm 3 = .v (.int .i64 whom) ∧ s.tm 4 = .v (.bool yes) ∧ s.tm 12 = .v (.int .i64 w) ∧ s.tm 11 = .v (.int .i64 (tabN w g)) ∧ w ≤ N ∧ (e = 1 → w = N)
theorem shl_fact {w : Nat} (h : w < 60) : IntKind.wrap .i64 (2 ^ min w IntKind.i64.bits) = (2 : Int) ^ w := by
  have h1 : (2 : Nat) ^ w ≤ 2 ^ 59 := Nat.pow_le_pow_right (by omega) (by omega)
  have e : ((2 ^ w : Nat) : Int) = (2 : Int) ^ w := by simp
  have h3 := Int.natCast_nonneg (2 ^ w)
  have h4 : ((2 ^ w : Nat) : Int) ≤ ((2 ^ 59 : Nat) : Int) := Int.ofNat_le.mpr h1
  rw [Nat.min_eq_left (by simp [IntKind.bits]; omega), ← e]
  generalize ((2 ^ w : Nat) : Int) = q at *
  rw [w64 (by omega) (by omega)]
end TL

/- Majorities, turned tables, drawn tables. -/
set_option linter.unusedSimpArgs false
set_option linter.unusedVariables false
set_option maxRecDepth 100000
set_option maxHeartbeats 4000000
set_option pp.maxSteps 1500
namespace TL
open Go Go.Proofs
attribute [local simp] marksV storyV codeV Claim.v Place.v
/-- How many bits are set. -/
def cnt (n : Nat) : Nat := if h : n = 0 then 0 else n % 2 + cnt (n / 2)
theorem cnt_step {n : Nat} (h : 0 < n) : cnt n = n % 2 + cnt (n / 2) := by rw [cnt, dif_neg (by omega)]
theorem cnt_zero : cnt 0 = 0 := by rw [cnt]; rfl
def Ihd (w : Nat) (e : Nat) (s : S) : Prop := ∃ x q : Nat, s.tm 0 = .v (.int .i64 x) ∧ s.tm 3 = .v (.int .i64 q) ∧ q + cnt x = cnt w ∧ q + x ≤ w ∧ (e = 1 → x = 0)
def majOf (p : Nat) : Nat := tabN (2 ^ p) fun w => decide (p < 2 * cnt w)
def majority (people : Int) : Int := if peopleOk people then (majOf people.toNat : Int) else -1
theorem cnt_le (w : Nat) : cnt w ≤ w := by
  induction w using Nat.strongRecOn with
  | _ w ih =>
    by_cases h : 0 < w
    · rw [cnt_step h]; have := ih (w / 2) (by omega); omega
    · have : w = 0 := by omega
      subst this; rw [cnt_zero]; omega
theorem peopleOk_spec {people : Int} (h : peopleOk people = true) : ∃ p : Nat, people = p ∧ 1 ≤ p ∧ p ≤ 4 := by
  simp only [peopleOk, Bool.and_eq_true, decide_eq_true_eq] at h
  exact ⟨people.toNat, by omega, by omega, by omega⟩
def Imaj (N : Nat) (p : Nat) (g : Nat → Bool) (e : Nat) (s : S) : Prop := ∃ w : Nat, s.tm 0 = .v (.int .i64 p) ∧ s.tm 4 = .v (.int .i64 w) ∧ s.tm 3 = .v (.int .i64 (tabN w g)) ∧ w ≤ N ∧ (e = 1 → w = N)
/-- The table in which everybody is the other way. -/
def turned (p n : Nat) : Nat := tabN (2 ^ p) fun j => n.testBit (2 ^ p - 1 - j)
def Itn (N n : Nat) (p : Nat) (e : Nat) (s : S) : Prop := ∃ w : Nat, s.tm 0 = .v (.int .i64 p) ∧ s.tm 1 = .v (.int .i64 n) ∧ s.tm 6 = .v (.int .i64 w) ∧ s.tm 5 = .v (.int .i64 (tabN N fun j => decide (N - 1 - j < w) && n.testBit (N - 1 - j))) ∧ w ≤ N ∧ (e = 1 → w = N)
theorem turn_step {N n w : Nat} (hw : w < N) : (tabN N fun j => decide (N - 1 - j < w + 1) && n.testBit (N - 1 - j)) = (tabN N fun j => decide (N - 1 - j < w) && n.testBit (N - 1 - j)) ||| ((if n.testBit w then 1 else 0) * 2 ^ (N - 1 - w)) := by
  apply Nat.eq_of_testBit_eq
  intro i
  rw [Nat.testBit_or, testBit_tabN, testBit_tabN]
  by_cases h1 : i < N
  · by_cases h2 : i = N - 1 - w
    · subst h2
      have e1 : N - 1 - (N - 1 - w) = w := by omega
      rw [e1]
      cases n.testBit w <;> simp [h1]
    · have e2 : (N - 1 - i < w + 1) ↔ (N - 1 - i < w) := by omega
      have e3 : ((if n.testBit w then 1 else 0) * 2 ^ (N - 1 - w)).testBit i = false := by
        cases n.testBit w
        · simp
        · simp [Nat.testBit_two_pow]; omega
      rw [e3]; simp [e2]
  · have e3 : ((if n.testBit w then 1 else 0) * 2 ^ (N - 1 - w)).testBit i = false := by
      cases n.testBit w
      · simp
      · simp [Nat.testBit_two_pow]; omega
    rw [e3]; simp [h1]
/-- Two numbers. -/
def SomeTwo (x : V) : Prop := ∃ a b : Int, x = .tup [.int .i64 a, .int .i64 b]
/-- A number of people, a table, two of them and an answer. -/
def SomeAsk (x : V) : Prop := ∃ (a b c d : Int) (e : Bool), x = .tup [.int .i64 a, .int .i64 b, .int .i64 c, .int .i64 d, .bool e]
end TL

/- Terms in a world. -/
set_option linter.unusedSimpArgs false
set_option linter.unusedVariables false
set_option maxRecDepth 100000
set_option maxHeartbeats 4000000
set_option pp.maxSteps 1500
namespace TL
open Go Go.Proofs
attribute [local simp] marksV storyV codeV Claim.v Place.v
theorem cnt_vals : cnt 0 = 0 ∧ cnt 1 = 1 ∧ cnt 2 = 1 ∧ cnt 3 = 2 ∧ cnt 4 = 1 ∧ cnt 5 = 2 ∧ cnt 6 = 2 ∧ cnt 7 = 3 ∧ cnt 8 = 1 ∧ cnt 9 = 2 ∧ cnt 10 = 2 ∧ cnt 11 = 3 ∧ cnt 12 = 2 ∧ cnt 13 = 3 ∧ cnt 14 = 3 ∧ cnt 15 = 4 := by simp [cnt]
/-- What a term's last part is, the parts' answers last one first. -/
def runStep (w : Nat) (m : Mark) (r : List Bool) : List Bool :=
  if m.kind = 0 then w.testBit m.num.toNat :: r
  else if m.kind = 1 then decide (m.num ≤ cnt w) :: r
  else if m.kind = 2 then match r with
    | b :: r => (!b) :: r
    | [] => []
  else match r with
    | b :: a :: r => (if m.kind = 3 then a && b else if m.kind = 4 then a || b else a == b) :: r
    | _ => []
def runR (w : Nat) (r : List Bool) (t : List Mark) : List Bool := t.foldl (fun r m => runStep w m r) r
def truth (t : List Mark) (w : Nat) : Bool := (runR w [] t).headD false
def stkT (l : List Bool) : List T := l.map fun b => .v (.bool b)
theorem runStep_length {people : Int} {w : Nat} {m : Mark} {r : List Bool} {q : Nat} (h : markStep people r.length m = some q) : (runStep w m r).length = q := by
  unfold markStep at h; unfold runStep
  by_cases k0 : m.kind = 0
  · rw [if_pos k0] at h ⊢
    split at h
    · cases h; simp
    · cases h
  by_cases k1 : m.kind = 1
  · rw [if_neg k0, if_pos k1] at h ⊢
    split at h
    · cases h; simp
    · cases h
  by_cases k2 : m.kind = 2
  · rw [if_neg k0, if_neg k1, if_pos k2] at h ⊢
    split at h
    · cases h
      cases r with
      | nil => simp at *
      | cons b r => simp
    · cases h
  rw [if_neg k0, if_neg k1, if_neg k2] at h ⊢
  split at h
  · split at h
    · cases h
      match r with
      | [] => simp at *
      | [b] => simp at *
      | b :: a :: r => simp
    · cases h
  · cases h
theorem runR_length {people : Int} {w : Nat} : ∀ {t : List Mark} {r : List Bool} {q : Nat}, marksRun people r.length t = some q → (runR w r t).length = q
  | [], r, q, h => by cases h; rfl
  | m :: t, r, q, h => by
    simp only [marksRun] at h
    cases e : markStep people r.length m with
    | none => rw [e] at h; cases h
    | some q' =>
      rw [e] at h
      have hl := runStep_length (w := w) e
      have : marksRun people (runStep w m r).length t = some q := by rw [hl]; exact h
      exact runR_length (t := t) this
/-- The row of answers on the way. -/
def Ihs (people : Int) (w : Nat) (t : List Mark) (e : Nat) (s : S) : Prop := ∃ (i id : Nat) (r : List Bool) (cs ex : List T), s.tm 1 = .v (.int .i64 w) ∧ s.tm 12 = .v (.sl (t.map Mark.v)) ∧ s.tm 13 = .v (.int .i64 t.length) ∧ s.tm 14 = .v (.int .i64 i) ∧ s.tm 5 = .sv id 0 r.length ∧ s.mu = true ∧
  id < s.n ∧ s.m id = some (.box 4 1 cs) ∧ cs = stkT r.reverse ++ ex ∧ i ≤ t.length ∧ r.length ≤ i ∧ marksRun people r.length (t.drop i) = some 1 ∧ runR w r (t.drop i) = runR w [] t ∧ (e = 1 → i = t.length)
theorem stkT_append (a b : List Bool) : stkT (a ++ b) = stkT a ++ stkT b := by simp [stkT]
end TL

/- Desks. -/
set_option linter.unusedSimpArgs false
set_option linter.unusedVariables false
set_option maxRecDepth 100000
set_option maxHeartbeats 4000000
set_option pp.maxSteps 1500
namespace TL
open Go Go.Proofs
attribute [local simp] marksV storyV codeV Claim.v Place.v Desk.v
def Il15 (p : Place) (e : Nat) (s : S) : Prop := ∃ (i : Nat) (st : T) (z : List T), s.tm 1 = .ptr 0 0 ∧ s.tm 2 = .ptr 1 0 ∧ s.tm 3 = .ptr 2 0 ∧ s.tm 4 = .v (.int .i64 i) ∧ s.mu = false ∧ i ≤ p.story.length ∧ 3 ≤ s.n ∧
  s.m 0 = some (.box 30 2 [.v (.int .i64 p.people), .v (storyV p.story)]) ∧ s.m 1 = some (.box 30 2 z) ∧ z.length = 2 ∧ s.m 2 = some (.box 30 2 [.v (.int .i64 p.people), st]) ∧ IsRow s.m 3 s.n 48 st ((p.story.take i).map Claim.v) ∧ (e = 1 → i = p.story.length)
def deskNew (p : Place) : Desk := if placeOk p then ⟨p, []⟩ else noDeskV
end TL

/- Desks: what a deed makes of one, in plain words. -/
set_option linter.unusedSimpArgs false
set_option linter.unusedVariables false
set_option maxRecDepth 100000
set_option maxHeartbeats 4000000
set_option pp.maxSteps 1500
namespace TL
open Go Go.Proofs
/-- Whether a claim may be made in a world. -/
def mayB (c : Claim) (w : Nat) : Bool := truth c.says w == w.testBit c.who.toNat
def claimTab (p : Nat) (c : Claim) : Nat := tabN (2 ^ p) (mayB c)
def storyTab (p : Nat) (l : List Claim) : Nat := l.foldl (fun t c => t &&& claimTab p c) (2 ^ 2 ^ p - 1)
theorem testBit_fold (p i : Nat) : ∀ (l : List Claim) (t : Nat), (l.foldl (fun t c => t &&& claimTab p c) t).testBit i = (t.testBit i && l.all fun c => (claimTab p c).testBit i)
  | [], t => by simp
  | c :: l, t => by
    rw [List.foldl_cons, testBit_fold p i l, Nat.testBit_and, List.all_cons, Bool.and_assoc]
theorem testBit_story (p i : Nat) (l : List Claim) : (storyTab p l).testBit i = (decide (i < 2 ^ p) && l.all fun c => mayB c i) := by
  unfold storyTab claimTab
  have h := testBit_fold p i l (2 ^ 2 ^ p - 1)
  unfold claimTab at h
  rw [h, Nat.testBit_two_pow_sub_one]
  by_cases hi : i < 2 ^ p
  · simp only [testBit_tabN, hi, decide_true, Bool.true_and]
  · simp [hi]
theorem storyTab_le (p : Nat) (l : List Claim) : storyTab p l < 2 ^ 2 ^ p := Nat.lt_pow_two_of_testBit _ fun i hi => by
  rw [testBit_story]
  have : ¬ i < 2 ^ p := by omega
  simp [this]
theorem fold_le (p : Nat) : ∀ (l : List Claim) (t : Nat), l.foldl (fun t c => t &&& claimTab p c) t ≤ t
  | [], t => Nat.le_refl _
  | c :: l, t => Nat.le_trans (fold_le p l _) Nat.and_le_left
/-- What is left of a story if each claim is left out that is not needed. -/
def leastGo (p : Nat) : Nat → Nat → List Claim → List Claim
  | 0, _, l => l
  | f + 1, i, l => if i < l.length then (if storyTab p (l.eraseIdx i) = storyTab p l then leastGo p f i (l.eraseIdx i) else leastGo p f (i + 1) l) else l
def least (p : Nat) (l : List Claim) : List Claim := leastGo p l.length 0 l
theorem leastGo_tab (p : Nat) : ∀ f i l, storyTab p (leastGo p f i l) = storyTab p l
  | 0, _, _ => rfl
  | f + 1, i, l => by
    unfold leastGo
    split
    · split
      · rename_i h; rw [leastGo_tab p f]; exact h
      · exact leastGo_tab p f _ _
    · rfl
theorem leastGo_sub (p : Nat) : ∀ f i l, (leastGo p f i l).Sublist l
  | 0, _, _ => List.Sublist.refl _
  | f + 1, i, l => by
    unfold leastGo
    split
    · split
      · exact (leastGo_sub p f _ _).trans (List.eraseIdx_sublist _ _)
      · exact leastGo_sub p f _ _
    · exact List.Sublist.refl _
theorem least_tab (p : Nat) (l : List Claim) : storyTab p (least p l) = storyTab p l := leastGo_tab ..
theorem least_sub (p : Nat) (l : List Claim) : (least p l).Sublist l := leastGo_sub ..
theorem leastGo_end {p f i : Nat} {l : List Claim} (hf : f = l.length - i) (h : ¬ i < l.length) : leastGo p f i l = l := by
  have : f = 0 := by omega
  subst this; rfl
theorem leastGo_out {p i : Nat} {l : List Claim} (h : i < l.length) (he : storyTab p (l.eraseIdx i) = storyTab p l) : leastGo p (l.length - i) i l = leastGo p ((l.eraseIdx i).length - i) i (l.eraseIdx i) := by
  have e1 : (l.eraseIdx i).length = l.length - 1 := by rw [List.length_eraseIdx]; simp [h]
  obtain ⟨f, hf⟩ : ∃ f, l.length - i = f + 1 := ⟨l.length - i - 1, by omega⟩
  rw [hf, show (l.eraseIdx i).length - i = f by omega, leastGo, if_pos h, if_pos he]
theorem leastGo_keep {p i : Nat} {l : List Claim} (h : i < l.length) (he : storyTab p (l.eraseIdx i) ≠ storyTab p l) : leastGo p (l.length - i) i l = leastGo p (l.length - (i + 1)) (i + 1) l := by
  obtain ⟨f, hf⟩ : ∃ f, l.length - i = f + 1 := ⟨l.length - i - 1, by omega⟩
  rw [hf, show l.length - (i + 1) = f by omega, leastGo, if_pos h, if_neg he]
theorem storyOk_sub {people : Int} {l k : List Claim} (h : storyOk people l = true) (hs : k.Sublist l) : storyOk people k = true := by
  simp only [storyOk, Bool.and_eq_true, decide_eq_true_eq, List.all_eq_true] at h ⊢
  exact ⟨⟨fun c hc => h.1.1 c (hs.subset hc), h.1.2⟩, Nat.le_trans hs.length_le h.2⟩
/-- What a deed makes of a place. -/
noncomputable def made (p : Place) (a : Deed) : Place :=
  if a.kind = 0 ∧ a.num = 0 then (match readC p.people a.words with
    | some c => ⟨p.people, p.story ++ [c]⟩
    | none => ⟨0, []⟩)
  else if a.kind = 1 ∧ a.words = [] ∧ 0 ≤ a.num ∧ a.num < p.story.length then ⟨p.people, p.story.eraseIdx a.num.toNat⟩
  else if a.kind = 2 ∧ a.words = [] then ⟨a.num, p.story⟩
  else if a.kind = 3 ∧ a.num = 0 ∧ a.words = [] then ⟨p.people, least p.people.toNat p.story⟩
  else ⟨0, []⟩
def keep8 (l : List Place) : List Place := if 8 < l.length then l.drop 1 else l
def isBack (a : Deed) : Bool := decide (a = ⟨4, 0, []⟩)
noncomputable def goodDo (d : Desk) (a : Deed) : Bool := placeOk (made d.now a) && !decide (placeTx (made d.now a) = placeTx d.now)
noncomputable def deskDo (d : Desk) (a : Deed) : Desk × Bool :=
  if deskOk d = true then
    if isBack a = true ∧ d.past ≠ [] then (⟨d.past.getLast?.getD d.now, d.past.dropLast⟩, true)
    else if goodDo d a = true then (⟨made d.now a, keep8 (d.past ++ [d.now])⟩, true) else (d, false)
  else (noDeskV, false)
theorem zero_no : placeOk ⟨0, []⟩ = false := by decide
theorem deskOk_iff {d : Desk} : deskOk d = true ↔ (∀ p ∈ d.past, placeOk p = true) ∧ placeOk d.now = true ∧ d.past.length ≤ 8 := by
  simp only [deskOk, Bool.and_eq_true, decide_eq_true_eq, List.all_eq_true, and_assoc]
theorem keep8_len (l : List Place) (h : l.length ≤ 9) : (keep8 l).length ≤ 8 := by
  unfold keep8; split
  · simp; omega
  · omega
theorem keep8_mem {l : List Place} {p : Place} (h : p ∈ keep8 l) : p ∈ l := by
  unfold keep8 at h; split at h
  · exact List.mem_of_mem_drop h
  · exact h
theorem deskDo_no {d : Desk} (h : deskOk d = false) (a : Deed) : deskDo d a = (noDeskV, false) := by unfold deskDo; rw [if_neg (by simp [h])]
theorem deskDo_back {d : Desk} (h : deskOk d = true) {a : Deed} (ha : isBack a = true) (hp : d.past ≠ []) : deskDo d a = (⟨d.past.getLast?.getD d.now, d.past.dropLast⟩, true) := by
  unfold deskDo; rw [if_pos h, if_pos ⟨ha, hp⟩]
theorem deskDo_good {d : Desk} (h : deskOk d = true) {a : Deed} (ha : goodDo d a = true) (hb : ¬ (isBack a = true ∧ d.past ≠ [])) : deskDo d a = (⟨made d.now a, keep8 (d.past ++ [d.now])⟩, true) := by
  unfold deskDo; rw [if_pos h, if_neg hb, if_pos ha]
theorem deskDo_bad {d : Desk} (h : deskOk d = true) {a : Deed} (ha : goodDo d a = false) (hb : ¬ (isBack a = true ∧ d.past ≠ [])) : deskDo d a = (d, false) := by
  unfold deskDo; rw [if_pos h, if_neg hb, if_neg (by simp [ha])]
theorem made_back {p : Place} {a : Deed} (h : isBack a = true) : made p a = ⟨0, []⟩ := by
  simp only [isBack, decide_eq_true_eq] at h
  subst h; simp [made]
theorem good_back {d : Desk} {a : Deed} (h : isBack a = true) : goodDo d a = false := by
  unfold goodDo; rw [made_back h, zero_no]; rfl
theorem deskDo_ways (d : Desk) (a : Deed) : (deskOk d = false ∧ deskDo d a = (noDeskV, false)) ∨ (deskOk d = true ∧ isBack a = true ∧ d.past ≠ [] ∧ deskDo d a = (⟨d.past.getLast?.getD d.now, d.past.dropLast⟩, true)) ∨
    (deskOk d = true ∧ isBack a = false ∧ goodDo d a = true ∧ deskDo d a = (⟨made d.now a, keep8 (d.past ++ [d.now])⟩, true)) ∨ (deskOk d = true ∧ goodDo d a = false ∧ deskDo d a = (d, false)) := by
  cases h : deskOk d
  · exact .inl ⟨rfl, deskDo_no h a⟩
  · by_cases hb : isBack a = true ∧ d.past ≠ []
    · exact .inr (.inl ⟨rfl, hb.1, hb.2, deskDo_back h hb.1 hb.2⟩)
    · cases hg : goodDo d a
      · exact .inr (.inr (.inr ⟨rfl, rfl, deskDo_bad h hg hb⟩))
      · refine .inr (.inr (.inl ⟨rfl, ?_, rfl, deskDo_good h hg hb⟩))
        cases hx : isBack a
        · rfl
        · rw [good_back hx] at hg; cases hg
theorem deskDo_ok (d : Desk) (a : Deed) (h : deskOk d = true) : deskOk (deskDo d a).1 = true := by
  have h0 := deskOk_iff.1 h
  rcases deskDo_ways d a with ⟨h1, _⟩ | ⟨_, _, hp, e⟩ | ⟨_, _, hg, e⟩ | ⟨_, _, e⟩
  · rw [h] at h1; cases h1
  · rw [e]
    refine deskOk_iff.2 ⟨fun p hp => h0.1 p (List.dropLast_subset _ hp), ?_, by simp; omega⟩
    rw [List.getLast?_eq_some_getLast hp]
    exact h0.1 _ (List.getLast_mem hp)
  · rw [e]
    have hg' : placeOk (made d.now a) = true := by
      simp only [goodDo, Bool.and_eq_true] at hg; exact hg.1
    refine deskOk_iff.2 ⟨fun p hp => ?_, hg', keep8_len _ (by simp; omega)⟩
    rcases List.mem_append.1 (keep8_mem hp) with h1 | h1
    · exact h0.1 p h1
    · rw [List.mem_singleton.1 h1]; exact h0.2.1
  · rw [e]; exact h
theorem deskDo_undo {d : Desk} {a : Deed} (h : (deskDo d a).2 = true) (hk : a.kind ≠ 4) (hl : d.past.length < 8) : deskDo (deskDo d a).1 ⟨4, 0, []⟩ = (d, true) := by
  rcases deskDo_ways d a with ⟨h1, e⟩ | ⟨_, hb, hp, e⟩ | ⟨h1, _, hg, e⟩ | ⟨_, _, e⟩
  · rw [e] at h; cases h
  · simp only [isBack, decide_eq_true_eq] at hb
    rw [hb] at hk; exact absurd rfl hk
  · have hok := deskDo_ok d a h1
    rw [e] at hok ⊢
    have ek : keep8 (d.past ++ [d.now]) = d.past ++ [d.now] := by unfold keep8; rw [if_neg (by simp; omega)]
    rw [ek] at hok ⊢
    rw [deskDo_back hok (by rfl) (by simp)]
    simp
  · rw [e] at h; cases h
theorem deskDo_sure {d : Desk} {a : Deed} (h : (deskDo d a).2 = true) : deskOk d = true := by
  cases hd : deskOk d
  · rw [deskDo_no hd] at h; cases h
  · rfl
theorem deskDo_same {d : Desk} {a : Deed} (h : (deskDo d a).2 = false) : deskOk d = false ∨ (deskDo d a).1 = d := by
  rcases deskDo_ways d a with ⟨h1, e⟩ | ⟨_, hb, hp, e⟩ | ⟨h1, _, hg, e⟩ | ⟨_, _, e⟩
  · exact .inl h1
  · rw [e] at h; cases h
  · rw [e] at h; cases h
  · exact .inr (by rw [e])
/-- The tables of before and after. -/
theorem kept_do {d : Desk} {a : Deed} (h : (deskDo d a).2 = true) :
    (a.kind = 0 → storyTab (deskDo d a).1.now.people.toNat (deskDo d a).1.now.story &&& storyTab d.now.people.toNat d.now.story = storyTab (deskDo d a).1.now.people.toNat (deskDo d a).1.now.story) ∧
    (a.kind = 1 → storyTab d.now.people.toNat d.now.story &&& storyTab (deskDo d a).1.now.people.toNat (deskDo d a).1.now.story = storyTab d.now.people.toNat d.now.story) ∧
    (a.kind = 3 → storyTab (deskDo d a).1.now.people.toNat (deskDo d a).1.now.story = storyTab d.now.people.toNat d.now.story) := by
  rcases deskDo_ways d a with ⟨h1, e⟩ | ⟨_, hb, hp, e⟩ | ⟨h1, _, hg, e⟩ | ⟨_, _, e⟩
  · rw [e] at h; cases h
  · simp only [isBack, decide_eq_true_eq] at hb
    subst hb
    refine ⟨fun h => ?_, fun h => ?_, fun h => ?_⟩ <;> simp at h
  · have hg' : placeOk (made d.now a) = true := by
      simp only [goodDo, Bool.and_eq_true] at hg; exact hg.1
    rw [e]
    simp only
    refine ⟨fun hk => ?_, fun hk => ?_, fun hk => ?_⟩
    · unfold made at hg' ⊢
      by_cases hn : a.num = 0
      · rw [if_pos ⟨hk, hn⟩] at hg' ⊢
        cases hr : readC d.now.people a.words with
        | none => rw [hr] at hg'; rw [zero_no] at hg'; cases hg'
        | some c =>
          simp only
          apply Nat.eq_of_testBit_eq
          intro i
          rw [Nat.testBit_and, testBit_story, testBit_story, List.all_append]
          cases decide (i < 2 ^ d.now.people.toNat) <;> cases (d.now.story.all fun c => mayB c i) <;> simp
      · rw [if_neg (fun h => hn h.2), if_neg (by rw [hk]; simp), if_neg (by rw [hk]; simp), if_neg (by rw [hk]; simp), zero_no] at hg'; cases hg'
    · unfold made at hg' ⊢
      rw [if_neg (by rw [hk]; simp)] at hg' ⊢
      by_cases hn : a.kind = 1 ∧ a.words = [] ∧ 0 ≤ a.num ∧ a.num < d.now.story.length
      · rw [if_pos hn] at hg' ⊢
        simp only
        apply Nat.eq_of_testBit_eq
        intro i
        rw [Nat.testBit_and, testBit_story, testBit_story]
        cases decide (i < 2 ^ d.now.people.toNat)
        · simp
        · cases hx : (d.now.story.all fun c => mayB c i)
          · simp
          · have : ((d.now.story.eraseIdx a.num.toNat).all fun c => mayB c i) = true := by
              rw [List.all_eq_true] at hx ⊢
              exact fun c hc => hx c ((List.eraseIdx_sublist _ _).subset hc)
            simp [this]
      · rw [if_neg hn, if_neg (by rw [hk]; simp), if_neg (by rw [hk]; simp), zero_no] at hg'; cases hg'
    · unfold made at hg' ⊢
      rw [if_neg (by rw [hk]; simp), if_neg (by rw [hk]; simp), if_neg (by rw [hk]; simp)] at hg' ⊢
      by_cases hn : a.kind = 3 ∧ a.num = 0 ∧ a.words = []
      · rw [if_pos hn]; exact least_tab _ _
      · rw [if_neg hn, zero_no] at hg'; cases hg'
  · rw [e] at h; cases h
/-- Deeds, one after the other. -/
noncomputable def doStep (x : Desk × Nat) (a : Deed) : Desk × Nat := if (deskDo x.1 a).2 = true then ((deskDo x.1 a).1, x.2 + 1) else x
noncomputable def doAll (d : Desk) (l : List Deed) : Desk × Nat := l.foldl doStep (d, 0)
theorem doAll_from (l : List Deed) : ∀ (d : Desk) (n : Nat), l.foldl doStep (d, n) = ((doAll d l).1, n + (doAll d l).2) := by
  induction l with
  | nil => intro d n; rfl
  | cons a l ih =>
    intro d n
    by_cases h : (deskDo d a).2 = true
    · have e : ∀ k, doStep (d, k) a = ((deskDo d a).1, k + 1) := fun k => if_pos h
      unfold doAll
      rw [List.foldl_cons, List.foldl_cons, e, e, ih, ih]
      simp only [Prod.mk.injEq, true_and]; omega
    · have e : ∀ k, doStep (d, k) a = (d, k) := fun k => if_neg h
      unfold doAll
      rw [List.foldl_cons, List.foldl_cons, e, e, ih]
      simp [doAll]
theorem doAll_append (d : Desk) (l k : List Deed) : doAll d (l ++ k) = ((doAll (doAll d l).1 k).1, (doAll d l).2 + (doAll (doAll d l).1 k).2) := by
  show (l ++ k).foldl doStep (d, 0) = _
  rw [List.foldl_append]
  exact doAll_from k (doAll d l).1 (doAll d l).2
theorem doAll_snoc (d : Desk) (l : List Deed) (a : Deed) : (doAll d (l ++ [a])).1 = if (deskDo (doAll d l).1 a).2 = true then (deskDo (doAll d l).1 a).1 else (doAll d l).1 := by
  rw [doAll_append]
  show (List.foldl doStep ((doAll d l).1, 0) [a]).1 = _
  rw [List.foldl_cons, List.foldl_nil]
  by_cases hd : (deskDo (doAll d l).1 a).2 = true
  · have e : doStep ((doAll d l).1, 0) a = ((deskDo (doAll d l).1 a).1, 0 + 1) := if_pos hd
    rw [e, if_pos hd]
  · have e : doStep ((doAll d l).1, 0) a = ((doAll d l).1, 0) := if_neg hd
    rw [e, if_neg hd]
theorem doAll_ok (l : List Deed) : ∀ d : Desk, deskOk d = true → deskOk (doAll d l).1 = true := by
  induction l with
  | nil => intro d h; exact h
  | cons a l ih =>
    intro d h
    show deskOk (List.foldl doStep (d, 0) (a :: l)).1 = true
    rw [List.foldl_cons]
    by_cases hd : (deskDo d a).2 = true
    · have e : doStep (d, 0) a = ((deskDo d a).1, 0 + 1) := if_pos hd
      rw [e, doAll_from]; exact ih _ (deskDo_ok d a h)
    · have e : doStep (d, 0) a = (d, 0) := if_neg hd
      rw [e, doAll_from]; exact ih _ h
theorem doAll_len (l : List Deed) (d : Desk) : (doAll d l).2 ≤ l.length := by
  induction l generalizing d with
  | nil => exact Nat.le_refl _
  | cons a l ih =>
    show (List.foldl doStep (d, 0) (a :: l)).2 ≤ _
    rw [List.foldl_cons]
    by_cases hd : (deskDo d a).2 = true
    · have e : doStep (d, 0) a = ((deskDo d a).1, 0 + 1) := if_pos hd
      rw [e, doAll_from]; have := ih (deskDo d a).1; simp; omega
    · have e : doStep (d, 0) a = (d, 0) := if_neg hd
      rw [e, doAll_from]; have := ih d; simp; omega
end TL

/- Journals and stores, in plain words. -/
set_option linter.unusedSimpArgs false
set_option linter.unusedVariables false
set_option maxRecDepth 100000
set_option maxHeartbeats 4000000
set_option pp.maxSteps 1500
namespace TL
open Go Go.Proofs
theorem deed_line {a : Deed} (h1 : deedTx a ≠ []) : ∀ y ∈ deedTx a, y ≠ 10 := by
  rcases deed_cases h1 with ⟨w, rfl, ⟨d, hd⟩, e⟩ | ⟨n, h0, h9, rfl, e⟩ | ⟨n, h0, h9, rfl, e⟩ | ⟨rfl, e⟩ | ⟨rfl, e⟩ <;> rw [e]
  · intro y hy
    rcases List.mem_append.1 hy with hy | hy
    · have h10 : ∀ y ∈ txSay, y ≠ (10 : UInt8) := by decide
      exact h10 y hy
    · exact (readC_clean hd y hy).2
  · intro y hy
    rcases List.mem_append.1 hy with hy | hy
    · have h10 : ∀ y ∈ txDrop, y ≠ (10 : UInt8) := by decide
      exact h10 y hy
    · exact ((good_dec h0 h9).2.2 y hy).2
  · intro y hy
    rcases List.mem_append.1 hy with hy | hy
    · have h10 : ∀ y ∈ txPeople, y ≠ (10 : UInt8) := by decide
      exact h10 y hy
    · exact ((good_dec h0 h9).2.2 y hy).2
  · decide
  · decide
theorem readJF_fuel : ∀ (f g : Nat) (s : List UInt8), s.length < f → s.length < g → readJF f s = readJF g s
  | 0, _, _, h, _ => absurd h (by omega)
  | f + 1, 0, _, _, h => absurd h (by omega)
  | f + 1, g + 1, s, hf, hg => by
    cases hc : (Go.Lib.cut s [10]).2.2
    · rw [readJF_stop (.inl hc), readJF_stop (.inl hc)]
    · cases hr : readD (Go.Lib.cut s [10]).1 with
      | none => rw [readJF_stop (.inr hr), readJF_stop (.inr hr)]
      | some a =>
        have hs := congrArg List.length (cut_found hc).1
        simp only [List.length_append, List.length_cons] at hs
        rw [readJF_step hc hr, readJF_step hc hr, readJF_fuel f g _ (by omega) (by omega)]
theorem readJ_clean {s : List UInt8} (h : ∀ y ∈ s, y ≠ 10) : readJ s = ([], 0) := readJF_stop (.inl (by rw [cut_clean h]))
theorem readJ_halt {x r : List UInt8} (h : ∀ y ∈ x, y ≠ 10) (ha : readD x = none) : readJ (x ++ 10 :: r) = ([], 0) := readJF_stop (.inr (by rw [cut_at h]; exact ha))
theorem readJ_step {x r : List UInt8} {a : Deed} (h : ∀ y ∈ x, y ≠ 10) (ha : readD x = some a) : readJ (x ++ 10 :: r) = (a :: (readJ r).1, x.length + 1 + (readJ r).2) := by
  have hc := cut_at (r := r) h
  unfold readJ
  rw [readJF_step (a := a) (by rw [hc]) (by rw [hc]; exact ha), hc]
  simp only
  rw [readJF_fuel _ (r.length + 1) r (by simp only [List.length_append, List.length_cons]; omega) (by omega)]
theorem jr_cons (a : Deed) (l : List Deed) : jr (a :: l) deedTx = deedTx a ++ 10 :: jr l deedTx := by simp [jr]
theorem jr_append (l k : List Deed) : jr (l ++ k) deedTx = jr l deedTx ++ jr k deedTx := by simp [jr]
theorem readJ_app {l : List Deed} (h : ∀ a ∈ l, deedTx a ≠ []) (r : List UInt8) : readJ (jr l deedTx ++ r) = (l ++ (readJ r).1, (jr l deedTx).length + (readJ r).2) := by
  induction l with
  | nil => simp [jr]
  | cons a l ih =>
    have h1 := h a (List.mem_cons_self ..)
    have ih := ih fun b hb => h b (List.mem_cons_of_mem _ hb)
    rw [jr_cons, List.append_assoc, List.cons_append, readJ_step (deed_line h1) (readD_some h1 rfl), ih]
    simp only [List.cons_append, List.length_append, List.length_cons, Prod.mk.injEq, true_and]; omega
theorem readJ_split : ∀ (n : Nat) (s : List UInt8), s.length ≤ n → (∀ a ∈ (readJ s).1, deedTx a ≠ []) ∧ ∃ r, s = jr (readJ s).1 deedTx ++ r ∧ (readJ s).2 = (jr (readJ s).1 deedTx).length := by
  intro n
  induction n with
  | zero =>
    intro s hs
    have : s = [] := List.length_eq_zero_iff.1 (by omega)
    subst this
    rw [readJ_clean (by simp)]
    exact ⟨by simp, [], by simp [jr], by simp [jr]⟩
  | succ n ih =>
    intro s hs
    rcases cut_first 10 s with h | ⟨x, r, rfl, h⟩
    · rw [readJ_clean h]; exact ⟨by simp, s, by simp [jr], by simp [jr]⟩
    · cases hr : readD x with
      | none => rw [readJ_halt h hr]; exact ⟨by simp, _, by simp [jr]; rfl, by simp [jr]⟩
      | some a =>
        obtain ⟨h1, r', h2, h3⟩ := ih r (by simp only [List.length_append, List.length_cons] at hs; omega)
        obtain ⟨hx, ha⟩ := readD_is hr
        rw [readJ_step h hr]
        refine ⟨fun b hb => ?_, r', ?_, ?_⟩
        · rcases List.mem_cons.1 hb with rfl | hb
          · rw [ha]; exact hx
          · exact h1 b hb
        · simp only
          rw [jr_cons, ha, List.append_assoc, List.cons_append, ← h2]
        · simp only
          rw [jr_cons, ha, h3]
          simp only [List.length_append, List.length_cons]; omega
theorem readJ_all (s : List UInt8) : ∀ a ∈ (readJ s).1, deedTx a ≠ [] := (readJ_split _ s (Nat.le_refl _)).1
theorem readJ_len (s : List UInt8) : (readJ s).2 = (jr (readJ s).1 deedTx).length := by
  obtain ⟨_, r, h1, h2⟩ := readJ_split _ s (Nat.le_refl _); exact h2
theorem readJ_take (s : List UInt8) : s.take (readJ s).2 = jr (readJ s).1 deedTx := by
  obtain ⟨_, r, h1, h2⟩ := readJ_split _ s (Nat.le_refl _)
  generalize readJ s = J at *
  rw [h2, h1, List.take_left]
theorem readJ_le (s : List UInt8) : (readJ s).2 ≤ s.length := by
  obtain ⟨_, r, h1, h2⟩ := readJ_split _ s (Nat.le_refl _)
  generalize readJ s = J at *
  rw [h2, h1]
  simp
theorem readJ_many (s : List UInt8) : (readJ s).1.length ≤ s.length := by
  have h1 := readJ_le s
  have h2 := readJ_len s
  have h3 := jr_long (readJ s).1
  omega
theorem readJ_full {s : List UInt8} (h : (readJ s).2 = s.length) : s = jr (readJ s).1 deedTx := by
  have := readJ_take s
  rw [h, List.take_length] at this
  exact this
theorem readJ_mend (s : List UInt8) : readJ (s.take (readJ s).2) = readJ s := by
  rw [readJ_take, readJ_jr (readJ_all s), ← readJ_len]
theorem readJ_pre : ∀ (n : Nat) (s : List UInt8), s.length ≤ n → ∀ k, (readJ (s.take k)).1 <+: (readJ s).1 := by
  intro n
  induction n with
  | zero =>
    intro s hs k
    have : s = [] := List.length_eq_zero_iff.1 (by omega)
    subst this
    simp
  | succ n ih =>
    intro s hs k
    rcases cut_first 10 s with h | ⟨x, r, rfl, h⟩
    · rw [readJ_clean (s := s.take k) fun y hy => h y (List.mem_of_mem_take hy)]; exact List.nil_prefix
    · by_cases hk : k ≤ x.length
      · rw [List.take_append_of_le_length hk, readJ_clean fun y hy => h y (List.mem_of_mem_take hy)]; exact List.nil_prefix
      · have e : (x ++ 10 :: r).take k = x ++ 10 :: r.take (k - x.length - 1) := by
          rw [List.take_append, List.take_of_length_le (by omega)]
          obtain ⟨j, hj⟩ : ∃ j, k - x.length = j + 1 := ⟨k - x.length - 1, by omega⟩
          rw [hj, List.take_succ_cons]; rfl
        rw [e]
        cases hr : readD x with
        | none => rw [readJ_halt h hr]; exact List.nil_prefix
        | some a =>
          rw [readJ_step h hr, readJ_step h hr]
          exact List.cons_prefix_cons.2 ⟨rfl, ih r (by simp only [List.length_append, List.length_cons] at hs; omega) _⟩
theorem readJ_prefix (s : List UInt8) (k : Nat) : (readJ (s.take k)).1 <+: (readJ s).1 := readJ_pre _ s (Nat.le_refl _) k
theorem readJ_mono (s : List UInt8) {k j : Nat} (h : k ≤ j) : (readJ (s.take k)).1 <+: (readJ (s.take j)).1 := by
  have e : s.take k = (s.take j).take k := by rw [List.take_take, Nat.min_eq_left h]
  rw [e]; exact readJ_prefix _ k
theorem readJ_snoc {s : List UInt8} (h : (readJ s).2 = s.length) {a : Deed} (ha : deedTx a ≠ []) : readJ (s ++ deedTx a ++ [10]) = ((readJ s).1 ++ [a], (s ++ deedTx a ++ [10]).length) := by
  have hs := readJ_full h
  have hall := readJ_all s
  generalize (readJ s).1 = l at *
  subst hs
  have e : jr l deedTx ++ deedTx a ++ [10] = jr (l ++ [a]) deedTx := by rw [jr_append, jr_cons]; simp [jr]
  rw [e]
  exact readJ_jr fun b hb => by
    rcases List.mem_append.1 hb with hb | hb
    · exact hall b hb
    · rw [List.mem_singleton.1 hb]; exact ha
/-! Stores. -/
noncomputable def placeOf (s : Store) : Place := (readP s.saved).getD ⟨0, []⟩
noncomputable def opened (s : Store) : Desk := (doAll ⟨placeOf s, []⟩ (readJ s.log).1).1
noncomputable def storeOpen (s : Store) : Desk := if storeOk s = true then opened s else noDeskV
theorem storeOk_iff {s : Store} : storeOk s = true ↔ (readP s.saved).isSome = true ∧ s.log.length ≤ 1000 ∧ 0 ≤ s.sure ∧ s.sure ≤ s.log.length := by
  simp only [storeOk, Bool.and_eq_true, decide_eq_true_eq, and_assoc]
theorem placeOf_ok {s : Store} (h : (readP s.saved).isSome = true) : placeOk (placeOf s) = true ∧ placeTx (placeOf s) = s.saved ∧ readP s.saved = some (placeOf s) := by
  unfold placeOf
  cases hr : readP s.saved with
  | none => rw [hr] at h; cases h
  | some p => exact ⟨(readP_is hr).1, (readP_is hr).2, rfl⟩
theorem desk_new {p : Place} (h : placeOk p = true) : deskOk ⟨p, []⟩ = true := deskOk_iff.2 ⟨by simp, h, by simp⟩
theorem opened_ok {s : Store} (h : storeOk s = true) : deskOk (opened s) = true := doAll_ok _ _ (desk_new (placeOf_ok (storeOk_iff.1 h).1).1)
noncomputable def actOk (s : Store) (a : Deed) : Bool := storeOk s && (decide ((readJ s.log).2 = s.log.length) && (deskDo (opened s) a).2 && !decide (deedTx a = []) && decide (s.log.length + (deedTx a).length + 1 ≤ 1000))
noncomputable def storeAct (s : Store) (a : Deed) : Store := if actOk s a = true then ⟨s.saved, s.log ++ deedTx a ++ [10], s.sure⟩ else if storeOk s = true then s else noStore
theorem actOk_iff {s : Store} {a : Deed} : actOk s a = true ↔ storeOk s = true ∧ (readJ s.log).2 = s.log.length ∧ (deskDo (opened s) a).2 = true ∧ deedTx a ≠ [] ∧ s.log.length + (deedTx a).length + 1 ≤ 1000 := by
  simp only [actOk, Bool.and_eq_true, decide_eq_true_eq, Bool.not_eq_true', decide_eq_false_iff_not, and_assoc, ne_eq]
theorem storeAct_yes {s : Store} {a : Deed} (h : actOk s a = true) : storeAct s a = ⟨s.saved, s.log ++ deedTx a ++ [10], s.sure⟩ := if_pos h
theorem storeAct_no {s : Store} {a : Deed} (h : actOk s a = false) (hs : storeOk s = true) : storeAct s a = s := by unfold storeAct; rw [if_neg (by simp [h]), if_pos hs]
theorem storeAct_out {s : Store} {a : Deed} (hs : storeOk s = false) : storeAct s a = noStore ∧ actOk s a = false := by
  have : actOk s a = false := by unfold actOk; rw [hs]; rfl
  exact ⟨by unfold storeAct; rw [if_neg (by simp [this]), if_neg (by simp [hs])], this⟩
theorem act_done {s : Store} {a : Deed} (h : actOk s a = true) : storeOk (storeAct s a) = true ∧ readJ (storeAct s a).log = ((readJ s.log).1 ++ [a], (storeAct s a).log.length) ∧ opened (storeAct s a) = (deskDo (opened s) a).1 ∧ (storeAct s a).log.length = s.log.length + (deedTx a).length + 1 ∧ (storeAct s a).sure = s.sure ∧ (storeAct s a).saved = s.saved := by
  obtain ⟨h1, h2, h3, h4, h5⟩ := actOk_iff.1 h
  obtain ⟨g1, g2, g3, g4⟩ := storeOk_iff.1 h1
  have hj := readJ_snoc h2 h4
  have hl : (s.log ++ deedTx a ++ [10]).length = s.log.length + (deedTx a).length + 1 := by simp; omega
  rw [storeAct_yes h]
  refine ⟨storeOk_iff.2 ⟨g1, ?_, g3, ?_⟩, hj, ?_, hl, rfl, rfl⟩
  · simp only; omega
  · simp only; omega
  · show (doAll ⟨placeOf s, []⟩ (readJ (s.log ++ deedTx a ++ [10])).1).1 = _
    rw [hj]
    simp only
    rw [doAll_snoc]
    exact if_pos h3
noncomputable def storeMend (s : Store) : Store := if storeOk s = true then ⟨s.saved, s.log.take (readJ s.log).2, min s.sure ((readJ s.log).2 : Nat)⟩ else noStore
theorem mend_done {s : Store} (h : storeOk s = true) : storeOk (storeMend s) = true ∧ readJ (storeMend s).log = ((readJ s.log).1, (storeMend s).log.length) ∧ opened (storeMend s) = opened s ∧ storeMend (storeMend s) = storeMend s ∧ (storeMend s).log.length ≤ s.log.length := by
  obtain ⟨g1, g2, g3, g4⟩ := storeOk_iff.1 h
  have hle := readJ_le s.log
  have hm := readJ_mend s.log
  have e : storeMend s = ⟨s.saved, s.log.take (readJ s.log).2, min s.sure ((readJ s.log).2 : Nat)⟩ := if_pos h
  have hlen : (s.log.take (readJ s.log).2).length = (readJ s.log).2 := by simp; omega
  have hok : storeOk (storeMend s) = true := by
    rw [e]
    exact storeOk_iff.2 ⟨g1, by simp only; omega, by simp only; omega, by simp only; omega⟩
  refine ⟨hok, ?_, ?_, ?_, ?_⟩
  · rw [e]; simp only; rw [hm, hlen]
  · rw [e]; unfold opened placeOf; simp only; rw [hm]
  · have e2 : storeMend (storeMend s) = ⟨(storeMend s).saved, (storeMend s).log.take (readJ (storeMend s).log).2, min (storeMend s).sure ((readJ (storeMend s).log).2 : Nat)⟩ := if_pos hok
    rw [e2, e]
    simp only
    rw [hm]
    congr 1
    · rw [List.take_take, Nat.min_self]
    · omega
  · rw [e]; simp only; omega
noncomputable def storeSave (s : Store) : Store := if storeOk s = true then ⟨placeTx (opened s).now, [], 0⟩ else noStore
theorem readJ_nil : readJ [] = ([], 0) := readJ_clean (by simp)
theorem new_done {p : Place} (h : placeOk p = true) : storeOk ⟨placeTx p, [], 0⟩ = true ∧ opened ⟨placeTx p, [], 0⟩ = ⟨p, []⟩ := by
  have hr := readP_some h rfl
  refine ⟨storeOk_iff.2 ⟨by simp only; rw [hr]; rfl, by simp, by simp, by simp⟩, ?_⟩
  unfold opened placeOf
  simp only
  rw [hr, readJ_nil]; rfl
theorem save_done {s : Store} (h : storeOk s = true) : storeOk (storeSave s) = true ∧ opened (storeSave s) = ⟨(opened s).now, []⟩ ∧ storeSave (storeSave s) = storeSave s ∧ storeSave s = ⟨placeTx (opened s).now, [], 0⟩ := by
  have e : storeSave s = ⟨placeTx (opened s).now, [], 0⟩ := if_pos h
  have hp := (deskOk_iff.1 (opened_ok h)).2.1
  obtain ⟨h1, h2⟩ := new_done hp
  refine ⟨by rw [e]; exact h1, by rw [e]; exact h2, ?_, e⟩
  rw [e]
  unfold storeSave
  rw [if_pos h1, h2]
/-- The first claim can be dropped, if there is one. -/
theorem drop_first {d : Desk} (h : deskOk d = true) : (deskDo d ⟨1, 0, []⟩).2 = decide (0 < d.now.story.length) := by
  obtain ⟨h1, h2, h3⟩ := deskOk_iff.1 h
  by_cases hl : 0 < d.now.story.length
  · have em : made d.now ⟨1, 0, []⟩ = ⟨d.now.people, d.now.story.eraseIdx 0⟩ := by
      unfold made
      rw [if_neg (by simp), if_pos ⟨rfl, rfl, by simp, by simp; omega⟩]; rfl
    have hg : goodDo d ⟨1, 0, []⟩ = true := by
      have hp : placeOk ⟨d.now.people, d.now.story.eraseIdx 0⟩ = true := storyOk_sub h2 (List.eraseIdx_sublist _ _)
      unfold goodDo
      rw [em, hp]
      simp only [Bool.true_and, Bool.not_eq_true', decide_eq_false_iff_not]
      intro hx
      have := congrArg (fun p => p.story.length) (placeTx_inj hp h2 hx)
      simp only [List.length_eraseIdx, hl, if_true] at this
      omega
    rw [deskDo_good h hg (by simp [isBack])]
    simp [hl]
  · have em : made d.now ⟨1, 0, []⟩ = ⟨0, []⟩ := by
      unfold made
      rw [if_neg (by simp), if_neg (fun h => by have h4 : (0 : Int) < d.now.story.length := h.2.2.2; omega), if_neg (by simp), if_neg (by simp)]
    have hg : goodDo d ⟨1, 0, []⟩ = false := by unfold goodDo; rw [em, zero_no]; rfl
    rw [deskDo_bad h hg (by simp [isBack])]
    simp [hl]
/-- What is done depends on the place alone, unless it is to be undone. -/
theorem deskDo_now {d e : Desk} (hd : deskOk d = true) (he : deskOk e = true) (hn : d.now = e.now) {a : Deed} (ha : a.kind ≠ 4) : (deskDo d a).2 = (deskDo e a).2 ∧ (deskDo d a).1.now = (deskDo e a).1.now := by
  have hb : isBack a = false := by
    simp only [isBack, decide_eq_false_iff_not]; rintro rfl; exact ha rfl
  have hg : goodDo d a = goodDo e a := by unfold goodDo; rw [hn]
  cases h : goodDo e a
  · rw [deskDo_bad hd (by rw [hg, h]) (by simp [hb]), deskDo_bad he h (by simp [hb])]; exact ⟨rfl, hn⟩
  · rw [deskDo_good hd (by rw [hg, h]) (by simp [hb]), deskDo_good he h (by simp [hb])]; exact ⟨rfl, by simp only; rw [hn]⟩
end TL

/- Journals are read: the reference. -/
set_option linter.unusedSimpArgs false
set_option linter.unusedVariables false
set_option maxRecDepth 100000
set_option maxHeartbeats 4000000
set_option pp.maxSteps 1500
namespace TL
open Go Go.Proofs
attribute [local simp] marksV storyV codeV Claim.v Place.v Deed.v
theorem deed_cells0 (a : Deed) : a.v.cells = [.int .i64 a.kind, .int .i64 a.num, .str a.words] := rfl
def Irs (s : List UInt8) (e : Nat) (y : S) : Prop := ∃ (l : List Deed) (mid rest : List UInt8) (id : Nat), y.tm 0 = .v (.str s) ∧ y.tm 4 = .loc id ∧ id < y.n ∧ y.m id = some (.arr 36 (l.map Deed.v)) ∧ y.tm 5 = .v (.int .i64 (jr l deedTx).length) ∧ y.tm 6 = .v (.int .i64 ((jr l deedTx).length + mid.length : Nat)) ∧ y.mu = false ∧
  s = jr l deedTx ++ (mid ++ rest) ∧ (∀ a ∈ l, deedTx a ≠ []) ∧ (∀ y ∈ mid, y ≠ 10) ∧ (e = 1 → rest = [])
theorem readJournalS_fn (s : List UInt8) (hl : s.length ≤ 2000000000) : FnZ Tryd.prog 5 [.str s] (.tup [.sl ((readJ s).1.map Deed.v), .int .i64 (readJ s).2]) := by
  generalize hJ : readJ s = J
  refine FnZ_of (rs := [.tmp 2, .tmp 3]) false Tryd.func5 rfl rfl rfl rfl (Nat.le_of_ble_eq_true rfl) ?_
  simp -dsimp
  refine twp_loopC (Irs s 0) (fun y => s.length - natOf (y.tm 6)) (Irs s 1) ?_ ?_ ?_
  · exact ⟨[], [], s, 0, by simp -dsimp, by simp -dsimp, by simp -dsimp, by simp -dsimp, by simp -dsimp [jr], by simp -dsimp [jr], by simp -dsimp, by simp [jr], by simp, by simp, by simp⟩
  · rintro y ⟨l, mid, rest, id, t0, t4, hid, hm, t5, t6, hmu, hs, hne, hmid, hend⟩
    have hlen : s.length = (jr l deedTx).length + (mid.length + rest.length) := by rw [hs]; simp
    have happ := readJ_app hne (mid ++ rest)
    rw [← hs, hJ] at happ
    have hjl := jr_long l
    have hdt : (s.take ((jr l deedTx).length + mid.length)).drop (jr l deedTx).length = mid := by
      rw [hs, ← List.append_assoc, List.take_left' (by simp), List.drop_left]
    have hget : s[(jr l deedTx).length + mid.length]? = rest.head? := by
      rw [hs, List.getElem?_append_right (by omega), List.getElem?_append_right (by omega)]
      have : (jr l deedTx).length + mid.length - (jr l deedTx).length - mid.length = 0 := by omega
      rw [this, List.head?_eq_getElem?]
    have hnext : ∀ a, deedTx a = mid → mid ≠ [] → jr (l ++ [a]) deedTx = jr l deedTx ++ (mid ++ [10]) := fun a h _ => by rw [jr_append, jr_cons, h]; simp [jr]
    generalize hF : (jr l deedTx).length = F at *
    cases rest with
    | nil =>
      have hlt : ¬ F + mid.length < s.length := by simp at hlen; omega
      have hlt' : ¬ ((F + mid.length : Nat) : Int) < s.length := by omega
      have hlt'' : ¬ (F : Int) + mid.length < s.length := by omega
      simp -dsimp [t0, t6, hlt, hlt', hlt'']
      exact ⟨l, mid, [], id, by simp -dsimp [t0], by simp -dsimp [t4], by simp -dsimp; omega, by simp -dsimp [hm], by simp -dsimp [t5, hF], by simp -dsimp [t6, hF], by simp -dsimp [hmu], hs, hne, hmid, fun _ => rfl⟩
    | cons c r =>
      simp only [List.length_cons] at hlen
      have hlt : F + mid.length < s.length := by omega
      have hlt' : ((F + mid.length : Nat) : Int) < s.length := by omega
      have hlt'' : (F : Int) + mid.length < s.length := by omega
      have hT : ((F : Int) + mid.length).toNat = F + mid.length := by omega
      have hT1 : ((F : Int) + mid.length + 1).toNat = F + mid.length + 1 := by omega
      have hle1 : (F : Int) ≤ (F : Int) + mid.length := by omega
      have hle2 : (F : Int) + mid.length ≤ s.length := by omega
      have hle3 : F + mid.length ≤ s.length := by omega
      have wi : IntKind.wrap .i64 ((F : Int) + mid.length + 1) = ((F + mid.length + 1 : Nat) : Int) := by rw [w64 (by omega) (by omega)]; omega
      have hmu1 : s.length - (F + mid.length + 1) < s.length - (F + mid.length) := by omega
      have z0 : (0 : Int) ≤ (F : Int) + mid.length := by omega
      simp only [List.head?_cons] at hget
      have hgE : s[F + mid.length]'hlt = c := Option.some.inj ((List.getElem?_eq_getElem hlt).symm.trans hget)
      have f1 := far hid
      by_cases hc : c = 10
      case neg =>
        have hc' : ¬ (c.toNat : Int) = 10 := fun e => hc (UInt8.toNat_inj.1 (by have : (10 : UInt8).toNat = 10 := rfl; omega))
        have hc'' : ¬ c.toNat = 10 := fun e => hc (UInt8.toNat_inj.1 (by have : (10 : UInt8).toNat = 10 := rfl; omega))
        simp -dsimp [t0, t4, t5, t6, hlt, hlt', hlt'', hT, hget, hgE, hc, hc', hc'', wi, hmu1, z0, hT1]
        refine ⟨l, mid ++ [c], r, id, by simp -dsimp [t0], by simp -dsimp [t4], by simp -dsimp; omega, by simp -dsimp [hm], by simp -dsimp [t5, hF], by simp -dsimp [hF]; omega, by simp -dsimp [hmu], by rw [hs]; simp, hne, fun y hy => ?_, by simp⟩
        rcases List.mem_append.1 hy with hy | hy
        · exact hmid y hy
        · rw [List.mem_singleton.1 hy]; exact hc
      subst hc
      have hrd := readDeedS_fn mid (by omega)
      have hcase : ∀ a, readD mid = some a → mid ≠ [] ∧ deedTx a = mid := fun a h => readD_is h
      cases ho : readD mid with
      | none =>
        rw [ho] at hrd
        rw [readJ_halt hmid ho] at happ
        simp only [List.append_nil, Nat.add_zero] at happ
        rw [happ]
        simp -dsimp [t0, t4, t5, t6, hlt, hlt', hlt'', hT, hget, hgE, wi, z0, hle1, hle2, hle3, hdt]
        refine call_ hrd (by simp -dsimp) ?_
        simp -dsimp [optD, t4, t5, hm, f1]
      | some a =>
        rw [ho] at hrd
        obtain ⟨hx, ha⟩ := hcase a ho
        have hj' := hnext a ha hx
        have hjl' : (jr (l ++ [a]) deedTx).length = F + mid.length + 1 := by rw [hj']; simp [hF]; omega
        have b1 : (l.length + 1) * 32 ≤ 140737488355328 := by omega
        simp -dsimp [t0, t4, t5, t6, hlt, hlt', hlt'', hT, hget, hgE, wi, z0, hle1, hle2, hle3, hdt]
        refine call_ hrd (by simp -dsimp) ?_
        simp -dsimp [optD, t4, t5, t6, hm, f1, hmu, b1, wi, hmu1, nes, hT, hT1]
        refine st_out fun s' ht hm' hn' hu' => ?_
        have a0 := ht 0
        have a4 := ht 4
        have a5 := ht 5
        have a6 := ht 6
        simp -dsimp [t0] at a0 a4 a5 a6 hm' hn' hu'
        clear ht
        refine ⟨l ++ [a], [], r, _, a0, a4, by omega, ?_, by rw [a5, hjl']; push_cast; rfl, by rw [a6, hjl']; push_cast; simp, by rw [hu', hmu], by rw [hs, hj']; simp, fun b hb => ?_, by simp, by simp⟩
        · simp [hm', nes, f1]
        · rcases List.mem_append.1 hb with hb | hb
          · exact hne b hb
          · rw [List.mem_singleton.1 hb, ha]; exact hx
  · rintro y ⟨l, mid, rest, id, t0, t4, hid, hm, t5, t6, hmu, hs, hne, hmid, hend⟩
    obtain rfl := hend rfl
    have happ := readJ_app hne (mid ++ [])
    rw [← hs, hJ, List.append_nil, readJ_clean hmid] at happ
    simp only [List.append_nil, Nat.add_zero] at happ
    rw [happ]
    simp -dsimp [t4, t5, hm]
end TL

/- Journals read into memory of the caller's own; the exact law of reading journals. -/
set_option linter.unusedSimpArgs false
set_option linter.unusedVariables false
set_option maxRecDepth 100000
set_option maxHeartbeats 4000000
set_option pp.maxSteps 1500
namespace TL
open Go Go.Proofs
attribute [local simp] marksV storyV codeV Claim.v Place.v Deed.v
def OwnJ (J : List Deed × Nat) (m : Mem) (n : Nat) (t : T) (m' : Mem) (n' : Nat) : Prop := n ≤ n' ∧ (∀ j, j < n → m' j = m j) ∧ ∃ id, t = .tup [.sv id 0 J.1.length, .v (.int .i64 J.2)] ∧ n ≤ id ∧ id < n' ∧ m' id = some (.box 36 3 (deT J.1))
def Ijo (s : List UInt8) (J : List Deed × Nat) (m : Mem) (n : Nat) (y : S) : Prop := ∃ (pos id f : Nat) (l : List Deed), y.tm 0 = .v (.str s) ∧ y.tm 4 = .sv id 0 l.length ∧ n ≤ id ∧ id < y.n ∧ y.m id = some (.box 36 3 (deT l)) ∧ y.tm 5 = .v (.int .i64 pos) ∧ y.mu = true ∧ pos ≤ s.length ∧ l.length ≤ pos ∧
  (s.drop pos).length < f ∧ l ++ (readJF f (s.drop pos)).1 = J.1 ∧ pos + (readJF f (s.drop pos)).2 = J.2 ∧ (∀ j, j < n → y.m j = m j)
theorem readJournal_own (s : List UInt8) (hl : s.length ≤ 2000000000) (m : Mem) (n : Nat) : FnS Tryd.prog 6 m n [.v (.str s)] (OwnJ (readJ s) m n) := by
  generalize hJ : readJ s = J
  refine FnS_of (rs := [.tmp 2, .tmp 3]) true Tryd.func6 rfl rfl rfl rfl (Nat.le_of_ble_eq_true rfl) ?_
  simp -dsimp
  refine twp_loop (Ijo s J m n) (fun y => s.length - natOf (y.tm 5)) ?_ ?_
  · exact ⟨0, n, s.length + 1, [], by simp -dsimp, by simp -dsimp, by omega, by simp -dsimp, by simp -dsimp, by simp -dsimp, by simp -dsimp, by omega, by simp, by simp, by rw [← hJ]; rfl, by rw [← hJ]; simp [readJ], fun j j1 => by simp -dsimp [far j1]⟩
  · rintro y ⟨pos, id, f, l, t0, t4, hid0, hid, hm, t5, hmu, hpos, hll, hf, hj1, hj2, hout⟩
    have hcut := cut_fn (s.drop pos) [10] (by rw [List.length_drop]; omega)
    have hpos' : (pos : Int) ≤ s.length := by omega
    have f1 := far hid
    have hstop : (Go.Lib.cut (s.drop pos) [10]).2.2 = false ∨ readD (Go.Lib.cut (s.drop pos) [10]).1 = none → J = (l, pos) := fun h => by
      cases f with
      | zero => simp at hf
      | succ f =>
        rw [readJF_stop h] at hj1 hj2
        obtain ⟨J1, J2⟩ := J
        simp at hj1 hj2
        rw [← hj1, ← hj2]
    have hgo : ∀ a, (Go.Lib.cut (s.drop pos) [10]).2.2 = true → readD (Go.Lib.cut (s.drop pos) [10]).1 = some a → ∃ g, pos + ((Go.Lib.cut (s.drop pos) [10]).1.length + 1) ≤ s.length ∧ (s.drop (pos + ((Go.Lib.cut (s.drop pos) [10]).1.length + 1))).length < g ∧
        (l ++ [a]) ++ (readJF g (s.drop (pos + ((Go.Lib.cut (s.drop pos) [10]).1.length + 1)))).1 = J.1 ∧ pos + ((Go.Lib.cut (s.drop pos) [10]).1.length + 1) + (readJF g (s.drop (pos + ((Go.Lib.cut (s.drop pos) [10]).1.length + 1)))).2 = J.2 := fun a h ha => by
      cases f with
      | zero => simp at hf
      | succ f =>
        rw [readJF_step h ha] at hj1 hj2
        obtain ⟨e, _⟩ := cut_found h
        have e2 : s.drop (pos + ((Go.Lib.cut (s.drop pos) [10]).1.length + 1)) = (Go.Lib.cut (s.drop pos) [10]).2.1 := by
          rw [← List.drop_drop]
          generalize Go.Lib.cut (s.drop pos) [10] = C at *
          rw [e, List.drop_append, List.drop_of_length_le (by omega)]
          have : C.1.length + 1 - C.1.length = 1 := by omega
          rw [this]; simp
        have e3 := congrArg List.length e
        rw [List.length_append, List.length_cons, List.length_drop] at e3
        have e4 := congrArg List.length e2
        rw [List.length_drop] at e4
        refine ⟨f, by omega, by rw [List.length_drop] at hf ⊢; omega, ?_, ?_⟩
        · rw [e2, ← hj1]; simp
        · rw [e2, ← hj2]; simp only; omega
    have hwl : (Go.Lib.cut (s.drop pos) [10]).1.length ≤ s.length := by
      unfold Go.Lib.cut
      split
      · simp only [List.length_take, List.length_drop]; omega
      · simp only [List.length_drop]; omega
    have hrd := readDeed_fn (Go.Lib.cut (s.drop pos) [10]).1 (by omega)
    generalize (Go.Lib.cut (s.drop pos) [10]).2.1 = r at *
    generalize (Go.Lib.cut (s.drop pos) [10]).2.2 = fd at *
    generalize (Go.Lib.cut (s.drop pos) [10]).1 = w at *
    generalize readD w = o at *
    cases fd with
    | false =>
      have hst := hstop (.inl rfl)
      rw [hst]
      simp -dsimp [t0, t5, hpos, hpos']
      refine call_ hcut (by simp -dsimp) ?_
      simp -dsimp
      refine call_ hrd (by simp -dsimp) ?_
      simp -dsimp [optD, t4, t5, hm, f1]
      exact ⟨by omega, fun j j1 => by simp [far (show j < y.n by omega), hout j j1], id, rfl, hid0, by omega, by simp [f1, hm]⟩
    | true =>
      cases o with
      | none =>
        have hst := hstop (.inr rfl)
        rw [hst]
        simp -dsimp [t0, t5, hpos, hpos']
        refine call_ hcut (by simp -dsimp) ?_
        simp -dsimp
        refine call_ hrd (by simp -dsimp) ?_
        simp -dsimp [optD, t4, t5, hm, f1]
        exact ⟨by omega, fun j j1 => by simp [far (show j < y.n by omega), hout j j1], id, rfl, hid0, by omega, by simp [f1, hm]⟩
      | some a =>
        have hg := hgo a rfl rfl
        clear hgo hstop
        refine hg.elim fun g hg => ?_
        obtain ⟨g1, g2, g3, g4⟩ := hg
        have b1 : (l.length + 1) * 32 ≤ 140737488355328 := by omega
        have w1 : IntKind.wrap .i64 ((w.length : Int) + 1) = (w.length : Int) + 1 := w64 (by omega) (by omega)
        have w2 : IntKind.wrap .i64 ((pos : Int) + ((w.length : Int) + 1)) = ((pos + (w.length + 1) : Nat) : Int) := by rw [w64 (by omega) (by omega)]; omega
        have hmu1 : s.length - (pos + (w.length + 1)) < s.length - pos := by omega
        have hT : ((pos : Int) + ((w.length : Int) + 1)).toNat = pos + (w.length + 1) := by omega
        simp -dsimp [t0, t5, hpos, hpos']
        refine call_ hcut (by simp -dsimp) ?_
        simp -dsimp
        refine call_ hrd (by simp -dsimp) ?_
        simp -dsimp [optD, t4, t5, hm, f1, hmu, b1, w1, w2, hT, hmu1, nes]
        refine st_out fun s' ht hm' hn' hu' => ?_
        have a0 := ht 0
        have a4 := ht 4
        have a5 := ht 5
        simp -dsimp [t0, w2] at a0 a4 a5 hm' hn' hu'
        clear ht
        refine ⟨pos + (w.length + 1), _, g, l ++ [a], a0, by simpa using a4, by omega, by omega, ?_, a5, by rw [hu', hmu], g1, by simp; omega, g2, g3, g4, fun j j1 => ?_⟩
        · rw [deT_append]; simp [hm', nes, f1, deT]
        · simp [hm', far (show j < y.n by omega), show ¬ j = id by omega, hout j j1]
def Ihdd (k : Int) (n : Nat) (e : Nat) (s : S) : Prop := ∃ i : Nat, s.tm 0 = .v (.sl ((mkd k n).map Deed.v)) ∧ s.tm 1 = .v (.int .i64 (k + 3 * i)) ∧ s.tm 5 = .v (.int .i64 i) ∧ i ≤ n ∧ (e = 1 → i = n)
theorem heldDeedS_fn (n : Nat) (k : Int) (hl : n ≤ 2000000) (hk0 : 0 ≤ k) (hk : k ≤ 1000000) : FnZ Tryd.prog 9 [.sl ((mkd k n).map Deed.v), .int .i64 k] (.int .i64 (k + 3 * n)) := by
  refine FnZ_of (rs := [.tmp 4]) false Tryd.func9 rfl rfl rfl rfl (Nat.le_of_ble_eq_true rfl) ?_
  simp -dsimp
  refine twp_loopC (Ihdd k n 0) (fun s => n - natOf (s.tm 5)) (Ihdd k n 1) ?_ ?_ ?_
  · exact ⟨0, by simp -dsimp, by simp -dsimp, by simp -dsimp, by omega, by simp⟩
  · rintro s ⟨i, t0, t1, t5, hi, hend⟩
    have hcl : ((mkd k n).map Deed.v).length = n := by simp
    by_cases hlt : i < n
    case neg =>
      simp -dsimp [t0, t1, t5, hlt, hcl]
      exact ⟨i, by simp -dsimp [t0], by simp -dsimp [t1], by simp -dsimp [t5], hi, fun _ => by omega⟩
    have hget : ((mkd k n).map Deed.v)[i]? = some (Deed.v ⟨k + 3 * i, k + 3 * i + 1, mt (k + 3 * i + 2)⟩) := by rw [List.getElem?_map, mkd_get k n i hlt]; rfl
    have wi : IntKind.wrap .i64 ((i : Int) + 1) = ((i + 1 : Nat) : Int) := by rw [w64 (by omega) (by omega)]; omega
    have w1 : IntKind.wrap .i64 (k + 3 * i + 1) = k + 3 * i + 1 := w64 (by omega) (by omega)
    have w2 : IntKind.wrap .i64 (k + 3 * i + 1 + 1) = k + 3 * i + 2 := by rw [w64 (by omega) (by omega)]; omega
    have w3 : IntKind.wrap .i64 (k + 3 * i + 2 + 1) = k + 3 * ((i + 1 : Nat) : Int) := by rw [w64 (by omega) (by omega)]; omega
    have hmu : n - (i + 1) < n - i := by omega
    have hmt := markText_fn (k + 3 * i + 2) (by omega)
    generalize mt (k + 3 * i + 2) = tx at *
    generalize hrow : (mkd k n).map Deed.v = row at *
    have hlt2 : i < row.length := by omega
    have hget2 : row[i] = Deed.v ⟨k + 3 * i, k + 3 * i + 1, tx⟩ := by rw [List.getElem?_eq_getElem hlt2] at hget; exact Option.some.inj hget
    simp -dsimp [t0, t1, t5, hlt, hlt2, hcl, hget2, w1, w2, w3, wi, hmu]
    refine twp_draw (List.range 8) [] (List.replicate 8 []) (List.replicate 8 []) (by kernel_rfl) (by kernel_rfl) (by kernel_rfl) (by kernel_rfl) ?_
    simp -dsimp [List.range_succ, t0, t1, t5, hlt, hlt2, hcl, hget2, w1, w2, w3, wi, hmu]
    refine call_ hmt (by simp -dsimp) ?_
    simp -dsimp [List.range_succ, t0, t1, t5, hlt, hlt2, hcl, hget2, w1, w2, w3, wi, hmu]
    refine st_out fun s' ht hm' hn' hu' => ?_
    have a0 := ht 0
    have a1 := ht 1
    have a5 := ht 5
    simp -dsimp [t0] at a0 a1 a5 hm' hn' hu'
    clear ht
    exact ⟨i + 1, by rw [a0, hrow], by rw [a1]; congr 3, a5, by omega, by simp⟩
  · rintro s ⟨i, t0, t1, t5, hi, hend⟩
    have hil := hend rfl
    rw [hil] at t1
    simp -dsimp [t1]
end TL

/- The exact law of reading journals. -/
set_option linter.unusedSimpArgs false
set_option linter.unusedVariables false
set_option maxRecDepth 100000
set_option maxHeartbeats 4000000
set_option pp.maxSteps 1500
namespace TL
open Go Go.Proofs
attribute [local simp] marksV storyV codeV Claim.v Place.v Deed.v
theorem jr_more (l : List Deed) : l.length ≤ (jr l deedTx).length := by
  induction l with
  | nil => simp
  | cons a l ih => rw [jr_cons]; simp; omega
theorem lawExactReadJournal (s : List UInt8) : FnZ Tryd.prog 3 [.str s] (.bool true) := by
  by_cases hl : (1048576 : Int) < s.length
  · refine FnZ_of (rs := [.tmp 2]) false Tryd.func3 rfl rfl rfl rfl (Nat.le_of_ble_eq_true rfl) ?_
    have hl' : 1048576 < s.length := by omega
    simp -dsimp [hl, hl']
  have hl' : ¬ 1048576 < s.length := by omega
  have h1 := readJournalS_fn s (by omega)
  have h2 := fun m n => readJournal_own s (by omega) m n
  have h3 := readJournal_fn s (by omega)
  have hJ : (readJ s).1.length ≤ 1048576 := by
    have g1 := jr_more (readJ s).1
    rw [← readJ_len] at g1
    have := readJ_le s
    omega
  have h4 := eqDeedS_fn (readJ s).1 (readJ s).1 hJ
  have h5 := heldDeedS_fn (readJ s).1.length 1 (by omega) (by omega) (by omega)
  have hneg : ¬ (1 : Int) + 3 * ((readJ s).1.length : Int) < 0 := by omega
  generalize readJ s = J at *
  obtain ⟨J1, J2⟩ := J
  simp only at hJ h4 h5 hneg
  refine FnZ_of (rs := [.tmp 2]) false Tryd.func3 rfl rfl rfl rfl (Nat.le_of_ble_eq_true rfl) ?_
  simp -dsimp [hl, hl']
  refine call_ h1 (by simp -dsimp) ?_
  simp -dsimp
  refine callS_ (h2 _ _) ?_
  rintro t m1 n1 ⟨hn1, hout, id, rfl, i0, i1, him⟩
  have hb := bor_deeds 3 him
  simp -dsimp
  refine callM_ h4 (by simp -dsimp [hb]) rfl ?_
  simp -dsimp
  have hmk : FnS Tryd.prog 8 m1 n1 [.sv id 0 J1.length, .v (.int .i64 1)] (fun t m' n' => t = .v (.int .i64 (1 + 3 * J1.length)) ∧ n1 ≤ n' ∧ bor true m' 4 (.sv id 0 J1.length) = some (.sl ((mkd 1 J1.length).map Deed.v))) := by
    refine (markDeedS_fn J1 1 (by omega) (by omega) (by omega) _ _ id him).weak ?_
    rintro t m2 n2 ⟨h1, hn2, rfl⟩
    have := bor_deeds (m := updM m1 id (some (.box 36 3 (deT (mkd 1 J1.length))))) (i := id) (e := 36) (l := mkd 1 J1.length) 3 (by simp)
    rw [mkd_length] at this
    exact ⟨h1, hn2, this⟩
  clear hb him hout
  refine callS_ hmk ?_
  rintro t m2 n2 ⟨rfl, hn2, hb2⟩
  simp -dsimp
  refine callM_ h5 (by simp -dsimp [hb2]) rfl ?_
  simp -dsimp [hneg]
  refine call_ h3 (by simp -dsimp) ?_
  simp -dsimp
  refine call_ h4 (by simp -dsimp) ?_
  simp -dsimp
  refine callM_ h5 (by simp -dsimp [hb2]) rfl ?_
  simp -dsimp [hneg]
end TL

/- Drawn claims; the law of their texts. -/
set_option linter.unusedSimpArgs false
set_option linter.unusedVariables false
set_option maxRecDepth 100000
set_option maxHeartbeats 4000000
set_option pp.maxSteps 1500
namespace TL
open Go Go.Proofs
attribute [local simp] marksV storyV codeV Claim.v Place.v
/-- A number of people, and a claim. -/
def SomePC (x : V) : Prop := ∃ (people : Int) (c : Claim), 1 ≤ people ∧ people ≤ 4 ∧ c.says.length ≤ 20 ∧ c.fit ∧ x = .tup [.int .i64 people, c.v]
theorem claim_fine {c : Claim} (h : c.says.length ≤ 20) (hf : c.fit) : c.fine := ⟨hf.2, by omega⟩
end TL

/- Drawn texts of claims; the law of reading them. -/
set_option linter.unusedSimpArgs false
set_option linter.unusedVariables false
set_option maxRecDepth 100000
set_option maxHeartbeats 4000000
set_option pp.maxSteps 1500
namespace TL
open Go Go.Proofs
attribute [local simp] marksV storyV codeV Claim.v Place.v
def SomePS (x : V) : Prop := ∃ (people : Int) (s : List UInt8), s.length ≤ 200 ∧ x = .tup [.int .i64 people, .str s]
theorem odd_strs : ∃ vs : List V, vs = [.str [], .str [58], .str [97], .str [33], .str [40], .str [101]] ∧ ∀ r : Int, 0 ≤ r → r < 6 → ∃ x : List UInt8, x.length ≤ 1 ∧ vs[r.toNat]? = some (.str x) := by
  refine ⟨_, rfl, fun r h0 h6 => ?_⟩
  have : r = 0 ∨ r = 1 ∨ r = 2 ∨ r = 3 ∨ r = 4 ∨ r = 5 := by omega
  rcases this with rfl | rfl | rfl | rfl | rfl | rfl
  · exact ⟨[], by simp, rfl⟩
  · exact ⟨[58], by simp, rfl⟩
  · exact ⟨[97], by simp, rfl⟩
  · exact ⟨[33], by simp, rfl⟩
  · exact ⟨[40], by simp, rfl⟩
  · exact ⟨[101], by simp, rfl⟩
theorem readC_small {people : Int} {s : List UInt8} {c : Claim} (h : readC people s = some c) : c.says.length ≤ 13 := by
  have := claimOk_all (readC_is h).1; omega
end TL

/- Claims that are read, in memory of the caller's own; the exact law of reading claims. -/
set_option linter.unusedSimpArgs false
set_option linter.unusedVariables false
set_option maxRecDepth 100000
set_option maxHeartbeats 4000000
set_option pp.maxSteps 1500
namespace TL
open Go Go.Proofs
attribute [local simp] marksV storyV codeV Claim.v Place.v
theorem mkT_flat (l : List Mark) : (l.map Mark.v).flatMap (fun x => x.cells.map T.v) = mkT l := by
  induction l with
  | nil => rfl
  | cons a l ih => rw [List.map_cons, List.flatMap_cons, ih]; rfl
theorem mkT_kind (k : Int) : ∀ (l : List Mark) (i : Nat), (h : i < l.length) → (mkT l).set (i * 2) (.v (.int .i64 k)) = mkT (l.set i ⟨k, l[i].num⟩)
  | [], i, h => by simp at h
  | a :: l, 0, h => rfl
  | a :: l, i + 1, h => by
    have e : (i + 1) * 2 = i * 2 + 1 + 1 := by omega
    rw [e]
    show T.v _ :: T.v _ :: (mkT l).set (i * 2) _ = T.v _ :: T.v _ :: mkT (l.set i _)
    rw [mkT_kind k l i (by simpa using h)]; rfl
theorem mkT_num (k : Int) : ∀ (l : List Mark) (i : Nat), (h : i < l.length) → (mkT l).set (i * 2 + 1) (.v (.int .i64 k)) = mkT (l.set i ⟨l[i].kind, k⟩)
  | [], i, h => by simp at h
  | a :: l, 0, h => rfl
  | a :: l, i + 1, h => by
    have e : (i + 1) * 2 + 1 = (i * 2 + 1) + 1 + 1 := by omega
    rw [e]
    show T.v _ :: T.v _ :: (mkT l).set (i * 2 + 1) _ = T.v _ :: T.v _ :: mkT (l.set i _)
    rw [mkT_num k l i (by simpa using h)]; rfl
/-- Marks that count on from k. -/
def cnts (k : Int) : Nat → List Mark
  | 0 => []
  | n + 1 => cnts k n ++ [⟨k + 2 * n, k + 2 * n + 1⟩]
@[simp] theorem cnts_length (k : Int) (n : Nat) : (cnts k n).length = n := by
  induction n with
  | zero => rfl
  | succ n ih => simp [cnts, ih]
theorem cnts_get (k : Int) : ∀ (n i : Nat) (h : i < n), (cnts k n)[i]? = some ⟨k + 2 * i, k + 2 * i + 1⟩
  | n + 1, i, h => by
    unfold cnts
    by_cases hi : i < n
    · rw [List.getElem?_append_left (by simpa using hi)]; exact cnts_get k n i hi
    · have : i = n := by omega
      subst this
      rw [List.getElem?_append_right (by simp)]; simp
theorem cnts_step (k : Int) (l : List Mark) (i : Nat) (h : i < l.length) (a : Int) : ((cnts k i ++ l.drop i).set i ⟨k + 2 * i, a⟩).set i ⟨k + 2 * i, k + 2 * i + 1⟩ = cnts k (i + 1) ++ l.drop (i + 1) := by
  rw [List.set_set, List.set_append_right _ _ (by simp), cnts_length, Nat.sub_self, drop_cons h, List.set_cons_zero]
  simp [cnts]
def Imk (id : Nat) (l : List Mark) (k : Int) (m0 : Mem) (n0 : Nat) (e : Nat) (s : S) : Prop := ∃ i : Nat, s.tm 0 = .sv id 0 l.length ∧ s.tm 1 = .v (.int .i64 (k + 2 * i)) ∧ s.tm 5 = .v (.int .i64 i) ∧ i ≤ l.length ∧ n0 ≤ s.n ∧ s.m = updM m0 id (some (.box 86 2 (mkT (cnts k i ++ l.drop i)))) ∧ (e = 1 → i = l.length)
theorem markMarkS_fn (l : List Mark) (k : Int) (hl : l.length ≤ 1000000) (hk0 : 0 ≤ k) (hk : k ≤ 1000000) (m : Mem) (n id : Nat) (hm : m id = some (.box 86 2 (mkT l))) :
    FnS Tryd.prog 47 m n [.sv id 0 l.length, .v (.int .i64 k)] (fun t m' n' => t = .v (.int .i64 (k + 2 * l.length)) ∧ n ≤ n' ∧ m' = updM m id (some (.box 86 2 (mkT (cnts k l.length))))) := by
  refine FnS_of (rs := [.tmp 4]) false Tryd.func47 rfl rfl rfl rfl (Nat.le_of_ble_eq_true rfl) ?_
  simp -dsimp
  refine twp_loopC (Imk id l k m n 0) (fun s => l.length - natOf (s.tm 5)) (Imk id l k m n 1) ?_ ?_ ?_
  · exact ⟨0, by simp -dsimp, by simp -dsimp, by simp -dsimp, by omega, by simp -dsimp, by simp -dsimp [cnts]; exact (updM_self hm).symm, by simp⟩
  · rintro s ⟨i, t0, t1, t5, hi, hn, hmm, hend⟩
    by_cases hlt : i < l.length
    case neg =>
      simp -dsimp [t0, t5, hlt]
      exact ⟨i, by simp -dsimp [t0], by simp -dsimp [t1], by simp -dsimp [t5], hi, by simp -dsimp [hn], by simp -dsimp [hmm], fun _ => by omega⟩
    have hL : (cnts k i ++ l.drop i).length = l.length := by simp; omega
    have e1 := mkT_kind (k + 2 * i) (cnts k i ++ l.drop i) i (by omega)
    generalize hnum : ((cnts k i ++ l.drop i)[i]'(by omega)).num = nu at *
    have e2 := mkT_num (k + 2 * i + 1) ((cnts k i ++ l.drop i).set i ⟨k + 2 * i, nu⟩) i (by simp; omega)
    have e3 : (((cnts k i ++ l.drop i).set i ⟨k + 2 * i, nu⟩)[i]'(by simp; omega)).kind = k + 2 * i := by simp
    rw [e3, cnts_step k l i hlt] at e2
    have hmi : s.m id = some (.box 86 2 (mkT (cnts k i ++ l.drop i))) := by rw [hmm, updM_same]
    have hlen1 : (mkT (cnts k i ++ l.drop i)).length = l.length * 2 := by rw [mkT_length, hL]
    have hlen2 : (mkT ((cnts k i ++ l.drop i).set i ⟨k + 2 * i, nu⟩)).length = l.length * 2 := by rw [mkT_length, List.length_set, hL]
    have wi : IntKind.wrap .i64 ((i : Int) + 1) = ((i + 1 : Nat) : Int) := by rw [w64 (by omega) (by omega)]; omega
    have w1 : IntKind.wrap .i64 (k + 2 * i + 1) = k + 2 * i + 1 := w64 (by omega) (by omega)
    have w2 : IntKind.wrap .i64 (k + 2 * i + 1 + 1) = k + 2 * ((i + 1 : Nat) : Int) := by rw [w64 (by omega) (by omega)]; omega
    have hmu : l.length - (i + 1) < l.length - i := by omega
    have hlt' : (i : Int) < (l.length : Int) := by omega
    have o1 : i * 2 + 1 ≤ l.length * 2 := by omega
    have o2 : i * 2 + 1 + 1 ≤ l.length * 2 := by omega
    have o3 : i * 2 < l.length * 2 := by omega
    have o4 : i * 2 + 1 < l.length * 2 := by omega
    generalize mkT (cnts k i ++ l.drop i) = c1 at *
    generalize mkT ((cnts k i ++ l.drop i).set i ⟨k + 2 * i, nu⟩) = c2 at *
    generalize hc3 : mkT (cnts k (i + 1) ++ l.drop (i + 1)) = c3 at *
    simp -dsimp [t0, t1, t5, hlt, hlt', hmi, hlen1, hlen2, setAt, e1, e2, w1, w2, wi, hmu, o1, o2, o3, o4]
    refine st_out fun s' ht hm' hn' hu' => ?_
    have a0 := ht 0
    have a1 := ht 1
    have a5 := ht 5
    simp -dsimp [t0] at a0 a1 a5 hm' hn' hu'
    clear ht
    refine ⟨i + 1, a0, by rw [a1]; congr 3, a5, by omega, by omega, ?_, by simp⟩
    rw [hm', hmm, hc3]; simp
  · rintro s ⟨i, t0, t1, t5, hi, hn, hmm, hend⟩
    have hil := hend rfl
    rw [hil, List.drop_length, List.append_nil] at hmm
    rw [hil] at t1
    simp -dsimp [t1]
    exact ⟨hn, hmm⟩
def IhdM (k : Int) (l : Nat) (e : Nat) (s : S) : Prop := ∃ i : Nat, s.tm 0 = .v (.sl ((cnts k l).map Mark.v)) ∧ s.tm 1 = .v (.int .i64 (k + 2 * i)) ∧ s.tm 5 = .v (.int .i64 i) ∧ i ≤ l ∧ (e = 1 → i = l)
theorem heldMarkS_fn (l : Nat) (k : Int) (hl : l ≤ 1000000) (hk0 : 0 ≤ k) (hk : k ≤ 1000000) : FnZ Tryd.prog 48 [.sl ((cnts k l).map Mark.v), .int .i64 k] (.int .i64 (k + 2 * l)) := by
  refine FnZ_of (rs := [.tmp 4]) false Tryd.func48 rfl rfl rfl rfl (Nat.le_of_ble_eq_true rfl) ?_
  simp -dsimp
  refine twp_loopC (IhdM k l 0) (fun s => l - natOf (s.tm 5)) (IhdM k l 1) ?_ ?_ ?_
  · exact ⟨0, by simp -dsimp, by simp -dsimp, by simp -dsimp, by omega, by simp⟩
  · rintro s ⟨i, t0, t1, t5, hi, hend⟩
    by_cases hlt : i < l
    case neg =>
      simp -dsimp [t0, t5, hlt]
      exact ⟨i, by simp -dsimp [t0], by simp -dsimp [t1], by simp -dsimp [t5], hi, fun _ => by omega⟩
    have hget : ((cnts k l).map Mark.v)[i]? = some (Mark.v ⟨k + 2 * i, k + 2 * i + 1⟩) := by rw [List.getElem?_map, cnts_get k l i hlt]; rfl
    have hcl : ((cnts k l).map Mark.v).length = l := by simp
    have wi : IntKind.wrap .i64 ((i : Int) + 1) = ((i + 1 : Nat) : Int) := by rw [w64 (by omega) (by omega)]; omega
    have w1 : IntKind.wrap .i64 (k + 2 * i + 1) = k + 2 * i + 1 := w64 (by omega) (by omega)
    have w2 : IntKind.wrap .i64 (k + 2 * i + 1 + 1) = k + 2 * ((i + 1 : Nat) : Int) := by rw [w64 (by omega) (by omega)]; omega
    have hmu : l - (i + 1) < l - i := by omega
    generalize hrow : (cnts k l).map Mark.v = row at *
    have hlt2 : i < row.length := by omega
    have hget2 : row[i] = Mark.v ⟨k + 2 * i, k + 2 * i + 1⟩ := by rw [List.getElem?_eq_getElem hlt2] at hget; exact Option.some.inj hget
    simp -dsimp [t0, t1, t5, hlt, hlt2, hcl, hget2, w1, w2, wi, hmu]
    refine st_out fun s' ht hm' hn' hu' => ?_
    have a0 := ht 0
    have a1 := ht 1
    have a5 := ht 5
    simp -dsimp [t0] at a0 a1 a5 hm' hn' hu'
    clear ht
    exact ⟨i + 1, by rw [a0, hrow], by rw [a1]; congr 3, a5, by omega, by simp⟩
  · rintro s ⟨i, t0, t1, t5, hi, hend⟩
    have hil := hend rfl
    rw [hil] at t1
    simp -dsimp [t1]
/-- A row of marks in memory of one's own. -/
def OwnRow (m' : Mem) (n n' : Nat) (st : T) (l : List Mark) : Prop := ∃ id, st = .sv id 0 l.length ∧ n ≤ id ∧ id < n' ∧ m' id = some (.box 86 2 (mkT l))
theorem cloneMarks_own (l : List Mark) (h0 : l ≠ []) (hl : l.length ≤ 1048576) (m : Mem) (n : Nat) : FnS Tryd.prog 63 m n [.v (marksV l)] (fun t m' n' => n ≤ n' ∧ (∀ j, j < n → m' j = m j) ∧ OwnRow m' n n' t l) := by
  have b1 : l.length * 16 ≤ 140737488355328 := by omega
  have hfl := mkT_flat l
  refine FnS_of (rs := [.tmp 2]) true Tryd.func63 rfl rfl rfl rfl (Nat.le_of_ble_eq_true rfl) ?_
  simp -dsimp [b1, h0, hfl]
  exact ⟨by omega, fun j hj => by simp [far hj], n + 1, rfl, by omega, by omega, by simp⟩
theorem claimBy_own (people who : Int) (t : List Mark) (hk : claimOk people ⟨who, t⟩ = true) (m : Mem) (n : Nat) :
    FnS Tryd.prog 41 m n [.v (.int .i64 people), .v (.int .i64 who), .v (marksV t)] (fun x m' n' => n ≤ n' ∧ (∀ j, j < n → m' j = m j) ∧ ∃ st, x = .tup [.agg [.v (.int .i64 who), st], .v (.bool true)] ∧ OwnRow m' n n' st t) := by
  have hc := claimOk_fn people ⟨who, t⟩
  rw [hk] at hc
  have ht := (claimOk_all hk).2.2.2.2
  have hl := ht.2
  have h0 : t ≠ [] := by rintro rfl; have := termOk_pos ht.1; simp at this
  simp only at hl h0
  refine FnS_of (rs := [.cell 6 48, .tmp 7]) true Tryd.func41 rfl rfl rfl rfl (Nat.le_of_ble_eq_true rfl) ?_
  simp -dsimp
  refine callS_ (cloneMarks_own t h0 (by omega) _ _) ?_
  rintro x m1 n1 ⟨hn1, hout, id, rfl, hi0, hi1, hmi⟩
  have f1 := far hi1
  have f2 := far (show n < n1 by omega)
  have g1 : ¬ id = n := by omega
  have hmn := hout n (by omega)
  simp -dsimp [f1, f2, g1, Ne.symm g1] at hmn ⊢
  have hb := bor_marks (m := updM m1 n1 (some (.box 48 2 [.v (.int .i64 who), .sv id 0 t.length]))) (i := id) (e := 86) (ms := t) 2 (by simp [f1, hmi])
  refine callM_ hc (by simp -dsimp [f1, f2, hb, hmi]) rfl ?_
  simp -dsimp [f1, f2, g1, Ne.symm g1, hmn]
  refine ⟨by omega, fun j hj => ?_, id, rfl, by omega, by omega, by simp [f1, g1, hmi]⟩
  have q1 : ¬ j = n := by omega
  have q2 : ¬ j = n1 := by omega
  rw [if_neg q1, if_neg q2, hout j (by omega)]; simp [q1]
theorem readC_len' {people : Int} {s : List UInt8} {c : Claim} (h : readC people s = some c) : 3 ≤ s.length ∧ s.length ≤ 27 := by
  obtain ⟨h1, h2⟩ := readC_is h
  rw [← h2]; exact ⟨(claimTx_len h1).1, (claimTx_len h1).2.1⟩
theorem readClaim_own (people : Int) (s : List UInt8) (c : Claim) (hl : s.length ≤ 2000000000) (hr : readC people s = some c) (m : Mem) (n : Nat) :
    FnS Tryd.prog 25 m n [.v (.int .i64 people), .v (.str s)] (fun x m' n' => n ≤ n' ∧ (∀ j, j < n → m' j = m j) ∧ ∃ st, x = .tup [.agg [.v (.int .i64 c.who), st], .v (.bool true)] ∧ OwnRow m' n n' st c.says) := by
  match s, hl, hr with
  | [], hl, hr => cases hr
  | [a], hl, hr => cases hr
  | a :: b :: s, hl, hr =>
    have hlen := readC_len' hr
    simp only [List.length_cons] at hlen
    by_cases hb : b = 58
    case neg => 
      have : readC people (a :: b :: s) = none := if_neg hb
      rw [this] at hr; cases hr
    subst hb
    have e : readC people (a :: 58 :: s) = (readT people s).bind fun t => if claimOk people ⟨(a.toNat : Int) - 97, t⟩ = true then some ⟨(a.toNat : Int) - 97, t⟩ else none := rfl
    rw [e] at hr
    have ht := readTerm_fn people s (by simp at hl; omega)
    cases ho : readT people s with
    | none => rw [ho] at hr; cases hr
    | some t =>
      rw [ho, Option.bind_some] at hr
      rw [ho] at ht
      have hk := ft (claimOk people ⟨(a.toNat : Int) - 97, t⟩)
      rcases hk with hk | hk
      · rw [if_neg (by simp [hk])] at hr; cases hr
      rw [if_pos hk] at hr
      cases hr
      have hlt := UInt8.toNat_lt a
      have w1 : IntKind.wrap .i64 ((a.toNat : Int) - 97) = (a.toNat : Int) - 97 := w64 (by omega) (by omega)
      have w2 : IntKind.wrap .i64 (a.toNat : Int) = (a.toNat : Int) := w64 (by omega) (by omega)
      have h3' : ¬ ((s.length : Int) + 1 + 1 < 3) := by omega
      have l2 : (2 : Int) ≤ (s.length : Int) + 1 + 1 := by omega
      have l3 : ((s.length : Int) + 1 + 1).toNat = s.length + 1 + 1 := by omega
      have hcb := claimBy_own people ((a.toNat : Int) - 97) t hk
      refine FnS_of (rs := [.cell 4 48, .tmp 5]) true Tryd.func25 rfl rfl rfl rfl (Nat.le_of_ble_eq_true rfl) ?_
      simp -dsimp [h3', l2, l3]
      refine call_ ht (by simp -dsimp) ?_
      simp -dsimp [optV, w1, w2]
      refine callS_ (hcb _ _) ?_
      rintro x m1 n1 ⟨hn1, hout, st, rfl, id, rfl, hi0, hi1, hmi⟩
      have f2 := far (show n < n1 by omega)
      have g1 : ¬ id = n := by omega
      have hmn := hout n (by omega)
      simp -dsimp at hmn
      simp -dsimp [f2, g1, Ne.symm g1, hmn]
      refine ⟨by omega, fun j hj => ?_, id, rfl, by omega, by omega, by simp [g1, hmi]⟩
      have q1 : ¬ j = n := by omega
      rw [if_neg q1, hout j (by omega)]; simp [q1]
theorem opens_str (w : World) : Opens Tryd.prog w 9 fun vs => ∃ s : List UInt8, s.length ≤ maxLen ∧ vs = [.str s] :=
  (opens_string Tryd.underlying9).mono fun vs h => by obtain ⟨s, rfl, hl⟩ := h; exact ⟨s, hl, rfl⟩
end TL

/- The exact law of reading journals, as a row. -/
set_option linter.unusedSimpArgs false
set_option linter.unusedVariables false
namespace TL
open Go Go.Proofs
theorem exactReadJournal_row (s : List UInt8) (h : s.length ≤ maxLen) : FnZ Tryd.prog 3 [.str s] (.bool true) := lawExactReadJournal s
end TL

/- A cell lies in its block. -/
namespace TL
open Go
theorem lt_of_cell {W : World} {g : Nat} {v : Value} (h : W.cell? ⟨g, 0, none⟩ = some v) : g < W.heap.size := by
  unfold World.cell? at h
  split at h
  · rename_i hb; exact (Array.getElem?_eq_some_iff.1 hb).1
  · cases h
end TL

/- The library's variables at the start: what the world's shape and the row's listed data give. -/
namespace TL
open Go Go.Proofs
/-- A listed sentinel is an interface value. -/
theorem laid_iface {P : Program} {n nm : String} {d : DataW Unit} {r : List (String × DataW Unit)} {W : World} {g : Nat} {ti : TypeId} {ms : Array (String × TypeId)}
    (h : laidMet P ((n, .iface nm d) :: r) W) (hg : P.globalNamed n = some g) (ht : (P.globals[g]?).map (·.type) = some ti) (hi : P.underlying ti = some (.interface ms)) : ∃ u v, W.cell? ⟨g, 0, none⟩ = some (.iface u v) := by
  obtain ⟨ps, ⟨g0, t0, cs0, f0, p0, q0, hg0, ht0, hv0, hd0, _, e0⟩, _, hrows⟩ := h
  obtain rfl := Option.some.inj (hg.symm.trans hg0)
  obtain rfl := Option.some.inj (ht.symm.trans ht0)
  obtain ⟨l0⟩ := cs0
  obtain ⟨f1, u, v, hl, _, _⟩ := iface_of_trod hi hd0
  have hl : l0 = [.iface u v] := hl
  subst hl
  exact ⟨u, v, by simpa using World.var?_cell hg0 hv0 0⟩
theorem gl_start {W : World} (h : W.ShapedOpen Tryd.prog) (hr : ∃ u v, W.cell? ⟨Tryd.laysC172_ren.g 16, 0, none⟩ = some (.iface u v)) (hs : ∃ u v, W.cell? ⟨Tryd.laysC172_ren.g 15, 0, none⟩ = some (.iface u v)) : Gl Tryd.prog (ZA W) W := by
  have n1 : Tryd.prog.globalNamed "internal/bytealg.MaxLen" = some 0 := by kernel_rfl
  have n2 : Tryd.prog.globalNamed "strconv.ErrSyntax" = some (Tryd.laysC172_ren.g 15) := Tryd.laysC172.m15
  have n3 : Tryd.prog.globalNamed "strconv.ErrRange" = some (Tryd.laysC172_ren.g 16) := Tryd.laysC172.m16
  have hm : ∃ m, W.cell? ⟨0, 0, none⟩ = some (.int .i64 m) := Tryd.laysM145.s1_3 W h
  rintro g Q (⟨e, rfl⟩ | ⟨e | e, rfl⟩)
  · rw [n1] at e; cases e
    obtain ⟨m, hm⟩ := hm
    exact ⟨lt_of_cell hm, _, hm, m, rfl⟩
  · rw [n2] at e
    obtain rfl := Option.some.inj e
    obtain ⟨u, v, hs⟩ := hs
    exact ⟨lt_of_cell hs, _, hs, .inr ⟨u, v, rfl⟩⟩
  · rw [n3] at e
    obtain rfl := Option.some.inj e
    obtain ⟨u, v, hr⟩ := hr
    exact ⟨lt_of_cell hr, _, hr, .inr ⟨u, v, rfl⟩⟩
end TL

/- A closed fact of the program. -/
set_option maxRecDepth 100000
namespace Go.Proofs.YtlcgghbbjfeehabDoor.wide
open Go
theorem may_enter : Tryd.pinned.checked.prog.mayEnter = true := by kernel_rfl
end Go.Proofs.YtlcgghbbjfeehabDoor.wide

/- A closed fact of the program. -/
set_option maxRecDepth 100000
namespace Go.Proofs.YtlcgghbbjfeehabDoor.wide
open Go
theorem lifts_are : Tryd.pinned.checked.prog.liftsFinal = Rows.fnExactReadJournalRow.lifted := by kernel_rfl
end Go.Proofs.YtlcgghbbjfeehabDoor.wide

/- A closed fact of the program. -/
set_option maxRecDepth 100000
namespace Go.Proofs.YtlcgghbbjfeehabDoor.wide
open Go
theorem make_is : Tryd.pinned.checked.prog.make = some Rows.fnExactReadJournalRow.make := by kernel_rfl
end Go.Proofs.YtlcgghbbjfeehabDoor.wide

/- A closed fact of the program. -/
set_option maxRecDepth 100000
namespace Go.Proofs.YtlcgghbbjfeehabDoor.wide
open Go
theorem main_is : Tryd.pinned.checked.prog.mainIs = some (true, "92c2fdf8d1ac7926b4795e35771ebcc280f76ce8c1d6e7d6c4c88b31a180205a".toList) := by kernel_rfl
theorem looks_are : true = Tryd.pinned.checked.prog.looks [] := by kernel_rfl
end Go.Proofs.YtlcgghbbjfeehabDoor.wide
