/- TL: parts FnsE12, FnsP2, FnsP3, FnsE15o, FnsE15b, FnsS0, FnsS1, FnsK1, FnsJH, FnsJI, FnsS2a, FnsE16, FnsE17s, FnsE17, FnsL3, FnsE15a, FnsE18, FnsS2, FnsJM, FnsGDb, FnsGD, TlWrap, FnsFWa, FnsFWb, FnsFWc, FnsFWd. -/
import Derived.Test.YtibdhpnjjgppgaaGreatDoorGg
import Derived.Test.YtibdhpnjjgppgaaGreatDoorGj
import Derived.Test.YtibdhpnjjgppgaaGreatDoorGh
import Derived.Test.YtibdhpnjjgppgaaGreatDoorGi
import Derived.Test.YtibdhpnjjgppgaaGreatDoorGf
import Derived.Test.YtibdhpnjjgppgaaGreatDoorShelfC
import Derived.Shelf.Strings.Cut
import Derived.Shelf.Strconv.AtoiAll
import Derived.Lib.SmallJoins
import Derived.WalkSmall
import Derived.Test.YtibdhpnjjgppgaaGreatDoorGd
import Derived.Test.YtibdhpnjjgppgaaGreatDoorShelfB
import Derived.Stop.LaidErr
import Derived.LaidLaws
import Derived.KernelRfl
import Derived.HandedShaped
import Derived.Test.YtibdhpnjjgppgaaGreatDoorRows
import Derived.JoinedOf
import Derived.SevenTiedAt
/- Stores: whether they are sound, what a crash leaves, what a sync makes. -/
set_option linter.unusedSimpArgs false
set_option linter.unusedVariables false
set_option maxRecDepth 100000
set_option maxHeartbeats 4000000
set_option pp.maxSteps 1500
namespace TL
open Go Go.Proofs
attribute [local simp] marksV storyV codeV Claim.v Place.v Store.v
noncomputable def storeOk (s : Store) : Bool := (readP s.saved).isSome && decide (s.log.length ≤ 1000) && decide (0 ≤ s.sure) && decide (s.sure ≤ s.log.length)
def Store.small (s : Store) : Prop := s.saved.length ≤ 2000000000 ∧ s.log.length ≤ 2000000000
theorem storeOk_fn (s : Store) (h : s.small) : FnZ Tryz.prog 56 [s.v] (.bool (storeOk s)) := by
  have hr := readPlace_fn s.saved h.1
  have e : storeOk s = ((readP s.saved).isSome && decide ((s.log.length : Int) ≤ 1000) && decide (0 ≤ s.sure) && decide (s.sure ≤ s.log.length)) := by
    unfold storeOk; congr 3; rw [decide_eq_decide]; omega
  rw [e]
  clear e
  obtain ⟨s1, s2, s3⟩ := s
  simp only at hr ⊢
  generalize readP s1 = o at *
  refine FnZ_of (rs := [.tmp 2]) false Tryz.func56 rfl rfl rfl rfl (Nat.le_of_ble_eq_true rfl) ?_
  simp -dsimp
  refine call_ hr (by simp -dsimp) ?_
  cases o with
  | none => simp -dsimp [optP]
  | some p =>
    by_cases h1 : (s2.length : Int) ≤ 1000
    case neg => simp -dsimp [optP, h1]
    by_cases h2 : 0 ≤ s3
    case neg => simp -dsimp [optP, h1, h2]
    by_cases h3 : s3 ≤ (s2.length : Int)
    · simp -dsimp [optP, h1, h2, h3]
    · simp -dsimp [optP, h1, h2, h3]
theorem storeOkS_fn (s : Store) (h : s.small) : FnZ Tryz.prog 53 [s.v] (.bool (storeOk s)) := by
  have hr := readPlaceS_fn s.saved h.1
  have hin := l1In_z s.sure 0 s.log.length
  have e : storeOk s = ((readP s.saved).isSome && decide ((s.log.length : Int) ≤ 1000) && (decide (0 ≤ s.sure) && decide (s.sure ≤ s.log.length))) := by
    unfold storeOk; rw [Bool.and_assoc]; congr 2; rw [decide_eq_decide]; omega
  rw [e]
  clear e
  obtain ⟨s1, s2, s3⟩ := s
  simp only at hr hin ⊢
  generalize readP s1 = o at *
  generalize (decide (0 ≤ s3) && decide (s3 ≤ (s2.length : Int))) = b at *
  refine FnZ_of (rs := [.tmp 2]) false Tryz.func53 rfl rfl rfl rfl (Nat.le_of_ble_eq_true rfl) ?_
  simp -dsimp
  refine call_ hr (by simp -dsimp) ?_
  cases o with
  | none => simp -dsimp [optP]
  | some p =>
    by_cases h1 : (s2.length : Int) ≤ 1000
    case neg => simp -dsimp [optP, h1]
    simp -dsimp [optP, h1]
    refine call_ hin (by simp -dsimp) ?_
    simp -dsimp [optP, h1]
noncomputable def crashOk (s : Store) (k : Int) : Bool := storeOk s && (decide (s.sure ≤ k) && decide (k ≤ s.log.length))
noncomputable def storeCrash (s : Store) (k : Int) : Store := if crashOk s k = true then ⟨s.saved, s.log.take k.toNat, s.sure⟩ else noStore
theorem storeOk_sure {s : Store} (h : storeOk s = true) : 0 ≤ s.sure := by
  simp only [storeOk, Bool.and_eq_true, decide_eq_true_eq] at h; exact h.1.2
noncomputable def storeSync (s : Store) : Store := if storeOk s = true then ⟨s.saved, s.log, s.log.length⟩ else noStore
/-! The exact laws. -/
def Store.bulk (s : Store) : Nat := s.saved.length + s.log.length
def Store.mid (s : Store) : Prop := s.saved.length ≤ 9223372036854775807 ∧ s.log.length ≤ 9223372036854775807
theorem szStore_fn (s : Store) (h : s.mid) : FnZ Tryz.prog 21 [s.v, .int .i64 1048576] (.int .i64 (szR 1048576 s.bulk)) := by
  obtain ⟨s1, s2, s3⟩ := s
  obtain ⟨m1, m2⟩ := h
  simp only at m1 m2
  unfold szR Store.bulk
  simp only
  have w1 : IntKind.wrap .i64 (1048576 - (s1.length : Int)) = 1048576 - (s1.length : Int) := w64 (by omega) (by omega)
  by_cases h1 : (1048576 : Int) - s1.length < 0
  · have e : (if (1048576 : Int) - ((s1.length + s2.length : Nat) : Int) < 0 then (-1 : Int) else 1048576 - ((s1.length + s2.length : Nat) : Int)) = -1 := if_pos (by omega)
    rw [e]
    refine FnZ_of (rs := [.tmp 4]) false Tryz.func21 rfl rfl rfl rfl (Nat.le_of_ble_eq_true rfl) ?_
    simp -dsimp [w1, h1]
  have w2 : IntKind.wrap .i64 (1048576 - (s1.length : Int) - (s2.length : Int)) = 1048576 - (s1.length : Int) - (s2.length : Int) := w64 (by omega) (by omega)
  by_cases h2 : (1048576 : Int) - s1.length - s2.length < 0
  · have e : (if (1048576 : Int) - ((s1.length + s2.length : Nat) : Int) < 0 then (-1 : Int) else 1048576 - ((s1.length + s2.length : Nat) : Int)) = -1 := if_pos (by omega)
    rw [e]
    refine FnZ_of (rs := [.tmp 4]) false Tryz.func21 rfl rfl rfl rfl (Nat.le_of_ble_eq_true rfl) ?_
    simp -dsimp [w1, w2, h1, h2]
  · have e : (if (1048576 : Int) - ((s1.length + s2.length : Nat) : Int) < 0 then (-1 : Int) else 1048576 - ((s1.length + s2.length : Nat) : Int)) = 1048576 - (s1.length : Int) - (s2.length : Int) := by rw [if_neg (by omega)]; omega
    rw [e]
    refine FnZ_of (rs := [.tmp 4]) false Tryz.func21 rfl rfl rfl rfl (Nat.le_of_ble_eq_true rfl) ?_
    simp -dsimp [w1, w2, h1, h2]
theorem toStore_fn (s : Store) : FnZ Tryz.prog 23 [s.v] s.v := by
  obtain ⟨s1, s2, s3⟩ := s
  refine FnZ_of (rs := [.cell 2 59]) false Tryz.func23 rfl rfl rfl rfl (Nat.le_of_ble_eq_true rfl) ?_
  simp -dsimp
theorem store_ready {s : Store} (hz : ¬ szR 1048576 s.bulk < 0) : s.small := by
  unfold szR Store.bulk at hz
  split at hz
  · omega
  · exact ⟨by omega, by omega⟩
theorem opens_store (w : World) : Opens Tryz.prog w 56 fun vs => ∃ s : Store, s.mid ∧ s.v = .agg vs :=
  (opens_struct3 Tryz.underlying56 rfl (by kernel_rfl) (by kernel_rfl) (by kernel_rfl) (opens_string Tryz.underlying9) (opens_string Tryz.underlying9) (opens_int Tryz.underlying3)).mono fun vs h => by
    obtain ⟨v0, v1, v2, rfl, ⟨s, rfl, hs⟩, ⟨t, rfl, ht⟩, ⟨n, rfl, wn⟩⟩ := h
    exact ⟨⟨s, t, n⟩, ⟨by simpa [maxLen] using hs, by simpa [maxLen] using ht⟩, rfl⟩
end TL

/- Journals and stores, in plain words. -/
set_option linter.unusedSimpArgs false
set_option linter.unusedVariables false
set_option maxRecDepth 100000
set_option maxHeartbeats 4000000
set_option pp.maxSteps 1500
namespace TL
open Go Go.Proofs
theorem deed_line {a : Deed} (h1 : deedTx a ≠ []) : ∀ y ∈ deedTx a, y ≠ 10 := by
  rcases deed_cases h1 with ⟨w, rfl, ⟨d, hd⟩, e⟩ | ⟨n, h0, h9, rfl, e⟩ | ⟨n, h0, h9, rfl, e⟩ | ⟨rfl, e⟩ | ⟨rfl, e⟩ <;> rw [e]
  · intro y hy
    rcases List.mem_append.1 hy with hy | hy
    · have h10 : ∀ y ∈ txSay, y ≠ (10 : UInt8) := by decide
      exact h10 y hy
    · exact (readC_clean hd y hy).2
  · intro y hy
    rcases List.mem_append.1 hy with hy | hy
    · have h10 : ∀ y ∈ txDrop, y ≠ (10 : UInt8) := by decide
      exact h10 y hy
    · exact ((good_dec h0 h9).2.2 y hy).2
  · intro y hy
    rcases List.mem_append.1 hy with hy | hy
    · have h10 : ∀ y ∈ txPeople, y ≠ (10 : UInt8) := by decide
      exact h10 y hy
    · exact ((good_dec h0 h9).2.2 y hy).2
  · decide
  · decide
theorem readJF_fuel : ∀ (f g : Nat) (s : List UInt8), s.length < f → s.length < g → readJF f s = readJF g s
  | 0, _, _, h, _ => absurd h (by omega)
  | f + 1, 0, _, _, h => absurd h (by omega)
  | f + 1, g + 1, s, hf, hg => by
    cases hc : (Go.Lib.cut s [10]).2.2
    · rw [readJF_stop (.inl hc), readJF_stop (.inl hc)]
    · cases hr : readD (Go.Lib.cut s [10]).1 with
      | none => rw [readJF_stop (.inr hr), readJF_stop (.inr hr)]
      | some a =>
        have hs := congrArg List.length (cut_found hc).1
        simp only [List.length_append, List.length_cons] at hs
        rw [readJF_step hc hr, readJF_step hc hr, readJF_fuel f g _ (by omega) (by omega)]
theorem readJ_clean {s : List UInt8} (h : ∀ y ∈ s, y ≠ 10) : readJ s = ([], 0) := readJF_stop (.inl (by rw [cut_clean h]))
theorem readJ_halt {x r : List UInt8} (h : ∀ y ∈ x, y ≠ 10) (ha : readD x = none) : readJ (x ++ 10 :: r) = ([], 0) := readJF_stop (.inr (by rw [cut_at h]; exact ha))
theorem readJ_step {x r : List UInt8} {a : Deed} (h : ∀ y ∈ x, y ≠ 10) (ha : readD x = some a) : readJ (x ++ 10 :: r) = (a :: (readJ r).1, x.length + 1 + (readJ r).2) := by
  have hc := cut_at (r := r) h
  unfold readJ
  rw [readJF_step (a := a) (by rw [hc]) (by rw [hc]; exact ha), hc]
  simp only
  rw [readJF_fuel _ (r.length + 1) r (by simp only [List.length_append, List.length_cons]; omega) (by omega)]
theorem jr_cons (a : Deed) (l : List Deed) : jr (a :: l) deedTx = deedTx a ++ 10 :: jr l deedTx := by simp [jr]
theorem jr_append (l k : List Deed) : jr (l ++ k) deedTx = jr l deedTx ++ jr k deedTx := by simp [jr]
theorem readJ_app {l : List Deed} (h : ∀ a ∈ l, deedTx a ≠ []) (r : List UInt8) : readJ (jr l deedTx ++ r) = (l ++ (readJ r).1, (jr l deedTx).length + (readJ r).2) := by
  induction l with
  | nil => simp [jr]
  | cons a l ih =>
    have h1 := h a (List.mem_cons_self ..)
    have ih := ih fun b hb => h b (List.mem_cons_of_mem _ hb)
    rw [jr_cons, List.append_assoc, List.cons_append, readJ_step (deed_line h1) (readD_some h1 rfl), ih]
    simp only [List.cons_append, List.length_append, List.length_cons, Prod.mk.injEq, true_and]; omega
theorem readJ_split : ∀ (n : Nat) (s : List UInt8), s.length ≤ n → (∀ a ∈ (readJ s).1, deedTx a ≠ []) ∧ ∃ r, s = jr (readJ s).1 deedTx ++ r ∧ (readJ s).2 = (jr (readJ s).1 deedTx).length := by
  intro n
  induction n with
  | zero =>
    intro s hs
    have : s = [] := List.length_eq_zero_iff.1 (by omega)
    subst this
    rw [readJ_clean (by simp)]
    exact ⟨by simp, [], by simp [jr], by simp [jr]⟩
  | succ n ih =>
    intro s hs
    rcases cut_first 10 s with h | ⟨x, r, rfl, h⟩
    · rw [readJ_clean h]; exact ⟨by simp, s, by simp [jr], by simp [jr]⟩
    · cases hr : readD x with
      | none => rw [readJ_halt h hr]; exact ⟨by simp, _, by simp [jr]; rfl, by simp [jr]⟩
      | some a =>
        obtain ⟨h1, r', h2, h3⟩ := ih r (by simp only [List.length_append, List.length_cons] at hs; omega)
        obtain ⟨hx, ha⟩ := readD_is hr
        rw [readJ_step h hr]
        refine ⟨fun b hb => ?_, r', ?_, ?_⟩
        · rcases List.mem_cons.1 hb with rfl | hb
          · rw [ha]; exact hx
          · exact h1 b hb
        · simp only
          rw [jr_cons, ha, List.append_assoc, List.cons_append, ← h2]
        · simp only
          rw [jr_cons, ha, h3]
          simp only [List.length_append, List.length_cons]; omega
theorem readJ_all (s : List UInt8) : ∀ a ∈ (readJ s).1, deedTx a ≠ [] := (readJ_split _ s (Nat.le_refl _)).1
theorem readJ_len (s : List UInt8) : (readJ s).2 = (jr (readJ s).1 deedTx).length := by
  obtain ⟨_, r, h1, h2⟩ := readJ_split _ s (Nat.le_refl _); exact h2
theorem readJ_take (s : List UInt8) : s.take (readJ s).2 = jr (readJ s).1 deedTx := by
  obtain ⟨_, r, h1, h2⟩ := readJ_split _ s (Nat.le_refl _)
  generalize readJ s = J at *
  rw [h2, h1, List.take_left]
theorem readJ_le (s : List UInt8) : (readJ s).2 ≤ s.length := by
  obtain ⟨_, r, h1, h2⟩ := readJ_split _ s (Nat.le_refl _)
  generalize readJ s = J at *
  rw [h2, h1]
  simp
theorem readJ_many (s : List UInt8) : (readJ s).1.length ≤ s.length := by
  have h1 := readJ_le s
  have h2 := readJ_len s
  have h3 := jr_long (readJ s).1
  omega
theorem readJ_full {s : List UInt8} (h : (readJ s).2 = s.length) : s = jr (readJ s).1 deedTx := by
  have := readJ_take s
  rw [h, List.take_length] at this
  exact this
theorem readJ_mend (s : List UInt8) : readJ (s.take (readJ s).2) = readJ s := by
  rw [readJ_take, readJ_jr (readJ_all s), ← readJ_len]
theorem readJ_pre : ∀ (n : Nat) (s : List UInt8), s.length ≤ n → ∀ k, (readJ (s.take k)).1 <+: (readJ s).1 := by
  intro n
  induction n with
  | zero =>
    intro s hs k
    have : s = [] := List.length_eq_zero_iff.1 (by omega)
    subst this
    simp
  | succ n ih =>
    intro s hs k
    rcases cut_first 10 s with h | ⟨x, r, rfl, h⟩
    · rw [readJ_clean (s := s.take k) fun y hy => h y (List.mem_of_mem_take hy)]; exact List.nil_prefix
    · by_cases hk : k ≤ x.length
      · rw [List.take_append_of_le_length hk, readJ_clean fun y hy => h y (List.mem_of_mem_take hy)]; exact List.nil_prefix
      · have e : (x ++ 10 :: r).take k = x ++ 10 :: r.take (k - x.length - 1) := by
          rw [List.take_append, List.take_of_length_le (by omega)]
          obtain ⟨j, hj⟩ : ∃ j, k - x.length = j + 1 := ⟨k - x.length - 1, by omega⟩
          rw [hj, List.take_succ_cons]; rfl
        rw [e]
        cases hr : readD x with
        | none => rw [readJ_halt h hr]; exact List.nil_prefix
        | some a =>
          rw [readJ_step h hr, readJ_step h hr]
          exact List.cons_prefix_cons.2 ⟨rfl, ih r (by simp only [List.length_append, List.length_cons] at hs; omega) _⟩
theorem readJ_prefix (s : List UInt8) (k : Nat) : (readJ (s.take k)).1 <+: (readJ s).1 := readJ_pre _ s (Nat.le_refl _) k
theorem readJ_mono (s : List UInt8) {k j : Nat} (h : k ≤ j) : (readJ (s.take k)).1 <+: (readJ (s.take j)).1 := by
  have e : s.take k = (s.take j).take k := by rw [List.take_take, Nat.min_eq_left h]
  rw [e]; exact readJ_prefix _ k
theorem readJ_snoc {s : List UInt8} (h : (readJ s).2 = s.length) {a : Deed} (ha : deedTx a ≠ []) : readJ (s ++ deedTx a ++ [10]) = ((readJ s).1 ++ [a], (s ++ deedTx a ++ [10]).length) := by
  have hs := readJ_full h
  have hall := readJ_all s
  generalize (readJ s).1 = l at *
  subst hs
  have e : jr l deedTx ++ deedTx a ++ [10] = jr (l ++ [a]) deedTx := by rw [jr_append, jr_cons]; simp [jr]
  rw [e]
  exact readJ_jr fun b hb => by
    rcases List.mem_append.1 hb with hb | hb
    · exact hall b hb
    · rw [List.mem_singleton.1 hb]; exact ha
/-! Stores. -/
noncomputable def placeOf (s : Store) : Place := (readP s.saved).getD ⟨0, []⟩
noncomputable def opened (s : Store) : Desk := (doAll ⟨placeOf s, []⟩ (readJ s.log).1).1
noncomputable def storeOpen (s : Store) : Desk := if storeOk s = true then opened s else noDeskV
theorem storeOk_iff {s : Store} : storeOk s = true ↔ (readP s.saved).isSome = true ∧ s.log.length ≤ 1000 ∧ 0 ≤ s.sure ∧ s.sure ≤ s.log.length := by
  simp only [storeOk, Bool.and_eq_true, decide_eq_true_eq, and_assoc]
theorem placeOf_ok {s : Store} (h : (readP s.saved).isSome = true) : placeOk (placeOf s) = true ∧ placeTx (placeOf s) = s.saved ∧ readP s.saved = some (placeOf s) := by
  unfold placeOf
  cases hr : readP s.saved with
  | none => rw [hr] at h; cases h
  | some p => exact ⟨(readP_is hr).1, (readP_is hr).2, rfl⟩
theorem desk_new {p : Place} (h : placeOk p = true) : deskOk ⟨p, []⟩ = true := deskOk_iff.2 ⟨by simp, h, by simp⟩
theorem opened_ok {s : Store} (h : storeOk s = true) : deskOk (opened s) = true := doAll_ok _ _ (desk_new (placeOf_ok (storeOk_iff.1 h).1).1)
noncomputable def actOk (s : Store) (a : Deed) : Bool := storeOk s && (decide ((readJ s.log).2 = s.log.length) && (deskDo (opened s) a).2 && !decide (deedTx a = []) && decide (s.log.length + (deedTx a).length + 1 ≤ 1000))
noncomputable def storeAct (s : Store) (a : Deed) : Store := if actOk s a = true then ⟨s.saved, s.log ++ deedTx a ++ [10], s.sure⟩ else if storeOk s = true then s else noStore
theorem actOk_iff {s : Store} {a : Deed} : actOk s a = true ↔ storeOk s = true ∧ (readJ s.log).2 = s.log.length ∧ (deskDo (opened s) a).2 = true ∧ deedTx a ≠ [] ∧ s.log.length + (deedTx a).length + 1 ≤ 1000 := by
  simp only [actOk, Bool.and_eq_true, decide_eq_true_eq, Bool.not_eq_true', decide_eq_false_iff_not, and_assoc, ne_eq]
theorem storeAct_yes {s : Store} {a : Deed} (h : actOk s a = true) : storeAct s a = ⟨s.saved, s.log ++ deedTx a ++ [10], s.sure⟩ := if_pos h
theorem storeAct_no {s : Store} {a : Deed} (h : actOk s a = false) (hs : storeOk s = true) : storeAct s a = s := by unfold storeAct; rw [if_neg (by simp [h]), if_pos hs]
theorem storeAct_out {s : Store} {a : Deed} (hs : storeOk s = false) : storeAct s a = noStore ∧ actOk s a = false := by
  have : actOk s a = false := by unfold actOk; rw [hs]; rfl
  exact ⟨by unfold storeAct; rw [if_neg (by simp [this]), if_neg (by simp [hs])], this⟩
theorem act_done {s : Store} {a : Deed} (h : actOk s a = true) : storeOk (storeAct s a) = true ∧ readJ (storeAct s a).log = ((readJ s.log).1 ++ [a], (storeAct s a).log.length) ∧ opened (storeAct s a) = (deskDo (opened s) a).1 ∧ (storeAct s a).log.length = s.log.length + (deedTx a).length + 1 ∧ (storeAct s a).sure = s.sure ∧ (storeAct s a).saved = s.saved := by
  obtain ⟨h1, h2, h3, h4, h5⟩ := actOk_iff.1 h
  obtain ⟨g1, g2, g3, g4⟩ := storeOk_iff.1 h1
  have hj := readJ_snoc h2 h4
  have hl : (s.log ++ deedTx a ++ [10]).length = s.log.length + (deedTx a).length + 1 := by simp; omega
  rw [storeAct_yes h]
  refine ⟨storeOk_iff.2 ⟨g1, ?_, g3, ?_⟩, hj, ?_, hl, rfl, rfl⟩
  · simp only; omega
  · simp only; omega
  · show (doAll ⟨placeOf s, []⟩ (readJ (s.log ++ deedTx a ++ [10])).1).1 = _
    rw [hj]
    simp only
    rw [doAll_snoc]
    exact if_pos h3
noncomputable def storeMend (s : Store) : Store := if storeOk s = true then ⟨s.saved, s.log.take (readJ s.log).2, min s.sure ((readJ s.log).2 : Nat)⟩ else noStore
theorem mend_done {s : Store} (h : storeOk s = true) : storeOk (storeMend s) = true ∧ readJ (storeMend s).log = ((readJ s.log).1, (storeMend s).log.length) ∧ opened (storeMend s) = opened s ∧ storeMend (storeMend s) = storeMend s ∧ (storeMend s).log.length ≤ s.log.length := by
  obtain ⟨g1, g2, g3, g4⟩ := storeOk_iff.1 h
  have hle := readJ_le s.log
  have hm := readJ_mend s.log
  have e : storeMend s = ⟨s.saved, s.log.take (readJ s.log).2, min s.sure ((readJ s.log).2 : Nat)⟩ := if_pos h
  have hlen : (s.log.take (readJ s.log).2).length = (readJ s.log).2 := by simp; omega
  have hok : storeOk (storeMend s) = true := by
    rw [e]
    exact storeOk_iff.2 ⟨g1, by simp only; omega, by simp only; omega, by simp only; omega⟩
  refine ⟨hok, ?_, ?_, ?_, ?_⟩
  · rw [e]; simp only; rw [hm, hlen]
  · rw [e]; unfold opened placeOf; simp only; rw [hm]
  · have e2 : storeMend (storeMend s) = ⟨(storeMend s).saved, (storeMend s).log.take (readJ (storeMend s).log).2, min (storeMend s).sure ((readJ (storeMend s).log).2 : Nat)⟩ := if_pos hok
    rw [e2, e]
    simp only
    rw [hm]
    congr 1
    · rw [List.take_take, Nat.min_self]
    · omega
  · rw [e]; simp only; omega
noncomputable def storeSave (s : Store) : Store := if storeOk s = true then ⟨placeTx (opened s).now, [], 0⟩ else noStore
theorem readJ_nil : readJ [] = ([], 0) := readJ_clean (by simp)
theorem new_done {p : Place} (h : placeOk p = true) : storeOk ⟨placeTx p, [], 0⟩ = true ∧ opened ⟨placeTx p, [], 0⟩ = ⟨p, []⟩ := by
  have hr := readP_some h rfl
  refine ⟨storeOk_iff.2 ⟨by simp only; rw [hr]; rfl, by simp, by simp, by simp⟩, ?_⟩
  unfold opened placeOf
  simp only
  rw [hr, readJ_nil]; rfl
theorem save_done {s : Store} (h : storeOk s = true) : storeOk (storeSave s) = true ∧ opened (storeSave s) = ⟨(opened s).now, []⟩ ∧ storeSave (storeSave s) = storeSave s ∧ storeSave s = ⟨placeTx (opened s).now, [], 0⟩ := by
  have e : storeSave s = ⟨placeTx (opened s).now, [], 0⟩ := if_pos h
  have hp := (deskOk_iff.1 (opened_ok h)).2.1
  obtain ⟨h1, h2⟩ := new_done hp
  refine ⟨by rw [e]; exact h1, by rw [e]; exact h2, ?_, e⟩
  rw [e]
  unfold storeSave
  rw [if_pos h1, h2]
/-- The first claim can be dropped, if there is one. -/
theorem drop_first {d : Desk} (h : deskOk d = true) : (deskDo d ⟨1, 0, []⟩).2 = decide (0 < d.now.story.length) := by
  obtain ⟨h1, h2, h3⟩ := deskOk_iff.1 h
  by_cases hl : 0 < d.now.story.length
  · have em : made d.now ⟨1, 0, []⟩ = ⟨d.now.people, d.now.story.eraseIdx 0⟩ := by
      unfold made
      rw [if_neg (by simp), if_pos ⟨rfl, rfl, by simp, by simp; omega⟩]; rfl
    have hg : goodDo d ⟨1, 0, []⟩ = true := by
      have hp : placeOk ⟨d.now.people, d.now.story.eraseIdx 0⟩ = true := storyOk_sub h2 (List.eraseIdx_sublist _ _)
      unfold goodDo
      rw [em, hp]
      simp only [Bool.true_and, Bool.not_eq_true', decide_eq_false_iff_not]
      intro hx
      have := congrArg (fun p => p.story.length) (placeTx_inj hp h2 hx)
      simp only [List.length_eraseIdx, hl, if_true] at this
      omega
    rw [deskDo_good h hg (by simp [isBack])]
    simp [hl]
  · have em : made d.now ⟨1, 0, []⟩ = ⟨0, []⟩ := by
      unfold made
      rw [if_neg (by simp), if_neg (fun h => by have h4 : (0 : Int) < d.now.story.length := h.2.2.2; omega), if_neg (by simp), if_neg (by simp)]
    have hg : goodDo d ⟨1, 0, []⟩ = false := by unfold goodDo; rw [em, zero_no]; rfl
    rw [deskDo_bad h hg (by simp [isBack])]
    simp [hl]
/-- What is done depends on the place alone, unless it is to be undone. -/
theorem deskDo_now {d e : Desk} (hd : deskOk d = true) (he : deskOk e = true) (hn : d.now = e.now) {a : Deed} (ha : a.kind ≠ 4) : (deskDo d a).2 = (deskDo e a).2 ∧ (deskDo d a).1.now = (deskDo e a).1.now := by
  have hb : isBack a = false := by
    simp only [isBack, decide_eq_false_iff_not]; rintro rfl; exact ha rfl
  have hg : goodDo d a = goodDo e a := by unfold goodDo; rw [hn]
  cases h : goodDo e a
  · rw [deskDo_bad hd (by rw [hg, h]) (by simp [hb]), deskDo_bad he h (by simp [hb])]; exact ⟨rfl, hn⟩
  · rw [deskDo_good hd (by rw [hg, h]) (by simp [hb]), deskDo_good he h (by simp [hb])]; exact ⟨rfl, by simp only; rw [hn]⟩
end TL

/- Stores that break down, in plain words. -/
set_option linter.unusedSimpArgs false
set_option linter.unusedVariables false
set_option maxRecDepth 100000
set_option maxHeartbeats 4000000
set_option pp.maxSteps 1500
namespace TL
open Go Go.Proofs
theorem crash_again {s : Store} {k : Int} (h : crashOk s k = true) : storeOk (storeCrash s k) = true ∧ (storeCrash s k).sure = s.sure ∧ ((storeCrash s k).log.length : Int) = k ∧ crashOk (storeCrash s k) k = true ∧ storeCrash (storeCrash s k) k = storeCrash s k ∧
    crashOk (storeCrash s k) s.sure = true ∧ crashOk s s.sure = true ∧ storeCrash (storeCrash s k) s.sure = storeCrash s s.sure ∧ storeCrash s k = ⟨s.saved, s.log.take k.toNat, s.sure⟩ := by
  have h0 := h
  simp only [crashOk, Bool.and_eq_true, decide_eq_true_eq] at h
  obtain ⟨h1, h2, h3⟩ := h
  obtain ⟨g1, g2, g3, g4⟩ := storeOk_iff.1 h1
  have e : storeCrash s k = ⟨s.saved, s.log.take k.toNat, s.sure⟩ := if_pos h0
  have hl : (s.log.take k.toNat).length = k.toNat := by simp; omega
  have hok : storeOk ⟨s.saved, s.log.take k.toNat, s.sure⟩ = true := storeOk_iff.2 ⟨g1, by simp only; omega, g3, by simp only; omega⟩
  have c1 : crashOk ⟨s.saved, s.log.take k.toNat, s.sure⟩ k = true := by
    simp only [crashOk, Bool.and_eq_true, decide_eq_true_eq]; exact ⟨hok, by omega, by omega⟩
  have c2 : crashOk ⟨s.saved, s.log.take k.toNat, s.sure⟩ s.sure = true := by
    simp only [crashOk, Bool.and_eq_true, decide_eq_true_eq]; exact ⟨hok, by omega, by omega⟩
  have c3 : crashOk s s.sure = true := by
    simp only [crashOk, Bool.and_eq_true, decide_eq_true_eq]; exact ⟨h1, by omega, by omega⟩
  rw [e]
  refine ⟨hok, rfl, by simp only; omega, c1, ?_, c2, c3, ?_, rfl⟩
  · unfold storeCrash; rw [if_pos c1, List.take_take, Nat.min_self]
  · unfold storeCrash; rw [if_pos c2, if_pos c3, List.take_take, Nat.min_eq_left (by omega)]
theorem crash_no {s : Store} {k : Int} (h : crashOk s k = false) : storeCrash s k = noStore := if_neg (by simp [h])
theorem crash_iff {s : Store} {k : Int} : crashOk s k = true ↔ storeOk s = true ∧ s.sure ≤ k ∧ k ≤ s.log.length := by
  simp only [crashOk, Bool.and_eq_true, decide_eq_true_eq]
/-- What the lost deeds, done again, have made so far. -/
structure EndInv (s x : Store) (k : Nat) : Prop where
  ok : storeOk x = true
  full : (readJ x.log).2 = x.log.length
  same : opened x = (doAll ⟨placeOf s, []⟩ ((readJ s.log).1.take k)).1
  short : x.log.length ≤ (jr ((readJ s.log).1.take k) deedTx).length
theorem end_start {s : Store} {k : Int} (h : crashOk s k = true) : EndInv s (storeMend (storeCrash s k)) (readJ (storeMend (storeCrash s k)).log).1.length ∧ (readJ (storeMend (storeCrash s k)).log).1.length ≤ (readJ s.log).1.length := by
  obtain ⟨a1, a2, a3, a4, a5, a6, a7, a8, a9⟩ := crash_again h
  obtain ⟨m1, m2, m3, m4, m5⟩ := mend_done a1
  have hp := readJ_prefix s.log k.toNat
  have e1 : (storeCrash s k).log = s.log.take k.toNat := by rw [a9]
  have e2 : placeOf (storeCrash s k) = placeOf s := by rw [a9]; rfl
  have e3 : (readJ (storeMend (storeCrash s k)).log).1 = (readJ (s.log.take k.toNat)).1 := by rw [m2, e1]
  have e4 : (readJ s.log).1.take (readJ (s.log.take k.toNat)).1.length = (readJ (s.log.take k.toNat)).1 := (List.prefix_iff_eq_take.1 hp).symm
  rw [e3]
  refine ⟨⟨m1, by rw [m2], ?_, ?_⟩, hp.length_le⟩
  · rw [m3, e4]
    unfold opened
    rw [e2, e1]
  · rw [e4]
    have := readJ_full (s := (storeMend (storeCrash s k)).log) (by rw [m2])
    rw [e3] at this
    rw [← this]; exact Nat.le_refl _
theorem jr_take_le (l : List Deed) (k : Nat) : (jr (l.take k) deedTx).length ≤ (jr l deedTx).length := by
  conv => rhs; rw [← List.take_append_drop k l, jr_append]
  simp
theorem end_step {s x : Store} {k : Nat} (hs : storeOk s = true) (h : EndInv s x k) (hk : k < (readJ s.log).1.length) : EndInv s (storeAct x (readJ s.log).1[k]) (k + 1) ∧ (actOk x (readJ s.log).1[k] = false → storeAct x (readJ s.log).1[k] = x) := by
  obtain ⟨g1, g2, g3, g4⟩ := storeOk_iff.1 hs
  have hne := readJ_all s.log _ (List.getElem_mem hk)
  have ht : (readJ s.log).1.take (k + 1) = (readJ s.log).1.take k ++ [(readJ s.log).1[k]] := List.take_succ_eq_append_getElem hk
  have hl : (jr ((readJ s.log).1.take (k + 1)) deedTx).length = (jr ((readJ s.log).1.take k) deedTx).length + (deedTx (readJ s.log).1[k]).length + 1 := by
    rw [ht, jr_append, jr_cons]; simp [jr]; omega
  have hle := jr_take_le (readJ s.log).1 (k + 1)
  rw [← readJ_len] at hle
  have hle2 := readJ_le s.log
  have hd := doAll_snoc ⟨placeOf s, []⟩ ((readJ s.log).1.take k) (readJ s.log).1[k]
  rw [← ht, ← h.same] at hd
  generalize (readJ s.log).1[k] = a at *
  cases hc : (deskDo (opened x) a).2
  · have hn : actOk x a = false := by
      cases hq : actOk x a
      · rfl
      · have := (actOk_iff.1 hq).2.2.1; rw [hc] at this; cases this
    rw [storeAct_no hn h.ok]
    rw [if_neg (by simp [hc])] at hd
    exact ⟨⟨h.ok, h.full, hd.symm, by have := h.short; omega⟩, fun _ => rfl⟩
  · have hy : actOk x a = true := actOk_iff.2 ⟨h.ok, h.full, hc, hne, by have := h.short; omega⟩
    obtain ⟨b1, b2, b3, b4, b5, b6⟩ := act_done hy
    rw [if_pos hc] at hd
    exact ⟨⟨b1, by rw [b2], by rw [b3, hd], by have := h.short; omega⟩, fun h => by rw [hy] at h; cases h⟩
theorem end_end {s x : Store} (h : EndInv s x (readJ s.log).1.length) : opened x = opened s := by
  rw [h.same, List.take_length]; rfl
/-- What is sure is never lost. -/
theorem never_facts {s : Store} (hs : storeOk s = true) {k : Int} (h1 : s.sure ≤ k) (h2 : k ≤ s.log.length) :
    crashOk s k = true ∧ (storeCrash s k).log = s.log.take k.toNat ∧ storeOk (storeCrash s k) = true ∧ (readJ (s.log.take k.toNat)).1.length ≤ (readJ s.log).1.length ∧ (readJ (s.log.take s.sure.toNat)).1.length ≤ (readJ (s.log.take k.toNat)).1.length ∧
    (readJ s.log).1.take (readJ (s.log.take k.toNat)).1.length = (readJ (s.log.take k.toNat)).1 ∧ opened (storeCrash s k) = (doAll ⟨placeOf s, []⟩ (readJ (s.log.take k.toNat)).1).1 := by
  have hc := crash_iff.2 ⟨hs, h1, h2⟩
  obtain ⟨a1, a2, a3, a4, a5, a6, a7, a8, a9⟩ := crash_again hc
  have hp := readJ_prefix s.log k.toNat
  have hm := readJ_mono s.log (show s.sure.toNat ≤ k.toNat by omega)
  refine ⟨hc, by rw [a9], a1, hp.length_le, hm.length_le, (List.prefix_iff_eq_take.1 hp).symm, ?_⟩
  rw [a9]; rfl
end TL

/- A deed that may be none. -/
set_option linter.unusedSimpArgs false
set_option linter.unusedVariables false
set_option maxRecDepth 100000
set_option maxHeartbeats 4000000
set_option pp.maxSteps 1500
namespace TL
open Go Go.Proofs
def optD (o : Option Deed) : V := .tup [(o.getD ⟨0, 0, []⟩).v, .bool o.isSome]
end TL

/- Deeds read: the program and the reference, and the exact law. -/
set_option linter.unusedSimpArgs false
set_option linter.unusedVariables false
set_option maxRecDepth 100000
set_option maxHeartbeats 4000000
set_option pp.maxSteps 1500
namespace TL
open Go Go.Proofs
attribute [local simp] marksV storyV codeV Claim.v Place.v Deed.v
/-! The reference. -/
def Isrd (s : List UInt8) (l : List Deed) (e : Nat) (y : S) : Prop := ∃ i id : Nat, y.tm 0 = .v (.str s) ∧ y.tm 2 = .ptr 0 0 ∧ y.m 0 = some (.box 41 3 [.v (.int .i64 0), .v (.int .i64 0), .v (.str [])]) ∧ y.tm 5 = .loc id ∧ 0 < id ∧ id < y.n ∧
  y.m id = some (.arr 41 (l.map Deed.v)) ∧ y.tm 7 = .v (.int .i64 i) ∧ y.mu = false ∧ i ≤ l.length ∧ (∀ a ∈ l.take i, s ≠ [] → deedTx a ≠ s) ∧ (e = 1 → i = l.length)
theorem deedS_two {s x r : List UInt8} (h : cutAt 32 s = [x, r]) : deedS s = [⟨3, 0, []⟩, ⟨4, 0, []⟩, ⟨0, 0, r⟩, ⟨1, digS r, []⟩, ⟨2, digS r, []⟩] := by
  unfold deedS; rw [h]; rfl
theorem deedS_not {s : List UInt8} (h : (cutAt 32 s).length ≠ 2) : deedS s = [⟨3, 0, []⟩, ⟨4, 0, []⟩] := by
  unfold deedS
  generalize cutAt 32 s = ps at h
  match ps, h with
  | [], _ => rfl
  | [_], _ => rfl
  | [_, _], h => exact absurd rfl h
  | _ :: _ :: _ :: _, _ => rfl
theorem readDeedS_fn (s : List UInt8) (hl : s.length ≤ 2000000000) : FnZ Tryz.prog 82 [.str s] (optD (readD s)) := by
  have hcut := l1Cut_fn s 32 hl
  have e32 : (((32 : UInt8).toNat : Nat) : Int) = 32 := rfl
  rw [e32] at hcut
  have hno := readD_none' (s := s)
  have hyes : ∀ a, s ≠ [] → deedTx a = s → readD s = some a := fun a => readD_some
  have hlen : ∀ a ∈ deedS s, a.words.length ≤ 2000000000 := by
    by_cases h2 : (cutAt 32 s).length = 2
    · have h3 : ∃ x rest, cutAt 32 s = [x, rest] := by
        generalize cutAt 32 s = ps at h2
        match ps, h2 with
        | [x, r], _ => exact ⟨x, r, rfl⟩
      obtain ⟨x, r, h5⟩ := h3
      have hrl : r.length ≤ s.length := cutAt_piece (c := 32) (by rw [h5]; simp)
      rw [deedS_two h5]
      intro a ha
      simp only [List.mem_cons, List.mem_nil_iff, or_false] at ha
      rcases ha with rfl | rfl | rfl | rfl | rfl <;> simp <;> omega
    · rw [deedS_not h2]
      intro a ha
      simp only [List.mem_cons, List.mem_nil_iff, or_false] at ha
      rcases ha with rfl | rfl <;> simp
  have hll : (deedS s).length ≤ 5 := by
    by_cases h2 : (cutAt 32 s).length = 2
    · have h3 : ∃ x rest, cutAt 32 s = [x, rest] := by
        generalize cutAt 32 s = ps at h2
        match ps, h2 with
        | [x, r], _ => exact ⟨x, r, rfl⟩
      obtain ⟨x, r, h5⟩ := h3
      rw [deedS_two h5]; simp
    · rw [deedS_not h2]; simp
  by_cases h2 : (cutAt 32 s).length = 2
  case pos =>
    have h3 : ∃ x rest, cutAt 32 s = [x, rest] := by
      generalize cutAt 32 s = ps at h2
      match ps, h2 with
      | [x, r], _ => exact ⟨x, r, rfl⟩
    refine h3.elim fun x h4 => h4.elim fun r h5 => ?_
    clear h3 h4 h2
    have hrl : r.length ≤ s.length := cutAt_piece (c := 32) (by rw [h5]; simp)
    have hdg := l1Digits_fn r (by omega)
    have hds := deedS_two h5
    rw [h5] at hcut
    generalize deedS s = l at *
    generalize digS r = D at *
    clear h5
    refine FnZ_of (rs := [.cell 2 41, .tmp 3]) false Tryz.func82 rfl rfl rfl rfl (Nat.le_of_ble_eq_true rfl) ?_
    simp -dsimp
    refine call_ hcut (by simp -dsimp) ?_
    simp -dsimp
    refine call_ hdg (by simp -dsimp) ?_
    simp -dsimp
    refine twp_loopC (Isrd s l 0) (fun y => l.length - natOf (y.tm 7)) (Isrd s l 1) ?_ ?_ ?_
    · refine ⟨0, _, by simp -dsimp, by simp -dsimp, by simp -dsimp, by simp -dsimp; rfl, by simp -dsimp, by simp -dsimp, by simp -dsimp [hds], by simp -dsimp, by simp -dsimp, by omega, by simp, by simp⟩
    · rintro y ⟨i, id, t0, t2, m0, t5, hid0, hid, hm, t7, hmu, hi, hall, hend⟩
      by_cases hlt : i < l.length
      case neg =>
        simp -dsimp [t5, t7, hm, hlt]
        exact ⟨i, id, by simp -dsimp [t0], by simp -dsimp [t2], by simp -dsimp [m0], by simp -dsimp [t5], hid0, by simp -dsimp [hid], by simp -dsimp [hm], by simp -dsimp [t7], by simp -dsimp [hmu], hi, hall, fun _ => by omega⟩
      have hget : (l.map Deed.v)[i]? = some (l[i].v) := by simp [hlt]
      have wi : IntKind.wrap .i64 ((i : Int) + 1) = ((i + 1 : Nat) : Int) := by rw [w64 (by omega) (by omega)]; omega
      have hmu1 : l.length - (i + 1) < l.length - i := by omega
      have hdt := deedTextS_fn l[i] (hlen _ (List.getElem_mem _))
      have f0 := far (show 0 < y.n by omega)
      have f1 := far hid
      by_cases hs : s = []
      · have hnx : ∀ a ∈ l.take (i + 1), s ≠ [] → deedTx a ≠ s := fun a _ h => absurd hs h
        simp -dsimp [t0, t5, t7, hm, hlt, hs, wi, hmu1]
        exact ⟨i + 1, id, by simp -dsimp [t0, hs], by simp -dsimp [t2], by simp -dsimp [m0], by simp -dsimp [t5], hid0, by simp -dsimp [hid], by simp -dsimp [hm], by simp -dsimp, by simp -dsimp [hmu], by omega, fun a _ h => absurd rfl h, by simp⟩
      · by_cases he : deedTx l[i] = s
        · rw [hyes _ hs he]
          rw [he] at hdt
          simp -dsimp [t0, t5, t7, hm, hlt, hs, hget]
          refine call_ hdt (by simp -dsimp) ?_
          simp -dsimp [t0, t2, t5, t7, m0, hm, hget, hlt, f0, f1, optD]
        · have hnx : ∀ a ∈ l.take (i + 1), s ≠ [] → deedTx a ≠ s := fun a ha h => by
            rw [List.take_succ_eq_append_getElem hlt] at ha
            rcases List.mem_append.1 ha with ha | ha
            · exact hall a ha h
            · rw [List.mem_singleton.1 ha]; exact he
          simp -dsimp [t0, t5, t7, hm, hlt, hs, hget]
          refine call_ hdt (by simp -dsimp) ?_
          simp -dsimp [t0, he, t7, wi, hmu1]
          exact ⟨i + 1, id, by simp -dsimp [t0], by simp -dsimp [t2], by simp -dsimp [m0], by simp -dsimp [t5], hid0, by simp -dsimp [hid], by simp -dsimp [hm], by simp -dsimp, by simp -dsimp [hmu], by omega, hnx, by simp⟩
    · rintro y ⟨i, id, t0, t2, m0, t5, hid0, hid, hm, t7, hmu, hi, hall, hend⟩
      have hil := hend rfl
      rw [hil, List.take_length] at hall
      rw [hno hall]
      have f0 := far (show 0 < y.n by omega)
      simp -dsimp [t2, m0, f0, optD]
  case neg =>
    have h2' : ¬ ((cutAt 32 s).length : Int) = 2 := by omega
    have hds := deedS_not h2
    generalize deedS s = l at *
    refine FnZ_of (rs := [.cell 2 41, .tmp 3]) false Tryz.func82 rfl rfl rfl rfl (Nat.le_of_ble_eq_true rfl) ?_
    simp -dsimp
    refine call_ hcut (by simp -dsimp) ?_
    simp -dsimp [h2, h2']
    refine twp_loopC (Isrd s l 0) (fun y => l.length - natOf (y.tm 7)) (Isrd s l 1) ?_ ?_ ?_
    · refine ⟨0, _, by simp -dsimp, by simp -dsimp, by simp -dsimp, by simp -dsimp; rfl, by simp -dsimp, by simp -dsimp, by simp -dsimp [hds], by simp -dsimp, by simp -dsimp, by omega, by simp, by simp⟩
    · rintro y ⟨i, id, t0, t2, m0, t5, hid0, hid, hm, t7, hmu, hi, hall, hend⟩
      by_cases hlt : i < l.length
      case neg =>
        simp -dsimp [t5, t7, hm, hlt]
        exact ⟨i, id, by simp -dsimp [t0], by simp -dsimp [t2], by simp -dsimp [m0], by simp -dsimp [t5], hid0, by simp -dsimp [hid], by simp -dsimp [hm], by simp -dsimp [t7], by simp -dsimp [hmu], hi, hall, fun _ => by omega⟩
      have hget : (l.map Deed.v)[i]? = some (l[i].v) := by simp [hlt]
      have wi : IntKind.wrap .i64 ((i : Int) + 1) = ((i + 1 : Nat) : Int) := by rw [w64 (by omega) (by omega)]; omega
      have hmu1 : l.length - (i + 1) < l.length - i := by omega
      have hdt := deedTextS_fn l[i] (hlen _ (List.getElem_mem _))
      have f0 := far (show 0 < y.n by omega)
      have f1 := far hid
      by_cases hs : s = []
      · have hnx : ∀ a ∈ l.take (i + 1), s ≠ [] → deedTx a ≠ s := fun a _ h => absurd hs h
        simp -dsimp [t0, t5, t7, hm, hlt, hs, wi, hmu1]
        exact ⟨i + 1, id, by simp -dsimp [t0, hs], by simp -dsimp [t2], by simp -dsimp [m0], by simp -dsimp [t5], hid0, by simp -dsimp [hid], by simp -dsimp [hm], by simp -dsimp, by simp -dsimp [hmu], by omega, fun a _ h => absurd rfl h, by simp⟩
      · by_cases he : deedTx l[i] = s
        · rw [hyes _ hs he]
          rw [he] at hdt
          simp -dsimp [t0, t5, t7, hm, hlt, hs, hget]
          refine call_ hdt (by simp -dsimp) ?_
          simp -dsimp [t0, t2, t5, t7, m0, hm, hget, hlt, f0, f1, optD]
        · have hnx : ∀ a ∈ l.take (i + 1), s ≠ [] → deedTx a ≠ s := fun a ha h => by
            rw [List.take_succ_eq_append_getElem hlt] at ha
            rcases List.mem_append.1 ha with ha | ha
            · exact hall a ha h
            · rw [List.mem_singleton.1 ha]; exact he
          simp -dsimp [t0, t5, t7, hm, hlt, hs, hget]
          refine call_ hdt (by simp -dsimp) ?_
          simp -dsimp [t0, he, t7, wi, hmu1]
          exact ⟨i + 1, id, by simp -dsimp [t0], by simp -dsimp [t2], by simp -dsimp [m0], by simp -dsimp [t5], hid0, by simp -dsimp [hid], by simp -dsimp [hm], by simp -dsimp, by simp -dsimp [hmu], by omega, hnx, by simp⟩
    · rintro y ⟨i, id, t0, t2, m0, t5, hid0, hid, hm, t7, hmu, hi, hall, hend⟩
      have hil := hend rfl
      rw [hil, List.take_length] at hall
      rw [hno hall]
      have f0 := far (show 0 < y.n by omega)
      simp -dsimp [t2, m0, f0, optD]
end TL

/- Journals are read: the reference. -/
set_option linter.unusedSimpArgs false
set_option linter.unusedVariables false
set_option maxRecDepth 100000
set_option maxHeartbeats 4000000
set_option pp.maxSteps 1500
namespace TL
open Go Go.Proofs
attribute [local simp] marksV storyV codeV Claim.v Place.v Deed.v
theorem deed_cells0 (a : Deed) : a.v.cells = [.int .i64 a.kind, .int .i64 a.num, .str a.words] := rfl
def Irs (s : List UInt8) (e : Nat) (y : S) : Prop := ∃ (l : List Deed) (mid rest : List UInt8) (id : Nat), y.tm 0 = .v (.str s) ∧ y.tm 4 = .loc id ∧ id < y.n ∧ y.m id = some (.arr 41 (l.map Deed.v)) ∧ y.tm 5 = .v (.int .i64 (jr l deedTx).length) ∧ y.tm 6 = .v (.int .i64 ((jr l deedTx).length + mid.length : Nat)) ∧ y.mu = false ∧
  s = jr l deedTx ++ (mid ++ rest) ∧ (∀ a ∈ l, deedTx a ≠ []) ∧ (∀ y ∈ mid, y ≠ 10) ∧ (e = 1 → rest = [])
theorem readJournalS_fn (s : List UInt8) (hl : s.length ≤ 2000000000) : FnZ Tryz.prog 55 [.str s] (.tup [.sl ((readJ s).1.map Deed.v), .int .i64 (readJ s).2]) := by
  generalize hJ : readJ s = J
  refine FnZ_of (rs := [.tmp 2, .tmp 3]) false Tryz.func55 rfl rfl rfl rfl (Nat.le_of_ble_eq_true rfl) ?_
  simp -dsimp
  refine twp_loopC (Irs s 0) (fun y => s.length - natOf (y.tm 6)) (Irs s 1) ?_ ?_ ?_
  · exact ⟨[], [], s, 0, by simp -dsimp, by simp -dsimp, by simp -dsimp, by simp -dsimp, by simp -dsimp [jr], by simp -dsimp [jr], by simp -dsimp, by simp [jr], by simp, by simp, by simp⟩
  · rintro y ⟨l, mid, rest, id, t0, t4, hid, hm, t5, t6, hmu, hs, hne, hmid, hend⟩
    have hlen : s.length = (jr l deedTx).length + (mid.length + rest.length) := by rw [hs]; simp
    have happ := readJ_app hne (mid ++ rest)
    rw [← hs, hJ] at happ
    have hjl := jr_long l
    have hdt : (s.take ((jr l deedTx).length + mid.length)).drop (jr l deedTx).length = mid := by
      rw [hs, ← List.append_assoc, List.take_left' (by simp), List.drop_left]
    have hget : s[(jr l deedTx).length + mid.length]? = rest.head? := by
      rw [hs, List.getElem?_append_right (by omega), List.getElem?_append_right (by omega)]
      have : (jr l deedTx).length + mid.length - (jr l deedTx).length - mid.length = 0 := by omega
      rw [this, List.head?_eq_getElem?]
    have hnext : ∀ a, deedTx a = mid → mid ≠ [] → jr (l ++ [a]) deedTx = jr l deedTx ++ (mid ++ [10]) := fun a h _ => by rw [jr_append, jr_cons, h]; simp [jr]
    generalize hF : (jr l deedTx).length = F at *
    cases rest with
    | nil =>
      have hlt : ¬ F + mid.length < s.length := by simp at hlen; omega
      have hlt' : ¬ ((F + mid.length : Nat) : Int) < s.length := by omega
      have hlt'' : ¬ (F : Int) + mid.length < s.length := by omega
      simp -dsimp [t0, t6, hlt, hlt', hlt'']
      exact ⟨l, mid, [], id, by simp -dsimp [t0], by simp -dsimp [t4], by simp -dsimp; omega, by simp -dsimp [hm], by simp -dsimp [t5, hF], by simp -dsimp [t6, hF], by simp -dsimp [hmu], hs, hne, hmid, fun _ => rfl⟩
    | cons c r =>
      simp only [List.length_cons] at hlen
      have hlt : F + mid.length < s.length := by omega
      have hlt' : ((F + mid.length : Nat) : Int) < s.length := by omega
      have hlt'' : (F : Int) + mid.length < s.length := by omega
      have hT : ((F : Int) + mid.length).toNat = F + mid.length := by omega
      have hT1 : ((F : Int) + mid.length + 1).toNat = F + mid.length + 1 := by omega
      have hle1 : (F : Int) ≤ (F : Int) + mid.length := by omega
      have hle2 : (F : Int) + mid.length ≤ s.length := by omega
      have hle3 : F + mid.length ≤ s.length := by omega
      have wi : IntKind.wrap .i64 ((F : Int) + mid.length + 1) = ((F + mid.length + 1 : Nat) : Int) := by rw [w64 (by omega) (by omega)]; omega
      have hmu1 : s.length - (F + mid.length + 1) < s.length - (F + mid.length) := by omega
      have z0 : (0 : Int) ≤ (F : Int) + mid.length := by omega
      simp only [List.head?_cons] at hget
      have hgE : s[F + mid.length]'hlt = c := Option.some.inj ((List.getElem?_eq_getElem hlt).symm.trans hget)
      have f1 := far hid
      by_cases hc : c = 10
      case neg =>
        have hc' : ¬ (c.toNat : Int) = 10 := fun e => hc (UInt8.toNat_inj.1 (by have : (10 : UInt8).toNat = 10 := rfl; omega))
        have hc'' : ¬ c.toNat = 10 := fun e => hc (UInt8.toNat_inj.1 (by have : (10 : UInt8).toNat = 10 := rfl; omega))
        simp -dsimp [t0, t4, t5, t6, hlt, hlt', hlt'', hT, hget, hgE, hc, hc', hc'', wi, hmu1, z0, hT1]
        refine ⟨l, mid ++ [c], r, id, by simp -dsimp [t0], by simp -dsimp [t4], by simp -dsimp; omega, by simp -dsimp [hm], by simp -dsimp [t5, hF], by simp -dsimp [hF]; omega, by simp -dsimp [hmu], by rw [hs]; simp, hne, fun y hy => ?_, by simp⟩
        rcases List.mem_append.1 hy with hy | hy
        · exact hmid y hy
        · rw [List.mem_singleton.1 hy]; exact hc
      subst hc
      have hrd := readDeedS_fn mid (by omega)
      have hcase : ∀ a, readD mid = some a → mid ≠ [] ∧ deedTx a = mid := fun a h => readD_is h
      cases ho : readD mid with
      | none =>
        rw [ho] at hrd
        rw [readJ_halt hmid ho] at happ
        simp only [List.append_nil, Nat.add_zero] at happ
        rw [happ]
        simp -dsimp [t0, t4, t5, t6, hlt, hlt', hlt'', hT, hget, hgE, wi, z0, hle1, hle2, hle3, hdt]
        refine call_ hrd (by simp -dsimp) ?_
        simp -dsimp [optD, t4, t5, hm, f1]
      | some a =>
        rw [ho] at hrd
        obtain ⟨hx, ha⟩ := hcase a ho
        have hj' := hnext a ha hx
        have hjl' : (jr (l ++ [a]) deedTx).length = F + mid.length + 1 := by rw [hj']; simp [hF]; omega
        have b1 : (l.length + 1) * 32 ≤ 140737488355328 := by omega
        simp -dsimp [t0, t4, t5, t6, hlt, hlt', hlt'', hT, hget, hgE, wi, z0, hle1, hle2, hle3, hdt]
        refine call_ hrd (by simp -dsimp) ?_
        simp -dsimp [optD, t4, t5, t6, hm, f1, hmu, b1, wi, hmu1, nes, hT, hT1]
        refine st_out fun s' ht hm' hn' hu' => ?_
        have a0 := ht 0
        have a4 := ht 4
        have a5 := ht 5
        have a6 := ht 6
        simp -dsimp [t0] at a0 a4 a5 a6 hm' hn' hu'
        clear ht
        refine ⟨l ++ [a], [], r, _, a0, a4, by omega, ?_, by rw [a5, hjl']; push_cast; rfl, by rw [a6, hjl']; push_cast; simp, by rw [hu', hmu], by rw [hs, hj']; simp, fun b hb => ?_, by simp, by simp⟩
        · simp [hm', nes, f1]
        · rcases List.mem_append.1 hb with hb | hb
          · exact hne b hb
          · rw [List.mem_singleton.1 hb, ha]; exact hx
  · rintro y ⟨l, mid, rest, id, t0, t4, hid, hm, t5, t6, hmu, hs, hne, hmid, hend⟩
    obtain rfl := hend rfl
    have happ := readJ_app hne (mid ++ [])
    rw [← hs, hJ, List.append_nil, readJ_clean hmid] at happ
    simp only [List.append_nil, Nat.add_zero] at happ
    rw [happ]
    simp -dsimp [t4, t5, hm]
end TL

/- Deeds, one after the other. -/
set_option linter.unusedSimpArgs false
set_option linter.unusedVariables false
set_option maxRecDepth 100000
set_option maxHeartbeats 4000000
set_option pp.maxSteps 1500
namespace TL
open Go Go.Proofs
attribute [local simp] marksV storyV codeV Claim.v Place.v Deed.v Desk.v
theorem words_short {a : Deed} (h : deedTx a ≠ []) : a.words.length ≤ 1000000000 := by
  rcases deed_cases h with ⟨w, rfl, ⟨d, hd⟩, _⟩ | ⟨n, h0, h9, rfl, _⟩ | ⟨n, h0, h9, rfl, _⟩ | ⟨rfl, _⟩ | ⟨rfl, _⟩
  · have := readC_len hd; simp only; omega
  · simp
  · simp
  · simp
  · simp
theorem copyDesk_v (d : Desk) (hd : d.small) (m : Mem) (n : Nat) : FnS Tryz.prog 35 m n [.v d.v] (Drawn (fun x => x = d.v) m n) := by
  refine Drawn_of ⟨_, Tryz.func35, rfl, rfl⟩ fun hfr => ?_
  refine (copyDesk_own d hd m n).weak ?_
  rintro t m' n' ⟨hn, hout, id, st, rfl, h0, h1, him, hst, hne⟩
  refine ⟨hn, ⟨d.v, ?_, rfl⟩, hout⟩
  have hb := hst.bor (n0 := n) (m' := m') (Nat.le_refl _) (fun i _ _ _ => rfl) 3
  have h0' : n ≤ id := h0
  simp [hb, him, h0']
theorem l15Copy_v (d : Desk) (hd : d.small) (m : Mem) (n : Nat) : FnS Tryz.prog 28 m n [.v d.v] (Drawn (fun x => x = d.v) m n) := by
  refine Drawn_of ⟨_, Tryz.func28, rfl, rfl⟩ fun hfr => ?_
  refine (l15Copy_own d hd m n).weak ?_
  rintro t m' n' ⟨hn, hout, st, rfl, hst⟩
  refine ⟨hn, ⟨d.v, ?_, rfl⟩, hout⟩
  have hb := hst.bor (n0 := n) (m' := m') (Nat.le_refl _) (fun i _ _ _ => rfl) 3
  simp [hb]
theorem doAll_succ {d : Desk} {l : List Deed} {i : Nat} (h : i < l.length) : doAll d (l.take (i + 1)) = doStep (doAll d (l.take i)) l[i] := by
  unfold doAll
  rw [List.take_succ_eq_append_getElem h, List.foldl_append]; rfl
noncomputable def Ida (d : Desk) (l : List Deed) (e : Nat) (s : S) : Prop := ∃ i : Nat, s.tm 2 = .ptr 0 0 ∧ s.tm 4 = .ptr 1 0 ∧ s.tm 6 = .v (.int .i64 (doAll d (l.take i)).2) ∧ s.tm 13 = .v (.sl (l.map Deed.v)) ∧ s.tm 14 = .v (.int .i64 l.length) ∧ s.tm 15 = .v (.int .i64 i) ∧ i ≤ l.length ∧ 2 ≤ s.n ∧
  s.m 0 = some (.box 37 3 [.v (.int .i64 (doAll d (l.take i)).1.now.people), .v (storyV (doAll d (l.take i)).1.now.story), .v (.sl ((doAll d (l.take i)).1.past.map Place.v))]) ∧ s.m 1 = some (.box 37 3 [.v (.int .i64 0), .nil, .nil]) ∧ (e = 1 → i = l.length)
theorem doAll_fn (d : Desk) (l : List Deed) (hk : deskOk d = true) (hl : l.length ≤ 1048576) (hw : ∀ a ∈ l, a.words.length ≤ 1000000000) : FnZ Tryz.prog 50 [d.v, .sl (l.map Deed.v)] (.tup [(doAll d l).1.v, .int .i64 (doAll d l).2]) := by
  have hcv := fun m n => copyDesk_v d (desk_fine hk).1 m n
  refine FnZ_of (rs := [.cell 4 37, .tmp 5]) false Tryz.func50 rfl rfl rfl rfl (Nat.le_of_ble_eq_true rfl) ?_
  simp -dsimp
  refine callL_ (vs := [d.v]) (hcv _ _) (by simp -dsimp) ?_
  rintro t m1 n1 ⟨hn1, ⟨x, rfl, rfl⟩, rfl⟩
  have f0 := far (show 0 < n1 by omega)
  have f1 := far (show 1 < n1 by omega)
  simp -dsimp [f0, f1]
  refine twp_loopC (Ida d l 0) (fun s => l.length - natOf (s.tm 15)) (Ida d l 1) ?_ ?_ ?_
  · exact ⟨0, by simp -dsimp, by simp -dsimp, by simp -dsimp [doAll], by simp -dsimp, by simp -dsimp, by simp -dsimp, by omega, (by simp -dsimp <;> omega), by simp -dsimp [doAll], by simp -dsimp, by simp⟩
  · rintro s ⟨i, t2, t4, t6, t13, t14, t15, hi, hn, m0, m1, hend⟩
    by_cases hlt : i < l.length
    case neg =>
      simp -dsimp [t14, t15, hlt]
      exact ⟨i, by simp -dsimp [t2], by simp -dsimp [t4], by simp -dsimp [t6], by simp -dsimp [t13], by simp -dsimp [t14], by simp -dsimp [t15], hi, by simp -dsimp; omega, by simp -dsimp [m0], by simp -dsimp [m1], fun _ => by omega⟩
    have hget : (l.map Deed.v)[i]? = some (l[i].v) := by simp [hlt]
    have wi : IntKind.wrap .i64 ((i : Int) + 1) = ((i + 1 : Nat) : Int) := by rw [w64 (by omega) (by omega)]; omega
    have hmu1 : l.length - (i + 1) < l.length - i := by omega
    have f0 := far (show 0 < s.n by omega)
    have f1 := far (show 1 < s.n by omega)
    have hD := doAll_ok (l.take i) d hk
    have hcall := deskDo_fn (doAll d (l.take i)).1 l[i] (desk_fine hD).1 (hw _ (List.getElem_mem _))
    have hs := doAll_succ (d := d) hlt
    have hcnt := doAll_len (l.take i) d
    have hcl : (l.take i).length ≤ i := by simp; omega
    have wc : IntKind.wrap .i64 (((doAll d (l.take i)).2 : Int) + 1) = (((doAll d (l.take i)).2 + 1 : Nat) : Int) := by rw [w64 (by omega) (by omega)]; omega
    have hyes : (deskDo (doAll d (l.take i)).1 l[i]).2 = true → doAll d (l.take (i + 1)) = ((deskDo (doAll d (l.take i)).1 l[i]).1, (doAll d (l.take i)).2 + 1) := fun h => by rw [hs]; exact if_pos h
    have hno : (deskDo (doAll d (l.take i)).1 l[i]).2 = false → doAll d (l.take (i + 1)) = doAll d (l.take i) := fun h => by rw [hs]; exact if_neg (by simp [h])
    clear hs hD hcnt hcl
    generalize deskDo (doAll d (l.take i)).1 l[i] = E at *
    generalize doAll d (l.take i) = R at *
    obtain ⟨⟨⟨E1, E2⟩, E3⟩, E4⟩ := E
    obtain ⟨⟨⟨D1, D2⟩, D3⟩, c⟩ := R
    generalize hx : l[i] = a at *
    obtain ⟨a1, a2, a3⟩ := a
    simp only at t6 m0 hcall wc hyes hno
    simp -dsimp [t2, t13, t14, t15, hlt, hget, m0, f0, f1, nes, hx]
    refine call_ hcall (by simp -dsimp) ?_
    cases E4 with
    | false =>
      have hR := hno rfl
      simp -dsimp [t2, t6, t15, m0, f0, f1, nes, wi, hmu1]
      exact ⟨i + 1, by simp -dsimp [t2], by simp -dsimp [t4], by simp -dsimp [t6, hR], by simp -dsimp [t13], by simp -dsimp [t14], by simp -dsimp, by omega, (by simp -dsimp <;> omega), by simp -dsimp [m0, f0, f1, hR], by simp -dsimp [m1, f0, f1], by simp⟩
    | true =>
      have hR := hyes rfl
      simp -dsimp [t2, t6, t15, m0, f0, f1, nes, wi, hmu1, wc]
      exact ⟨i + 1, by simp -dsimp [t2], by simp -dsimp [t4], by simp -dsimp [hR], by simp -dsimp [t13], by simp -dsimp [t14], by simp -dsimp, by omega, (by simp -dsimp <;> omega), by simp -dsimp [f0, f1, hR], by simp -dsimp [m1, f0, f1], by simp⟩
  · rintro s ⟨i, t2, t4, t6, t13, t14, t15, hi, hn, m0, m1, hend⟩
    have := hend rfl
    subst this
    rw [List.take_length] at m0 t6
    generalize doAll d l = R at *
    obtain ⟨⟨⟨D1, D2⟩, D3⟩, c⟩ := R
    simp -dsimp [t2, t4, t6, m0, m1]
noncomputable def Ir15 (d : Desk) (l : List Deed) (q : Nat) (e : Nat) (s : S) : Prop := ∃ i : Nat, s.tm 1 = .v (.sl (l.map Deed.v)) ∧ s.tm 4 = .ptr 1 0 ∧ s.tm 6 = .ptr q 0 ∧ s.tm 7 = .v (.int .i64 (doAll d (l.take i)).2) ∧ s.tm 8 = .v (.int .i64 i) ∧ i ≤ l.length ∧ q < s.n ∧
  s.m q = some (.box 37 3 [.v (.int .i64 (doAll d (l.take i)).1.now.people), .v (storyV (doAll d (l.take i)).1.now.story), .v (.sl ((doAll d (l.take i)).1.past.map Place.v))]) ∧ s.m 1 = some (.box 37 3 [.v (.int .i64 0), .nil, .nil]) ∧ (e = 1 → i = l.length)
theorem doAllS_fn (d : Desk) (l : List Deed) (hk : deskOk d = true) (hl : l.length ≤ 1048576) (hw : ∀ a ∈ l, a.words.length ≤ 1000000000) : FnZ Tryz.prog 49 [d.v, .sl (l.map Deed.v)] (.tup [(doAll d l).1.v, .int .i64 (doAll d l).2]) := by
  have hcv := fun m n => l15Copy_v d (desk_fine hk).1 m n
  refine FnZ_of (rs := [.cell 4 37, .tmp 5]) false Tryz.func49 rfl rfl rfl rfl (Nat.le_of_ble_eq_true rfl) ?_
  simp -dsimp
  refine callL_ (vs := [d.v]) (hcv _ _) (by simp -dsimp) ?_
  rintro t m1 q ⟨hn1, ⟨x, rfl, rfl⟩, rfl⟩
  have q1 : ¬ q = 1 := by omega
  have f0 := far (show 0 < q by omega)
  have f1 := far (show 1 < q by omega)
  simp -dsimp [f0, f1]
  refine twp_loopC (Ir15 d l q 0) (fun s => l.length - natOf (s.tm 8)) (Ir15 d l q 1) ?_ ?_ ?_
  · exact ⟨0, by simp -dsimp, by simp -dsimp, by simp -dsimp, by simp -dsimp [doAll], by simp -dsimp, by omega, (by simp -dsimp <;> omega), by simp -dsimp [doAll], by simp -dsimp [f1], by simp⟩
  · rintro s ⟨i, t1, t4, t6, t7, t8, hi, hn, m0, m1, hend⟩
    by_cases hlt : i < l.length
    case neg =>
      simp -dsimp [t1, t8, hlt]
      exact ⟨i, by simp -dsimp [t1], by simp -dsimp [t4], by simp -dsimp [t6], by simp -dsimp [t7], by simp -dsimp [t8], hi, by simp -dsimp; omega, by simp -dsimp [m0], by simp -dsimp [m1], fun _ => by omega⟩
    have hget : (l.map Deed.v)[i]? = some (l[i].v) := by simp [hlt]
    have wi : IntKind.wrap .i64 ((i : Int) + 1) = ((i + 1 : Nat) : Int) := by rw [w64 (by omega) (by omega)]; omega
    have hmu1 : l.length - (i + 1) < l.length - i := by omega
    have f0 := far (show q < s.n by omega)
    have f1 := far (show 1 < s.n by omega)
    have hD := doAll_ok (l.take i) d hk
    have hcall := deskDoS_fn (doAll d (l.take i)).1 l[i] (desk_fine hD).1 (desk_fine hD).2.1 (hw _ (List.getElem_mem _))
    have hs := doAll_succ (d := d) hlt
    have hcnt := doAll_len (l.take i) d
    have hcl : (l.take i).length ≤ i := by simp; omega
    have wc : IntKind.wrap .i64 (((doAll d (l.take i)).2 : Int) + 1) = (((doAll d (l.take i)).2 + 1 : Nat) : Int) := by rw [w64 (by omega) (by omega)]; omega
    have hyes : (deskDo (doAll d (l.take i)).1 l[i]).2 = true → doAll d (l.take (i + 1)) = ((deskDo (doAll d (l.take i)).1 l[i]).1, (doAll d (l.take i)).2 + 1) := fun h => by rw [hs]; exact if_pos h
    have hno : (deskDo (doAll d (l.take i)).1 l[i]).2 = false → doAll d (l.take (i + 1)) = doAll d (l.take i) := fun h => by rw [hs]; exact if_neg (by simp [h])
    clear hs hD hcnt hcl
    generalize deskDo (doAll d (l.take i)).1 l[i] = E at *
    generalize doAll d (l.take i) = R at *
    obtain ⟨⟨⟨E1, E2⟩, E3⟩, E4⟩ := E
    obtain ⟨⟨⟨D1, D2⟩, D3⟩, c⟩ := R
    generalize hx : l[i] = a at *
    obtain ⟨a1, a2, a3⟩ := a
    simp only at t7 m0 hcall wc hyes hno
    simp -dsimp [t1, t8, hlt]
    refine twp_drawT (.run [0, 1, 2, 3, 4] (.alt (.run [5, 6, 7, 8, 9, 10, 11] .done) (.run [9, 5, 6, 7, 8, 10, 11] .done))) [q] (List.replicate 12 [0]) (List.replicate 12 [0]) (by kernel_rfl) (by kernel_rfl) (by kernel_rfl) (by kernel_rfl) ?_
    simp -dsimp [t1, t6, t8, hlt, hget, m0, f0, f1, nes, hx]
    refine ordT_both ?_ ?_
    · simp -dsimp [t1, t6, t8, hlt, hget, m0, f0, f1, nes, hx]
      refine call_ hcall (by simp -dsimp) ?_
      cases E4 with
      | false =>
        have hR := hno rfl
        simp -dsimp [t1, t6, t7, t8, m0, f0, f1, nes, wi, hmu1]
        exact ⟨i + 1, by simp -dsimp [t1], by simp -dsimp [t4], by simp -dsimp [t6], by simp -dsimp [t7, hR], by simp -dsimp, by omega, (by simp -dsimp <;> omega), by simp -dsimp [m0, f0, f1, hR], by simp -dsimp [m1, f0, f1], by simp⟩
      | true =>
        have hR := hyes rfl
        have q1' : ¬ 1 = q := by omega
        simp -dsimp [t1, t6, t7, t8, m0, f0, f1, nes, wi, hmu1, wc]
        exact ⟨i + 1, by simp -dsimp [t1], by simp -dsimp [t4], by simp -dsimp [t6], by simp -dsimp [hR], by simp -dsimp, by omega, (by simp -dsimp <;> omega), by simp -dsimp [f0, f1, hR], by simp -dsimp [m1, f0, f1, q1, q1'], by simp⟩
    · simp -dsimp [t1, t6, t8, hlt, hget, m0, f0, f1, nes, hx]
      refine call_ hcall (by simp -dsimp) ?_
      cases E4 with
      | false =>
        have hR := hno rfl
        simp -dsimp [t1, t6, t7, t8, m0, f0, f1, nes, wi, hmu1]
        exact ⟨i + 1, by simp -dsimp [t1], by simp -dsimp [t4], by simp -dsimp [t6], by simp -dsimp [t7, hR], by simp -dsimp, by omega, (by simp -dsimp <;> omega), by simp -dsimp [m0, f0, f1, hR], by simp -dsimp [m1, f0, f1], by simp⟩
      | true =>
        have hR := hyes rfl
        have q1' : ¬ 1 = q := by omega
        simp -dsimp [t1, t6, t7, t8, m0, f0, f1, nes, wi, hmu1, wc]
        exact ⟨i + 1, by simp -dsimp [t1], by simp -dsimp [t4], by simp -dsimp [t6], by simp -dsimp [hR], by simp -dsimp, by omega, (by simp -dsimp <;> omega), by simp -dsimp [f0, f1, hR], by simp -dsimp [m1, f0, f1, q1, q1'], by simp⟩
  · rintro s ⟨i, t1, t4, t6, t7, t8, hi, hn, m0, m1, hend⟩
    have := hend rfl
    subst this
    rw [List.take_length] at m0 t7
    generalize doAll d l = R at *
    obtain ⟨⟨⟨D1, D2⟩, D3⟩, c⟩ := R
    simp -dsimp [t4, t6, t7, m0, m1, q1]
end TL

/- Runs of deeds at a desk. -/
set_option linter.unusedSimpArgs false
set_option linter.unusedVariables false
set_option maxRecDepth 100000
set_option maxHeartbeats 4000000
set_option pp.maxSteps 1500
namespace TL
open Go Go.Proofs
attribute [local simp] marksV storyV codeV Claim.v Place.v Deed.v Desk.v
noncomputable def deskRun (d : Desk) (l : List Deed) : Desk × Nat := if deskOk d = true ∧ l.length ≤ 40 then doAll d l else (noDeskV, 0)
theorem deskRun_fn (d : Desk) (l : List Deed) (hd : d.small) (hw : ∀ a ∈ l, a.words.length ≤ 1000000000) : FnZ Tryz.prog 18 [d.v, .sl (l.map Deed.v)] (.tup [(deskRun d l).1.v, .int .i64 (deskRun d l).2]) := by
  have hok := deskOk_fn d (by have := hd.2.1; omega) (by have := hd.1.1; omega) (fun p hp => by have := (hd.2.2 p hp).1; omega)
  have hk := ft (deskOk d)
  rcases hk with hk | hk
  · have e : deskRun d l = (noDeskV, 0) := if_neg (by simp [hk])
    rw [e]
    rw [hk] at hok
    refine FnZ_of (rs := [.cell 4 37, .tmp 5]) false Tryz.func18 rfl rfl rfl rfl (Nat.le_of_ble_eq_true rfl) ?_
    simp -dsimp
    refine call_ hok (by simp -dsimp) ?_
    simp -dsimp [noDeskV]
  rw [hk] at hok
  by_cases hl : l.length ≤ 40
  case neg =>
    have e : deskRun d l = (noDeskV, 0) := if_neg (by simp [hl])
    have hl' : (40 : Int) < l.length := by omega
    have hl'' : 40 < l.length := by omega
    rw [e]
    refine FnZ_of (rs := [.cell 4 37, .tmp 5]) false Tryz.func18 rfl rfl rfl rfl (Nat.le_of_ble_eq_true rfl) ?_
    simp -dsimp
    refine call_ hok (by simp -dsimp) ?_
    simp -dsimp [noDeskV, hl', hl'']
  have e : deskRun d l = doAll d l := if_pos ⟨hk, hl⟩
  have hl' : ¬ (40 : Int) < l.length := by omega
  have hl'' : ¬ 40 < l.length := by omega
  have h := doAll_fn d l hk (by omega) hw
  rw [e]
  generalize doAll d l = R at *
  obtain ⟨⟨⟨D1, D2⟩, D3⟩, c⟩ := R
  refine FnZ_of (rs := [.cell 4 37, .tmp 5]) false Tryz.func18 rfl rfl rfl rfl (Nat.le_of_ble_eq_true rfl) ?_
  simp -dsimp
  refine call_ hok (by simp -dsimp) ?_
  simp -dsimp [hl', hl'', nes]
  refine call_ h (by simp -dsimp) ?_
  simp -dsimp [nes]
theorem deskRunS_fn (d : Desk) (l : List Deed) (hd : d.small) (hf : d.fit) (hw : ∀ a ∈ l, a.words.length ≤ 1000000000) : FnZ Tryz.prog 16 [d.v, .sl (l.map Deed.v)] (.tup [(deskRun d l).1.v, .int .i64 (deskRun d l).2]) := by
  have hok := deskOkS_fn d hd hf
  have hk := ft (deskOk d)
  rcases hk with hk | hk
  · have e : deskRun d l = (noDeskV, 0) := if_neg (by simp [hk])
    rw [e]
    rw [hk] at hok
    refine FnZ_of (rs := [.cell 4 37, .tmp 5]) false Tryz.func16 rfl rfl rfl rfl (Nat.le_of_ble_eq_true rfl) ?_
    simp -dsimp
    refine call_ hok (by simp -dsimp) ?_
    simp -dsimp [noDeskV]
  rw [hk] at hok
  by_cases hl : l.length ≤ 40
  case neg =>
    have e : deskRun d l = (noDeskV, 0) := if_neg (by simp [hl])
    have hl' : (40 : Int) < l.length := by omega
    have hl'' : 40 < l.length := by omega
    rw [e]
    refine FnZ_of (rs := [.cell 4 37, .tmp 5]) false Tryz.func16 rfl rfl rfl rfl (Nat.le_of_ble_eq_true rfl) ?_
    simp -dsimp
    refine call_ hok (by simp -dsimp) ?_
    simp -dsimp [noDeskV, hl', hl'']
  have e : deskRun d l = doAll d l := if_pos ⟨hk, hl⟩
  have hl' : ¬ (40 : Int) < l.length := by omega
  have hl'' : ¬ 40 < l.length := by omega
  have h := doAllS_fn d l hk (by omega) hw
  rw [e]
  generalize doAll d l = R at *
  obtain ⟨⟨⟨D1, D2⟩, D3⟩, c⟩ := R
  refine FnZ_of (rs := [.cell 4 37, .tmp 5]) false Tryz.func16 rfl rfl rfl rfl (Nat.le_of_ble_eq_true rfl) ?_
  simp -dsimp
  refine call_ hok (by simp -dsimp) ?_
  simp -dsimp [hl', hl'', nes]
  refine call_ h (by simp -dsimp) ?_
  simp -dsimp [nes]
end TL

/- Runs of deeds, and opened stores, results of the caller's own. -/
set_option linter.unusedSimpArgs false
set_option linter.unusedVariables false
set_option maxRecDepth 100000
set_option maxHeartbeats 4000000
set_option pp.maxSteps 1500
namespace TL
open Go Go.Proofs
attribute [local simp] marksV storyV codeV Claim.v Place.v Deed.v Desk.v
/-- A desk of the caller's own, and a value beside it. -/
def PostX (D : Desk) (x : V) (t : T) (m' : Mem) (n' : Nat) : Prop := ∃ sn P, t = .tup [dT D sn P, .v x] ∧ OwnD m' 0 n' sn P D
def PostD (D : Desk) (t : T) (m' : Mem) (n' : Nat) : Prop := ∃ sn P, t = dT D sn P ∧ OwnD m' 0 n' sn P D
theorem callK_ {f : Nat} {m : Mem} {n : Nat} {args : List T} {vs : List V} {D : Desk} {x : V} {k : T → Mem → Nat → Prop} (hx : x.flat = true) (h : FnS Tryz.prog f (fun _ => none) 0 (vs.map .v) (PostX D x)) (ha : mapO (bor true m 4) args = some vs)
    (hk : ∀ sn P m2 n2, n ≤ n2 → (∀ j, j < n → m2 j = m j) → OwnD m2 n n2 sn P D → k (.tup [dT D sn P, .v x]) m2 n2) : callP Tryz.prog f m n args k := by
  refine callU_ (Q := PostX D x) h ha ?_ ?_
  · rintro t m' n' ⟨sn, P, rfl, ho⟩
    exact ⟨flM m', flM_le _, by have := ho.flat.2; simp [this, hx], flM_fl _, sn, P, rfl, ho.flat.1⟩
  · rintro t m' n' ⟨sn, P, rfl, ho⟩
    have h2 := ho.up (n := n) (m := m)
    rw [Nat.zero_add, Nat.add_comm n' n] at h2
    exact hk (sn.up n) (P.up n) _ _ (by omega) (fun j j1 => catM_lo j1) h2
theorem callKD_ {f : Nat} {m : Mem} {n : Nat} {args : List T} {vs : List V} {D : Desk} {k : T → Mem → Nat → Prop} (h : FnS Tryz.prog f (fun _ => none) 0 (vs.map .v) (PostD D)) (ha : mapO (bor true m 4) args = some vs)
    (hk : ∀ sn P m2 n2, n ≤ n2 → (∀ j, j < n → m2 j = m j) → OwnD m2 n n2 sn P D → k (dT D sn P) m2 n2) : callP Tryz.prog f m n args k := by
  refine callU_ (Q := PostD D) h ha ?_ ?_
  · rintro t m' n' ⟨sn, P, rfl, ho⟩
    exact ⟨flM m', flM_le _, by have := ho.flat.2; simp [this], flM_fl _, sn, P, rfl, ho.flat.1⟩
  · rintro t m' n' ⟨sn, P, rfl, ho⟩
    have h2 := ho.up (n := n) (m := m)
    rw [Nat.zero_add, Nat.add_comm n' n] at h2
    exact hk (sn.up n) (P.up n) _ _ (by omega) (fun j j1 => catM_lo j1) h2
noncomputable def Idk (d : Desk) (l : List Deed) (e : Nat) (s : S) : Prop := ∃ (i lo hi : Nat) (sn P : T), s.tm 2 = .ptr 0 0 ∧ s.tm 4 = .ptr 1 0 ∧ s.tm 6 = .v (.int .i64 (doAll d (l.take i)).2) ∧ s.tm 13 = .v (.sl (l.map Deed.v)) ∧ s.tm 14 = .v (.int .i64 l.length) ∧ s.tm 15 = .v (.int .i64 i) ∧ i ≤ l.length ∧ 2 ≤ s.n ∧
  s.m 0 = some (.box 37 3 [.v (.int .i64 (doAll d (l.take i)).1.now.people), sn, P]) ∧ s.m 1 = some (.box 37 3 [.v (.int .i64 0), .nil, .nil]) ∧ OwnD s.m lo hi sn P (doAll d (l.take i)).1 ∧ 2 ≤ lo ∧ hi ≤ s.n ∧ (e = 1 → i = l.length)
theorem doAll_k (d : Desk) (l : List Deed) (hk : deskOk d = true) (hl : l.length ≤ 1048576) (hw : ∀ a ∈ l, a.words.length ≤ 1000000000) : FnS Tryz.prog 50 (fun _ => none) 0 [.v d.v, .v (.sl (l.map Deed.v))] (PostX (doAll d l).1 (.int .i64 (doAll d l).2)) := by
  have hcv := fun m n => copyDesk_k d (desk_fine hk).1 hk m n
  refine FnS_of (rs := [.cell 4 37, .tmp 5]) false Tryz.func50 rfl rfl rfl rfl (Nat.le_of_ble_eq_true rfl) ?_
  simp -dsimp
  refine callL_ (vs := [d.v]) (hcv _ _) (by simp -dsimp) ?_
  rintro t m1 n1 ⟨hn1, hout, sn, P, rfl, hown⟩
  have k0 := hout 0 (by omega)
  have k1 := hout 1 (by omega)
  simp -dsimp at k0 k1
  have f0 := far (show 0 < n1 by omega)
  have f1 := far (show 1 < n1 by omega)
  have hfc := hown.facts
  have hc := hfc.1
  have hcs := hfc.2.1
  have hcP := hfc.2.2.1
  have hcsP := hfc.2.2.2
  clear hfc
  simp -dsimp [dT, f0, f1, k0, k1, hc, hcs, hcP, hcsP]
  refine twp_loopC (Idk d l 0) (fun s => l.length - natOf (s.tm 15)) (Idk d l 1) ?_ ?_ ?_
  · exact ⟨0, 2, n1, sn, P, by simp -dsimp, by simp -dsimp, by simp -dsimp [doAll], by simp -dsimp, by simp -dsimp, by simp -dsimp, by omega, (by simp -dsimp <;> omega), by simp -dsimp [doAll, k0, f0], by simp -dsimp [k1, f1], hown.keep (Nat.le_refl _) (Nat.le_refl _) (fun j j1 j2 => by simp -dsimp [show ¬ j = 0 by omega]), by omega, (by simp -dsimp <;> omega), by simp⟩
  · rintro s ⟨i, lo, hi', sn, P, t2, t4, t6, t13, t14, t15, hi, hn, m0, m1, hown, hlo, hhi, hend⟩
    by_cases hlt : i < l.length
    case neg =>
      simp -dsimp [t14, t15, hlt]
      exact ⟨i, lo, hi', sn, P, by simp -dsimp [t2], by simp -dsimp [t4], by simp -dsimp [t6], by simp -dsimp [t13], by simp -dsimp [t14], by simp -dsimp [t15], hi, by simp -dsimp; omega, by simp -dsimp [m0], by simp -dsimp [m1], hown, hlo, by simp -dsimp; omega, fun _ => by omega⟩
    have hget : (l.map Deed.v)[i]? = some (l[i].v) := by simp [hlt]
    have wi : IntKind.wrap .i64 ((i : Int) + 1) = ((i + 1 : Nat) : Int) := by rw [w64 (by omega) (by omega)]; omega
    have hmu1 : l.length - (i + 1) < l.length - i := by omega
    have f0 := far (show 0 < s.n by omega)
    have f1 := far (show 1 < s.n by omega)
    have hD := doAll_ok (l.take i) d hk
    have hcall := deskDo_k (doAll d (l.take i)).1 l[i] (desk_fine hD).1 (hw _ (List.getElem_mem _))
    have hs := doAll_succ (d := d) hlt
    have hcnt := doAll_len (l.take i) d
    have hcl : (l.take i).length ≤ i := by simp; omega
    have wc : IntKind.wrap .i64 (((doAll d (l.take i)).2 : Int) + 1) = (((doAll d (l.take i)).2 + 1 : Nat) : Int) := by rw [w64 (by omega) (by omega)]; omega
    have hyes : (deskDo (doAll d (l.take i)).1 l[i]).2 = true → doAll d (l.take (i + 1)) = ((deskDo (doAll d (l.take i)).1 l[i]).1, (doAll d (l.take i)).2 + 1) := fun h => by rw [hs]; exact if_pos h
    have hno : (deskDo (doAll d (l.take i)).1 l[i]).2 = false → doAll d (l.take (i + 1)) = doAll d (l.take i) := fun h => by rw [hs]; exact if_neg (by simp [h])
    clear hs hD hcnt hcl
    generalize deskDo (doAll d (l.take i)).1 l[i] = E at *
    generalize doAll d (l.take i) = R at *
    obtain ⟨E0, E4⟩ := E
    obtain ⟨⟨⟨D1, D2⟩, D3⟩, c⟩ := R
    generalize hx : l[i] = a at *
    obtain ⟨a1, a2, a3⟩ := a
    simp only at t6 m0 hcall wc hyes hno
    have hbo := fun x => (hown.keep (m' := updM s.m s.n x) (Nat.le_refl _) (Nat.le_refl _) fun j j1 j2 => by simp [show ¬ j = s.n by omega]).bor
    have b1 := fun x => (hbo x).1
    have b2 := fun x => (hbo x).2
    clear hbo
    simp only at b1 b2
    simp -dsimp [t2, t13, t14, t15, hlt, hget, m0, f0, f1, nes, hx]
    refine callK_ (vs := [(⟨⟨D1, D2⟩, D3⟩ : Desk).v, (⟨a1, a2, a3⟩ : Deed).v]) (D := E0) (x := .bool E4) rfl hcall (by simp -dsimp [b1, b2]) ?_
    intro sn2 P2 m2 n2 hn2 hout2 hown2
    have k0 := hout2 0 (by omega)
    have k1 := hout2 1 (by omega)
    simp -dsimp [m0, m1, f0, f1] at k0 k1
    have ks : ∀ j, j < s.n → m2 j = s.m j := fun j j1 => by rw [hout2 j (by omega)]; simp [show ¬ j = s.n by omega]
    have hfc := hown.facts
    have hc := hfc.1
    have hcs := hfc.2.1
    have hcP := hfc.2.2.1
    have hcsP := hfc.2.2.2
    have hfc2 := hown2.facts
    have hc2 := hfc2.1
    have hcs2 := hfc2.2.1
    have hcP2 := hfc2.2.2.1
    have hcsP2 := hfc2.2.2.2
    clear hfc hfc2
    have g0 := far (show 0 < n2 by omega)
    have g1 := far (show 1 < n2 by omega)
    have g2 := far (show s.n < n2 by omega)
    have hkeep : ∀ m' : Mem, (∀ j, j < s.n → ¬ j = 0 → m' j = m2 j) → OwnD m' lo hi' sn P ⟨⟨D1, D2⟩, D3⟩ := fun m' h => hown.keep (Nat.le_refl _) (Nat.le_refl _) fun j j1 j2 => by rw [h j (by omega) (by omega), ks j (by omega)]
    have hkeep2 : ∀ m' : Mem, (∀ j, s.n < j → j < n2 → m' j = m2 j) → OwnD m' (s.n + 1 + 1) n2 sn2 P2 E0 := fun m' h => hown2.keep (Nat.le_refl _) (Nat.le_refl _) fun j j1 j2 => h j (by omega) j2
    cases E4 with
    | false =>
      have hR := hno rfl
      simp -dsimp [dT, t2, t6, t15, k0, k1, f0, f1, g0, g1, g2, nes, wi, hmu1, hc2, hcs2, hcP2, hcsP2]
      refine st_out (I := Idk d l 0) fun s' ht hm' hn' hu' => ?_
      have a2 := ht 2
      have a4 := ht 4
      have a6 := ht 6
      have a13 := ht 13
      have a14 := ht 14
      have a15 := ht 15
      simp -dsimp [t2, t4, t6, t13, t14] at a2 a4 a6 a13 a14 a15 hm' hn' hu'
      clear ht
      refine ⟨i + 1, lo, hi', sn, P, a2, a4, by rw [a6, hR], a13, a14, by rw [a15]; simp, by omega, by omega, by rw [hR, hm']; simp [k0, show ¬ 0 = n2 by omega], by rw [hm']; simp [k1, show ¬ 1 = n2 by omega], ?_, hlo, by omega, by simp⟩
      rw [hR, hm']
      exact hkeep _ fun j j1 j2 => by simp [show ¬ j = n2 by omega]
    | true =>
      have hR := hyes rfl
      simp -dsimp [dT, t2, t6, t15, k0, k1, f0, f1, g0, g1, g2, nes, wi, hmu1, wc, hc2, hcs2, hcP2, hcsP2]
      refine st_out (I := Idk d l 0) fun s' ht hm' hn' hu' => ?_
      have a2 := ht 2
      have a4 := ht 4
      have a6 := ht 6
      have a13 := ht 13
      have a14 := ht 14
      have a15 := ht 15
      simp -dsimp [t2, t4, t6, t13, t14] at a2 a4 a6 a13 a14 a15 hm' hn' hu'
      clear ht
      refine ⟨i + 1, s.n + 1 + 1, n2, sn2, P2, a2, a4, by rw [a6, hR]; simp, a13, a14, by rw [a15]; simp, by omega, by omega, by rw [hR, hm']; simp, by rw [hm']; simp [k1, show ¬ 1 = n2 by omega], ?_, by omega, by omega, by simp⟩
      rw [hR, hm']
      exact hkeep2 _ fun j j1 j2 => by simp [show ¬ j = n2 by omega, show ¬ j = 0 by omega]
  · rintro s ⟨i, lo, hi', sn, P, t2, t4, t6, t13, t14, t15, hi, hn, m0, m1, hown, hlo, hhi, hend⟩
    have := hend rfl
    subst this
    rw [List.take_length] at m0 t6 hown
    have hfc := hown.facts
    have hc := hfc.1
    have hcs := hfc.2.1
    have hcP := hfc.2.2.1
    have hcsP := hfc.2.2.2
    clear hfc
    generalize doAll d l = R at *
    obtain ⟨⟨⟨D1, D2⟩, D3⟩, c⟩ := R
    simp -dsimp [t2, t4, t6, m0, m1, hc, hcs, hcP, hcsP]
    exact ⟨sn, P, rfl, hown.keep (Nat.zero_le _) (by omega) fun j j1 j2 => by simp [show ¬ j = 1 by omega]⟩
end TL

/- Rows of deeds made for the laws, the caller's own; the exact law of DeskDo. -/
set_option linter.unusedSimpArgs false
set_option linter.unusedVariables false
set_option maxRecDepth 100000
set_option maxHeartbeats 4000000
set_option pp.maxSteps 1500
namespace TL
open Go Go.Proofs
attribute [local simp] marksV storyV codeV Claim.v Place.v Deed.v Desk.v
/-- What is used of a desk that is one, or none. -/
def Desk.neat (d : Desk) : Prop := d.small ∧ (∀ c ∈ d.now.story, c.says.length ≤ 13) ∧ (∀ p ∈ d.past, ∀ c ∈ p.story, c.says.length ≤ 13) ∧ d.bulk ≤ 1000
theorem saysSum_max (l : List Claim) (h : ∀ c ∈ l, c.says.length ≤ 13) : saysSum l ≤ 13 * l.length := by
  induction l with
  | nil => simp [saysSum]
  | cons c l ih =>
    have h1 := h c (by simp)
    have h2 := ih fun x hx => h x (by simp [hx])
    have e : saysSum (c :: l) = c.says.length + saysSum l := by simp [saysSum]
    rw [e, List.length_cons]; omega
theorem place_bulk {p : Place} (h : placeOk p = true) : p.bulk ≤ 84 ∧ ∀ c ∈ p.story, c.says.length ≤ 13 := by
  obtain ⟨_, _, q3, q4⟩ := placeOk_all h
  have h13 : ∀ c ∈ p.story, c.says.length ≤ 13 := fun c hc => (claimOk_all (q4 c hc)).2.2.2.2.2
  have := saysSum_max p.story h13
  refine ⟨?_, h13⟩
  show p.story.length + saysSum p.story ≤ 84
  omega
theorem bulkSum_max (l : List Place) (h : ∀ p ∈ l, placeOk p = true) : bulkSum l ≤ 84 * l.length := by
  induction l with
  | nil => simp [bulkSum]
  | cons c l ih =>
    have h1 := (place_bulk (h c (by simp))).1
    have h2 := ih fun x hx => h x (by simp [hx])
    have e : bulkSum (c :: l) = c.bulk + bulkSum l := by simp [bulkSum]
    rw [e, List.length_cons]; omega
theorem desk_neat {d : Desk} (h : deskOk d = true) : d.neat := by
  obtain ⟨h1, h2, h3⟩ := deskOk_iff.1 h
  have h4 := bulkSum_max d.past h1
  have h5 := place_bulk h2
  refine ⟨(desk_fine h).1, h5.2, fun p hp => (place_bulk (h1 p hp)).2, ?_⟩
  show d.now.bulk + (d.past.length + bulkSum d.past) ≤ 1000
  omega
theorem none_neat : noDeskV.neat := ⟨⟨⟨by simp [noDeskV], by simp [noDeskV]⟩, by simp [noDeskV], by simp [noDeskV]⟩, by simp [noDeskV], by simp [noDeskV], by decide⟩
theorem deskDo_small {d : Desk} {a : Deed} : (deskDo d a).1.neat := by
  cases hk : deskOk d
  · rw [deskDo_no hk]; exact none_neat
  · exact desk_neat (deskDo_ok d a hk)
theorem OwnD.lend {m : Mem} {lo hi : Nat} {sn P : T} {d : Desk} (h : OwnD m lo hi sn P d) : TL.bor true m 4 (.agg [.v (.int .i64 d.now.people), sn, P]) = some d.v := by
  have h1 := h.bor.1
  have h2 := h.bor.2
  simp [h1, h2]
theorem OwnD.lend1 {m : Mem} {lo hi : Nat} {sn P : T} {d : Desk} (h : OwnD m lo hi sn P d) : mapO (TL.bor true m 4) [.agg [.v (.int .i64 d.now.people), sn, P]] = some [d.v] := by
  have h1 := h.lend
  simp only [mapO, h1]; rfl
theorem OwnD.lend2 {m : Mem} {lo hi : Nat} {sn P : T} {d : Desk} (h : OwnD m lo hi sn P d) {t : T} {v : V} (ht : TL.bor true m 4 t = some v) : mapO (TL.bor true m 4) [.agg [.v (.int .i64 d.now.people), sn, P], t] = some [d.v, v] := by
  have h1 := h.lend
  simp only [mapO, h1, ht]; rfl
/-- Behind the call of the reference: w0 lies in 2. -/
def Iwd (d E : Desk) (a : Deed) (b : Bool) (s : S) : Prop := s.tm 2 = .ptr 0 0 ∧ s.tm 3 = .ptr 1 0 ∧ s.tm 6 = .ptr 2 0 ∧ s.tm 7 = .v (.bool b) ∧ s.n = 4 ∧
  s.m 0 = some (.box 27 3 [.v (.int .i64 d.now.people), .v (.sl (d.now.story.map Claim.v)), .v (.sl (d.past.map Place.v))]) ∧ s.m 1 = some (.box 29 3 [.v (.int .i64 a.kind), .v (.int .i64 a.num), .v (.str a.words)]) ∧
  s.m 2 = some (.box 37 3 [.v (.int .i64 E.now.people), .v (.sl (E.now.story.map Claim.v)), .v (.sl (E.past.map Place.v))])
/-- Behind the call of the program: x0 lies in n1, g0 in q. -/
def Ixd (d E : Desk) (a : Deed) (b : Bool) (n1 : Nat) (s : S) : Prop := ∃ (q lo hi : Nat) (sn P sn2 P2 : T), s.tm 2 = .ptr 0 0 ∧ s.tm 3 = .ptr 1 0 ∧ s.tm 6 = .ptr 2 0 ∧ s.tm 7 = .v (.bool b) ∧ s.tm 8 = .ptr n1 0 ∧ s.tm 9 = .ptr q 0 ∧ s.tm 10 = .v (.bool b) ∧
  s.m 0 = some (.box 27 3 [.v (.int .i64 d.now.people), .v (.sl (d.now.story.map Claim.v)), .v (.sl (d.past.map Place.v))]) ∧ s.m 1 = some (.box 29 3 [.v (.int .i64 a.kind), .v (.int .i64 a.num), .v (.str a.words)]) ∧
  s.m 2 = some (.box 37 3 [.v (.int .i64 E.now.people), .v (.sl (E.now.story.map Claim.v)), .v (.sl (E.past.map Place.v))]) ∧ s.m n1 = some (.box 37 3 [.v (.int .i64 d.now.people), sn, P]) ∧ s.m q = some (.box 37 3 [.v (.int .i64 E.now.people), sn2, P2]) ∧
  OwnD s.m 4 n1 sn P d ∧ OwnD s.m lo hi sn2 P2 E ∧ 4 ≤ n1 ∧ n1 < lo ∧ hi ≤ s.n ∧ n1 < q ∧ q < s.n ∧ (q < lo ∨ hi ≤ q)
/-- Behind the second call of the program: g0 lies in q, h0 in r. -/
def Iyd (E : Desk) (b : Bool) (q lo hi : Nat) (sn2 P2 : T) (s : S) : Prop := ∃ r : Nat, s.tm 6 = .ptr 2 0 ∧ s.tm 7 = .v (.bool b) ∧ s.tm 9 = .ptr q 0 ∧ s.tm 12 = .v (.int .i64 (mkDn 1 E)) ∧ s.tm 14 = .ptr r 0 ∧ s.tm 15 = .v (.bool b) ∧
  s.m 2 = some (.box 37 3 [.v (.int .i64 E.now.people), .v (.sl (E.now.story.map Claim.v)), .v (.sl (E.past.map Place.v))]) ∧ s.m q = some (.box 37 3 [.v (.int .i64 E.now.people), sn2, P2]) ∧
  s.m r = some (.box 37 3 [.v (.int .i64 E.now.people), .v (.sl (E.now.story.map Claim.v)), .v (.sl (E.past.map Place.v))]) ∧ OwnD s.m lo hi sn2 P2 (mkD 1 E)
theorem lawExactDeskDo (d : Desk) (hp : d.mid) (hf : d.fit) (a : Deed) (ha : a.fit) : FnZ Tryz.prog 3 [d.v, a.v] (.bool true) := by
  have hsz := szDesk_fn d 1048576 (by omega) (by omega) hp
  by_cases h : (1048576 : Int) - d.bulk < 0
  · have e : szR 1048576 d.bulk = -1 := if_pos h
    rw [e] at hsz
    obtain ⟨a1, a2, a3⟩ := a
    refine FnZ_of (rs := [.tmp 4]) false Tryz.func3 rfl rfl rfl rfl (Nat.le_of_ble_eq_true rfl) ?_
    simp -dsimp
    refine call_ hsz (by simp -dsimp) ?_
    simp -dsimp
  have e : szR 1048576 d.bulk = 1048576 - d.bulk := if_neg h
  rw [e] at hsz
  have hsd := szDeed_fn a (1048576 - d.bulk) (by omega) (by omega) ha.2.2
  by_cases h2 : (1048576 : Int) - d.bulk - a.words.length < 0
  · have e : szR (1048576 - d.bulk) a.words.length = -1 := if_pos h2
    rw [e] at hsd
    obtain ⟨a1, a2, a3⟩ := a
    refine FnZ_of (rs := [.tmp 4]) false Tryz.func3 rfl rfl rfl rfl (Nat.le_of_ble_eq_true rfl) ?_
    simp -dsimp
    refine call_ hsz (by simp -dsimp) ?_
    simp -dsimp [h]
    refine call_ hsd (by simp -dsimp) ?_
    simp -dsimp
  have e : szR (1048576 - d.bulk) a.words.length = 1048576 - d.bulk - a.words.length := if_neg h2
  rw [e] at hsd
  have hw : a.words.length ≤ 1000000000 := by omega
  have hs := Desk.small_of h
  have hb : d.bulk ≤ 1048576 := by omega
  have h1 := toDesk_fn d hs
  have h3 := toDeed_fn a
  have h4 := deskDoS_fn d a hs hf hw
  have h5 := deskDo_fn d a hs hw
  have h5k := deskDo_k d a hs hw
  obtain ⟨ns, nl0, nl, nb⟩ := deskDo_small (d := d) (a := a)
  have hto := fun m n => toDesk_own d hs m n
  have h6 := eqDesk_fn (deskDo d a).1 (deskDo d a).1 ns
  have h7 := eqDesk_fn d d hs
  have q1 := mkDn_sum d 1
  have q2 := mkDn_sum (deskDo d a).1 1
  have hl0 : ∀ c ∈ d.now.story, c.says.length ≤ 1000000000 := fun c hc => by have := hs.1.2 c hc; unfold Claim.small at this; omega
  have hl : ∀ p ∈ d.past, ∀ c ∈ p.story, c.says.length ≤ 1000000000 := fun p hp c hc => by have := (hs.2.2 p hp).2 c hc; unfold Claim.small at this; omega
  have h8 := fun m lo hi n hlo sn P h => markDesk_deep d 1 (by omega) (by omega) hl0 hl m lo hi n hlo sn P h
  have h9 := fun m lo hi n hlo sn P h => markDesk_deep (deskDo d a).1 1 (by omega) (by omega) (fun c hc => by have := nl0 c hc; omega) (fun p hp c hc => by have := nl p hp c hc; omega) m lo hi n hlo sn P h
  have h10 := heldDesk_deep (deskDo d a).1 1 (by omega) (by omega) (fun c hc => by have := nl0 c hc; omega) (fun p hp c hc => by have := nl p hp c hc; omega)
  have p0 : ¬ mkDn 1 d < 0 := by omega
  have p1 : ¬ mkDn 1 (deskDo d a).1 < 0 := by omega
  have hh : FnS Tryz.prog 11 (fun _ => none) 0 [.v d.v, .v a.v] (PostX (deskDo d a).1 (.bool (deskDo d a).2)) := h5k
  clear q1 q2 e nl0 nl nb hl0 hl ns h5k
  generalize deskDo d a = E at *
  obtain ⟨⟨⟨E1, E2⟩, E3⟩, b⟩ := E
  obtain ⟨⟨d1, d2⟩, d3⟩ := d
  obtain ⟨a1, a2, a3⟩ := a
  refine FnZ_of (rs := [.tmp 4]) false Tryz.func3 rfl rfl rfl rfl (Nat.le_of_ble_eq_true rfl) ?_
  simp -dsimp
  refine call_ hsz (by simp -dsimp) ?_
  simp -dsimp [h, nes]
  refine call_ hsd (by simp -dsimp) ?_
  simp -dsimp [h2, nes]
  refine twp_cutQ (Iwd ⟨⟨d1, d2⟩, d3⟩ ⟨⟨E1, E2⟩, E3⟩ ⟨a1, a2, a3⟩ b) ?_ ?_
  · refine twp_drawT (.run [0, 2] (.alt (.run [1] (.alt (.run [3] (.alt (.run [4, 5, 6, 7, 8, 9, 10] .done) (.run [8, 4, 5, 6, 7, 9, 10] .done))) (.run [8, 3, 4, 5, 6, 7, 9, 10] .done))) (.run [8, 1, 3, 4, 5, 6, 7, 9, 10] .done))) [0, 1] (List.replicate 11 [0, 1]) (List.replicate 11 [0, 1]) (by kernel_rfl) (by kernel_rfl) (by kernel_rfl) (by kernel_rfl) ?_
    simp -dsimp [nes]
    refine ordT_both ?_ ?_
    · simp -dsimp [nes]
      refine call_ h1 (by simp -dsimp) ?_
      simp -dsimp [nes]
      refine ordT_both ?_ ?_
      · simp -dsimp [nes]
        refine call_ h3 (by simp -dsimp) ?_
        simp -dsimp [nes]
        refine ordT_both ?_ ?_
        · simp -dsimp [nes]
          refine call_ h4 (by simp -dsimp) ?_
          simp -dsimp [nes]
          exact ⟨by simp -dsimp [nes], by simp -dsimp [nes], by simp -dsimp [nes], by simp -dsimp [nes], by simp -dsimp [nes], by simp -dsimp [nes], by simp -dsimp [nes], by simp -dsimp [nes]⟩
        · simp -dsimp [nes]
          refine call_ h4 (by simp -dsimp) ?_
          simp -dsimp [nes]
          exact ⟨by simp -dsimp [nes], by simp -dsimp [nes], by simp -dsimp [nes], by simp -dsimp [nes], by simp -dsimp [nes], by simp -dsimp [nes], by simp -dsimp [nes], by simp -dsimp [nes]⟩
      · simp -dsimp [nes]
        refine call_ h3 (by simp -dsimp) ?_
        simp -dsimp [nes]
        refine call_ h4 (by simp -dsimp) ?_
        simp -dsimp [nes]
        exact ⟨by simp -dsimp [nes], by simp -dsimp [nes], by simp -dsimp [nes], by simp -dsimp [nes], by simp -dsimp [nes], by simp -dsimp [nes], by simp -dsimp [nes], by simp -dsimp [nes]⟩
    · simp -dsimp [nes]
      refine call_ h1 (by simp -dsimp) ?_
      simp -dsimp [nes]
      refine call_ h3 (by simp -dsimp) ?_
      simp -dsimp [nes]
      refine call_ h4 (by simp -dsimp) ?_
      simp -dsimp [nes]
      exact ⟨by simp -dsimp [nes], by simp -dsimp [nes], by simp -dsimp [nes], by simp -dsimp [nes], by simp -dsimp [nes], by simp -dsimp [nes], by simp -dsimp [nes], by simp -dsimp [nes]⟩
  intro s0 hs0
  obtain ⟨u2, u3, u6, u7, hn0, m0, m1, m2⟩ := hs0
  simp only at m0 m1 m2
  simp -dsimp [u2, u3, u6, u7, hn0, m0, m1, m2, nes]
  refine callL_ (vs := [(⟨⟨d1, d2⟩, d3⟩ : Desk).v]) (hto _ _) (by simp -dsimp) ?_
  rintro t m4 n1 ⟨hn1, hout1, sn, P, rfl, hown⟩
  have hfc := hown.facts
  have hc := hfc.1
  have hcs := hfc.2.1
  have hcP := hfc.2.2.1
  have hcsP := hfc.2.2.2
  clear hfc
  have k0 := hout1 0 (by omega)
  have k1 := hout1 1 (by omega)
  have k2 := hout1 2 (by omega)
  rw [m0] at k0
  rw [m1] at k1
  rw [m2] at k2
  have f0 := far (show 0 < n1 by omega)
  have f1 := far (show 1 < n1 by omega)
  have f2 := far (show 2 < n1 by omega)
  have v2 := u2
  have v3 := u3
  have v6 := u6
  have v7 := u7
  simp -dsimp [dT, nes, k0, k1, k2, hc, hcs, hcP, hcsP, f0, f1, f2]
  refine twp_cutQ (Ixd ⟨⟨d1, d2⟩, d3⟩ ⟨⟨E1, E2⟩, E3⟩ ⟨a1, a2, a3⟩ b n1) ?_ ?_
  · refine twp_drawT (.run [0, 1] (.alt (.run [2] (.alt (.run [3, 4, 5, 6, 7, 8, 9] .done) (.run [7, 3, 4, 5, 6, 8, 9] .done))) (.run [7, 2, 3, 4, 5, 6, 8, 9] .done))) [n1, 1] (List.replicate 10 [0, 1]) (List.replicate 10 [0, 1]) (by kernel_rfl) (by kernel_rfl) (by kernel_rfl) (by kernel_rfl) ?_
    simp -dsimp [dT, nes, v2, v3, v6, v7, k0, k1, k2, hc, hcs, hcP, hcsP, f0, f1, f2]
    refine ordT_both ?_ ?_
    · simp -dsimp [dT, nes, v2, v3, v6, v7, k0, k1, k2, hc, hcs, hcP, hcsP, f0, f1, f2]
      refine call_ h3 (by simp -dsimp) ?_
      simp -dsimp [dT, nes, v2, v3, v6, v7, k0, k1, k2, hc, hcs, hcP, hcsP, f0, f1, f2]
      refine ordT_both ?_ ?_
      · simp -dsimp [dT, nes, v2, v3, v6, v7, k0, k1, k2, hc, hcs, hcP, hcsP, f0, f1, f2]
        refine callK_ (vs := [(⟨⟨d1, d2⟩, d3⟩ : Desk).v, (⟨a1, a2, a3⟩ : Deed).v]) (D := ⟨⟨E1, E2⟩, E3⟩) (x := .bool b) rfl hh (OwnD.lend2 (d := ⟨⟨d1, d2⟩, d3⟩) (hown.keep (Nat.le_refl _) (Nat.le_refl _) fun j j1 j2 => by simp -dsimp [far j2, show ¬ j = n1 by omega]) (by simp -dsimp)) ?_
        intro sn2 P2 m3 n2 hn2 hout2 hown2
        have l0 := hout2 0 (by omega)
        have l1 := hout2 1 (by omega)
        have l2 := hout2 2 (by omega)
        have l3 := hout2 n1 (by omega)
        simp -dsimp [nes, f0, f1, f2, k0, k1, k2] at l0 l1 l2 l3
        have hfc := hown2.facts
        have hc2 := hfc.1
        have hcs2 := hfc.2.1
        have hcP2 := hfc.2.2.1
        have hcsP2 := hfc.2.2.2
        clear hfc
        have g0 := far (show 0 < n2 by omega)
        have g1 := far (show 1 < n2 by omega)
        have g2 := far (show 2 < n2 by omega)
        have g3 := far (show n1 < n2 by omega)
        have g4 := far (show n1 + 1 < n2 by omega)
        have g5 := trivial
        have l4 := trivial
        have ko : ∀ j, 4 ≤ j → j < n1 → m3 j = m4 j := fun j j1 j2 => by rw [hout2 j (by omega)]; simp -dsimp [far j2, show ¬ j = n1 by omega]
        simp -dsimp [dT, nes, v2, v3, v6, v7, k0, k1, k2, hc, hcs, hcP, hcsP, f0, f1, f2, l0, l1, l2, l3, l4, hc2, hcs2, hcP2, hcsP2, g0, g1, g2, g3, g4, g5]
        refine st_out (I := Ixd ⟨⟨d1, d2⟩, d3⟩ ⟨⟨E1, E2⟩, E3⟩ ⟨a1, a2, a3⟩ b n1) fun s' ht hm' hn' hu' => ?_
        have a2 := ht 2
        have a3 := ht 3
        have a6 := ht 6
        have a7 := ht 7
        have a8 := ht 8
        have a9 := ht 9
        have a10 := ht 10
        simp -dsimp [dT, nes, v2, v3, v6, v7, k0, k1, k2, hc, hcs, hcP, hcsP, f0, f1, f2] at a2 a3 a6 a7 a8 a9 a10 hm' hn' hu'
        clear ht
        refine ⟨n2, _, n2, sn, P, sn2, P2, a2, a3, a6, a7, a8, a9, a10, ?_, ?_, ?_, ?_, ?_, hown.keep (Nat.le_refl _) (Nat.le_refl _) fun j j1 j2 => ?_, hown2.keep (Nat.le_refl _) (Nat.le_refl _) fun j j1 j2 => ?_, ?_, ?_, ?_, ?_, ?_, ?_⟩
        · simp -dsimp [hm', l0, g0, nes, f0, show ¬ n1 = 0 by omega]
        · simp -dsimp [hm', l1, g1, nes, f1, show ¬ n1 = 0 by omega]
        · simp -dsimp [hm', l2, g2, nes, f2, show ¬ n1 = 0 by omega]
        · simp -dsimp [hm', l3, g3, nes]
        · simp -dsimp [hm', nes]
        · rw [hm', ← ko j j1 j2]; simp -dsimp [far j2, show ¬ j = n2 by omega]
        · rw [hm']; simp -dsimp [show ¬ j = n2 by omega]
        all_goals omega
      · simp -dsimp [dT, nes, v2, v3, v6, v7, k0, k1, k2, hc, hcs, hcP, hcsP, f0, f1, f2]
        refine callK_ (vs := [(⟨⟨d1, d2⟩, d3⟩ : Desk).v, (⟨a1, a2, a3⟩ : Deed).v]) (D := ⟨⟨E1, E2⟩, E3⟩) (x := .bool b) rfl hh (OwnD.lend2 (d := ⟨⟨d1, d2⟩, d3⟩) (hown.keep (Nat.le_refl _) (Nat.le_refl _) fun j j1 j2 => by simp -dsimp [far j2, show ¬ j = n1 by omega]) (by simp -dsimp)) ?_
        intro sn2 P2 m3 n2 hn2 hout2 hown2
        have l0 := hout2 0 (by omega)
        have l1 := hout2 1 (by omega)
        have l2 := hout2 2 (by omega)
        have l3 := hout2 n1 (by omega)
        simp -dsimp [nes, f0, f1, f2, k0, k1, k2] at l0 l1 l2 l3
        have hfc := hown2.facts
        have hc2 := hfc.1
        have hcs2 := hfc.2.1
        have hcP2 := hfc.2.2.1
        have hcsP2 := hfc.2.2.2
        clear hfc
        have g0 := far (show 0 < n2 by omega)
        have g1 := far (show 1 < n2 by omega)
        have g2 := far (show 2 < n2 by omega)
        have g3 := far (show n1 < n2 by omega)
        have g4 := far (show n1 + 1 < n2 by omega)
        have g5 := far (show n1 + 1 + 1 < n2 by omega)
        have l4 := hout2 (n1 + 1 + 1) (by omega)
        simp -dsimp [nes] at l4
        have ko : ∀ j, 4 ≤ j → j < n1 → m3 j = m4 j := fun j j1 j2 => by rw [hout2 j (by omega)]; simp -dsimp [far j2, show ¬ j = n1 by omega]
        simp -dsimp [dT, nes, v2, v3, v6, v7, k0, k1, k2, hc, hcs, hcP, hcsP, f0, f1, f2, l0, l1, l2, l3, l4, hc2, hcs2, hcP2, hcsP2, g0, g1, g2, g3, g4, g5]
        refine st_out (I := Ixd ⟨⟨d1, d2⟩, d3⟩ ⟨⟨E1, E2⟩, E3⟩ ⟨a1, a2, a3⟩ b n1) fun s' ht hm' hn' hu' => ?_
        have a2 := ht 2
        have a3 := ht 3
        have a6 := ht 6
        have a7 := ht 7
        have a8 := ht 8
        have a9 := ht 9
        have a10 := ht 10
        simp -dsimp [dT, nes, v2, v3, v6, v7, k0, k1, k2, hc, hcs, hcP, hcsP, f0, f1, f2] at a2 a3 a6 a7 a8 a9 a10 hm' hn' hu'
        clear ht
        refine ⟨n1 + 1 + 1, _, n2, sn, P, sn2, P2, a2, a3, a6, a7, a8, a9, a10, ?_, ?_, ?_, ?_, ?_, hown.keep (Nat.le_refl _) (Nat.le_refl _) fun j j1 j2 => ?_, hown2.keep (Nat.le_refl _) (Nat.le_refl _) fun j j1 j2 => ?_, ?_, ?_, ?_, ?_, ?_, ?_⟩
        · simp -dsimp [hm', l0, g0, nes, f0, show ¬ n1 = 0 by omega]
        · simp -dsimp [hm', l1, g1, nes, f1, show ¬ n1 = 0 by omega]
        · simp -dsimp [hm', l2, g2, nes, f2, show ¬ n1 = 0 by omega]
        · simp -dsimp [hm', l3, g3, nes]
        · simp -dsimp [hm', nes]
        · rw [hm', ← ko j j1 j2]; simp -dsimp [far j2, show ¬ j = n2 by omega]
        · rw [hm']; simp -dsimp [show ¬ j = n2 by omega, show ¬ j = n1 + 1 + 1 by omega]
        all_goals omega
    · simp -dsimp [dT, nes, v2, v3, v6, v7, k0, k1, k2, hc, hcs, hcP, hcsP, f0, f1, f2]
      refine call_ h3 (by simp -dsimp) ?_
      simp -dsimp [dT, nes, v2, v3, v6, v7, k0, k1, k2, hc, hcs, hcP, hcsP, f0, f1, f2]
      refine callK_ (vs := [(⟨⟨d1, d2⟩, d3⟩ : Desk).v, (⟨a1, a2, a3⟩ : Deed).v]) (D := ⟨⟨E1, E2⟩, E3⟩) (x := .bool b) rfl hh (OwnD.lend2 (d := ⟨⟨d1, d2⟩, d3⟩) (hown.keep (Nat.le_refl _) (Nat.le_refl _) fun j j1 j2 => by simp -dsimp [far j2, show ¬ j = n1 by omega]) (by simp -dsimp)) ?_
      intro sn2 P2 m3 n2 hn2 hout2 hown2
      have l0 := hout2 0 (by omega)
      have l1 := hout2 1 (by omega)
      have l2 := hout2 2 (by omega)
      have l3 := hout2 n1 (by omega)
      simp -dsimp [nes, f0, f1, f2, k0, k1, k2] at l0 l1 l2 l3
      have hfc := hown2.facts
      have hc2 := hfc.1
      have hcs2 := hfc.2.1
      have hcP2 := hfc.2.2.1
      have hcsP2 := hfc.2.2.2
      clear hfc
      have g0 := far (show 0 < n2 by omega)
      have g1 := far (show 1 < n2 by omega)
      have g2 := far (show 2 < n2 by omega)
      have g3 := far (show n1 < n2 by omega)
      have g4 := far (show n1 + 1 < n2 by omega)
      have g5 := far (show n1 + 1 + 1 < n2 by omega)
      have l4 := hout2 (n1 + 1 + 1) (by omega)
      simp -dsimp [nes] at l4
      have ko : ∀ j, 4 ≤ j → j < n1 → m3 j = m4 j := fun j j1 j2 => by rw [hout2 j (by omega)]; simp -dsimp [far j2, show ¬ j = n1 by omega]
      simp -dsimp [dT, nes, v2, v3, v6, v7, k0, k1, k2, hc, hcs, hcP, hcsP, f0, f1, f2, l0, l1, l2, l3, l4, hc2, hcs2, hcP2, hcsP2, g0, g1, g2, g3, g4, g5]
      refine st_out (I := Ixd ⟨⟨d1, d2⟩, d3⟩ ⟨⟨E1, E2⟩, E3⟩ ⟨a1, a2, a3⟩ b n1) fun s' ht hm' hn' hu' => ?_
      have a2 := ht 2
      have a3 := ht 3
      have a6 := ht 6
      have a7 := ht 7
      have a8 := ht 8
      have a9 := ht 9
      have a10 := ht 10
      simp -dsimp [dT, nes, v2, v3, v6, v7, k0, k1, k2, hc, hcs, hcP, hcsP, f0, f1, f2] at a2 a3 a6 a7 a8 a9 a10 hm' hn' hu'
      clear ht
      refine ⟨n1 + 1 + 1, _, n2, sn, P, sn2, P2, a2, a3, a6, a7, a8, a9, a10, ?_, ?_, ?_, ?_, ?_, hown.keep (Nat.le_refl _) (Nat.le_refl _) fun j j1 j2 => ?_, hown2.keep (Nat.le_refl _) (Nat.le_refl _) fun j j1 j2 => ?_, ?_, ?_, ?_, ?_, ?_, ?_⟩
      · simp -dsimp [hm', l0, g0, nes, f0, show ¬ n1 = 0 by omega]
      · simp -dsimp [hm', l1, g1, nes, f1, show ¬ n1 = 0 by omega]
      · simp -dsimp [hm', l2, g2, nes, f2, show ¬ n1 = 0 by omega]
      · simp -dsimp [hm', l3, g3, nes]
      · simp -dsimp [hm', nes]
      · rw [hm', ← ko j j1 j2]; simp -dsimp [far j2, show ¬ j = n2 by omega]
      · rw [hm']; simp -dsimp [show ¬ j = n2 by omega, show ¬ j = n1 + 1 + 1 by omega]
      all_goals omega
  intro s hs
  obtain ⟨q, lo, hi, sn, P, sn2, P2, t2, t3, t6, t7, t8, t9, t10, m0, m1, m2, mx, mq, ho, ho2, b1, b2, b3, b4, b5, b6⟩ := hs
  simp only at m0 m1 m2 mx mq
  have hfc := ho.facts
  have hc := hfc.1
  have hcs := hfc.2.1
  have hcP := hfc.2.2.1
  have hcsP := hfc.2.2.2
  have hfc2 := ho2.facts
  have hc2 := hfc2.1
  have hcs2 := hfc2.2.1
  have hcP2 := hfc2.2.2.1
  have hcsP2 := hfc2.2.2.2
  clear hfc hfc2
  simp -dsimp [dT, nes, t2, t3, t6, t7, t8, t9, t10, hc, hcs, hcP, hcsP, hc2, hcs2, hcP2, hcsP2, m2, mq]
  refine callM_ h6 (OwnD.lend2 (d := (⟨⟨E1, E2⟩, E3⟩ : Desk)) ho2 (by simp -dsimp)) rfl ?_
  simp -dsimp [dT, nes, t2, t3, t6, t7, t8, t9, t10, hc, hcs, hcP, hcsP, hc2, hcs2, hcP2, hcsP2, m2, mq]
  refine twp_draw (List.range 5) [n1, 0] [[0], [1], [], [], []] (List.replicate 5 [0, 1]) (by kernel_rfl) (by kernel_rfl) (by kernel_rfl) (by kernel_rfl) ?_
  simp -dsimp [List.range_succ, dT, nes, t2, t3, t6, t7, t8, t9, t10, hc, hcs, hcP, hcsP, hc2, hcs2, hcP2, hcsP2, mx, m0]
  refine call_ h1 (by simp -dsimp) ?_
  simp -dsimp [List.range_succ, dT, nes, t2, t3, t6, t7, t8, t9, t10, hc, hcs, hcP, hcsP, hc2, hcs2, hcP2, hcsP2, mx, m0]
  refine callM_ h7 (OwnD.lend2 (d := (⟨⟨d1, d2⟩, d3⟩ : Desk)) ho (by simp -dsimp)) rfl ?_
  simp -dsimp [List.range_succ, dT, nes, t2, t3, t6, t7, t8, t9, t10, hc, hcs, hcP, hcsP, hc2, hcs2, hcP2, hcsP2, mx, m0]
  refine callS_ (h8 _ 4 n1 _ (by omega) sn P ho) ?_
  rintro t m5 n5 ⟨rfl, hn5, hown5, hout5⟩
  have c0 := hout5 0 (by omega) (.inl (by omega))
  have c1 := hout5 1 (by omega) (.inl (by omega))
  have c2 := hout5 2 (by omega) (.inl (by omega))
  have cq := hout5 q (by omega) (.inr (by omega))
  rw [m0] at c0
  rw [m1] at c1
  rw [m2] at c2
  rw [mq] at cq
  have ho3 := ho2.keep (m' := m5) (Nat.le_refl _) (Nat.le_refl _) fun j j1 j2 => hout5 j (by omega) (.inr (by omega))
  simp -dsimp [dT, nes, t2, t3, t6, t7, t8, t9, t10, hc, hcs, hcP, hcsP, hc2, hcs2, hcP2, hcsP2, c2, cq, p0]
  refine callM_ h6 (OwnD.lend2 (d := (⟨⟨E1, E2⟩, E3⟩ : Desk)) ho3 (by simp -dsimp)) rfl ?_
  simp -dsimp [dT, nes, t2, t3, t6, t7, t8, t9, t10, hc, hcs, hcP, hcsP, hc2, hcs2, hcP2, hcsP2, c2, cq, p0]
  refine callS_ (h9 _ lo hi _ (by omega) sn2 P2 ho3) ?_
  rintro t m6 n6 ⟨rfl, hn6, hown6, hout6⟩
  have e0 := hout6 0 (by omega) (.inl (by omega))
  have e1 := hout6 1 (by omega) (.inl (by omega))
  have e2 := hout6 2 (by omega) (.inl (by omega))
  have eq6 := hout6 q (by omega) (by omega)
  rw [c0] at e0
  rw [c1] at e1
  rw [c2] at e2
  rw [cq] at eq6
  have z0 := far (show 0 < n6 by omega)
  have z1 := far (show 1 < n6 by omega)
  have z2 := far (show 2 < n6 by omega)
  have zq := far (show q < n6 by omega)
  simp -dsimp [dT, nes, t2, t3, t6, t7, t8, t9, t10, hc, hcs, hcP, hcsP, hc2, hcs2, hcP2, hcsP2, e2, eq6]
  refine callM_ h10 (OwnD.lend2 (d := mkD 1 (⟨⟨E1, E2⟩, E3⟩ : Desk)) hown6 (by simp -dsimp)) rfl ?_
  simp -dsimp [dT, nes, t2, t3, t6, t7, t8, t9, t10, hc, hcs, hcP, hcsP, hc2, hcs2, hcP2, hcsP2, e2, eq6, p1]
  refine twp_cutQ (Iyd (⟨⟨E1, E2⟩, E3⟩ : Desk) b q lo hi sn2 P2) ?_ ?_
  · refine twp_drawT (.run [0, 2] (.alt (.run [1] (.alt (.run [3] (.alt (.run [4, 5, 6, 7, 8, 9, 10] .done) (.run [8, 4, 5, 6, 7, 9, 10] .done))) (.run [8, 3, 4, 5, 6, 7, 9, 10] .done))) (.run [8, 1, 3, 4, 5, 6, 7, 9, 10] .done))) [0, 1] (List.replicate 11 [0, 1]) (List.replicate 11 [0, 1]) (by kernel_rfl) (by kernel_rfl) (by kernel_rfl) (by kernel_rfl) ?_
    simp -dsimp [dT, nes, t2, t3, t6, t7, t8, t9, t10, hc, hcs, hcP, hcsP, hc2, hcs2, hcP2, hcsP2, e0, e1, e2, eq6, z0, z1, z2, zq]
    refine ordT_both ?_ ?_
    · simp -dsimp [dT, nes, t2, t3, t6, t7, t8, t9, t10, hc, hcs, hcP, hcsP, hc2, hcs2, hcP2, hcsP2, e0, e1, e2, eq6, z0, z1, z2, zq]
      refine call_ h1 (by simp -dsimp) ?_
      simp -dsimp [dT, nes, t2, t3, t6, t7, t8, t9, t10, hc, hcs, hcP, hcsP, hc2, hcs2, hcP2, hcsP2, e0, e1, e2, eq6, z0, z1, z2, zq]
      refine ordT_both ?_ ?_
      · simp -dsimp [dT, nes, t2, t3, t6, t7, t8, t9, t10, hc, hcs, hcP, hcsP, hc2, hcs2, hcP2, hcsP2, e0, e1, e2, eq6, z0, z1, z2, zq]
        refine call_ h3 (by simp -dsimp) ?_
        simp -dsimp [dT, nes, t2, t3, t6, t7, t8, t9, t10, hc, hcs, hcP, hcsP, hc2, hcs2, hcP2, hcsP2, e0, e1, e2, eq6, z0, z1, z2, zq]
        refine ordT_both ?_ ?_
        · simp -dsimp [dT, nes, t2, t3, t6, t7, t8, t9, t10, hc, hcs, hcP, hcsP, hc2, hcs2, hcP2, hcsP2, e0, e1, e2, eq6, z0, z1, z2, zq]
          refine call_ h5 (by simp -dsimp) ?_
          simp -dsimp [dT, nes, t2, t3, t6, t7, t8, t9, t10, hc, hcs, hcP, hcsP, hc2, hcs2, hcP2, hcsP2, e0, e1, e2, eq6, z0, z1, z2, zq]
          refine st_out (I := Iyd (⟨⟨E1, E2⟩, E3⟩ : Desk) b q lo hi sn2 P2) fun s' ht hm' hn' hu' => ?_
          have a6 := ht 6
          have a7 := ht 7
          have a9 := ht 9
          have a12 := ht 12
          have a14 := ht 14
          have a15 := ht 15
          simp -dsimp [dT, nes, t2, t3, t6, t7, t8, t9, t10, hc, hcs, hcP, hcsP, hc2, hcs2, hcP2, hcsP2] at a6 a7 a9 a12 a14 a15 hm' hn' hu'
          clear ht
          refine ⟨n6, a6, a7, a9, a12, a14, a15, ?_, ?_, ?_, hown6.keep (Nat.le_refl _) (Nat.le_refl _) fun j j1 j2 => ?_⟩
          · simp -dsimp [hm', e2, z2, nes]
          · simp -dsimp [hm', eq6, zq, nes]
          · simp -dsimp [hm', nes]
          · rw [hm']; simp -dsimp [show ¬ j = n6 by omega]
        · simp -dsimp [dT, nes, t2, t3, t6, t7, t8, t9, t10, hc, hcs, hcP, hcsP, hc2, hcs2, hcP2, hcsP2, e0, e1, e2, eq6, z0, z1, z2, zq]
          refine call_ h5 (by simp -dsimp) ?_
          simp -dsimp [dT, nes, t2, t3, t6, t7, t8, t9, t10, hc, hcs, hcP, hcsP, hc2, hcs2, hcP2, hcsP2, e0, e1, e2, eq6, z0, z1, z2, zq]
          refine st_out (I := Iyd (⟨⟨E1, E2⟩, E3⟩ : Desk) b q lo hi sn2 P2) fun s' ht hm' hn' hu' => ?_
          have a6 := ht 6
          have a7 := ht 7
          have a9 := ht 9
          have a12 := ht 12
          have a14 := ht 14
          have a15 := ht 15
          simp -dsimp [dT, nes, t2, t3, t6, t7, t8, t9, t10, hc, hcs, hcP, hcsP, hc2, hcs2, hcP2, hcsP2] at a6 a7 a9 a12 a14 a15 hm' hn' hu'
          clear ht
          refine ⟨n6, a6, a7, a9, a12, a14, a15, ?_, ?_, ?_, hown6.keep (Nat.le_refl _) (Nat.le_refl _) fun j j1 j2 => ?_⟩
          · simp -dsimp [hm', e2, z2, nes]
          · simp -dsimp [hm', eq6, zq, nes]
          · simp -dsimp [hm', nes]
          · rw [hm']; simp -dsimp [show ¬ j = n6 by omega]
      · simp -dsimp [dT, nes, t2, t3, t6, t7, t8, t9, t10, hc, hcs, hcP, hcsP, hc2, hcs2, hcP2, hcsP2, e0, e1, e2, eq6, z0, z1, z2, zq]
        refine call_ h3 (by simp -dsimp) ?_
        simp -dsimp [dT, nes, t2, t3, t6, t7, t8, t9, t10, hc, hcs, hcP, hcsP, hc2, hcs2, hcP2, hcsP2, e0, e1, e2, eq6, z0, z1, z2, zq]
        refine call_ h5 (by simp -dsimp) ?_
        simp -dsimp [dT, nes, t2, t3, t6, t7, t8, t9, t10, hc, hcs, hcP, hcsP, hc2, hcs2, hcP2, hcsP2, e0, e1, e2, eq6, z0, z1, z2, zq]
        refine st_out (I := Iyd (⟨⟨E1, E2⟩, E3⟩ : Desk) b q lo hi sn2 P2) fun s' ht hm' hn' hu' => ?_
        have a6 := ht 6
        have a7 := ht 7
        have a9 := ht 9
        have a12 := ht 12
        have a14 := ht 14
        have a15 := ht 15
        simp -dsimp [dT, nes, t2, t3, t6, t7, t8, t9, t10, hc, hcs, hcP, hcsP, hc2, hcs2, hcP2, hcsP2] at a6 a7 a9 a12 a14 a15 hm' hn' hu'
        clear ht
        refine ⟨n6, a6, a7, a9, a12, a14, a15, ?_, ?_, ?_, hown6.keep (Nat.le_refl _) (Nat.le_refl _) fun j j1 j2 => ?_⟩
        · simp -dsimp [hm', e2, z2, nes]
        · simp -dsimp [hm', eq6, zq, nes]
        · simp -dsimp [hm', nes]
        · rw [hm']; simp -dsimp [show ¬ j = n6 by omega]
    · simp -dsimp [dT, nes, t2, t3, t6, t7, t8, t9, t10, hc, hcs, hcP, hcsP, hc2, hcs2, hcP2, hcsP2, e0, e1, e2, eq6, z0, z1, z2, zq]
      refine call_ h1 (by simp -dsimp) ?_
      simp -dsimp [dT, nes, t2, t3, t6, t7, t8, t9, t10, hc, hcs, hcP, hcsP, hc2, hcs2, hcP2, hcsP2, e0, e1, e2, eq6, z0, z1, z2, zq]
      refine call_ h3 (by simp -dsimp) ?_
      simp -dsimp [dT, nes, t2, t3, t6, t7, t8, t9, t10, hc, hcs, hcP, hcsP, hc2, hcs2, hcP2, hcsP2, e0, e1, e2, eq6, z0, z1, z2, zq]
      refine call_ h5 (by simp -dsimp) ?_
      simp -dsimp [dT, nes, t2, t3, t6, t7, t8, t9, t10, hc, hcs, hcP, hcsP, hc2, hcs2, hcP2, hcsP2, e0, e1, e2, eq6, z0, z1, z2, zq]
      refine st_out (I := Iyd (⟨⟨E1, E2⟩, E3⟩ : Desk) b q lo hi sn2 P2) fun s' ht hm' hn' hu' => ?_
      have a6 := ht 6
      have a7 := ht 7
      have a9 := ht 9
      have a12 := ht 12
      have a14 := ht 14
      have a15 := ht 15
      simp -dsimp [dT, nes, t2, t3, t6, t7, t8, t9, t10, hc, hcs, hcP, hcsP, hc2, hcs2, hcP2, hcsP2] at a6 a7 a9 a12 a14 a15 hm' hn' hu'
      clear ht
      refine ⟨n6, a6, a7, a9, a12, a14, a15, ?_, ?_, ?_, hown6.keep (Nat.le_refl _) (Nat.le_refl _) fun j j1 j2 => ?_⟩
      · simp -dsimp [hm', e2, z2, nes]
      · simp -dsimp [hm', eq6, zq, nes]
      · simp -dsimp [hm', nes]
      · rw [hm']; simp -dsimp [show ¬ j = n6 by omega]
  intro s hs
  obtain ⟨r, a6, a7, a9, a12, a14, a15, x2, xq, xr, hx⟩ := hs
  simp only at x2 xq xr
  simp -dsimp [dT, nes, a6, a7, a9, a12, a14, a15, x2, xq, xr, hc2, hcs2, hcP2, hcsP2]
  refine call_ h6 (by simp -dsimp) ?_
  simp -dsimp [dT, nes, a6, a7, a9, a12, a14, a15, x2, xq, xr, hc2, hcs2, hcP2, hcsP2]
  refine callM_ h10 (OwnD.lend2 (d := mkD 1 (⟨⟨E1, E2⟩, E3⟩ : Desk)) hx (by simp -dsimp)) rfl ?_
  simp -dsimp [dT, nes, a6, a7, a9, a12, a14, a15, x2, xq, xr, hc2, hcs2, hcP2, hcsP2, p1]
theorem exactDeskDo_row (d : Desk) (h : d.fit ∧ d.mid) (a : Deed) (ha : a.fit) : FnZ Tryz.prog 3 [d.v, a.v] (.bool true) := lawExactDeskDo d h.2 h.1 a ha
end TL

/- Stores: mended, opened, acted at: the reference. -/
set_option linter.unusedSimpArgs false
set_option linter.unusedVariables false
set_option maxRecDepth 100000
set_option maxHeartbeats 4000000
set_option pp.maxSteps 1500
namespace TL
open Go Go.Proofs
attribute [local simp] marksV storyV codeV Claim.v Place.v Store.v Desk.v Deed.v
theorem storeOpenS_fn (s : Store) (h : s.small) : FnZ Tryz.prog 22 [s.v] (.tup [(storeOpen s).v, .bool (storeOk s)]) := by
  have ho := storeOkS_fn s h
  have hk := ft (storeOk s)
  rcases hk with hk | hk
  · unfold storeOpen
    rw [if_neg (by simp [hk])]
    rw [hk] at ho ⊢
    obtain ⟨s1, s2, s3⟩ := s
    refine FnZ_of (rs := [.cell 2 37, .tmp 3]) false Tryz.func22 rfl rfl rfl rfl (Nat.le_of_ble_eq_true rfl) ?_
    simp -dsimp
    refine call_ ho (by simp -dsimp) ?_
    simp -dsimp [noDeskV]
  have hr := readPlaceS_fn s.saved h.1
  have hj := readJournalS_fn s.log h.2
  have hp := placeOf_ok (storeOk_iff.1 hk).1
  rw [hp.2.2] at hr
  have hw : ∀ a ∈ (readJ s.log).1, a.words.length ≤ 1000000000 := fun a ha => words_short (readJ_all _ a ha)
  have hd := doAllS_fn ⟨placeOf s, []⟩ (readJ s.log).1 (desk_new hp.1) (by have := readJ_many s.log; have := (storeOk_iff.1 hk).2.1; omega) hw
  unfold storeOpen opened
  rw [if_pos hk]
  rw [hk] at ho ⊢
  generalize doAll ⟨placeOf s, []⟩ (readJ s.log).1 = R at *
  generalize readJ s.log = J at *
  generalize placeOf s = p at *
  clear hk hp
  obtain ⟨s1, s2, s3⟩ := s
  obtain ⟨J1, J2⟩ := J
  obtain ⟨⟨⟨R1, R2⟩, R3⟩, R4⟩ := R
  obtain ⟨p1, p2⟩ := p
  simp only at hr hj hd ⊢
  refine FnZ_of (rs := [.cell 2 37, .tmp 3]) false Tryz.func22 rfl rfl rfl rfl (Nat.le_of_ble_eq_true rfl) ?_
  simp -dsimp
  refine call_ ho (by simp -dsimp) ?_
  simp -dsimp
  refine call_ hr (by simp -dsimp) ?_
  simp -dsimp [optP]
  refine call_ hj (by simp -dsimp) ?_
  simp -dsimp
  refine call_ hd (by simp -dsimp) ?_
  simp -dsimp
end TL

/- Drawn deeds. -/
set_option linter.unusedSimpArgs false
set_option linter.unusedVariables false
set_option maxRecDepth 100000
set_option maxHeartbeats 4000000
set_option pp.maxSteps 1500
namespace TL
open Go Go.Proofs
attribute [local simp] marksV storyV codeV Claim.v Place.v Deed.v
def SomeDeed (x : V) : Prop := ∃ a : Deed, a.words.length ≤ 200 ∧ x = a.v
theorem deed_kinds : ∃ vs : List V, vs = [.int .i64 0, .int .i64 0, .int .i64 0, .int .i64 1, .int .i64 2, .int .i64 3, .int .i64 4] ∧ ∀ r : Int, 0 ≤ r → r < 7 → ∃ k : Int, 0 ≤ k ∧ k ≤ 4 ∧ vs[r.toNat]? = some (.int .i64 k) := by
  refine ⟨_, rfl, fun r h0 h6 => ?_⟩
  have : r = 0 ∨ r = 1 ∨ r = 2 ∨ r = 3 ∨ r = 4 ∨ r = 5 ∨ r = 6 := by omega
  rcases this with rfl | rfl | rfl | rfl | rfl | rfl | rfl
  · exact ⟨0, by omega, by omega, rfl⟩
  · exact ⟨0, by omega, by omega, rfl⟩
  · exact ⟨0, by omega, by omega, rfl⟩
  · exact ⟨1, by omega, by omega, rfl⟩
  · exact ⟨2, by omega, by omega, rfl⟩
  · exact ⟨3, by omega, by omega, rfl⟩
  · exact ⟨4, by omega, by omega, rfl⟩
theorem sixty {r : Int} (h0 : 0 ≤ r) (h : r < 60) : ∃ k : Int, r.tdiv 59 = k ∧ 0 ≤ k ∧ k ≤ 1 := ⟨_, rfl, by rw [Int.tdiv_eq_ediv_of_nonneg h0]; omega, by rw [Int.tdiv_eq_ediv_of_nonneg h0]; omega⟩
end TL

/- Texts that are spoilt. -/
set_option linter.unusedSimpArgs false
set_option linter.unusedVariables false
set_option maxRecDepth 100000
set_option maxHeartbeats 4000000
set_option pp.maxSteps 1500
namespace TL
open Go Go.Proofs
attribute [local simp] marksV storyV codeV Claim.v Place.v Deed.v
/-! Texts that are spoilt. -/
def SomeStr (x : V) : Prop := ∃ s : List UInt8, s.length ≤ 2000 ∧ x = .str s
theorem spoil_strs : ∃ vs : List V, vs = [.str [], .str [48], .str [32], .str [10], .str [49], .str [98, 97, 99, 107]] ∧ ∀ r : Int, 0 ≤ r → r < 6 → ∃ x : List UInt8, x.length ≤ 4 ∧ vs[r.toNat]? = some (.str x) := by
  refine ⟨_, rfl, fun r h0 h6 => ?_⟩
  have : r = 0 ∨ r = 1 ∨ r = 2 ∨ r = 3 ∨ r = 4 ∨ r = 5 := by omega
  rcases this with rfl | rfl | rfl | rfl | rfl | rfl
  · exact ⟨[], by simp, rfl⟩
  · exact ⟨[48], by simp, rfl⟩
  · exact ⟨[32], by simp, rfl⟩
  · exact ⟨[10], by simp, rfl⟩
  · exact ⟨[49], by simp, rfl⟩
  · exact ⟨[98, 97, 99, 107], by simp, rfl⟩
end TL

/- The laws of deeds' texts. -/
set_option linter.unusedSimpArgs false
set_option linter.unusedVariables false
set_option maxRecDepth 100000
set_option maxHeartbeats 4000000
set_option pp.maxSteps 1500
namespace TL
open Go Go.Proofs
attribute [local simp] marksV storyV codeV Claim.v Place.v Deed.v
theorem readD_more {s : List UInt8} {c : UInt8} (hc : c = 32 ∨ c = 10) : readD (s ++ [c]) = none := readD_none fun b h1 h2 => by
  have hne : deedTx b ≠ [] := by rw [h2]; exact h1
  rcases deed_cases hne with ⟨w, rfl, ⟨d, hd⟩, e⟩ | ⟨n, h0, h9, rfl, e⟩ | ⟨n, h0, h9, rfl, e⟩ | ⟨rfl, e⟩ | ⟨rfl, e⟩
  · have hw : w ≠ [] := fun e0 => by rw [e0] at hd; cases hd
    have := readC_clean hd c (last_in hw (e.symm.trans h2))
    rcases hc with rfl | rfl
    · exact this.1 rfl
    · exact this.2 rfl
  · have hw : dec n ≠ [] := fun e0 => by have := (good_dec h0 h9).2.1; rw [e0] at this; cases this
    have := (good_dec h0 h9).2.2 c (last_in hw (e.symm.trans h2))
    rcases hc with rfl | rfl
    · exact this.1 rfl
    · exact this.2 rfl
  · have hw : dec n ≠ [] := fun e0 => by have := (good_dec h0 h9).2.1; rw [e0] at this; cases this
    have := (good_dec h0 h9).2.2 c (last_in hw (e.symm.trans h2))
    rcases hc with rfl | rfl
    · exact this.1 rfl
    · exact this.2 rfl
  · have := last_in (p := []) (w := txLeast) (by decide) (e.symm.trans h2)
    rcases hc with rfl | rfl <;> revert this <;> decide
  · have := last_in (p := []) (w := txBack) (by decide) (e.symm.trans h2)
    rcases hc with rfl | rfl <;> revert this <;> decide
end TL

/- The library's functions, off the shelf: texts cut, numbers read. -/
set_option linter.unusedSimpArgs false
set_option linter.unusedVariables false
set_option maxRecDepth 100000
namespace TL
open Go Go.Proofs Go.RowKit
section
variable {P : Program}
theorem cut_FnZ {ρ : Go.Shelf.Ren} (L : Go.Proofs.Lays.n145 P ρ) (hf : ∃ fn, P.funcs[ρ.f 145]? = some fn ∧ (fn.name == "runtime.NumGoroutine") = false ∧ fn.body.isNone = false)
    (hg : P.globalNamed "internal/bytealg.MaxLen" = some (ρ.g 1)) (s c : List UInt8) (hs : s.length < 4294967281) : FnZ P (ρ.f 145) [.str s, .str c] (.tup [.str (Go.Lib.cut s c).1, .str (Go.Lib.cut s c).2.1, .bool (Go.Lib.cut s c).2.2]) := by
  refine FnZ_calls hf fun Z w vs hz hv => ?_
  cases hv with | cons h1 hv => cases hv with | cons h2 hv => cases hv with | nil =>
    cases h1 with
    | @str _ b hb =>
      cases h2 with
      | @str _ bsep hb2 =>
        have hq : GQ P (ρ.g 1) (fun v => ∃ m, v = .int .i64 m) := GQ.maxLen hg
        obtain ⟨_, v, hc, m, rfl⟩ := hz.gl _ _ hq
        have hsz : b.size = s.length := by rw [← hb]; rfl
        refine calls_mono (Any.strings_Cut L b bsep m w (by omega) hc) ?_
        rintro e w' ⟨rfl, n, rfl⟩
        rw [hb, hb2]
        exact ⟨_, rfl, below_drewN (Below.refl _ _) n, .tup (.cons (.str (by simp)) (.cons (.str (by simp)) (.cons (.bool _) .nil)))⟩
theorem atoi_FnZ {ρ : Go.Shelf.Ren} (L : Go.Proofs.LaysC.n172 P ρ) (hf : ∃ fn, P.funcs[ρ.f 172]? = some fn ∧ (fn.name == "runtime.NumGoroutine") = false ∧ fn.body.isNone = false)
    (s : List UInt8) (hs : s.length ≤ 2000000000) : FnZ P (ρ.f 172) [.str s] (.tup [.int .i64 (atoiV s), .any]) := by
  refine FnZ_calls hf fun Z w vs hz hv => ?_
  cases hv with | cons h1 hv => cases hv with | nil =>
    cases h1 with
    | @str _ b hb =>
      have hsz : b.size = s.length := by rw [← hb]; rfl
      have q1 : GQ P (ρ.g 15) (fun v => v = .nilIface ∨ ∃ t p, v = .iface t p) := GQ.errSyntax L.m15
      have q2 : GQ P (ρ.g 16) (fun v => v = .nilIface ∨ ∃ t p, v = .iface t p) := GQ.errRange L.m16
      obtain ⟨_, v1, hc1, hv1⟩ := hz.gl _ _ q1
      obtain ⟨_, v2, hc2, hv2⟩ := hz.gl _ _ q2
      cases e : Go.Lib.atoiAll s with
      | ok v =>
        have ev : atoiV s = v := by unfold atoiV; rw [e]
        rw [ev]
        refine calls_mono (Any.strconv_Atoi_ok L b (by omega) v (by rw [hb]; exact e) w) ?_
        rintro e' w' ⟨rfl, hw⟩
        refine ⟨_, rfl, ?_, .tup (.cons (.int _ _) (.cons (.any _) .nil))⟩
        rcases hw with rfl | ⟨t, rfl⟩
        · exact Below.refl _ _
        · exact Go.Joins.below_bytesWorld _ _ _ _ (Nat.le_refl _)
      | range =>
        have ev : atoiV s = Go.Lib.atoiSat s := by unfold atoiV; rw [e]
        rw [ev]
        refine calls_mono (Any.strconv_Atoi_range L b (by omega) (by rw [hb]; exact e) v2 w hc2 hv2) ?_
        rintro e' w' ⟨N, rfl, _, _, hw⟩
        rw [hb]
        exact ⟨_, rfl, hw, .tup (.cons (.int _ _) (.cons (.any _) .nil))⟩
      | _ =>
        have ev : atoiV s = 0 := by unfold atoiV; rw [e]
        rw [ev]
        refine calls_mono (Any.strconv_Atoi_syntax L b (by omega) (by rw [hb]; exact e) v1 w hc1 hv1) ?_
        rintro e' w' ⟨N, rfl, _, _, hw⟩
        exact ⟨_, rfl, hw, .tup (.cons (.int _ _) (.cons (.any _) .nil))⟩
end
theorem cut_fn (s c : List UInt8) (hs : s.length < 4294967281) : FnZ Tryz.prog 107 [.str s, .str c] (.tup [.str (Go.Lib.cut s c).1, .str (Go.Lib.cut s c).2.1, .bool (Go.Lib.cut s c).2.2]) :=
  cut_FnZ Tryz.lays145 ⟨_, Tryz.func107, rfl, rfl⟩ (by kernel_rfl) s c hs
theorem atoi_fn (s : List UInt8) (hs : s.length ≤ 2000000000) : FnZ Tryz.prog 131 [.str s] (.tup [.int .i64 (atoiV s), .any]) :=
  atoi_FnZ Tryz.laysC172 ⟨_, Tryz.func131, rfl, rfl⟩ s hs
end TL

/- Deeds read: the program and the reference, and the exact law. -/
set_option linter.unusedSimpArgs false
set_option linter.unusedVariables false
set_option maxRecDepth 100000
set_option maxHeartbeats 4000000
set_option pp.maxSteps 1500
namespace TL
open Go Go.Proofs
attribute [local simp] marksV storyV codeV Claim.v Place.v Deed.v
theorem readDeed_fn (s : List UInt8) (hl : s.length ≤ 2000000000) : FnZ Tryz.prog 108 [.str s] (optD (readD s)) := by
  have hcut := cut_fn s [32] (by omega)
  have hon : ∀ a, deedW (Go.Lib.cut s [32]).1 (Go.Lib.cut s [32]).2.1 = some a → s ≠ [] → readD s = if deedTx a = s then some a else none := fun a h => readD_on h
  have hoff : deedW (Go.Lib.cut s [32]).1 (Go.Lib.cut s [32]).2.1 = none → readD s = none := readD_off
  have hne := cutW_nil (s := s)
  have hrl := cutR_len s [32]
  have hdt : ∀ a : Deed, a.words.length ≤ 2000000000 → FnZ Tryz.prog 132 [a.v] (.str (deedTx a)) := fun a h => deedText_fn a h
  generalize (Go.Lib.cut s [32]).2.2 = f at *
  generalize (Go.Lib.cut s [32]).2.1 = r at *
  generalize (Go.Lib.cut s [32]).1 = w at *
  have hrl2 : r.length ≤ 2000000000 := by omega
  by_cases h1 : w = [115, 97, 121]
  · subst h1
    have ho := hon ⟨0, 0, r⟩ rfl (hne (by simp))
    have hd := hdt ⟨0, 0, r⟩ hrl2
    clear hon hoff hne hdt
    rw [ho]
    by_cases hx : deedTx ⟨0, 0, r⟩ = s
    · rw [hx] at hd
      rw [if_pos hx]
      refine FnZ_of (rs := [.cell 2 41, .tmp 3]) false Tryz.func108 rfl rfl rfl rfl (Nat.le_of_ble_eq_true rfl) ?_
      simp -dsimp
      refine call_ hcut (by simp -dsimp) ?_
      simp -dsimp
      refine call_ hd (by simp -dsimp) ?_
      simp -dsimp [optD]
    · rw [if_neg hx]
      refine FnZ_of (rs := [.cell 2 41, .tmp 3]) false Tryz.func108 rfl rfl rfl rfl (Nat.le_of_ble_eq_true rfl) ?_
      simp -dsimp
      refine call_ hcut (by simp -dsimp) ?_
      simp -dsimp
      refine call_ hd (by simp -dsimp) ?_
      simp -dsimp [optD, hx]
  by_cases h2 : w = [100, 114, 111, 112]
  · subst h2
    have ho := hon ⟨1, atoiV r, []⟩ rfl (hne (by simp))
    have hd := hdt ⟨1, atoiV r, []⟩ (by simp)
    have ha := atoi_fn r hrl2
    clear hon hoff hne hdt
    rw [ho]
    generalize atoiV r = num at *
    by_cases hx : deedTx ⟨1, num, []⟩ = s
    · rw [hx] at hd
      rw [if_pos hx]
      refine FnZ_of (rs := [.cell 2 41, .tmp 3]) false Tryz.func108 rfl rfl rfl rfl (Nat.le_of_ble_eq_true rfl) ?_
      simp -dsimp
      refine call_ hcut (by simp -dsimp) ?_
      simp -dsimp
      refine call_ ha (by simp -dsimp) ?_
      simp -dsimp
      refine call_ hd (by simp -dsimp) ?_
      simp -dsimp [optD]
    · rw [if_neg hx]
      refine FnZ_of (rs := [.cell 2 41, .tmp 3]) false Tryz.func108 rfl rfl rfl rfl (Nat.le_of_ble_eq_true rfl) ?_
      simp -dsimp
      refine call_ hcut (by simp -dsimp) ?_
      simp -dsimp
      refine call_ ha (by simp -dsimp) ?_
      simp -dsimp
      refine call_ hd (by simp -dsimp) ?_
      simp -dsimp [optD, hx]
  by_cases h3 : w = [112, 101, 111, 112, 108, 101]
  · subst h3
    have ho := hon ⟨2, atoiV r, []⟩ rfl (hne (by simp))
    have hd := hdt ⟨2, atoiV r, []⟩ (by simp)
    have ha := atoi_fn r hrl2
    clear hon hoff hne hdt
    rw [ho]
    generalize atoiV r = num at *
    by_cases hx : deedTx ⟨2, num, []⟩ = s
    · rw [hx] at hd
      rw [if_pos hx]
      refine FnZ_of (rs := [.cell 2 41, .tmp 3]) false Tryz.func108 rfl rfl rfl rfl (Nat.le_of_ble_eq_true rfl) ?_
      simp -dsimp
      refine call_ hcut (by simp -dsimp) ?_
      simp -dsimp
      refine call_ ha (by simp -dsimp) ?_
      simp -dsimp
      refine call_ hd (by simp -dsimp) ?_
      simp -dsimp [optD]
    · rw [if_neg hx]
      refine FnZ_of (rs := [.cell 2 41, .tmp 3]) false Tryz.func108 rfl rfl rfl rfl (Nat.le_of_ble_eq_true rfl) ?_
      simp -dsimp
      refine call_ hcut (by simp -dsimp) ?_
      simp -dsimp
      refine call_ ha (by simp -dsimp) ?_
      simp -dsimp
      refine call_ hd (by simp -dsimp) ?_
      simp -dsimp [optD, hx]
  by_cases h4 : w = [108, 101, 97, 115, 116]
  · subst h4
    have ho := hon ⟨3, 0, []⟩ rfl (hne (by simp))
    have hd := hdt ⟨3, 0, []⟩ (by simp)
    clear hon hoff hne hdt
    rw [ho]
    by_cases hx : deedTx ⟨3, 0, []⟩ = s
    · rw [hx] at hd
      rw [if_pos hx]
      refine FnZ_of (rs := [.cell 2 41, .tmp 3]) false Tryz.func108 rfl rfl rfl rfl (Nat.le_of_ble_eq_true rfl) ?_
      simp -dsimp
      refine call_ hcut (by simp -dsimp) ?_
      simp -dsimp
      refine call_ hd (by simp -dsimp) ?_
      simp -dsimp [optD]
    · rw [if_neg hx]
      refine FnZ_of (rs := [.cell 2 41, .tmp 3]) false Tryz.func108 rfl rfl rfl rfl (Nat.le_of_ble_eq_true rfl) ?_
      simp -dsimp
      refine call_ hcut (by simp -dsimp) ?_
      simp -dsimp
      refine call_ hd (by simp -dsimp) ?_
      simp -dsimp [optD, hx]
  by_cases h5 : w = [98, 97, 99, 107]
  · subst h5
    have ho := hon ⟨4, 0, []⟩ rfl (hne (by simp))
    have hd := hdt ⟨4, 0, []⟩ (by simp)
    clear hon hoff hne hdt
    rw [ho]
    by_cases hx : deedTx ⟨4, 0, []⟩ = s
    · rw [hx] at hd
      rw [if_pos hx]
      refine FnZ_of (rs := [.cell 2 41, .tmp 3]) false Tryz.func108 rfl rfl rfl rfl (Nat.le_of_ble_eq_true rfl) ?_
      simp -dsimp
      refine call_ hcut (by simp -dsimp) ?_
      simp -dsimp
      refine call_ hd (by simp -dsimp) ?_
      simp -dsimp [optD]
    · rw [if_neg hx]
      refine FnZ_of (rs := [.cell 2 41, .tmp 3]) false Tryz.func108 rfl rfl rfl rfl (Nat.le_of_ble_eq_true rfl) ?_
      simp -dsimp
      refine call_ hcut (by simp -dsimp) ?_
      simp -dsimp
      refine call_ hd (by simp -dsimp) ?_
      simp -dsimp [optD, hx]
  · have e : deedW w r = none := by unfold deedW; rw [if_neg h1, if_neg h2, if_neg h3, if_neg h4, if_neg h5]
    rw [hoff e]
    clear hon hoff hne hdt
    refine FnZ_of (rs := [.cell 2 41, .tmp 3]) false Tryz.func108 rfl rfl rfl rfl (Nat.le_of_ble_eq_true rfl) ?_
    simp -dsimp
    refine call_ hcut (by simp -dsimp) ?_
    simp -dsimp [optD, h1, h2, h3, h4, h5]
end TL

/- Journals read. -/
set_option linter.unusedSimpArgs false
set_option linter.unusedVariables false
set_option maxRecDepth 100000
set_option maxHeartbeats 4000000
set_option pp.maxSteps 1500
namespace TL
open Go Go.Proofs
attribute [local simp] marksV storyV codeV Claim.v Place.v Deed.v
def Irj (s : List UInt8) (J : List Deed × Nat) (y : S) : Prop := ∃ (pos id f : Nat) (l : List Deed), y.tm 0 = .v (.str s) ∧ y.tm 4 = .loc id ∧ id < y.n ∧ y.m id = some (.arr 41 (l.map Deed.v)) ∧ y.tm 5 = .v (.int .i64 pos) ∧ y.mu = false ∧ pos ≤ s.length ∧ l.length ≤ pos ∧
  (s.drop pos).length < f ∧ l ++ (readJF f (s.drop pos)).1 = J.1 ∧ pos + (readJF f (s.drop pos)).2 = J.2
theorem readJournal_fn (s : List UInt8) (hl : s.length ≤ 2000000000) : FnZ Tryz.prog 84 [.str s] (.tup [.sl ((readJ s).1.map Deed.v), .int .i64 (readJ s).2]) := by
  generalize hJ : readJ s = J
  refine FnZ_of (rs := [.tmp 2, .tmp 3]) false Tryz.func84 rfl rfl rfl rfl (Nat.le_of_ble_eq_true rfl) ?_
  simp -dsimp
  refine twp_loop (Irj s J) (fun y => s.length - natOf (y.tm 5)) ?_ ?_
  · exact ⟨0, 0, s.length + 1, [], by simp -dsimp, by simp -dsimp, by simp -dsimp, by simp -dsimp, by simp -dsimp, by simp -dsimp, by omega, by simp, by simp, by rw [← hJ]; rfl, by rw [← hJ]; simp [readJ]⟩
  · rintro y ⟨pos, id, f, l, t0, t4, hid, hm, t5, hmu, hpos, hll, hf, hj1, hj2⟩
    have hcut := cut_fn (s.drop pos) [10] (by rw [List.length_drop]; omega)
    have hpos' : (pos : Int) ≤ s.length := by omega
    have f1 := far hid
    have hstop : (Go.Lib.cut (s.drop pos) [10]).2.2 = false ∨ readD (Go.Lib.cut (s.drop pos) [10]).1 = none → J = (l, pos) := fun h => by
      cases f with
      | zero => simp at hf
      | succ f =>
        rw [readJF_stop h] at hj1 hj2
        obtain ⟨J1, J2⟩ := J
        simp at hj1 hj2
        rw [← hj1, ← hj2]
    have hgo : ∀ a, (Go.Lib.cut (s.drop pos) [10]).2.2 = true → readD (Go.Lib.cut (s.drop pos) [10]).1 = some a → ∃ g, pos + ((Go.Lib.cut (s.drop pos) [10]).1.length + 1) ≤ s.length ∧ (s.drop (pos + ((Go.Lib.cut (s.drop pos) [10]).1.length + 1))).length < g ∧
        (l ++ [a]) ++ (readJF g (s.drop (pos + ((Go.Lib.cut (s.drop pos) [10]).1.length + 1)))).1 = J.1 ∧ pos + ((Go.Lib.cut (s.drop pos) [10]).1.length + 1) + (readJF g (s.drop (pos + ((Go.Lib.cut (s.drop pos) [10]).1.length + 1)))).2 = J.2 := fun a h ha => by
      cases f with
      | zero => simp at hf
      | succ f =>
        rw [readJF_step h ha] at hj1 hj2
        obtain ⟨e, _⟩ := cut_found h
        have e2 : s.drop (pos + ((Go.Lib.cut (s.drop pos) [10]).1.length + 1)) = (Go.Lib.cut (s.drop pos) [10]).2.1 := by
          rw [← List.drop_drop]
          generalize Go.Lib.cut (s.drop pos) [10] = C at *
          rw [e, List.drop_append, List.drop_of_length_le (by omega)]
          have : C.1.length + 1 - C.1.length = 1 := by omega
          rw [this]; simp
        have e3 := congrArg List.length e
        rw [List.length_append, List.length_cons, List.length_drop] at e3
        have e4 := congrArg List.length e2
        rw [List.length_drop] at e4
        refine ⟨f, by omega, by rw [List.length_drop] at hf ⊢; omega, ?_, ?_⟩
        · rw [e2, ← hj1]; simp
        · rw [e2, ← hj2]; simp only; omega
    have hwl : (Go.Lib.cut (s.drop pos) [10]).1.length ≤ s.length := by
      unfold Go.Lib.cut
      split
      · simp only [List.length_take, List.length_drop]; omega
      · simp only [List.length_drop]; omega
    have hrd := readDeed_fn (Go.Lib.cut (s.drop pos) [10]).1 (by omega)
    generalize (Go.Lib.cut (s.drop pos) [10]).2.1 = r at *
    generalize (Go.Lib.cut (s.drop pos) [10]).2.2 = fd at *
    generalize (Go.Lib.cut (s.drop pos) [10]).1 = w at *
    generalize readD w = o at *
    cases fd with
    | false =>
      have hst := hstop (.inl rfl)
      rw [hst]
      simp -dsimp [t0, t5, hpos, hpos']
      refine call_ hcut (by simp -dsimp) ?_
      simp -dsimp
      refine call_ hrd (by simp -dsimp) ?_
      simp -dsimp [optD, t4, t5, hm, f1]
    | true =>
      cases o with
      | none =>
        have hst := hstop (.inr rfl)
        rw [hst]
        simp -dsimp [t0, t5, hpos, hpos']
        refine call_ hcut (by simp -dsimp) ?_
        simp -dsimp
        refine call_ hrd (by simp -dsimp) ?_
        simp -dsimp [optD, t4, t5, hm, f1]
      | some a =>
        have hg := hgo a rfl rfl
        clear hgo hstop
        refine hg.elim fun g hg => ?_
        obtain ⟨g1, g2, g3, g4⟩ := hg
        have b1 : (l.length + 1) * 32 ≤ 140737488355328 := by omega
        have w1 : IntKind.wrap .i64 ((w.length : Int) + 1) = (w.length : Int) + 1 := w64 (by omega) (by omega)
        have w2 : IntKind.wrap .i64 ((pos : Int) + ((w.length : Int) + 1)) = ((pos + (w.length + 1) : Nat) : Int) := by rw [w64 (by omega) (by omega)]; omega
        have hmu1 : s.length - (pos + (w.length + 1)) < s.length - pos := by omega
        have hT : ((pos : Int) + ((w.length : Int) + 1)).toNat = pos + (w.length + 1) := by omega
        simp -dsimp [t0, t5, hpos, hpos']
        refine call_ hcut (by simp -dsimp) ?_
        simp -dsimp
        refine call_ hrd (by simp -dsimp) ?_
        simp -dsimp [optD, t4, t5, hm, f1, hmu, b1, w1, w2, hT, hmu1, nes]
        refine st_out fun s' ht hm' hn' hu' => ?_
        have a0 := ht 0
        have a4 := ht 4
        have a5 := ht 5
        simp -dsimp [t0, w2] at a0 a4 a5 hm' hn' hu'
        clear ht
        refine ⟨pos + (w.length + 1), _, g, l ++ [a], a0, a4, by omega, ?_, a5, by rw [hu', hmu], g1, by simp; omega, g2, g3, g4⟩
        simp [hm', nes, f1]
end TL

/- Stores: mended, opened, acted at, saved. -/
set_option linter.unusedSimpArgs false
set_option linter.unusedVariables false
set_option maxRecDepth 100000
set_option maxHeartbeats 4000000
set_option pp.maxSteps 1500
namespace TL
open Go Go.Proofs
attribute [local simp] marksV storyV codeV Claim.v Place.v Store.v Desk.v Deed.v
theorem opened_fn (s : Store) (h : s.small) (hs : storeOk s = true) : FnZ Tryz.prog 57 [s.v] (opened s).v := by
  have hr := readPlace_fn s.saved h.1
  have hj := readJournal_fn s.log h.2
  have hp := placeOf_ok (storeOk_iff.1 hs).1
  rw [hp.2.2] at hr
  have hw : ∀ a ∈ (readJ s.log).1, a.words.length ≤ 1000000000 := fun a ha => words_short (readJ_all _ a ha)
  have hd := doAll_fn ⟨placeOf s, []⟩ (readJ s.log).1 (desk_new hp.1) (by have := readJ_many s.log; have := (storeOk_iff.1 hs).2.1; omega) hw
  unfold opened
  generalize doAll ⟨placeOf s, []⟩ (readJ s.log).1 = R at *
  generalize readJ s.log = J at *
  generalize placeOf s = p at *
  obtain ⟨s1, s2, s3⟩ := s
  obtain ⟨J1, J2⟩ := J
  obtain ⟨⟨⟨R1, R2⟩, R3⟩, R4⟩ := R
  obtain ⟨p1, p2⟩ := p
  simp only at hr hj hd ⊢
  refine FnZ_of (rs := [.cell 2 37]) false Tryz.func57 rfl rfl rfl rfl (Nat.le_of_ble_eq_true rfl) ?_
  simp -dsimp
  refine call_ hr (by simp -dsimp) ?_
  simp -dsimp [optP]
  refine call_ hj (by simp -dsimp) ?_
  simp -dsimp
  refine call_ hd (by simp -dsimp) ?_
  simp -dsimp
theorem storeOpen_fn (s : Store) (h : s.small) : FnZ Tryz.prog 24 [s.v] (.tup [(storeOpen s).v, .bool (storeOk s)]) := by
  have ho := storeOk_fn s h
  have hk := ft (storeOk s)
  have hop := opened_fn s h
  unfold storeOpen
  generalize storeOk s = o at *
  generalize opened s = D at *
  obtain ⟨s1, s2, s3⟩ := s
  obtain ⟨⟨D1, D2⟩, D3⟩ := D
  refine FnZ_of (rs := [.cell 2 37, .tmp 3]) false Tryz.func24 rfl rfl rfl rfl (Nat.le_of_ble_eq_true rfl) ?_
  simp -dsimp
  refine call_ ho (by simp -dsimp) ?_
  rcases hk with rfl | rfl
  · simp -dsimp [noDeskV]
  · simp -dsimp
    refine call_ (hop rfl) (by simp -dsimp) ?_
    simp -dsimp
end TL

/- Opened stores, results of the caller's own; the exact law of StoreOpen. -/
set_option linter.unusedSimpArgs false
set_option linter.unusedVariables false
set_option maxRecDepth 100000
set_option maxHeartbeats 4000000
set_option pp.maxSteps 1500
namespace TL
open Go Go.Proofs
attribute [local simp] marksV storyV codeV Claim.v Place.v Deed.v Desk.v Store.v
theorem opened_k (s : Store) (h : s.small) (hs : storeOk s = true) : FnS Tryz.prog 57 (fun _ => none) 0 [.v s.v] (PostD (opened s)) := by
  have hr := readPlace_fn s.saved h.1
  have hj := readJournal_fn s.log h.2
  have hp := placeOf_ok (storeOk_iff.1 hs).1
  rw [hp.2.2] at hr
  have hw : ∀ a ∈ (readJ s.log).1, a.words.length ≤ 1000000000 := fun a ha => words_short (readJ_all _ a ha)
  have hd := doAll_k ⟨placeOf s, []⟩ (readJ s.log).1 (desk_new hp.1) (by have := readJ_many s.log; have := (storeOk_iff.1 hs).2.1; omega) hw
  unfold opened
  generalize doAll ⟨placeOf s, []⟩ (readJ s.log).1 = R at *
  generalize readJ s.log = J at *
  generalize placeOf s = p at *
  obtain ⟨s1, s2, s3⟩ := s
  obtain ⟨J1, J2⟩ := J
  obtain ⟨D, R4⟩ := R
  obtain ⟨p1, p2⟩ := p
  simp only at hr hj hd ⊢
  refine FnS_of (rs := [.cell 2 37]) false Tryz.func57 rfl rfl rfl rfl (Nat.le_of_ble_eq_true rfl) ?_
  simp -dsimp
  refine call_ hr (by simp -dsimp) ?_
  simp -dsimp [optP]
  refine call_ hj (by simp -dsimp) ?_
  simp -dsimp
  refine callK_ (vs := [(⟨⟨p1, p2⟩, []⟩ : Desk).v, .sl (J1.map Deed.v)]) (D := D) (x := .int .i64 R4) rfl hd (by simp -dsimp) ?_
  intro sn P m2 n2 hn2 hout2 ho
  have hfc := ho.facts
  have hc := hfc.1
  have hcs := hfc.2.1
  have hcP := hfc.2.2.1
  have hcsP := hfc.2.2.2
  clear hfc
  -- E1
  have k0 := hout2 0 (by omega)
  have k1 := hout2 1 (by omega)
  simp -dsimp [nes] at k0 k1
  have f0 := far (show 0 < n2 by omega)
  have f1 := far (show 1 < n2 by omega)
  simp -dsimp [dT, nes, hc, hcs, hcP, hcsP, k0, k1, f0, f1]
  exact ⟨sn, P, rfl, ho.keep (Nat.zero_le _) (by omega) fun j j1 j2 => by simp [far j2, show ¬ j = 1 by omega, show ¬ j = n2 by omega]⟩
theorem storeOpen_k (s : Store) (h : s.small) : FnS Tryz.prog 24 (fun _ => none) 0 [.v s.v] (PostX (storeOpen s) (.bool (storeOk s))) := by
  have ho := storeOk_fn s h
  have hk := ft (storeOk s)
  have hop := opened_k s h
  unfold storeOpen
  generalize storeOk s = o at *
  generalize opened s = D at *
  obtain ⟨s1, s2, s3⟩ := s
  rcases hk with rfl | rfl
  · refine FnS_of (rs := [.cell 2 37, .tmp 3]) false Tryz.func24 rfl rfl rfl rfl (Nat.le_of_ble_eq_true rfl) ?_
    simp -dsimp
    refine call_ ho (by simp -dsimp) ?_
    simp -dsimp [noDeskV]
    exact ⟨.nil, .nil, rfl, OwnD.none (Nat.zero_le _)⟩
  · refine FnS_of (rs := [.cell 2 37, .tmp 3]) false Tryz.func24 rfl rfl rfl rfl (Nat.le_of_ble_eq_true rfl) ?_
    simp -dsimp
    refine call_ ho (by simp -dsimp) ?_
    simp -dsimp
    refine callKD_ (vs := [(⟨s1, s2, s3⟩ : Store).v]) (D := D) (hop rfl) (by simp -dsimp) ?_
    intro sn P m2 n2 hn2 hout2 ho
    have hfc := ho.facts
    have hc := hfc.1
    have hcs := hfc.2.1
    have hcP := hfc.2.2.1
    have hcsP := hfc.2.2.2
    clear hfc
    have k0 := hout2 0 (by omega)
    have k1 := hout2 1 (by omega)
    simp -dsimp [nes] at k0 k1
    have f0 := far (show 0 < n2 by omega)
    have f1 := far (show 1 < n2 by omega)
    simp -dsimp [dT, nes, hc, hcs, hcP, hcsP, k0, k1, f0, f1]
    exact ⟨sn, P, rfl, ho.keep (Nat.zero_le _) (by omega) fun j j1 j2 => by simp [far j2, show ¬ j = 1 by omega, show ¬ j = n2 by omega]⟩
theorem storeOpen_neat {s : Store} : (storeOpen s).neat := by
  unfold storeOpen; split
  · rename_i h; exact desk_neat (opened_ok h)
  · exact none_neat
theorem exactStoreOpen_row (s : Store) (h : s.mid) : FnZ Tryz.prog 5 [s.v] (.bool true) := by
  have hsz := szStore_fn s h
  by_cases hz : szR 1048576 s.bulk < 0
  · generalize szR 1048576 s.bulk = z at *
    refine FnZ_of (rs := [.tmp 2]) false Tryz.func5 rfl rfl rfl rfl (Nat.le_of_ble_eq_true rfl) ?_
    simp -dsimp [nes]
    refine call_ hsz (by simp -dsimp) ?_
    simp -dsimp [hz]
  have small := store_ready hz
  generalize szR 1048576 s.bulk = z at *
  have h1 := toStore_fn s
  have h4 := storeOpenS_fn s small
  have h5 := storeOpen_fn s small
  have hh := storeOpen_k s small
  have hn := storeOpen_neat (s := s)
  have ns := hn.1
  have nl0 := hn.2.1
  have nl := hn.2.2.1
  have nb := hn.2.2.2
  have h6 := eqDesk_fn (storeOpen s) (storeOpen s) ns
  have q2 := mkDn_sum (storeOpen s) 1
  have h9 := fun m lo hi n hlo sn P h => markDesk_deep (storeOpen s) 1 (by omega) (by omega) (fun c hc => by have := nl0 c hc; omega) (fun p hp c hc => by have := nl p hp c hc; omega) m lo hi n hlo sn P h
  have h10 := heldDesk_deep (storeOpen s) 1 (by omega) (by omega) (fun c hc => by have := nl0 c hc; omega) (fun p hp c hc => by have := nl p hp c hc; omega)
  have p1 : ¬ mkDn 1 (storeOpen s) < 0 := by omega
  clear q2 nl0 nl nb ns hn
  generalize storeOpen s = E at *
  generalize storeOk s = b at *
  obtain ⟨⟨E1, E2⟩, E3⟩ := E
  obtain ⟨s1, s2, s3⟩ := s
  refine FnZ_of (rs := [.tmp 2]) false Tryz.func5 rfl rfl rfl rfl (Nat.le_of_ble_eq_true rfl) ?_
  simp -dsimp [nes]
  refine call_ hsz (by simp -dsimp) ?_
  simp -dsimp [hz, nes]
  refine call_ h1 (by simp -dsimp) ?_
  simp -dsimp [nes]
  refine call_ h4 (by simp -dsimp) ?_
  simp -dsimp [nes]
  refine call_ h1 (by simp -dsimp) ?_
  simp -dsimp [nes]
  refine callK_ (vs := [(⟨s1, s2, s3⟩ : Store).v]) (D := (⟨⟨E1, E2⟩, E3⟩ : Desk)) (x := .bool b) rfl hh (by simp -dsimp) ?_
  intro sn P m4 n1 hn1 hout1 ho
  have hfc := ho.facts
  have hc := hfc.1
  have hcs := hfc.2.1
  have hcP := hfc.2.2.1
  have hcsP := hfc.2.2.2
  clear hfc
  have k0 := hout1 0 (by omega)
  have k1 := hout1 1 (by omega)
  simp -dsimp [nes] at k0 k1
  have f0 := far (show 0 < n1 by omega)
  have f1 := far (show 1 < n1 by omega)
  have ha := ho.keep (m' := updM m4 n1 (some (.box 37 3 [.v (.int .i64 E1), sn, P]))) (Nat.le_refl _) (Nat.le_refl _) fun j j1 j2 => by simp -dsimp [show ¬ j = n1 by omega]
  simp -dsimp [dT, nes, hc, hcs, hcP, hcsP, k0, k1, f0, f1]
  refine callM_ h6 (OwnD.lend2 (d := (⟨⟨E1, E2⟩, E3⟩ : Desk)) ha (by simp -dsimp)) rfl ?_
  simp -dsimp [dT, nes, hc, hcs, hcP, hcsP, k0, k1, f0, f1]
  refine callS_ (h9 _ _ n1 _ (by omega) sn P ha) ?_
  rintro t m5 n5 ⟨rfl, hn5, hb, hout5⟩
  have e0 := hout5 0 (by omega) (.inl (by omega))
  have e1 := hout5 1 (by omega) (.inl (by omega))
  have eg := hout5 n1 (by omega) (.inr (by omega))
  simp -dsimp [f0, f1, k0, k1] at e0 e1 eg
  have z0 := far (show 0 < n5 by omega)
  have z1 := far (show 1 < n5 by omega)
  have zg := far (show n1 < n5 by omega)
  simp -dsimp [dT, nes, hc, hcs, hcP, hcsP, e0, e1, eg]
  refine callM_ h10 (OwnD.lend2 (d := mkD 1 (⟨⟨E1, E2⟩, E3⟩ : Desk)) hb (by simp -dsimp)) rfl ?_
  simp -dsimp [dT, nes, hc, hcs, hcP, hcsP, e0, e1, eg, p1]
  refine call_ h1 (by simp -dsimp) ?_
  simp -dsimp [dT, nes, hc, hcs, hcP, hcsP, e0, e1, eg, p1]
  refine call_ h5 (by simp -dsimp) ?_
  simp -dsimp [dT, nes, hc, hcs, hcP, hcsP, e0, e1, eg, p1, z0, z1, zg]
  refine call_ h6 (by simp -dsimp) ?_
  have hb2 := hb.keep (m' := updM m5 n5 (some (.box 37 3 [.v (.int .i64 E1), .v (.sl (E2.map Claim.v)), .v (.sl (E3.map Place.v))]))) (Nat.le_refl _) (Nat.le_refl _) fun j j1 j2 => by simp -dsimp [show ¬ j = n5 by omega]
  simp -dsimp [dT, nes, hc, hcs, hcP, hcsP, e0, e1, eg, p1, z0, z1, zg]
  refine callM_ h10 (OwnD.lend2 (d := mkD 1 (⟨⟨E1, E2⟩, E3⟩ : Desk)) hb2 (by simp -dsimp)) rfl ?_
  simp -dsimp [dT, nes, hc, hcs, hcP, hcsP, e0, e1, eg, p1, z0, z1, zg]
end TL

/- A cell lies in its block. -/
namespace TL
open Go
theorem lt_of_cell {W : World} {g : Nat} {v : Value} (h : W.cell? ⟨g, 0, none⟩ = some v) : g < W.heap.size := by
  unfold World.cell? at h
  split at h
  · rename_i hb; exact (Array.getElem?_eq_some_iff.1 hb).1
  · cases h
end TL

/- The library's variables at the start: what the world's shape and the row's listed data give. -/
namespace TL
open Go Go.Proofs
/-- A listed sentinel is an interface value. -/
theorem laid_iface {P : Program} {n nm : String} {d : DataW Unit} {r : List (String × DataW Unit)} {W : World} {g : Nat} {ti : TypeId} {ms : Array (String × TypeId)}
    (h : laidMet P ((n, .iface nm d) :: r) W) (hg : P.globalNamed n = some g) (ht : (P.globals[g]?).map (·.type) = some ti) (hi : P.underlying ti = some (.interface ms)) : ∃ u v, W.cell? ⟨g, 0, none⟩ = some (.iface u v) := by
  obtain ⟨ps, ⟨g0, t0, cs0, f0, p0, q0, hg0, ht0, hv0, hd0, _, e0⟩, _, hrows⟩ := h
  obtain rfl := Option.some.inj (hg.symm.trans hg0)
  obtain rfl := Option.some.inj (ht.symm.trans ht0)
  obtain ⟨l0⟩ := cs0
  obtain ⟨f1, u, v, hl, _, _⟩ := iface_of_trod hi hd0
  have hl : l0 = [.iface u v] := hl
  subst hl
  exact ⟨u, v, by simpa using World.var?_cell hg0 hv0 0⟩
theorem gl_start {W : World} (h : W.ShapedOpen Tryz.prog) (hr : ∃ u v, W.cell? ⟨Tryz.laysC172_ren.g 16, 0, none⟩ = some (.iface u v)) (hs : ∃ u v, W.cell? ⟨Tryz.laysC172_ren.g 15, 0, none⟩ = some (.iface u v)) : Gl Tryz.prog (ZA W) W := by
  have n1 : Tryz.prog.globalNamed "internal/bytealg.MaxLen" = some 1 := by kernel_rfl
  have n2 : Tryz.prog.globalNamed "strconv.ErrSyntax" = some (Tryz.laysC172_ren.g 15) := Tryz.laysC172.m15
  have n3 : Tryz.prog.globalNamed "strconv.ErrRange" = some (Tryz.laysC172_ren.g 16) := Tryz.laysC172.m16
  have hm : ∃ m, W.cell? ⟨1, 0, none⟩ = some (.int .i64 m) := Tryz.laysM145.s1_3 W h
  rintro g Q (⟨e, rfl⟩ | ⟨e | e, rfl⟩)
  · rw [n1] at e; cases e
    obtain ⟨m, hm⟩ := hm
    exact ⟨lt_of_cell hm, _, hm, m, rfl⟩
  · rw [n2] at e
    obtain rfl := Option.some.inj e
    obtain ⟨u, v, hs⟩ := hs
    exact ⟨lt_of_cell hs, _, hs, .inr ⟨u, v, rfl⟩⟩
  · rw [n3] at e
    obtain rfl := Option.some.inj e
    obtain ⟨u, v, hr⟩ := hr
    exact ⟨lt_of_cell hr, _, hr, .inr ⟨u, v, rfl⟩⟩
end TL

/- The wrap of a row that lists variables, the world's shape kept too. -/
namespace TL
open Go
variable {H : Type} {enc : TypeId × Value → H}
theorem wrapLS {a : Assume} {C : Checked} {os : Os} {f : FuncId} {fn : Func} {s : ChangeSpec} {conds : List PathCond} {apart fresh handsOn again : Bool} {X : World → Array Value → Prop}
    (hX : ∀ (w w' : World) (args : Array Value), w.heap = w'.heap → X w args → X w' args)
    (own : ownKnob C.prog.godebug = none) (started : os.Started) (noInit : C.prog.inits.idxOf? f = none) (hfn : C.prog.funcs[f]? = some fn)
    (witness : ∃ (w : World) (tape : Tape) (i : Input), w.os = os ∧ (w.forCall tape i).Shaped C.prog ∧ i.vars = [] ∧ Input.okWide C.prog (w.forCall tape i) .any w.heap.size f i ∧
      ((s.pre enc C.prog fn conds apart (w.forCall tape i).memory i.args ∧ X (w.forCall tape i).memory i.args) ∧ sizedMet enc C.prog fn (OpenSpec.ofChange s) apart (w.forCall tape i).memory i.args) ∧ a.holds C.prog (lone (Frame.enter C.prog f i.args .normal) [] (w.forCall tape i)))
    (contract : ∀ (W : World) (base : Nat) (args : Array Value) (ds gs : List (DataW H)) (before : List MemPlace),
      (∀ (j : Nat) t v, fn.params[j]? = some t → args[j]? = some v → Value.okWide C.prog W .any base t v) →
      DataW.Whole enc C.prog fn.params.toList s.vars apart W args.toList ds gs before → X W args → W.ShapedOpen C.prog →
      Calls C.prog f args W fun e W' => ∃ v, e = .returned v ∧ s.post enc C.prog fn apart fresh handsOn again W args v W') :
    ReturnsInHanded a C os f .any (fun w args => (s.pre enc C.prog fn conds apart w args ∧ X w args) ∧ sizedMet enc C.prog fn (OpenSpec.ofChange s) apart w args) (s.post enc C.prog fn apart fresh handsOn again) := by
  refine returnsInHanded_of_calls own started noInit witness ?_
  intro w tape i _ hsh _ hok hpre _
  obtain ⟨_, _, _, fn', hfn', _, _, _, _, hval⟩ := hok
  have e : fn' = fn := Option.some.inj (hfn'.symm.trans hfn)
  subst e
  obtain ⟨⟨⟨ds, gs, before, hw, _⟩, hx⟩, _⟩ := hpre
  have hw' := DataW.Whole.of_heap (w' := w.forCall tape i) (by rfl) hw
  refine (contract (w.forCall tape i) w.heap.size i.args ds gs before hval hw' (hX _ _ _ (by rfl) hx) hsh).mono fun e W' ⟨v, he, hp⟩ => ?_
  subst he
  exact ChangeSpec.post_blind hp
end TL

/- A closed fact of the program. -/
set_option maxRecDepth 100000
namespace Go.Proofs.YtibdhpnjjgppgaaGreatDoor.wide
open Go
theorem may_enter : Tryz.pinned.checked.prog.mayEnter = true := by kernel_rfl
end Go.Proofs.YtibdhpnjjgppgaaGreatDoor.wide

/- A closed fact of the program. -/
set_option maxRecDepth 100000
namespace Go.Proofs.YtibdhpnjjgppgaaGreatDoor.wide
open Go
theorem lifts_are : Tryz.pinned.checked.prog.liftsFinal = Rows.fnExactDeskDoRow.lifted := by kernel_rfl
end Go.Proofs.YtibdhpnjjgppgaaGreatDoor.wide

/- A closed fact of the program. -/
set_option maxRecDepth 100000
namespace Go.Proofs.YtibdhpnjjgppgaaGreatDoor.wide
open Go
theorem make_is : Tryz.pinned.checked.prog.make = some Rows.fnExactDeskDoRow.make := by kernel_rfl
end Go.Proofs.YtibdhpnjjgppgaaGreatDoor.wide

/- A closed fact of the program. -/
set_option maxRecDepth 100000
namespace Go.Proofs.YtibdhpnjjgppgaaGreatDoor.wide
open Go
theorem main_is : Tryz.pinned.checked.prog.mainIs = some (true, "3688ab8a5d1ca3ed2f59c4c82d432bcf3985d80a9aba60d5311af45dcaee694c".toList) := by kernel_rfl
theorem looks_are : true = Tryz.pinned.checked.prog.looks [] := by kernel_rfl
end Go.Proofs.YtibdhpnjjgppgaaGreatDoor.wide
