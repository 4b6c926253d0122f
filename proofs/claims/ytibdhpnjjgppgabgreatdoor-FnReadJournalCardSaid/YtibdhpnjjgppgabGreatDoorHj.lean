/- TL: parts FnsE12, FnsP2, FnsK7, FnsP3, FnsS0, FnsS1, FnsK1, FnsM0, FnsM1, FnsM2, FnsM3, FnsM4, FnsVn, FnsK8, FnsGDb, FnsGD, TlWrap, FnsFWa, FnsFWb, FnsFWc, FnsFWd. -/
import Derived.Test.YtibdhpnjjgppgabGreatDoorHh
import Derived.Test.YtibdhpnjjgppgabGreatDoorHi
import Derived.Test.YtibdhpnjjgppgabGreatDoorHg
import Derived.Test.YtibdhpnjjgppgabGreatDoorHf
import Derived.Test.YtibdhpnjjgppgabGreatDoorHd
import Derived.Test.YtibdhpnjjgppgabGreatDoorShelfB
import Derived.Test.YtibdhpnjjgppgabGreatDoorShelfC
import Derived.Stop.LaidErr
import Derived.LaidLaws
import Derived.KernelRfl
import Derived.HandedShaped
import Derived.Test.YtibdhpnjjgppgabGreatDoorRows
import Derived.JoinedOf
import Derived.SevenTiedAt
/- Stores: whether they are sound, what a crash leaves, what a sync makes. -/
set_option linter.unusedSimpArgs false
set_option linter.unusedVariables false
set_option maxRecDepth 100000
set_option maxHeartbeats 4000000
set_option pp.maxSteps 1500
namespace TL
open Go Go.Proofs
attribute [local simp] marksV storyV codeV Claim.v Place.v Store.v
noncomputable def storeOk (s : Store) : Bool := (readP s.saved).isSome && decide (s.log.length ≤ 1000) && decide (0 ≤ s.sure) && decide (s.sure ≤ s.log.length)
def Store.small (s : Store) : Prop := s.saved.length ≤ 2000000000 ∧ s.log.length ≤ 2000000000
noncomputable def crashOk (s : Store) (k : Int) : Bool := storeOk s && (decide (s.sure ≤ k) && decide (k ≤ s.log.length))
noncomputable def storeCrash (s : Store) (k : Int) : Store := if crashOk s k = true then ⟨s.saved, s.log.take k.toNat, s.sure⟩ else noStore
theorem storeOk_sure {s : Store} (h : storeOk s = true) : 0 ≤ s.sure := by
  simp only [storeOk, Bool.and_eq_true, decide_eq_true_eq] at h; exact h.1.2
noncomputable def storeSync (s : Store) : Store := if storeOk s = true then ⟨s.saved, s.log, s.log.length⟩ else noStore
/-! The exact laws. -/
def Store.bulk (s : Store) : Nat := s.saved.length + s.log.length
def Store.mid (s : Store) : Prop := s.saved.length ≤ 9223372036854775807 ∧ s.log.length ≤ 9223372036854775807
theorem store_ready {s : Store} (hz : ¬ szR 1048576 s.bulk < 0) : s.small := by
  unfold szR Store.bulk at hz
  split at hz
  · omega
  · exact ⟨by omega, by omega⟩
end TL

/- Journals and stores, in plain words. -/
set_option linter.unusedSimpArgs false
set_option linter.unusedVariables false
set_option maxRecDepth 100000
set_option maxHeartbeats 4000000
set_option pp.maxSteps 1500
namespace TL
open Go Go.Proofs
theorem deed_line {a : Deed} (h1 : deedTx a ≠ []) : ∀ y ∈ deedTx a, y ≠ 10 := by
  rcases deed_cases h1 with ⟨w, rfl, ⟨d, hd⟩, e⟩ | ⟨n, h0, h9, rfl, e⟩ | ⟨n, h0, h9, rfl, e⟩ | ⟨rfl, e⟩ | ⟨rfl, e⟩ <;> rw [e]
  · intro y hy
    rcases List.mem_append.1 hy with hy | hy
    · have h10 : ∀ y ∈ txSay, y ≠ (10 : UInt8) := by decide
      exact h10 y hy
    · exact (readC_clean hd y hy).2
  · intro y hy
    rcases List.mem_append.1 hy with hy | hy
    · have h10 : ∀ y ∈ txDrop, y ≠ (10 : UInt8) := by decide
      exact h10 y hy
    · exact ((good_dec h0 h9).2.2 y hy).2
  · intro y hy
    rcases List.mem_append.1 hy with hy | hy
    · have h10 : ∀ y ∈ txPeople, y ≠ (10 : UInt8) := by decide
      exact h10 y hy
    · exact ((good_dec h0 h9).2.2 y hy).2
  · decide
  · decide
theorem readJF_fuel : ∀ (f g : Nat) (s : List UInt8), s.length < f → s.length < g → readJF f s = readJF g s
  | 0, _, _, h, _ => absurd h (by omega)
  | f + 1, 0, _, _, h => absurd h (by omega)
  | f + 1, g + 1, s, hf, hg => by
    cases hc : (Go.Lib.cut s [10]).2.2
    · rw [readJF_stop (.inl hc), readJF_stop (.inl hc)]
    · cases hr : readD (Go.Lib.cut s [10]).1 with
      | none => rw [readJF_stop (.inr hr), readJF_stop (.inr hr)]
      | some a =>
        have hs := congrArg List.length (cut_found hc).1
        simp only [List.length_append, List.length_cons] at hs
        rw [readJF_step hc hr, readJF_step hc hr, readJF_fuel f g _ (by omega) (by omega)]
theorem readJ_clean {s : List UInt8} (h : ∀ y ∈ s, y ≠ 10) : readJ s = ([], 0) := readJF_stop (.inl (by rw [cut_clean h]))
theorem readJ_halt {x r : List UInt8} (h : ∀ y ∈ x, y ≠ 10) (ha : readD x = none) : readJ (x ++ 10 :: r) = ([], 0) := readJF_stop (.inr (by rw [cut_at h]; exact ha))
theorem readJ_step {x r : List UInt8} {a : Deed} (h : ∀ y ∈ x, y ≠ 10) (ha : readD x = some a) : readJ (x ++ 10 :: r) = (a :: (readJ r).1, x.length + 1 + (readJ r).2) := by
  have hc := cut_at (r := r) h
  unfold readJ
  rw [readJF_step (a := a) (by rw [hc]) (by rw [hc]; exact ha), hc]
  simp only
  rw [readJF_fuel _ (r.length + 1) r (by simp only [List.length_append, List.length_cons]; omega) (by omega)]
theorem jr_cons (a : Deed) (l : List Deed) : jr (a :: l) deedTx = deedTx a ++ 10 :: jr l deedTx := by simp [jr]
theorem jr_append (l k : List Deed) : jr (l ++ k) deedTx = jr l deedTx ++ jr k deedTx := by simp [jr]
theorem readJ_app {l : List Deed} (h : ∀ a ∈ l, deedTx a ≠ []) (r : List UInt8) : readJ (jr l deedTx ++ r) = (l ++ (readJ r).1, (jr l deedTx).length + (readJ r).2) := by
  induction l with
  | nil => simp [jr]
  | cons a l ih =>
    have h1 := h a (List.mem_cons_self ..)
    have ih := ih fun b hb => h b (List.mem_cons_of_mem _ hb)
    rw [jr_cons, List.append_assoc, List.cons_append, readJ_step (deed_line h1) (readD_some h1 rfl), ih]
    simp only [List.cons_append, List.length_append, List.length_cons, Prod.mk.injEq, true_and]; omega
theorem readJ_split : ∀ (n : Nat) (s : List UInt8), s.length ≤ n → (∀ a ∈ (readJ s).1, deedTx a ≠ []) ∧ ∃ r, s = jr (readJ s).1 deedTx ++ r ∧ (readJ s).2 = (jr (readJ s).1 deedTx).length := by
  intro n
  induction n with
  | zero =>
    intro s hs
    have : s = [] := List.length_eq_zero_iff.1 (by omega)
    subst this
    rw [readJ_clean (by simp)]
    exact ⟨by simp, [], by simp [jr], by simp [jr]⟩
  | succ n ih =>
    intro s hs
    rcases cut_first 10 s with h | ⟨x, r, rfl, h⟩
    · rw [readJ_clean h]; exact ⟨by simp, s, by simp [jr], by simp [jr]⟩
    · cases hr : readD x with
      | none => rw [readJ_halt h hr]; exact ⟨by simp, _, by simp [jr]; rfl, by simp [jr]⟩
      | some a =>
        obtain ⟨h1, r', h2, h3⟩ := ih r (by simp only [List.length_append, List.length_cons] at hs; omega)
        obtain ⟨hx, ha⟩ := readD_is hr
        rw [readJ_step h hr]
        refine ⟨fun b hb => ?_, r', ?_, ?_⟩
        · rcases List.mem_cons.1 hb with rfl | hb
          · rw [ha]; exact hx
          · exact h1 b hb
        · simp only
          rw [jr_cons, ha, List.append_assoc, List.cons_append, ← h2]
        · simp only
          rw [jr_cons, ha, h3]
          simp only [List.length_append, List.length_cons]; omega
theorem readJ_all (s : List UInt8) : ∀ a ∈ (readJ s).1, deedTx a ≠ [] := (readJ_split _ s (Nat.le_refl _)).1
theorem readJ_len (s : List UInt8) : (readJ s).2 = (jr (readJ s).1 deedTx).length := by
  obtain ⟨_, r, h1, h2⟩ := readJ_split _ s (Nat.le_refl _); exact h2
theorem readJ_take (s : List UInt8) : s.take (readJ s).2 = jr (readJ s).1 deedTx := by
  obtain ⟨_, r, h1, h2⟩ := readJ_split _ s (Nat.le_refl _)
  generalize readJ s = J at *
  rw [h2, h1, List.take_left]
theorem readJ_le (s : List UInt8) : (readJ s).2 ≤ s.length := by
  obtain ⟨_, r, h1, h2⟩ := readJ_split _ s (Nat.le_refl _)
  generalize readJ s = J at *
  rw [h2, h1]
  simp
theorem readJ_many (s : List UInt8) : (readJ s).1.length ≤ s.length := by
  have h1 := readJ_le s
  have h2 := readJ_len s
  have h3 := jr_long (readJ s).1
  omega
theorem readJ_full {s : List UInt8} (h : (readJ s).2 = s.length) : s = jr (readJ s).1 deedTx := by
  have := readJ_take s
  rw [h, List.take_length] at this
  exact this
theorem readJ_mend (s : List UInt8) : readJ (s.take (readJ s).2) = readJ s := by
  rw [readJ_take, readJ_jr (readJ_all s), ← readJ_len]
theorem readJ_pre : ∀ (n : Nat) (s : List UInt8), s.length ≤ n → ∀ k, (readJ (s.take k)).1 <+: (readJ s).1 := by
  intro n
  induction n with
  | zero =>
    intro s hs k
    have : s = [] := List.length_eq_zero_iff.1 (by omega)
    subst this
    simp
  | succ n ih =>
    intro s hs k
    rcases cut_first 10 s with h | ⟨x, r, rfl, h⟩
    · rw [readJ_clean (s := s.take k) fun y hy => h y (List.mem_of_mem_take hy)]; exact List.nil_prefix
    · by_cases hk : k ≤ x.length
      · rw [List.take_append_of_le_length hk, readJ_clean fun y hy => h y (List.mem_of_mem_take hy)]; exact List.nil_prefix
      · have e : (x ++ 10 :: r).take k = x ++ 10 :: r.take (k - x.length - 1) := by
          rw [List.take_append, List.take_of_length_le (by omega)]
          obtain ⟨j, hj⟩ : ∃ j, k - x.length = j + 1 := ⟨k - x.length - 1, by omega⟩
          rw [hj, List.take_succ_cons]; rfl
        rw [e]
        cases hr : readD x with
        | none => rw [readJ_halt h hr]; exact List.nil_prefix
        | some a =>
          rw [readJ_step h hr, readJ_step h hr]
          exact List.cons_prefix_cons.2 ⟨rfl, ih r (by simp only [List.length_append, List.length_cons] at hs; omega) _⟩
theorem readJ_prefix (s : List UInt8) (k : Nat) : (readJ (s.take k)).1 <+: (readJ s).1 := readJ_pre _ s (Nat.le_refl _) k
theorem readJ_mono (s : List UInt8) {k j : Nat} (h : k ≤ j) : (readJ (s.take k)).1 <+: (readJ (s.take j)).1 := by
  have e : s.take k = (s.take j).take k := by rw [List.take_take, Nat.min_eq_left h]
  rw [e]; exact readJ_prefix _ k
theorem readJ_snoc {s : List UInt8} (h : (readJ s).2 = s.length) {a : Deed} (ha : deedTx a ≠ []) : readJ (s ++ deedTx a ++ [10]) = ((readJ s).1 ++ [a], (s ++ deedTx a ++ [10]).length) := by
  have hs := readJ_full h
  have hall := readJ_all s
  generalize (readJ s).1 = l at *
  subst hs
  have e : jr l deedTx ++ deedTx a ++ [10] = jr (l ++ [a]) deedTx := by rw [jr_append, jr_cons]; simp [jr]
  rw [e]
  exact readJ_jr fun b hb => by
    rcases List.mem_append.1 hb with hb | hb
    · exact hall b hb
    · rw [List.mem_singleton.1 hb]; exact ha
/-! Stores. -/
noncomputable def placeOf (s : Store) : Place := (readP s.saved).getD ⟨0, []⟩
noncomputable def opened (s : Store) : Desk := (doAll ⟨placeOf s, []⟩ (readJ s.log).1).1
noncomputable def storeOpen (s : Store) : Desk := if storeOk s = true then opened s else noDeskV
theorem storeOk_iff {s : Store} : storeOk s = true ↔ (readP s.saved).isSome = true ∧ s.log.length ≤ 1000 ∧ 0 ≤ s.sure ∧ s.sure ≤ s.log.length := by
  simp only [storeOk, Bool.and_eq_true, decide_eq_true_eq, and_assoc]
theorem placeOf_ok {s : Store} (h : (readP s.saved).isSome = true) : placeOk (placeOf s) = true ∧ placeTx (placeOf s) = s.saved ∧ readP s.saved = some (placeOf s) := by
  unfold placeOf
  cases hr : readP s.saved with
  | none => rw [hr] at h; cases h
  | some p => exact ⟨(readP_is hr).1, (readP_is hr).2, rfl⟩
theorem desk_new {p : Place} (h : placeOk p = true) : deskOk ⟨p, []⟩ = true := deskOk_iff.2 ⟨by simp, h, by simp⟩
theorem opened_ok {s : Store} (h : storeOk s = true) : deskOk (opened s) = true := doAll_ok _ _ (desk_new (placeOf_ok (storeOk_iff.1 h).1).1)
noncomputable def actOk (s : Store) (a : Deed) : Bool := storeOk s && (decide ((readJ s.log).2 = s.log.length) && (deskDo (opened s) a).2 && !decide (deedTx a = []) && decide (s.log.length + (deedTx a).length + 1 ≤ 1000))
noncomputable def storeAct (s : Store) (a : Deed) : Store := if actOk s a = true then ⟨s.saved, s.log ++ deedTx a ++ [10], s.sure⟩ else if storeOk s = true then s else noStore
theorem actOk_iff {s : Store} {a : Deed} : actOk s a = true ↔ storeOk s = true ∧ (readJ s.log).2 = s.log.length ∧ (deskDo (opened s) a).2 = true ∧ deedTx a ≠ [] ∧ s.log.length + (deedTx a).length + 1 ≤ 1000 := by
  simp only [actOk, Bool.and_eq_true, decide_eq_true_eq, Bool.not_eq_true', decide_eq_false_iff_not, and_assoc, ne_eq]
theorem storeAct_yes {s : Store} {a : Deed} (h : actOk s a = true) : storeAct s a = ⟨s.saved, s.log ++ deedTx a ++ [10], s.sure⟩ := if_pos h
theorem storeAct_no {s : Store} {a : Deed} (h : actOk s a = false) (hs : storeOk s = true) : storeAct s a = s := by unfold storeAct; rw [if_neg (by simp [h]), if_pos hs]
theorem storeAct_out {s : Store} {a : Deed} (hs : storeOk s = false) : storeAct s a = noStore ∧ actOk s a = false := by
  have : actOk s a = false := by unfold actOk; rw [hs]; rfl
  exact ⟨by unfold storeAct; rw [if_neg (by simp [this]), if_neg (by simp [hs])], this⟩
theorem act_done {s : Store} {a : Deed} (h : actOk s a = true) : storeOk (storeAct s a) = true ∧ readJ (storeAct s a).log = ((readJ s.log).1 ++ [a], (storeAct s a).log.length) ∧ opened (storeAct s a) = (deskDo (opened s) a).1 ∧ (storeAct s a).log.length = s.log.length + (deedTx a).length + 1 ∧ (storeAct s a).sure = s.sure ∧ (storeAct s a).saved = s.saved := by
  obtain ⟨h1, h2, h3, h4, h5⟩ := actOk_iff.1 h
  obtain ⟨g1, g2, g3, g4⟩ := storeOk_iff.1 h1
  have hj := readJ_snoc h2 h4
  have hl : (s.log ++ deedTx a ++ [10]).length = s.log.length + (deedTx a).length + 1 := by simp; omega
  rw [storeAct_yes h]
  refine ⟨storeOk_iff.2 ⟨g1, ?_, g3, ?_⟩, hj, ?_, hl, rfl, rfl⟩
  · simp only; omega
  · simp only; omega
  · show (doAll ⟨placeOf s, []⟩ (readJ (s.log ++ deedTx a ++ [10])).1).1 = _
    rw [hj]
    simp only
    rw [doAll_snoc]
    exact if_pos h3
noncomputable def storeMend (s : Store) : Store := if storeOk s = true then ⟨s.saved, s.log.take (readJ s.log).2, min s.sure ((readJ s.log).2 : Nat)⟩ else noStore
theorem mend_done {s : Store} (h : storeOk s = true) : storeOk (storeMend s) = true ∧ readJ (storeMend s).log = ((readJ s.log).1, (storeMend s).log.length) ∧ opened (storeMend s) = opened s ∧ storeMend (storeMend s) = storeMend s ∧ (storeMend s).log.length ≤ s.log.length := by
  obtain ⟨g1, g2, g3, g4⟩ := storeOk_iff.1 h
  have hle := readJ_le s.log
  have hm := readJ_mend s.log
  have e : storeMend s = ⟨s.saved, s.log.take (readJ s.log).2, min s.sure ((readJ s.log).2 : Nat)⟩ := if_pos h
  have hlen : (s.log.take (readJ s.log).2).length = (readJ s.log).2 := by simp; omega
  have hok : storeOk (storeMend s) = true := by
    rw [e]
    exact storeOk_iff.2 ⟨g1, by simp only; omega, by simp only; omega, by simp only; omega⟩
  refine ⟨hok, ?_, ?_, ?_, ?_⟩
  · rw [e]; simp only; rw [hm, hlen]
  · rw [e]; unfold opened placeOf; simp only; rw [hm]
  · have e2 : storeMend (storeMend s) = ⟨(storeMend s).saved, (storeMend s).log.take (readJ (storeMend s).log).2, min (storeMend s).sure ((readJ (storeMend s).log).2 : Nat)⟩ := if_pos hok
    rw [e2, e]
    simp only
    rw [hm]
    congr 1
    · rw [List.take_take, Nat.min_self]
    · omega
  · rw [e]; simp only; omega
noncomputable def storeSave (s : Store) : Store := if storeOk s = true then ⟨placeTx (opened s).now, [], 0⟩ else noStore
theorem readJ_nil : readJ [] = ([], 0) := readJ_clean (by simp)
theorem new_done {p : Place} (h : placeOk p = true) : storeOk ⟨placeTx p, [], 0⟩ = true ∧ opened ⟨placeTx p, [], 0⟩ = ⟨p, []⟩ := by
  have hr := readP_some h rfl
  refine ⟨storeOk_iff.2 ⟨by simp only; rw [hr]; rfl, by simp, by simp, by simp⟩, ?_⟩
  unfold opened placeOf
  simp only
  rw [hr, readJ_nil]; rfl
theorem save_done {s : Store} (h : storeOk s = true) : storeOk (storeSave s) = true ∧ opened (storeSave s) = ⟨(opened s).now, []⟩ ∧ storeSave (storeSave s) = storeSave s ∧ storeSave s = ⟨placeTx (opened s).now, [], 0⟩ := by
  have e : storeSave s = ⟨placeTx (opened s).now, [], 0⟩ := if_pos h
  have hp := (deskOk_iff.1 (opened_ok h)).2.1
  obtain ⟨h1, h2⟩ := new_done hp
  refine ⟨by rw [e]; exact h1, by rw [e]; exact h2, ?_, e⟩
  rw [e]
  unfold storeSave
  rw [if_pos h1, h2]
/-- The first claim can be dropped, if there is one. -/
theorem drop_first {d : Desk} (h : deskOk d = true) : (deskDo d ⟨1, 0, []⟩).2 = decide (0 < d.now.story.length) := by
  obtain ⟨h1, h2, h3⟩ := deskOk_iff.1 h
  by_cases hl : 0 < d.now.story.length
  · have em : made d.now ⟨1, 0, []⟩ = ⟨d.now.people, d.now.story.eraseIdx 0⟩ := by
      unfold made
      rw [if_neg (by simp), if_pos ⟨rfl, rfl, by simp, by simp; omega⟩]; rfl
    have hg : goodDo d ⟨1, 0, []⟩ = true := by
      have hp : placeOk ⟨d.now.people, d.now.story.eraseIdx 0⟩ = true := storyOk_sub h2 (List.eraseIdx_sublist _ _)
      unfold goodDo
      rw [em, hp]
      simp only [Bool.true_and, Bool.not_eq_true', decide_eq_false_iff_not]
      intro hx
      have := congrArg (fun p => p.story.length) (placeTx_inj hp h2 hx)
      simp only [List.length_eraseIdx, hl, if_true] at this
      omega
    rw [deskDo_good h hg (by simp [isBack])]
    simp [hl]
  · have em : made d.now ⟨1, 0, []⟩ = ⟨0, []⟩ := by
      unfold made
      rw [if_neg (by simp), if_neg (fun h => by have h4 : (0 : Int) < d.now.story.length := h.2.2.2; omega), if_neg (by simp), if_neg (by simp)]
    have hg : goodDo d ⟨1, 0, []⟩ = false := by unfold goodDo; rw [em, zero_no]; rfl
    rw [deskDo_bad h hg (by simp [isBack])]
    simp [hl]
/-- What is done depends on the place alone, unless it is to be undone. -/
theorem deskDo_now {d e : Desk} (hd : deskOk d = true) (he : deskOk e = true) (hn : d.now = e.now) {a : Deed} (ha : a.kind ≠ 4) : (deskDo d a).2 = (deskDo e a).2 ∧ (deskDo d a).1.now = (deskDo e a).1.now := by
  have hb : isBack a = false := by
    simp only [isBack, decide_eq_false_iff_not]; rintro rfl; exact ha rfl
  have hg : goodDo d a = goodDo e a := by unfold goodDo; rw [hn]
  cases h : goodDo e a
  · rw [deskDo_bad hd (by rw [hg, h]) (by simp [hb]), deskDo_bad he h (by simp [hb])]; exact ⟨rfl, hn⟩
  · rw [deskDo_good hd (by rw [hg, h]) (by simp [hb]), deskDo_good he h (by simp [hb])]; exact ⟨rfl, by simp only; rw [hn]⟩
end TL

/- Lines that are deeds, said at a desk; drawn texts that begin with journals. -/
set_option linter.unusedSimpArgs false
set_option linter.unusedVariables false
set_option maxRecDepth 100000
set_option maxHeartbeats 4000000
set_option pp.maxSteps 1500
namespace TL
open Go Go.Proofs
attribute [local simp] marksV storyV codeV Claim.v Place.v Deed.v Desk.v
def okNot (b : Bool) : List UInt8 := if b = true then [111, 107] else [110, 111, 116]
theorem deskLine_fn (d : Desk) (line : List UInt8) (a : Deed) (hd : d.small) (hk : deskOk d = true) (hl : line.length ≤ 2000000000) (hr : readD line = some a) (ha : a.words.length ≤ 1000000000) :
    FnZ Tryz.prog 10 [d.v, .str line] (.tup [(deskDo d a).1.v, .str (okNot (deskDo d a).2)]) := by
  have hok := deskOk_fn d (by have := hd.2.1; omega) (by have := hd.1.1; omega) (fun p hp => by have := (hd.2.2 p hp).1; omega)
  rw [hk] at hok
  have hrd := readDeed_fn line hl
  rw [hr] at hrd
  have hdo := deskDo_fn d a hd ha
  generalize deskDo d a = E at *
  obtain ⟨⟨⟨E1, E2⟩, E3⟩, b⟩ := E
  obtain ⟨a1, a2, a3⟩ := a
  simp only [optD, Option.getD_some, Option.isSome_some] at hrd
  refine FnZ_of (rs := [.cell 4 33, .tmp 5]) false Tryz.func10 rfl rfl rfl rfl (Nat.le_of_ble_eq_true rfl) ?_
  simp -dsimp
  refine call_ hok (by simp -dsimp) ?_
  simp -dsimp [nes]
  refine call_ hrd (by simp -dsimp) ?_
  simp -dsimp [nes]
  refine call_ hdo (by simp -dsimp) ?_
  cases b with
  | false => simp -dsimp [nes, okNot]
  | true => simp -dsimp [nes, okNot]
theorem drawReadJournal_z (bs : List UInt8) (m : Mem) (n : Nat) : FnS Tryz.prog 4 m n [.v (codeV bs)] (Drawn SomeStr m n) := by
  refine Drawn_of ⟨_, Tryz.func4, rfl, rfl⟩ fun hfr => ?_
  refine FnS_of (rs := [.tmp 2]) false Tryz.func4 rfl rfl rfl rfl (Nat.le_of_ble_eq_true rfl) ?_
  simp -dsimp
  refine callS_ (open_at bs _ _) ?_
  rintro t m1 n1 ⟨rfl, rfl, rfl⟩
  simp -dsimp
  refine callS_ (written_z (bs.take 2000) 0 (by omega) _ _ n (by omega) (by simp)) ?_
  rintro t m2 n2 ⟨id, p2, l, rfl, hid0, hid, mid, hll, hlw, mrd, hp1, hp2, hout, hn2⟩
  have hjt := journalTextS_fn l (by omega) (fun a ha => by have := hlw a ha; omega)
  have hjl : (journalTx l).length ≤ 420 := by
    by_cases e : ∀ a ∈ l, deedTx a ≠ []
    · rw [journalTx_all e]; have := jr_len l; omega
    · have : ∃ a ∈ l, deedTx a = [] := by
        refine Classical.byContradiction fun h => e fun a ha h0 => h ⟨a, ha, h0⟩
      obtain ⟨a, ha, h0⟩ := this
      rw [journalTx_none ha h0]; simp
  generalize journalTx l = tx at *
  simp -dsimp
  refine callM_ hjt (by simp -dsimp [mid]) rfl ?_
  simp -dsimp
  refine callS_ (pick_at (bs.take 2000) p2 (by omega) _ _ _ n (by simp [mrd])) ?_
  rintro t m4 n4 ⟨hn4, ⟨r, rfl, hr0, hr1⟩, rfl⟩
  by_cases hr : r = 0
  · simp -dsimp [hr]
    refine callS_ (spoil_z (bs.take 2000) (p2 + 1) (by omega) tx (by omega) _ _ n (by omega) (by simp)) ?_
    rintro t m5 n5 ⟨hn5, ⟨x, ⟨y, hy, rfl⟩, rfl⟩, p5, hp5, hp6, rfl⟩
    simp -dsimp
    refine ⟨by omega, ⟨_, by simp, y, hy, rfl⟩, fun j j1 => ?_⟩
    simp [show ¬ j = n by omega, hout j (by omega) (by omega), far j1]
  by_cases hr2 : r = 1
  · have w1 : IntKind.wrap .i64 ((tx.length : Int) + 1) = (tx.length : Int) + 1 := w64 (by omega) (by omega)
    simp -dsimp [hr, hr2, w1]
    refine callS_ (pick_at (bs.take 2000) (p2 + 1) (by omega) _ _ _ n (by simp)) ?_
    rintro t m5 n5 ⟨hn5, ⟨q, rfl, hq0, hq1⟩, rfl⟩
    have hq1 := hq1 (by omega)
    have hq2 : q ≤ (tx.length : Int) := by omega
    simp -dsimp [hq0, hq2]
    refine ⟨by omega, ⟨_, by simp, tx.take q.toNat, by simp; omega, rfl⟩, fun j j1 => ?_⟩
    simp [show ¬ j = n by omega, hout j (by omega) (by omega), far j1]
  · simp -dsimp [hr, hr2]
    refine ⟨by omega, ⟨_, by simp, tx, by omega, rfl⟩, fun j j1 => ?_⟩
    simp [show ¬ j = n by omega, hout j (by omega) (by omega), far j1]
end TL

/- Stores that break down, in plain words. -/
set_option linter.unusedSimpArgs false
set_option linter.unusedVariables false
set_option maxRecDepth 100000
set_option maxHeartbeats 4000000
set_option pp.maxSteps 1500
namespace TL
open Go Go.Proofs
theorem crash_again {s : Store} {k : Int} (h : crashOk s k = true) : storeOk (storeCrash s k) = true ∧ (storeCrash s k).sure = s.sure ∧ ((storeCrash s k).log.length : Int) = k ∧ crashOk (storeCrash s k) k = true ∧ storeCrash (storeCrash s k) k = storeCrash s k ∧
    crashOk (storeCrash s k) s.sure = true ∧ crashOk s s.sure = true ∧ storeCrash (storeCrash s k) s.sure = storeCrash s s.sure ∧ storeCrash s k = ⟨s.saved, s.log.take k.toNat, s.sure⟩ := by
  have h0 := h
  simp only [crashOk, Bool.and_eq_true, decide_eq_true_eq] at h
  obtain ⟨h1, h2, h3⟩ := h
  obtain ⟨g1, g2, g3, g4⟩ := storeOk_iff.1 h1
  have e : storeCrash s k = ⟨s.saved, s.log.take k.toNat, s.sure⟩ := if_pos h0
  have hl : (s.log.take k.toNat).length = k.toNat := by simp; omega
  have hok : storeOk ⟨s.saved, s.log.take k.toNat, s.sure⟩ = true := storeOk_iff.2 ⟨g1, by simp only; omega, g3, by simp only; omega⟩
  have c1 : crashOk ⟨s.saved, s.log.take k.toNat, s.sure⟩ k = true := by
    simp only [crashOk, Bool.and_eq_true, decide_eq_true_eq]; exact ⟨hok, by omega, by omega⟩
  have c2 : crashOk ⟨s.saved, s.log.take k.toNat, s.sure⟩ s.sure = true := by
    simp only [crashOk, Bool.and_eq_true, decide_eq_true_eq]; exact ⟨hok, by omega, by omega⟩
  have c3 : crashOk s s.sure = true := by
    simp only [crashOk, Bool.and_eq_true, decide_eq_true_eq]; exact ⟨h1, by omega, by omega⟩
  rw [e]
  refine ⟨hok, rfl, by simp only; omega, c1, ?_, c2, c3, ?_, rfl⟩
  · unfold storeCrash; rw [if_pos c1, List.take_take, Nat.min_self]
  · unfold storeCrash; rw [if_pos c2, if_pos c3, List.take_take, Nat.min_eq_left (by omega)]
theorem crash_no {s : Store} {k : Int} (h : crashOk s k = false) : storeCrash s k = noStore := if_neg (by simp [h])
theorem crash_iff {s : Store} {k : Int} : crashOk s k = true ↔ storeOk s = true ∧ s.sure ≤ k ∧ k ≤ s.log.length := by
  simp only [crashOk, Bool.and_eq_true, decide_eq_true_eq]
/-- What the lost deeds, done again, have made so far. -/
structure EndInv (s x : Store) (k : Nat) : Prop where
  ok : storeOk x = true
  full : (readJ x.log).2 = x.log.length
  same : opened x = (doAll ⟨placeOf s, []⟩ ((readJ s.log).1.take k)).1
  short : x.log.length ≤ (jr ((readJ s.log).1.take k) deedTx).length
theorem end_start {s : Store} {k : Int} (h : crashOk s k = true) : EndInv s (storeMend (storeCrash s k)) (readJ (storeMend (storeCrash s k)).log).1.length ∧ (readJ (storeMend (storeCrash s k)).log).1.length ≤ (readJ s.log).1.length := by
  obtain ⟨a1, a2, a3, a4, a5, a6, a7, a8, a9⟩ := crash_again h
  obtain ⟨m1, m2, m3, m4, m5⟩ := mend_done a1
  have hp := readJ_prefix s.log k.toNat
  have e1 : (storeCrash s k).log = s.log.take k.toNat := by rw [a9]
  have e2 : placeOf (storeCrash s k) = placeOf s := by rw [a9]; rfl
  have e3 : (readJ (storeMend (storeCrash s k)).log).1 = (readJ (s.log.take k.toNat)).1 := by rw [m2, e1]
  have e4 : (readJ s.log).1.take (readJ (s.log.take k.toNat)).1.length = (readJ (s.log.take k.toNat)).1 := (List.prefix_iff_eq_take.1 hp).symm
  rw [e3]
  refine ⟨⟨m1, by rw [m2], ?_, ?_⟩, hp.length_le⟩
  · rw [m3, e4]
    unfold opened
    rw [e2, e1]
  · rw [e4]
    have := readJ_full (s := (storeMend (storeCrash s k)).log) (by rw [m2])
    rw [e3] at this
    rw [← this]; exact Nat.le_refl _
theorem jr_take_le (l : List Deed) (k : Nat) : (jr (l.take k) deedTx).length ≤ (jr l deedTx).length := by
  conv => rhs; rw [← List.take_append_drop k l, jr_append]
  simp
theorem end_step {s x : Store} {k : Nat} (hs : storeOk s = true) (h : EndInv s x k) (hk : k < (readJ s.log).1.length) : EndInv s (storeAct x (readJ s.log).1[k]) (k + 1) ∧ (actOk x (readJ s.log).1[k] = false → storeAct x (readJ s.log).1[k] = x) := by
  obtain ⟨g1, g2, g3, g4⟩ := storeOk_iff.1 hs
  have hne := readJ_all s.log _ (List.getElem_mem hk)
  have ht : (readJ s.log).1.take (k + 1) = (readJ s.log).1.take k ++ [(readJ s.log).1[k]] := List.take_succ_eq_append_getElem hk
  have hl : (jr ((readJ s.log).1.take (k + 1)) deedTx).length = (jr ((readJ s.log).1.take k) deedTx).length + (deedTx (readJ s.log).1[k]).length + 1 := by
    rw [ht, jr_append, jr_cons]; simp [jr]; omega
  have hle := jr_take_le (readJ s.log).1 (k + 1)
  rw [← readJ_len] at hle
  have hle2 := readJ_le s.log
  have hd := doAll_snoc ⟨placeOf s, []⟩ ((readJ s.log).1.take k) (readJ s.log).1[k]
  rw [← ht, ← h.same] at hd
  generalize (readJ s.log).1[k] = a at *
  cases hc : (deskDo (opened x) a).2
  · have hn : actOk x a = false := by
      cases hq : actOk x a
      · rfl
      · have := (actOk_iff.1 hq).2.2.1; rw [hc] at this; cases this
    rw [storeAct_no hn h.ok]
    rw [if_neg (by simp [hc])] at hd
    exact ⟨⟨h.ok, h.full, hd.symm, by have := h.short; omega⟩, fun _ => rfl⟩
  · have hy : actOk x a = true := actOk_iff.2 ⟨h.ok, h.full, hc, hne, by have := h.short; omega⟩
    obtain ⟨b1, b2, b3, b4, b5, b6⟩ := act_done hy
    rw [if_pos hc] at hd
    exact ⟨⟨b1, by rw [b2], by rw [b3, hd], by have := h.short; omega⟩, fun h => by rw [hy] at h; cases h⟩
theorem end_end {s x : Store} (h : EndInv s x (readJ s.log).1.length) : opened x = opened s := by
  rw [h.same, List.take_length]; rfl
/-- What is sure is never lost. -/
theorem never_facts {s : Store} (hs : storeOk s = true) {k : Int} (h1 : s.sure ≤ k) (h2 : k ≤ s.log.length) :
    crashOk s k = true ∧ (storeCrash s k).log = s.log.take k.toNat ∧ storeOk (storeCrash s k) = true ∧ (readJ (s.log.take k.toNat)).1.length ≤ (readJ s.log).1.length ∧ (readJ (s.log.take s.sure.toNat)).1.length ≤ (readJ (s.log.take k.toNat)).1.length ∧
    (readJ s.log).1.take (readJ (s.log.take k.toNat)).1.length = (readJ (s.log.take k.toNat)).1 ∧ opened (storeCrash s k) = (doAll ⟨placeOf s, []⟩ (readJ (s.log.take k.toNat)).1).1 := by
  have hc := crash_iff.2 ⟨hs, h1, h2⟩
  obtain ⟨a1, a2, a3, a4, a5, a6, a7, a8, a9⟩ := crash_again hc
  have hp := readJ_prefix s.log k.toNat
  have hm := readJ_mono s.log (show s.sure.toNat ≤ k.toNat by omega)
  refine ⟨hc, by rw [a9], a1, hp.length_le, hm.length_le, (List.prefix_iff_eq_take.1 hp).symm, ?_⟩
  rw [a9]; rfl
end TL

/- Journals are read: the reference. -/
set_option linter.unusedSimpArgs false
set_option linter.unusedVariables false
set_option maxRecDepth 100000
set_option maxHeartbeats 4000000
set_option pp.maxSteps 1500
namespace TL
open Go Go.Proofs
attribute [local simp] marksV storyV codeV Claim.v Place.v Deed.v
theorem deed_cells0 (a : Deed) : a.v.cells = [.int .i64 a.kind, .int .i64 a.num, .str a.words] := rfl
def Irs (s : List UInt8) (e : Nat) (y : S) : Prop := ∃ (l : List Deed) (mid rest : List UInt8) (id : Nat), y.tm 0 = .v (.str s) ∧ y.tm 4 = .loc id ∧ id < y.n ∧ y.m id = some (.arr 41 (l.map Deed.v)) ∧ y.tm 5 = .v (.int .i64 (jr l deedTx).length) ∧ y.tm 6 = .v (.int .i64 ((jr l deedTx).length + mid.length : Nat)) ∧ y.mu = false ∧
  s = jr l deedTx ++ (mid ++ rest) ∧ (∀ a ∈ l, deedTx a ≠ []) ∧ (∀ y ∈ mid, y ≠ 10) ∧ (e = 1 → rest = [])
theorem readJournalS_fn (s : List UInt8) (hl : s.length ≤ 2000000000) : FnZ Tryz.prog 6 [.str s] (.tup [.sl ((readJ s).1.map Deed.v), .int .i64 (readJ s).2]) := by
  generalize hJ : readJ s = J
  refine FnZ_of (rs := [.tmp 2, .tmp 3]) false Tryz.func6 rfl rfl rfl rfl (Nat.le_of_ble_eq_true rfl) ?_
  simp -dsimp
  refine twp_loopC (Irs s 0) (fun y => s.length - natOf (y.tm 6)) (Irs s 1) ?_ ?_ ?_
  · exact ⟨[], [], s, 0, by simp -dsimp, by simp -dsimp, by simp -dsimp, by simp -dsimp, by simp -dsimp [jr], by simp -dsimp [jr], by simp -dsimp, by simp [jr], by simp, by simp, by simp⟩
  · rintro y ⟨l, mid, rest, id, t0, t4, hid, hm, t5, t6, hmu, hs, hne, hmid, hend⟩
    have hlen : s.length = (jr l deedTx).length + (mid.length + rest.length) := by rw [hs]; simp
    have happ := readJ_app hne (mid ++ rest)
    rw [← hs, hJ] at happ
    have hjl := jr_long l
    have hdt : (s.take ((jr l deedTx).length + mid.length)).drop (jr l deedTx).length = mid := by
      rw [hs, ← List.append_assoc, List.take_left' (by simp), List.drop_left]
    have hget : s[(jr l deedTx).length + mid.length]? = rest.head? := by
      rw [hs, List.getElem?_append_right (by omega), List.getElem?_append_right (by omega)]
      have : (jr l deedTx).length + mid.length - (jr l deedTx).length - mid.length = 0 := by omega
      rw [this, List.head?_eq_getElem?]
    have hnext : ∀ a, deedTx a = mid → mid ≠ [] → jr (l ++ [a]) deedTx = jr l deedTx ++ (mid ++ [10]) := fun a h _ => by rw [jr_append, jr_cons, h]; simp [jr]
    generalize hF : (jr l deedTx).length = F at *
    cases rest with
    | nil =>
      have hlt : ¬ F + mid.length < s.length := by simp at hlen; omega
      have hlt' : ¬ ((F + mid.length : Nat) : Int) < s.length := by omega
      have hlt'' : ¬ (F : Int) + mid.length < s.length := by omega
      simp -dsimp [t0, t6, hlt, hlt', hlt'']
      exact ⟨l, mid, [], id, by simp -dsimp [t0], by simp -dsimp [t4], by simp -dsimp; omega, by simp -dsimp [hm], by simp -dsimp [t5, hF], by simp -dsimp [t6, hF], by simp -dsimp [hmu], hs, hne, hmid, fun _ => rfl⟩
    | cons c r =>
      simp only [List.length_cons] at hlen
      have hlt : F + mid.length < s.length := by omega
      have hlt' : ((F + mid.length : Nat) : Int) < s.length := by omega
      have hlt'' : (F : Int) + mid.length < s.length := by omega
      have hT : ((F : Int) + mid.length).toNat = F + mid.length := by omega
      have hT1 : ((F : Int) + mid.length + 1).toNat = F + mid.length + 1 := by omega
      have hle1 : (F : Int) ≤ (F : Int) + mid.length := by omega
      have hle2 : (F : Int) + mid.length ≤ s.length := by omega
      have hle3 : F + mid.length ≤ s.length := by omega
      have wi : IntKind.wrap .i64 ((F : Int) + mid.length + 1) = ((F + mid.length + 1 : Nat) : Int) := by rw [w64 (by omega) (by omega)]; omega
      have hmu1 : s.length - (F + mid.length + 1) < s.length - (F + mid.length) := by omega
      have z0 : (0 : Int) ≤ (F : Int) + mid.length := by omega
      simp only [List.head?_cons] at hget
      have hgE : s[F + mid.length]'hlt = c := Option.some.inj ((List.getElem?_eq_getElem hlt).symm.trans hget)
      have f1 := far hid
      by_cases hc : c = 10
      case neg =>
        have hc' : ¬ (c.toNat : Int) = 10 := fun e => hc (UInt8.toNat_inj.1 (by have : (10 : UInt8).toNat = 10 := rfl; omega))
        have hc'' : ¬ c.toNat = 10 := fun e => hc (UInt8.toNat_inj.1 (by have : (10 : UInt8).toNat = 10 := rfl; omega))
        simp -dsimp [t0, t4, t5, t6, hlt, hlt', hlt'', hT, hget, hgE, hc, hc', hc'', wi, hmu1, z0, hT1]
        refine ⟨l, mid ++ [c], r, id, by simp -dsimp [t0], by simp -dsimp [t4], by simp -dsimp; omega, by simp -dsimp [hm], by simp -dsimp [t5, hF], by simp -dsimp [hF]; omega, by simp -dsimp [hmu], by rw [hs]; simp, hne, fun y hy => ?_, by simp⟩
        rcases List.mem_append.1 hy with hy | hy
        · exact hmid y hy
        · rw [List.mem_singleton.1 hy]; exact hc
      subst hc
      have hrd := readDeedS_fn mid (by omega)
      have hcase : ∀ a, readD mid = some a → mid ≠ [] ∧ deedTx a = mid := fun a h => readD_is h
      cases ho : readD mid with
      | none =>
        rw [ho] at hrd
        rw [readJ_halt hmid ho] at happ
        simp only [List.append_nil, Nat.add_zero] at happ
        rw [happ]
        simp -dsimp [t0, t4, t5, t6, hlt, hlt', hlt'', hT, hget, hgE, wi, z0, hle1, hle2, hle3, hdt]
        refine call_ hrd (by simp -dsimp) ?_
        simp -dsimp [optD, t4, t5, hm, f1]
      | some a =>
        rw [ho] at hrd
        obtain ⟨hx, ha⟩ := hcase a ho
        have hj' := hnext a ha hx
        have hjl' : (jr (l ++ [a]) deedTx).length = F + mid.length + 1 := by rw [hj']; simp [hF]; omega
        have b1 : (l.length + 1) * 32 ≤ 140737488355328 := by omega
        simp -dsimp [t0, t4, t5, t6, hlt, hlt', hlt'', hT, hget, hgE, wi, z0, hle1, hle2, hle3, hdt]
        refine call_ hrd (by simp -dsimp) ?_
        simp -dsimp [optD, t4, t5, t6, hm, f1, hmu, b1, wi, hmu1, nes, hT, hT1]
        refine st_out fun s' ht hm' hn' hu' => ?_
        have a0 := ht 0
        have a4 := ht 4
        have a5 := ht 5
        have a6 := ht 6
        simp -dsimp [t0] at a0 a4 a5 a6 hm' hn' hu'
        clear ht
        refine ⟨l ++ [a], [], r, _, a0, a4, by omega, ?_, by rw [a5, hjl']; push_cast; rfl, by rw [a6, hjl']; push_cast; simp, by rw [hu', hmu], by rw [hs, hj']; simp, fun b hb => ?_, by simp, by simp⟩
        · simp [hm', nes, f1]
        · rcases List.mem_append.1 hb with hb | hb
          · exact hne b hb
          · rw [List.mem_singleton.1 hb, ha]; exact hx
  · rintro y ⟨l, mid, rest, id, t0, t4, hid, hm, t5, t6, hmu, hs, hne, hmid, hend⟩
    obtain rfl := hend rfl
    have happ := readJ_app hne (mid ++ [])
    rw [← hs, hJ, List.append_nil, readJ_clean hmid] at happ
    simp only [List.append_nil, Nat.add_zero] at happ
    rw [happ]
    simp -dsimp [t4, t5, hm]
end TL

/- Deeds, one after the other. -/
set_option linter.unusedSimpArgs false
set_option linter.unusedVariables false
set_option maxRecDepth 100000
set_option maxHeartbeats 4000000
set_option pp.maxSteps 1500
namespace TL
open Go Go.Proofs
attribute [local simp] marksV storyV codeV Claim.v Place.v Deed.v Desk.v
theorem words_short {a : Deed} (h : deedTx a ≠ []) : a.words.length ≤ 1000000000 := by
  rcases deed_cases h with ⟨w, rfl, ⟨d, hd⟩, _⟩ | ⟨n, h0, h9, rfl, _⟩ | ⟨n, h0, h9, rfl, _⟩ | ⟨rfl, _⟩ | ⟨rfl, _⟩
  · have := readC_len hd; simp only; omega
  · simp
  · simp
  · simp
  · simp
theorem copyDesk_v (d : Desk) (hd : d.small) (m : Mem) (n : Nat) : FnS Tryz.prog 30 m n [.v d.v] (Drawn (fun x => x = d.v) m n) := by
  refine Drawn_of ⟨_, Tryz.func30, rfl, rfl⟩ fun hfr => ?_
  refine (copyDesk_own d hd m n).weak ?_
  rintro t m' n' ⟨hn, hout, id, st, rfl, h0, h1, him, hst, hne⟩
  refine ⟨hn, ⟨d.v, ?_, rfl⟩, hout⟩
  have hb := hst.bor (n0 := n) (m' := m') (Nat.le_refl _) (fun i _ _ _ => rfl) 3
  have h0' : n ≤ id := h0
  simp [hb, him, h0']
theorem l15Copy_v (d : Desk) (hd : d.small) (m : Mem) (n : Nat) : FnS Tryz.prog 79 m n [.v d.v] (Drawn (fun x => x = d.v) m n) := by
  refine Drawn_of ⟨_, Tryz.func79, rfl, rfl⟩ fun hfr => ?_
  refine (l15Copy_own d hd m n).weak ?_
  rintro t m' n' ⟨hn, hout, st, rfl, hst⟩
  refine ⟨hn, ⟨d.v, ?_, rfl⟩, hout⟩
  have hb := hst.bor (n0 := n) (m' := m') (Nat.le_refl _) (fun i _ _ _ => rfl) 3
  simp [hb]
theorem doAll_succ {d : Desk} {l : List Deed} {i : Nat} (h : i < l.length) : doAll d (l.take (i + 1)) = doStep (doAll d (l.take i)) l[i] := by
  unfold doAll
  rw [List.take_succ_eq_append_getElem h, List.foldl_append]; rfl
noncomputable def Ida (d : Desk) (l : List Deed) (e : Nat) (s : S) : Prop := ∃ i : Nat, s.tm 2 = .ptr 0 0 ∧ s.tm 4 = .ptr 1 0 ∧ s.tm 6 = .v (.int .i64 (doAll d (l.take i)).2) ∧ s.tm 13 = .v (.sl (l.map Deed.v)) ∧ s.tm 14 = .v (.int .i64 l.length) ∧ s.tm 15 = .v (.int .i64 i) ∧ i ≤ l.length ∧ 2 ≤ s.n ∧
  s.m 0 = some (.box 33 3 [.v (.int .i64 (doAll d (l.take i)).1.now.people), .v (storyV (doAll d (l.take i)).1.now.story), .v (.sl ((doAll d (l.take i)).1.past.map Place.v))]) ∧ s.m 1 = some (.box 33 3 [.v (.int .i64 0), .nil, .nil]) ∧ (e = 1 → i = l.length)
theorem doAll_fn (d : Desk) (l : List Deed) (hk : deskOk d = true) (hl : l.length ≤ 1048576) (hw : ∀ a ∈ l, a.words.length ≤ 1000000000) : FnZ Tryz.prog 34 [d.v, .sl (l.map Deed.v)] (.tup [(doAll d l).1.v, .int .i64 (doAll d l).2]) := by
  have hcv := fun m n => copyDesk_v d (desk_fine hk).1 m n
  refine FnZ_of (rs := [.cell 4 33, .tmp 5]) false Tryz.func34 rfl rfl rfl rfl (Nat.le_of_ble_eq_true rfl) ?_
  simp -dsimp
  refine callL_ (vs := [d.v]) (hcv _ _) (by simp -dsimp) ?_
  rintro t m1 n1 ⟨hn1, ⟨x, rfl, rfl⟩, rfl⟩
  have f0 := far (show 0 < n1 by omega)
  have f1 := far (show 1 < n1 by omega)
  simp -dsimp [f0, f1]
  refine twp_loopC (Ida d l 0) (fun s => l.length - natOf (s.tm 15)) (Ida d l 1) ?_ ?_ ?_
  · exact ⟨0, by simp -dsimp, by simp -dsimp, by simp -dsimp [doAll], by simp -dsimp, by simp -dsimp, by simp -dsimp, by omega, (by simp -dsimp <;> omega), by simp -dsimp [doAll], by simp -dsimp, by simp⟩
  · rintro s ⟨i, t2, t4, t6, t13, t14, t15, hi, hn, m0, m1, hend⟩
    by_cases hlt : i < l.length
    case neg =>
      simp -dsimp [t14, t15, hlt]
      exact ⟨i, by simp -dsimp [t2], by simp -dsimp [t4], by simp -dsimp [t6], by simp -dsimp [t13], by simp -dsimp [t14], by simp -dsimp [t15], hi, by simp -dsimp; omega, by simp -dsimp [m0], by simp -dsimp [m1], fun _ => by omega⟩
    have hget : (l.map Deed.v)[i]? = some (l[i].v) := by simp [hlt]
    have wi : IntKind.wrap .i64 ((i : Int) + 1) = ((i + 1 : Nat) : Int) := by rw [w64 (by omega) (by omega)]; omega
    have hmu1 : l.length - (i + 1) < l.length - i := by omega
    have f0 := far (show 0 < s.n by omega)
    have f1 := far (show 1 < s.n by omega)
    have hD := doAll_ok (l.take i) d hk
    have hcall := deskDo_fn (doAll d (l.take i)).1 l[i] (desk_fine hD).1 (hw _ (List.getElem_mem _))
    have hs := doAll_succ (d := d) hlt
    have hcnt := doAll_len (l.take i) d
    have hcl : (l.take i).length ≤ i := by simp; omega
    have wc : IntKind.wrap .i64 (((doAll d (l.take i)).2 : Int) + 1) = (((doAll d (l.take i)).2 + 1 : Nat) : Int) := by rw [w64 (by omega) (by omega)]; omega
    have hyes : (deskDo (doAll d (l.take i)).1 l[i]).2 = true → doAll d (l.take (i + 1)) = ((deskDo (doAll d (l.take i)).1 l[i]).1, (doAll d (l.take i)).2 + 1) := fun h => by rw [hs]; exact if_pos h
    have hno : (deskDo (doAll d (l.take i)).1 l[i]).2 = false → doAll d (l.take (i + 1)) = doAll d (l.take i) := fun h => by rw [hs]; exact if_neg (by simp [h])
    clear hs hD hcnt hcl
    generalize deskDo (doAll d (l.take i)).1 l[i] = E at *
    generalize doAll d (l.take i) = R at *
    obtain ⟨⟨⟨E1, E2⟩, E3⟩, E4⟩ := E
    obtain ⟨⟨⟨D1, D2⟩, D3⟩, c⟩ := R
    generalize hx : l[i] = a at *
    obtain ⟨a1, a2, a3⟩ := a
    simp only at t6 m0 hcall wc hyes hno
    simp -dsimp [t2, t13, t14, t15, hlt, hget, m0, f0, f1, nes, hx]
    refine call_ hcall (by simp -dsimp) ?_
    cases E4 with
    | false =>
      have hR := hno rfl
      simp -dsimp [t2, t6, t15, m0, f0, f1, nes, wi, hmu1]
      exact ⟨i + 1, by simp -dsimp [t2], by simp -dsimp [t4], by simp -dsimp [t6, hR], by simp -dsimp [t13], by simp -dsimp [t14], by simp -dsimp, by omega, (by simp -dsimp <;> omega), by simp -dsimp [m0, f0, f1, hR], by simp -dsimp [m1, f0, f1], by simp⟩
    | true =>
      have hR := hyes rfl
      simp -dsimp [t2, t6, t15, m0, f0, f1, nes, wi, hmu1, wc]
      exact ⟨i + 1, by simp -dsimp [t2], by simp -dsimp [t4], by simp -dsimp [hR], by simp -dsimp [t13], by simp -dsimp [t14], by simp -dsimp, by omega, (by simp -dsimp <;> omega), by simp -dsimp [f0, f1, hR], by simp -dsimp [m1, f0, f1], by simp⟩
  · rintro s ⟨i, t2, t4, t6, t13, t14, t15, hi, hn, m0, m1, hend⟩
    have := hend rfl
    subst this
    rw [List.take_length] at m0 t6
    generalize doAll d l = R at *
    obtain ⟨⟨⟨D1, D2⟩, D3⟩, c⟩ := R
    simp -dsimp [t2, t4, t6, m0, m1]
noncomputable def Ir15 (d : Desk) (l : List Deed) (q : Nat) (e : Nat) (s : S) : Prop := ∃ i : Nat, s.tm 1 = .v (.sl (l.map Deed.v)) ∧ s.tm 4 = .ptr 1 0 ∧ s.tm 6 = .ptr q 0 ∧ s.tm 7 = .v (.int .i64 (doAll d (l.take i)).2) ∧ s.tm 8 = .v (.int .i64 i) ∧ i ≤ l.length ∧ q < s.n ∧
  s.m q = some (.box 33 3 [.v (.int .i64 (doAll d (l.take i)).1.now.people), .v (storyV (doAll d (l.take i)).1.now.story), .v (.sl ((doAll d (l.take i)).1.past.map Place.v))]) ∧ s.m 1 = some (.box 33 3 [.v (.int .i64 0), .nil, .nil]) ∧ (e = 1 → i = l.length)
end TL

/- Runs of deeds at a desk. -/
set_option linter.unusedSimpArgs false
set_option linter.unusedVariables false
set_option maxRecDepth 100000
set_option maxHeartbeats 4000000
set_option pp.maxSteps 1500
namespace TL
open Go Go.Proofs
attribute [local simp] marksV storyV codeV Claim.v Place.v Deed.v Desk.v
noncomputable def deskRun (d : Desk) (l : List Deed) : Desk × Nat := if deskOk d = true ∧ l.length ≤ 40 then doAll d l else (noDeskV, 0)
theorem deskRun_fn (d : Desk) (l : List Deed) (hd : d.small) (hw : ∀ a ∈ l, a.words.length ≤ 1000000000) : FnZ Tryz.prog 12 [d.v, .sl (l.map Deed.v)] (.tup [(deskRun d l).1.v, .int .i64 (deskRun d l).2]) := by
  have hok := deskOk_fn d (by have := hd.2.1; omega) (by have := hd.1.1; omega) (fun p hp => by have := (hd.2.2 p hp).1; omega)
  have hk := ft (deskOk d)
  rcases hk with hk | hk
  · have e : deskRun d l = (noDeskV, 0) := if_neg (by simp [hk])
    rw [e]
    rw [hk] at hok
    refine FnZ_of (rs := [.cell 4 33, .tmp 5]) false Tryz.func12 rfl rfl rfl rfl (Nat.le_of_ble_eq_true rfl) ?_
    simp -dsimp
    refine call_ hok (by simp -dsimp) ?_
    simp -dsimp [noDeskV]
  rw [hk] at hok
  by_cases hl : l.length ≤ 40
  case neg =>
    have e : deskRun d l = (noDeskV, 0) := if_neg (by simp [hl])
    have hl' : (40 : Int) < l.length := by omega
    have hl'' : 40 < l.length := by omega
    rw [e]
    refine FnZ_of (rs := [.cell 4 33, .tmp 5]) false Tryz.func12 rfl rfl rfl rfl (Nat.le_of_ble_eq_true rfl) ?_
    simp -dsimp
    refine call_ hok (by simp -dsimp) ?_
    simp -dsimp [noDeskV, hl', hl'']
  have e : deskRun d l = doAll d l := if_pos ⟨hk, hl⟩
  have hl' : ¬ (40 : Int) < l.length := by omega
  have hl'' : ¬ 40 < l.length := by omega
  have h := doAll_fn d l hk (by omega) hw
  rw [e]
  generalize doAll d l = R at *
  obtain ⟨⟨⟨D1, D2⟩, D3⟩, c⟩ := R
  refine FnZ_of (rs := [.cell 4 33, .tmp 5]) false Tryz.func12 rfl rfl rfl rfl (Nat.le_of_ble_eq_true rfl) ?_
  simp -dsimp
  refine call_ hok (by simp -dsimp) ?_
  simp -dsimp [hl', hl'', nes]
  refine call_ h (by simp -dsimp) ?_
  simp -dsimp [nes]
end TL

/- Rows of places as cells that may change. -/
set_option linter.unusedSimpArgs false
set_option linter.unusedVariables false
set_option maxRecDepth 100000
set_option maxHeartbeats 4000000
set_option pp.maxSteps 1500
namespace TL
open Go Go.Proofs
def plT : List Place → List T
  | [] => []
  | p :: l => .v (.int .i64 p.people) :: .v (storyV p.story) :: plT l
@[simp] theorem plT_nil : plT [] = [] := rfl
theorem plT_append (a b : List Place) : plT (a ++ b) = plT a ++ plT b := by
  induction a with
  | nil => rfl
  | cons x xs ih => simp [plT, ih]
@[simp] theorem plT_length (a : List Place) : (plT a).length = a.length * 2 := by
  induction a with
  | nil => rfl
  | cons x xs ih => simp [plT, ih]; omega
theorem plT_take_ex (a : List Place) (ex : List T) : (plT a ++ ex).take (a.length * 2) = plT a := List.take_left' (by simp)
theorem plT_one (p : Place) : [T.v (.int .i64 p.people), T.v (storyV p.story)] = plT [p] := rfl
@[simp] theorem plT_cells (a : List Place) : allC (plT a) := by
  induction a with
  | nil => simp
  | cons x xs ih => simp [plT, storyV]; exact ih
theorem plT_get {l : List Place} {ex : List T} {k : Nat} (h : k < l.length) : ((plT l ++ ex).drop (k * 2)).take 2 = [.v (.int .i64 l[k].people), .v (storyV l[k].story)] := by
  have e : l = l.take k ++ l[k] :: l.drop (k + 1) := by rw [← List.drop_eq_getElem_cons h, List.take_append_drop]
  have e2 : plT l = plT (l.take k) ++ ([.v (.int .i64 l[k].people), .v (storyV l[k].story)] ++ plT (l.drop (k + 1))) := by
    conv => lhs; rw [e, plT_append]
    rfl
  rw [e2, List.append_assoc, List.drop_left' (by simp; omega)]
  rfl
theorem plT_take {l : List Place} {ex : List T} {j : Nat} (h : j ≤ l.length) : (plT l ++ ex).take (j * 2) = plT (l.take j) := by
  have e : plT l = plT (l.take j) ++ plT (l.drop j) := by rw [← plT_append, List.take_append_drop]
  rw [e, List.append_assoc, List.take_left' (by simp; omega)]
theorem plT_bor (k : Bool) (m : Mem) (d : Nat) (l : List Place) : mapO (bor k m d) (plT l) = some (l.flatMap fun p => p.v.cells) := by
  induction l with
  | nil => rfl
  | cons p l ih => simp [plT, mapO, ih, Place.v, V.cells]
theorem plV_cell (l : List Place) : ∀ x ∈ (l.flatMap fun p => p.v.cells), x.cell = true := by
  intro x hx
  obtain ⟨p, _, hp⟩ := List.mem_flatMap.1 hx
  simp [Place.v, V.cells, storyV] at hp
  rcases hp with rfl | rfl <;> rfl
theorem plV_chunk (l : List Place) : chunk 2 l.length (l.flatMap fun p => p.v.cells) = l.map Place.v := chunk_elems (v := Place.v) (k := 2) elemOk_place l
end TL

/- Copies of desks, past places as cells that may change: the reference. -/
set_option linter.unusedSimpArgs false
set_option linter.unusedVariables false
set_option maxRecDepth 100000
set_option maxHeartbeats 4000000
set_option pp.maxSteps 1500
namespace TL
open Go Go.Proofs
attribute [local simp] marksV storyV codeV Claim.v Place.v Desk.v
def PastT (m : Mem) (lo hi : Nat) (P : T) (l : List Place) : Prop := (P = .nil ∧ l = []) ∨ ∃ id ex, P = .sv id 0 l.length ∧ lo ≤ id ∧ id < hi ∧ m id = some (.box 30 2 (plT l ++ ex))
def OwnDeskM (d : Desk) (m : Mem) (n : Nat) (t : T) (m' : Mem) (n' : Nat) : Prop := n ≤ n' ∧ (∀ j, j < n → m' j = m j) ∧ ∃ st, t = .agg [.v (.int .i64 d.now.people), .v (storyV d.now.story), st] ∧ PastT m' n n' st d.past
def Iom (d : Desk) (P : T) (m : Mem) (n : Nat) (e : Nat) (s : S) : Prop := ∃ (i : Nat) (st : T), s.tm 1 = .ptr n 0 ∧ s.tm 2 = .ptr (n + 1) 0 ∧ s.tm 3 = .ptr (n + 2) 0 ∧ s.tm 4 = .v (.int .i64 i) ∧ s.mu = true ∧ i ≤ d.past.length ∧ n + 3 ≤ s.n ∧
  s.m n = some (.box 33 3 [.v (.int .i64 d.now.people), .v (storyV d.now.story), P]) ∧ s.m (n + 1) = some (.box 33 3 [.v (.int .i64 0), .nil, .nil]) ∧
  s.m (n + 2) = some (.box 33 3 [.v (.int .i64 d.now.people), .v (storyV d.now.story), st]) ∧ PastT s.m (n + 3) s.n st (d.past.take i) ∧ (∀ j, j < n → s.m j = m j) ∧ (e = 1 → i = d.past.length)
theorem l15Copy_mut (d : Desk) (hd : d.small) (P : T) (m : Mem) (n : Nat) (hP : PastT m 0 n P d.past) : FnS Tryz.prog 79 m n [.agg [.v (.int .i64 d.now.people), .v (storyV d.now.story), P]] (OwnDeskM d m n) := by
  have hl := hd.2.1
  refine FnS_of (rs := [.cell 2 33]) true Tryz.func79 rfl rfl rfl rfl (Nat.le_of_ble_eq_true rfl) ?_
  have e0 : ¬ n = n + 1 := by omega
  have e1 : ¬ n = n + 2 := by omega
  have e2 : ¬ n + 1 = n + 2 := by omega
  have e3 : ¬ n + 2 = n := by omega
  have e4 : ¬ n + 2 = n + 1 := by omega
  have e5 : ¬ n + 1 = n := by omega
  have hPc : P.cell = true := by rcases hP with ⟨rfl, _⟩ | ⟨id, ex, rfl, _⟩ <;> rfl
  have hPb : ∀ d, bor true m d P = none ∨ True := fun _ => .inr trivial
  simp -dsimp [hPc]
  refine call_ (l15Place_fn d.now hd.1) (by simp -dsimp) ?_
  simp -dsimp [e0, e1, e2, e3, e4, e5, nes, hPc]
  refine twp_loopC (Iom d P m n 0) (fun s => d.past.length - natOf (s.tm 4)) (Iom d P m n 1) ?_ ?_ ?_
  · refine ⟨0, .nil, by simp -dsimp, by simp -dsimp, by simp -dsimp, by simp -dsimp, by simp -dsimp, by omega, by simp -dsimp, by simp -dsimp [nes], by simp -dsimp [nes], by simp -dsimp, .inl ⟨rfl, by simp⟩, fun j j1 => ?_, by simp⟩
    simp -dsimp [far j1]
  · rintro s ⟨i, st, t1, t2, t3, t4, hmu, hi, hn, m0, m1, m2, hst, hout, hend⟩
    have hlen : slLen s.m P = some d.past.length := by
      rcases hP with ⟨rfl, h0⟩ | ⟨id, ex, rfl, _⟩
      · rw [h0]; rfl
      · rfl
    by_cases hlt : i < d.past.length
    case neg =>
      rcases hP with ⟨rfl, h0⟩ | ⟨pid, ex, rfl, hp0, hp1, hpm⟩
      · have h00 : d.past.length = 0 := by rw [h0]; rfl
        have i0 : i = 0 := by omega
        simp -dsimp [t1, t4, m0, i0]
        exact ⟨0, st, by simp -dsimp [t1], by simp -dsimp [t2], by simp -dsimp [t3], by simp -dsimp [t4, i0], by simp -dsimp [hmu], by omega, by simp -dsimp; omega, by simp -dsimp [m0], by simp -dsimp [m1], by simp -dsimp [m2], by rw [i0] at hst; exact hst, fun j j1 => by simp -dsimp [hout j j1], fun _ => by omega⟩
      · simp -dsimp [t1, t4, m0, hlt]
        exact ⟨i, st, by simp -dsimp [t1], by simp -dsimp [t2], by simp -dsimp [t3], by simp -dsimp [t4], by simp -dsimp [hmu], hi, by simp -dsimp; omega, by simp -dsimp [m0], by simp -dsimp [m1], by simp -dsimp [m2], hst, fun j j1 => by simp -dsimp [hout j j1], fun _ => by omega⟩
    rcases hP with ⟨rfl, h0⟩ | ⟨pid, ex, rfl, hp0, hp1, hpm⟩
    · rw [h0] at hlt; simp at hlt
    have hpm' : s.m pid = some (.box 30 2 (plT d.past ++ ex)) := by rw [hout pid hp1]; exact hpm
    have hget := plT_get (ex := ex) hlt
    have hgl : i * 2 + 2 ≤ (plT d.past ++ ex).length := by simp; omega
    have hgl2 : i * 2 + 2 ≤ d.past.length * 2 + ex.length := by omega
    have wi : IntKind.wrap .i64 ((i : Int) + 1) = ((i + 1 : Nat) : Int) := by rw [w64 (by omega) (by omega)]; omega
    have hmu1 : d.past.length - (i + 1) < d.past.length - i := by omega
    have f0 := far (show n < s.n by omega)
    have f1 := far (show n + 1 < s.n by omega)
    have f2 := far (show n + 2 < s.n by omega)
    have f3 := far (show pid < s.n by omega)
    have d0 : ¬ pid = n := by omega
    have d1 : ¬ pid = n + 1 := by omega
    have d2 : ¬ pid = n + 2 := by omega
    have hsm := hd.2.2 d.past[i] (List.getElem_mem _)
    have hpl := l15Place_fn d.past[i] hsm
    have b1 : (min i d.past.length + 1) * 32 ≤ 140737488355328 := by omega
    have b2 : (i + 1) * 32 ≤ 140737488355328 := by omega
    have htk : plT (d.past.take (i + 1)) = plT (d.past.take i) ++ [.v (.int .i64 d.past[i].people), .v (storyV d.past[i].story)] := by rw [List.take_succ_eq_append_getElem hlt, plT_append]; rfl
    have hil : min i d.past.length = i := by omega
    simp -dsimp [t1, t4, m0, hlt]
    have hTb : plT (d.past.take i) = plT (d.past.take i) := rfl
    refine twp_draw (List.range 12) [n, n + 2, pid] (List.replicate 12 [0, 1, 2]) (List.replicate 11 [0, 1, 2] ++ [[0, 2]]) (by kernel_rfl) (by kernel_rfl) (by kernel_rfl) (by kernel_rfl) ?_
    rcases hst with ⟨rfl, hs0⟩ | ⟨id, ex2, rfl, hi0, hi1, him⟩
    · simp -dsimp [List.range_succ, t1, t3, t4, m0, m2, hlt, hget, hgl, hgl2, hpm', nes, f0, f1, f2, f3, e0, e1, e2, e3, e4, e5, d0, d1, d2]
      refine call_ hpl (by simp -dsimp) ?_
      simp -dsimp [List.range_succ, t1, t3, t4, m0, m2, hlt, hget, hgl, hgl2, hpm', hmu, nes, f0, f1, f2, f3, e0, e1, e2, e3, e4, e5, d0, d1, d2, wi, hmu1]
      have hi00 : i = 0 := by
        simp at hs0; rcases hs0 with h | h
        · exact h
        · rw [h] at hlt; simp at hlt
      subst hi00
      refine st_out fun s' ht hm' hn' hu' => ?_
      have q1 := ht 1
      have q2 := ht 2
      have q3 := ht 3
      have q4 := ht 4
      simp -dsimp [t1, t2, t3] at q1 q2 q3 q4 hm' hn' hu'
      clear ht
      refine ⟨1, .sv (s.n + 1) 0 1, q1, q2, q3, q4, by rw [hu', hmu], by omega, by omega, by simp [hm', nes, e0, e1, f0, m0], by simp [hm', nes, e2, f0, f1, m1], by simp [hm', nes, f2], .inr ⟨s.n + 1, [], ?_, by omega, by omega, ?_⟩, fun j j1 => ?_, by simp⟩
      · simp; omega
      · rw [htk]; simp [hm', nes, f0, f1, f2]
      · simp [hm', far (show j < s.n by omega), show ¬ j = n + 2 by omega, hout j j1]
    · have g1 := far hi1
      have g2 : ¬ id = n + 2 := by omega
      have g0 : ¬ id = n := by omega
      have g3 : ¬ id = n + 1 := by omega
      have g4 : ¬ id = pid := by omega
      simp -dsimp [List.range_succ, t1, t3, t4, m0, m2, hlt, hget, hgl, hgl2, hpm', nes, f0, f1, f2, f3, e0, e1, e2, e3, e4, e5, d0, d1, d2]
      refine call_ hpl (by simp -dsimp) ?_
      simp -dsimp [List.range_succ, t1, t3, t4, m0, m2, hlt, hget, hgl, hgl2, hpm', hmu, nes, f0, f1, f2, f3, e0, e1, e2, e3, e4, e5, d0, d1, d2, wi, hmu1, b1, g1, g2, g0, g3, g4, Ne.symm g0, Ne.symm g2, Ne.symm g3, Ne.symm g4, him]
      refine st_out fun s' ht hm' hn' hu' => ?_
      have q1 := ht 1
      have q2 := ht 2
      have q3 := ht 3
      have q4 := ht 4
      simp -dsimp [t1, t2, t3] at q1 q2 q3 q4 hm' hn' hu'
      clear ht
      refine ⟨i + 1, .sv (s.n + 1) 0 (i + 1), q1, q2, q3, q4, by rw [hu', hmu], by omega, by omega, by simp [hm', nes, e0, e1, f0, m0, Ne.symm g0], by simp [hm', nes, e2, f0, f1, m1, Ne.symm g3], by simp [hm', nes, f2, hil], .inr ⟨s.n + 1, [], ?_, by omega, by omega, ?_⟩, fun j j1 => ?_, by simp⟩
      · simp; omega
      · rw [htk]; simp [hm', f0, f1, f2, nes, hil]
      · simp [hm', far (show j < s.n by omega), show ¬ j = n + 2 by omega, show ¬ j = id by omega, hout j j1]
  · rintro s ⟨i, st, t1, t2, t3, t4, hmu, hi, hn, m0, m1, m2, hst, hout, hend⟩
    have := hend rfl
    subst this
    rw [List.take_length] at hst
    have f1 := far (show n + 1 < s.n by omega)
    rcases hst with ⟨rfl, hs0⟩ | ⟨id, ex2, rfl, hi0, hi1, him⟩
    · simp -dsimp [t2, t3, m1, m2, e2, e4]
      exact ⟨by omega, fun j j1 => by simp [show ¬ j = n + 1 by omega, hout j j1], .nil, rfl, .inl ⟨rfl, hs0⟩⟩
    · have g3 : ¬ id = n + 1 := by omega
      simp -dsimp [t2, t3, m1, m2, e2, e4]
      exact ⟨by omega, fun j j1 => by simp [show ¬ j = n + 1 by omega, hout j j1], .sv id 0 d.past.length, rfl, .inr ⟨id, ex2, rfl, by omega, by omega, by simp [g3, him]⟩⟩
end TL

/- Deeds at a desk, past places as cells that may change: the reference. -/
set_option linter.unusedSimpArgs false
set_option linter.unusedVariables false
set_option maxRecDepth 100000
set_option maxHeartbeats 4000000
set_option pp.maxSteps 1500
namespace TL
open Go Go.Proofs
attribute [local simp] marksV storyV codeV Claim.v Place.v Deed.v Desk.v
theorem PastT.cell {m : Mem} {lo hi : Nat} {P : T} {l : List Place} (h : PastT m lo hi P l) : P.cell = true := by
  rcases h with ⟨rfl, _⟩ | ⟨id, ex, rfl, _⟩ <;> rfl
theorem PastT.cells {m : Mem} {lo hi : Nat} {P : T} {l : List Place} (h : PastT m lo hi P l) : P.cells = [P] := by
  rcases h with ⟨rfl, _⟩ | ⟨id, ex, rfl, _⟩ <;> rfl
theorem PastT.len {m : Mem} {lo hi : Nat} {P : T} {l : List Place} (h : PastT m lo hi P l) (mm : Mem) : evLen Tryz.prog 31 mm P = some ⟨.v (.int .i64 l.length), []⟩ := by
  rcases h with ⟨rfl, rfl⟩ | ⟨id, ex, rfl, _⟩ <;> simp <;> rfl
theorem PastT.bor {m : Mem} {lo hi : Nat} {P : T} {l : List Place} (h : PastT m lo hi P l) {mm : Mem} (hm : ∀ j, lo ≤ j → j < hi → mm j = m j) (d : Nat) : TL.bor true mm (d + 1) P = some (.sl (l.map Place.v)) := by
  rcases h with ⟨rfl, rfl⟩ | ⟨id, ex, rfl, h0, h1, h2⟩
  · rfl
  · have e : mm id = some (.box 30 2 (plT l ++ ex)) := by rw [hm id h0 h1, h2]
    have c1 : 0 + l.length * 2 ≤ (plT l ++ ex).length := by simp
    have c2 : ((plT l ++ ex).drop 0).take (l.length * 2) = plT l := by rw [List.drop_zero, plT_take_ex]
    show (match mm id with | some (.box _ z cs) => tst (0 + l.length * z ≤ cs.length) (obind (mapO (TL.bor true mm d) ((cs.drop 0).take (l.length * z))) fun xs => tst (∀ x ∈ xs, x.cell = true) (some (V.sl (chunk z l.length xs)))) | _ => none) = _
    rw [e]
    show tst (0 + l.length * 2 ≤ (plT l ++ ex).length) (obind (mapO (TL.bor true mm d) (((plT l ++ ex).drop 0).take (l.length * 2))) fun xs => tst (∀ x ∈ xs, x.cell = true) (some (V.sl (chunk 2 l.length xs)))) = _
    rw [tst_pos c1, c2, plT_bor, obind_some, tst_pos (plV_cell l), plV_chunk]
theorem PastT.keep {m m' : Mem} {lo hi lo' hi' : Nat} {P : T} {l : List Place} (h : PastT m lo hi P l) (h1 : lo' ≤ lo) (h2 : hi ≤ hi') (hm : ∀ j, lo ≤ j → j < hi → m' j = m j) : PastT m' lo' hi' P l := by
  rcases h with ⟨rfl, rfl⟩ | ⟨id, ex, rfl, g0, g1, g2⟩
  · exact .inl ⟨rfl, rfl⟩
  · exact .inr ⟨id, ex, rfl, by omega, by omega, by rw [hm id g0 g1, g2]⟩
theorem desk_arg {m : Mem} {hi : Nat} {P : T} {d : Desk} (h : PastT m 0 hi P d.past) {mm : Mem} (hm : ∀ j, j < hi → mm j = m j) : mapO (TL.bor true mm 4) [.agg [.v (.int .i64 d.now.people), .v (storyV d.now.story), P]] = some [d.v] := by
  have hb := h.bor (mm := mm) (fun j _ hj => hm j hj) 2
  simp [hb]
/-- The reference's DeskNew, its row of places of before the caller's own. -/
def NewT (p : Place) (m : Mem) (n : Nat) (t : T) (m' : Mem) (n' : Nat) : Prop := n ≤ n' ∧ (∀ j, j < n → m' j = m j) ∧
  ((placeOk p = true ∧ t = .tup [.agg [.v (.int .i64 p.people), .v (storyV p.story), .nil], .v (.bool true)]) ∨ (placeOk p = false ∧ t = .tup [.agg [.v (.int .i64 0), .nil, .nil], .v (.bool false)]))
theorem deskNewS_mut (p : Place) (hp : p.small) (hf : p.fit) (m : Mem) (n : Nat) : FnS Tryz.prog 43 m n [.v p.v] (NewT p m n) := by
  have hok := placeOkS_fn p ⟨by have := hp.1; omega, fun c hc => ⟨(hf.2 c hc).2, by have := hp.2 c hc; unfold Claim.small at this; omega⟩⟩
  have hk := ft (placeOk p)
  refine FnS_of (rs := [.cell 2 33, .tmp 3]) true Tryz.func43 rfl rfl rfl rfl (Nat.le_of_ble_eq_true rfl) ?_
  have e0 : ¬ n = n + 1 := by omega
  have e5 : ¬ n + 1 = n := by omega
  rcases hk with hk | hk
  · rw [hk] at hok
    simp -dsimp
    refine call_ hok (by simp -dsimp [e0, e5, nes]) ?_
    simp -dsimp [e0, e5, nes]
    exact ⟨by omega, fun j j1 => by simp [far j1], .inr ⟨hk, rfl⟩⟩
  · rw [hk] at hok
    simp -dsimp
    refine call_ hok (by simp -dsimp [e0, e5, nes]) ?_
    simp -dsimp [e0, e5, nes]
    refine call_ (l15Place_fn p hp) (by simp -dsimp) ?_
    simp -dsimp [e0, e5, nes]
    exact ⟨by omega, fun j j1 => by simp [far j1], .inl ⟨hk, rfl⟩⟩
/-- Nothing can be done at no desk. -/
theorem deskDoS_none (a : Deed) (m : Mem) (n : Nat) : FnS Tryz.prog 44 m n [.agg [.v (.int .i64 0), .v (.sl []), .nil], .v a.v] (fun t m' n' => n ≤ n' ∧ (∀ j, j < n → m' j = m j) ∧ t = .tup [.agg [.v (.int .i64 0), .nil, .nil], .v (.bool false)]) := by
  have hno : deskOk noDeskV = false := by decide
  have hok := deskOkS_fn noDeskV ⟨⟨by simp [noDeskV], by simp [noDeskV]⟩, by simp [noDeskV], by simp [noDeskV]⟩ ⟨⟨by simp [noDeskV, fit], by simp [noDeskV]⟩, by simp [noDeskV]⟩
  rw [hno] at hok
  obtain ⟨a1, a2, a3⟩ := a
  refine FnS_of (rs := [.cell 4 33, .tmp 5]) true Tryz.func44 rfl rfl rfl rfl (Nat.le_of_ble_eq_true rfl) ?_
  have e0 : ¬ n = n + 1 := by omega
  have e1 : ¬ n = n + 2 := by omega
  have e2 : ¬ n + 1 = n + 2 := by omega
  have e3 : ¬ n + 2 = n := by omega
  have e4 : ¬ n + 2 = n + 1 := by omega
  have e5 : ¬ n + 1 = n := by omega
  simp -dsimp [e0, e1, e2, e3, e4, e5, nes]
  refine callM_ hok (by simp -dsimp [noDeskV, e0, e1, e2, e3, e4, e5, nes]) rfl ?_
  simp -dsimp [e0, e1, e2, e3, e4, e5, nes]
  exact ⟨by omega, fun j j1 => by simp [far j1]⟩
/-- The reference's DeskDo, its row of places of before the caller's own. -/
def DoT (d : Desk) (a : Deed) (m : Mem) (n : Nat) (t : T) (m' : Mem) (n' : Nat) : Prop := n ≤ n' ∧ (∀ j, j < n → m' j = m j) ∧ ∃ st, t = .tup [.agg [.v (.int .i64 (deskDo d a).1.now.people), .v (storyV (deskDo d a).1.now.story), st], .v (.bool (deskDo d a).2)] ∧ PastT m' n n' st (deskDo d a).1.past
theorem deskDoS_mut (d : Desk) (a : Deed) (hk : deskOk d = true) (h7 : d.past.length ≤ 7) (ha : a.words.length ≤ 1000000000) (P : T) (m : Mem) (n : Nat) (hP : PastT m 0 n P d.past) :
    FnS Tryz.prog 44 m n [.agg [.v (.int .i64 d.now.people), .v (storyV d.now.story), P], .v a.v] (DoT d a m n) := by
  have hd := (desk_fine hk).1
  have hf := (desk_fine hk).2.1
  have hok := deskOkS_fn d hd hf
  rw [hk] at hok
  obtain ⟨hpast, hnow, hp8⟩ := deskOk_iff.1 hk
  have hcopy := l15Copy_mut d hd P
  have hPc := hP.cell
  have hPcs := hP.cells
  have e0 : ¬ n = n + 1 := by omega
  have e1 : ¬ n = n + 2 := by omega
  have e2 : ¬ n + 1 = n + 2 := by omega
  have e3 : ¬ n + 2 = n := by omega
  have e4 : ¬ n + 2 = n + 1 := by omega
  have e5 : ¬ n + 1 = n := by omega
  by_cases hb : isBack a = true ∧ d.past ≠ []
  · have hD := deskDo_back hk hb.1 hb.2
    unfold DoT
    rw [hD]
    have ha4 : a = ⟨4, 0, []⟩ := by have := hb.1; simp only [isBack, decide_eq_true_eq] at this; exact this
    subst ha4
    have hne := hb.2
    have hpos : 0 < d.past.length := List.length_pos_iff.2 hb.2
    have hpos' : (0 : Int) < d.past.length := by omega
    have p1 : (1 : Int) ≤ d.past.length := by omega
    have p2 : 1 ≤ d.past.length := by omega
    have w1 : IntKind.wrap .i64 ((d.past.length : Int) - 1) = (d.past.length : Int) - 1 := w64 (by omega) (by omega)
    clear hb
    have hP2 := hP
    rcases hP with ⟨rfl, hp0⟩ | ⟨pid, pex, rfl, hq0, hq1, hqm⟩
    · exact absurd hp0 hne
    refine FnS_of (rs := [.cell 4 33, .tmp 5]) true Tryz.func44 rfl rfl rfl rfl (Nat.le_of_ble_eq_true rfl) ?_
    simp -dsimp [hPc, hPcs, e0, e1, e2, e3, e4, e5, nes]
    refine callM_ hok (desk_arg hP2 (fun j hj => by simp [far hj])) rfl ?_
    simp -dsimp [hPc, hPcs, e0, e1, e2, e3, e4, e5, nes]
    refine callS_ (hcopy _ _ (hP2.keep (Nat.le_refl _) (by omega) (fun j _ hj => by simp [far hj]))) ?_
    rintro t m1 n1 ⟨hn1, hout, st, rfl, hst⟩
    have k0 := hout n (by omega)
    have k1 := hout (n + 1) (by omega)
    have k2 := hout (n + 1 + 1) (by omega)
    simp -dsimp [e0, e1, e2, e3, e4, e5, nes] at k0 k1 k2
    have f0 := far (show n < n1 by omega)
    have f1 := far (show n + 1 < n1 by omega)
    have f2 := far (show n + 1 + 1 < n1 by omega)
    have z1 : ¬ n1 = n := by omega
    have z2 : ¬ n1 = n + 1 := by omega
    have z3 : ¬ n1 = n + 1 + 1 := by omega
    rcases hst with ⟨rfl, hs0⟩ | ⟨id, ex, rfl, hi0, hi1, him⟩
    · exact absurd hs0 hne
    · have g1 := far hi1
      have hlast : d.past.length - 1 < d.past.length := by omega
      have hget := plT_get (ex := ex) hlast
      have hgl : (d.past.length - 1) * 2 + 2 ≤ (plT d.past ++ ex).length := by simp; omega
      have hgl2 : (d.past.length - 1) * 2 + 2 ≤ d.past.length * 2 + ex.length := by omega
      have l1 : ((d.past.length : Int) - 1).toNat = d.past.length - 1 := by omega
      have l3 : (0 : Int) ≤ (d.past.length : Int) - 1 := by omega
      have l4 : (d.past.length : Int) - 1 < d.past.length := by omega
      have l5 : (d.past.length : Int) - 1 ≤ d.past.length := by omega
      have l6 : d.past.length - 1 ≤ d.past.length := by omega
      have lq : d.past.getLast?.getD d.now = d.past[d.past.length - 1] := by rw [List.getLast?_eq_getElem?, List.getElem?_eq_getElem hlast]; rfl
      have y0 : ¬ id = n := by omega
      have y1 : ¬ id = n + 1 := by omega
      have y2 : ¬ id = n + 1 + 1 := by omega
      have tkd : plT d.past ++ ex = plT d.past.dropLast ++ (plT (d.past.drop (d.past.length - 1)) ++ ex) := by
        rw [List.dropLast_eq_take, ← List.append_assoc, ← plT_append, List.take_append_drop]
      rw [lq]
      generalize d.past[d.past.length - 1] = q at *
      simp -dsimp [k0, k1, k2, f0, f1, f2, z1, z2, z3, hPc, hPcs, hne, hpos, hpos', p1, p2, g1, him, w1, l1, l3, l4, l5, l6, y0, y1, y2, hget, hgl, hgl2, e0, e1, e2, e3, e4, e5, nes]
      have ho : ∀ j, j < n → m1 j = m j := fun j j1 => by have hj := hout j (by omega); simp [far j1] at hj; exact hj
      refine ⟨by omega, fun j j1 => ?_, .inr ⟨id, _, by rw [List.length_dropLast], by omega, by omega, by simp [y2, show ¬ id = n1 by omega, him]; exact tkd⟩⟩
      simp [show ¬ j = n + 1 + 1 by omega, show ¬ j = n1 by omega, ho j j1]
  have hmade := l15Made_fn d.now a hnow ha
  obtain ⟨mf, ml, ms⟩ := made_fine d.now a hnow
  have hpo := placeOkS_fn (made d.now a) mf
  have hpt := placeTextS_fn (made d.now a) mf
  have hpn := placeTextS_fn d.now (place_fine hnow).1
  have hD : deskDo d a = if (placeOk (made d.now a) && !decide (placeTx (made d.now a) = placeTx d.now)) = true then (⟨made d.now a, d.past ++ [d.now]⟩, true) else (d, false) := by
    unfold deskDo
    rw [if_pos hk, if_neg hb]
    have e : keep8 (d.past ++ [d.now]) = d.past ++ [d.now] := by unfold keep8; rw [if_neg (by simp; omega)]
    rw [e]; rfl
  unfold DoT
  rw [hD]
  have hb' : (decide (a = ⟨4, 0, []⟩) = true ∧ d.past ≠ []) → False := hb
  have hba : isBack a = true → placeOk (made d.now a) = false ∧ d.past = [] := fun h => ⟨by rw [made_back h, zero_no], Classical.byContradiction fun h2 => hb' ⟨h, h2⟩⟩
  clear hb hb' hD
  generalize made d.now a = X at *
  generalize placeTx X = tX at *
  generalize placeTx d.now = tN at *
  have hkX := ft (placeOk X)
  generalize placeOk X = okX at *
  obtain ⟨kind, num, words⟩ := a
  have htx : tX = tN ∨ ¬ tX = tN := Classical.em _
  obtain ⟨Xp, Xs⟩ := X
  have fullb : (d.past.length + 1) * 32 ≤ 140737488355328 := by omega
  by_cases hq : kind = 4 ∧ num = 0 ∧ words = []
  · obtain ⟨rfl, rfl, rfl⟩ := hq
    obtain ⟨hokX, he⟩ := hba rfl
    subst hokX
    have hP2 := hP
    have he0 : d.past.length = 0 := by rw [he]; rfl
    rcases hP with ⟨rfl, hp0⟩ | ⟨pid, pex, rfl, hq0, hq1, hqm⟩
    · refine FnS_of (rs := [.cell 4 33, .tmp 5]) true Tryz.func44 rfl rfl rfl rfl (Nat.le_of_ble_eq_true rfl) ?_
      simp -dsimp [hPc, hPcs, e0, e1, e2, e3, e4, e5, nes]
      refine callM_ hok (desk_arg hP2 (fun j hj => by simp [far hj])) rfl ?_
      simp -dsimp [hPc, hPcs, e0, e1, e2, e3, e4, e5, nes]
      refine callS_ (hcopy _ _ (hP2.keep (Nat.le_refl _) (by omega) (fun j _ hj => by simp [far hj]))) ?_
      rintro t m1 n1 ⟨hn1, hout, st, rfl, hst⟩
      have k0 := hout n (by omega)
      have k1 := hout (n + 1) (by omega)
      have k2 := hout (n + 1 + 1) (by omega)
      simp -dsimp [e0, e1, e2, e3, e4, e5, nes] at k0 k1 k2
      have f0 := far (show n < n1 by omega)
      have f1 := far (show n + 1 < n1 by omega)
      have f2 := far (show n + 1 + 1 < n1 by omega)
      have z1 : ¬ n1 = n := by omega
      have z2 : ¬ n1 = n + 1 := by omega
      have z3 : ¬ n1 = n + 1 + 1 := by omega
      have hc := hst.cell
      have hcs := hst.cells
      simp -dsimp [k0, k1, k2, f0, f1, f2, z1, z2, z3, he, he0, hPc, hPcs, hc, hcs, e0, e1, e2, e3, e4, e5, nes]
      refine call_ hmade (by simp -dsimp) ?_
      simp -dsimp [k0, k1, k2, f0, f1, f2, z1, z2, z3, he, he0, hPc, hPcs, hc, hcs, e0, e1, e2, e3, e4, e5, nes]
      refine twp_draw [0, 1, 2, 3, 4, 6, 7, 5, 8, 9, 10] [n, n1 + 1 + 1] (List.replicate 11 [0, 1]) (List.replicate 11 [0, 1]) (by kernel_rfl) (by kernel_rfl) (by kernel_rfl) (by kernel_rfl) ?_
      simp -dsimp [k0, k1, k2, f0, f1, f2, z1, z2, z3, he, he0, hPc, hPcs, hc, hcs, e0, e1, e2, e3, e4, e5, nes]
      refine call_ hpo (by simp -dsimp) ?_
      simp -dsimp [k0, k1, k2, f0, f1, f2, z1, z2, z3, he, he0, hPc, hPcs, hc, hcs, e0, e1, e2, e3, e4, e5, nes]
      have ho : ∀ j, j < n → m1 j = m j := fun j j1 => by have hj := hout j (by omega); simp [far j1] at hj; exact hj
      refine ⟨by omega, fun j j1 => ?_, PastT.keep (lo := n + 1 + 1 + 1) (hi := n1) (he ▸ hst) (by omega) (by omega) (fun j j1 j2 => by simp [show ¬ j = n + 1 + 1 by omega, show ¬ j = n1 by omega, show ¬ j = n1 + 1 + 1 by omega])⟩
      simp [show ¬ j = n + 1 + 1 by omega, show ¬ j = n1 by omega, show ¬ j = n1 + 1 + 1 by omega, ho j j1]
    · refine FnS_of (rs := [.cell 4 33, .tmp 5]) true Tryz.func44 rfl rfl rfl rfl (Nat.le_of_ble_eq_true rfl) ?_
      simp -dsimp [hPc, hPcs, e0, e1, e2, e3, e4, e5, nes]
      refine callM_ hok (desk_arg hP2 (fun j hj => by simp [far hj])) rfl ?_
      simp -dsimp [hPc, hPcs, e0, e1, e2, e3, e4, e5, nes]
      refine callS_ (hcopy _ _ (hP2.keep (Nat.le_refl _) (by omega) (fun j _ hj => by simp [far hj]))) ?_
      rintro t m1 n1 ⟨hn1, hout, st, rfl, hst⟩
      have k0 := hout n (by omega)
      have k1 := hout (n + 1) (by omega)
      have k2 := hout (n + 1 + 1) (by omega)
      simp -dsimp [e0, e1, e2, e3, e4, e5, nes] at k0 k1 k2
      have f0 := far (show n < n1 by omega)
      have f1 := far (show n + 1 < n1 by omega)
      have f2 := far (show n + 1 + 1 < n1 by omega)
      have z1 : ¬ n1 = n := by omega
      have z2 : ¬ n1 = n + 1 := by omega
      have z3 : ¬ n1 = n + 1 + 1 := by omega
      have hc := hst.cell
      have hcs := hst.cells
      simp -dsimp [k0, k1, k2, f0, f1, f2, z1, z2, z3, he, he0, hPc, hPcs, hc, hcs, e0, e1, e2, e3, e4, e5, nes]
      refine call_ hmade (by simp -dsimp) ?_
      simp -dsimp [k0, k1, k2, f0, f1, f2, z1, z2, z3, he, he0, hPc, hPcs, hc, hcs, e0, e1, e2, e3, e4, e5, nes]
      refine twp_draw [0, 1, 2, 3, 4, 6, 7, 5, 8, 9, 10] [n, n1 + 1 + 1] (List.replicate 11 [0, 1]) (List.replicate 11 [0, 1]) (by kernel_rfl) (by kernel_rfl) (by kernel_rfl) (by kernel_rfl) ?_
      simp -dsimp [k0, k1, k2, f0, f1, f2, z1, z2, z3, he, he0, hPc, hPcs, hc, hcs, e0, e1, e2, e3, e4, e5, nes]
      refine call_ hpo (by simp -dsimp) ?_
      simp -dsimp [k0, k1, k2, f0, f1, f2, z1, z2, z3, he, he0, hPc, hPcs, hc, hcs, e0, e1, e2, e3, e4, e5, nes]
      have ho : ∀ j, j < n → m1 j = m j := fun j j1 => by have hj := hout j (by omega); simp [far j1] at hj; exact hj
      refine ⟨by omega, fun j j1 => ?_, PastT.keep (lo := n + 1 + 1 + 1) (hi := n1) (he ▸ hst) (by omega) (by omega) (fun j j1 j2 => by simp [show ¬ j = n + 1 + 1 by omega, show ¬ j = n1 by omega, show ¬ j = n1 + 1 + 1 by omega])⟩
      simp [show ¬ j = n + 1 + 1 by omega, show ¬ j = n1 by omega, show ¬ j = n1 + 1 + 1 by omega, ho j j1]
  · have hbb : (decide (kind = 4) && (decide (num = 0) && decide (words = []))) = false := by
      rw [Bool.eq_false_iff]; intro h; simp at h; exact hq h
    refine FnS_of (rs := [.cell 4 33, .tmp 5]) true Tryz.func44 rfl rfl rfl rfl (Nat.le_of_ble_eq_true rfl) ?_
    simp -dsimp [hPc, hPcs, e0, e1, e2, e3, e4, e5, nes]
    refine callM_ hok (desk_arg hP (fun j hj => by simp [far hj])) rfl ?_
    simp -dsimp [hPc, hPcs, e0, e1, e2, e3, e4, e5, nes]
    refine callS_ (hcopy _ _ (hP.keep (Nat.le_refl _) (by omega) (fun j _ hj => by simp [far hj]))) ?_
    rintro t m1 n1 ⟨hn1, hout, st, rfl, hst⟩
    have k0 := hout n (by omega)
    have k1 := hout (n + 1) (by omega)
    have k2 := hout (n + 1 + 1) (by omega)
    simp -dsimp [e0, e1, e2, e3, e4, e5, nes] at k0 k1 k2
    have f0 := far (show n < n1 by omega)
    have f1 := far (show n + 1 < n1 by omega)
    have f2 := far (show n + 1 + 1 < n1 by omega)
    have z1 : ¬ n1 = n := by omega
    have z2 : ¬ n1 = n + 1 := by omega
    have z3 : ¬ n1 = n + 1 + 1 := by omega
    have hc := hst.cell
    have hcs := hst.cells
    simp -dsimp [k0, k1, k2, f0, f1, f2, z1, z2, z3, hbb, hPc, hPcs, hc, hcs, e0, e1, e2, e3, e4, e5, nes]
    refine call_ hmade (by simp -dsimp) ?_
    simp -dsimp [k0, k1, k2, f0, f1, f2, z1, z2, z3, hPc, hPcs, hc, hcs, e0, e1, e2, e3, e4, e5, nes]
    refine twp_draw [0, 1, 2, 3, 4, 6, 7, 5, 8, 9, 10] [n, n1 + 1 + 1] (List.replicate 11 [0, 1]) (List.replicate 11 [0, 1]) (by kernel_rfl) (by kernel_rfl) (by kernel_rfl) (by kernel_rfl) ?_
    simp -dsimp [k0, k1, k2, f0, f1, f2, z1, z2, z3, hPc, hPcs, hc, hcs, e0, e1, e2, e3, e4, e5, nes]
    refine call_ hpo (by simp -dsimp) ?_
    rcases hkX with rfl | rfl
    · simp -dsimp [k0, k1, k2, f0, f1, f2, z1, z2, z3, hPc, hPcs, hc, hcs, e0, e1, e2, e3, e4, e5, nes]
      have ho : ∀ j, j < n → m1 j = m j := fun j j1 => by have hj := hout j (by omega); simp [far j1] at hj; exact hj
      refine ⟨by omega, fun j j1 => ?_, PastT.keep (lo := n + 1 + 1 + 1) (hi := n1) hst (by omega) (by omega) (fun j j1 j2 => by simp [show ¬ j = n + 1 + 1 by omega, show ¬ j = n1 by omega, show ¬ j = n1 + 1 + 1 by omega])⟩
      simp [show ¬ j = n + 1 + 1 by omega, show ¬ j = n1 by omega, show ¬ j = n1 + 1 + 1 by omega, ho j j1]
    simp -dsimp [k0, k1, k2, f0, f1, f2, z1, z2, z3, hPc, hPcs, hc, hcs, e0, e1, e2, e3, e4, e5, nes]
    refine call_ hpt (by simp -dsimp) ?_
    simp -dsimp [k0, k1, k2, f0, f1, f2, z1, z2, z3, hPc, hPcs, hc, hcs, e0, e1, e2, e3, e4, e5, nes]
    refine call_ hpn (by simp -dsimp) ?_
    rcases htx with rfl | htx
    · simp -dsimp [k0, k1, k2, f0, f1, f2, z1, z2, z3, hPc, hPcs, hc, hcs, e0, e1, e2, e3, e4, e5, nes]
      have ho : ∀ j, j < n → m1 j = m j := fun j j1 => by have hj := hout j (by omega); simp [far j1] at hj; exact hj
      refine ⟨by omega, fun j j1 => ?_, PastT.keep (lo := n + 1 + 1 + 1) (hi := n1) hst (by omega) (by omega) (fun j j1 j2 => by simp [show ¬ j = n + 1 + 1 by omega, show ¬ j = n1 by omega, show ¬ j = n1 + 1 + 1 by omega])⟩
      simp [show ¬ j = n + 1 + 1 by omega, show ¬ j = n1 by omega, show ¬ j = n1 + 1 + 1 by omega, ho j j1]
    rcases hst with ⟨rfl, hs0⟩ | ⟨id, ex, rfl, hi0, hi1, him⟩
    · simp -dsimp [k0, k1, k2, f0, f1, f2, z1, z2, z3, htx, hPc, hPcs, hc, hcs, e0, e1, e2, e3, e4, e5, nes]
      have ho : ∀ j, j < n → m1 j = m j := fun j j1 => by have hj := hout j (by omega); simp [far j1] at hj; exact hj
      refine ⟨by omega, fun j j1 => ?_, .inr ⟨n1 + 1 + 1 + 1 + 1 + 1, [], by simp [hs0], by omega, by omega, ?_⟩⟩
      · simp [show ¬ j = n + 1 + 1 by omega, show ¬ j = n1 by omega, far (show j < n1 by omega), ho j j1]
      · simp [hs0, plT, storyV, nes, f2, show ¬ n1 + 1 + 1 + 1 + 1 + 1 = n + 1 + 1 by omega, show ¬ n1 + 1 + 1 + 1 = n by omega]
    · have g1 := far hi1
      have y0 : ¬ id = n := by omega
      have y1 : ¬ id = n + 1 := by omega
      have y2 : ¬ id = n + 1 + 1 := by omega
      have e8 : ¬ (8 : Int) < (d.past.length : Int) + 1 := by omega
      have e8' : ¬ 8 < d.past.length + 1 := by omega
      simp -dsimp [k0, k1, k2, f0, f1, f2, z1, z2, z3, htx, g1, him, y0, y1, y2, Ne.symm y0, Ne.symm y1, Ne.symm y2, e8, e8', fullb, hPc, hPcs, hc, hcs, e0, e1, e2, e3, e4, e5, nes]
      have ho : ∀ j, j < n → m1 j = m j := fun j j1 => by have hj := hout j (by omega); simp [far j1] at hj; exact hj
      refine ⟨by omega, fun j j1 => ?_, .inr ⟨n1 + 1 + 1 + 1 + 1 + 1, [], by simp, by omega, by omega, ?_⟩⟩
      · simp [show ¬ j = n + 1 + 1 by omega, show ¬ j = n1 by omega, show ¬ j = id by omega, far (show j < n1 by omega), ho j j1]
      · rw [plT_append]; simp [plT, storyV, nes, f2, show ¬ n1 + 1 + 1 + 1 + 1 + 1 = n + 1 + 1 by omega, show ¬ n1 + 1 + 1 + 1 = n by omega]
end TL

/- Drawn desks. -/
set_option linter.unusedSimpArgs false
set_option linter.unusedVariables false
set_option maxRecDepth 100000
set_option maxHeartbeats 4000000
set_option pp.maxSteps 1500
namespace TL
open Go Go.Proofs
attribute [local simp] marksV storyV codeV Claim.v Place.v Deed.v Desk.v
/-- A contract's result, read in another way. -/
theorem FnS.up {f : Nat} {m : Mem} {n : Nat} {args : List T} {post post' : T → Mem → Nat → Prop} (h : FnS Tryz.prog f m n args post)
    (hp : ∀ t m' n', post t m' n' → ∃ t', (∀ φ Z w v, RepT φ Z w t v → RepT φ Z w t' v) ∧ post' t' m' n') : FnS Tryz.prog f m n args post' := by
  refine ⟨h.1, fun φ Z w us hm hr => (h.2 φ Z w us hm hr).mono fun e w' hh => ?_⟩
  obtain ⟨v, φ', Z', m', n', t, rfl, h1, h2, h3, h4⟩ := hh
  obtain ⟨t', h5, h6⟩ := hp _ _ _ h4
  exact ⟨v, φ', Z', m', n', t', rfl, h1, h5 _ _ _ _ h2, h3, h6⟩
theorem nil_up {φ : Phi} {Z : Zs} {w : World} {a b c : T} {v : Value} (h : RepT φ Z w (.tup [.agg [a, .nil, b], c]) v) : RepT φ Z w (.tup [.agg [a, .v (.sl []), b], c]) v := by
  cases h with
  | tup h => cases h with
    | cons h1 h2 => cases h1 with
      | agg h3 => cases h3 with
        | cons h4 h5 => cases h5 with
          | cons h6 h7 => cases h6; exact .tup (.cons (.agg (.cons h4 (.cons (.v (.nil none 0)) h7))) h2)
theorem deskNewS_up (p : Place) (hp : p.small) (hf : p.fit) (m : Mem) (n : Nat) : FnS Tryz.prog 43 m n [.v p.v] (fun t m' n' => n ≤ n' ∧ (∀ j, j < n → m' j = m j) ∧
    t = .tup [.agg [.v (.int .i64 (deskNew p).now.people), .v (storyV (deskNew p).now.story), .nil], .v (.bool (placeOk p))]) := by
  refine (deskNewS_mut p hp hf m n).up ?_
  rintro t m' n' ⟨h1, h2, ⟨h3, rfl⟩ | ⟨h3, rfl⟩⟩
  · have e : deskNew p = ⟨p, []⟩ := if_pos h3
    rw [e, h3]
    exact ⟨_, fun _ _ _ _ h => h, h1, h2, rfl⟩
  · have e : deskNew p = noDeskV := if_neg (by simp [h3])
    rw [e, h3]
    exact ⟨_, fun _ _ _ _ h => nil_up h, h1, h2, rfl⟩
theorem do_len (d : Desk) (a : Deed) : (deskDo d a).1.past.length ≤ d.past.length + 1 := by
  rcases deskDo_ways d a with ⟨h1, e⟩ | ⟨_, hb, hp, e⟩ | ⟨h1, _, hg, e⟩ | ⟨_, _, e⟩
  · rw [e]; simp [noDeskV]
  · rw [e]; simp; omega
  · rw [e]; simp only [keep8]; split <;> simp <;> omega
  · rw [e]; simp
def DoAny (d : Desk) (m : Mem) (n : Nat) (t : T) (m' : Mem) (n' : Nat) : Prop := n ≤ n' ∧ (∀ j, j < n → m' j = m j) ∧ ∃ (y0 y1 y2 : T) (b : Bool), t = .tup [.agg [y0, y1, y2], .v (.bool b)] ∧ y0.cell = true ∧ y1.cell = true ∧ y2.cell = true ∧
  (b = true → ∃ y : Desk, deskOk y = true ∧ y0 = .v (.int .i64 y.now.people) ∧ y1 = .v (storyV y.now.story) ∧ PastT m' n n' y2 y.past ∧ y.past.length ≤ d.past.length + 1)
theorem deskDoS_any (d : Desk) (a : Deed) (P : T) (hd : deskOk d = true ∨ (d = noDeskV ∧ P = .nil)) (h7 : d.past.length ≤ 7) (ha : a.words.length ≤ 1000000000) (m : Mem) (n : Nat) (hP : PastT m 0 n P d.past) :
    FnS Tryz.prog 44 m n [.agg [.v (.int .i64 d.now.people), .v (storyV d.now.story), P], .v a.v] (DoAny d m n) := by
  rcases hd with hk | ⟨rfl, rfl⟩
  · refine (deskDoS_mut d a hk h7 ha P m n hP).weak ?_
    rintro t m' n' ⟨h1, h2, st, rfl, h3⟩
    exact ⟨h1, h2, _, _, _, _, rfl, rfl, rfl, h3.cell, fun _ => ⟨_, deskDo_ok d a hk, rfl, rfl, h3, do_len d a⟩⟩
  · refine (deskDoS_none a m n).weak ?_
    rintro t m' n' ⟨h1, h2, rfl⟩
    exact ⟨h1, h2, _, _, _, _, rfl, rfl, rfl, rfl, fun h => by cases h⟩
def SomeDesk (x : V) : Prop := ∃ d : Desk, d.small ∧ d.fit ∧ d.now.story.length ≤ 1000 ∧ x = d.v
structure DkEnv (m0 : Mem) (n0 rid : Nat) (bs : List UInt8) (k : Int) (s : S) (id : Nat) (d : Desk) (P : T) (p : Nat) : Prop where
  t0 : s.tm 0 = .ptr rid 0
  t1 : s.tm 1 = .v (.int .i64 k)
  t4 : s.tm 4 = .ptr n0 0
  t5 : s.tm 5 = .ptr id 0
  mu : s.mu = true
  i0 : n0 < id
  i1 : id < s.n
  mz : s.m n0 = some (.box 33 3 [.v (.int .i64 0), .nil, .nil])
  mid : s.m id = some (.box 33 3 [.v (.int .i64 d.now.people), .v (storyV d.now.story), P])
  rd : s.m rid = some (rdB bs p)
  out : ∀ j, j < n0 → j ≠ rid → s.m j = m0 j
  ok : deskOk d = true ∨ (d = noDeskV ∧ P = .nil)
  past : PastT s.m (id + 1) s.n P d.past
def LDk (m0 : Mem) (n0 rid : Nat) (bs : List UInt8) (k : Int) (p : Nat) (e : Nat) (s : S) : Prop := ∃ (c id p' : Nat) (d : Desk) (P : T), DkEnv m0 n0 rid bs k s id d P p' ∧ s.tm 7 = .v (.int .i64 c) ∧ c ≤ 4 ∧ d.past.length + c ≤ 4 ∧ p ≤ p' ∧ p' + 101 * c ≤ p + 700 ∧ (e = 1 → c = 0)
def LD6 (m0 : Mem) (n0 rid : Nat) (bs : List UInt8) (k : Int) (p c : Nat) (s : S) : Prop := ∃ (id id8 p' : Nat) (d : Desk) (P y0 y1 y2 : T) (b : Bool), DkEnv m0 n0 rid bs k s id d P p' ∧ s.tm 7 = .v (.int .i64 c) ∧ s.tm 8 = .ptr id8 0 ∧ s.tm 9 = .v (.bool b) ∧ id < id8 ∧ id8 < s.n ∧
  s.m id8 = some (.box 33 3 [y0, y1, y2]) ∧ y0.cell = true ∧ y1.cell = true ∧ y2.cell = true ∧ d.past.length + c ≤ 4 ∧ p ≤ p' ∧ p' + 101 * (c - 1) ≤ p + 700 ∧
  (b = true → ∃ y : Desk, deskOk y = true ∧ y0 = .v (.int .i64 y.now.people) ∧ y1 = .v (storyV y.now.story) ∧ PastT s.m (id + 1) s.n y2 y.past ∧ y.past.length ≤ d.past.length + 1)
theorem noDesk_deskNew {q : Place} : deskOk (deskNew q) = true ∨ (deskNew q = noDeskV ∧ T.nil = .nil) := by
  unfold deskNew; split
  · rename_i h; exact .inl (desk_new h)
  · exact .inr ⟨rfl, rfl⟩
theorem deskNew_past (q : Place) : (deskNew q).past = [] := by unfold deskNew; split <;> rfl
theorem desk_bor {mm : Mem} {x0 : Int} {st : List Claim} {P : T} {l : List Place} (hb : bor true mm 3 P = some (.sl (l.map Place.v))) : bor true mm 4 (.agg [.v (.int .i64 x0), .v (storyV st), P]) = some (Desk.v ⟨⟨x0, st⟩, l⟩) := by simp [hb]
theorem plT_bor_nil (k : Bool) (m : Mem) (d : Nat) (l : List Place) : mapO (bor k m d) (plT l ++ [.v (.int .i64 0), .nil]) = some ((l ++ [(⟨0, []⟩ : Place)]).flatMap fun p => p.v.cells) := by
  induction l with
  | nil => cases d <;> rfl
  | cons p l ih => simp [plT, mapO, ih, V.cells]
theorem row_plus {mm : Mem} {id : Nat} {l : List Place} (h : mm id = some (.box 30 2 (plT l ++ [.v (.int .i64 0), .nil]))) : bor true mm 3 (.sv id 0 (l.length + 1)) = some (.sl ((l ++ [(⟨0, []⟩ : Place)]).map Place.v)) := by
  have c1 : 0 + (l.length + 1) * 2 ≤ (plT l ++ [T.v (.int .i64 0), .nil]).length := by simp; omega
  have c2 : ((plT l ++ [T.v (.int .i64 0), .nil]).drop 0).take ((l.length + 1) * 2) = plT l ++ [.v (.int .i64 0), .nil] := by rw [List.drop_zero, List.take_of_length_le (by simp; omega)]
  show (match mm id with | some (.box _ z cs) => tst (0 + (l.length + 1) * z ≤ cs.length) (obind (mapO (TL.bor true mm 2) ((cs.drop 0).take ((l.length + 1) * z))) fun xs => tst (∀ x ∈ xs, x.cell = true) (some (V.sl (chunk z (l.length + 1) xs)))) | _ => none) = _
  rw [h]
  show tst (0 + (l.length + 1) * 2 ≤ (plT l ++ [T.v (.int .i64 0), .nil]).length) (obind (mapO (TL.bor true mm 2) (((plT l ++ [T.v (.int .i64 0), .nil]).drop 0).take ((l.length + 1) * 2))) fun xs => tst (∀ x ∈ xs, x.cell = true) (some (V.sl (chunk 2 (l.length + 1) xs)))) = _
  have e := plV_chunk (l ++ [(⟨0, []⟩ : Place)])
  rw [List.length_append, List.length_singleton] at e
  rw [tst_pos c1, c2, plT_bor_nil, obind_some, tst_pos (plV_cell _), e]
theorem desk_z (bs : List UInt8) (p : Nat) (hp : p < 500000000) (k : Int) (hk0 : 0 ≤ k) (hk : k < 100000) (m : Mem) (n rid : Nat) (hr : rid < n) (hm : m rid = some (rdB bs p)) :
    FnS Tryz.prog 24 m n [.ptr rid 0, .v (.int .i64 k)] (Draws SomeDesk 1000 m n rid bs p) := by
  refine Draws_of hr ⟨_, Tryz.func24, rfl, rfl⟩ fun hfr => ?_
  refine FnS_of (rs := [.cell 4 33]) true Tryz.func24 rfl rfl rfl rfl (Nat.le_of_ble_eq_true rfl) ?_
  have f1 := far hr
  simp -dsimp
  refine callS_ (place_z bs p (by omega) 0 (by omega) (by omega) _ _ rid (by omega) (by simp [hm, f1])) ?_
  rintro t m1 n1 ⟨hn1, ⟨x, ⟨q, hq1, hq2, hq3, rfl⟩, rfl⟩, p1, hp1, hp2, rfl⟩
  have small : q.small := ⟨by omega, fun c hc => by have := hq2 c hc; unfold Claim.small; omega⟩
  have g1 := far (show rid < n1 by omega)
  have g2 := far (show n < n1 by omega)
  have g3 : ¬ n = rid := by omega
  have hnok := noDesk_deskNew (q := q)
  have hnp := deskNew_past q
  simp -dsimp [g1, g2, g3]
  refine callS_ (deskNewS_up q small hq3 _ _) ?_
  rintro t m2 n2 ⟨hn2, hout2, rfl⟩
  have k0 := hout2 rid (by omega)
  have k1 := hout2 n (by omega)
  have hox : ∀ j, j < n → j ≠ rid → m2 j = m j := fun j j1 j2 => by rw [hout2 j (by omega)]; simp [far j1, j2]
  simp -dsimp [g3, Ne.symm g3, f1] at k0 k1
  generalize deskNew q = D at *
  generalize placeOk q = okq at *
  clear hout2
  obtain ⟨⟨x1, x2⟩, x3⟩ := D
  simp only at hnp
  have h1 := far (show rid < n2 by omega)
  have h2 := far (show n < n2 by omega)
  simp -dsimp [g1, g2, g3, nes]
  refine callS_ (pick_at bs p1 (by omega) _ _ _ rid (by simp [h1, k0])) ?_
  rintro t m3 n3 ⟨hn3, ⟨r, rfl, hr0, hr1⟩, rfl⟩
  have hr1 := hr1 (by decide)
  obtain ⟨r, rfl⟩ := Int.eq_ofNat_of_zero_le hr0
  have d0 : ¬ rid = n2 := by omega
  have d1 : ¬ n2 = rid := by omega
  have d2 : ¬ n2 = n := by omega
  have d3 : ¬ n = n2 := by omega
  simp -dsimp
  refine twp_loopC (LDk m n rid bs k p 0) (fun s => natOf (s.tm 7)) (LDk m n rid bs k p 1) ?_ ?_ ?_
  · refine ⟨r, n2, p1 + 1, ⟨⟨x1, x2⟩, x3⟩, .nil, ⟨by simp -dsimp, by simp -dsimp, by simp -dsimp, by simp -dsimp, by simp -dsimp, by omega, (by simp -dsimp <;> omega), by simp -dsimp [k1, g3, d0, d1, d2, d3, Ne.symm g3], by simp -dsimp [d0, d1, d2, d3], by simp -dsimp, fun j j1 j2 => ?_, hnok, .inl ⟨rfl, hnp⟩⟩, by simp -dsimp, by omega, by simp [hnp]; omega, by omega, by omega, by simp⟩
    simp -dsimp [far (show j < n2 by omega), j2, hox j j1 j2]
  · rintro s ⟨c, id, p', d, P, e, t7, hc4, hpl, hp0, hpc, hend⟩
    obtain ⟨t0, t1, t4, t5, hmu, i0, i1, mz, mid, rd, out, hok, past⟩ := e
    by_cases hc : 0 < c
    case neg =>
      have hc0 : c = 0 := by omega
      simp -dsimp [t7, hc, hc0]
      exact ⟨c, id, p', d, P, ⟨by simp -dsimp [t0], by simp -dsimp [t1], by simp -dsimp [t4], by simp -dsimp [t5], by simp -dsimp [hmu], i0, by simp -dsimp [i1], by simp -dsimp [mz], by simp -dsimp [mid], by simp -dsimp [rd], fun j j1 j2 => by simp -dsimp [out j j1 j2], hok, past⟩, by simp -dsimp [t7], hc4, hpl, hp0, hpc, fun _ => hc0⟩
    have a0 : ¬ rid = id := by omega
    have a1 : ¬ id = rid := by omega
    have a2 : ¬ n = id := by omega
    have a3 : ¬ id = n := by omega
    have a4 : ¬ n = rid := by omega
    have a5 : ¬ rid = n := by omega
    have h1 := far i1
    have h2 := far (show rid < s.n by omega)
    have h3 := far (show n < s.n by omega)
    have wc : IntKind.wrap .i64 ((c : Int) - 1) = ((c - 1 : Nat) : Int) := by rw [w64 (by omega) (by omega)]; omega
    have hmu1 : c - 1 < c := by omega
    have hms : natOf (s.tm 7) = c := by rw [t7]; simp
    have hshort : d.now.story.length ≤ 1000 := by
      rcases hok with h | ⟨rfl, _⟩
      · have := (place_fine (deskOk_iff.1 h).2.1).2.2.2; omega
      · simp [noDeskV]
    simp -dsimp [t7, hc]
    refine twp_cutQ (LD6 m n rid bs k p c) ?_ ?_
    · refine twp_drawT (.run [0, 1, 2, 3] (.alt (.run [4] (.alt (.run [5, 6, 7, 8, 9, 10, 11] .done) (.run [9, 5, 6, 7, 8, 10, 11] .done))) (.run [9, 4, 5, 6, 7, 8, 10, 11] .done))) [id] (List.replicate 12 [0]) (List.replicate 12 [0]) (by kernel_rfl) (by kernel_rfl) (by kernel_rfl) (by kernel_rfl) ?_
      simp -dsimp [t0, t5, t7, mid, rd, h1, h2, h3, a0, a1, a2, a3, a4, a5, nes]
      refine ordT_both ?_ ?_
      · simp -dsimp [t0, t5, t7, mid, rd, h1, h2, h3, a0, a1, a2, a3, a4, a5, nes]
        refine callS_ (deed_zA bs p' (by omega) d.now hshort _ _ rid (by omega) (by simp [rd, h1, h2, h3])) ?_
        rintro t m3 n3 ⟨hn3, ⟨x, ⟨a, ha, rfl⟩, rfl⟩, p3, hp3, hp4, rfl⟩
        obtain ⟨w1, w2, w3⟩ := a
        have b1 := far (show id < n3 by omega)
        have b2 := far (show rid < n3 by omega)
        have b3 := far (show n < n3 by omega)
        have b4 := far (show s.n < n3 + 1 by omega)
        simp -dsimp [t0, t5, t7, mid, rd, h1, h2, h3, a0, a1, a2, a3, a4, a5, nes, b1, b2, b3, b4]
        refine ordT_both ?_ ?_
        · simp -dsimp [t0, t5, t7, mid, rd, h1, h2, h3, a0, a1, a2, a3, a4, a5, nes, b1, b2, b3, b4]
          refine callS_ (deskDoS_any d ⟨w1, w2, w3⟩ P hok (by omega) (by simp only at ha ⊢; omega) _ _ (past.keep (by omega) (by omega) (fun j j1 j2 => by simp [show ¬ j = rid by omega, far (show j < s.n by omega), far (show j < n3 by omega)]))) ?_
          rintro t m4 n4 ⟨hn4, hout4, y0, y1, y2, b, rfl, c0, c1, c2, hy⟩
          have kid := hout4 id (by omega)
          have krid := hout4 rid (by omega)
          have kn := hout4 n (by omega)
          have kout : ∀ j, j < n → j ≠ rid → m4 j = s.m j := fun j j1 j2 => by rw [hout4 j (by omega)]; simp [j2, far (show j < s.n by omega), far (show j < n3 by omega)]
          have kpast : ∀ j, id + 1 ≤ j → j < s.n → m4 j = s.m j := fun j j1 j2 => by rw [hout4 j (by omega)]; simp [show ¬ j = rid by omega, far (show j < s.n by omega), far (show j < n3 by omega)]
          have b5 := far (show id < n4 by omega)
          have b6 := far (show rid < n4 by omega)
          have b7 := far (show n < n4 by omega)
          have b8 := far (show n3 < n4 + 1 by omega)
          have b9 := far (show s.n < n4 + 1 by omega)
          simp -dsimp [t0, t5, t7, mid, rd, h1, h2, h3, a0, a1, a2, a3, a4, a5, nes, b1, b2, b3, b4] at kid krid kn
          simp -dsimp [t0, t5, t7, mid, rd, h1, h2, h3, a0, a1, a2, a3, a4, a5, nes, b1, b2, b3, b4, b5, b6, b7, b8, b9, kid, krid, kn, c0, c1, c2]
          refine st_out fun s' ht hm' hn' hu' => ?_
          have q0 := ht 0
          have q1 := ht 1
          have q4 := ht 4
          have q5 := ht 5
          have q7 := ht 7
          have q8 := ht 8
          have q9 := ht 9
          simp -dsimp [t0, t1, t4, t5, t7] at q0 q1 q4 q5 q7 q8 q9 hm' hn' hu'
          clear ht
          refine ⟨id, n4, p3, d, P, y0, y1, y2, b, ⟨q0, q1, q4, q5, by rw [hu', hmu], i0, by omega, by rw [hm']; simp [kn, mz, b7, a2, a4, h3, b3], by rw [hm']; simp [kid, mid, b5, a1, h1, b1], by rw [hm']; simp [krid, b6, a0, h2, b2], fun j j1 j2 => ?_, hok, ?_⟩, q7, q8, q9, by omega, by omega, by rw [hm']; simp, c0, c1, c2, hpl, by omega, by omega, fun hb => ?_⟩
          · rw [hm']; simp [far (show j < n4 by omega), far (show j < s.n by omega), far (show j < n3 by omega), kout j j1 j2, out j j1 j2]
          · exact past.keep (Nat.le_refl _) (by omega) (fun j j1 j2 => by rw [hm']; simp [far (show j < n4 by omega), far (show j < s.n by omega), far (show j < n3 by omega), kpast j j1 j2])
          · obtain ⟨y, v1, v2, v3, v4, v5⟩ := hy hb
            exact ⟨y, v1, v2, v3, v4.keep (by omega) (by omega) (fun j j1 j2 => by rw [hm']; simp [show ¬ j = n4 by omega]), v5⟩
        · simp -dsimp [t0, t5, t7, mid, rd, h1, h2, h3, a0, a1, a2, a3, a4, a5, nes, b1, b2, b3, b4]
          refine callS_ (deskDoS_any d ⟨w1, w2, w3⟩ P hok (by omega) (by simp only at ha ⊢; omega) _ _ (past.keep (by omega) (by omega) (fun j j1 j2 => by simp [show ¬ j = rid by omega, far (show j < s.n by omega), far (show j < n3 by omega)]))) ?_
          rintro t m4 n4 ⟨hn4, hout4, y0, y1, y2, b, rfl, c0, c1, c2, hy⟩
          have kid := hout4 id (by omega)
          have krid := hout4 rid (by omega)
          have kn := hout4 n (by omega)
          have kout : ∀ j, j < n → j ≠ rid → m4 j = s.m j := fun j j1 j2 => by rw [hout4 j (by omega)]; simp [j2, far (show j < s.n by omega), far (show j < n3 by omega)]
          have kpast : ∀ j, id + 1 ≤ j → j < s.n → m4 j = s.m j := fun j j1 j2 => by rw [hout4 j (by omega)]; simp [show ¬ j = rid by omega, far (show j < s.n by omega), far (show j < n3 by omega)]
          have kn3 := hout4 n3 (by omega)
          simp -dsimp [nes] at kn3
          have b5 := far (show id < n4 by omega)
          have b6 := far (show rid < n4 by omega)
          have b7 := far (show n < n4 by omega)
          have b8 := far (show n3 < n4 + 1 by omega)
          have b9 := far (show s.n < n4 + 1 by omega)
          simp -dsimp [t0, t5, t7, mid, rd, h1, h2, h3, a0, a1, a2, a3, a4, a5, nes, b1, b2, b3, b4] at kid krid kn
          simp -dsimp [t0, t5, t7, mid, rd, h1, h2, h3, a0, a1, a2, a3, a4, a5, nes, b1, b2, b3, b4, b5, b6, b7, b8, b9, kid, krid, kn, kn3, c0, c1, c2]
          refine st_out fun s' ht hm' hn' hu' => ?_
          have q0 := ht 0
          have q1 := ht 1
          have q4 := ht 4
          have q5 := ht 5
          have q7 := ht 7
          have q8 := ht 8
          have q9 := ht 9
          simp -dsimp [t0, t1, t4, t5, t7] at q0 q1 q4 q5 q7 q8 q9 hm' hn' hu'
          clear ht
          refine ⟨id, n3, p3, d, P, y0, y1, y2, b, ⟨q0, q1, q4, q5, by rw [hu', hmu], i0, by omega, by rw [hm']; simp [kn, mz, b7, a2, a4, h3, b3], by rw [hm']; simp [kid, mid, b5, a1, h1, b1], by rw [hm']; simp [krid, b6, a0, h2, b2], fun j j1 j2 => ?_, hok, ?_⟩, q7, q8, q9, by omega, by omega, by rw [hm']; simp, c0, c1, c2, hpl, by omega, by omega, fun hb => ?_⟩
          · rw [hm']; simp [far (show j < n4 by omega), far (show j < s.n by omega), far (show j < n3 by omega), kout j j1 j2, out j j1 j2]
          · exact past.keep (Nat.le_refl _) (by omega) (fun j j1 j2 => by rw [hm']; simp [far (show j < n4 by omega), far (show j < s.n by omega), far (show j < n3 by omega), kpast j j1 j2])
          · obtain ⟨y, v1, v2, v3, v4, v5⟩ := hy hb
            exact ⟨y, v1, v2, v3, v4.keep (by omega) (by omega) (fun j j1 j2 => by rw [hm']; simp [show ¬ j = n3 by omega]), v5⟩
      · simp -dsimp [t0, t5, t7, mid, rd, h1, h2, h3, a0, a1, a2, a3, a4, a5, nes]
        refine callS_ (deed_zA bs p' (by omega) d.now hshort _ _ rid (by omega) (by simp [rd, h1, h2, h3])) ?_
        rintro t m3 n3 ⟨hn3, ⟨x, ⟨a, ha, rfl⟩, rfl⟩, p3, hp3, hp4, rfl⟩
        obtain ⟨w1, w2, w3⟩ := a
        have b1 := far (show id < n3 by omega)
        have b2 := far (show rid < n3 by omega)
        have b3 := far (show n < n3 by omega)
        have b4 := far (show s.n < n3 + 1 by omega)
        simp -dsimp [t0, t5, t7, mid, rd, h1, h2, h3, a0, a1, a2, a3, a4, a5, nes, b1, b2, b3, b4]
        refine callS_ (deskDoS_any d ⟨w1, w2, w3⟩ P hok (by omega) (by simp only at ha ⊢; omega) _ _ (past.keep (by omega) (by omega) (fun j j1 j2 => by simp [show ¬ j = rid by omega, far (show j < s.n by omega), far (show j < n3 by omega)]))) ?_
        rintro t m4 n4 ⟨hn4, hout4, y0, y1, y2, b, rfl, c0, c1, c2, hy⟩
        have kid := hout4 id (by omega)
        have krid := hout4 rid (by omega)
        have kn := hout4 n (by omega)
        have kout : ∀ j, j < n → j ≠ rid → m4 j = s.m j := fun j j1 j2 => by rw [hout4 j (by omega)]; simp [j2, far (show j < s.n by omega), far (show j < n3 by omega)]
        have kpast : ∀ j, id + 1 ≤ j → j < s.n → m4 j = s.m j := fun j j1 j2 => by rw [hout4 j (by omega)]; simp [show ¬ j = rid by omega, far (show j < s.n by omega), far (show j < n3 by omega)]
        have ksn := hout4 s.n (by omega)
        simp -dsimp [nes, h2, b4, a0, Ne.symm] at ksn
        have b5 := far (show id < n4 by omega)
        have b6 := far (show rid < n4 by omega)
        have b7 := far (show n < n4 by omega)
        have b8 := far (show n3 < n4 + 1 by omega)
        have b9 := far (show s.n < n4 + 1 by omega)
        simp -dsimp [t0, t5, t7, mid, rd, h1, h2, h3, a0, a1, a2, a3, a4, a5, nes, b1, b2, b3, b4] at kid krid kn
        simp -dsimp [t0, t5, t7, mid, rd, h1, h2, h3, a0, a1, a2, a3, a4, a5, nes, b1, b2, b3, b4, b5, b6, b7, b8, b9, kid, krid, kn, ksn, c0, c1, c2]
        refine st_out fun s' ht hm' hn' hu' => ?_
        have q0 := ht 0
        have q1 := ht 1
        have q4 := ht 4
        have q5 := ht 5
        have q7 := ht 7
        have q8 := ht 8
        have q9 := ht 9
        simp -dsimp [t0, t1, t4, t5, t7] at q0 q1 q4 q5 q7 q8 q9 hm' hn' hu'
        clear ht
        refine ⟨id, s.n, p3, d, P, y0, y1, y2, b, ⟨q0, q1, q4, q5, by rw [hu', hmu], i0, by omega, by rw [hm']; simp [kn, mz, b7, a2, a4, h3, b3], by rw [hm']; simp [kid, mid, b5, a1, h1, b1], by rw [hm']; simp [krid, b6, a0, h2, b2], fun j j1 j2 => ?_, hok, ?_⟩, q7, q8, q9, by omega, by omega, by rw [hm']; simp, c0, c1, c2, hpl, by omega, by omega, fun hb => ?_⟩
        · rw [hm']; simp [far (show j < n4 by omega), far (show j < s.n by omega), far (show j < n3 by omega), kout j j1 j2, out j j1 j2]
        · exact past.keep (Nat.le_refl _) (by omega) (fun j j1 j2 => by rw [hm']; simp [far (show j < n4 by omega), far (show j < s.n by omega), far (show j < n3 by omega), kpast j j1 j2])
        · obtain ⟨y, v1, v2, v3, v4, v5⟩ := hy hb
          exact ⟨y, v1, v2, v3, v4.keep (by omega) (by omega) (fun j j1 j2 => by rw [hm']; simp [show ¬ j = s.n by omega]), v5⟩
    · rintro s2 ⟨id, id8, p', d, P, y0, y1, y2, b, e, t7, t8, t9, i8, i9, m8, c0, c1, c2, hpl, hp0, hpc, hy⟩
      obtain ⟨t0, t1, t4, t5, hmu, i0, i1, mz, mid, rd, out, hok, past⟩ := e
      have wc : IntKind.wrap .i64 ((c : Int) - 1) = ((c - 1 : Nat) : Int) := by rw [w64 (by omega) (by omega)]; omega
      have hmu1 : c - 1 < c := by omega
      have h1 := far i1
      have h8 := far i9
      have a1 : ¬ id = id8 := by omega
      have a2 : ¬ id8 = id := by omega
      have a3 : ¬ n = id := by omega
      have a4 : ¬ rid = id := by omega
      cases b with
      | false =>
        simp -dsimp [t9, t7, wc, hms, hmu1]
        exact ⟨c - 1, id, p', d, P, ⟨by simp -dsimp [t0], by simp -dsimp [t1], by simp -dsimp [t4], by simp -dsimp [t5], by simp -dsimp [hmu], i0, by simp -dsimp [i1], by simp -dsimp [mz], by simp -dsimp [mid], by simp -dsimp [rd], fun j j1 j2 => by simp -dsimp [out j j1 j2], hok, past⟩, by simp -dsimp, by omega, by omega, hp0, by omega, by simp⟩
      | true =>
        obtain ⟨y, v1, rfl, rfl, v4, v5⟩ := hy rfl
        simp -dsimp [t5, t8, t9, t7, mid, m8, h1, h8, a1, a2, c2, wc, hms, hmu1]
        exact ⟨c - 1, id, p', y, y2, ⟨by simp -dsimp [t0], by simp -dsimp [t1], by simp -dsimp [t4], by simp -dsimp [t5], by simp -dsimp [hmu], i0, (by simp -dsimp <;> omega), by simp -dsimp [mz, a3], by simp -dsimp, by simp -dsimp [rd, a4], fun j j1 j2 => by simp -dsimp [out j j1 j2, show ¬ j = id by omega], .inl v1, v4.keep (Nat.le_refl _) (by simp -dsimp <;> omega) (fun j j1 j2 => by simp -dsimp [show ¬ j = id by omega])⟩, by simp -dsimp, by omega, by omega, hp0, by omega, by simp⟩
  · rintro s ⟨c, id, p', d, P, e, t7, hc4, hpl, hp0, hpc, hend⟩
    obtain ⟨t0, t1, t4, t5, hmu, i0, i1, mz, mid, rd, out, hok, past⟩ := e
    have a0 : ¬ rid = id := by omega
    have a1 : ¬ id = rid := by omega
    have a2 : ¬ n = id := by omega
    have a3 : ¬ id = n := by omega
    have a4 : ¬ n = rid := by omega
    have a5 : ¬ rid = n := by omega
    have h1 := far i1
    have h2 := far (show rid < s.n by omega)
    have h3 := far (show n < s.n by omega)
    have hPc := past.cell
    simp -dsimp [t0, t1]
    refine callS_ (odd_at bs p' (by omega) k (by omega) _ _ rid (by simp [rd])) ?_
    rintro t m3 n3 ⟨hn3, ⟨b, rfl, _⟩, p2, hp1, hp2, rfl⟩
    have b1 := far (show id < n3 by omega)
    have b2 := far (show rid < n3 by omega)
    have b3 := far (show n < n3 by omega)
    have hsm : d.small ∧ d.fit ∧ d.now.story.length ≤ 1000 ∧ d.past.length ≤ 8 := by
      rcases hok with h | ⟨rfl, _⟩
      · have := (place_fine (deskOk_iff.1 h).2.1).2.2.2
        exact ⟨(desk_fine h).1, (desk_fine h).2.1, by omega, (desk_fine h).2.2.1⟩
      · exact ⟨⟨⟨by simp [noDeskV], by simp [noDeskV]⟩, by simp [noDeskV], by simp [noDeskV]⟩, ⟨⟨by simp [noDeskV, fit], by simp [noDeskV]⟩, by simp [noDeskV]⟩, by simp [noDeskV], by simp [noDeskV]⟩
    obtain ⟨s1, s2, s3, s4⟩ := hsm
    cases b with
    | false =>
      simp -dsimp [t4, t5, mid, mz, h1, h2, h3, a0, a1, a2, a3, a4, a5, b1, b2, b3, hPc]
      refine ⟨by omega, ⟨_, desk_bor (past.bor (fun j j1 j2 => by simp [show n ≤ j by omega, show ¬ j = n by omega, show ¬ j = rid by omega]) 2), d, s1, s2, s3, rfl⟩, fun j j1 j2 => ?_, p2, by omega, by omega, ?_⟩
      · simp [show ¬ j = n by omega, j2, out j j1 j2]
      · simp [show ¬ rid = n by omega]
    | true =>
      simp -dsimp [t0, t4, t5, mid, mz, h1, h2, h3, a0, a1, a2, a3, a4, a5, b1, b2, b3, hPc]
      refine callS_ (pick_at bs p2 (by omega) _ _ _ rid (by simp)) ?_
      rintro t m4 n4 ⟨hn4, ⟨r, rfl, hr0, hr1⟩, rfl⟩
      have g1 := far (show id < n4 by omega)
      have g2 := far (show rid < n4 by omega)
      have g3 := far (show n < n4 by omega)
      by_cases r0 : r = 0
      · simp -dsimp [r0, t0, t4, t5, mid, mz, h1, h2, h3, a0, a1, a2, a3, a4, a5, b1, b2, b3, g1, g2, g3, hPc]
        refine ⟨by omega, ⟨_, desk_bor (past.bor (fun j j1 j2 => by simp [show n ≤ j by omega, show ¬ j = n by omega, show ¬ j = id by omega, show ¬ j = rid by omega]) 2), ⟨⟨0, d.now.story⟩, d.past⟩, ⟨s1.1, s1.2⟩, ⟨⟨by simp [fit], s2.1.2⟩, s2.2⟩, s3, rfl⟩, fun j j1 j2 => ?_, p2 + 1, by omega, by omega, ?_⟩
        · simp [show ¬ j = n by omega, show ¬ j = id by omega, j2, out j j1 j2]
        · simp [show ¬ rid = n by omega, show ¬ rid = id by omega]
      · by_cases r1 : r = 1
        · rcases past with ⟨rfl, hs0⟩ | ⟨pid, ex, rfl, hi0, hi1, him⟩
          · simp -dsimp [r0, r1, t0, t4, t5, mid, mz, h1, h2, h3, a0, a1, a2, a3, a4, a5, b1, b2, b3, g1, g2, g3, hPc, hmu, nes]
            refine ⟨by omega, ⟨_, desk_bor (row_plus (l := []) (by simp [show n ≤ n4 + 1 by omega, show ¬ n4 + 1 = n by omega, show ¬ n4 + 1 = id by omega, nes, plT])), ⟨d.now, [⟨0, []⟩]⟩, ⟨s1.1, by simp, by simp [Place.small]⟩, ⟨s2.1, by simp [Place.fit, fit]⟩, s3, rfl⟩, fun j j1 j2 => ?_, p2 + 1, by omega, by omega, ?_⟩
            · simp [show ¬ j = n by omega, show ¬ j = id by omega, far (show j < n4 by omega), j2, out j j1 j2]
            · simp [show ¬ rid = n by omega, show ¬ rid = id by omega, g2]
          · have c0 : ¬ pid = rid := by omega
            have c1 : ¬ pid = id := by omega
            have c2 : ¬ pid = n := by omega
            have g4 := far (show pid < n4 by omega)
            have fb : (d.past.length + 1) * 32 ≤ 140737488355328 := by omega
            simp -dsimp [r0, r1, t0, t4, t5, mid, mz, h1, h2, h3, a0, a1, a2, a3, a4, a5, b1, b2, b3, g1, g2, g3, g4, hPc, hmu, nes, him, c0, c1, c2, Ne.symm c0, Ne.symm c1, Ne.symm c2, fb]
            refine ⟨by omega, ⟨_, desk_bor (row_plus (l := d.past) (by simp [show n ≤ n4 + 1 by omega, show ¬ n4 + 1 = n by omega, show ¬ n4 + 1 = id by omega, nes])), ⟨d.now, d.past ++ [⟨0, []⟩]⟩, ⟨s1.1, by simp; omega, fun p hp => ?_⟩, ⟨s2.1, fun p hp => ?_⟩, s3, rfl⟩, fun j j1 j2 => ?_, p2 + 1, by omega, by omega, ?_⟩
            · rcases List.mem_append.1 hp with h | h
              · exact s1.2.2 p h
              · rw [List.mem_singleton.1 h]; simp [Place.small]
            · rcases List.mem_append.1 hp with h | h
              · exact s2.2 p h
              · rw [List.mem_singleton.1 h]; simp [Place.fit, fit]
            · simp [show ¬ j = n by omega, show ¬ j = id by omega, show ¬ j = pid by omega, far (show j < n4 by omega), j2, out j j1 j2]
            · simp [show ¬ rid = n by omega, show ¬ rid = id by omega, show ¬ rid = pid by omega, g2]
        · simp -dsimp [r0, r1, t0, t4, t5, mid, mz, h1, h2, h3, a0, a1, a2, a3, a4, a5, b1, b2, b3, g1, g2, g3, hPc]
          refine ⟨by omega, ⟨Desk.v ⟨⟨0, []⟩, []⟩, by simp, ⟨⟨0, []⟩, []⟩, ⟨by simp [Place.small], by simp, by simp⟩, ⟨by simp [Place.fit, fit], by simp⟩, by simp, rfl⟩, fun j j1 j2 => ?_, p2 + 1, by omega, by omega, ?_⟩
          · simp [show ¬ j = n by omega, j2, out j j1 j2]
          · simp [show ¬ rid = n by omega]
end TL

/- Drawn desks with deeds. -/
set_option linter.unusedSimpArgs false
set_option linter.unusedVariables false
set_option maxRecDepth 100000
set_option maxHeartbeats 4000000
set_option pp.maxSteps 1500
namespace TL
open Go Go.Proofs
attribute [local simp] marksV storyV codeV Claim.v Place.v Deed.v Desk.v
def SomeDeeds0m (x : V) : Prop := ∃ l : List Deed, l.length ≤ 10 ∧ (∀ a ∈ l, a.words.length ≤ 200) ∧ x = .sl (l.map Deed.v)
def DLIm (m0 : Mem) (n0 rid : Nat) (bs : List UInt8) (p : Nat) (q : Place) (e : Nat) (s : S) : Prop := ∃ (c id p' : Nat) (l : List Deed), s.tm 0 = .ptr rid 0 ∧ s.tm 3 = .ptr n0 0 ∧ s.m n0 = some (.box 30 2 [.v (.int .i64 q.people), .v (storyV q.story)]) ∧
  s.tm 5 = .loc id ∧ s.tm 6 = .v (.int .i64 c) ∧ s.mu = false ∧ n0 < id ∧ id < s.n ∧ s.m id = some (.arr 41 (l.map Deed.v)) ∧ l.length + c ≤ 5 ∧ p ≤ p' ∧ p' + 100 * c ≤ p + 600 ∧ (∀ a ∈ l, a.words.length ≤ 200) ∧ s.m rid = some (rdB bs p') ∧ (∀ j, j < n0 → j ≠ rid → s.m j = m0 j) ∧ (e = 1 → c = 0)
theorem deeds_zX (bs : List UInt8) (p : Nat) (hp : p < 500000000) (q : Place) (hq : q.story.length ≤ 1000) (X : T) (hX : X.cells = [.v (.int .i64 q.people), .v (storyV q.story)]) (m : Mem) (n rid : Nat) (hr : rid < n) (hm : m rid = some (rdB bs p)) :
    FnS Tryz.prog 26 m n [.ptr rid 0, X] (Draws SomeDeeds0m 700 m n rid bs p) := by
  refine Draws_of hr ⟨_, Tryz.func26, rfl, rfl⟩ fun hfr => ?_
  refine FnS_of (rs := [.tmp 4]) false Tryz.func26 rfl rfl rfl rfl (Nat.le_of_ble_eq_true rfl) ?_
  have f1 := far hr
  simp -dsimp [hX]
  refine callS_ (pick_at bs p (by omega) _ _ _ rid (by simp [hm, f1])) ?_
  rintro t m1 n1 ⟨hn1, ⟨r, rfl, hr0, hr1⟩, rfl⟩
  have hr1 := hr1 (by decide)
  obtain ⟨r, rfl⟩ := Int.eq_ofNat_of_zero_le hr0
  have f2 := far (show rid < n1 by omega)
  have f3 := far (show n < n1 by omega)
  simp -dsimp
  refine twp_loopC (DLIm m n rid bs p q 0) (fun s => natOf (s.tm 6)) (DLIm m n rid bs p q 1) ?_ ?_ ?_
  · refine ⟨r, n + 1, p + 1, [], by simp -dsimp, by simp -dsimp, by simp -dsimp [f1], by simp -dsimp, by simp -dsimp, by simp -dsimp, by omega, by simp -dsimp <;> omega, by simp -dsimp [f1], by simp; omega, by omega, by omega, by simp, by simp -dsimp [f1], fun j j1 j2 => ?_, by simp⟩
    simp -dsimp [far j1, j2]
  · rintro s ⟨c, id, p', l, t0, t3, m0, t5, t6, hmu, hid0, hid, mid, hlc, hp0, hp1, hw, mrd, hout, hend⟩
    by_cases hc : 0 < c
    case neg =>
      have hc0 : c = 0 := by omega
      simp -dsimp [t6, hc, hc0]
      exact ⟨c, id, p', l, by simp -dsimp [t0], by simp -dsimp [t3], by simp -dsimp [m0], by simp -dsimp [t5], by simp -dsimp [t6], by simp -dsimp [hmu], hid0, by simp -dsimp [hid], by simp -dsimp [mid], hlc, hp0, hp1, hw, by simp -dsimp [mrd], fun j j1 j2 => by simp -dsimp [hout j j1 j2], fun _ => hc0⟩
    have d0 : ¬ rid = id := by omega
    have d1 : ¬ id = rid := by omega
    have d2 : ¬ n = id := by omega
    have d3 : ¬ n = rid := by omega
    have d4 : ¬ id = n := by omega
    have h1 := far hid
    have h2 := far (show rid < s.n by omega)
    have h3 := far (show n < s.n by omega)
    have wc : IntKind.wrap .i64 ((c : Int) - 1) = ((c - 1 : Nat) : Int) := by rw [w64 (by omega) (by omega)]; omega
    have hmu1 : c - 1 < c := by omega
    have b1 : (l.length + 1) * 32 ≤ 140737488355328 := by omega
    simp -dsimp [t0, t3, t5, t6, m0, hc]
    refine callS_ (deed_zA bs p' (by omega) q hq _ _ rid (by omega) (by simp [mrd])) ?_
    rintro t m2 n2 ⟨hn2, ⟨x, ⟨a, ha, rfl⟩, rfl⟩, p3, hp3, hp4, rfl⟩
    have h4 := far (show id < n2 by omega)
    have h5 := far (show rid < n2 by omega)
    have h6 := far (show n < n2 by omega)
    simp -dsimp [t0, t3, t5, t6, hmu, mid, d0, d1, d2, d3, d4, h4, h5, h6, b1, wc, hmu1, nes]
    refine st_out fun s' ht hm' hn' hu' => ?_
    have a0 := ht 0
    have a3 := ht 3
    have a5 := ht 5
    have a6 := ht 6
    simp -dsimp [t0, t3, wc] at a0 a3 a5 a6 hm' hn' hu'
    clear ht
    refine ⟨c - 1, _, p3, l ++ [a], a0, a3, by simp [hm', d2, d3, h6, m0], a5, a6, by rw [hu', hmu], by omega, by omega, ?_, by simp; omega, by omega, by omega, fun b hb => ?_, by simp [hm', d0, h5], fun j j1 j2 => ?_, by simp⟩
    · simp [hm', nes]
    · rcases List.mem_append.1 hb with hb | hb
      · exact hw b hb
      · rw [List.mem_singleton.1 hb]; exact ha
    · simp [hm', show ¬ j = id by omega, far (show j < n2 by omega), j2, hout j j1 j2]
  · rintro s ⟨c, id, p', l, t0, t3, m0, t5, t6, hmu, hid0, hid, mid, hlc, hp0, hp1, hw, mrd, hout, hend⟩
    simp -dsimp [t5]
    refine ⟨by omega, ⟨_, by simp -dsimp [mid, show n ≤ id by omega], l, by omega, hw, rfl⟩, hout, p', by omega, by omega, mrd⟩
def SomeDeskDeeds (x : V) : Prop := ∃ (d : Desk) (l : List Deed), d.small ∧ d.fit ∧ l.length ≤ 41 ∧ (∀ a ∈ l, a.words.length ≤ 200) ∧ x = .tup [d.v, .sl (l.map Deed.v)]
def noDeeds : List Deed := List.replicate 41 ⟨0, 0, []⟩
theorem noDeeds_bor {mm : Mem} {id : Nat} (h : mm id = some (.box 41 3 ((List.replicate 41 [T.v (.int .i64 0), .v (.int .i64 0), .v (.str [])]).flatten))) : bor true mm 3 (.sv id 0 41) = some (.sl (noDeeds.map Deed.v)) := by
  show (match mm id with | some (.box _ z cs) => tst (0 + 41 * z ≤ cs.length) (obind (mapO (TL.bor true mm 2) ((cs.drop 0).take (41 * z))) fun xs => tst (∀ x ∈ xs, x.cell = true) (some (V.sl (chunk z 41 xs)))) | _ => none) = _
  rw [h]
  rfl
theorem desk_deeds_bor {mm : Mem} {d : Desk} {id : Nat} (h : mm id = some (.box 41 3 ((List.replicate 41 [T.v (.int .i64 0), .v (.int .i64 0), .v (.str [])]).flatten))) :
    bor true mm 4 (.tup [.agg [.v (.int .i64 d.now.people), .v (.sl (d.now.story.map Claim.v)), .v (.sl (d.past.map Place.v))], .sv id 0 41]) = some (.tup [d.v, .sl (noDeeds.map Deed.v)]) := by
  have hb := noDeeds_bor h
  simp [hb]
theorem drawDeskRun_z (bs : List UInt8) (m : Mem) (n : Nat) : FnS Tryz.prog 8 m n [.v (codeV bs)] (Drawn SomeDeskDeeds m n) := by
  refine Drawn_of ⟨_, Tryz.func8, rfl, rfl⟩ fun hfr => ?_
  refine FnS_of (rs := [.cell 2 33, .tmp 3]) true Tryz.func8 rfl rfl rfl rfl (Nat.le_of_ble_eq_true rfl) ?_
  simp -dsimp
  refine callS_ (open_at bs _ _) ?_
  rintro t m1 n1 ⟨rfl, rfl, rfl⟩
  simp -dsimp
  refine callS_ (desk_z (bs.take 2000) 0 (by omega) 12 (by omega) (by omega) _ _ _ (by omega) (by simp)) ?_
  rintro t m2 n2 ⟨hn2, ⟨x, ⟨d, s1, s2, s3, rfl⟩, rfl⟩, p2, hp1, hp2, rfl⟩
  have f0 := far (show n < n2 by omega)
  have f1 := far (show n + 1 < n2 by omega)
  simp -dsimp [f0, f1, nes]
  refine callS_ (odd_at (bs.take 2000) p2 (by omega) 30 (by omega) _ _ (n + 1) (by simp [f0, f1, nes])) ?_
  rintro t m3 n3 ⟨hn3, ⟨b, rfl, _⟩, p3, hp3, hp4, rfl⟩
  have g0 := far (show n < n3 by omega)
  have g1 := far (show n + 1 < n3 by omega)
  have g2 := far (show n2 < n3 by omega)
  have z0 : ¬ n2 = n + 1 := by omega
  have z1 : ¬ n2 = n := by omega
  cases b with
  | true =>
    simp -dsimp [f0, f1, g0, g1, g2, z0, z1, nes]
    refine twp_drawT (.run [0] (.alt (.run [1, 2, 3] .done) (.run [2, 1, 3] .done))) [n2] (List.replicate 4 [0]) (List.replicate 4 [0]) (by kernel_rfl) (by kernel_rfl) (by kernel_rfl) (by kernel_rfl) ?_
    simp -dsimp [f0, f1, g0, g1, g2, z0, z1, nes]
    refine ordT_both ?_ ?_
    · simp -dsimp [f0, f1, g0, g1, g2, z0, z1, nes]
      refine ⟨by omega, ⟨.tup [d.v, .sl (noDeeds.map Deed.v)], ?_, d, noDeeds, s1, s2, by simp [noDeeds], fun a ha => ?_, rfl⟩, fun j j1 => ?_⟩
      · refine desk_deeds_bor (d := d) (id := n3) ?_
        simp [show n ≤ n3 by omega, nes, show ¬ n3 = n by omega]
      · rw [List.eq_of_mem_replicate ha]; simp
      · simp [far j1, show ¬ j = n by omega, show ¬ j = n + 1 by omega, show ¬ j = n2 by omega, far (show j < n3 by omega)]
    · simp -dsimp [f0, f1, g0, g1, g2, z0, z1, nes]
      refine ⟨by omega, ⟨.tup [d.v, .sl (noDeeds.map Deed.v)], ?_, d, noDeeds, s1, s2, by simp [noDeeds], fun a ha => ?_, rfl⟩, fun j j1 => ?_⟩
      · refine desk_deeds_bor (d := d) (id := n3 + 1) ?_
        simp [show n ≤ n3 + 1 by omega, nes, show ¬ n3 + 1 = n by omega]
      · rw [List.eq_of_mem_replicate ha]; simp
      · simp [far j1, show ¬ j = n by omega, show ¬ j = n + 1 by omega, show ¬ j = n2 by omega, far (show j < n3 by omega)]
  | false =>
    simp -dsimp [f0, f1, g0, g1, g2, z0, z1, nes]
    refine twp_draw [0, 1, 2, 3, 4, 5, 6] [n2] (List.replicate 7 [0]) (List.replicate 7 [0]) (by kernel_rfl) (by kernel_rfl) (by kernel_rfl) (by kernel_rfl) ?_
    simp -dsimp [f0, f1, g0, g1, g2, z0, z1, nes]
    refine callS_ (deeds_zX (bs.take 2000) p3 (by omega) d.now s3 _ (by rfl) _ _ (n + 1) (by omega) (by simp [f0, f1, g0, g1, nes])) ?_
    rintro t m4 n4 ⟨hn4, ⟨x, ⟨l, l1, l2, rfl⟩, rfl⟩, p4, hp5, hp6, rfl⟩
    have k0 := far (show n < n4 by omega)
    have k1 := far (show n + 1 < n4 by omega)
    have k2 := far (show n2 < n4 by omega)
    simp -dsimp [f0, f1, g0, g1, g2, k0, k1, k2, z0, z1, nes]
    refine ⟨by omega, ⟨_, by simp <;> rfl, d, l, s1, s2, by omega, l2, rfl⟩, fun j j1 => ?_⟩
    simp [far j1, show ¬ j = n by omega, show ¬ j = n + 1 by omega, show ¬ j = n2 by omega]
end TL

/- More than a few cells apart. -/
namespace TL
theorem nes9 (n : Nat) : (¬ n = n + 1 + 1 + 1 + 1 + 1 + 1 + 1 + 1 + 1 + 1 + 1 + 1 + 1 + 1 + 1) ∧ (¬ n + 1 + 1 + 1 + 1 + 1 + 1 + 1 + 1 + 1 + 1 + 1 + 1 + 1 + 1 + 1 = n) ∧ (¬ n = n + 1 + 1 + 1 + 1 + 1 + 1 + 1 + 1 + 1 + 1 + 1 + 1 + 1 + 1 + 1 + 1) ∧ (¬ n + 1 + 1 + 1 + 1 + 1 + 1 + 1 + 1 + 1 + 1 + 1 + 1 + 1 + 1 + 1 + 1 = n) ∧ (¬ n = n + 1 + 1 + 1 + 1 + 1 + 1 + 1 + 1 + 1 + 1 + 1 + 1 + 1 + 1 + 1 + 1 + 1) ∧ (¬ n + 1 + 1 + 1 + 1 + 1 + 1 + 1 + 1 + 1 + 1 + 1 + 1 + 1 + 1 + 1 + 1 + 1 = n) ∧ (¬ n = n + 1 + 1 + 1 + 1 + 1 + 1 + 1 + 1 + 1 + 1 + 1 + 1 + 1 + 1 + 1 + 1 + 1 + 1) ∧ (¬ n + 1 + 1 + 1 + 1 + 1 + 1 + 1 + 1 + 1 + 1 + 1 + 1 + 1 + 1 + 1 + 1 + 1 + 1 = n) ∧ (¬ n = n + 1 + 1 + 1 + 1 + 1 + 1 + 1 + 1 + 1 + 1 + 1 + 1 + 1 + 1 + 1 + 1 + 1 + 1 + 1) ∧ (¬ n + 1 + 1 + 1 + 1 + 1 + 1 + 1 + 1 + 1 + 1 + 1 + 1 + 1 + 1 + 1 + 1 + 1 + 1 + 1 = n) ∧ (¬ n = n + 1 + 1 + 1 + 1 + 1 + 1 + 1 + 1 + 1 + 1 + 1 + 1 + 1 + 1 + 1 + 1 + 1 + 1 + 1 + 1) ∧ (¬ n + 1 + 1 + 1 + 1 + 1 + 1 + 1 + 1 + 1 + 1 + 1 + 1 + 1 + 1 + 1 + 1 + 1 + 1 + 1 + 1 = n) ∧ (¬ n = n + 1 + 1 + 1 + 1 + 1 + 1 + 1 + 1 + 1 + 1 + 1 + 1 + 1 + 1 + 1 + 1 + 1 + 1 + 1 + 1 + 1) ∧ (¬ n + 1 + 1 + 1 + 1 + 1 + 1 + 1 + 1 + 1 + 1 + 1 + 1 + 1 + 1 + 1 + 1 + 1 + 1 + 1 + 1 + 1 = n) ∧ (¬ n = n + 1 + 1 + 1 + 1 + 1 + 1 + 1 + 1 + 1 + 1 + 1 + 1 + 1 + 1 + 1 + 1 + 1 + 1 + 1 + 1 + 1 + 1) ∧ (¬ n + 1 + 1 + 1 + 1 + 1 + 1 + 1 + 1 + 1 + 1 + 1 + 1 + 1 + 1 + 1 + 1 + 1 + 1 + 1 + 1 + 1 + 1 = n) ∧ (¬ n = n + 1 + 1 + 1 + 1 + 1 + 1 + 1 + 1 + 1 + 1 + 1 + 1 + 1 + 1 + 1 + 1 + 1 + 1 + 1 + 1 + 1 + 1 + 1) ∧ (¬ n + 1 + 1 + 1 + 1 + 1 + 1 + 1 + 1 + 1 + 1 + 1 + 1 + 1 + 1 + 1 + 1 + 1 + 1 + 1 + 1 + 1 + 1 + 1 = n) ∧ (¬ n = n + 1 + 1 + 1 + 1 + 1 + 1 + 1 + 1 + 1 + 1 + 1 + 1 + 1 + 1 + 1 + 1 + 1 + 1 + 1 + 1 + 1 + 1 + 1 + 1) ∧ (¬ n + 1 + 1 + 1 + 1 + 1 + 1 + 1 + 1 + 1 + 1 + 1 + 1 + 1 + 1 + 1 + 1 + 1 + 1 + 1 + 1 + 1 + 1 + 1 + 1 = n) ∧ (¬ n = n + 1 + 1 + 1 + 1 + 1 + 1 + 1 + 1 + 1 + 1 + 1 + 1 + 1 + 1 + 1 + 1 + 1 + 1 + 1 + 1 + 1 + 1 + 1 + 1 + 1) ∧ (¬ n + 1 + 1 + 1 + 1 + 1 + 1 + 1 + 1 + 1 + 1 + 1 + 1 + 1 + 1 + 1 + 1 + 1 + 1 + 1 + 1 + 1 + 1 + 1 + 1 + 1 = n) ∧ (¬ n = n + 1 + 1 + 1 + 1 + 1 + 1 + 1 + 1 + 1 + 1 + 1 + 1 + 1 + 1 + 1 + 1 + 1 + 1 + 1 + 1 + 1 + 1 + 1 + 1 + 1 + 1) ∧ (¬ n + 1 + 1 + 1 + 1 + 1 + 1 + 1 + 1 + 1 + 1 + 1 + 1 + 1 + 1 + 1 + 1 + 1 + 1 + 1 + 1 + 1 + 1 + 1 + 1 + 1 + 1 = n) := by
  refine ⟨?_, ?_, ?_, ?_, ?_, ?_, ?_, ?_, ?_, ?_, ?_, ?_, ?_, ?_, ?_, ?_, ?_, ?_, ?_, ?_, ?_, ?_, ?_, ?_⟩ <;> omega
end TL

/- Wherever a journal is cut, a desk of before is found: the law of ReadJournal. -/
set_option linter.unusedSimpArgs false
set_option linter.unusedVariables false
set_option maxRecDepth 100000
set_option maxHeartbeats 4000000
set_option pp.maxSteps 1500
namespace TL
open Go Go.Proofs
attribute [local simp] marksV storyV codeV Claim.v Place.v Deed.v Desk.v
def Irj1 (b2 s : List UInt8) (l : List Deed) (n e : Nat) (st : S) : Prop := ∃ k : Nat, st.tm 1 = .v (codeV b2) ∧ st.tm 5 = .v (.str s) ∧ st.tm 6 = .v (.sl (l.map Deed.v)) ∧ st.tm 7 = .v (.int .i64 n) ∧ st.tm 10 = .v (.int .i64 k) ∧ k ≤ s.length + 1 ∧ (e = 1 → True)
noncomputable def Irj2 (s : List UInt8) (l : List Deed) (n : Nat) (d : Desk) (p e : Nat) (st : S) : Prop := ∃ k : Nat, st.tm 5 = .v (.str s) ∧ st.tm 6 = .v (.sl (l.map Deed.v)) ∧ st.tm 7 = .v (.int .i64 n) ∧ st.tm 13 = .ptr p 0 ∧ st.tm 15 = .ptr (p + 1 + 1) 0 ∧ st.tm 16 = .v (.int .i64 k) ∧ k ≤ l.length ∧ p + 1 + 1 < st.n ∧
  st.m p = some (.box 33 3 [.v (.int .i64 d.now.people), .v (storyV d.now.story), .v (.sl (d.past.map Place.v))]) ∧
  st.m (p + 1 + 1) = some (.box 33 3 [.v (.int .i64 (doAll d (l.take k)).1.now.people), .v (storyV (doAll d (l.take k)).1.now.story), .v (.sl ((doAll d (l.take k)).1.past.map Place.v))]) ∧ (e = 1 → deskOk d = true → k = l.length)
theorem say_step {d : Desk} {l : List Deed} (hk : deskOk d = true) {i : Nat} (h : i < l.length) : (doAll d (l.take (i + 1))).1 = (deskDo (doAll d (l.take i)).1 l[i]).1 := by
  rw [doAll_succ h]
  have ho := doAll_ok (l.take i) d hk
  unfold doStep
  split
  · rfl
  · rename_i hf
    cases hb : (deskDo (doAll d (l.take i)).1 l[i]).2 with
    | true => exact absurd hb hf
    | false =>
      rcases deskDo_same hb with h1 | h1
      · rw [ho] at h1; cases h1
      · exact h1.symm
theorem lawReadJournal (bs bs2 : List UInt8) : FnZ Tryz.prog 3 [codeV bs, codeV bs2] (.bool true) := by
  refine FnZ_of (rs := [.tmp 4]) false Tryz.func3 rfl rfl rfl rfl (Nat.le_of_ble_eq_true rfl) ?_
  by_cases h : (1048576 : Int) < bs.length
  · simp -dsimp [nes, h]
  by_cases h' : (1048576 : Int) < bs2.length
  · simp -dsimp [nes, h, h']
  simp -dsimp [nes, h, h']
  refine callS_ (drawReadJournal_z bs _ _) ?_
  rintro t m1 n1 ⟨hn1, ⟨x, ⟨s, hs, rfl⟩, rfl⟩, rfl⟩
  have r1 := readJournal_fn s (by omega)
  have r2 := readJournalS_fn s (by omega)
  have hle := readJ_le s
  have hmany := readJ_many s
  have hall := readJ_all s
  have htake := readJ_take s
  have hpre := fun k => readJ_prefix s k
  have hw : ∀ a ∈ (readJ s).1, a.words.length ≤ 1000000000 := fun a ha => words_short (readJ_all s a ha)
  have hj := journalText_fn (readJ s).1 (by omega) (fun a ha => by have := hw a ha; omega)
  rw [journalTx_all hall, ← htake] at hj
  clear htake
  generalize hJ : readJ s = J at *
  obtain ⟨l, n⟩ := J
  simp only at r1 r2 hle hmany hall hpre hw hj
  have r3 := sameDeeds_fn l l (by omega)
  simp -dsimp [nes]
  refine call_ r1 (by simp -dsimp) ?_
  simp -dsimp [nes]
  refine call_ r2 (by simp -dsimp) ?_
  simp -dsimp [nes]
  refine call_ r3 (by simp -dsimp) ?_
  simp -dsimp [nes]
  refine twp_loopC (Irj1 bs2 s l n 0) (fun st => s.length + 1 - natOf (st.tm 10)) (Irj1 bs2 s l n 1) ?_ ?_ ?_
  · exact ⟨0, by simp -dsimp, by simp -dsimp, by simp -dsimp, by simp -dsimp, by simp -dsimp, by omega, by simp⟩
  · rintro st ⟨k, t1, t5, t6, t7, t10, hk, _⟩
    by_cases hlt : k ≤ s.length
    case neg =>
      have hlt' : ¬ (k : Int) ≤ s.length := by omega
      simp -dsimp [t5, t10, hlt, hlt']
      exact ⟨k, by simp -dsimp [t1], by simp -dsimp [t5], by simp -dsimp [t6], by simp -dsimp [t7], by simp -dsimp [t10], hk, by simp⟩
    have hlt' : (k : Int) ≤ s.length := by omega
    have c1 := readJournal_fn (s.take k) (by simp only [List.length_take]; omega)
    have c2 := readJ_le (s.take k)
    have c3 := hpre k
    have c4 := c3.length_le
    have c5 : l.take (readJ (s.take k)).1.length = (readJ (s.take k)).1 := (List.prefix_iff_eq_take.1 c3).symm
    have c6 : (s.take k).length ≤ k := by simp only [List.length_take]; omega
    have wi : IntKind.wrap .i64 ((k : Int) + 1) = ((k + 1 : Nat) : Int) := by rw [w64 (by omega) (by omega)]; omega
    have hmu1 : s.length - k < s.length + 1 - k := by omega
    clear c3
    generalize readJ (s.take k) = K at *
    obtain ⟨J1, J2⟩ := K
    simp only at c1 c2 c4 c5
    have c7 := sameDeeds_fn J1 J1 (by omega)
    have tk : (l.map Deed.v).take J1.length = J1.map Deed.v := by rw [← List.map_take, c5]
    have mi : min ((J1.length : Int)) (l.length : Int) = (J1.length : Int) := by omega
    have mi2 : min J1.length l.length = J1.length := by omega
    have k1 : ¬ (l.length : Int) < (J1.length : Int) := by omega
    have k2 : ¬ l.length < J1.length := by omega
    have k3 : ¬ (k : Int) < (J2 : Int) := by omega
    have k4 : ¬ k < J2 := by omega
    simp -dsimp [t5, t6, t10, hlt, hlt']
    refine call_ c1 (by simp -dsimp) ?_
    simp -dsimp [t5, t6, t10, k1, k2, k3, k4, mi, mi2, c4, tk]
    refine call_ c7 (by simp -dsimp) ?_
    simp -dsimp [t5, t6, t10, k1, k2, k3, k4, wi, hmu1]
    exact ⟨k + 1, by simp -dsimp [t1], by simp -dsimp [t5], by simp -dsimp [t6], by simp -dsimp [t7], by simp -dsimp, by omega, by simp⟩
  rintro st ⟨k, t1, t5, t6, t7, t10, hk, _⟩
  clear t10 hk k hpre
  simp -dsimp [nes, t1]
  refine callS_ (drawDeskRun_z bs2 _ _) ?_
  rintro t m2 p ⟨hp, ⟨x, ⟨d, l2, hd, hf, hl2, hw2, rfl⟩, rfl⟩, rfl⟩
  have h2 := deskRun_fn d l hd hw
  have h3 := deskOkS_fn d hd hf
  have hko := ft (deskOk d)
  have hle' : (n : Int) ≤ s.length := by omega
  rcases hko with hko | hko
  · have e : deskRun d l = (noDeskV, 0) := if_neg (by simp [hko])
    rw [e] at h2
    rw [hko] at h3
    clear e hd hf hw hw2 hl2
    obtain ⟨⟨d1, d2⟩, d3⟩ := d
    simp -dsimp [nes]
    refine twp_loopC (Irj2 s l n ⟨⟨d1, d2⟩, d3⟩ p 0) (fun st => 0) (Irj2 s l n ⟨⟨d1, d2⟩, d3⟩ p 1) ?_ ?_ ?_
    · exact ⟨0, by simp -dsimp [t5], by simp -dsimp [t6], by simp -dsimp [t7], by simp -dsimp [nes], by simp -dsimp [nes], by simp -dsimp, by omega, (by simp -dsimp [nes] <;> omega), by simp -dsimp [nes], by simp -dsimp [nes, doAll], by simp⟩
    · rintro st2 ⟨k, u5, u6, u7, u13, u15, u16, hk, hn, m0, m1, hend⟩
      by_cases hlt : k < l.length
      · simp -dsimp [u6, u13, u16, hlt, m0]
        refine call_ h3 (by simp -dsimp) ?_
        simp -dsimp [u6, u13, u16, hlt, m0]
        exact ⟨k, by simp -dsimp [u5], by simp -dsimp [u6], by simp -dsimp [u7], by simp -dsimp [u13], by simp -dsimp [u15], by simp -dsimp [u16], hk, by simp -dsimp; omega, by simp -dsimp [m0], by simp -dsimp [m1], fun _ h => by rw [hko] at h; cases h⟩
      · simp -dsimp [u6, u13, u16, hlt, m0]
        exact ⟨k, by simp -dsimp [u5], by simp -dsimp [u6], by simp -dsimp [u7], by simp -dsimp [u13], by simp -dsimp [u15], by simp -dsimp [u16], hk, by simp -dsimp; omega, by simp -dsimp [m0], by simp -dsimp [m1], fun _ h => by rw [hko] at h; cases h⟩
    · rintro st2 ⟨k, u5, u6, u7, u13, u15, u16, hk, hn, m0, m1, hend⟩
      have g0 := far (show p < st2.n by omega)
      have g1 := far (show p + 1 + 1 < st2.n by omega)
      simp only at m0 m1
      generalize (doAll (⟨⟨d1, d2⟩, d3⟩ : Desk) (l.take k)).1 = D at m1
      obtain ⟨⟨D1, D2⟩, D3⟩ := D
      simp only at m1
      simp -dsimp [u5, u6, u7, u13, u15, m0, m1, nes, g0, g1]
      refine call_ h2 (by simp -dsimp) ?_
      simp -dsimp [u5, u6, u7, u13, u15, m0, m1, nes, g0, g1, noDeskV]
      refine twp_draw [0, 1, 2, 3, 4, 5, 7, 8, 9, 6, 10, 11, 12, 13, 14, 15, 16, 17, 18, 19, 20, 21, 22, 23, 24, 25, 26, 27, 28, 29, 30] [p, p + 1 + 1, st2.n] (List.replicate 31 [0, 1, 2]) (List.replicate 31 [0, 1, 2]) (by kernel_rfl) (by kernel_rfl) (by kernel_rfl) (by kernel_rfl) ?_
      simp -dsimp [u5, u6, u7, u13, u15, m0, m1, nes, g0, g1, hle, hle']
      refine call_ hj (by simp -dsimp) ?_
      simp -dsimp [u5, u6, u7, u13, u15, m0, m1, nes, g0, g1, hle, hle']
      refine call_ h3 (by simp -dsimp) ?_
      simp -dsimp [u5, u6, u7, u13, u15, m0, m1, nes, g0, g1, hle, hle']
      refine call_ alive_fn (by simp -dsimp) ?_
      simp -dsimp [nes]
  · rw [hko] at h3
    have h4 := sameDesk_fn (doAll d l).1 (doAll d l).1 (desk_fine (doAll_ok l d hko)).1
    simp -dsimp [nes]
    refine twp_loopC (Irj2 s l n d p 0) (fun st => l.length - natOf (st.tm 16)) (Irj2 s l n d p 1) ?_ ?_ ?_
    · exact ⟨0, by simp -dsimp [t5], by simp -dsimp [t6], by simp -dsimp [t7], by simp -dsimp [nes], by simp -dsimp [nes], by simp -dsimp, by omega, (by simp -dsimp [nes] <;> omega), by simp -dsimp [nes], by simp -dsimp [nes, doAll], by simp⟩
    · rintro st2 ⟨k, u5, u6, u7, u13, u15, u16, hk, hn, m0, m1, hend⟩
      by_cases hlt : k < l.length
      case neg =>
        simp -dsimp [u6, u13, u16, hlt, m0]
        exact ⟨k, by simp -dsimp [u5], by simp -dsimp [u6], by simp -dsimp [u7], by simp -dsimp [u13], by simp -dsimp [u15], by simp -dsimp [u16], hk, by simp -dsimp; omega, by simp -dsimp [m0], by simp -dsimp [m1], fun _ _ => by omega⟩
      have hget : (l.map Deed.v)[k]? = some (l[k].v) := by simp [hlt]
      have wi : IntKind.wrap .i64 ((k : Int) + 1) = ((k + 1 : Nat) : Int) := by rw [w64 (by omega) (by omega)]; omega
      have hmu1 : l.length - (k + 1) < l.length - k := by omega
      have hmem := List.getElem_mem hlt
      have hD := doAll_ok (l.take k) d hko
      have hdt := deedText_fn l[k] (by have := hw _ hmem; omega)
      have hdl := deedTx_len l[k]
      have hcall := deskLine_fn (doAll d (l.take k)).1 (deedTx l[k]) l[k] (desk_fine hD).1 hD (by omega) (readD_some (hall _ hmem) rfl) (hw _ hmem)
      have hs2 := say_step hko hlt
      have g0 := far (show p < st2.n by omega)
      have g1 := far (show p + 1 + 1 < st2.n by omega)
      clear hD
      generalize deskDo (doAll d (l.take k)).1 l[k] = E at *
      generalize (doAll d (l.take k)).1 = R at *
      generalize deedTx l[k] = tx at *
      obtain ⟨⟨⟨E1, E2⟩, E3⟩, b⟩ := E
      obtain ⟨⟨D1, D2⟩, D3⟩ := R
      generalize hx : l[k] = a at *
      obtain ⟨a1, a2, a3⟩ := a
      simp only at m0 m1 hcall
      simp -dsimp [u6, u13, u16, hlt, m0]
      refine call_ h3 (by simp -dsimp) ?_
      simp -dsimp [u6, u13, u16, hlt, m0]
      refine twp_cutQ (fun z => (z.tm 5 = .v (.str s) ∧ z.tm 6 = .v (.sl (l.map Deed.v)) ∧ z.tm 7 = .v (.int .i64 n) ∧ z.tm 13 = .ptr p 0 ∧ z.tm 15 = .ptr (p + 1 + 1) 0 ∧ z.tm 16 = .v (.int .i64 k) ∧ z.tm 17 = .ptr st2.n 0 ∧ z.tm 18 = .v (.str (okNot b))) ∧ z.n = st2.n + 1 + 1 ∧ z.m = updM st2.m st2.n (some (.box 33 3 [.v (.int .i64 E1), .v (.sl (E2.map Claim.v)), .v (.sl (E3.map Place.v))]))) ?_ ?_
      · refine twp_drawT (.run [0, 1, 2, 3, 4, 1005] (.alt (.run [6, 7, 8, 9, 10, 11, 12] .done) (.run [10, 6, 7, 8, 9, 11, 12] .done))) [p + 1 + 1] (List.replicate 13 [0]) (List.replicate 13 [0]) (by kernel_rfl) (by kernel_rfl) (by kernel_rfl) (by kernel_rfl) ?_
        simp -dsimp [u6, u13, u15, u16, hlt, hget, hx, m0, m1, g0, g1, nes]
        refine pure_ hdt (by simp -dsimp) ?_
        simp -dsimp [u6, u13, u15, u16, hlt, hget, hx, m0, m1, g0, g1, nes]
        refine ordT_both ?_ ?_
        · simp -dsimp [u6, u13, u15, u16, hlt, hget, hx, m0, m1, g0, g1, nes]
          refine call_ hcall (by simp -dsimp) ?_
          simp -dsimp [u5, u6, u7, u13, u15, u16, hlt, hget, hx, m0, m1, g0, g1, nes]
        · simp -dsimp [u6, u13, u15, u16, hlt, hget, hx, m0, m1, g0, g1, nes]
          refine call_ hcall (by simp -dsimp) ?_
          simp -dsimp [u5, u6, u7, u13, u15, u16, hlt, hget, hx, m0, m1, g0, g1, nes]
      rintro z ⟨⟨z5, z6, z7, z13, z15, z16, z17, z18⟩, zn, zm⟩
      cases b with
      | false =>
        simp -dsimp [z17, z18, z15, z16, u16, zn, zm, okNot, m0, m1, g0, g1, nes, wi, hmu1]
        exact ⟨k + 1, by simp -dsimp [z5], by simp -dsimp [z6], by simp -dsimp [z7], by simp -dsimp [z13], by simp -dsimp [z15], by simp -dsimp, by omega, (by simp -dsimp [zn] <;> omega), by simp -dsimp [zm, m0, g0, nes], by simp -dsimp [hs2], by simp⟩
      | true =>
        simp -dsimp [z17, z18, z15, z16, u16, zn, zm, okNot, m0, m1, g0, g1, nes, wi, hmu1]
        exact ⟨k + 1, by simp -dsimp [z5], by simp -dsimp [z6], by simp -dsimp [z7], by simp -dsimp [z13], by simp -dsimp [z15], by simp -dsimp, by omega, (by simp -dsimp [zn] <;> omega), by simp -dsimp [zm, m0, g0, nes], by simp -dsimp [hs2], by simp⟩
    · rintro st2 ⟨k, u5, u6, u7, u13, u15, u16, hk, hn, m0, m1, hend⟩
      have := hend rfl hko
      subst this
      rw [List.take_length] at m1
      have g0 := far (show p < st2.n by omega)
      have g1 := far (show p + 1 + 1 < st2.n by omega)
      by_cases h40 : l.length ≤ 40
      · have e : deskRun d l = doAll d l := if_pos ⟨hko, h40⟩
        have q1 : ¬ (40 : Int) < l.length := by omega
        have q2 : ¬ 40 < l.length := by omega
        rw [e] at h2
        clear e
        generalize doAll d l = R at *
        obtain ⟨⟨⟨D1, D2⟩, D3⟩, c⟩ := R
        simp only at m1 h4
        simp -dsimp [u5, u6, u7, u13, u15, m0, m1, nes, g0, g1]
        refine call_ h2 (by simp -dsimp) ?_
        simp -dsimp [u5, u6, u7, u13, u15, m0, m1, nes, g0, g1]
        refine twp_draw [0, 1, 2, 3, 4, 5, 7, 8, 9, 6, 10, 11, 12, 13, 14, 15, 16, 17, 18, 19, 20, 21, 22, 23, 24, 25, 26, 27, 28, 29, 30] [p, p + 1 + 1, st2.n] (List.replicate 31 [0, 1, 2]) (List.replicate 31 [0, 1, 2]) (by kernel_rfl) (by kernel_rfl) (by kernel_rfl) (by kernel_rfl) ?_
        simp -dsimp [u5, u6, u7, u13, u15, m0, m1, nes, g0, g1, hle, hle']
        refine call_ hj (by simp -dsimp) ?_
        simp -dsimp [u5, u6, u7, u13, u15, m0, m1, nes, g0, g1, hle, hle']
        refine call_ h3 (by simp -dsimp) ?_
        simp -dsimp [u5, u6, u7, u13, u15, m0, m1, nes, g0, g1, hle, hle', q1, q2]
        refine call_ h4 (by simp -dsimp) ?_
        simp -dsimp [u5, u6, u7, u13, u15, m0, m1, nes, g0, g1, hle, hle', q1, q2]
        refine call_ alive_fn (by simp -dsimp) ?_
        simp -dsimp [nes]
      · have e : deskRun d l = (noDeskV, 0) := if_neg (by simp [h40])
        have q1 : (40 : Int) < l.length := by omega
        have q2 : 40 < l.length := by omega
        rw [e] at h2
        clear e h4
        generalize doAll d l = R at *
        obtain ⟨⟨⟨D1, D2⟩, D3⟩, c⟩ := R
        simp only at m1
        simp -dsimp [u5, u6, u7, u13, u15, m0, m1, nes, g0, g1]
        refine call_ h2 (by simp -dsimp) ?_
        simp -dsimp [u5, u6, u7, u13, u15, m0, m1, nes, g0, g1, noDeskV]
        refine twp_draw [0, 1, 2, 3, 4, 5, 7, 8, 9, 6, 10, 11, 12, 13, 14, 15, 16, 17, 18, 19, 20, 21, 22, 23, 24, 25, 26, 27, 28, 29, 30] [p, p + 1 + 1, st2.n] (List.replicate 31 [0, 1, 2]) (List.replicate 31 [0, 1, 2]) (by kernel_rfl) (by kernel_rfl) (by kernel_rfl) (by kernel_rfl) ?_
        simp -dsimp [u5, u6, u7, u13, u15, m0, m1, nes, g0, g1, hle, hle']
        refine call_ hj (by simp -dsimp) ?_
        simp -dsimp [u5, u6, u7, u13, u15, m0, m1, nes, g0, g1, hle, hle']
        refine call_ h3 (by simp -dsimp) ?_
        simp -dsimp [u5, u6, u7, u13, u15, m0, m1, nes, g0, g1, hle, hle', q1, q2]
        refine call_ alive_fn (by simp -dsimp) ?_
        simp -dsimp [nes]
end TL

/- A cell lies in its block. -/
namespace TL
open Go
theorem lt_of_cell {W : World} {g : Nat} {v : Value} (h : W.cell? ⟨g, 0, none⟩ = some v) : g < W.heap.size := by
  unfold World.cell? at h
  split at h
  · rename_i hb; exact (Array.getElem?_eq_some_iff.1 hb).1
  · cases h
end TL

/- The library's variables at the start: what the world's shape and the row's listed data give. -/
namespace TL
open Go Go.Proofs
/-- A listed sentinel is an interface value. -/
theorem laid_iface {P : Program} {n nm : String} {d : DataW Unit} {r : List (String × DataW Unit)} {W : World} {g : Nat} {ti : TypeId} {ms : Array (String × TypeId)}
    (h : laidMet P ((n, .iface nm d) :: r) W) (hg : P.globalNamed n = some g) (ht : (P.globals[g]?).map (·.type) = some ti) (hi : P.underlying ti = some (.interface ms)) : ∃ u v, W.cell? ⟨g, 0, none⟩ = some (.iface u v) := by
  obtain ⟨ps, ⟨g0, t0, cs0, f0, p0, q0, hg0, ht0, hv0, hd0, _, e0⟩, _, hrows⟩ := h
  obtain rfl := Option.some.inj (hg.symm.trans hg0)
  obtain rfl := Option.some.inj (ht.symm.trans ht0)
  obtain ⟨l0⟩ := cs0
  obtain ⟨f1, u, v, hl, _, _⟩ := iface_of_trod hi hd0
  have hl : l0 = [.iface u v] := hl
  subst hl
  exact ⟨u, v, by simpa using World.var?_cell hg0 hv0 0⟩
theorem gl_start {W : World} (h : W.ShapedOpen Tryz.prog) (hr : ∃ u v, W.cell? ⟨Tryz.laysC172_ren.g 16, 0, none⟩ = some (.iface u v)) (hs : ∃ u v, W.cell? ⟨Tryz.laysC172_ren.g 15, 0, none⟩ = some (.iface u v)) : Gl Tryz.prog (ZA W) W := by
  have n1 : Tryz.prog.globalNamed "internal/bytealg.MaxLen" = some 0 := by kernel_rfl
  have n2 : Tryz.prog.globalNamed "strconv.ErrSyntax" = some (Tryz.laysC172_ren.g 15) := Tryz.laysC172.m15
  have n3 : Tryz.prog.globalNamed "strconv.ErrRange" = some (Tryz.laysC172_ren.g 16) := Tryz.laysC172.m16
  have hm : ∃ m, W.cell? ⟨0, 0, none⟩ = some (.int .i64 m) := Tryz.laysM145.s1_3 W h
  rintro g Q (⟨e, rfl⟩ | ⟨e | e, rfl⟩)
  · rw [n1] at e; cases e
    obtain ⟨m, hm⟩ := hm
    exact ⟨lt_of_cell hm, _, hm, m, rfl⟩
  · rw [n2] at e
    obtain rfl := Option.some.inj e
    obtain ⟨u, v, hs⟩ := hs
    exact ⟨lt_of_cell hs, _, hs, .inr ⟨u, v, rfl⟩⟩
  · rw [n3] at e
    obtain rfl := Option.some.inj e
    obtain ⟨u, v, hr⟩ := hr
    exact ⟨lt_of_cell hr, _, hr, .inr ⟨u, v, rfl⟩⟩
end TL

/- The wrap of a row that lists variables, the world's shape kept too. -/
namespace TL
open Go
variable {H : Type} {enc : TypeId × Value → H}
theorem wrapLS {a : Assume} {C : Checked} {os : Os} {f : FuncId} {fn : Func} {s : ChangeSpec} {conds : List PathCond} {apart fresh handsOn again : Bool} {X : World → Array Value → Prop}
    (hX : ∀ (w w' : World) (args : Array Value), w.heap = w'.heap → X w args → X w' args)
    (own : ownKnob C.prog.godebug = none) (started : os.Started) (noInit : C.prog.inits.idxOf? f = none) (hfn : C.prog.funcs[f]? = some fn)
    (witness : ∃ (w : World) (tape : Tape) (i : Input), w.os = os ∧ (w.forCall tape i).Shaped C.prog ∧ i.vars = [] ∧ Input.okWide C.prog (w.forCall tape i) .any w.heap.size f i ∧
      ((s.pre enc C.prog fn conds apart (w.forCall tape i).memory i.args ∧ X (w.forCall tape i).memory i.args) ∧ sizedMet enc C.prog fn (OpenSpec.ofChange s) apart (w.forCall tape i).memory i.args) ∧ a.holds C.prog (lone (Frame.enter C.prog f i.args .normal) [] (w.forCall tape i)))
    (contract : ∀ (W : World) (base : Nat) (args : Array Value) (ds gs : List (DataW H)) (before : List MemPlace),
      (∀ (j : Nat) t v, fn.params[j]? = some t → args[j]? = some v → Value.okWide C.prog W .any base t v) →
      DataW.Whole enc C.prog fn.params.toList s.vars apart W args.toList ds gs before → X W args → W.ShapedOpen C.prog →
      Calls C.prog f args W fun e W' => ∃ v, e = .returned v ∧ s.post enc C.prog fn apart fresh handsOn again W args v W') :
    ReturnsInHanded a C os f .any (fun w args => (s.pre enc C.prog fn conds apart w args ∧ X w args) ∧ sizedMet enc C.prog fn (OpenSpec.ofChange s) apart w args) (s.post enc C.prog fn apart fresh handsOn again) := by
  refine returnsInHanded_of_calls own started noInit witness ?_
  intro w tape i _ hsh _ hok hpre _
  obtain ⟨_, _, _, fn', hfn', _, _, _, _, hval⟩ := hok
  have e : fn' = fn := Option.some.inj (hfn'.symm.trans hfn)
  subst e
  obtain ⟨⟨⟨ds, gs, before, hw, _⟩, hx⟩, _⟩ := hpre
  have hw' := DataW.Whole.of_heap (w' := w.forCall tape i) (by rfl) hw
  refine (contract (w.forCall tape i) w.heap.size i.args ds gs before hval hw' (hX _ _ _ (by rfl) hx) hsh).mono fun e W' ⟨v, he, hp⟩ => ?_
  subst he
  exact ChangeSpec.post_blind hp
end TL

/- A closed fact of the program. -/
set_option maxRecDepth 100000
namespace Go.Proofs.YtibdhpnjjgppgabGreatDoor.wide
open Go
theorem may_enter : Tryz.pinned.checked.prog.mayEnter = true := by kernel_rfl
end Go.Proofs.YtibdhpnjjgppgabGreatDoor.wide

/- A closed fact of the program. -/
set_option maxRecDepth 100000
namespace Go.Proofs.YtibdhpnjjgppgabGreatDoor.wide
open Go
theorem lifts_are : Tryz.pinned.checked.prog.liftsFinal = Rows.fnReadJournalRow.lifted := by kernel_rfl
end Go.Proofs.YtibdhpnjjgppgabGreatDoor.wide

/- A closed fact of the program. -/
set_option maxRecDepth 100000
namespace Go.Proofs.YtibdhpnjjgppgabGreatDoor.wide
open Go
theorem make_is : Tryz.pinned.checked.prog.make = some Rows.fnReadJournalRow.make := by kernel_rfl
end Go.Proofs.YtibdhpnjjgppgabGreatDoor.wide

/- A closed fact of the program. -/
set_option maxRecDepth 100000
namespace Go.Proofs.YtibdhpnjjgppgabGreatDoor.wide
open Go
theorem main_is : Tryz.pinned.checked.prog.mainIs = some (true, "eb2a30358383d94ac6d4442f6e4e7c05350140715f867f977df87635b9a49215".toList) := by kernel_rfl
theorem looks_are : true = Tryz.pinned.checked.prog.looks [] := by kernel_rfl
end Go.Proofs.YtibdhpnjjgppgabGreatDoor.wide
