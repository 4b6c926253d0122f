/- TL: parts FnsP2, FnsP3, FnsD3b, FnsD3c, FnsD3d, FnsD3, FnsE15o, FnsE15b, FnsS0, FnsS1, FnsS2a, FnsE13. -/
import Derived.Test.YtlcgghbbjfeehaaGreatDoorGh
import Derived.Test.YtlcgghbbjfeehaaGreatDoorGg
import Derived.Test.YtlcgghbbjfeehaaGreatDoorGf
/- Journals and stores, in plain words. -/
set_option linter.unusedSimpArgs false
set_option linter.unusedVariables false
set_option maxRecDepth 100000
set_option maxHeartbeats 4000000
set_option pp.maxSteps 1500
namespace TL
open Go Go.Proofs
theorem deed_line {a : Deed} (h1 : deedTx a ≠ []) : ∀ y ∈ deedTx a, y ≠ 10 := by
  rcases deed_cases h1 with ⟨w, rfl, ⟨d, hd⟩, e⟩ | ⟨n, h0, h9, rfl, e⟩ | ⟨n, h0, h9, rfl, e⟩ | ⟨rfl, e⟩ | ⟨rfl, e⟩ <;> rw [e]
  · intro y hy
    rcases List.mem_append.1 hy with hy | hy
    · have h10 : ∀ y ∈ txSay, y ≠ (10 : UInt8) := by decide
      exact h10 y hy
    · exact (readC_clean hd y hy).2
  · intro y hy
    rcases List.mem_append.1 hy with hy | hy
    · have h10 : ∀ y ∈ txDrop, y ≠ (10 : UInt8) := by decide
      exact h10 y hy
    · exact ((good_dec h0 h9).2.2 y hy).2
  · intro y hy
    rcases List.mem_append.1 hy with hy | hy
    · have h10 : ∀ y ∈ txPeople, y ≠ (10 : UInt8) := by decide
      exact h10 y hy
    · exact ((good_dec h0 h9).2.2 y hy).2
  · decide
  · decide
theorem readJF_fuel : ∀ (f g : Nat) (s : List UInt8), s.length < f → s.length < g → readJF f s = readJF g s
  | 0, _, _, h, _ => absurd h (by omega)
  | f + 1, 0, _, _, h => absurd h (by omega)
  | f + 1, g + 1, s, hf, hg => by
    cases hc : (Go.Lib.cut s [10]).2.2
    · rw [readJF_stop (.inl hc), readJF_stop (.inl hc)]
    · cases hr : readD (Go.Lib.cut s [10]).1 with
      | none => rw [readJF_stop (.inr hr), readJF_stop (.inr hr)]
      | some a =>
        have hs := congrArg List.length (cut_found hc).1
        simp only [List.length_append, List.length_cons] at hs
        rw [readJF_step hc hr, readJF_step hc hr, readJF_fuel f g _ (by omega) (by omega)]
theorem readJ_clean {s : List UInt8} (h : ∀ y ∈ s, y ≠ 10) : readJ s = ([], 0) := readJF_stop (.inl (by rw [cut_clean h]))
theorem readJ_halt {x r : List UInt8} (h : ∀ y ∈ x, y ≠ 10) (ha : readD x = none) : readJ (x ++ 10 :: r) = ([], 0) := readJF_stop (.inr (by rw [cut_at h]; exact ha))
theorem readJ_step {x r : List UInt8} {a : Deed} (h : ∀ y ∈ x, y ≠ 10) (ha : readD x = some a) : readJ (x ++ 10 :: r) = (a :: (readJ r).1, x.length + 1 + (readJ r).2) := by
  have hc := cut_at (r := r) h
  unfold readJ
  rw [readJF_step (a := a) (by rw [hc]) (by rw [hc]; exact ha), hc]
  simp only
  rw [readJF_fuel _ (r.length + 1) r (by simp only [List.length_append, List.length_cons]; omega) (by omega)]
theorem jr_cons (a : Deed) (l : List Deed) : jr (a :: l) deedTx = deedTx a ++ 10 :: jr l deedTx := by simp [jr]
theorem jr_append (l k : List Deed) : jr (l ++ k) deedTx = jr l deedTx ++ jr k deedTx := by simp [jr]
theorem readJ_app {l : List Deed} (h : ∀ a ∈ l, deedTx a ≠ []) (r : List UInt8) : readJ (jr l deedTx ++ r) = (l ++ (readJ r).1, (jr l deedTx).length + (readJ r).2) := by
  induction l with
  | nil => simp [jr]
  | cons a l ih =>
    have h1 := h a (List.mem_cons_self ..)
    have ih := ih fun b hb => h b (List.mem_cons_of_mem _ hb)
    rw [jr_cons, List.append_assoc, List.cons_append, readJ_step (deed_line h1) (readD_some h1 rfl), ih]
    simp only [List.cons_append, List.length_append, List.length_cons, Prod.mk.injEq, true_and]; omega
theorem readJ_split : ∀ (n : Nat) (s : List UInt8), s.length ≤ n → (∀ a ∈ (readJ s).1, deedTx a ≠ []) ∧ ∃ r, s = jr (readJ s).1 deedTx ++ r ∧ (readJ s).2 = (jr (readJ s).1 deedTx).length := by
  intro n
  induction n with
  | zero =>
    intro s hs
    have : s = [] := List.length_eq_zero_iff.1 (by omega)
    subst this
    rw [readJ_clean (by simp)]
    exact ⟨by simp, [], by simp [jr], by simp [jr]⟩
  | succ n ih =>
    intro s hs
    rcases cut_first 10 s with h | ⟨x, r, rfl, h⟩
    · rw [readJ_clean h]; exact ⟨by simp, s, by simp [jr], by simp [jr]⟩
    · cases hr : readD x with
      | none => rw [readJ_halt h hr]; exact ⟨by simp, _, by simp [jr]; rfl, by simp [jr]⟩
      | some a =>
        obtain ⟨h1, r', h2, h3⟩ := ih r (by simp only [List.length_append, List.length_cons] at hs; omega)
        obtain ⟨hx, ha⟩ := readD_is hr
        rw [readJ_step h hr]
        refine ⟨fun b hb => ?_, r', ?_, ?_⟩
        · rcases List.mem_cons.1 hb with rfl | hb
          · rw [ha]; exact hx
          · exact h1 b hb
        · simp only
          rw [jr_cons, ha, List.append_assoc, List.cons_append, ← h2]
        · simp only
          rw [jr_cons, ha, h3]
          simp only [List.length_append, List.length_cons]; omega
theorem readJ_all (s : List UInt8) : ∀ a ∈ (readJ s).1, deedTx a ≠ [] := (readJ_split _ s (Nat.le_refl _)).1
theorem readJ_len (s : List UInt8) : (readJ s).2 = (jr (readJ s).1 deedTx).length := by
  obtain ⟨_, r, h1, h2⟩ := readJ_split _ s (Nat.le_refl _); exact h2
theorem readJ_take (s : List UInt8) : s.take (readJ s).2 = jr (readJ s).1 deedTx := by
  obtain ⟨_, r, h1, h2⟩ := readJ_split _ s (Nat.le_refl _)
  generalize readJ s = J at *
  rw [h2, h1, List.take_left]
theorem readJ_le (s : List UInt8) : (readJ s).2 ≤ s.length := by
  obtain ⟨_, r, h1, h2⟩ := readJ_split _ s (Nat.le_refl _)
  generalize readJ s = J at *
  rw [h2, h1]
  simp
theorem readJ_many (s : List UInt8) : (readJ s).1.length ≤ s.length := by
  have h1 := readJ_le s
  have h2 := readJ_len s
  have h3 := jr_long (readJ s).1
  omega
theorem readJ_full {s : List UInt8} (h : (readJ s).2 = s.length) : s = jr (readJ s).1 deedTx := by
  have := readJ_take s
  rw [h, List.take_length] at this
  exact this
theorem readJ_mend (s : List UInt8) : readJ (s.take (readJ s).2) = readJ s := by
  rw [readJ_take, readJ_jr (readJ_all s), ← readJ_len]
theorem readJ_pre : ∀ (n : Nat) (s : List UInt8), s.length ≤ n → ∀ k, (readJ (s.take k)).1 <+: (readJ s).1 := by
  intro n
  induction n with
  | zero =>
    intro s hs k
    have : s = [] := List.length_eq_zero_iff.1 (by omega)
    subst this
    simp
  | succ n ih =>
    intro s hs k
    rcases cut_first 10 s with h | ⟨x, r, rfl, h⟩
    · rw [readJ_clean (s := s.take k) fun y hy => h y (List.mem_of_mem_take hy)]; exact List.nil_prefix
    · by_cases hk : k ≤ x.length
      · rw [List.take_append_of_le_length hk, readJ_clean fun y hy => h y (List.mem_of_mem_take hy)]; exact List.nil_prefix
      · have e : (x ++ 10 :: r).take k = x ++ 10 :: r.take (k - x.length - 1) := by
          rw [List.take_append, List.take_of_length_le (by omega)]
          obtain ⟨j, hj⟩ : ∃ j, k - x.length = j + 1 := ⟨k - x.length - 1, by omega⟩
          rw [hj, List.take_succ_cons]; rfl
        rw [e]
        cases hr : readD x with
        | none => rw [readJ_halt h hr]; exact List.nil_prefix
        | some a =>
          rw [readJ_step h hr, readJ_step h hr]
          exact List.cons_prefix_cons.2 ⟨rfl, ih r (by simp only [List.length_append, List.length_cons] at hs; omega) _⟩
theorem readJ_prefix (s : List UInt8) (k : Nat) : (readJ (s.take k)).1 <+: (readJ s).1 := readJ_pre _ s (Nat.le_refl _) k
theorem readJ_mono (s : List UInt8) {k j : Nat} (h : k ≤ j) : (readJ (s.take k)).1 <+: (readJ (s.take j)).1 := by
  have e : s.take k = (s.take j).take k := by rw [List.take_take, Nat.min_eq_left h]
  rw [e]; exact readJ_prefix _ k
theorem readJ_snoc {s : List UInt8} (h : (readJ s).2 = s.length) {a : Deed} (ha : deedTx a ≠ []) : readJ (s ++ deedTx a ++ [10]) = ((readJ s).1 ++ [a], (s ++ deedTx a ++ [10]).length) := by
  have hs := readJ_full h
  have hall := readJ_all s
  generalize (readJ s).1 = l at *
  subst hs
  have e : jr l deedTx ++ deedTx a ++ [10] = jr (l ++ [a]) deedTx := by rw [jr_append, jr_cons]; simp [jr]
  rw [e]
  exact readJ_jr fun b hb => by
    rcases List.mem_append.1 hb with hb | hb
    · exact hall b hb
    · rw [List.mem_singleton.1 hb]; exact ha
/-! Stores. -/
noncomputable def placeOf (s : Store) : Place := (readP s.saved).getD ⟨0, []⟩
noncomputable def opened (s : Store) : Desk := (doAll ⟨placeOf s, []⟩ (readJ s.log).1).1
noncomputable def storeOpen (s : Store) : Desk := if storeOk s = true then opened s else noDeskV
theorem storeOk_iff {s : Store} : storeOk s = true ↔ (readP s.saved).isSome = true ∧ s.log.length ≤ 1000 ∧ 0 ≤ s.sure ∧ s.sure ≤ s.log.length := by
  simp only [storeOk, Bool.and_eq_true, decide_eq_true_eq, and_assoc]
theorem placeOf_ok {s : Store} (h : (readP s.saved).isSome = true) : placeOk (placeOf s) = true ∧ placeTx (placeOf s) = s.saved ∧ readP s.saved = some (placeOf s) := by
  unfold placeOf
  cases hr : readP s.saved with
  | none => rw [hr] at h; cases h
  | some p => exact ⟨(readP_is hr).1, (readP_is hr).2, rfl⟩
theorem desk_new {p : Place} (h : placeOk p = true) : deskOk ⟨p, []⟩ = true := deskOk_iff.2 ⟨by simp, h, by simp⟩
theorem opened_ok {s : Store} (h : storeOk s = true) : deskOk (opened s) = true := doAll_ok _ _ (desk_new (placeOf_ok (storeOk_iff.1 h).1).1)
noncomputable def actOk (s : Store) (a : Deed) : Bool := storeOk s && (decide ((readJ s.log).2 = s.log.length) && (deskDo (opened s) a).2 && !decide (deedTx a = []) && decide (s.log.length + (deedTx a).length + 1 ≤ 1000))
noncomputable def storeAct (s : Store) (a : Deed) : Store := if actOk s a = true then ⟨s.saved, s.log ++ deedTx a ++ [10], s.sure⟩ else if storeOk s = true then s else noStore
theorem actOk_iff {s : Store} {a : Deed} : actOk s a = true ↔ storeOk s = true ∧ (readJ s.log).2 = s.log.length ∧ (deskDo (opened s) a).2 = true ∧ deedTx a ≠ [] ∧ s.log.length + (deedTx a).length + 1 ≤ 1000 := by
  simp only [actOk, Bool.and_eq_true, decide_eq_true_eq, Bool.not_eq_true', decide_eq_false_iff_not, and_assoc, ne_eq]
theorem storeAct_yes {s : Store} {a : Deed} (h : actOk s a = true) : storeAct s a = ⟨s.saved, s.log ++ deedTx a ++ [10], s.sure⟩ := if_pos h
theorem storeAct_no {s : Store} {a : Deed} (h : actOk s a = false) (hs : storeOk s = true) : storeAct s a = s := by unfold storeAct; rw [if_neg (by simp [h]), if_pos hs]
theorem storeAct_out {s : Store} {a : Deed} (hs : storeOk s = false) : storeAct s a = noStore ∧ actOk s a = false := by
  have : actOk s a = false := by unfold actOk; rw [hs]; rfl
  exact ⟨by unfold storeAct; rw [if_neg (by simp [this]), if_neg (by simp [hs])], this⟩
theorem act_done {s : Store} {a : Deed} (h : actOk s a = true) : storeOk (storeAct s a) = true ∧ readJ (storeAct s a).log = ((readJ s.log).1 ++ [a], (storeAct s a).log.length) ∧ opened (storeAct s a) = (deskDo (opened s) a).1 ∧ (storeAct s a).log.length = s.log.length + (deedTx a).length + 1 ∧ (storeAct s a).sure = s.sure ∧ (storeAct s a).saved = s.saved := by
  obtain ⟨h1, h2, h3, h4, h5⟩ := actOk_iff.1 h
  obtain ⟨g1, g2, g3, g4⟩ := storeOk_iff.1 h1
  have hj := readJ_snoc h2 h4
  have hl : (s.log ++ deedTx a ++ [10]).length = s.log.length + (deedTx a).length + 1 := by simp; omega
  rw [storeAct_yes h]
  refine ⟨storeOk_iff.2 ⟨g1, ?_, g3, ?_⟩, hj, ?_, hl, rfl, rfl⟩
  · simp only; omega
  · simp only; omega
  · show (doAll ⟨placeOf s, []⟩ (readJ (s.log ++ deedTx a ++ [10])).1).1 = _
    rw [hj]
    simp only
    rw [doAll_snoc]
    exact if_pos h3
noncomputable def storeMend (s : Store) : Store := if storeOk s = true then ⟨s.saved, s.log.take (readJ s.log).2, min s.sure ((readJ s.log).2 : Nat)⟩ else noStore
theorem mend_done {s : Store} (h : storeOk s = true) : storeOk (storeMend s) = true ∧ readJ (storeMend s).log = ((readJ s.log).1, (storeMend s).log.length) ∧ opened (storeMend s) = opened s ∧ storeMend (storeMend s) = storeMend s ∧ (storeMend s).log.length ≤ s.log.length := by
  obtain ⟨g1, g2, g3, g4⟩ := storeOk_iff.1 h
  have hle := readJ_le s.log
  have hm := readJ_mend s.log
  have e : storeMend s = ⟨s.saved, s.log.take (readJ s.log).2, min s.sure ((readJ s.log).2 : Nat)⟩ := if_pos h
  have hlen : (s.log.take (readJ s.log).2).length = (readJ s.log).2 := by simp; omega
  have hok : storeOk (storeMend s) = true := by
    rw [e]
    exact storeOk_iff.2 ⟨g1, by simp only; omega, by simp only; omega, by simp only; omega⟩
  refine ⟨hok, ?_, ?_, ?_, ?_⟩
  · rw [e]; simp only; rw [hm, hlen]
  · rw [e]; unfold opened placeOf; simp only; rw [hm]
  · have e2 : storeMend (storeMend s) = ⟨(storeMend s).saved, (storeMend s).log.take (readJ (storeMend s).log).2, min (storeMend s).sure ((readJ (storeMend s).log).2 : Nat)⟩ := if_pos hok
    rw [e2, e]
    simp only
    rw [hm]
    congr 1
    · rw [List.take_take, Nat.min_self]
    · omega
  · rw [e]; simp only; omega
noncomputable def storeSave (s : Store) : Store := if storeOk s = true then ⟨placeTx (opened s).now, [], 0⟩ else noStore
theorem readJ_nil : readJ [] = ([], 0) := readJ_clean (by simp)
theorem new_done {p : Place} (h : placeOk p = true) : storeOk ⟨placeTx p, [], 0⟩ = true ∧ opened ⟨placeTx p, [], 0⟩ = ⟨p, []⟩ := by
  have hr := readP_some h rfl
  refine ⟨storeOk_iff.2 ⟨by simp only; rw [hr]; rfl, by simp, by simp, by simp⟩, ?_⟩
  unfold opened placeOf
  simp only
  rw [hr, readJ_nil]; rfl
theorem save_done {s : Store} (h : storeOk s = true) : storeOk (storeSave s) = true ∧ opened (storeSave s) = ⟨(opened s).now, []⟩ ∧ storeSave (storeSave s) = storeSave s ∧ storeSave s = ⟨placeTx (opened s).now, [], 0⟩ := by
  have e : storeSave s = ⟨placeTx (opened s).now, [], 0⟩ := if_pos h
  have hp := (deskOk_iff.1 (opened_ok h)).2.1
  obtain ⟨h1, h2⟩ := new_done hp
  refine ⟨by rw [e]; exact h1, by rw [e]; exact h2, ?_, e⟩
  rw [e]
  unfold storeSave
  rw [if_pos h1, h2]
/-- The first claim can be dropped, if there is one. -/
theorem drop_first {d : Desk} (h : deskOk d = true) : (deskDo d ⟨1, 0, []⟩).2 = decide (0 < d.now.story.length) := by
  obtain ⟨h1, h2, h3⟩ := deskOk_iff.1 h
  by_cases hl : 0 < d.now.story.length
  · have em : made d.now ⟨1, 0, []⟩ = ⟨d.now.people, d.now.story.eraseIdx 0⟩ := by
      unfold made
      rw [if_neg (by simp), if_pos ⟨rfl, rfl, by simp, by simp; omega⟩]; rfl
    have hg : goodDo d ⟨1, 0, []⟩ = true := by
      have hp : placeOk ⟨d.now.people, d.now.story.eraseIdx 0⟩ = true := storyOk_sub h2 (List.eraseIdx_sublist _ _)
      unfold goodDo
      rw [em, hp]
      simp only [Bool.true_and, Bool.not_eq_true', decide_eq_false_iff_not]
      intro hx
      have := congrArg (fun p => p.story.length) (placeTx_inj hp h2 hx)
      simp only [List.length_eraseIdx, hl, if_true] at this
      omega
    rw [deskDo_good h hg (by simp [isBack])]
    simp [hl]
  · have em : made d.now ⟨1, 0, []⟩ = ⟨0, []⟩ := by
      unfold made
      rw [if_neg (by simp), if_neg (fun h => by have h4 : (0 : Int) < d.now.story.length := h.2.2.2; omega), if_neg (by simp), if_neg (by simp)]
    have hg : goodDo d ⟨1, 0, []⟩ = false := by unfold goodDo; rw [em, zero_no]; rfl
    rw [deskDo_bad h hg (by simp [isBack])]
    simp [hl]
/-- What is done depends on the place alone, unless it is to be undone. -/
theorem deskDo_now {d e : Desk} (hd : deskOk d = true) (he : deskOk e = true) (hn : d.now = e.now) {a : Deed} (ha : a.kind ≠ 4) : (deskDo d a).2 = (deskDo e a).2 ∧ (deskDo d a).1.now = (deskDo e a).1.now := by
  have hb : isBack a = false := by
    simp only [isBack, decide_eq_false_iff_not]; rintro rfl; exact ha rfl
  have hg : goodDo d a = goodDo e a := by unfold goodDo; rw [hn]
  cases h : goodDo e a
  · rw [deskDo_bad hd (by rw [hg, h]) (by simp [hb]), deskDo_bad he h (by simp [hb])]; exact ⟨rfl, hn⟩
  · rw [deskDo_good hd (by rw [hg, h]) (by simp [hb]), deskDo_good he h (by simp [hb])]; exact ⟨rfl, by simp only; rw [hn]⟩
end TL

/- Stores that break down, in plain words. -/
set_option linter.unusedSimpArgs false
set_option linter.unusedVariables false
set_option maxRecDepth 100000
set_option maxHeartbeats 4000000
set_option pp.maxSteps 1500
namespace TL
open Go Go.Proofs
theorem crash_again {s : Store} {k : Int} (h : crashOk s k = true) : storeOk (storeCrash s k) = true ∧ (storeCrash s k).sure = s.sure ∧ ((storeCrash s k).log.length : Int) = k ∧ crashOk (storeCrash s k) k = true ∧ storeCrash (storeCrash s k) k = storeCrash s k ∧
    crashOk (storeCrash s k) s.sure = true ∧ crashOk s s.sure = true ∧ storeCrash (storeCrash s k) s.sure = storeCrash s s.sure ∧ storeCrash s k = ⟨s.saved, s.log.take k.toNat, s.sure⟩ := by
  have h0 := h
  simp only [crashOk, Bool.and_eq_true, decide_eq_true_eq] at h
  obtain ⟨h1, h2, h3⟩ := h
  obtain ⟨g1, g2, g3, g4⟩ := storeOk_iff.1 h1
  have e : storeCrash s k = ⟨s.saved, s.log.take k.toNat, s.sure⟩ := if_pos h0
  have hl : (s.log.take k.toNat).length = k.toNat := by simp; omega
  have hok : storeOk ⟨s.saved, s.log.take k.toNat, s.sure⟩ = true := storeOk_iff.2 ⟨g1, by simp only; omega, g3, by simp only; omega⟩
  have c1 : crashOk ⟨s.saved, s.log.take k.toNat, s.sure⟩ k = true := by
    simp only [crashOk, Bool.and_eq_true, decide_eq_true_eq]; exact ⟨hok, by omega, by omega⟩
  have c2 : crashOk ⟨s.saved, s.log.take k.toNat, s.sure⟩ s.sure = true := by
    simp only [crashOk, Bool.and_eq_true, decide_eq_true_eq]; exact ⟨hok, by omega, by omega⟩
  have c3 : crashOk s s.sure = true := by
    simp only [crashOk, Bool.and_eq_true, decide_eq_true_eq]; exact ⟨h1, by omega, by omega⟩
  rw [e]
  refine ⟨hok, rfl, by simp only; omega, c1, ?_, c2, c3, ?_, rfl⟩
  · unfold storeCrash; rw [if_pos c1, List.take_take, Nat.min_self]
  · unfold storeCrash; rw [if_pos c2, if_pos c3, List.take_take, Nat.min_eq_left (by omega)]
theorem crash_no {s : Store} {k : Int} (h : crashOk s k = false) : storeCrash s k = noStore := if_neg (by simp [h])
theorem crash_iff {s : Store} {k : Int} : crashOk s k = true ↔ storeOk s = true ∧ s.sure ≤ k ∧ k ≤ s.log.length := by
  simp only [crashOk, Bool.and_eq_true, decide_eq_true_eq]
/-- What the lost deeds, done again, have made so far. -/
structure EndInv (s x : Store) (k : Nat) : Prop where
  ok : storeOk x = true
  full : (readJ x.log).2 = x.log.length
  same : opened x = (doAll ⟨placeOf s, []⟩ ((readJ s.log).1.take k)).1
  short : x.log.length ≤ (jr ((readJ s.log).1.take k) deedTx).length
theorem end_start {s : Store} {k : Int} (h : crashOk s k = true) : EndInv s (storeMend (storeCrash s k)) (readJ (storeMend (storeCrash s k)).log).1.length ∧ (readJ (storeMend (storeCrash s k)).log).1.length ≤ (readJ s.log).1.length := by
  obtain ⟨a1, a2, a3, a4, a5, a6, a7, a8, a9⟩ := crash_again h
  obtain ⟨m1, m2, m3, m4, m5⟩ := mend_done a1
  have hp := readJ_prefix s.log k.toNat
  have e1 : (storeCrash s k).log = s.log.take k.toNat := by rw [a9]
  have e2 : placeOf (storeCrash s k) = placeOf s := by rw [a9]; rfl
  have e3 : (readJ (storeMend (storeCrash s k)).log).1 = (readJ (s.log.take k.toNat)).1 := by rw [m2, e1]
  have e4 : (readJ s.log).1.take (readJ (s.log.take k.toNat)).1.length = (readJ (s.log.take k.toNat)).1 := (List.prefix_iff_eq_take.1 hp).symm
  rw [e3]
  refine ⟨⟨m1, by rw [m2], ?_, ?_⟩, hp.length_le⟩
  · rw [m3, e4]
    unfold opened
    rw [e2, e1]
  · rw [e4]
    have := readJ_full (s := (storeMend (storeCrash s k)).log) (by rw [m2])
    rw [e3] at this
    rw [← this]; exact Nat.le_refl _
theorem jr_take_le (l : List Deed) (k : Nat) : (jr (l.take k) deedTx).length ≤ (jr l deedTx).length := by
  conv => rhs; rw [← List.take_append_drop k l, jr_append]
  simp
theorem end_step {s x : Store} {k : Nat} (hs : storeOk s = true) (h : EndInv s x k) (hk : k < (readJ s.log).1.length) : EndInv s (storeAct x (readJ s.log).1[k]) (k + 1) ∧ (actOk x (readJ s.log).1[k] = false → storeAct x (readJ s.log).1[k] = x) := by
  obtain ⟨g1, g2, g3, g4⟩ := storeOk_iff.1 hs
  have hne := readJ_all s.log _ (List.getElem_mem hk)
  have ht : (readJ s.log).1.take (k + 1) = (readJ s.log).1.take k ++ [(readJ s.log).1[k]] := List.take_succ_eq_append_getElem hk
  have hl : (jr ((readJ s.log).1.take (k + 1)) deedTx).length = (jr ((readJ s.log).1.take k) deedTx).length + (deedTx (readJ s.log).1[k]).length + 1 := by
    rw [ht, jr_append, jr_cons]; simp [jr]; omega
  have hle := jr_take_le (readJ s.log).1 (k + 1)
  rw [← readJ_len] at hle
  have hle2 := readJ_le s.log
  have hd := doAll_snoc ⟨placeOf s, []⟩ ((readJ s.log).1.take k) (readJ s.log).1[k]
  rw [← ht, ← h.same] at hd
  generalize (readJ s.log).1[k] = a at *
  cases hc : (deskDo (opened x) a).2
  · have hn : actOk x a = false := by
      cases hq : actOk x a
      · rfl
      · have := (actOk_iff.1 hq).2.2.1; rw [hc] at this; cases this
    rw [storeAct_no hn h.ok]
    rw [if_neg (by simp [hc])] at hd
    exact ⟨⟨h.ok, h.full, hd.symm, by have := h.short; omega⟩, fun _ => rfl⟩
  · have hy : actOk x a = true := actOk_iff.2 ⟨h.ok, h.full, hc, hne, by have := h.short; omega⟩
    obtain ⟨b1, b2, b3, b4, b5, b6⟩ := act_done hy
    rw [if_pos hc] at hd
    exact ⟨⟨b1, by rw [b2], by rw [b3, hd], by have := h.short; omega⟩, fun h => by rw [hy] at h; cases h⟩
theorem end_end {s x : Store} (h : EndInv s x (readJ s.log).1.length) : opened x = opened s := by
  rw [h.same, List.take_length]; rfl
/-- What is sure is never lost. -/
theorem never_facts {s : Store} (hs : storeOk s = true) {k : Int} (h1 : s.sure ≤ k) (h2 : k ≤ s.log.length) :
    crashOk s k = true ∧ (storeCrash s k).log = s.log.take k.toNat ∧ storeOk (storeCrash s k) = true ∧ (readJ (s.log.take k.toNat)).1.length ≤ (readJ s.log).1.length ∧ (readJ (s.log.take s.sure.toNat)).1.length ≤ (readJ (s.log.take k.toNat)).1.length ∧
    (readJ s.log).1.take (readJ (s.log.take k.toNat)).1.length = (readJ (s.log.take k.toNat)).1 ∧ opened (storeCrash s k) = (doAll ⟨placeOf s, []⟩ (readJ (s.log.take k.toNat)).1).1 := by
  have hc := crash_iff.2 ⟨hs, h1, h2⟩
  obtain ⟨a1, a2, a3, a4, a5, a6, a7, a8, a9⟩ := crash_again hc
  have hp := readJ_prefix s.log k.toNat
  have hm := readJ_mono s.log (show s.sure.toNat ≤ k.toNat by omega)
  refine ⟨hc, by rw [a9], a1, hp.length_le, hm.length_le, (List.prefix_iff_eq_take.1 hp).symm, ?_⟩
  rw [a9]; rfl
end TL

/- Deeds at a desk: the program. -/
set_option linter.unusedSimpArgs false
set_option linter.unusedVariables false
set_option maxRecDepth 100000
set_option maxHeartbeats 4000000
set_option pp.maxSteps 1500
namespace TL
open Go Go.Proofs
attribute [local simp] marksV storyV codeV Claim.v Place.v Deed.v Desk.v
theorem do_least (d : Desk)  (hd : d.small) (hk : deskOk d = true) (X : Place) (hXl : X.story.length ≤ 7) (hX : X = ⟨d.now.people, least d.now.people.toNat d.now.story⟩) :
    FnZ Tryz.prog 34 [d.v, (⟨3, 0, []⟩ : Deed).v] (.tup [(if (placeOk X && !decide (placeTx X = placeTx d.now)) = true then ((⟨X, keep8 (d.past ++ [d.now])⟩, true) : Desk × Bool) else (d, false)).1.v, .bool (if (placeOk X && !decide (placeTx X = placeTx d.now)) = true then ((⟨X, keep8 (d.past ++ [d.now])⟩, true) : Desk × Bool) else (d, false)).2]) := by
  have hpo := placeOk_fn X (by omega)
  have hpt := placeText_fn X (by omega)
  have hpn := placeText_fn d.now (by have := hd.1.1; omega)
  have hcn := copyPlace_fn d.now hd.1
  have hok := deskOk_fn d (by have := hd.2.1; omega) (by have := hd.1.1; omega) (fun p hp => by have := (hd.2.2 p hp).1; omega)
  rw [hk] at hok
  obtain ⟨hpast, hnow, hp8⟩ := deskOk_iff.1 hk
  have hcopy := fun m n => copyDesk_own d hd m n
  have fullb : (d.past.length + 1) * 32 ≤ 140737488355328 := by omega
  have zplaces : allZ 2 (List.map Place.v d.past ++ [d.now.v]) := fun x hx => by
    rcases List.mem_append.1 hx with hx | hx
    · obtain ⟨p, _, rfl⟩ := List.mem_map.1 hx; exact ⟨by simp, by simp⟩
    · rw [List.mem_singleton.1 hx]; exact ⟨by simp, by simp⟩
  have hR : placeOk X = true → ∀ l, keep8 (d.past ++ [d.now]) = l → ∀ m n, FnS Tryz.prog 63 m n [.v (⟨X, l⟩ : Desk).v] (OwnDeskL ⟨X, l⟩ m n) := fun hX l hl m n => copyDesk_own ⟨X, l⟩ (desk_fine (deskOk_iff.2 ⟨fun p hp => by
    rw [← hl] at hp
    rcases List.mem_append.1 (keep8_mem hp) with h1 | h1
    · exact hpast p h1
    · rw [List.mem_singleton.1 h1]; exact hnow, hX, by rw [← hl]; exact keep8_len _ (by simp; omega)⟩)).1 m n
  have hls := leastStory_fn d.now.people d.now.story hnow
  have hkX := ft (placeOk X)
  have htx : placeTx X = placeTx d.now ∨ ¬ placeTx X = placeTx d.now := Classical.em _
  generalize placeTx X = tX at *
  generalize placeTx d.now = tN at *
  generalize placeOk X = okX at *
  subst hX
  generalize least d.now.people.toNat d.now.story = R at *
  refine FnZ_of (rs := [.cell 4 40, .tmp 5]) false Tryz.func34 rfl rfl rfl rfl (Nat.le_of_ble_eq_true rfl) ?_
  simp -dsimp
  refine call_ hok (by simp -dsimp) ?_
  simp -dsimp
  refine callL_ (vs := [d.v]) (hcopy _ _) (by simp -dsimp) ?_
  rintro t m1 n1 ⟨hn1, hout, id, st, rfl, hi0, hi1, him, hst, hne⟩
  have k0 := hout 0 (by omega)
  have k1 := hout 1 (by omega)
  have k2 := hout 2 (by omega)
  simp -dsimp at k0 k1 k2
  have f0 := far (show 0 < n1 by omega)
  have f1 := far (show 1 < n1 by omega)
  have f2 := far (show 2 < n1 by omega)
  have z1 : ¬ n1 = 0 := by omega
  have z2 : ¬ n1 = 1 := by omega
  have z3 : ¬ n1 = 2 := by omega
  have g1 := far hi1
  have y0 : ¬ id = 0 := by omega
  have y1 : ¬ id = 1 := by omega
  have y2 : ¬ id = 2 := by omega
  have yn : ¬ id = n1 := by omega
  have hc := hst.cell
  rcases hst with ⟨rfl, hs0⟩ | ⟨r, rfl, hr0, hr1, hrm⟩
  · have hp0 : d.past = [] := by simpa using hs0
    simp -dsimp [nes8 n1, k0, k1, k2, f0, f1, f2, z1, z2, z3, nes, g1, y0, y1, y2, yn, Ne.symm y0, Ne.symm y1, Ne.symm y2, him, hc]
    refine twp_draw (List.range 16) [n1] (List.replicate 12 [0] ++ [[], [], [], []]) (List.replicate 15 [0] ++ [[]]) (by kernel_rfl) (by kernel_rfl) (by kernel_rfl) (by kernel_rfl) ?_
    simp -dsimp [List.range_succ, nes8 n1, k0, k1, k2, f0, f1, f2, z1, z2, z3, nes, g1, y0, y1, y2, yn, Ne.symm y0, Ne.symm y1, Ne.symm y2, him, hc]
    refine call_ hls (by simp -dsimp [nes8 n1, k0, k1, k2, f0, f1, f2, z1, z2, z3, nes, g1, y0, y1, y2, yn, Ne.symm y0, Ne.symm y1, Ne.symm y2, him, hc]) ?_
    simp -dsimp [List.range_succ, nes8 n1, k0, k1, k2, f0, f1, f2, z1, z2, z3, nes, g1, y0, y1, y2, yn, Ne.symm y0, Ne.symm y1, Ne.symm y2, him, hc]
    refine twp_draw [0, 1, 2, 3, 4, 5, 6, 7, 8, 10, 11, 9, 12, 13, 14] [0, n1] (List.replicate 15 [0, 1]) (List.replicate 15 [0, 1]) (by kernel_rfl) (by kernel_rfl) (by kernel_rfl) (by kernel_rfl) ?_
    simp -dsimp [nes8 n1, k0, k1, k2, f0, f1, f2, z1, z2, z3, nes, g1, y0, y1, y2, yn, Ne.symm y0, Ne.symm y1, Ne.symm y2, him, hc, hp0]
    refine call_ hpo (by simp -dsimp [nes8 n1, k0, k1, k2, f0, f1, f2, z1, z2, z3, nes, g1, y0, y1, y2, yn, Ne.symm y0, Ne.symm y1, Ne.symm y2, him, hc, hp0]) ?_
    rcases hkX with rfl | rfl
    · simp -dsimp [nes8 n1, k0, k1, k2, f0, f1, f2, z1, z2, z3, nes, g1, y0, y1, y2, yn, Ne.symm y0, Ne.symm y1, Ne.symm y2, him, hc, hp0]
      refine callL_ (vs := [d.v]) (hcopy _ _) (by simp -dsimp [hc, hp0]) ?_
      rintro t m2 n2 ⟨hn2, hout2, id2, st2, rfl, hj0, hj1, hjm, hst2, hne2⟩
      have q2 := hout2 2 (by omega)
      simp -dsimp [nes8 n1, k0, k1, k2, f0, f1, f2, z1, z2, z3, nes, g1, y0, y1, y2, yn, Ne.symm y0, Ne.symm y1, Ne.symm y2, him] at q2
      have hc2 := hst2.cell
      have u2 : ¬ id2 = 2 := by omega
      rcases hst2 with ⟨rfl, hs2⟩ | ⟨r2, rfl, hr0, hr1, hrm2⟩
      · simp -dsimp [q2, hjm, u2, Ne.symm u2, hs2]
      · have u4 : ¬ r2 = 2 := by omega
        simp -dsimp [q2, hjm, hrm2, u2, u4, Ne.symm u2, Ne.symm u4]
    simp -dsimp [nes8 n1, k0, k1, k2, f0, f1, f2, z1, z2, z3, nes, g1, y0, y1, y2, yn, Ne.symm y0, Ne.symm y1, Ne.symm y2, him, hc, hp0]
    refine call_ hpt (by simp -dsimp [nes8 n1, k0, k1, k2, f0, f1, f2, z1, z2, z3, nes, g1, y0, y1, y2, yn, Ne.symm y0, Ne.symm y1, Ne.symm y2, him, hc, hp0]) ?_
    simp -dsimp [nes8 n1, k0, k1, k2, f0, f1, f2, z1, z2, z3, nes, g1, y0, y1, y2, yn, Ne.symm y0, Ne.symm y1, Ne.symm y2, him, hc, hp0]
    refine call_ hpn (by simp -dsimp) ?_
    rcases htx with rfl | htx
    · simp -dsimp [nes8 n1, k0, k1, k2, f0, f1, f2, z1, z2, z3, nes, g1, y0, y1, y2, yn, Ne.symm y0, Ne.symm y1, Ne.symm y2, him, hc, hp0]
      refine callL_ (vs := [d.v]) (hcopy _ _) (by simp -dsimp [hc, hp0]) ?_
      rintro t m2 n2 ⟨hn2, hout2, id2, st2, rfl, hj0, hj1, hjm, hst2, hne2⟩
      have q2 := hout2 2 (by omega)
      simp -dsimp [nes8 n1, k0, k1, k2, f0, f1, f2, z1, z2, z3, nes, g1, y0, y1, y2, yn, Ne.symm y0, Ne.symm y1, Ne.symm y2, him] at q2
      have hc2 := hst2.cell
      have u2 : ¬ id2 = 2 := by omega
      rcases hst2 with ⟨rfl, hs2⟩ | ⟨r2, rfl, hr0, hr1, hrm2⟩
      · simp -dsimp [q2, hjm, u2, Ne.symm u2, hs2]
      · have u4 : ¬ r2 = 2 := by omega
        simp -dsimp [q2, hjm, hrm2, u2, u4, Ne.symm u2, Ne.symm u4]
    have hRs := hR rfl
    simp -dsimp [nes8 n1, k0, k1, k2, f0, f1, f2, z1, z2, z3, nes, g1, y0, y1, y2, yn, Ne.symm y0, Ne.symm y1, Ne.symm y2, him, hc, hp0, htx]
    refine twp_draw (List.range 9) [0, n1] (List.replicate 9 [0, 1]) (List.replicate 8 [0, 1] ++ [[0]]) (by kernel_rfl) (by kernel_rfl) (by kernel_rfl) (by kernel_rfl) ?_
    simp -dsimp [List.range_succ, nes8 n1, k0, k1, k2, f0, f1, f2, z1, z2, z3, nes, g1, y0, y1, y2, yn, Ne.symm y0, Ne.symm y1, Ne.symm y2, him, hc, hp0, htx]
    refine call_ hcn (by simp -dsimp) ?_
    have hR2 := hRs [d.now] (by rw [hp0]; rfl)
    simp -dsimp [List.range_succ, nes8 n1, k0, k1, k2, f0, f1, f2, z1, z2, z3, nes, g1, y0, y1, y2, yn, Ne.symm y0, Ne.symm y1, Ne.symm y2, him, hc, hp0, htx]
    refine callL_ (vs := [(⟨⟨d.now.people, R⟩, [d.now]⟩ : Desk).v]) (hR2 _ _) (by simp -dsimp [nes8 n1, k0, k1, k2, f0, f1, f2, z1, z2, z3, nes, g1, y0, y1, y2, yn, Ne.symm y0, Ne.symm y1, Ne.symm y2, him, hc, hp0]) ?_
    rintro t m2 n2 ⟨hn2, hout2, id2, st2, rfl, hj0, hj1, hjm, hst2, hne2⟩
    have q2 := hout2 2 (by omega)
    simp -dsimp [nes8 n1, k0, k1, k2, f0, f1, f2, z1, z2, z3, nes, g1, y0, y1, y2, yn, Ne.symm y0, Ne.symm y1, Ne.symm y2, him] at q2
    have hc2 := hst2.cell
    have u2 : ¬ id2 = 2 := by omega
    rcases hst2 with ⟨rfl, hs2⟩ | ⟨r2, rfl, hr0, hr1, hrm2⟩
    · simp -dsimp [q2, hjm, u2, Ne.symm u2, hs2, htx, hp0, keep8]
    · have u4 : ¬ r2 = 2 := by omega
      simp -dsimp [q2, hjm, hrm2, u2, u4, Ne.symm u2, Ne.symm u4, htx, hp0, keep8]
  · have g2 := far hr1
    have x0 : ¬ r = 0 := by omega
    have x1 : ¬ r = 1 := by omega
    have x2 : ¬ r = 2 := by omega
    have xi : ¬ r = id := fun h => hne (by rw [h])
    simp -dsimp [nes8 n1, k0, k1, k2, f0, f1, f2, z1, z2, z3, nes, g1, y0, y1, y2, yn, Ne.symm y0, Ne.symm y1, Ne.symm y2, him, g2, x0, x1, x2, xi, Ne.symm x0, Ne.symm x1, Ne.symm x2, Ne.symm xi, hrm, hc]
    refine twp_draw (List.range 16) [n1] (List.replicate 12 [0] ++ [[], [], [], []]) (List.replicate 15 [0] ++ [[]]) (by kernel_rfl) (by kernel_rfl) (by kernel_rfl) (by kernel_rfl) ?_
    simp -dsimp [List.range_succ, nes8 n1, k0, k1, k2, f0, f1, f2, z1, z2, z3, nes, g1, y0, y1, y2, yn, Ne.symm y0, Ne.symm y1, Ne.symm y2, him, g2, x0, x1, x2, xi, Ne.symm x0, Ne.symm x1, Ne.symm x2, Ne.symm xi, hrm, hc]
    refine call_ hls (by simp -dsimp [nes8 n1, k0, k1, k2, f0, f1, f2, z1, z2, z3, nes, g1, y0, y1, y2, yn, Ne.symm y0, Ne.symm y1, Ne.symm y2, him, g2, x0, x1, x2, xi, Ne.symm x0, Ne.symm x1, Ne.symm x2, Ne.symm xi, hrm, hc]) ?_
    simp -dsimp [List.range_succ, nes8 n1, k0, k1, k2, f0, f1, f2, z1, z2, z3, nes, g1, y0, y1, y2, yn, Ne.symm y0, Ne.symm y1, Ne.symm y2, him, g2, x0, x1, x2, xi, Ne.symm x0, Ne.symm x1, Ne.symm x2, Ne.symm xi, hrm, hc]
    refine twp_draw [0, 1, 2, 3, 4, 5, 6, 7, 8, 10, 11, 9, 12, 13, 14] [0, n1] (List.replicate 15 [0, 1]) (List.replicate 15 [0, 1]) (by kernel_rfl) (by kernel_rfl) (by kernel_rfl) (by kernel_rfl) ?_
    simp -dsimp [nes8 n1, k0, k1, k2, f0, f1, f2, z1, z2, z3, nes, g1, y0, y1, y2, yn, Ne.symm y0, Ne.symm y1, Ne.symm y2, him, g2, x0, x1, x2, xi, Ne.symm x0, Ne.symm x1, Ne.symm x2, Ne.symm xi, hrm, hc]
    refine call_ hpo (by simp -dsimp [nes8 n1, k0, k1, k2, f0, f1, f2, z1, z2, z3, nes, g1, y0, y1, y2, yn, Ne.symm y0, Ne.symm y1, Ne.symm y2, him, g2, x0, x1, x2, xi, Ne.symm x0, Ne.symm x1, Ne.symm x2, Ne.symm xi, hrm, hc]) ?_
    rcases hkX with rfl | rfl
    · simp -dsimp [nes8 n1, k0, k1, k2, f0, f1, f2, z1, z2, z3, nes, g1, y0, y1, y2, yn, Ne.symm y0, Ne.symm y1, Ne.symm y2, him, g2, x0, x1, x2, xi, Ne.symm x0, Ne.symm x1, Ne.symm x2, Ne.symm xi, hrm, hc]
      refine callL_ (vs := [d.v]) (hcopy _ _) (by simp -dsimp [hc]) ?_
      rintro t m2 n2 ⟨hn2, hout2, id2, st2, rfl, hj0, hj1, hjm, hst2, hne2⟩
      have q2 := hout2 2 (by omega)
      simp -dsimp [nes8 n1, k0, k1, k2, f0, f1, f2, z1, z2, z3, nes, g1, y0, y1, y2, yn, Ne.symm y0, Ne.symm y1, Ne.symm y2, him, g2, x0, x1, x2, xi, Ne.symm x0, Ne.symm x1, Ne.symm x2, Ne.symm xi, hrm] at q2
      have hc2 := hst2.cell
      have u2 : ¬ id2 = 2 := by omega
      rcases hst2 with ⟨rfl, hs2⟩ | ⟨r2, rfl, hr0, hr1, hrm2⟩
      · simp -dsimp [q2, hjm, u2, Ne.symm u2, hs2]
      · have u4 : ¬ r2 = 2 := by omega
        simp -dsimp [q2, hjm, hrm2, u2, u4, Ne.symm u2, Ne.symm u4]
    simp -dsimp [nes8 n1, k0, k1, k2, f0, f1, f2, z1, z2, z3, nes, g1, y0, y1, y2, yn, Ne.symm y0, Ne.symm y1, Ne.symm y2, him, g2, x0, x1, x2, xi, Ne.symm x0, Ne.symm x1, Ne.symm x2, Ne.symm xi, hrm, hc]
    refine call_ hpt (by simp -dsimp [nes8 n1, k0, k1, k2, f0, f1, f2, z1, z2, z3, nes, g1, y0, y1, y2, yn, Ne.symm y0, Ne.symm y1, Ne.symm y2, him, g2, x0, x1, x2, xi, Ne.symm x0, Ne.symm x1, Ne.symm x2, Ne.symm xi, hrm, hc]) ?_
    simp -dsimp [nes8 n1, k0, k1, k2, f0, f1, f2, z1, z2, z3, nes, g1, y0, y1, y2, yn, Ne.symm y0, Ne.symm y1, Ne.symm y2, him, g2, x0, x1, x2, xi, Ne.symm x0, Ne.symm x1, Ne.symm x2, Ne.symm xi, hrm, hc]
    refine call_ hpn (by simp -dsimp) ?_
    rcases htx with rfl | htx
    · simp -dsimp [nes8 n1, k0, k1, k2, f0, f1, f2, z1, z2, z3, nes, g1, y0, y1, y2, yn, Ne.symm y0, Ne.symm y1, Ne.symm y2, him, g2, x0, x1, x2, xi, Ne.symm x0, Ne.symm x1, Ne.symm x2, Ne.symm xi, hrm, hc]
      refine callL_ (vs := [d.v]) (hcopy _ _) (by simp -dsimp [hc]) ?_
      rintro t m2 n2 ⟨hn2, hout2, id2, st2, rfl, hj0, hj1, hjm, hst2, hne2⟩
      have q2 := hout2 2 (by omega)
      simp -dsimp [nes8 n1, k0, k1, k2, f0, f1, f2, z1, z2, z3, nes, g1, y0, y1, y2, yn, Ne.symm y0, Ne.symm y1, Ne.symm y2, him, g2, x0, x1, x2, xi, Ne.symm x0, Ne.symm x1, Ne.symm x2, Ne.symm xi, hrm] at q2
      have hc2 := hst2.cell
      have u2 : ¬ id2 = 2 := by omega
      rcases hst2 with ⟨rfl, hs2⟩ | ⟨r2, rfl, hr0, hr1, hrm2⟩
      · simp -dsimp [q2, hjm, u2, Ne.symm u2, hs2]
      · have u4 : ¬ r2 = 2 := by omega
        simp -dsimp [q2, hjm, hrm2, u2, u4, Ne.symm u2, Ne.symm u4]
    have hRs := hR rfl
    simp -dsimp [nes8 n1, k0, k1, k2, f0, f1, f2, z1, z2, z3, nes, g1, y0, y1, y2, yn, Ne.symm y0, Ne.symm y1, Ne.symm y2, him, g2, x0, x1, x2, xi, Ne.symm x0, Ne.symm x1, Ne.symm x2, Ne.symm xi, hrm, hc, htx]
    refine twp_draw (List.range 9) [0, n1] (List.replicate 9 [0, 1]) (List.replicate 8 [0, 1] ++ [[0]]) (by kernel_rfl) (by kernel_rfl) (by kernel_rfl) (by kernel_rfl) ?_
    simp -dsimp [List.range_succ, nes8 n1, k0, k1, k2, f0, f1, f2, z1, z2, z3, nes, g1, y0, y1, y2, yn, Ne.symm y0, Ne.symm y1, Ne.symm y2, him, g2, x0, x1, x2, xi, Ne.symm x0, Ne.symm x1, Ne.symm x2, Ne.symm xi, hrm, hc, htx]
    refine call_ hcn (by simp -dsimp) ?_
    by_cases h8 : d.past.length = 8
    · have e8 : (d.past.length : Int) = 8 := by omega
      have ek : keep8 (d.past ++ [d.now]) = (d.past ++ [d.now]).tail := by unfold keep8; rw [if_pos (by simp [h8])]; simp
      have hR2 := hRs (d.past ++ [d.now]).tail ek
      have tk : List.take 9 (List.map Place.v d.past ++ [d.now.v]) = List.map Place.v d.past ++ [d.now.v] := List.take_of_length_le (by simp [h8])
      have zk : allZ 2 (List.map Place.v d.past ++ [d.now.v]).tail := fun x hx => zplaces x (List.mem_of_mem_tail hx)
      simp only [Place.v, storyV] at tk zk
      simp -dsimp [List.range_succ, nes8 n1, k0, k1, k2, f0, f1, f2, z1, z2, z3, nes, g1, y0, y1, y2, yn, Ne.symm y0, Ne.symm y1, Ne.symm y2, him, g2, x0, x1, x2, xi, Ne.symm x0, Ne.symm x1, Ne.symm x2, Ne.symm xi, hrm, hc, htx, fullb, h8, e8, tk, zk]
      refine callL_ (vs := [(⟨⟨d.now.people, R⟩, (d.past ++ [d.now]).tail⟩ : Desk).v]) (hR2 _ _) (by simp -dsimp [nes8 n1, k0, k1, k2, f0, f1, f2, z1, z2, z3, nes, g1, y0, y1, y2, yn, Ne.symm y0, Ne.symm y1, Ne.symm y2, him, g2, x0, x1, x2, xi, Ne.symm x0, Ne.symm x1, Ne.symm x2, Ne.symm xi, hrm, hc, List.map_tail, List.map_append]) ?_
      rintro t m2 n2 ⟨hn2, hout2, id2, st2, rfl, hj0, hj1, hjm, hst2, hne2⟩
      have q2 := hout2 2 (by omega)
      simp -dsimp [nes8 n1, k0, k1, k2, f0, f1, f2, z1, z2, z3, nes, g1, y0, y1, y2, yn, Ne.symm y0, Ne.symm y1, Ne.symm y2, him, g2, x0, x1, x2, xi, Ne.symm x0, Ne.symm x1, Ne.symm x2, Ne.symm xi, hrm] at q2
      have hc2 := hst2.cell
      have u2 : ¬ id2 = 2 := by omega
      rcases hst2 with ⟨rfl, hs2⟩ | ⟨r2, rfl, hr0, hr1, hrm2⟩
      · simp -dsimp [q2, hjm, u2, Ne.symm u2, hs2, htx, ek]
      · have u4 : ¬ r2 = 2 := by omega
        simp -dsimp [q2, hjm, hrm2, u2, u4, Ne.symm u2, Ne.symm u4, htx, ek]
    · have e8 : d.past.length < 8 := by omega
      have e8' : ¬ (8 : Int) < (d.past.length : Int) + 1 := by omega
      have e8'' : ¬ 8 < d.past.length + 1 := by omega
      have ek : keep8 (d.past ++ [d.now]) = d.past ++ [d.now] := by unfold keep8; rw [if_neg (by simp; omega)]
      have hR2 := hRs (d.past ++ [d.now]) ek
      simp -dsimp [List.range_succ, nes8 n1, k0, k1, k2, f0, f1, f2, z1, z2, z3, nes, g1, y0, y1, y2, yn, Ne.symm y0, Ne.symm y1, Ne.symm y2, him, g2, x0, x1, x2, xi, Ne.symm x0, Ne.symm x1, Ne.symm x2, Ne.symm xi, hrm, hc, htx, fullb, h8, e8, e8', e8'']
      refine callL_ (vs := [(⟨⟨d.now.people, R⟩, d.past ++ [d.now]⟩ : Desk).v]) (hR2 _ _) (by simp -dsimp [nes8 n1, k0, k1, k2, f0, f1, f2, z1, z2, z3, nes, g1, y0, y1, y2, yn, Ne.symm y0, Ne.symm y1, Ne.symm y2, him, g2, x0, x1, x2, xi, Ne.symm x0, Ne.symm x1, Ne.symm x2, Ne.symm xi, hrm, hc]) ?_
      rintro t m2 n2 ⟨hn2, hout2, id2, st2, rfl, hj0, hj1, hjm, hst2, hne2⟩
      have q2 := hout2 2 (by omega)
      simp -dsimp [nes8 n1, k0, k1, k2, f0, f1, f2, z1, z2, z3, nes, g1, y0, y1, y2, yn, Ne.symm y0, Ne.symm y1, Ne.symm y2, him, g2, x0, x1, x2, xi, Ne.symm x0, Ne.symm x1, Ne.symm x2, Ne.symm xi, hrm] at q2
      have hc2 := hst2.cell
      have u2 : ¬ id2 = 2 := by omega
      rcases hst2 with ⟨rfl, hs2⟩ | ⟨r2, rfl, hr0, hr1, hrm2⟩
      · simp -dsimp [q2, hjm, u2, Ne.symm u2, hs2, htx, ek]
      · have u4 : ¬ r2 = 2 := by omega
        simp -dsimp [q2, hjm, hrm2, u2, u4, Ne.symm u2, Ne.symm u4, htx, ek]
end TL

/- Deeds at a desk: the program. -/
set_option linter.unusedSimpArgs false
set_option linter.unusedVariables false
set_option maxRecDepth 100000
set_option maxHeartbeats 4000000
set_option pp.maxSteps 1500
namespace TL
open Go Go.Proofs
attribute [local simp] marksV storyV codeV Claim.v Place.v Deed.v Desk.v
theorem do_drop (d : Desk) (k : Nat) (hd : d.small) (hk : deskOk d = true) (X : Place) (hXl : X.story.length ≤ 7) (hlt : k < d.now.story.length) (hX : X = ⟨d.now.people, d.now.story.eraseIdx k⟩) :
    FnZ Tryz.prog 34 [d.v, (⟨1, (k : Int), []⟩ : Deed).v] (.tup [(if (placeOk X && !decide (placeTx X = placeTx d.now)) = true then ((⟨X, keep8 (d.past ++ [d.now])⟩, true) : Desk × Bool) else (d, false)).1.v, .bool (if (placeOk X && !decide (placeTx X = placeTx d.now)) = true then ((⟨X, keep8 (d.past ++ [d.now])⟩, true) : Desk × Bool) else (d, false)).2]) := by
  have hpo := placeOk_fn X (by omega)
  have hpt := placeText_fn X (by omega)
  have hpn := placeText_fn d.now (by have := hd.1.1; omega)
  have hcn := copyPlace_fn d.now hd.1
  have hok := deskOk_fn d (by have := hd.2.1; omega) (by have := hd.1.1; omega) (fun p hp => by have := (hd.2.2 p hp).1; omega)
  rw [hk] at hok
  obtain ⟨hpast, hnow, hp8⟩ := deskOk_iff.1 hk
  have hcopy := fun m n => copyDesk_own d hd m n
  have fullb : (d.past.length + 1) * 32 ≤ 140737488355328 := by omega
  have zplaces : allZ 2 (List.map Place.v d.past ++ [d.now.v]) := fun x hx => by
    rcases List.mem_append.1 hx with hx | hx
    · obtain ⟨p, _, rfl⟩ := List.mem_map.1 hx; exact ⟨by simp, by simp⟩
    · rw [List.mem_singleton.1 hx]; exact ⟨by simp, by simp⟩
  have hR : placeOk X = true → ∀ l, keep8 (d.past ++ [d.now]) = l → ∀ m n, FnS Tryz.prog 63 m n [.v (⟨X, l⟩ : Desk).v] (OwnDeskL ⟨X, l⟩ m n) := fun hX l hl m n => copyDesk_own ⟨X, l⟩ (desk_fine (deskOk_iff.2 ⟨fun p hp => by
    rw [← hl] at hp
    rcases List.mem_append.1 (keep8_mem hp) with h1 | h1
    · exact hpast p h1
    · rw [List.mem_singleton.1 h1]; exact hnow, hX, by rw [← hl]; exact keep8_len _ (by simp; omega)⟩)).1 m n
  have hw := without_fn d.now.story k hlt (by have := hd.1.1; omega)
  have hkX := ft (placeOk X)
  have htx : placeTx X = placeTx d.now ∨ ¬ placeTx X = placeTx d.now := Classical.em _
  generalize placeTx X = tX at *
  generalize placeTx d.now = tN at *
  generalize placeOk X = okX at *
  subst hX
  have c1 : ¬ (d.now.story.length : Int) ≤ k := by omega
  have c2 : ¬ d.now.story.length ≤ k := by omega
  have c3 : ¬ (k : Int) < 0 := by omega
  generalize d.now.story.eraseIdx k = R at *
  refine FnZ_of (rs := [.cell 4 40, .tmp 5]) false Tryz.func34 rfl rfl rfl rfl (Nat.le_of_ble_eq_true rfl) ?_
  simp -dsimp
  refine call_ hok (by simp -dsimp) ?_
  simp -dsimp
  refine callL_ (vs := [d.v]) (hcopy _ _) (by simp -dsimp) ?_
  rintro t m1 n1 ⟨hn1, hout, id, st, rfl, hi0, hi1, him, hst, hne⟩
  have k0 := hout 0 (by omega)
  have k1 := hout 1 (by omega)
  have k2 := hout 2 (by omega)
  simp -dsimp at k0 k1 k2
  have f0 := far (show 0 < n1 by omega)
  have f1 := far (show 1 < n1 by omega)
  have f2 := far (show 2 < n1 by omega)
  have z1 : ¬ n1 = 0 := by omega
  have z2 : ¬ n1 = 1 := by omega
  have z3 : ¬ n1 = 2 := by omega
  have g1 := far hi1
  have y0 : ¬ id = 0 := by omega
  have y1 : ¬ id = 1 := by omega
  have y2 : ¬ id = 2 := by omega
  have yn : ¬ id = n1 := by omega
  have hc := hst.cell
  rcases hst with ⟨rfl, hs0⟩ | ⟨r, rfl, hr0, hr1, hrm⟩
  · have hp0 : d.past = [] := by simpa using hs0
    simp -dsimp [nes8 n1, k0, k1, k2, f0, f1, f2, z1, z2, z3, nes, g1, y0, y1, y2, yn, Ne.symm y0, Ne.symm y1, Ne.symm y2, him, hc, c1, c2, c3]
    refine twp_draw (List.range 13) [1, n1, id] (List.replicate 13 [0, 1, 2]) (List.replicate 13 [0, 1, 2]) (by kernel_rfl) (by kernel_rfl) (by kernel_rfl) (by kernel_rfl) ?_
    simp -dsimp [List.range_succ, nes8 n1, k0, k1, k2, f0, f1, f2, z1, z2, z3, nes, g1, y0, y1, y2, yn, Ne.symm y0, Ne.symm y1, Ne.symm y2, him, hc, c1, c2, c3]
    refine twp_draw (List.range 11) [1, n1] (List.replicate 8 [0, 1] ++ [[], [], []]) (List.replicate 10 [0, 1] ++ [[0]]) (by kernel_rfl) (by kernel_rfl) (by kernel_rfl) (by kernel_rfl) ?_
    simp -dsimp [List.range_succ, nes8 n1, k0, k1, k2, f0, f1, f2, z1, z2, z3, nes, g1, y0, y1, y2, yn, Ne.symm y0, Ne.symm y1, Ne.symm y2, him, hc, c1, c2, c3]
    refine call_ hw (by simp -dsimp [nes8 n1, k0, k1, k2, f0, f1, f2, z1, z2, z3, nes, g1, y0, y1, y2, yn, Ne.symm y0, Ne.symm y1, Ne.symm y2, him, hc, c1, c2, c3]) ?_
    simp -dsimp [List.range_succ, nes8 n1, k0, k1, k2, f0, f1, f2, z1, z2, z3, nes, g1, y0, y1, y2, yn, Ne.symm y0, Ne.symm y1, Ne.symm y2, him, hc, c1, c2, c3]
    refine twp_draw [0, 1, 2, 3, 4, 5, 6, 7, 8, 10, 11, 9, 12, 13, 14] [0, n1] (List.replicate 15 [0, 1]) (List.replicate 15 [0, 1]) (by kernel_rfl) (by kernel_rfl) (by kernel_rfl) (by kernel_rfl) ?_
    simp -dsimp [nes8 n1, k0, k1, k2, f0, f1, f2, z1, z2, z3, nes, g1, y0, y1, y2, yn, Ne.symm y0, Ne.symm y1, Ne.symm y2, him, hc, c1, c2, c3, hp0]
    refine call_ hpo (by simp -dsimp [nes8 n1, k0, k1, k2, f0, f1, f2, z1, z2, z3, nes, g1, y0, y1, y2, yn, Ne.symm y0, Ne.symm y1, Ne.symm y2, him, hc, c1, c2, c3, hp0]) ?_
    rcases hkX with rfl | rfl
    · simp -dsimp [nes8 n1, k0, k1, k2, f0, f1, f2, z1, z2, z3, nes, g1, y0, y1, y2, yn, Ne.symm y0, Ne.symm y1, Ne.symm y2, him, hc, c1, c2, c3, hp0]
      refine callL_ (vs := [d.v]) (hcopy _ _) (by simp -dsimp [hc, c1, c2, c3, hp0]) ?_
      rintro t m2 n2 ⟨hn2, hout2, id2, st2, rfl, hj0, hj1, hjm, hst2, hne2⟩
      have q2 := hout2 2 (by omega)
      simp -dsimp [nes8 n1, k0, k1, k2, f0, f1, f2, z1, z2, z3, nes, g1, y0, y1, y2, yn, Ne.symm y0, Ne.symm y1, Ne.symm y2, him] at q2
      have hc2 := hst2.cell
      have u2 : ¬ id2 = 2 := by omega
      rcases hst2 with ⟨rfl, hs2⟩ | ⟨r2, rfl, hr0, hr1, hrm2⟩
      · simp -dsimp [q2, hjm, u2, Ne.symm u2, hs2]
      · have u4 : ¬ r2 = 2 := by omega
        simp -dsimp [q2, hjm, hrm2, u2, u4, Ne.symm u2, Ne.symm u4]
    simp -dsimp [nes8 n1, k0, k1, k2, f0, f1, f2, z1, z2, z3, nes, g1, y0, y1, y2, yn, Ne.symm y0, Ne.symm y1, Ne.symm y2, him, hc, c1, c2, c3, hp0]
    refine call_ hpt (by simp -dsimp [nes8 n1, k0, k1, k2, f0, f1, f2, z1, z2, z3, nes, g1, y0, y1, y2, yn, Ne.symm y0, Ne.symm y1, Ne.symm y2, him, hc, c1, c2, c3, hp0]) ?_
    simp -dsimp [nes8 n1, k0, k1, k2, f0, f1, f2, z1, z2, z3, nes, g1, y0, y1, y2, yn, Ne.symm y0, Ne.symm y1, Ne.symm y2, him, hc, c1, c2, c3, hp0]
    refine call_ hpn (by simp -dsimp) ?_
    rcases htx with rfl | htx
    · simp -dsimp [nes8 n1, k0, k1, k2, f0, f1, f2, z1, z2, z3, nes, g1, y0, y1, y2, yn, Ne.symm y0, Ne.symm y1, Ne.symm y2, him, hc, c1, c2, c3, hp0]
      refine callL_ (vs := [d.v]) (hcopy _ _) (by simp -dsimp [hc, c1, c2, c3, hp0]) ?_
      rintro t m2 n2 ⟨hn2, hout2, id2, st2, rfl, hj0, hj1, hjm, hst2, hne2⟩
      have q2 := hout2 2 (by omega)
      simp -dsimp [nes8 n1, k0, k1, k2, f0, f1, f2, z1, z2, z3, nes, g1, y0, y1, y2, yn, Ne.symm y0, Ne.symm y1, Ne.symm y2, him] at q2
      have hc2 := hst2.cell
      have u2 : ¬ id2 = 2 := by omega
      rcases hst2 with ⟨rfl, hs2⟩ | ⟨r2, rfl, hr0, hr1, hrm2⟩
      · simp -dsimp [q2, hjm, u2, Ne.symm u2, hs2]
      · have u4 : ¬ r2 = 2 := by omega
        simp -dsimp [q2, hjm, hrm2, u2, u4, Ne.symm u2, Ne.symm u4]
    have hRs := hR rfl
    simp -dsimp [nes8 n1, k0, k1, k2, f0, f1, f2, z1, z2, z3, nes, g1, y0, y1, y2, yn, Ne.symm y0, Ne.symm y1, Ne.symm y2, him, hc, c1, c2, c3, hp0, htx]
    refine twp_draw (List.range 9) [0, n1] (List.replicate 9 [0, 1]) (List.replicate 8 [0, 1] ++ [[0]]) (by kernel_rfl) (by kernel_rfl) (by kernel_rfl) (by kernel_rfl) ?_
    simp -dsimp [List.range_succ, nes8 n1, k0, k1, k2, f0, f1, f2, z1, z2, z3, nes, g1, y0, y1, y2, yn, Ne.symm y0, Ne.symm y1, Ne.symm y2, him, hc, c1, c2, c3, hp0, htx]
    refine call_ hcn (by simp -dsimp) ?_
    have hR2 := hRs [d.now] (by rw [hp0]; rfl)
    simp -dsimp [List.range_succ, nes8 n1, k0, k1, k2, f0, f1, f2, z1, z2, z3, nes, g1, y0, y1, y2, yn, Ne.symm y0, Ne.symm y1, Ne.symm y2, him, hc, c1, c2, c3, hp0, htx]
    refine callL_ (vs := [(⟨⟨d.now.people, R⟩, [d.now]⟩ : Desk).v]) (hR2 _ _) (by simp -dsimp [nes8 n1, k0, k1, k2, f0, f1, f2, z1, z2, z3, nes, g1, y0, y1, y2, yn, Ne.symm y0, Ne.symm y1, Ne.symm y2, him, hc, c1, c2, c3, hp0]) ?_
    rintro t m2 n2 ⟨hn2, hout2, id2, st2, rfl, hj0, hj1, hjm, hst2, hne2⟩
    have q2 := hout2 2 (by omega)
    simp -dsimp [nes8 n1, k0, k1, k2, f0, f1, f2, z1, z2, z3, nes, g1, y0, y1, y2, yn, Ne.symm y0, Ne.symm y1, Ne.symm y2, him] at q2
    have hc2 := hst2.cell
    have u2 : ¬ id2 = 2 := by omega
    rcases hst2 with ⟨rfl, hs2⟩ | ⟨r2, rfl, hr0, hr1, hrm2⟩
    · simp -dsimp [q2, hjm, u2, Ne.symm u2, hs2, htx, hp0, keep8]
    · have u4 : ¬ r2 = 2 := by omega
      simp -dsimp [q2, hjm, hrm2, u2, u4, Ne.symm u2, Ne.symm u4, htx, hp0, keep8]
  · have g2 := far hr1
    have x0 : ¬ r = 0 := by omega
    have x1 : ¬ r = 1 := by omega
    have x2 : ¬ r = 2 := by omega
    have xi : ¬ r = id := fun h => hne (by rw [h])
    simp -dsimp [nes8 n1, k0, k1, k2, f0, f1, f2, z1, z2, z3, nes, g1, y0, y1, y2, yn, Ne.symm y0, Ne.symm y1, Ne.symm y2, him, g2, x0, x1, x2, xi, Ne.symm x0, Ne.symm x1, Ne.symm x2, Ne.symm xi, hrm, hc, c1, c2, c3]
    refine twp_draw (List.range 13) [1, n1, id] (List.replicate 13 [0, 1, 2]) (List.replicate 13 [0, 1, 2]) (by kernel_rfl) (by kernel_rfl) (by kernel_rfl) (by kernel_rfl) ?_
    simp -dsimp [List.range_succ, nes8 n1, k0, k1, k2, f0, f1, f2, z1, z2, z3, nes, g1, y0, y1, y2, yn, Ne.symm y0, Ne.symm y1, Ne.symm y2, him, g2, x0, x1, x2, xi, Ne.symm x0, Ne.symm x1, Ne.symm x2, Ne.symm xi, hrm, hc, c1, c2, c3]
    refine twp_draw (List.range 11) [1, n1] (List.replicate 8 [0, 1] ++ [[], [], []]) (List.replicate 10 [0, 1] ++ [[0]]) (by kernel_rfl) (by kernel_rfl) (by kernel_rfl) (by kernel_rfl) ?_
    simp -dsimp [List.range_succ, nes8 n1, k0, k1, k2, f0, f1, f2, z1, z2, z3, nes, g1, y0, y1, y2, yn, Ne.symm y0, Ne.symm y1, Ne.symm y2, him, g2, x0, x1, x2, xi, Ne.symm x0, Ne.symm x1, Ne.symm x2, Ne.symm xi, hrm, hc, c1, c2, c3]
    refine call_ hw (by simp -dsimp [nes8 n1, k0, k1, k2, f0, f1, f2, z1, z2, z3, nes, g1, y0, y1, y2, yn, Ne.symm y0, Ne.symm y1, Ne.symm y2, him, g2, x0, x1, x2, xi, Ne.symm x0, Ne.symm x1, Ne.symm x2, Ne.symm xi, hrm, hc, c1, c2, c3]) ?_
    simp -dsimp [List.range_succ, nes8 n1, k0, k1, k2, f0, f1, f2, z1, z2, z3, nes, g1, y0, y1, y2, yn, Ne.symm y0, Ne.symm y1, Ne.symm y2, him, g2, x0, x1, x2, xi, Ne.symm x0, Ne.symm x1, Ne.symm x2, Ne.symm xi, hrm, hc, c1, c2, c3]
    refine twp_draw [0, 1, 2, 3, 4, 5, 6, 7, 8, 10, 11, 9, 12, 13, 14] [0, n1] (List.replicate 15 [0, 1]) (List.replicate 15 [0, 1]) (by kernel_rfl) (by kernel_rfl) (by kernel_rfl) (by kernel_rfl) ?_
    simp -dsimp [nes8 n1, k0, k1, k2, f0, f1, f2, z1, z2, z3, nes, g1, y0, y1, y2, yn, Ne.symm y0, Ne.symm y1, Ne.symm y2, him, g2, x0, x1, x2, xi, Ne.symm x0, Ne.symm x1, Ne.symm x2, Ne.symm xi, hrm, hc, c1, c2, c3]
    refine call_ hpo (by simp -dsimp [nes8 n1, k0, k1, k2, f0, f1, f2, z1, z2, z3, nes, g1, y0, y1, y2, yn, Ne.symm y0, Ne.symm y1, Ne.symm y2, him, g2, x0, x1, x2, xi, Ne.symm x0, Ne.symm x1, Ne.symm x2, Ne.symm xi, hrm, hc, c1, c2, c3]) ?_
    rcases hkX with rfl | rfl
    · simp -dsimp [nes8 n1, k0, k1, k2, f0, f1, f2, z1, z2, z3, nes, g1, y0, y1, y2, yn, Ne.symm y0, Ne.symm y1, Ne.symm y2, him, g2, x0, x1, x2, xi, Ne.symm x0, Ne.symm x1, Ne.symm x2, Ne.symm xi, hrm, hc, c1, c2, c3]
      refine callL_ (vs := [d.v]) (hcopy _ _) (by simp -dsimp [hc, c1, c2, c3]) ?_
      rintro t m2 n2 ⟨hn2, hout2, id2, st2, rfl, hj0, hj1, hjm, hst2, hne2⟩
      have q2 := hout2 2 (by omega)
      simp -dsimp [nes8 n1, k0, k1, k2, f0, f1, f2, z1, z2, z3, nes, g1, y0, y1, y2, yn, Ne.symm y0, Ne.symm y1, Ne.symm y2, him, g2, x0, x1, x2, xi, Ne.symm x0, Ne.symm x1, Ne.symm x2, Ne.symm xi, hrm] at q2
      have hc2 := hst2.cell
      have u2 : ¬ id2 = 2 := by omega
      rcases hst2 with ⟨rfl, hs2⟩ | ⟨r2, rfl, hr0, hr1, hrm2⟩
      · simp -dsimp [q2, hjm, u2, Ne.symm u2, hs2]
      · have u4 : ¬ r2 = 2 := by omega
        simp -dsimp [q2, hjm, hrm2, u2, u4, Ne.symm u2, Ne.symm u4]
    simp -dsimp [nes8 n1, k0, k1, k2, f0, f1, f2, z1, z2, z3, nes, g1, y0, y1, y2, yn, Ne.symm y0, Ne.symm y1, Ne.symm y2, him, g2, x0, x1, x2, xi, Ne.symm x0, Ne.symm x1, Ne.symm x2, Ne.symm xi, hrm, hc, c1, c2, c3]
    refine call_ hpt (by simp -dsimp [nes8 n1, k0, k1, k2, f0, f1, f2, z1, z2, z3, nes, g1, y0, y1, y2, yn, Ne.symm y0, Ne.symm y1, Ne.symm y2, him, g2, x0, x1, x2, xi, Ne.symm x0, Ne.symm x1, Ne.symm x2, Ne.symm xi, hrm, hc, c1, c2, c3]) ?_
    simp -dsimp [nes8 n1, k0, k1, k2, f0, f1, f2, z1, z2, z3, nes, g1, y0, y1, y2, yn, Ne.symm y0, Ne.symm y1, Ne.symm y2, him, g2, x0, x1, x2, xi, Ne.symm x0, Ne.symm x1, Ne.symm x2, Ne.symm xi, hrm, hc, c1, c2, c3]
    refine call_ hpn (by simp -dsimp) ?_
    rcases htx with rfl | htx
    · simp -dsimp [nes8 n1, k0, k1, k2, f0, f1, f2, z1, z2, z3, nes, g1, y0, y1, y2, yn, Ne.symm y0, Ne.symm y1, Ne.symm y2, him, g2, x0, x1, x2, xi, Ne.symm x0, Ne.symm x1, Ne.symm x2, Ne.symm xi, hrm, hc, c1, c2, c3]
      refine callL_ (vs := [d.v]) (hcopy _ _) (by simp -dsimp [hc, c1, c2, c3]) ?_
      rintro t m2 n2 ⟨hn2, hout2, id2, st2, rfl, hj0, hj1, hjm, hst2, hne2⟩
      have q2 := hout2 2 (by omega)
      simp -dsimp [nes8 n1, k0, k1, k2, f0, f1, f2, z1, z2, z3, nes, g1, y0, y1, y2, yn, Ne.symm y0, Ne.symm y1, Ne.symm y2, him, g2, x0, x1, x2, xi, Ne.symm x0, Ne.symm x1, Ne.symm x2, Ne.symm xi, hrm] at q2
      have hc2 := hst2.cell
      have u2 : ¬ id2 = 2 := by omega
      rcases hst2 with ⟨rfl, hs2⟩ | ⟨r2, rfl, hr0, hr1, hrm2⟩
      · simp -dsimp [q2, hjm, u2, Ne.symm u2, hs2]
      · have u4 : ¬ r2 = 2 := by omega
        simp -dsimp [q2, hjm, hrm2, u2, u4, Ne.symm u2, Ne.symm u4]
    have hRs := hR rfl
    simp -dsimp [nes8 n1, k0, k1, k2, f0, f1, f2, z1, z2, z3, nes, g1, y0, y1, y2, yn, Ne.symm y0, Ne.symm y1, Ne.symm y2, him, g2, x0, x1, x2, xi, Ne.symm x0, Ne.symm x1, Ne.symm x2, Ne.symm xi, hrm, hc, c1, c2, c3, htx]
    refine twp_draw (List.range 9) [0, n1] (List.replicate 9 [0, 1]) (List.replicate 8 [0, 1] ++ [[0]]) (by kernel_rfl) (by kernel_rfl) (by kernel_rfl) (by kernel_rfl) ?_
    simp -dsimp [List.range_succ, nes8 n1, k0, k1, k2, f0, f1, f2, z1, z2, z3, nes, g1, y0, y1, y2, yn, Ne.symm y0, Ne.symm y1, Ne.symm y2, him, g2, x0, x1, x2, xi, Ne.symm x0, Ne.symm x1, Ne.symm x2, Ne.symm xi, hrm, hc, c1, c2, c3, htx]
    refine call_ hcn (by simp -dsimp) ?_
    by_cases h8 : d.past.length = 8
    · have e8 : (d.past.length : Int) = 8 := by omega
      have ek : keep8 (d.past ++ [d.now]) = (d.past ++ [d.now]).tail := by unfold keep8; rw [if_pos (by simp [h8])]; simp
      have hR2 := hRs (d.past ++ [d.now]).tail ek
      have tk : List.take 9 (List.map Place.v d.past ++ [d.now.v]) = List.map Place.v d.past ++ [d.now.v] := List.take_of_length_le (by simp [h8])
      have zk : allZ 2 (List.map Place.v d.past ++ [d.now.v]).tail := fun x hx => zplaces x (List.mem_of_mem_tail hx)
      simp only [Place.v, storyV] at tk zk
      simp -dsimp [List.range_succ, nes8 n1, k0, k1, k2, f0, f1, f2, z1, z2, z3, nes, g1, y0, y1, y2, yn, Ne.symm y0, Ne.symm y1, Ne.symm y2, him, g2, x0, x1, x2, xi, Ne.symm x0, Ne.symm x1, Ne.symm x2, Ne.symm xi, hrm, hc, c1, c2, c3, htx, fullb, h8, e8, tk, zk]
      refine callL_ (vs := [(⟨⟨d.now.people, R⟩, (d.past ++ [d.now]).tail⟩ : Desk).v]) (hR2 _ _) (by simp -dsimp [nes8 n1, k0, k1, k2, f0, f1, f2, z1, z2, z3, nes, g1, y0, y1, y2, yn, Ne.symm y0, Ne.symm y1, Ne.symm y2, him, g2, x0, x1, x2, xi, Ne.symm x0, Ne.symm x1, Ne.symm x2, Ne.symm xi, hrm, hc, c1, c2, c3, List.map_tail, List.map_append]) ?_
      rintro t m2 n2 ⟨hn2, hout2, id2, st2, rfl, hj0, hj1, hjm, hst2, hne2⟩
      have q2 := hout2 2 (by omega)
      simp -dsimp [nes8 n1, k0, k1, k2, f0, f1, f2, z1, z2, z3, nes, g1, y0, y1, y2, yn, Ne.symm y0, Ne.symm y1, Ne.symm y2, him, g2, x0, x1, x2, xi, Ne.symm x0, Ne.symm x1, Ne.symm x2, Ne.symm xi, hrm] at q2
      have hc2 := hst2.cell
      have u2 : ¬ id2 = 2 := by omega
      rcases hst2 with ⟨rfl, hs2⟩ | ⟨r2, rfl, hr0, hr1, hrm2⟩
      · simp -dsimp [q2, hjm, u2, Ne.symm u2, hs2, htx, ek]
      · have u4 : ¬ r2 = 2 := by omega
        simp -dsimp [q2, hjm, hrm2, u2, u4, Ne.symm u2, Ne.symm u4, htx, ek]
    · have e8 : d.past.length < 8 := by omega
      have e8' : ¬ (8 : Int) < (d.past.length : Int) + 1 := by omega
      have e8'' : ¬ 8 < d.past.length + 1 := by omega
      have ek : keep8 (d.past ++ [d.now]) = d.past ++ [d.now] := by unfold keep8; rw [if_neg (by simp; omega)]
      have hR2 := hRs (d.past ++ [d.now]) ek
      simp -dsimp [List.range_succ, nes8 n1, k0, k1, k2, f0, f1, f2, z1, z2, z3, nes, g1, y0, y1, y2, yn, Ne.symm y0, Ne.symm y1, Ne.symm y2, him, g2, x0, x1, x2, xi, Ne.symm x0, Ne.symm x1, Ne.symm x2, Ne.symm xi, hrm, hc, c1, c2, c3, htx, fullb, h8, e8, e8', e8'']
      refine callL_ (vs := [(⟨⟨d.now.people, R⟩, d.past ++ [d.now]⟩ : Desk).v]) (hR2 _ _) (by simp -dsimp [nes8 n1, k0, k1, k2, f0, f1, f2, z1, z2, z3, nes, g1, y0, y1, y2, yn, Ne.symm y0, Ne.symm y1, Ne.symm y2, him, g2, x0, x1, x2, xi, Ne.symm x0, Ne.symm x1, Ne.symm x2, Ne.symm xi, hrm, hc, c1, c2, c3]) ?_
      rintro t m2 n2 ⟨hn2, hout2, id2, st2, rfl, hj0, hj1, hjm, hst2, hne2⟩
      have q2 := hout2 2 (by omega)
      simp -dsimp [nes8 n1, k0, k1, k2, f0, f1, f2, z1, z2, z3, nes, g1, y0, y1, y2, yn, Ne.symm y0, Ne.symm y1, Ne.symm y2, him, g2, x0, x1, x2, xi, Ne.symm x0, Ne.symm x1, Ne.symm x2, Ne.symm xi, hrm] at q2
      have hc2 := hst2.cell
      have u2 : ¬ id2 = 2 := by omega
      rcases hst2 with ⟨rfl, hs2⟩ | ⟨r2, rfl, hr0, hr1, hrm2⟩
      · simp -dsimp [q2, hjm, u2, Ne.symm u2, hs2, htx, ek]
      · have u4 : ¬ r2 = 2 := by omega
        simp -dsimp [q2, hjm, hrm2, u2, u4, Ne.symm u2, Ne.symm u4, htx, ek]
end TL

/- Deeds at a desk: the program. -/
set_option linter.unusedSimpArgs false
set_option linter.unusedVariables false
set_option maxRecDepth 100000
set_option maxHeartbeats 4000000
set_option pp.maxSteps 1500
namespace TL
open Go Go.Proofs
attribute [local simp] marksV storyV codeV Claim.v Place.v Deed.v Desk.v
theorem do_say (d : Desk) (words : List UInt8) (c : Claim) (hd : d.small) (hk : deskOk d = true) (X : Place) (hXl : X.story.length ≤ 7) (hr : readC d.now.people words = some c) (hwl : words.length ≤ 1000000000) (hX : X = ⟨d.now.people, d.now.story ++ [c]⟩) :
    FnZ Tryz.prog 34 [d.v, (⟨0, 0, words⟩ : Deed).v] (.tup [(if (placeOk X && !decide (placeTx X = placeTx d.now)) = true then ((⟨X, keep8 (d.past ++ [d.now])⟩, true) : Desk × Bool) else (d, false)).1.v, .bool (if (placeOk X && !decide (placeTx X = placeTx d.now)) = true then ((⟨X, keep8 (d.past ++ [d.now])⟩, true) : Desk × Bool) else (d, false)).2]) := by
  have hpo := placeOk_fn X (by omega)
  have hpt := placeText_fn X (by omega)
  have hpn := placeText_fn d.now (by have := hd.1.1; omega)
  have hcn := copyPlace_fn d.now hd.1
  have hok := deskOk_fn d (by have := hd.2.1; omega) (by have := hd.1.1; omega) (fun p hp => by have := (hd.2.2 p hp).1; omega)
  rw [hk] at hok
  obtain ⟨hpast, hnow, hp8⟩ := deskOk_iff.1 hk
  have hcopy := fun m n => copyDesk_own d hd m n
  have fullb : (d.past.length + 1) * 32 ≤ 140737488355328 := by omega
  have zplaces : allZ 2 (List.map Place.v d.past ++ [d.now.v]) := fun x hx => by
    rcases List.mem_append.1 hx with hx | hx
    · obtain ⟨p, _, rfl⟩ := List.mem_map.1 hx; exact ⟨by simp, by simp⟩
    · rw [List.mem_singleton.1 hx]; exact ⟨by simp, by simp⟩
  have hR : placeOk X = true → ∀ l, keep8 (d.past ++ [d.now]) = l → ∀ m n, FnS Tryz.prog 63 m n [.v (⟨X, l⟩ : Desk).v] (OwnDeskL ⟨X, l⟩ m n) := fun hX l hl m n => copyDesk_own ⟨X, l⟩ (desk_fine (deskOk_iff.2 ⟨fun p hp => by
    rw [← hl] at hp
    rcases List.mem_append.1 (keep8_mem hp) with h1 | h1
    · exact hpast p h1
    · rw [List.mem_singleton.1 h1]; exact hnow, hX, by rw [← hl]; exact keep8_len _ (by simp; omega)⟩)).1 m n
  have hrc := readClaim_fn d.now.people words (by omega)
  rw [hr] at hrc
  have b1 : (d.now.story.length + 1) * 32 ≤ 140737488355328 := by have := hd.1.1; omega
  have hkX := ft (placeOk X)
  have htx : placeTx X = placeTx d.now ∨ ¬ placeTx X = placeTx d.now := Classical.em _
  generalize placeTx X = tX at *
  generalize placeTx d.now = tN at *
  generalize placeOk X = okX at *
  subst hX
  refine FnZ_of (rs := [.cell 4 40, .tmp 5]) false Tryz.func34 rfl rfl rfl rfl (Nat.le_of_ble_eq_true rfl) ?_
  simp -dsimp
  refine call_ hok (by simp -dsimp) ?_
  simp -dsimp
  refine callL_ (vs := [d.v]) (hcopy _ _) (by simp -dsimp) ?_
  rintro t m1 n1 ⟨hn1, hout, id, st, rfl, hi0, hi1, him, hst, hne⟩
  have k0 := hout 0 (by omega)
  have k1 := hout 1 (by omega)
  have k2 := hout 2 (by omega)
  simp -dsimp at k0 k1 k2
  have f0 := far (show 0 < n1 by omega)
  have f1 := far (show 1 < n1 by omega)
  have f2 := far (show 2 < n1 by omega)
  have z1 : ¬ n1 = 0 := by omega
  have z2 : ¬ n1 = 1 := by omega
  have z3 : ¬ n1 = 2 := by omega
  have g1 := far hi1
  have y0 : ¬ id = 0 := by omega
  have y1 : ¬ id = 1 := by omega
  have y2 : ¬ id = 2 := by omega
  have yn : ¬ id = n1 := by omega
  have hc := hst.cell
  rcases hst with ⟨rfl, hs0⟩ | ⟨r, rfl, hr0, hr1, hrm⟩
  · have hp0 : d.past = [] := by simpa using hs0
    simp -dsimp [nes8 n1, k0, k1, k2, f0, f1, f2, z1, z2, z3, nes, g1, y0, y1, y2, yn, Ne.symm y0, Ne.symm y1, Ne.symm y2, him, hc, b1]
    refine twp_draw [0, 1, 2, 3, 4, 5, 1006, 7, 8, 9, 10, 11, 12] [1, n1] (List.replicate 13 [0, 1]) (List.replicate 13 [0, 1]) (by kernel_rfl) (by kernel_rfl) (by kernel_rfl) (by kernel_rfl) ?_
    simp -dsimp [List.range_succ, nes8 n1, k0, k1, k2, f0, f1, f2, z1, z2, z3, nes, g1, y0, y1, y2, yn, Ne.symm y0, Ne.symm y1, Ne.symm y2, him, hc, b1]
    refine pure_ hrc (by simp -dsimp [nes8 n1, k0, k1, k2, f0, f1, f2, z1, z2, z3, nes, g1, y0, y1, y2, yn, Ne.symm y0, Ne.symm y1, Ne.symm y2, him, hc, b1]) ?_
    simp -dsimp [List.range_succ, nes8 n1, k0, k1, k2, f0, f1, f2, z1, z2, z3, nes, g1, y0, y1, y2, yn, Ne.symm y0, Ne.symm y1, Ne.symm y2, him, hc, b1, optC]
    refine twp_draw (List.range 11) [n1, n1 + 1 + 1] (List.replicate 8 [0, 1] ++ [[], [], []]) (List.replicate 10 [0, 1] ++ [[1]]) (by kernel_rfl) (by kernel_rfl) (by kernel_rfl) (by kernel_rfl) ?_
    simp -dsimp [List.range_succ, nes8 n1, k0, k1, k2, f0, f1, f2, z1, z2, z3, nes, g1, y0, y1, y2, yn, Ne.symm y0, Ne.symm y1, Ne.symm y2, him, hc, b1, b1]
    refine twp_draw [0, 1, 2, 3, 4, 5, 6, 7, 8, 10, 11, 9, 12, 13, 14] [0, n1] (List.replicate 15 [0, 1]) (List.replicate 15 [0, 1]) (by kernel_rfl) (by kernel_rfl) (by kernel_rfl) (by kernel_rfl) ?_
    simp -dsimp [nes8 n1, k0, k1, k2, f0, f1, f2, z1, z2, z3, nes, g1, y0, y1, y2, yn, Ne.symm y0, Ne.symm y1, Ne.symm y2, him, hc, b1, hp0]
    refine call_ hpo (by simp -dsimp [nes8 n1, k0, k1, k2, f0, f1, f2, z1, z2, z3, nes, g1, y0, y1, y2, yn, Ne.symm y0, Ne.symm y1, Ne.symm y2, him, hc, b1, hp0]) ?_
    rcases hkX with rfl | rfl
    · simp -dsimp [nes8 n1, k0, k1, k2, f0, f1, f2, z1, z2, z3, nes, g1, y0, y1, y2, yn, Ne.symm y0, Ne.symm y1, Ne.symm y2, him, hc, b1, hp0]
      refine callL_ (vs := [d.v]) (hcopy _ _) (by simp -dsimp [hc, b1, hp0]) ?_
      rintro t m2 n2 ⟨hn2, hout2, id2, st2, rfl, hj0, hj1, hjm, hst2, hne2⟩
      have q2 := hout2 2 (by omega)
      simp -dsimp [nes8 n1, k0, k1, k2, f0, f1, f2, z1, z2, z3, nes, g1, y0, y1, y2, yn, Ne.symm y0, Ne.symm y1, Ne.symm y2, him] at q2
      have hc2 := hst2.cell
      have u2 : ¬ id2 = 2 := by omega
      rcases hst2 with ⟨rfl, hs2⟩ | ⟨r2, rfl, hr0, hr1, hrm2⟩
      · simp -dsimp [q2, hjm, u2, Ne.symm u2, hs2]
      · have u4 : ¬ r2 = 2 := by omega
        simp -dsimp [q2, hjm, hrm2, u2, u4, Ne.symm u2, Ne.symm u4]
    simp -dsimp [nes8 n1, k0, k1, k2, f0, f1, f2, z1, z2, z3, nes, g1, y0, y1, y2, yn, Ne.symm y0, Ne.symm y1, Ne.symm y2, him, hc, b1, hp0]
    refine call_ hpt (by simp -dsimp [nes8 n1, k0, k1, k2, f0, f1, f2, z1, z2, z3, nes, g1, y0, y1, y2, yn, Ne.symm y0, Ne.symm y1, Ne.symm y2, him, hc, b1, hp0]) ?_
    simp -dsimp [nes8 n1, k0, k1, k2, f0, f1, f2, z1, z2, z3, nes, g1, y0, y1, y2, yn, Ne.symm y0, Ne.symm y1, Ne.symm y2, him, hc, b1, hp0]
    refine call_ hpn (by simp -dsimp) ?_
    rcases htx with rfl | htx
    · simp -dsimp [nes8 n1, k0, k1, k2, f0, f1, f2, z1, z2, z3, nes, g1, y0, y1, y2, yn, Ne.symm y0, Ne.symm y1, Ne.symm y2, him, hc, b1, hp0]
      refine callL_ (vs := [d.v]) (hcopy _ _) (by simp -dsimp [hc, b1, hp0]) ?_
      rintro t m2 n2 ⟨hn2, hout2, id2, st2, rfl, hj0, hj1, hjm, hst2, hne2⟩
      have q2 := hout2 2 (by omega)
      simp -dsimp [nes8 n1, k0, k1, k2, f0, f1, f2, z1, z2, z3, nes, g1, y0, y1, y2, yn, Ne.symm y0, Ne.symm y1, Ne.symm y2, him] at q2
      have hc2 := hst2.cell
      have u2 : ¬ id2 = 2 := by omega
      rcases hst2 with ⟨rfl, hs2⟩ | ⟨r2, rfl, hr0, hr1, hrm2⟩
      · simp -dsimp [q2, hjm, u2, Ne.symm u2, hs2]
      · have u4 : ¬ r2 = 2 := by omega
        simp -dsimp [q2, hjm, hrm2, u2, u4, Ne.symm u2, Ne.symm u4]
    have hRs := hR rfl
    simp -dsimp [nes8 n1, k0, k1, k2, f0, f1, f2, z1, z2, z3, nes, g1, y0, y1, y2, yn, Ne.symm y0, Ne.symm y1, Ne.symm y2, him, hc, b1, hp0, htx]
    refine twp_draw (List.range 9) [0, n1] (List.replicate 9 [0, 1]) (List.replicate 8 [0, 1] ++ [[0]]) (by kernel_rfl) (by kernel_rfl) (by kernel_rfl) (by kernel_rfl) ?_
    simp -dsimp [List.range_succ, nes8 n1, k0, k1, k2, f0, f1, f2, z1, z2, z3, nes, g1, y0, y1, y2, yn, Ne.symm y0, Ne.symm y1, Ne.symm y2, him, hc, b1, hp0, htx]
    refine call_ hcn (by simp -dsimp) ?_
    have hR2 := hRs [d.now] (by rw [hp0]; rfl)
    simp -dsimp [List.range_succ, nes8 n1, k0, k1, k2, f0, f1, f2, z1, z2, z3, nes, g1, y0, y1, y2, yn, Ne.symm y0, Ne.symm y1, Ne.symm y2, him, hc, b1, hp0, htx]
    refine callL_ (vs := [(⟨⟨d.now.people, d.now.story ++ [c]⟩, [d.now]⟩ : Desk).v]) (hR2 _ _) (by simp -dsimp [nes8 n1, k0, k1, k2, f0, f1, f2, z1, z2, z3, nes, g1, y0, y1, y2, yn, Ne.symm y0, Ne.symm y1, Ne.symm y2, him, hc, b1, hp0]) ?_
    rintro t m2 n2 ⟨hn2, hout2, id2, st2, rfl, hj0, hj1, hjm, hst2, hne2⟩
    have q2 := hout2 2 (by omega)
    simp -dsimp [nes8 n1, k0, k1, k2, f0, f1, f2, z1, z2, z3, nes, g1, y0, y1, y2, yn, Ne.symm y0, Ne.symm y1, Ne.symm y2, him] at q2
    have hc2 := hst2.cell
    have u2 : ¬ id2 = 2 := by omega
    rcases hst2 with ⟨rfl, hs2⟩ | ⟨r2, rfl, hr0, hr1, hrm2⟩
    · simp -dsimp [q2, hjm, u2, Ne.symm u2, hs2, htx, hp0, keep8]
    · have u4 : ¬ r2 = 2 := by omega
      simp -dsimp [q2, hjm, hrm2, u2, u4, Ne.symm u2, Ne.symm u4, htx, hp0, keep8]
  · have g2 := far hr1
    have x0 : ¬ r = 0 := by omega
    have x1 : ¬ r = 1 := by omega
    have x2 : ¬ r = 2 := by omega
    have xi : ¬ r = id := fun h => hne (by rw [h])
    simp -dsimp [nes8 n1, k0, k1, k2, f0, f1, f2, z1, z2, z3, nes, g1, y0, y1, y2, yn, Ne.symm y0, Ne.symm y1, Ne.symm y2, him, g2, x0, x1, x2, xi, Ne.symm x0, Ne.symm x1, Ne.symm x2, Ne.symm xi, hrm, hc, b1]
    refine twp_draw [0, 1, 2, 3, 4, 5, 1006, 7, 8, 9, 10, 11, 12] [1, n1] (List.replicate 13 [0, 1]) (List.replicate 13 [0, 1]) (by kernel_rfl) (by kernel_rfl) (by kernel_rfl) (by kernel_rfl) ?_
    simp -dsimp [List.range_succ, nes8 n1, k0, k1, k2, f0, f1, f2, z1, z2, z3, nes, g1, y0, y1, y2, yn, Ne.symm y0, Ne.symm y1, Ne.symm y2, him, g2, x0, x1, x2, xi, Ne.symm x0, Ne.symm x1, Ne.symm x2, Ne.symm xi, hrm, hc, b1]
    refine pure_ hrc (by simp -dsimp [nes8 n1, k0, k1, k2, f0, f1, f2, z1, z2, z3, nes, g1, y0, y1, y2, yn, Ne.symm y0, Ne.symm y1, Ne.symm y2, him, g2, x0, x1, x2, xi, Ne.symm x0, Ne.symm x1, Ne.symm x2, Ne.symm xi, hrm, hc, b1]) ?_
    simp -dsimp [List.range_succ, nes8 n1, k0, k1, k2, f0, f1, f2, z1, z2, z3, nes, g1, y0, y1, y2, yn, Ne.symm y0, Ne.symm y1, Ne.symm y2, him, g2, x0, x1, x2, xi, Ne.symm x0, Ne.symm x1, Ne.symm x2, Ne.symm xi, hrm, hc, b1, optC]
    refine twp_draw (List.range 11) [n1, n1 + 1 + 1] (List.replicate 8 [0, 1] ++ [[], [], []]) (List.replicate 10 [0, 1] ++ [[1]]) (by kernel_rfl) (by kernel_rfl) (by kernel_rfl) (by kernel_rfl) ?_
    simp -dsimp [List.range_succ, nes8 n1, k0, k1, k2, f0, f1, f2, z1, z2, z3, nes, g1, y0, y1, y2, yn, Ne.symm y0, Ne.symm y1, Ne.symm y2, him, g2, x0, x1, x2, xi, Ne.symm x0, Ne.symm x1, Ne.symm x2, Ne.symm xi, hrm, hc, b1, b1]
    refine twp_draw [0, 1, 2, 3, 4, 5, 6, 7, 8, 10, 11, 9, 12, 13, 14] [0, n1] (List.replicate 15 [0, 1]) (List.replicate 15 [0, 1]) (by kernel_rfl) (by kernel_rfl) (by kernel_rfl) (by kernel_rfl) ?_
    simp -dsimp [nes8 n1, k0, k1, k2, f0, f1, f2, z1, z2, z3, nes, g1, y0, y1, y2, yn, Ne.symm y0, Ne.symm y1, Ne.symm y2, him, g2, x0, x1, x2, xi, Ne.symm x0, Ne.symm x1, Ne.symm x2, Ne.symm xi, hrm, hc, b1]
    refine call_ hpo (by simp -dsimp [nes8 n1, k0, k1, k2, f0, f1, f2, z1, z2, z3, nes, g1, y0, y1, y2, yn, Ne.symm y0, Ne.symm y1, Ne.symm y2, him, g2, x0, x1, x2, xi, Ne.symm x0, Ne.symm x1, Ne.symm x2, Ne.symm xi, hrm, hc, b1]) ?_
    rcases hkX with rfl | rfl
    · simp -dsimp [nes8 n1, k0, k1, k2, f0, f1, f2, z1, z2, z3, nes, g1, y0, y1, y2, yn, Ne.symm y0, Ne.symm y1, Ne.symm y2, him, g2, x0, x1, x2, xi, Ne.symm x0, Ne.symm x1, Ne.symm x2, Ne.symm xi, hrm, hc, b1]
      refine callL_ (vs := [d.v]) (hcopy _ _) (by simp -dsimp [hc, b1]) ?_
      rintro t m2 n2 ⟨hn2, hout2, id2, st2, rfl, hj0, hj1, hjm, hst2, hne2⟩
      have q2 := hout2 2 (by omega)
      simp -dsimp [nes8 n1, k0, k1, k2, f0, f1, f2, z1, z2, z3, nes, g1, y0, y1, y2, yn, Ne.symm y0, Ne.symm y1, Ne.symm y2, him, g2, x0, x1, x2, xi, Ne.symm x0, Ne.symm x1, Ne.symm x2, Ne.symm xi, hrm] at q2
      have hc2 := hst2.cell
      have u2 : ¬ id2 = 2 := by omega
      rcases hst2 with ⟨rfl, hs2⟩ | ⟨r2, rfl, hr0, hr1, hrm2⟩
      · simp -dsimp [q2, hjm, u2, Ne.symm u2, hs2]
      · have u4 : ¬ r2 = 2 := by omega
        simp -dsimp [q2, hjm, hrm2, u2, u4, Ne.symm u2, Ne.symm u4]
    simp -dsimp [nes8 n1, k0, k1, k2, f0, f1, f2, z1, z2, z3, nes, g1, y0, y1, y2, yn, Ne.symm y0, Ne.symm y1, Ne.symm y2, him, g2, x0, x1, x2, xi, Ne.symm x0, Ne.symm x1, Ne.symm x2, Ne.symm xi, hrm, hc, b1]
    refine call_ hpt (by simp -dsimp [nes8 n1, k0, k1, k2, f0, f1, f2, z1, z2, z3, nes, g1, y0, y1, y2, yn, Ne.symm y0, Ne.symm y1, Ne.symm y2, him, g2, x0, x1, x2, xi, Ne.symm x0, Ne.symm x1, Ne.symm x2, Ne.symm xi, hrm, hc, b1]) ?_
    simp -dsimp [nes8 n1, k0, k1, k2, f0, f1, f2, z1, z2, z3, nes, g1, y0, y1, y2, yn, Ne.symm y0, Ne.symm y1, Ne.symm y2, him, g2, x0, x1, x2, xi, Ne.symm x0, Ne.symm x1, Ne.symm x2, Ne.symm xi, hrm, hc, b1]
    refine call_ hpn (by simp -dsimp) ?_
    rcases htx with rfl | htx
    · simp -dsimp [nes8 n1, k0, k1, k2, f0, f1, f2, z1, z2, z3, nes, g1, y0, y1, y2, yn, Ne.symm y0, Ne.symm y1, Ne.symm y2, him, g2, x0, x1, x2, xi, Ne.symm x0, Ne.symm x1, Ne.symm x2, Ne.symm xi, hrm, hc, b1]
      refine callL_ (vs := [d.v]) (hcopy _ _) (by simp -dsimp [hc, b1]) ?_
      rintro t m2 n2 ⟨hn2, hout2, id2, st2, rfl, hj0, hj1, hjm, hst2, hne2⟩
      have q2 := hout2 2 (by omega)
      simp -dsimp [nes8 n1, k0, k1, k2, f0, f1, f2, z1, z2, z3, nes, g1, y0, y1, y2, yn, Ne.symm y0, Ne.symm y1, Ne.symm y2, him, g2, x0, x1, x2, xi, Ne.symm x0, Ne.symm x1, Ne.symm x2, Ne.symm xi, hrm] at q2
      have hc2 := hst2.cell
      have u2 : ¬ id2 = 2 := by omega
      rcases hst2 with ⟨rfl, hs2⟩ | ⟨r2, rfl, hr0, hr1, hrm2⟩
      · simp -dsimp [q2, hjm, u2, Ne.symm u2, hs2]
      · have u4 : ¬ r2 = 2 := by omega
        simp -dsimp [q2, hjm, hrm2, u2, u4, Ne.symm u2, Ne.symm u4]
    have hRs := hR rfl
    simp -dsimp [nes8 n1, k0, k1, k2, f0, f1, f2, z1, z2, z3, nes, g1, y0, y1, y2, yn, Ne.symm y0, Ne.symm y1, Ne.symm y2, him, g2, x0, x1, x2, xi, Ne.symm x0, Ne.symm x1, Ne.symm x2, Ne.symm xi, hrm, hc, b1, htx]
    refine twp_draw (List.range 9) [0, n1] (List.replicate 9 [0, 1]) (List.replicate 8 [0, 1] ++ [[0]]) (by kernel_rfl) (by kernel_rfl) (by kernel_rfl) (by kernel_rfl) ?_
    simp -dsimp [List.range_succ, nes8 n1, k0, k1, k2, f0, f1, f2, z1, z2, z3, nes, g1, y0, y1, y2, yn, Ne.symm y0, Ne.symm y1, Ne.symm y2, him, g2, x0, x1, x2, xi, Ne.symm x0, Ne.symm x1, Ne.symm x2, Ne.symm xi, hrm, hc, b1, htx]
    refine call_ hcn (by simp -dsimp) ?_
    by_cases h8 : d.past.length = 8
    · have e8 : (d.past.length : Int) = 8 := by omega
      have ek : keep8 (d.past ++ [d.now]) = (d.past ++ [d.now]).tail := by unfold keep8; rw [if_pos (by simp [h8])]; simp
      have hR2 := hRs (d.past ++ [d.now]).tail ek
      have tk : List.take 9 (List.map Place.v d.past ++ [d.now.v]) = List.map Place.v d.past ++ [d.now.v] := List.take_of_length_le (by simp [h8])
      have zk : allZ 2 (List.map Place.v d.past ++ [d.now.v]).tail := fun x hx => zplaces x (List.mem_of_mem_tail hx)
      simp only [Place.v, storyV] at tk zk
      simp -dsimp [List.range_succ, nes8 n1, k0, k1, k2, f0, f1, f2, z1, z2, z3, nes, g1, y0, y1, y2, yn, Ne.symm y0, Ne.symm y1, Ne.symm y2, him, g2, x0, x1, x2, xi, Ne.symm x0, Ne.symm x1, Ne.symm x2, Ne.symm xi, hrm, hc, b1, htx, fullb, h8, e8, tk, zk]
      refine callL_ (vs := [(⟨⟨d.now.people, d.now.story ++ [c]⟩, (d.past ++ [d.now]).tail⟩ : Desk).v]) (hR2 _ _) (by simp -dsimp [nes8 n1, k0, k1, k2, f0, f1, f2, z1, z2, z3, nes, g1, y0, y1, y2, yn, Ne.symm y0, Ne.symm y1, Ne.symm y2, him, g2, x0, x1, x2, xi, Ne.symm x0, Ne.symm x1, Ne.symm x2, Ne.symm xi, hrm, hc, b1, List.map_tail, List.map_append]) ?_
      rintro t m2 n2 ⟨hn2, hout2, id2, st2, rfl, hj0, hj1, hjm, hst2, hne2⟩
      have q2 := hout2 2 (by omega)
      simp -dsimp [nes8 n1, k0, k1, k2, f0, f1, f2, z1, z2, z3, nes, g1, y0, y1, y2, yn, Ne.symm y0, Ne.symm y1, Ne.symm y2, him, g2, x0, x1, x2, xi, Ne.symm x0, Ne.symm x1, Ne.symm x2, Ne.symm xi, hrm] at q2
      have hc2 := hst2.cell
      have u2 : ¬ id2 = 2 := by omega
      rcases hst2 with ⟨rfl, hs2⟩ | ⟨r2, rfl, hr0, hr1, hrm2⟩
      · simp -dsimp [q2, hjm, u2, Ne.symm u2, hs2, htx, ek]
      · have u4 : ¬ r2 = 2 := by omega
        simp -dsimp [q2, hjm, hrm2, u2, u4, Ne.symm u2, Ne.symm u4, htx, ek]
    · have e8 : d.past.length < 8 := by omega
      have e8' : ¬ (8 : Int) < (d.past.length : Int) + 1 := by omega
      have e8'' : ¬ 8 < d.past.length + 1 := by omega
      have ek : keep8 (d.past ++ [d.now]) = d.past ++ [d.now] := by unfold keep8; rw [if_neg (by simp; omega)]
      have hR2 := hRs (d.past ++ [d.now]) ek
      simp -dsimp [List.range_succ, nes8 n1, k0, k1, k2, f0, f1, f2, z1, z2, z3, nes, g1, y0, y1, y2, yn, Ne.symm y0, Ne.symm y1, Ne.symm y2, him, g2, x0, x1, x2, xi, Ne.symm x0, Ne.symm x1, Ne.symm x2, Ne.symm xi, hrm, hc, b1, htx, fullb, h8, e8, e8', e8'']
      refine callL_ (vs := [(⟨⟨d.now.people, d.now.story ++ [c]⟩, d.past ++ [d.now]⟩ : Desk).v]) (hR2 _ _) (by simp -dsimp [nes8 n1, k0, k1, k2, f0, f1, f2, z1, z2, z3, nes, g1, y0, y1, y2, yn, Ne.symm y0, Ne.symm y1, Ne.symm y2, him, g2, x0, x1, x2, xi, Ne.symm x0, Ne.symm x1, Ne.symm x2, Ne.symm xi, hrm, hc, b1]) ?_
      rintro t m2 n2 ⟨hn2, hout2, id2, st2, rfl, hj0, hj1, hjm, hst2, hne2⟩
      have q2 := hout2 2 (by omega)
      simp -dsimp [nes8 n1, k0, k1, k2, f0, f1, f2, z1, z2, z3, nes, g1, y0, y1, y2, yn, Ne.symm y0, Ne.symm y1, Ne.symm y2, him, g2, x0, x1, x2, xi, Ne.symm x0, Ne.symm x1, Ne.symm x2, Ne.symm xi, hrm] at q2
      have hc2 := hst2.cell
      have u2 : ¬ id2 = 2 := by omega
      rcases hst2 with ⟨rfl, hs2⟩ | ⟨r2, rfl, hr0, hr1, hrm2⟩
      · simp -dsimp [q2, hjm, u2, Ne.symm u2, hs2, htx, ek]
      · have u4 : ¬ r2 = 2 := by omega
        simp -dsimp [q2, hjm, hrm2, u2, u4, Ne.symm u2, Ne.symm u4, htx, ek]
end TL

/- Deeds at a desk: the program. -/
set_option linter.unusedSimpArgs false
set_option linter.unusedVariables false
set_option maxRecDepth 100000
set_option maxHeartbeats 4000000
set_option pp.maxSteps 1500
namespace TL
open Go Go.Proofs
attribute [local simp] marksV storyV codeV Claim.v Place.v Deed.v Desk.v
theorem do_bad1 (d : Desk) (kind num : Int) (words : List UInt8) (hd : d.small) (hk : deskOk d = true) (h0 : ¬ kind = 0) (hw : ¬ words = []) : FnZ Tryz.prog 34 [d.v, (⟨kind, num, words⟩ : Deed).v] (.tup [d.v, .bool false]) := by
  have hok := deskOk_fn d (by have := hd.2.1; omega) (by have := hd.1.1; omega) (fun p hp => by have := (hd.2.2 p hp).1; omega)
  rw [hk] at hok
  have hcopy := fun m n => copyDesk_own d hd m n
  refine FnZ_of (rs := [.cell 4 40, .tmp 5]) false Tryz.func34 rfl rfl rfl rfl (Nat.le_of_ble_eq_true rfl) ?_
  simp -dsimp
  refine call_ hok (by simp -dsimp) ?_
  simp -dsimp
  refine callL_ (vs := [d.v]) (hcopy _ _) (by simp -dsimp) ?_
  rintro t m1 n1 ⟨hn1, hout, id, st, rfl, hi0, hi1, him, hst, hne⟩
  have k0 := hout 0 (by omega)
  have k1 := hout 1 (by omega)
  have k2 := hout 2 (by omega)
  simp -dsimp at k0 k1 k2
  have f0 := far (show 0 < n1 by omega)
  have f1 := far (show 1 < n1 by omega)
  have f2 := far (show 2 < n1 by omega)
  have z1 : ¬ n1 = 0 := by omega
  have z2 : ¬ n1 = 1 := by omega
  have z3 : ¬ n1 = 2 := by omega
  have g1 := far hi1
  have y0 : ¬ id = 0 := by omega
  have y1 : ¬ id = 1 := by omega
  have y2 : ¬ id = 2 := by omega
  have yn : ¬ id = n1 := by omega
  have hc := hst.cell
  rcases hst with ⟨rfl, hs0⟩ | ⟨r, rfl, hr0, hr1, hrm⟩
  · have hp0 : d.past = [] := by simpa using hs0
    simp -dsimp [nes8 n1, k0, k1, k2, f0, f1, f2, z1, z2, z3, nes, g1, y0, y1, y2, yn, Ne.symm y0, Ne.symm y1, Ne.symm y2, him, h0, hw, hp0]
  · have g2 := far hr1
    have x0 : ¬ r = 0 := by omega
    have x1 : ¬ r = 1 := by omega
    have x2 : ¬ r = 2 := by omega
    have xi : ¬ r = id := fun h => hne (by rw [h])
    simp -dsimp [nes8 n1, k0, k1, k2, f0, f1, f2, z1, z2, z3, nes, g1, y0, y1, y2, yn, Ne.symm y0, Ne.symm y1, Ne.symm y2, him, g2, x0, x1, x2, xi, Ne.symm x0, Ne.symm x1, Ne.symm x2, Ne.symm xi, hrm, h0, hw]
theorem do_bad2 (d : Desk) (num : Int) (words : List UInt8) (hd : d.small) (hk : deskOk d = true) (h0 : ¬ num = 0) : FnZ Tryz.prog 34 [d.v, (⟨0, num, words⟩ : Deed).v] (.tup [d.v, .bool false]) := by
  have hok := deskOk_fn d (by have := hd.2.1; omega) (by have := hd.1.1; omega) (fun p hp => by have := (hd.2.2 p hp).1; omega)
  rw [hk] at hok
  have hcopy := fun m n => copyDesk_own d hd m n
  refine FnZ_of (rs := [.cell 4 40, .tmp 5]) false Tryz.func34 rfl rfl rfl rfl (Nat.le_of_ble_eq_true rfl) ?_
  simp -dsimp
  refine call_ hok (by simp -dsimp) ?_
  simp -dsimp
  refine callL_ (vs := [d.v]) (hcopy _ _) (by simp -dsimp) ?_
  rintro t m1 n1 ⟨hn1, hout, id, st, rfl, hi0, hi1, him, hst, hne⟩
  have k0 := hout 0 (by omega)
  have k1 := hout 1 (by omega)
  have k2 := hout 2 (by omega)
  simp -dsimp at k0 k1 k2
  have f0 := far (show 0 < n1 by omega)
  have f1 := far (show 1 < n1 by omega)
  have f2 := far (show 2 < n1 by omega)
  have z1 : ¬ n1 = 0 := by omega
  have z2 : ¬ n1 = 1 := by omega
  have z3 : ¬ n1 = 2 := by omega
  have g1 := far hi1
  have y0 : ¬ id = 0 := by omega
  have y1 : ¬ id = 1 := by omega
  have y2 : ¬ id = 2 := by omega
  have yn : ¬ id = n1 := by omega
  have hc := hst.cell
  rcases hst with ⟨rfl, hs0⟩ | ⟨r, rfl, hr0, hr1, hrm⟩
  · have hp0 : d.past = [] := by simpa using hs0
    simp -dsimp [nes8 n1, k0, k1, k2, f0, f1, f2, z1, z2, z3, nes, g1, y0, y1, y2, yn, Ne.symm y0, Ne.symm y1, Ne.symm y2, him, h0, hp0]
  · have g2 := far hr1
    have x0 : ¬ r = 0 := by omega
    have x1 : ¬ r = 1 := by omega
    have x2 : ¬ r = 2 := by omega
    have xi : ¬ r = id := fun h => hne (by rw [h])
    simp -dsimp [nes8 n1, k0, k1, k2, f0, f1, f2, z1, z2, z3, nes, g1, y0, y1, y2, yn, Ne.symm y0, Ne.symm y1, Ne.symm y2, him, g2, x0, x1, x2, xi, Ne.symm x0, Ne.symm x1, Ne.symm x2, Ne.symm xi, hrm, h0]
theorem do_bad3 (d : Desk) (kind num : Int) (hd : d.small) (hk : deskOk d = true) (h0 : ¬ kind = 0) (h1 : ¬ kind = 1) (h2 : ¬ kind = 2) (h3 : ¬ num = 0) : FnZ Tryz.prog 34 [d.v, (⟨kind, num, []⟩ : Deed).v] (.tup [d.v, .bool false]) := by
  have hok := deskOk_fn d (by have := hd.2.1; omega) (by have := hd.1.1; omega) (fun p hp => by have := (hd.2.2 p hp).1; omega)
  rw [hk] at hok
  have hcopy := fun m n => copyDesk_own d hd m n
  refine FnZ_of (rs := [.cell 4 40, .tmp 5]) false Tryz.func34 rfl rfl rfl rfl (Nat.le_of_ble_eq_true rfl) ?_
  simp -dsimp
  refine call_ hok (by simp -dsimp) ?_
  simp -dsimp
  refine callL_ (vs := [d.v]) (hcopy _ _) (by simp -dsimp) ?_
  rintro t m1 n1 ⟨hn1, hout, id, st, rfl, hi0, hi1, him, hst, hne⟩
  have k0 := hout 0 (by omega)
  have k1 := hout 1 (by omega)
  have k2 := hout 2 (by omega)
  simp -dsimp at k0 k1 k2
  have f0 := far (show 0 < n1 by omega)
  have f1 := far (show 1 < n1 by omega)
  have f2 := far (show 2 < n1 by omega)
  have z1 : ¬ n1 = 0 := by omega
  have z2 : ¬ n1 = 1 := by omega
  have z3 : ¬ n1 = 2 := by omega
  have g1 := far hi1
  have y0 : ¬ id = 0 := by omega
  have y1 : ¬ id = 1 := by omega
  have y2 : ¬ id = 2 := by omega
  have yn : ¬ id = n1 := by omega
  have hc := hst.cell
  rcases hst with ⟨rfl, hs0⟩ | ⟨r, rfl, hr0, hr1, hrm⟩
  · have hp0 : d.past = [] := by simpa using hs0
    simp -dsimp [nes8 n1, k0, k1, k2, f0, f1, f2, z1, z2, z3, nes, g1, y0, y1, y2, yn, Ne.symm y0, Ne.symm y1, Ne.symm y2, him, h0, h1, h2, h3, hp0]
  · have g2 := far hr1
    have x0 : ¬ r = 0 := by omega
    have x1 : ¬ r = 1 := by omega
    have x2 : ¬ r = 2 := by omega
    have xi : ¬ r = id := fun h => hne (by rw [h])
    simp -dsimp [nes8 n1, k0, k1, k2, f0, f1, f2, z1, z2, z3, nes, g1, y0, y1, y2, yn, Ne.symm y0, Ne.symm y1, Ne.symm y2, him, g2, x0, x1, x2, xi, Ne.symm x0, Ne.symm x1, Ne.symm x2, Ne.symm xi, hrm, h0, h1, h2, h3]
theorem do_other (d : Desk) (kind : Int) (hd : d.small) (hk : deskOk d = true) (h0 : ¬ kind = 0) (h1 : ¬ kind = 1) (h2 : ¬ kind = 2) (h3 : ¬ kind = 3) (h4 : ¬ kind = 4) : FnZ Tryz.prog 34 [d.v, (⟨kind, 0, []⟩ : Deed).v] (.tup [d.v, .bool false]) := by
  have hok := deskOk_fn d (by have := hd.2.1; omega) (by have := hd.1.1; omega) (fun p hp => by have := (hd.2.2 p hp).1; omega)
  rw [hk] at hok
  have hcopy := fun m n => copyDesk_own d hd m n
  refine FnZ_of (rs := [.cell 4 40, .tmp 5]) false Tryz.func34 rfl rfl rfl rfl (Nat.le_of_ble_eq_true rfl) ?_
  simp -dsimp
  refine call_ hok (by simp -dsimp) ?_
  simp -dsimp
  refine callL_ (vs := [d.v]) (hcopy _ _) (by simp -dsimp) ?_
  rintro t m1 n1 ⟨hn1, hout, id, st, rfl, hi0, hi1, him, hst, hne⟩
  have k0 := hout 0 (by omega)
  have k1 := hout 1 (by omega)
  have k2 := hout 2 (by omega)
  simp -dsimp at k0 k1 k2
  have f0 := far (show 0 < n1 by omega)
  have f1 := far (show 1 < n1 by omega)
  have f2 := far (show 2 < n1 by omega)
  have z1 : ¬ n1 = 0 := by omega
  have z2 : ¬ n1 = 1 := by omega
  have z3 : ¬ n1 = 2 := by omega
  have g1 := far hi1
  have y0 : ¬ id = 0 := by omega
  have y1 : ¬ id = 1 := by omega
  have y2 : ¬ id = 2 := by omega
  have yn : ¬ id = n1 := by omega
  have hc := hst.cell
  rcases hst with ⟨rfl, hs0⟩ | ⟨r, rfl, hr0, hr1, hrm⟩
  · have hp0 : d.past = [] := by simpa using hs0
    simp -dsimp [nes8 n1, k0, k1, k2, f0, f1, f2, z1, z2, z3, nes, g1, y0, y1, y2, yn, Ne.symm y0, Ne.symm y1, Ne.symm y2, him, h0, h1, h2, h3, h4, hp0]
  · have g2 := far hr1
    have x0 : ¬ r = 0 := by omega
    have x1 : ¬ r = 1 := by omega
    have x2 : ¬ r = 2 := by omega
    have xi : ¬ r = id := fun h => hne (by rw [h])
    simp -dsimp [nes8 n1, k0, k1, k2, f0, f1, f2, z1, z2, z3, nes, g1, y0, y1, y2, yn, Ne.symm y0, Ne.symm y1, Ne.symm y2, him, g2, x0, x1, x2, xi, Ne.symm x0, Ne.symm x1, Ne.symm x2, Ne.symm xi, hrm, h0, h1, h2, h3, h4]
theorem do_nosay (d : Desk) (words : List UInt8) (hd : d.small) (hk : deskOk d = true) (hr : readC d.now.people words = none) (hwl : words.length ≤ 1000000000) : FnZ Tryz.prog 34 [d.v, (⟨0, 0, words⟩ : Deed).v] (.tup [d.v, .bool false]) := by
  have hok := deskOk_fn d (by have := hd.2.1; omega) (by have := hd.1.1; omega) (fun p hp => by have := (hd.2.2 p hp).1; omega)
  rw [hk] at hok
  have hcopy := fun m n => copyDesk_own d hd m n
  have hrc := readClaim_fn d.now.people words (by omega)
  rw [hr] at hrc
  refine FnZ_of (rs := [.cell 4 40, .tmp 5]) false Tryz.func34 rfl rfl rfl rfl (Nat.le_of_ble_eq_true rfl) ?_
  simp -dsimp
  refine call_ hok (by simp -dsimp) ?_
  simp -dsimp
  refine callL_ (vs := [d.v]) (hcopy _ _) (by simp -dsimp) ?_
  rintro t m1 n1 ⟨hn1, hout, id, st, rfl, hi0, hi1, him, hst, hne⟩
  have k0 := hout 0 (by omega)
  have k1 := hout 1 (by omega)
  have k2 := hout 2 (by omega)
  simp -dsimp at k0 k1 k2
  have f0 := far (show 0 < n1 by omega)
  have f1 := far (show 1 < n1 by omega)
  have f2 := far (show 2 < n1 by omega)
  have z1 : ¬ n1 = 0 := by omega
  have z2 : ¬ n1 = 1 := by omega
  have z3 : ¬ n1 = 2 := by omega
  have g1 := far hi1
  have y0 : ¬ id = 0 := by omega
  have y1 : ¬ id = 1 := by omega
  have y2 : ¬ id = 2 := by omega
  have yn : ¬ id = n1 := by omega
  have hc := hst.cell
  rcases hst with ⟨rfl, hs0⟩ | ⟨r, rfl, hr0, hr1, hrm⟩
  · have hp0 : d.past = [] := by simpa using hs0
    simp -dsimp [nes8 n1, k0, k1, k2, f0, f1, f2, z1, z2, z3, nes, g1, y0, y1, y2, yn, Ne.symm y0, Ne.symm y1, Ne.symm y2, him, hp0, hc]
    refine twp_draw [0, 1, 2, 3, 4, 5, 1006, 7, 8, 9, 10, 11, 12] [1, n1] (List.replicate 13 [0, 1]) (List.replicate 13 [0, 1]) (by kernel_rfl) (by kernel_rfl) (by kernel_rfl) (by kernel_rfl) ?_
    simp -dsimp [List.range_succ, nes8 n1, k0, k1, k2, f0, f1, f2, z1, z2, z3, nes, g1, y0, y1, y2, yn, Ne.symm y0, Ne.symm y1, Ne.symm y2, him, hp0, hc]
    refine pure_ hrc (by simp -dsimp [nes8 n1, k0, k1, k2, f0, f1, f2, z1, z2, z3, nes, g1, y0, y1, y2, yn, Ne.symm y0, Ne.symm y1, Ne.symm y2, him, hp0, hc]) ?_
    simp -dsimp [List.range_succ, nes8 n1, k0, k1, k2, f0, f1, f2, z1, z2, z3, nes, g1, y0, y1, y2, yn, Ne.symm y0, Ne.symm y1, Ne.symm y2, him, hp0, hc, optC]

  · have g2 := far hr1
    have x0 : ¬ r = 0 := by omega
    have x1 : ¬ r = 1 := by omega
    have x2 : ¬ r = 2 := by omega
    have xi : ¬ r = id := fun h => hne (by rw [h])
    simp -dsimp [nes8 n1, k0, k1, k2, f0, f1, f2, z1, z2, z3, nes, g1, y0, y1, y2, yn, Ne.symm y0, Ne.symm y1, Ne.symm y2, him, g2, x0, x1, x2, xi, Ne.symm x0, Ne.symm x1, Ne.symm x2, Ne.symm xi, hrm, hc]
    refine twp_draw [0, 1, 2, 3, 4, 5, 1006, 7, 8, 9, 10, 11, 12] [1, n1] (List.replicate 13 [0, 1]) (List.replicate 13 [0, 1]) (by kernel_rfl) (by kernel_rfl) (by kernel_rfl) (by kernel_rfl) ?_
    simp -dsimp [List.range_succ, nes8 n1, k0, k1, k2, f0, f1, f2, z1, z2, z3, nes, g1, y0, y1, y2, yn, Ne.symm y0, Ne.symm y1, Ne.symm y2, him, g2, x0, x1, x2, xi, Ne.symm x0, Ne.symm x1, Ne.symm x2, Ne.symm xi, hrm, hc]
    refine pure_ hrc (by simp -dsimp [nes8 n1, k0, k1, k2, f0, f1, f2, z1, z2, z3, nes, g1, y0, y1, y2, yn, Ne.symm y0, Ne.symm y1, Ne.symm y2, him, g2, x0, x1, x2, xi, Ne.symm x0, Ne.symm x1, Ne.symm x2, Ne.symm xi, hrm, hc]) ?_
    simp -dsimp [List.range_succ, nes8 n1, k0, k1, k2, f0, f1, f2, z1, z2, z3, nes, g1, y0, y1, y2, yn, Ne.symm y0, Ne.symm y1, Ne.symm y2, him, g2, x0, x1, x2, xi, Ne.symm x0, Ne.symm x1, Ne.symm x2, Ne.symm xi, hrm, hc, optC]

theorem do_nodrop1 (d : Desk) (num : Int) (hd : d.small) (hk : deskOk d = true) (h0 : num < 0) : FnZ Tryz.prog 34 [d.v, (⟨1, num, []⟩ : Deed).v] (.tup [d.v, .bool false]) := by
  have hok := deskOk_fn d (by have := hd.2.1; omega) (by have := hd.1.1; omega) (fun p hp => by have := (hd.2.2 p hp).1; omega)
  rw [hk] at hok
  have hcopy := fun m n => copyDesk_own d hd m n
  refine FnZ_of (rs := [.cell 4 40, .tmp 5]) false Tryz.func34 rfl rfl rfl rfl (Nat.le_of_ble_eq_true rfl) ?_
  simp -dsimp
  refine call_ hok (by simp -dsimp) ?_
  simp -dsimp
  refine callL_ (vs := [d.v]) (hcopy _ _) (by simp -dsimp) ?_
  rintro t m1 n1 ⟨hn1, hout, id, st, rfl, hi0, hi1, him, hst, hne⟩
  have k0 := hout 0 (by omega)
  have k1 := hout 1 (by omega)
  have k2 := hout 2 (by omega)
  simp -dsimp at k0 k1 k2
  have f0 := far (show 0 < n1 by omega)
  have f1 := far (show 1 < n1 by omega)
  have f2 := far (show 2 < n1 by omega)
  have z1 : ¬ n1 = 0 := by omega
  have z2 : ¬ n1 = 1 := by omega
  have z3 : ¬ n1 = 2 := by omega
  have g1 := far hi1
  have y0 : ¬ id = 0 := by omega
  have y1 : ¬ id = 1 := by omega
  have y2 : ¬ id = 2 := by omega
  have yn : ¬ id = n1 := by omega
  have hc := hst.cell
  rcases hst with ⟨rfl, hs0⟩ | ⟨r, rfl, hr0, hr1, hrm⟩
  · have hp0 : d.past = [] := by simpa using hs0
    simp -dsimp [nes8 n1, k0, k1, k2, f0, f1, f2, z1, z2, z3, nes, g1, y0, y1, y2, yn, Ne.symm y0, Ne.symm y1, Ne.symm y2, him, hp0, hc, h0]
    refine twp_draw (List.range 13) [1, n1, id] (List.replicate 13 [0, 1, 2]) (List.replicate 13 [0, 1, 2]) (by kernel_rfl) (by kernel_rfl) (by kernel_rfl) (by kernel_rfl) ?_
    simp -dsimp [List.range_succ, nes8 n1, k0, k1, k2, f0, f1, f2, z1, z2, z3, nes, g1, y0, y1, y2, yn, Ne.symm y0, Ne.symm y1, Ne.symm y2, him, hp0, hc, h0]
  · have g2 := far hr1
    have x0 : ¬ r = 0 := by omega
    have x1 : ¬ r = 1 := by omega
    have x2 : ¬ r = 2 := by omega
    have xi : ¬ r = id := fun h => hne (by rw [h])
    simp -dsimp [nes8 n1, k0, k1, k2, f0, f1, f2, z1, z2, z3, nes, g1, y0, y1, y2, yn, Ne.symm y0, Ne.symm y1, Ne.symm y2, him, g2, x0, x1, x2, xi, Ne.symm x0, Ne.symm x1, Ne.symm x2, Ne.symm xi, hrm, hc, h0]
    refine twp_draw (List.range 13) [1, n1, id] (List.replicate 13 [0, 1, 2]) (List.replicate 13 [0, 1, 2]) (by kernel_rfl) (by kernel_rfl) (by kernel_rfl) (by kernel_rfl) ?_
    simp -dsimp [List.range_succ, nes8 n1, k0, k1, k2, f0, f1, f2, z1, z2, z3, nes, g1, y0, y1, y2, yn, Ne.symm y0, Ne.symm y1, Ne.symm y2, him, g2, x0, x1, x2, xi, Ne.symm x0, Ne.symm x1, Ne.symm x2, Ne.symm xi, hrm, hc, h0]
theorem do_nodrop2 (d : Desk) (num : Int) (hd : d.small) (hk : deskOk d = true) (h0 : ¬ num < 0) (h1 : (d.now.story.length : Int) ≤ num) : FnZ Tryz.prog 34 [d.v, (⟨1, num, []⟩ : Deed).v] (.tup [d.v, .bool false]) := by
  have hok := deskOk_fn d (by have := hd.2.1; omega) (by have := hd.1.1; omega) (fun p hp => by have := (hd.2.2 p hp).1; omega)
  rw [hk] at hok
  have hcopy := fun m n => copyDesk_own d hd m n
  refine FnZ_of (rs := [.cell 4 40, .tmp 5]) false Tryz.func34 rfl rfl rfl rfl (Nat.le_of_ble_eq_true rfl) ?_
  simp -dsimp
  refine call_ hok (by simp -dsimp) ?_
  simp -dsimp
  refine callL_ (vs := [d.v]) (hcopy _ _) (by simp -dsimp) ?_
  rintro t m1 n1 ⟨hn1, hout, id, st, rfl, hi0, hi1, him, hst, hne⟩
  have k0 := hout 0 (by omega)
  have k1 := hout 1 (by omega)
  have k2 := hout 2 (by omega)
  simp -dsimp at k0 k1 k2
  have f0 := far (show 0 < n1 by omega)
  have f1 := far (show 1 < n1 by omega)
  have f2 := far (show 2 < n1 by omega)
  have z1 : ¬ n1 = 0 := by omega
  have z2 : ¬ n1 = 1 := by omega
  have z3 : ¬ n1 = 2 := by omega
  have g1 := far hi1
  have y0 : ¬ id = 0 := by omega
  have y1 : ¬ id = 1 := by omega
  have y2 : ¬ id = 2 := by omega
  have yn : ¬ id = n1 := by omega
  have hc := hst.cell
  rcases hst with ⟨rfl, hs0⟩ | ⟨r, rfl, hr0, hr1, hrm⟩
  · have hp0 : d.past = [] := by simpa using hs0
    simp -dsimp [nes8 n1, k0, k1, k2, f0, f1, f2, z1, z2, z3, nes, g1, y0, y1, y2, yn, Ne.symm y0, Ne.symm y1, Ne.symm y2, him, hp0, hc, h0, h1]
    refine twp_draw (List.range 13) [1, n1, id] (List.replicate 13 [0, 1, 2]) (List.replicate 13 [0, 1, 2]) (by kernel_rfl) (by kernel_rfl) (by kernel_rfl) (by kernel_rfl) ?_
    simp -dsimp [List.range_succ, nes8 n1, k0, k1, k2, f0, f1, f2, z1, z2, z3, nes, g1, y0, y1, y2, yn, Ne.symm y0, Ne.symm y1, Ne.symm y2, him, hp0, hc, h0, h1]
  · have g2 := far hr1
    have x0 : ¬ r = 0 := by omega
    have x1 : ¬ r = 1 := by omega
    have x2 : ¬ r = 2 := by omega
    have xi : ¬ r = id := fun h => hne (by rw [h])
    simp -dsimp [nes8 n1, k0, k1, k2, f0, f1, f2, z1, z2, z3, nes, g1, y0, y1, y2, yn, Ne.symm y0, Ne.symm y1, Ne.symm y2, him, g2, x0, x1, x2, xi, Ne.symm x0, Ne.symm x1, Ne.symm x2, Ne.symm xi, hrm, hc, h0, h1]
    refine twp_draw (List.range 13) [1, n1, id] (List.replicate 13 [0, 1, 2]) (List.replicate 13 [0, 1, 2]) (by kernel_rfl) (by kernel_rfl) (by kernel_rfl) (by kernel_rfl) ?_
    simp -dsimp [List.range_succ, nes8 n1, k0, k1, k2, f0, f1, f2, z1, z2, z3, nes, g1, y0, y1, y2, yn, Ne.symm y0, Ne.symm y1, Ne.symm y2, him, g2, x0, x1, x2, xi, Ne.symm x0, Ne.symm x1, Ne.symm x2, Ne.symm xi, hrm, hc, h0, h1]
theorem do_noback (d : Desk)  (hd : d.small) (hk : deskOk d = true) (he : d.past = []) : FnZ Tryz.prog 34 [d.v, (⟨4, 0, []⟩ : Deed).v] (.tup [d.v, .bool false]) := by
  have hok := deskOk_fn d (by have := hd.2.1; omega) (by have := hd.1.1; omega) (fun p hp => by have := (hd.2.2 p hp).1; omega)
  rw [hk] at hok
  have hcopy := fun m n => copyDesk_own d hd m n
  refine FnZ_of (rs := [.cell 4 40, .tmp 5]) false Tryz.func34 rfl rfl rfl rfl (Nat.le_of_ble_eq_true rfl) ?_
  simp -dsimp
  refine call_ hok (by simp -dsimp) ?_
  simp -dsimp
  refine callL_ (vs := [d.v]) (hcopy _ _) (by simp -dsimp) ?_
  rintro t m1 n1 ⟨hn1, hout, id, st, rfl, hi0, hi1, him, hst, hne⟩
  have k0 := hout 0 (by omega)
  have k1 := hout 1 (by omega)
  have k2 := hout 2 (by omega)
  simp -dsimp at k0 k1 k2
  have f0 := far (show 0 < n1 by omega)
  have f1 := far (show 1 < n1 by omega)
  have f2 := far (show 2 < n1 by omega)
  have z1 : ¬ n1 = 0 := by omega
  have z2 : ¬ n1 = 1 := by omega
  have z3 : ¬ n1 = 2 := by omega
  have g1 := far hi1
  have y0 : ¬ id = 0 := by omega
  have y1 : ¬ id = 1 := by omega
  have y2 : ¬ id = 2 := by omega
  have yn : ¬ id = n1 := by omega
  have hc := hst.cell
  rcases hst with ⟨rfl, hs0⟩ | ⟨r, rfl, hr0, hr1, hrm⟩
  · have hp0 : d.past = [] := by simpa using hs0
    have w0 : IntKind.wrap .i64 (-1) = -1 := rfl
    simp -dsimp [nes8 n1, k0, k1, k2, f0, f1, f2, z1, z2, z3, nes, g1, y0, y1, y2, yn, Ne.symm y0, Ne.symm y1, Ne.symm y2, him, hc, hp0, w0]
  · have g2 := far hr1
    have x0 : ¬ r = 0 := by omega
    have x1 : ¬ r = 1 := by omega
    have x2 : ¬ r = 2 := by omega
    have xi : ¬ r = id := fun h => hne (by rw [h])
    rw [he] at hrm
    have hp0 := he
    have w0 : IntKind.wrap .i64 (-1) = -1 := rfl
    simp -dsimp [nes8 n1, k0, k1, k2, f0, f1, f2, z1, z2, z3, nes, g1, y0, y1, y2, yn, Ne.symm y0, Ne.symm y1, Ne.symm y2, him, g2, x0, x1, x2, xi, Ne.symm x0, Ne.symm x1, Ne.symm x2, Ne.symm xi, hrm, hc, hp0, w0]
theorem do_back (d : Desk)  (hd : d.small) (hk : deskOk d = true) (hne0 : d.past ≠ []) : FnZ Tryz.prog 34 [d.v, (⟨4, 0, []⟩ : Deed).v] (.tup [(⟨d.past.getLast?.getD d.now, d.past.dropLast⟩ : Desk).v, .bool true]) := by
  have hok := deskOk_fn d (by have := hd.2.1; omega) (by have := hd.1.1; omega) (fun p hp => by have := (hd.2.2 p hp).1; omega)
  rw [hk] at hok
  have hcopy := fun m n => copyDesk_own d hd m n
  have hpos : 0 < d.past.length := List.length_pos_iff.2 hne0
  have hl8 := hd.2.1
  have w1 : IntKind.wrap .i64 ((d.past.length : Int) - 1) = (d.past.length : Int) - 1 := w64 (by omega) (by omega)
  refine FnZ_of (rs := [.cell 4 40, .tmp 5]) false Tryz.func34 rfl rfl rfl rfl (Nat.le_of_ble_eq_true rfl) ?_
  simp -dsimp
  refine call_ hok (by simp -dsimp) ?_
  simp -dsimp
  refine callL_ (vs := [d.v]) (hcopy _ _) (by simp -dsimp) ?_
  rintro t m1 n1 ⟨hn1, hout, id, st, rfl, hi0, hi1, him, hst, hne⟩
  have k0 := hout 0 (by omega)
  have k1 := hout 1 (by omega)
  have k2 := hout 2 (by omega)
  simp -dsimp at k0 k1 k2
  have f0 := far (show 0 < n1 by omega)
  have f1 := far (show 1 < n1 by omega)
  have f2 := far (show 2 < n1 by omega)
  have z1 : ¬ n1 = 0 := by omega
  have z2 : ¬ n1 = 1 := by omega
  have z3 : ¬ n1 = 2 := by omega
  have g1 := far hi1
  have y0 : ¬ id = 0 := by omega
  have y1 : ¬ id = 1 := by omega
  have y2 : ¬ id = 2 := by omega
  have yn : ¬ id = n1 := by omega
  have hc := hst.cell
  rcases hst with ⟨rfl, hs0⟩ | ⟨r, rfl, hr0, hr1, hrm⟩
  · have hp0 : d.past = [] := by simpa using hs0
    exact absurd hp0 hne0
  · have g2 := far hr1
    have x0 : ¬ r = 0 := by omega
    have x1 : ¬ r = 1 := by omega
    have x2 : ¬ r = 2 := by omega
    have xi : ¬ r = id := fun h => hne (by rw [h])
    obtain ⟨l1, l2, l3, l4, l5, l6⟩ := last_facts (q := d.now) hne0
    have hcl := clip_fn d.past.dropLast (by simp; omega)
    have p1 : (1 : Int) ≤ d.past.length := by omega
    have p2 : 1 ≤ d.past.length := by omega
    have p3 : ¬ (d.past.length : Int) - 1 < 0 := by omega
    have p4 : ¬ (d.past.length : Int) < 1 := by omega
    have zp : allZ 2 (List.map Place.v d.past) := fun x hx => by obtain ⟨p, _, rfl⟩ := List.mem_map.1 hx; exact ⟨by simp, by simp⟩
    generalize d.past.getLast?.getD d.now = q at *
    simp -dsimp [nes8 n1, k0, k1, k2, f0, f1, f2, z1, z2, z3, nes, g1, y0, y1, y2, yn, Ne.symm y0, Ne.symm y1, Ne.symm y2, him, g2, x0, x1, x2, xi, Ne.symm x0, Ne.symm x1, Ne.symm x2, Ne.symm xi, hrm, hc, w1, p1, p2, p3, p4, l1, l4, l5, l6]
    refine twp_draw (List.range 13) [n1, r] (List.replicate 13 [0, 1]) (List.replicate 13 [0, 1]) (by kernel_rfl) (by kernel_rfl) (by kernel_rfl) (by kernel_rfl) ?_
    simp -dsimp [List.range_succ, nes8 n1, k0, k1, k2, f0, f1, f2, z1, z2, z3, nes, g1, y0, y1, y2, yn, Ne.symm y0, Ne.symm y1, Ne.symm y2, him, g2, x0, x1, x2, xi, Ne.symm x0, Ne.symm x1, Ne.symm x2, Ne.symm xi, hrm, hc, w1, p1, p2, p3, p4, l1, l2, l3, l4, l5, l6, zp]
    refine call_ hcl (by simp -dsimp [l3]) ?_
    simp -dsimp [List.range_succ, nes8 n1, k0, k1, k2, f0, f1, f2, z1, z2, z3, nes, g1, y0, y1, y2, yn, Ne.symm y0, Ne.symm y1, Ne.symm y2, him, g2, x0, x1, x2, xi, Ne.symm x0, Ne.symm x1, Ne.symm x2, Ne.symm xi, hrm, hc, w1, p1, p2, p3, p4, l1, l2, l3, l4, l5, l6]
theorem back_no {a : Deed} (h : ¬ (a.kind = 4 ∧ a.num = 0 ∧ a.words = [])) : isBack a = false := by
  simp only [isBack, decide_eq_false_iff_not]; rintro rfl; exact h ⟨rfl, rfl, rfl⟩
theorem deskDo_fn (d : Desk) (a : Deed) (hd : d.small) (ha : a.words.length ≤ 1000000000) : FnZ Tryz.prog 34 [d.v, a.v] (.tup [(deskDo d a).1.v, .bool (deskDo d a).2]) := by
  have hk := ft (deskOk d)
  rcases hk with hk | hk
  · have hok := deskOk_fn d (by have := hd.2.1; omega) (by have := hd.1.1; omega) (fun p hp => by have := (hd.2.2 p hp).1; omega)
    rw [deskDo_no hk]
    rw [hk] at hok
    obtain ⟨a1, a2, a3⟩ := a
    refine FnZ_of (rs := [.cell 4 40, .tmp 5]) false Tryz.func34 rfl rfl rfl rfl (Nat.le_of_ble_eq_true rfl) ?_
    simp -dsimp
    refine call_ hok (by simp -dsimp) ?_
    simp -dsimp [noDeskV]
  obtain ⟨hpast, hnow, hp8⟩ := deskOk_iff.1 hk
  have ml := (made_fine d.now a hnow).2.1
  obtain ⟨kind, num, words⟩ := a
  simp only at ha
  have zero : ∀ a : Deed, isBack a = false → made d.now a = ⟨0, []⟩ → FnZ Tryz.prog 34 [d.v, a.v] (.tup [d.v, .bool false]) → FnZ Tryz.prog 34 [d.v, a.v] (.tup [(deskDo d a).1.v, .bool (deskDo d a).2]) := fun a h1 h2 h3 => by
    rw [deskDo_zero hk h1 h2]; exact h3
  by_cases k0 : kind = 0
  · subst k0
    by_cases n0 : num = 0
    · subst n0
      have hb : isBack ⟨0, 0, words⟩ = false := back_no (by simp)
      cases hr : readC d.now.people words with
      | none => exact zero _ hb (by simp [made, hr]) (do_nosay d words hd hk hr ha)
      | some c =>
        have hm : made d.now ⟨0, 0, words⟩ = ⟨d.now.people, d.now.story ++ [c]⟩ := by simp [made, hr]
        rw [deskDo_made hk hb]
        exact do_say d words c hd hk _ ml hr ha hm
    · exact zero _ (back_no (by simp)) (by simp [made, n0]) (do_bad2 d num words hd hk n0)
  by_cases hw : words = []
  case neg => exact zero _ (back_no (by simp [hw])) (by simp [made, k0, hw]) (do_bad1 d kind num words hd hk k0 hw)
  subst hw
  by_cases k1 : kind = 1
  · subst k1
    have hb : isBack ⟨1, num, []⟩ = false := back_no (by simp)
    by_cases h0 : num < 0
    · exact zero _ hb (by simp [made]; omega) (do_nodrop1 d num hd hk h0)
    · by_cases h1 : (d.now.story.length : Int) ≤ num
      · exact zero _ hb (by simp [made]; omega) (do_nodrop2 d num hd hk h0 h1)
      · obtain ⟨k, rfl⟩ := Int.eq_ofNat_of_zero_le (show 0 ≤ num by omega)
        have hm : made d.now ⟨1, (k : Int), []⟩ = ⟨d.now.people, d.now.story.eraseIdx k⟩ := by
          unfold made; rw [if_neg (by simp), if_pos ⟨rfl, rfl, by simp, by simp; omega⟩]; rfl
        rw [deskDo_made hk hb]
        exact do_drop d k hd hk _ ml (by omega) hm
  by_cases k2 : kind = 2
  · subst k2
    have hb : isBack ⟨2, num, []⟩ = false := back_no (by simp)
    have hm : made d.now ⟨2, num, []⟩ = ⟨num, d.now.story⟩ := by simp [made]
    rw [deskDo_made hk hb]
    exact do_people d num hd hk _ ml hm
  by_cases n0 : num = 0
  case neg => exact zero _ (back_no (by simp [n0])) (by simp [made, k0, k1, k2, n0]) (do_bad3 d kind num hd hk k0 k1 k2 n0)
  subst n0
  by_cases k3 : kind = 3
  · subst k3
    have hb : isBack ⟨3, 0, []⟩ = false := back_no (by simp)
    have hm : made d.now ⟨3, 0, []⟩ = ⟨d.now.people, least d.now.people.toNat d.now.story⟩ := by simp [made]
    rw [deskDo_made hk hb]
    exact do_least d hd hk _ ml hm
  by_cases k4 : kind = 4
  · subst k4
    by_cases he : d.past = []
    · rw [deskDo_bad hk (good_back (by rfl)) (by simp [he])]
      exact do_noback d hd hk he
    · rw [deskDo_back hk (by rfl) he]
      exact do_back d hd hk he
  exact zero _ (back_no (by simp [k4])) (by simp [made, k0, k1, k2, k3]) (do_other d kind hd hk k0 k1 k2 k3 k4)
end TL

/- A deed that may be none. -/
set_option linter.unusedSimpArgs false
set_option linter.unusedVariables false
set_option maxRecDepth 100000
set_option maxHeartbeats 4000000
set_option pp.maxSteps 1500
namespace TL
open Go Go.Proofs
def optD (o : Option Deed) : V := .tup [(o.getD ⟨0, 0, []⟩).v, .bool o.isSome]
end TL

/- Deeds read: the program and the reference, and the exact law. -/
set_option linter.unusedSimpArgs false
set_option linter.unusedVariables false
set_option maxRecDepth 100000
set_option maxHeartbeats 4000000
set_option pp.maxSteps 1500
namespace TL
open Go Go.Proofs
attribute [local simp] marksV storyV codeV Claim.v Place.v Deed.v
/-! The reference. -/
def Isrd (s : List UInt8) (l : List Deed) (e : Nat) (y : S) : Prop := ∃ i id : Nat, y.tm 0 = .v (.str s) ∧ y.tm 2 = .ptr 0 0 ∧ y.m 0 = some (.box 53 3 [.v (.int .i64 0), .v (.int .i64 0), .v (.str [])]) ∧ y.tm 5 = .loc id ∧ 0 < id ∧ id < y.n ∧
  y.m id = some (.arr 53 (l.map Deed.v)) ∧ y.tm 7 = .v (.int .i64 i) ∧ y.mu = false ∧ i ≤ l.length ∧ (∀ a ∈ l.take i, s ≠ [] → deedTx a ≠ s) ∧ (e = 1 → i = l.length)
theorem deedS_two {s x r : List UInt8} (h : cutAt 32 s = [x, r]) : deedS s = [⟨3, 0, []⟩, ⟨4, 0, []⟩, ⟨0, 0, r⟩, ⟨1, digS r, []⟩, ⟨2, digS r, []⟩] := by
  unfold deedS; rw [h]; rfl
theorem deedS_not {s : List UInt8} (h : (cutAt 32 s).length ≠ 2) : deedS s = [⟨3, 0, []⟩, ⟨4, 0, []⟩] := by
  unfold deedS
  generalize cutAt 32 s = ps at h
  match ps, h with
  | [], _ => rfl
  | [_], _ => rfl
  | [_, _], h => exact absurd rfl h
  | _ :: _ :: _ :: _, _ => rfl
theorem readDeedS_fn (s : List UInt8) (hl : s.length ≤ 2000000000) : FnZ Tryz.prog 93 [.str s] (optD (readD s)) := by
  have hcut := l1Cut_fn s 32 hl
  have e32 : (((32 : UInt8).toNat : Nat) : Int) = 32 := rfl
  rw [e32] at hcut
  have hno := readD_none' (s := s)
  have hyes : ∀ a, s ≠ [] → deedTx a = s → readD s = some a := fun a => readD_some
  have hlen : ∀ a ∈ deedS s, a.words.length ≤ 2000000000 := by
    by_cases h2 : (cutAt 32 s).length = 2
    · have h3 : ∃ x rest, cutAt 32 s = [x, rest] := by
        generalize cutAt 32 s = ps at h2
        match ps, h2 with
        | [x, r], _ => exact ⟨x, r, rfl⟩
      obtain ⟨x, r, h5⟩ := h3
      have hrl : r.length ≤ s.length := cutAt_piece (c := 32) (by rw [h5]; simp)
      rw [deedS_two h5]
      intro a ha
      simp only [List.mem_cons, List.mem_nil_iff, or_false] at ha
      rcases ha with rfl | rfl | rfl | rfl | rfl <;> simp <;> omega
    · rw [deedS_not h2]
      intro a ha
      simp only [List.mem_cons, List.mem_nil_iff, or_false] at ha
      rcases ha with rfl | rfl <;> simp
  have hll : (deedS s).length ≤ 5 := by
    by_cases h2 : (cutAt 32 s).length = 2
    · have h3 : ∃ x rest, cutAt 32 s = [x, rest] := by
        generalize cutAt 32 s = ps at h2
        match ps, h2 with
        | [x, r], _ => exact ⟨x, r, rfl⟩
      obtain ⟨x, r, h5⟩ := h3
      rw [deedS_two h5]; simp
    · rw [deedS_not h2]; simp
  by_cases h2 : (cutAt 32 s).length = 2
  case pos =>
    have h3 : ∃ x rest, cutAt 32 s = [x, rest] := by
      generalize cutAt 32 s = ps at h2
      match ps, h2 with
      | [x, r], _ => exact ⟨x, r, rfl⟩
    refine h3.elim fun x h4 => h4.elim fun r h5 => ?_
    clear h3 h4 h2
    have hrl : r.length ≤ s.length := cutAt_piece (c := 32) (by rw [h5]; simp)
    have hdg := l1Digits_fn r (by omega)
    have hds := deedS_two h5
    rw [h5] at hcut
    generalize deedS s = l at *
    generalize digS r = D at *
    clear h5
    refine FnZ_of (rs := [.cell 2 53, .tmp 3]) false Tryz.func93 rfl rfl rfl rfl (Nat.le_of_ble_eq_true rfl) ?_
    simp -dsimp
    refine call_ hcut (by simp -dsimp) ?_
    simp -dsimp
    refine call_ hdg (by simp -dsimp) ?_
    simp -dsimp
    refine twp_loopC (Isrd s l 0) (fun y => l.length - natOf (y.tm 7)) (Isrd s l 1) ?_ ?_ ?_
    · refine ⟨0, _, by simp -dsimp, by simp -dsimp, by simp -dsimp, by simp -dsimp; rfl, by simp -dsimp, by simp -dsimp, by simp -dsimp [hds], by simp -dsimp, by simp -dsimp, by omega, by simp, by simp⟩
    · rintro y ⟨i, id, t0, t2, m0, t5, hid0, hid, hm, t7, hmu, hi, hall, hend⟩
      by_cases hlt : i < l.length
      case neg =>
        simp -dsimp [t5, t7, hm, hlt]
        exact ⟨i, id, by simp -dsimp [t0], by simp -dsimp [t2], by simp -dsimp [m0], by simp -dsimp [t5], hid0, by simp -dsimp [hid], by simp -dsimp [hm], by simp -dsimp [t7], by simp -dsimp [hmu], hi, hall, fun _ => by omega⟩
      have hget : (l.map Deed.v)[i]? = some (l[i].v) := by simp [hlt]
      have wi : IntKind.wrap .i64 ((i : Int) + 1) = ((i + 1 : Nat) : Int) := by rw [w64 (by omega) (by omega)]; omega
      have hmu1 : l.length - (i + 1) < l.length - i := by omega
      have hdt := deedTextS_fn l[i] (hlen _ (List.getElem_mem _))
      have f0 := far (show 0 < y.n by omega)
      have f1 := far hid
      by_cases hs : s = []
      · have hnx : ∀ a ∈ l.take (i + 1), s ≠ [] → deedTx a ≠ s := fun a _ h => absurd hs h
        simp -dsimp [t0, t5, t7, hm, hlt, hs, wi, hmu1]
        exact ⟨i + 1, id, by simp -dsimp [t0, hs], by simp -dsimp [t2], by simp -dsimp [m0], by simp -dsimp [t5], hid0, by simp -dsimp [hid], by simp -dsimp [hm], by simp -dsimp, by simp -dsimp [hmu], by omega, fun a _ h => absurd rfl h, by simp⟩
      · by_cases he : deedTx l[i] = s
        · rw [hyes _ hs he]
          rw [he] at hdt
          simp -dsimp [t0, t5, t7, hm, hlt, hs, hget]
          refine call_ hdt (by simp -dsimp) ?_
          simp -dsimp [t0, t2, t5, t7, m0, hm, hget, hlt, f0, f1, optD]
        · have hnx : ∀ a ∈ l.take (i + 1), s ≠ [] → deedTx a ≠ s := fun a ha h => by
            rw [List.take_succ_eq_append_getElem hlt] at ha
            rcases List.mem_append.1 ha with ha | ha
            · exact hall a ha h
            · rw [List.mem_singleton.1 ha]; exact he
          simp -dsimp [t0, t5, t7, hm, hlt, hs, hget]
          refine call_ hdt (by simp -dsimp) ?_
          simp -dsimp [t0, he, t7, wi, hmu1]
          exact ⟨i + 1, id, by simp -dsimp [t0], by simp -dsimp [t2], by simp -dsimp [m0], by simp -dsimp [t5], hid0, by simp -dsimp [hid], by simp -dsimp [hm], by simp -dsimp, by simp -dsimp [hmu], by omega, hnx, by simp⟩
    · rintro y ⟨i, id, t0, t2, m0, t5, hid0, hid, hm, t7, hmu, hi, hall, hend⟩
      have hil := hend rfl
      rw [hil, List.take_length] at hall
      rw [hno hall]
      have f0 := far (show 0 < y.n by omega)
      simp -dsimp [t2, m0, f0, optD]
  case neg =>
    have h2' : ¬ ((cutAt 32 s).length : Int) = 2 := by omega
    have hds := deedS_not h2
    generalize deedS s = l at *
    refine FnZ_of (rs := [.cell 2 53, .tmp 3]) false Tryz.func93 rfl rfl rfl rfl (Nat.le_of_ble_eq_true rfl) ?_
    simp -dsimp
    refine call_ hcut (by simp -dsimp) ?_
    simp -dsimp [h2, h2']
    refine twp_loopC (Isrd s l 0) (fun y => l.length - natOf (y.tm 7)) (Isrd s l 1) ?_ ?_ ?_
    · refine ⟨0, _, by simp -dsimp, by simp -dsimp, by simp -dsimp, by simp -dsimp; rfl, by simp -dsimp, by simp -dsimp, by simp -dsimp [hds], by simp -dsimp, by simp -dsimp, by omega, by simp, by simp⟩
    · rintro y ⟨i, id, t0, t2, m0, t5, hid0, hid, hm, t7, hmu, hi, hall, hend⟩
      by_cases hlt : i < l.length
      case neg =>
        simp -dsimp [t5, t7, hm, hlt]
        exact ⟨i, id, by simp -dsimp [t0], by simp -dsimp [t2], by simp -dsimp [m0], by simp -dsimp [t5], hid0, by simp -dsimp [hid], by simp -dsimp [hm], by simp -dsimp [t7], by simp -dsimp [hmu], hi, hall, fun _ => by omega⟩
      have hget : (l.map Deed.v)[i]? = some (l[i].v) := by simp [hlt]
      have wi : IntKind.wrap .i64 ((i : Int) + 1) = ((i + 1 : Nat) : Int) := by rw [w64 (by omega) (by omega)]; omega
      have hmu1 : l.length - (i + 1) < l.length - i := by omega
      have hdt := deedTextS_fn l[i] (hlen _ (List.getElem_mem _))
      have f0 := far (show 0 < y.n by omega)
      have f1 := far hid
      by_cases hs : s = []
      · have hnx : ∀ a ∈ l.take (i + 1), s ≠ [] → deedTx a ≠ s := fun a _ h => absurd hs h
        simp -dsimp [t0, t5, t7, hm, hlt, hs, wi, hmu1]
        exact ⟨i + 1, id, by simp -dsimp [t0, hs], by simp -dsimp [t2], by simp -dsimp [m0], by simp -dsimp [t5], hid0, by simp -dsimp [hid], by simp -dsimp [hm], by simp -dsimp, by simp -dsimp [hmu], by omega, fun a _ h => absurd rfl h, by simp⟩
      · by_cases he : deedTx l[i] = s
        · rw [hyes _ hs he]
          rw [he] at hdt
          simp -dsimp [t0, t5, t7, hm, hlt, hs, hget]
          refine call_ hdt (by simp -dsimp) ?_
          simp -dsimp [t0, t2, t5, t7, m0, hm, hget, hlt, f0, f1, optD]
        · have hnx : ∀ a ∈ l.take (i + 1), s ≠ [] → deedTx a ≠ s := fun a ha h => by
            rw [List.take_succ_eq_append_getElem hlt] at ha
            rcases List.mem_append.1 ha with ha | ha
            · exact hall a ha h
            · rw [List.mem_singleton.1 ha]; exact he
          simp -dsimp [t0, t5, t7, hm, hlt, hs, hget]
          refine call_ hdt (by simp -dsimp) ?_
          simp -dsimp [t0, he, t7, wi, hmu1]
          exact ⟨i + 1, id, by simp -dsimp [t0], by simp -dsimp [t2], by simp -dsimp [m0], by simp -dsimp [t5], hid0, by simp -dsimp [hid], by simp -dsimp [hm], by simp -dsimp, by simp -dsimp [hmu], by omega, hnx, by simp⟩
    · rintro y ⟨i, id, t0, t2, m0, t5, hid0, hid, hm, t7, hmu, hi, hall, hend⟩
      have hil := hend rfl
      rw [hil, List.take_length] at hall
      rw [hno hall]
      have f0 := far (show 0 < y.n by omega)
      simp -dsimp [t2, m0, f0, optD]
end TL

/- Journals are read: the reference. -/
set_option linter.unusedSimpArgs false
set_option linter.unusedVariables false
set_option maxRecDepth 100000
set_option maxHeartbeats 4000000
set_option pp.maxSteps 1500
namespace TL
open Go Go.Proofs
attribute [local simp] marksV storyV codeV Claim.v Place.v Deed.v
theorem deed_cells0 (a : Deed) : a.v.cells = [.int .i64 a.kind, .int .i64 a.num, .str a.words] := rfl
def Irs (s : List UInt8) (e : Nat) (y : S) : Prop := ∃ (l : List Deed) (mid rest : List UInt8) (id : Nat), y.tm 0 = .v (.str s) ∧ y.tm 4 = .loc id ∧ id < y.n ∧ y.m id = some (.arr 53 (l.map Deed.v)) ∧ y.tm 5 = .v (.int .i64 (jr l deedTx).length) ∧ y.tm 6 = .v (.int .i64 ((jr l deedTx).length + mid.length : Nat)) ∧ y.mu = false ∧
  s = jr l deedTx ++ (mid ++ rest) ∧ (∀ a ∈ l, deedTx a ≠ []) ∧ (∀ y ∈ mid, y ≠ 10) ∧ (e = 1 → rest = [])
theorem readJournalS_fn (s : List UInt8) (hl : s.length ≤ 2000000000) : FnZ Tryz.prog 59 [.str s] (.tup [.sl ((readJ s).1.map Deed.v), .int .i64 (readJ s).2]) := by
  generalize hJ : readJ s = J
  refine FnZ_of (rs := [.tmp 2, .tmp 3]) false Tryz.func59 rfl rfl rfl rfl (Nat.le_of_ble_eq_true rfl) ?_
  simp -dsimp
  refine twp_loopC (Irs s 0) (fun y => s.length - natOf (y.tm 6)) (Irs s 1) ?_ ?_ ?_
  · exact ⟨[], [], s, 0, by simp -dsimp, by simp -dsimp, by simp -dsimp, by simp -dsimp, by simp -dsimp [jr], by simp -dsimp [jr], by simp -dsimp, by simp [jr], by simp, by simp, by simp⟩
  · rintro y ⟨l, mid, rest, id, t0, t4, hid, hm, t5, t6, hmu, hs, hne, hmid, hend⟩
    have hlen : s.length = (jr l deedTx).length + (mid.length + rest.length) := by rw [hs]; simp
    have happ := readJ_app hne (mid ++ rest)
    rw [← hs, hJ] at happ
    have hjl := jr_long l
    have hdt : (s.take ((jr l deedTx).length + mid.length)).drop (jr l deedTx).length = mid := by
      rw [hs, ← List.append_assoc, List.take_left' (by simp), List.drop_left]
    have hget : s[(jr l deedTx).length + mid.length]? = rest.head? := by
      rw [hs, List.getElem?_append_right (by omega), List.getElem?_append_right (by omega)]
      have : (jr l deedTx).length + mid.length - (jr l deedTx).length - mid.length = 0 := by omega
      rw [this, List.head?_eq_getElem?]
    have hnext : ∀ a, deedTx a = mid → mid ≠ [] → jr (l ++ [a]) deedTx = jr l deedTx ++ (mid ++ [10]) := fun a h _ => by rw [jr_append, jr_cons, h]; simp [jr]
    generalize hF : (jr l deedTx).length = F at *
    cases rest with
    | nil =>
      have hlt : ¬ F + mid.length < s.length := by simp at hlen; omega
      have hlt' : ¬ ((F + mid.length : Nat) : Int) < s.length := by omega
      have hlt'' : ¬ (F : Int) + mid.length < s.length := by omega
      simp -dsimp [t0, t6, hlt, hlt', hlt'']
      exact ⟨l, mid, [], id, by simp -dsimp [t0], by simp -dsimp [t4], by simp -dsimp; omega, by simp -dsimp [hm], by simp -dsimp [t5, hF], by simp -dsimp [t6, hF], by simp -dsimp [hmu], hs, hne, hmid, fun _ => rfl⟩
    | cons c r =>
      simp only [List.length_cons] at hlen
      have hlt : F + mid.length < s.length := by omega
      have hlt' : ((F + mid.length : Nat) : Int) < s.length := by omega
      have hlt'' : (F : Int) + mid.length < s.length := by omega
      have hT : ((F : Int) + mid.length).toNat = F + mid.length := by omega
      have hT1 : ((F : Int) + mid.length + 1).toNat = F + mid.length + 1 := by omega
      have hle1 : (F : Int) ≤ (F : Int) + mid.length := by omega
      have hle2 : (F : Int) + mid.length ≤ s.length := by omega
      have hle3 : F + mid.length ≤ s.length := by omega
      have wi : IntKind.wrap .i64 ((F : Int) + mid.length + 1) = ((F + mid.length + 1 : Nat) : Int) := by rw [w64 (by omega) (by omega)]; omega
      have hmu1 : s.length - (F + mid.length + 1) < s.length - (F + mid.length) := by omega
      have z0 : (0 : Int) ≤ (F : Int) + mid.length := by omega
      simp only [List.head?_cons] at hget
      have hgE : s[F + mid.length]'hlt = c := Option.some.inj ((List.getElem?_eq_getElem hlt).symm.trans hget)
      have f1 := far hid
      by_cases hc : c = 10
      case neg =>
        have hc' : ¬ (c.toNat : Int) = 10 := fun e => hc (UInt8.toNat_inj.1 (by have : (10 : UInt8).toNat = 10 := rfl; omega))
        have hc'' : ¬ c.toNat = 10 := fun e => hc (UInt8.toNat_inj.1 (by have : (10 : UInt8).toNat = 10 := rfl; omega))
        simp -dsimp [t0, t4, t5, t6, hlt, hlt', hlt'', hT, hget, hgE, hc, hc', hc'', wi, hmu1, z0, hT1]
        refine ⟨l, mid ++ [c], r, id, by simp -dsimp [t0], by simp -dsimp [t4], by simp -dsimp; omega, by simp -dsimp [hm], by simp -dsimp [t5, hF], by simp -dsimp [hF]; omega, by simp -dsimp [hmu], by rw [hs]; simp, hne, fun y hy => ?_, by simp⟩
        rcases List.mem_append.1 hy with hy | hy
        · exact hmid y hy
        · rw [List.mem_singleton.1 hy]; exact hc
      subst hc
      have hrd := readDeedS_fn mid (by omega)
      have hcase : ∀ a, readD mid = some a → mid ≠ [] ∧ deedTx a = mid := fun a h => readD_is h
      cases ho : readD mid with
      | none =>
        rw [ho] at hrd
        rw [readJ_halt hmid ho] at happ
        simp only [List.append_nil, Nat.add_zero] at happ
        rw [happ]
        simp -dsimp [t0, t4, t5, t6, hlt, hlt', hlt'', hT, hget, hgE, wi, z0, hle1, hle2, hle3, hdt]
        refine call_ hrd (by simp -dsimp) ?_
        simp -dsimp [optD, t4, t5, hm, f1]
      | some a =>
        rw [ho] at hrd
        obtain ⟨hx, ha⟩ := hcase a ho
        have hj' := hnext a ha hx
        have hjl' : (jr (l ++ [a]) deedTx).length = F + mid.length + 1 := by rw [hj']; simp [hF]; omega
        have b1 : (l.length + 1) * 32 ≤ 140737488355328 := by omega
        simp -dsimp [t0, t4, t5, t6, hlt, hlt', hlt'', hT, hget, hgE, wi, z0, hle1, hle2, hle3, hdt]
        refine call_ hrd (by simp -dsimp) ?_
        simp -dsimp [optD, t4, t5, t6, hm, f1, hmu, b1, wi, hmu1, nes, hT, hT1]
        refine st_out fun s' ht hm' hn' hu' => ?_
        have a0 := ht 0
        have a4 := ht 4
        have a5 := ht 5
        have a6 := ht 6
        simp -dsimp [t0] at a0 a4 a5 a6 hm' hn' hu'
        clear ht
        refine ⟨l ++ [a], [], r, _, a0, a4, by omega, ?_, by rw [a5, hjl']; push_cast; rfl, by rw [a6, hjl']; push_cast; simp, by rw [hu', hmu], by rw [hs, hj']; simp, fun b hb => ?_, by simp, by simp⟩
        · simp [hm', nes, f1]
        · rcases List.mem_append.1 hb with hb | hb
          · exact hne b hb
          · rw [List.mem_singleton.1 hb, ha]; exact hx
  · rintro y ⟨l, mid, rest, id, t0, t4, hid, hm, t5, t6, hmu, hs, hne, hmid, hend⟩
    obtain rfl := hend rfl
    have happ := readJ_app hne (mid ++ [])
    rw [← hs, hJ, List.append_nil, readJ_clean hmid] at happ
    simp only [List.append_nil, Nat.add_zero] at happ
    rw [happ]
    simp -dsimp [t4, t5, hm]
end TL

/- Deeds, one after the other. -/
set_option linter.unusedSimpArgs false
set_option linter.unusedVariables false
set_option maxRecDepth 100000
set_option maxHeartbeats 4000000
set_option pp.maxSteps 1500
namespace TL
open Go Go.Proofs
attribute [local simp] marksV storyV codeV Claim.v Place.v Deed.v Desk.v
theorem words_short {a : Deed} (h : deedTx a ≠ []) : a.words.length ≤ 1000000000 := by
  rcases deed_cases h with ⟨w, rfl, ⟨d, hd⟩, _⟩ | ⟨n, h0, h9, rfl, _⟩ | ⟨n, h0, h9, rfl, _⟩ | ⟨rfl, _⟩ | ⟨rfl, _⟩
  · have := readC_len hd; simp only; omega
  · simp
  · simp
  · simp
  · simp
theorem copyDesk_v (d : Desk) (hd : d.small) (m : Mem) (n : Nat) : FnS Tryz.prog 63 m n [.v d.v] (Drawn (fun x => x = d.v) m n) := by
  refine Drawn_of ⟨_, Tryz.func63, rfl, rfl⟩ fun hfr => ?_
  refine (copyDesk_own d hd m n).weak ?_
  rintro t m' n' ⟨hn, hout, id, st, rfl, h0, h1, him, hst, hne⟩
  refine ⟨hn, ⟨d.v, ?_, rfl⟩, hout⟩
  have hb := hst.bor (n0 := n) (m' := m') (Nat.le_refl _) (fun i _ _ _ => rfl) 3
  have h0' : n ≤ id := h0
  simp [hb, him, h0']
theorem l15Copy_v (d : Desk) (hd : d.small) (m : Mem) (n : Nat) : FnS Tryz.prog 98 m n [.v d.v] (Drawn (fun x => x = d.v) m n) := by
  refine Drawn_of ⟨_, Tryz.func98, rfl, rfl⟩ fun hfr => ?_
  refine (l15Copy_own d hd m n).weak ?_
  rintro t m' n' ⟨hn, hout, st, rfl, hst⟩
  refine ⟨hn, ⟨d.v, ?_, rfl⟩, hout⟩
  have hb := hst.bor (n0 := n) (m' := m') (Nat.le_refl _) (fun i _ _ _ => rfl) 3
  simp [hb]
theorem doAll_succ {d : Desk} {l : List Deed} {i : Nat} (h : i < l.length) : doAll d (l.take (i + 1)) = doStep (doAll d (l.take i)) l[i] := by
  unfold doAll
  rw [List.take_succ_eq_append_getElem h, List.foldl_append]; rfl
noncomputable def Ida (d : Desk) (l : List Deed) (e : Nat) (s : S) : Prop := ∃ i : Nat, s.tm 2 = .ptr 0 0 ∧ s.tm 4 = .ptr 1 0 ∧ s.tm 6 = .v (.int .i64 (doAll d (l.take i)).2) ∧ s.tm 13 = .v (.sl (l.map Deed.v)) ∧ s.tm 14 = .v (.int .i64 l.length) ∧ s.tm 15 = .v (.int .i64 i) ∧ i ≤ l.length ∧ 2 ≤ s.n ∧
  s.m 0 = some (.box 40 3 [.v (.int .i64 (doAll d (l.take i)).1.now.people), .v (storyV (doAll d (l.take i)).1.now.story), .v (.sl ((doAll d (l.take i)).1.past.map Place.v))]) ∧ s.m 1 = some (.box 40 3 [.v (.int .i64 0), .nil, .nil]) ∧ (e = 1 → i = l.length)
theorem doAll_fn (d : Desk) (l : List Deed) (hk : deskOk d = true) (hl : l.length ≤ 1048576) (hw : ∀ a ∈ l, a.words.length ≤ 1000000000) : FnZ Tryz.prog 58 [d.v, .sl (l.map Deed.v)] (.tup [(doAll d l).1.v, .int .i64 (doAll d l).2]) := by
  have hcv := fun m n => copyDesk_v d (desk_fine hk).1 m n
  refine FnZ_of (rs := [.cell 4 40, .tmp 5]) false Tryz.func58 rfl rfl rfl rfl (Nat.le_of_ble_eq_true rfl) ?_
  simp -dsimp
  refine callL_ (vs := [d.v]) (hcv _ _) (by simp -dsimp) ?_
  rintro t m1 n1 ⟨hn1, ⟨x, rfl, rfl⟩, rfl⟩
  have f0 := far (show 0 < n1 by omega)
  have f1 := far (show 1 < n1 by omega)
  simp -dsimp [f0, f1]
  refine twp_loopC (Ida d l 0) (fun s => l.length - natOf (s.tm 15)) (Ida d l 1) ?_ ?_ ?_
  · exact ⟨0, by simp -dsimp, by simp -dsimp, by simp -dsimp [doAll], by simp -dsimp, by simp -dsimp, by simp -dsimp, by omega, (by simp -dsimp <;> omega), by simp -dsimp [doAll], by simp -dsimp, by simp⟩
  · rintro s ⟨i, t2, t4, t6, t13, t14, t15, hi, hn, m0, m1, hend⟩
    by_cases hlt : i < l.length
    case neg =>
      simp -dsimp [t14, t15, hlt]
      exact ⟨i, by simp -dsimp [t2], by simp -dsimp [t4], by simp -dsimp [t6], by simp -dsimp [t13], by simp -dsimp [t14], by simp -dsimp [t15], hi, by simp -dsimp; omega, by simp -dsimp [m0], by simp -dsimp [m1], fun _ => by omega⟩
    have hget : (l.map Deed.v)[i]? = some (l[i].v) := by simp [hlt]
    have wi : IntKind.wrap .i64 ((i : Int) + 1) = ((i + 1 : Nat) : Int) := by rw [w64 (by omega) (by omega)]; omega
    have hmu1 : l.length - (i + 1) < l.length - i := by omega
    have f0 := far (show 0 < s.n by omega)
    have f1 := far (show 1 < s.n by omega)
    have hD := doAll_ok (l.take i) d hk
    have hcall := deskDo_fn (doAll d (l.take i)).1 l[i] (desk_fine hD).1 (hw _ (List.getElem_mem _))
    have hs := doAll_succ (d := d) hlt
    have hcnt := doAll_len (l.take i) d
    have hcl : (l.take i).length ≤ i := by simp; omega
    have wc : IntKind.wrap .i64 (((doAll d (l.take i)).2 : Int) + 1) = (((doAll d (l.take i)).2 + 1 : Nat) : Int) := by rw [w64 (by omega) (by omega)]; omega
    have hyes : (deskDo (doAll d (l.take i)).1 l[i]).2 = true → doAll d (l.take (i + 1)) = ((deskDo (doAll d (l.take i)).1 l[i]).1, (doAll d (l.take i)).2 + 1) := fun h => by rw [hs]; exact if_pos h
    have hno : (deskDo (doAll d (l.take i)).1 l[i]).2 = false → doAll d (l.take (i + 1)) = doAll d (l.take i) := fun h => by rw [hs]; exact if_neg (by simp [h])
    clear hs hD hcnt hcl
    generalize deskDo (doAll d (l.take i)).1 l[i] = E at *
    generalize doAll d (l.take i) = R at *
    obtain ⟨⟨⟨E1, E2⟩, E3⟩, E4⟩ := E
    obtain ⟨⟨⟨D1, D2⟩, D3⟩, c⟩ := R
    generalize hx : l[i] = a at *
    obtain ⟨a1, a2, a3⟩ := a
    simp only at t6 m0 hcall wc hyes hno
    simp -dsimp [t2, t13, t14, t15, hlt, hget, m0, f0, f1, nes, hx]
    refine call_ hcall (by simp -dsimp) ?_
    cases E4 with
    | false =>
      have hR := hno rfl
      simp -dsimp [t2, t6, t15, m0, f0, f1, nes, wi, hmu1]
      exact ⟨i + 1, by simp -dsimp [t2], by simp -dsimp [t4], by simp -dsimp [t6, hR], by simp -dsimp [t13], by simp -dsimp [t14], by simp -dsimp, by omega, (by simp -dsimp <;> omega), by simp -dsimp [m0, f0, f1, hR], by simp -dsimp [m1, f0, f1], by simp⟩
    | true =>
      have hR := hyes rfl
      simp -dsimp [t2, t6, t15, m0, f0, f1, nes, wi, hmu1, wc]
      exact ⟨i + 1, by simp -dsimp [t2], by simp -dsimp [t4], by simp -dsimp [hR], by simp -dsimp [t13], by simp -dsimp [t14], by simp -dsimp, by omega, (by simp -dsimp <;> omega), by simp -dsimp [f0, f1, hR], by simp -dsimp [m1, f0, f1], by simp⟩
  · rintro s ⟨i, t2, t4, t6, t13, t14, t15, hi, hn, m0, m1, hend⟩
    have := hend rfl
    subst this
    rw [List.take_length] at m0 t6
    generalize doAll d l = R at *
    obtain ⟨⟨⟨D1, D2⟩, D3⟩, c⟩ := R
    simp -dsimp [t2, t4, t6, m0, m1]
noncomputable def Ir15 (d : Desk) (l : List Deed) (q : Nat) (e : Nat) (s : S) : Prop := ∃ i : Nat, s.tm 1 = .v (.sl (l.map Deed.v)) ∧ s.tm 4 = .ptr 1 0 ∧ s.tm 6 = .ptr q 0 ∧ s.tm 7 = .v (.int .i64 (doAll d (l.take i)).2) ∧ s.tm 8 = .v (.int .i64 i) ∧ i ≤ l.length ∧ q < s.n ∧
  s.m q = some (.box 40 3 [.v (.int .i64 (doAll d (l.take i)).1.now.people), .v (storyV (doAll d (l.take i)).1.now.story), .v (.sl ((doAll d (l.take i)).1.past.map Place.v))]) ∧ s.m 1 = some (.box 40 3 [.v (.int .i64 0), .nil, .nil]) ∧ (e = 1 → i = l.length)
theorem doAllS_fn (d : Desk) (l : List Deed) (hk : deskOk d = true) (hl : l.length ≤ 1048576) (hw : ∀ a ∈ l, a.words.length ≤ 1000000000) : FnZ Tryz.prog 67 [d.v, .sl (l.map Deed.v)] (.tup [(doAll d l).1.v, .int .i64 (doAll d l).2]) := by
  have hcv := fun m n => l15Copy_v d (desk_fine hk).1 m n
  refine FnZ_of (rs := [.cell 4 40, .tmp 5]) false Tryz.func67 rfl rfl rfl rfl (Nat.le_of_ble_eq_true rfl) ?_
  simp -dsimp
  refine callL_ (vs := [d.v]) (hcv _ _) (by simp -dsimp) ?_
  rintro t m1 q ⟨hn1, ⟨x, rfl, rfl⟩, rfl⟩
  have q1 : ¬ q = 1 := by omega
  have f0 := far (show 0 < q by omega)
  have f1 := far (show 1 < q by omega)
  simp -dsimp [f0, f1]
  refine twp_loopC (Ir15 d l q 0) (fun s => l.length - natOf (s.tm 8)) (Ir15 d l q 1) ?_ ?_ ?_
  · exact ⟨0, by simp -dsimp, by simp -dsimp, by simp -dsimp, by simp -dsimp [doAll], by simp -dsimp, by omega, (by simp -dsimp <;> omega), by simp -dsimp [doAll], by simp -dsimp [f1], by simp⟩
  · rintro s ⟨i, t1, t4, t6, t7, t8, hi, hn, m0, m1, hend⟩
    by_cases hlt : i < l.length
    case neg =>
      simp -dsimp [t1, t8, hlt]
      exact ⟨i, by simp -dsimp [t1], by simp -dsimp [t4], by simp -dsimp [t6], by simp -dsimp [t7], by simp -dsimp [t8], hi, by simp -dsimp; omega, by simp -dsimp [m0], by simp -dsimp [m1], fun _ => by omega⟩
    have hget : (l.map Deed.v)[i]? = some (l[i].v) := by simp [hlt]
    have wi : IntKind.wrap .i64 ((i : Int) + 1) = ((i + 1 : Nat) : Int) := by rw [w64 (by omega) (by omega)]; omega
    have hmu1 : l.length - (i + 1) < l.length - i := by omega
    have f0 := far (show q < s.n by omega)
    have f1 := far (show 1 < s.n by omega)
    have hD := doAll_ok (l.take i) d hk
    have hcall := deskDoS_fn (doAll d (l.take i)).1 l[i] (desk_fine hD).1 (desk_fine hD).2.1 (hw _ (List.getElem_mem _))
    have hs := doAll_succ (d := d) hlt
    have hcnt := doAll_len (l.take i) d
    have hcl : (l.take i).length ≤ i := by simp; omega
    have wc : IntKind.wrap .i64 (((doAll d (l.take i)).2 : Int) + 1) = (((doAll d (l.take i)).2 + 1 : Nat) : Int) := by rw [w64 (by omega) (by omega)]; omega
    have hyes : (deskDo (doAll d (l.take i)).1 l[i]).2 = true → doAll d (l.take (i + 1)) = ((deskDo (doAll d (l.take i)).1 l[i]).1, (doAll d (l.take i)).2 + 1) := fun h => by rw [hs]; exact if_pos h
    have hno : (deskDo (doAll d (l.take i)).1 l[i]).2 = false → doAll d (l.take (i + 1)) = doAll d (l.take i) := fun h => by rw [hs]; exact if_neg (by simp [h])
    clear hs hD hcnt hcl
    generalize deskDo (doAll d (l.take i)).1 l[i] = E at *
    generalize doAll d (l.take i) = R at *
    obtain ⟨⟨⟨E1, E2⟩, E3⟩, E4⟩ := E
    obtain ⟨⟨⟨D1, D2⟩, D3⟩, c⟩ := R
    generalize hx : l[i] = a at *
    obtain ⟨a1, a2, a3⟩ := a
    simp only at t7 m0 hcall wc hyes hno
    simp -dsimp [t1, t8, hlt]
    refine twp_drawT (.run [0, 1, 2, 3, 4] (.alt (.run [5, 6, 7, 8, 9, 10, 11] .done) (.run [9, 5, 6, 7, 8, 10, 11] .done))) [q] (List.replicate 12 [0]) (List.replicate 12 [0]) (by kernel_rfl) (by kernel_rfl) (by kernel_rfl) (by kernel_rfl) ?_
    simp -dsimp [t1, t6, t8, hlt, hget, m0, f0, f1, nes, hx]
    refine ordT_both ?_ ?_
    · simp -dsimp [t1, t6, t8, hlt, hget, m0, f0, f1, nes, hx]
      refine call_ hcall (by simp -dsimp) ?_
      cases E4 with
      | false =>
        have hR := hno rfl
        simp -dsimp [t1, t6, t7, t8, m0, f0, f1, nes, wi, hmu1]
        exact ⟨i + 1, by simp -dsimp [t1], by simp -dsimp [t4], by simp -dsimp [t6], by simp -dsimp [t7, hR], by simp -dsimp, by omega, (by simp -dsimp <;> omega), by simp -dsimp [m0, f0, f1, hR], by simp -dsimp [m1, f0, f1], by simp⟩
      | true =>
        have hR := hyes rfl
        have q1' : ¬ 1 = q := by omega
        simp -dsimp [t1, t6, t7, t8, m0, f0, f1, nes, wi, hmu1, wc]
        exact ⟨i + 1, by simp -dsimp [t1], by simp -dsimp [t4], by simp -dsimp [t6], by simp -dsimp [hR], by simp -dsimp, by omega, (by simp -dsimp <;> omega), by simp -dsimp [f0, f1, hR], by simp -dsimp [m1, f0, f1, q1, q1'], by simp⟩
    · simp -dsimp [t1, t6, t8, hlt, hget, m0, f0, f1, nes, hx]
      refine call_ hcall (by simp -dsimp) ?_
      cases E4 with
      | false =>
        have hR := hno rfl
        simp -dsimp [t1, t6, t7, t8, m0, f0, f1, nes, wi, hmu1]
        exact ⟨i + 1, by simp -dsimp [t1], by simp -dsimp [t4], by simp -dsimp [t6], by simp -dsimp [t7, hR], by simp -dsimp, by omega, (by simp -dsimp <;> omega), by simp -dsimp [m0, f0, f1, hR], by simp -dsimp [m1, f0, f1], by simp⟩
      | true =>
        have hR := hyes rfl
        have q1' : ¬ 1 = q := by omega
        simp -dsimp [t1, t6, t7, t8, m0, f0, f1, nes, wi, hmu1, wc]
        exact ⟨i + 1, by simp -dsimp [t1], by simp -dsimp [t4], by simp -dsimp [t6], by simp -dsimp [hR], by simp -dsimp, by omega, (by simp -dsimp <;> omega), by simp -dsimp [f0, f1, hR], by simp -dsimp [m1, f0, f1, q1, q1'], by simp⟩
  · rintro s ⟨i, t1, t4, t6, t7, t8, hi, hn, m0, m1, hend⟩
    have := hend rfl
    subst this
    rw [List.take_length] at m0 t7
    generalize doAll d l = R at *
    obtain ⟨⟨⟨D1, D2⟩, D3⟩, c⟩ := R
    simp -dsimp [t4, t6, t7, m0, m1, q1]
end TL

/- Stores: mended, opened, acted at: the reference. -/
set_option linter.unusedSimpArgs false
set_option linter.unusedVariables false
set_option maxRecDepth 100000
set_option maxHeartbeats 4000000
set_option pp.maxSteps 1500
namespace TL
open Go Go.Proofs
attribute [local simp] marksV storyV codeV Claim.v Place.v Store.v Desk.v Deed.v
theorem storeMendS_fn (s : Store) (h : s.small) : FnZ Tryz.prog 32 [s.v] (.tup [(storeMend s).v, .bool (storeOk s)]) := by
  have ho := storeOkS_fn s h
  have hj := readJournalS_fn s.log h.2
  have hle := readJ_le s.log
  have hk := ft (storeOk s)
  unfold storeMend
  generalize storeOk s = o at *
  generalize readJ s.log = J at *
  obtain ⟨s1, s2, s3⟩ := s
  obtain ⟨J1, J2⟩ := J
  simp only at hle hj ⊢
  have hle' : (J2 : Int) ≤ s2.length := by omega
  refine FnZ_of (rs := [.cell 2 25, .tmp 3]) false Tryz.func32 rfl rfl rfl rfl (Nat.le_of_ble_eq_true rfl) ?_
  simp -dsimp
  refine call_ ho (by simp -dsimp) ?_
  rcases hk with rfl | rfl
  · simp -dsimp [noStore]
  · simp -dsimp
    refine call_ hj (by simp -dsimp) ?_
    simp -dsimp [hle, hle']
    refine twp_draw (List.range 13) [0, 1] (List.replicate 13 [0]) (List.replicate 11 [0, 1] ++ [[0], [0, 1]]) (by kernel_rfl) (by kernel_rfl) (by kernel_rfl) (by kernel_rfl) ?_
    simp -dsimp [List.range_succ, hle, hle']
theorem storeOpenS_fn (s : Store) (h : s.small) : FnZ Tryz.prog 40 [s.v] (.tup [(storeOpen s).v, .bool (storeOk s)]) := by
  have ho := storeOkS_fn s h
  have hk := ft (storeOk s)
  rcases hk with hk | hk
  · unfold storeOpen
    rw [if_neg (by simp [hk])]
    rw [hk] at ho ⊢
    obtain ⟨s1, s2, s3⟩ := s
    refine FnZ_of (rs := [.cell 2 40, .tmp 3]) false Tryz.func40 rfl rfl rfl rfl (Nat.le_of_ble_eq_true rfl) ?_
    simp -dsimp
    refine call_ ho (by simp -dsimp) ?_
    simp -dsimp [noDeskV]
  have hr := readPlaceS_fn s.saved h.1
  have hj := readJournalS_fn s.log h.2
  have hp := placeOf_ok (storeOk_iff.1 hk).1
  rw [hp.2.2] at hr
  have hw : ∀ a ∈ (readJ s.log).1, a.words.length ≤ 1000000000 := fun a ha => words_short (readJ_all _ a ha)
  have hd := doAllS_fn ⟨placeOf s, []⟩ (readJ s.log).1 (desk_new hp.1) (by have := readJ_many s.log; have := (storeOk_iff.1 hk).2.1; omega) hw
  unfold storeOpen opened
  rw [if_pos hk]
  rw [hk] at ho ⊢
  generalize doAll ⟨placeOf s, []⟩ (readJ s.log).1 = R at *
  generalize readJ s.log = J at *
  generalize placeOf s = p at *
  clear hk hp
  obtain ⟨s1, s2, s3⟩ := s
  obtain ⟨J1, J2⟩ := J
  obtain ⟨⟨⟨R1, R2⟩, R3⟩, R4⟩ := R
  obtain ⟨p1, p2⟩ := p
  simp only at hr hj hd ⊢
  refine FnZ_of (rs := [.cell 2 40, .tmp 3]) false Tryz.func40 rfl rfl rfl rfl (Nat.le_of_ble_eq_true rfl) ?_
  simp -dsimp
  refine call_ ho (by simp -dsimp) ?_
  simp -dsimp
  refine call_ hr (by simp -dsimp) ?_
  simp -dsimp [optP]
  refine call_ hj (by simp -dsimp) ?_
  simp -dsimp
  refine call_ hd (by simp -dsimp) ?_
  simp -dsimp
theorem storeActS_fn (s : Store) (a : Deed) (h : s.small) (ha : a.words.length ≤ 1000000000) : FnZ Tryz.prog 76 [s.v, a.v] (.tup [(storeAct s a).v, .bool (actOk s a)]) := by
  have ho := storeOkS_fn s h
  have hk := ft (storeOk s)
  rcases hk with hk | hk
  · obtain ⟨e1, e2⟩ := storeAct_out (a := a) hk
    rw [e1, e2]
    rw [hk] at ho
    obtain ⟨s1, s2, s3⟩ := s
    obtain ⟨a1, a2, a3⟩ := a
    refine FnZ_of (rs := [.cell 4 25, .tmp 5]) false Tryz.func76 rfl rfl rfl rfl (Nat.le_of_ble_eq_true rfl) ?_
    simp -dsimp
    refine call_ ho (by simp -dsimp) ?_
    simp -dsimp [noStore]
  have hj := readJournalS_fn s.log h.2
  have hop := storeOpenS_fn s h
  have eo : storeOpen s = opened s := if_pos hk
  rw [eo, hk] at hop
  have hd := deskDoS_fn (opened s) a (desk_fine (opened_ok hk)).1 (desk_fine (opened_ok hk)).2.1 ha
  have ht := deedTextS_fn a (by omega)
  have htl := deedTx_len a
  have hll := (storeOk_iff.1 hk).2.1
  have hA : actOk s a = (decide ((readJ s.log).2 = s.log.length) && (deskDo (opened s) a).2 && !decide (deedTx a = []) && decide (s.log.length + (deedTx a).length + 1 ≤ 1000)) := by unfold actOk; rw [hk]; rfl
  unfold storeAct
  rw [hA, hk]
  rw [hk] at ho
  clear hA eo
  generalize deskDo (opened s) a = E at *
  generalize opened s = D at *
  generalize deedTx a = tx at *
  generalize readJ s.log = J at *
  clear hk h ha
  obtain ⟨s1, s2, s3⟩ := s
  obtain ⟨a1, a2, a3⟩ := a
  obtain ⟨J1, J2⟩ := J
  obtain ⟨⟨D1, D2⟩, D3⟩ := D
  obtain ⟨⟨⟨E1, E2⟩, E3⟩, E4⟩ := E
  simp only at hj hd hll ⊢
  have b1 : (s2.length : Int) + tx.length ≤ 9223372036854775807 := by omega
  have b2 : (s2.length : Int) + (tx.length + 1) ≤ 9223372036854775807 := by omega
  have b3 : (s2.length : Int) + tx.length + 1 ≤ 9223372036854775807 := by omega
  have w1 : IntKind.wrap .i64 ((s2.length : Int) + tx.length) = (s2.length : Int) + tx.length := w64 (by omega) (by omega)
  have w2 : IntKind.wrap .i64 ((s2.length : Int) + tx.length + 1) = (s2.length : Int) + tx.length + 1 := w64 (by omega) (by omega)
  refine FnZ_of (rs := [.cell 4 25, .tmp 5]) false Tryz.func76 rfl rfl rfl rfl (Nat.le_of_ble_eq_true rfl) ?_
  simp -dsimp
  refine call_ ho (by simp -dsimp) ?_
  simp -dsimp
  refine call_ hj (by simp -dsimp) ?_
  simp -dsimp
  refine call_ hop (by simp -dsimp) ?_
  simp -dsimp
  refine call_ hd (by simp -dsimp) ?_
  simp -dsimp
  refine call_ ht (by simp -dsimp) ?_
  by_cases q1 : J2 = s2.length
  case neg =>
    have q1' : ¬ (J2 : Int) = s2.length := by omega
    simp -dsimp [q1, q1']
  have q1' : (J2 : Int) = s2.length := by omega
  cases E4 with
  | false => simp -dsimp [q1, q1']
  | true =>
    by_cases q2 : tx = []
    · simp -dsimp [q1, q1', q2]
    by_cases q3 : s2.length + tx.length + 1 ≤ 1000
    · have q3' : ¬ (1000 : Int) < (s2.length : Int) + (tx.length + 1) := by omega
      have q3'' : ¬ (1000 : Int) < (s2.length : Int) + tx.length + 1 := by omega
      simp -dsimp [q1, q1', q2, q3, q3', q3'', w1, w2, b1, b2, b3]
    · have q3' : (1000 : Int) < (s2.length : Int) + (tx.length + 1) := by omega
      have q3'' : (1000 : Int) < (s2.length : Int) + tx.length + 1 := by omega
      simp -dsimp [q1, q1', q2, q3, q3', q3'', w1, w2, b1, b2, b3]
end TL

/- Places' texts are read. -/
set_option linter.unusedSimpArgs false
set_option linter.unusedVariables false
set_option maxRecDepth 100000
set_option maxHeartbeats 4000000
set_option pp.maxSteps 1500
namespace TL
open Go Go.Proofs
attribute [local simp] marksV storyV codeV Claim.v Place.v
theorem placeTx_len (p : Place) : (placeTx p).length ≤ 28 * p.story.length + 40 := by
  have hk := ft (placeOk p)
  rcases hk with hk | hk
  · rw [placeTx_no hk]; simp
  · rw [placeTx_shape hk]
    have := storyTx_len p.people p.story
    unfold restTx
    split
    · simp
    · simp only [List.length_cons]; omega
end TL
