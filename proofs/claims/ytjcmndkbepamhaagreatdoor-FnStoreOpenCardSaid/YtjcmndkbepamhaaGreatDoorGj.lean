/- TL: parts FnsQE15a, FnsQE18, FnsQS2, TlWrap, FnsQFWa, FnsQFWb, FnsQFWc, FnsQFWd, FnsQVn. -/
import Derived.Test.YtjcmndkbepamhaaGreatDoorGi
import Derived.Test.YtjcmndkbepamhaaGreatDoorGf
import Derived.Test.YtjcmndkbepamhaaGreatDoorGg
import Derived.HandedShaped
import Derived.LaidLaws
import Derived.Test.YtjcmndkbepamhaaGreatDoorRows
import Derived.JoinedOf
import Derived.SevenTiedAt
import Derived.KernelRfl
import Derived.Test.YtjcmndkbepamhaaGreatDoorGh
/- Deeds read: the program and the reference, and the exact law. -/
set_option linter.unusedSimpArgs false
set_option linter.unusedVariables false
set_option maxRecDepth 100000
set_option maxHeartbeats 4000000
set_option pp.maxSteps 1500
namespace TL
open Go Go.Proofs
attribute [local simp] marksV storyV codeV Claim.v Place.v Deed.v
theorem readDeed_fn (s : List UInt8) (hl : s.length ≤ 2000000000) : FnZ Tryz.prog 65 [.str s] (optD (readD s)) := by
  have hcut := cut_fn s [32] (by omega)
  have hon : ∀ a, deedW (Go.Lib.cut s [32]).1 (Go.Lib.cut s [32]).2.1 = some a → s ≠ [] → readD s = if deedTx a = s then some a else none := fun a h => readD_on h
  have hoff : deedW (Go.Lib.cut s [32]).1 (Go.Lib.cut s [32]).2.1 = none → readD s = none := readD_off
  have hne := cutW_nil (s := s)
  have hrl := cutR_len s [32]
  have hdt : ∀ a : Deed, a.words.length ≤ 2000000000 → FnZ Tryz.prog 49 [a.v] (.str (deedTx a)) := fun a h => deedText_fn a h
  generalize (Go.Lib.cut s [32]).2.2 = f at *
  generalize (Go.Lib.cut s [32]).2.1 = r at *
  generalize (Go.Lib.cut s [32]).1 = w at *
  have hrl2 : r.length ≤ 2000000000 := by omega
  by_cases h1 : w = [115, 97, 121]
  · subst h1
    have ho := hon ⟨0, 0, r⟩ rfl (hne (by simp))
    have hd := hdt ⟨0, 0, r⟩ hrl2
    clear hon hoff hne hdt
    rw [ho]
    by_cases hx : deedTx ⟨0, 0, r⟩ = s
    · rw [hx] at hd
      rw [if_pos hx]
      refine FnZ_of (rs := [.cell 2 35, .tmp 3]) false Tryz.func65 rfl rfl rfl rfl (Nat.le_of_ble_eq_true rfl) ?_
      simp -dsimp
      refine call_ hcut (by simp -dsimp) ?_
      simp -dsimp
      refine call_ hd (by simp -dsimp) ?_
      simp -dsimp [optD]
    · rw [if_neg hx]
      refine FnZ_of (rs := [.cell 2 35, .tmp 3]) false Tryz.func65 rfl rfl rfl rfl (Nat.le_of_ble_eq_true rfl) ?_
      simp -dsimp
      refine call_ hcut (by simp -dsimp) ?_
      simp -dsimp
      refine call_ hd (by simp -dsimp) ?_
      simp -dsimp [optD, hx]
  by_cases h2 : w = [100, 114, 111, 112]
  · subst h2
    have ho := hon ⟨1, atoiV r, []⟩ rfl (hne (by simp))
    have hd := hdt ⟨1, atoiV r, []⟩ (by simp)
    have ha := atoi_fn r hrl2
    clear hon hoff hne hdt
    rw [ho]
    generalize atoiV r = num at *
    by_cases hx : deedTx ⟨1, num, []⟩ = s
    · rw [hx] at hd
      rw [if_pos hx]
      refine FnZ_of (rs := [.cell 2 35, .tmp 3]) false Tryz.func65 rfl rfl rfl rfl (Nat.le_of_ble_eq_true rfl) ?_
      simp -dsimp
      refine call_ hcut (by simp -dsimp) ?_
      simp -dsimp
      refine call_ ha (by simp -dsimp) ?_
      simp -dsimp
      refine call_ hd (by simp -dsimp) ?_
      simp -dsimp [optD]
    · rw [if_neg hx]
      refine FnZ_of (rs := [.cell 2 35, .tmp 3]) false Tryz.func65 rfl rfl rfl rfl (Nat.le_of_ble_eq_true rfl) ?_
      simp -dsimp
      refine call_ hcut (by simp -dsimp) ?_
      simp -dsimp
      refine call_ ha (by simp -dsimp) ?_
      simp -dsimp
      refine call_ hd (by simp -dsimp) ?_
      simp -dsimp [optD, hx]
  by_cases h3 : w = [112, 101, 111, 112, 108, 101]
  · subst h3
    have ho := hon ⟨2, atoiV r, []⟩ rfl (hne (by simp))
    have hd := hdt ⟨2, atoiV r, []⟩ (by simp)
    have ha := atoi_fn r hrl2
    clear hon hoff hne hdt
    rw [ho]
    generalize atoiV r = num at *
    by_cases hx : deedTx ⟨2, num, []⟩ = s
    · rw [hx] at hd
      rw [if_pos hx]
      refine FnZ_of (rs := [.cell 2 35, .tmp 3]) false Tryz.func65 rfl rfl rfl rfl (Nat.le_of_ble_eq_true rfl) ?_
      simp -dsimp
      refine call_ hcut (by simp -dsimp) ?_
      simp -dsimp
      refine call_ ha (by simp -dsimp) ?_
      simp -dsimp
      refine call_ hd (by simp -dsimp) ?_
      simp -dsimp [optD]
    · rw [if_neg hx]
      refine FnZ_of (rs := [.cell 2 35, .tmp 3]) false Tryz.func65 rfl rfl rfl rfl (Nat.le_of_ble_eq_true rfl) ?_
      simp -dsimp
      refine call_ hcut (by simp -dsimp) ?_
      simp -dsimp
      refine call_ ha (by simp -dsimp) ?_
      simp -dsimp
      refine call_ hd (by simp -dsimp) ?_
      simp -dsimp [optD, hx]
  by_cases h4 : w = [108, 101, 97, 115, 116]
  · subst h4
    have ho := hon ⟨3, 0, []⟩ rfl (hne (by simp))
    have hd := hdt ⟨3, 0, []⟩ (by simp)
    clear hon hoff hne hdt
    rw [ho]
    by_cases hx : deedTx ⟨3, 0, []⟩ = s
    · rw [hx] at hd
      rw [if_pos hx]
      refine FnZ_of (rs := [.cell 2 35, .tmp 3]) false Tryz.func65 rfl rfl rfl rfl (Nat.le_of_ble_eq_true rfl) ?_
      simp -dsimp
      refine call_ hcut (by simp -dsimp) ?_
      simp -dsimp
      refine call_ hd (by simp -dsimp) ?_
      simp -dsimp [optD]
    · rw [if_neg hx]
      refine FnZ_of (rs := [.cell 2 35, .tmp 3]) false Tryz.func65 rfl rfl rfl rfl (Nat.le_of_ble_eq_true rfl) ?_
      simp -dsimp
      refine call_ hcut (by simp -dsimp) ?_
      simp -dsimp
      refine call_ hd (by simp -dsimp) ?_
      simp -dsimp [optD, hx]
  by_cases h5 : w = [98, 97, 99, 107]
  · subst h5
    have ho := hon ⟨4, 0, []⟩ rfl (hne (by simp))
    have hd := hdt ⟨4, 0, []⟩ (by simp)
    clear hon hoff hne hdt
    rw [ho]
    by_cases hx : deedTx ⟨4, 0, []⟩ = s
    · rw [hx] at hd
      rw [if_pos hx]
      refine FnZ_of (rs := [.cell 2 35, .tmp 3]) false Tryz.func65 rfl rfl rfl rfl (Nat.le_of_ble_eq_true rfl) ?_
      simp -dsimp
      refine call_ hcut (by simp -dsimp) ?_
      simp -dsimp
      refine call_ hd (by simp -dsimp) ?_
      simp -dsimp [optD]
    · rw [if_neg hx]
      refine FnZ_of (rs := [.cell 2 35, .tmp 3]) false Tryz.func65 rfl rfl rfl rfl (Nat.le_of_ble_eq_true rfl) ?_
      simp -dsimp
      refine call_ hcut (by simp -dsimp) ?_
      simp -dsimp
      refine call_ hd (by simp -dsimp) ?_
      simp -dsimp [optD, hx]
  · have e : deedW w r = none := by unfold deedW; rw [if_neg h1, if_neg h2, if_neg h3, if_neg h4, if_neg h5]
    rw [hoff e]
    clear hon hoff hne hdt
    refine FnZ_of (rs := [.cell 2 35, .tmp 3]) false Tryz.func65 rfl rfl rfl rfl (Nat.le_of_ble_eq_true rfl) ?_
    simp -dsimp
    refine call_ hcut (by simp -dsimp) ?_
    simp -dsimp [optD, h1, h2, h3, h4, h5]
end TL

/- Journals read. -/
set_option linter.unusedSimpArgs false
set_option linter.unusedVariables false
set_option maxRecDepth 100000
set_option maxHeartbeats 4000000
set_option pp.maxSteps 1500
namespace TL
open Go Go.Proofs
attribute [local simp] marksV storyV codeV Claim.v Place.v Deed.v
def Irj (s : List UInt8) (J : List Deed × Nat) (y : S) : Prop := ∃ (pos id f : Nat) (l : List Deed), y.tm 0 = .v (.str s) ∧ y.tm 4 = .loc id ∧ id < y.n ∧ y.m id = some (.arr 35 (l.map Deed.v)) ∧ y.tm 5 = .v (.int .i64 pos) ∧ y.mu = false ∧ pos ≤ s.length ∧ l.length ≤ pos ∧
  (s.drop pos).length < f ∧ l ++ (readJF f (s.drop pos)).1 = J.1 ∧ pos + (readJF f (s.drop pos)).2 = J.2
theorem readJournal_fn (s : List UInt8) (hl : s.length ≤ 2000000000) : FnZ Tryz.prog 38 [.str s] (.tup [.sl ((readJ s).1.map Deed.v), .int .i64 (readJ s).2]) := by
  generalize hJ : readJ s = J
  refine FnZ_of (rs := [.tmp 2, .tmp 3]) false Tryz.func38 rfl rfl rfl rfl (Nat.le_of_ble_eq_true rfl) ?_
  simp -dsimp
  refine twp_loop (Irj s J) (fun y => s.length - natOf (y.tm 5)) ?_ ?_
  · exact ⟨0, 0, s.length + 1, [], by simp -dsimp, by simp -dsimp, by simp -dsimp, by simp -dsimp, by simp -dsimp, by simp -dsimp, by omega, by simp, by simp, by rw [← hJ]; rfl, by rw [← hJ]; simp [readJ]⟩
  · rintro y ⟨pos, id, f, l, t0, t4, hid, hm, t5, hmu, hpos, hll, hf, hj1, hj2⟩
    have hcut := cut_fn (s.drop pos) [10] (by rw [List.length_drop]; omega)
    have hpos' : (pos : Int) ≤ s.length := by omega
    have f1 := far hid
    have hstop : (Go.Lib.cut (s.drop pos) [10]).2.2 = false ∨ readD (Go.Lib.cut (s.drop pos) [10]).1 = none → J = (l, pos) := fun h => by
      cases f with
      | zero => simp at hf
      | succ f =>
        rw [readJF_stop h] at hj1 hj2
        obtain ⟨J1, J2⟩ := J
        simp at hj1 hj2
        rw [← hj1, ← hj2]
    have hgo : ∀ a, (Go.Lib.cut (s.drop pos) [10]).2.2 = true → readD (Go.Lib.cut (s.drop pos) [10]).1 = some a → ∃ g, pos + ((Go.Lib.cut (s.drop pos) [10]).1.length + 1) ≤ s.length ∧ (s.drop (pos + ((Go.Lib.cut (s.drop pos) [10]).1.length + 1))).length < g ∧
        (l ++ [a]) ++ (readJF g (s.drop (pos + ((Go.Lib.cut (s.drop pos) [10]).1.length + 1)))).1 = J.1 ∧ pos + ((Go.Lib.cut (s.drop pos) [10]).1.length + 1) + (readJF g (s.drop (pos + ((Go.Lib.cut (s.drop pos) [10]).1.length + 1)))).2 = J.2 := fun a h ha => by
      cases f with
      | zero => simp at hf
      | succ f =>
        rw [readJF_step h ha] at hj1 hj2
        obtain ⟨e, _⟩ := cut_found h
        have e2 : s.drop (pos + ((Go.Lib.cut (s.drop pos) [10]).1.length + 1)) = (Go.Lib.cut (s.drop pos) [10]).2.1 := by
          rw [← List.drop_drop]
          generalize Go.Lib.cut (s.drop pos) [10] = C at *
          rw [e, List.drop_append, List.drop_of_length_le (by omega)]
          have : C.1.length + 1 - C.1.length = 1 := by omega
          rw [this]; simp
        have e3 := congrArg List.length e
        rw [List.length_append, List.length_cons, List.length_drop] at e3
        have e4 := congrArg List.length e2
        rw [List.length_drop] at e4
        refine ⟨f, by omega, by rw [List.length_drop] at hf ⊢; omega, ?_, ?_⟩
        · rw [e2, ← hj1]; simp
        · rw [e2, ← hj2]; simp only; omega
    have hwl : (Go.Lib.cut (s.drop pos) [10]).1.length ≤ s.length := by
      unfold Go.Lib.cut
      split
      · simp only [List.length_take, List.length_drop]; omega
      · simp only [List.length_drop]; omega
    have hrd := readDeed_fn (Go.Lib.cut (s.drop pos) [10]).1 (by omega)
    generalize (Go.Lib.cut (s.drop pos) [10]).2.1 = r at *
    generalize (Go.Lib.cut (s.drop pos) [10]).2.2 = fd at *
    generalize (Go.Lib.cut (s.drop pos) [10]).1 = w at *
    generalize readD w = o at *
    cases fd with
    | false =>
      have hst := hstop (.inl rfl)
      rw [hst]
      simp -dsimp [t0, t5, hpos, hpos']
      refine call_ hcut (by simp -dsimp) ?_
      simp -dsimp
      refine call_ hrd (by simp -dsimp) ?_
      simp -dsimp [optD, t4, t5, hm, f1]
    | true =>
      cases o with
      | none =>
        have hst := hstop (.inr rfl)
        rw [hst]
        simp -dsimp [t0, t5, hpos, hpos']
        refine call_ hcut (by simp -dsimp) ?_
        simp -dsimp
        refine call_ hrd (by simp -dsimp) ?_
        simp -dsimp [optD, t4, t5, hm, f1]
      | some a =>
        have hg := hgo a rfl rfl
        clear hgo hstop
        refine hg.elim fun g hg => ?_
        obtain ⟨g1, g2, g3, g4⟩ := hg
        have b1 : (l.length + 1) * 32 ≤ 140737488355328 := by omega
        have w1 : IntKind.wrap .i64 ((w.length : Int) + 1) = (w.length : Int) + 1 := w64 (by omega) (by omega)
        have w2 : IntKind.wrap .i64 ((pos : Int) + ((w.length : Int) + 1)) = ((pos + (w.length + 1) : Nat) : Int) := by rw [w64 (by omega) (by omega)]; omega
        have hmu1 : s.length - (pos + (w.length + 1)) < s.length - pos := by omega
        have hT : ((pos : Int) + ((w.length : Int) + 1)).toNat = pos + (w.length + 1) := by omega
        simp -dsimp [t0, t5, hpos, hpos']
        refine call_ hcut (by simp -dsimp) ?_
        simp -dsimp
        refine call_ hrd (by simp -dsimp) ?_
        simp -dsimp [optD, t4, t5, hm, f1, hmu, b1, w1, w2, hT, hmu1, nes]
        refine st_out fun s' ht hm' hn' hu' => ?_
        have a0 := ht 0
        have a4 := ht 4
        have a5 := ht 5
        simp -dsimp [t0, w2] at a0 a4 a5 hm' hn' hu'
        clear ht
        refine ⟨pos + (w.length + 1), _, g, l ++ [a], a0, a4, by omega, ?_, a5, by rw [hu', hmu], g1, by simp; omega, g2, g3, g4⟩
        simp [hm', nes, f1]
end TL

/- Stores: mended, opened, acted at, saved. -/
set_option linter.unusedSimpArgs false
set_option linter.unusedVariables false
set_option maxRecDepth 100000
set_option maxHeartbeats 4000000
set_option pp.maxSteps 1500
namespace TL
open Go Go.Proofs
attribute [local simp] marksV storyV codeV Claim.v Place.v Store.v Desk.v Deed.v
theorem storeMend_fn (s : Store) (h : s.small) : FnZ Tryz.prog 15 [s.v] (.tup [(storeMend s).v, .bool (storeOk s)]) := by
  have ho := storeOk_fn s h
  have hj := readJournal_fn s.log h.2
  have hle := readJ_le s.log
  have hk := ft (storeOk s)
  unfold storeMend
  generalize storeOk s = o at *
  generalize readJ s.log = J at *
  obtain ⟨s1, s2, s3⟩ := s
  obtain ⟨J1, J2⟩ := J
  simp only at hle hj ⊢
  have hle' : (J2 : Int) ≤ s2.length := by omega
  refine FnZ_of (rs := [.cell 2 25, .tmp 3]) false Tryz.func15 rfl rfl rfl rfl (Nat.le_of_ble_eq_true rfl) ?_
  simp -dsimp
  refine call_ ho (by simp -dsimp) ?_
  rcases hk with rfl | rfl
  · simp -dsimp [noStore]
  · simp -dsimp
    refine call_ hj (by simp -dsimp) ?_
    simp -dsimp [hle, hle']
theorem opened_fn (s : Store) (h : s.small) (hs : storeOk s = true) : FnZ Tryz.prog 48 [s.v] (opened s).v := by
  have hr := readPlace_fn s.saved h.1
  have hj := readJournal_fn s.log h.2
  have hp := placeOf_ok (storeOk_iff.1 hs).1
  rw [hp.2.2] at hr
  have hw : ∀ a ∈ (readJ s.log).1, a.words.length ≤ 1000000000 := fun a ha => words_short (readJ_all _ a ha)
  have hd := doAll_fn ⟨placeOf s, []⟩ (readJ s.log).1 (desk_new hp.1) (by have := readJ_many s.log; have := (storeOk_iff.1 hs).2.1; omega) hw
  unfold opened
  generalize doAll ⟨placeOf s, []⟩ (readJ s.log).1 = R at *
  generalize readJ s.log = J at *
  generalize placeOf s = p at *
  obtain ⟨s1, s2, s3⟩ := s
  obtain ⟨J1, J2⟩ := J
  obtain ⟨⟨⟨R1, R2⟩, R3⟩, R4⟩ := R
  obtain ⟨p1, p2⟩ := p
  simp only at hr hj hd ⊢
  refine FnZ_of (rs := [.cell 2 53]) false Tryz.func48 rfl rfl rfl rfl (Nat.le_of_ble_eq_true rfl) ?_
  simp -dsimp
  refine call_ hr (by simp -dsimp) ?_
  simp -dsimp [optP]
  refine call_ hj (by simp -dsimp) ?_
  simp -dsimp
  refine call_ hd (by simp -dsimp) ?_
  simp -dsimp
theorem storeOpen_fn (s : Store) (h : s.small) : FnZ Tryz.prog 34 [s.v] (.tup [(storeOpen s).v, .bool (storeOk s)]) := by
  have ho := storeOk_fn s h
  have hk := ft (storeOk s)
  have hop := opened_fn s h
  unfold storeOpen
  generalize storeOk s = o at *
  generalize opened s = D at *
  obtain ⟨s1, s2, s3⟩ := s
  obtain ⟨⟨D1, D2⟩, D3⟩ := D
  refine FnZ_of (rs := [.cell 2 53, .tmp 3]) false Tryz.func34 rfl rfl rfl rfl (Nat.le_of_ble_eq_true rfl) ?_
  simp -dsimp
  refine call_ ho (by simp -dsimp) ?_
  rcases hk with rfl | rfl
  · simp -dsimp [noDeskV]
  · simp -dsimp
    refine call_ (hop rfl) (by simp -dsimp) ?_
    simp -dsimp
theorem storeAct_fn (s : Store) (a : Deed) (h : s.small) (ha : a.words.length ≤ 1000000000) : FnZ Tryz.prog 20 [s.v, a.v] (.tup [(storeAct s a).v, .bool (actOk s a)]) := by
  have ho := storeOk_fn s h
  have hk := ft (storeOk s)
  rcases hk with hk | hk
  · obtain ⟨e1, e2⟩ := storeAct_out (a := a) hk
    rw [e1, e2]
    rw [hk] at ho
    obtain ⟨s1, s2, s3⟩ := s
    obtain ⟨a1, a2, a3⟩ := a
    refine FnZ_of (rs := [.cell 4 25, .tmp 5]) false Tryz.func20 rfl rfl rfl rfl (Nat.le_of_ble_eq_true rfl) ?_
    simp -dsimp
    refine call_ ho (by simp -dsimp) ?_
    simp -dsimp [noStore]
  have hj := readJournal_fn s.log h.2
  have hop := opened_fn s h hk
  have hd := deskDo_fn (opened s) a (desk_fine (opened_ok hk)).1 ha
  have ht := deedText_fn a (by omega)
  have htl := deedTx_len a
  have hll := (storeOk_iff.1 hk).2.1
  have hA : actOk s a = (decide ((readJ s.log).2 = s.log.length) && (deskDo (opened s) a).2 && !decide (deedTx a = []) && decide (s.log.length + (deedTx a).length + 1 ≤ 1000)) := by unfold actOk; rw [hk]; rfl
  unfold storeAct
  rw [hA, hk]
  rw [hk] at ho
  clear hA
  generalize deskDo (opened s) a = E at *
  generalize opened s = D at *
  generalize deedTx a = tx at *
  generalize readJ s.log = J at *
  clear hk h ha
  obtain ⟨s1, s2, s3⟩ := s
  obtain ⟨a1, a2, a3⟩ := a
  obtain ⟨J1, J2⟩ := J
  obtain ⟨⟨D1, D2⟩, D3⟩ := D
  obtain ⟨⟨⟨E1, E2⟩, E3⟩, E4⟩ := E
  simp only at hj hd hll ⊢
  have b1 : (s2.length : Int) + tx.length ≤ 9223372036854775807 := by omega
  have b2 : (s2.length : Int) + (tx.length + 1) ≤ 9223372036854775807 := by omega
  have b3 : (s2.length : Int) + tx.length + 1 ≤ 9223372036854775807 := by omega
  refine FnZ_of (rs := [.cell 4 25, .tmp 5]) false Tryz.func20 rfl rfl rfl rfl (Nat.le_of_ble_eq_true rfl) ?_
  simp -dsimp
  refine call_ ho (by simp -dsimp) ?_
  simp -dsimp
  refine call_ hj (by simp -dsimp) ?_
  simp -dsimp
  refine twp_drawT (.run [0, 2] (.alt (.run [1] (.alt (.run [3, 4, 5, 6, 7, 8, 9] .done) (.run [7, 3, 4, 5, 6, 8, 9] .done))) (.run [7, 1, 3, 4, 5, 6, 8, 9] .done))) [0, 1] (List.replicate 10 [0, 1]) (List.replicate 10 [0, 1]) (by kernel_rfl) (by kernel_rfl) (by kernel_rfl) (by kernel_rfl) ?_
  simp -dsimp
  refine ordT_both ?_ ?_
  · simp -dsimp
    refine call_ hop (by simp -dsimp) ?_
    simp -dsimp
    refine ordT_both ?_ ?_
    · simp -dsimp
      refine call_ hd (by simp -dsimp) ?_
      simp -dsimp
      refine twp_draw (List.range 7) [0, 1] (List.replicate 7 [0, 1]) (List.replicate 7 [0, 1]) (by kernel_rfl) (by kernel_rfl) (by kernel_rfl) (by kernel_rfl) ?_
      simp -dsimp [List.range_succ]
      refine call_ ht (by simp -dsimp) ?_
      simp -dsimp [List.range_succ, b1, b2, b3]
      by_cases q1 : J2 = s2.length
      case neg =>
        have q1' : ¬ (J2 : Int) = s2.length := by omega
        simp -dsimp [q1, q1']
      have q1' : (J2 : Int) = s2.length := by omega
      cases E4 with
      | false => simp -dsimp [q1, q1']
      | true =>
        simp -dsimp [q1, q1']
        refine call_ ht (by simp -dsimp) ?_
        by_cases q2 : tx = []
        · simp -dsimp [q2]
        by_cases q3 : s2.length + tx.length + 1 ≤ 1000
        · have q3' : ¬ (1000 : Int) < (s2.length : Int) + (tx.length + 1) := by omega
          have q3'' : ¬ (1000 : Int) < (s2.length : Int) + tx.length + 1 := by omega
          simp -dsimp [q1, q2, q3, q3', q3'']
        · have q3' : (1000 : Int) < (s2.length : Int) + (tx.length + 1) := by omega
          have q3'' : (1000 : Int) < (s2.length : Int) + tx.length + 1 := by omega
          simp -dsimp [q1, q2, q3, q3', q3'']
    · simp -dsimp
      refine call_ hd (by simp -dsimp) ?_
      simp -dsimp
      refine twp_draw (List.range 7) [0, 1] (List.replicate 7 [0, 1]) (List.replicate 7 [0, 1]) (by kernel_rfl) (by kernel_rfl) (by kernel_rfl) (by kernel_rfl) ?_
      simp -dsimp [List.range_succ]
      refine call_ ht (by simp -dsimp) ?_
      simp -dsimp [List.range_succ, b1, b2, b3]
      by_cases q1 : J2 = s2.length
      case neg =>
        have q1' : ¬ (J2 : Int) = s2.length := by omega
        simp -dsimp [q1, q1']
      have q1' : (J2 : Int) = s2.length := by omega
      cases E4 with
      | false => simp -dsimp [q1, q1']
      | true =>
        simp -dsimp [q1, q1']
        refine call_ ht (by simp -dsimp) ?_
        by_cases q2 : tx = []
        · simp -dsimp [q2]
        by_cases q3 : s2.length + tx.length + 1 ≤ 1000
        · have q3' : ¬ (1000 : Int) < (s2.length : Int) + (tx.length + 1) := by omega
          have q3'' : ¬ (1000 : Int) < (s2.length : Int) + tx.length + 1 := by omega
          simp -dsimp [q1, q2, q3, q3', q3'']
        · have q3' : (1000 : Int) < (s2.length : Int) + (tx.length + 1) := by omega
          have q3'' : (1000 : Int) < (s2.length : Int) + tx.length + 1 := by omega
          simp -dsimp [q1, q2, q3, q3', q3'']
  · simp -dsimp
    refine call_ hop (by simp -dsimp) ?_
    simp -dsimp
    refine call_ hd (by simp -dsimp) ?_
    simp -dsimp
    refine twp_draw (List.range 7) [0, 1] (List.replicate 7 [0, 1]) (List.replicate 7 [0, 1]) (by kernel_rfl) (by kernel_rfl) (by kernel_rfl) (by kernel_rfl) ?_
    simp -dsimp [List.range_succ]
    refine call_ ht (by simp -dsimp) ?_
    simp -dsimp [List.range_succ, b1, b2, b3]
    by_cases q1 : J2 = s2.length
    case neg =>
      have q1' : ¬ (J2 : Int) = s2.length := by omega
      simp -dsimp [q1, q1']
    have q1' : (J2 : Int) = s2.length := by omega
    cases E4 with
    | false => simp -dsimp [q1, q1']
    | true =>
      simp -dsimp [q1, q1']
      refine call_ ht (by simp -dsimp) ?_
      by_cases q2 : tx = []
      · simp -dsimp [q2]
      by_cases q3 : s2.length + tx.length + 1 ≤ 1000
      · have q3' : ¬ (1000 : Int) < (s2.length : Int) + (tx.length + 1) := by omega
        have q3'' : ¬ (1000 : Int) < (s2.length : Int) + tx.length + 1 := by omega
        simp -dsimp [q1, q2, q3, q3', q3'']
      · have q3' : (1000 : Int) < (s2.length : Int) + (tx.length + 1) := by omega
        have q3'' : (1000 : Int) < (s2.length : Int) + tx.length + 1 := by omega
        simp -dsimp [q1, q2, q3, q3', q3'']
end TL

/- The wrap of a row that lists variables, the world's shape kept too. -/
namespace TL
open Go
variable {H : Type} {enc : TypeId × Value → H}
theorem wrapLS {a : Assume} {C : Checked} {os : Os} {f : FuncId} {fn : Func} {s : ChangeSpec} {conds : List PathCond} {apart fresh handsOn again : Bool} {X : World → Array Value → Prop}
    (hX : ∀ (w w' : World) (args : Array Value), w.heap = w'.heap → X w args → X w' args)
    (own : ownKnob C.prog.godebug = none) (started : os.Started) (noInit : C.prog.inits.idxOf? f = none) (hfn : C.prog.funcs[f]? = some fn)
    (witness : ∃ (w : World) (tape : Tape) (i : Input), w.os = os ∧ (w.forCall tape i).Shaped C.prog ∧ i.vars = [] ∧ Input.okWide C.prog (w.forCall tape i) .any w.heap.size f i ∧
      ((s.pre enc C.prog fn conds apart (w.forCall tape i).memory i.args ∧ X (w.forCall tape i).memory i.args) ∧ sizedMet enc C.prog fn (OpenSpec.ofChange s) apart (w.forCall tape i).memory i.args) ∧ a.holds C.prog (lone (Frame.enter C.prog f i.args .normal) [] (w.forCall tape i)))
    (contract : ∀ (W : World) (base : Nat) (args : Array Value) (ds gs : List (DataW H)) (before : List MemPlace),
      (∀ (j : Nat) t v, fn.params[j]? = some t → args[j]? = some v → Value.okWide C.prog W .any base t v) →
      DataW.Whole enc C.prog fn.params.toList s.vars apart W args.toList ds gs before → X W args → W.ShapedOpen C.prog →
      Calls C.prog f args W fun e W' => ∃ v, e = .returned v ∧ s.post enc C.prog fn apart fresh handsOn again W args v W') :
    ReturnsInHanded a C os f .any (fun w args => (s.pre enc C.prog fn conds apart w args ∧ X w args) ∧ sizedMet enc C.prog fn (OpenSpec.ofChange s) apart w args) (s.post enc C.prog fn apart fresh handsOn again) := by
  refine returnsInHanded_of_calls own started noInit witness ?_
  intro w tape i _ hsh _ hok hpre _
  obtain ⟨_, _, _, fn', hfn', _, _, _, _, hval⟩ := hok
  have e : fn' = fn := Option.some.inj (hfn'.symm.trans hfn)
  subst e
  obtain ⟨⟨⟨ds, gs, before, hw, _⟩, hx⟩, _⟩ := hpre
  have hw' := DataW.Whole.of_heap (w' := w.forCall tape i) (by rfl) hw
  refine (contract (w.forCall tape i) w.heap.size i.args ds gs before hval hw' (hX _ _ _ (by rfl) hx) hsh).mono fun e W' ⟨v, he, hp⟩ => ?_
  subst he
  exact ChangeSpec.post_blind hp
end TL

/- A closed fact of the program. -/
set_option maxRecDepth 100000
namespace Go.Proofs.YtjcmndkbepamhaaGreatDoor.wide
open Go
theorem may_enter : Tryz.pinned.checked.prog.mayEnter = true := by kernel_rfl
end Go.Proofs.YtjcmndkbepamhaaGreatDoor.wide

/- A closed fact of the program. -/
set_option maxRecDepth 100000
namespace Go.Proofs.YtjcmndkbepamhaaGreatDoor.wide
open Go
theorem lifts_are : Tryz.pinned.checked.prog.liftsFinal = Rows.fnExactStoreMendRow.lifted := by kernel_rfl
end Go.Proofs.YtjcmndkbepamhaaGreatDoor.wide

/- A closed fact of the program. -/
set_option maxRecDepth 100000
namespace Go.Proofs.YtjcmndkbepamhaaGreatDoor.wide
open Go
theorem make_is : Tryz.pinned.checked.prog.make = some Rows.fnExactStoreMendRow.make := by kernel_rfl
end Go.Proofs.YtjcmndkbepamhaaGreatDoor.wide

/- A closed fact of the program. -/
set_option maxRecDepth 100000
namespace Go.Proofs.YtjcmndkbepamhaaGreatDoor.wide
open Go
theorem main_is : Tryz.pinned.checked.prog.mainIs = some (true, "635a0d18e571e5da747dee9c84b01a434d073e07adaa2d415136d01c5088e317".toList) := by kernel_rfl
theorem looks_are : true = Tryz.pinned.checked.prog.looks [] := by kernel_rfl
end Go.Proofs.YtjcmndkbepamhaaGreatDoor.wide

/- More than a few cells apart. -/
namespace TL
theorem nes9 (n : Nat) : (¬ n = n + 1 + 1 + 1 + 1 + 1 + 1 + 1 + 1 + 1 + 1 + 1 + 1 + 1 + 1 + 1) ∧ (¬ n + 1 + 1 + 1 + 1 + 1 + 1 + 1 + 1 + 1 + 1 + 1 + 1 + 1 + 1 + 1 = n) ∧ (¬ n = n + 1 + 1 + 1 + 1 + 1 + 1 + 1 + 1 + 1 + 1 + 1 + 1 + 1 + 1 + 1 + 1) ∧ (¬ n + 1 + 1 + 1 + 1 + 1 + 1 + 1 + 1 + 1 + 1 + 1 + 1 + 1 + 1 + 1 + 1 = n) ∧ (¬ n = n + 1 + 1 + 1 + 1 + 1 + 1 + 1 + 1 + 1 + 1 + 1 + 1 + 1 + 1 + 1 + 1 + 1) ∧ (¬ n + 1 + 1 + 1 + 1 + 1 + 1 + 1 + 1 + 1 + 1 + 1 + 1 + 1 + 1 + 1 + 1 + 1 = n) ∧ (¬ n = n + 1 + 1 + 1 + 1 + 1 + 1 + 1 + 1 + 1 + 1 + 1 + 1 + 1 + 1 + 1 + 1 + 1 + 1) ∧ (¬ n + 1 + 1 + 1 + 1 + 1 + 1 + 1 + 1 + 1 + 1 + 1 + 1 + 1 + 1 + 1 + 1 + 1 + 1 = n) ∧ (¬ n = n + 1 + 1 + 1 + 1 + 1 + 1 + 1 + 1 + 1 + 1 + 1 + 1 + 1 + 1 + 1 + 1 + 1 + 1 + 1) ∧ (¬ n + 1 + 1 + 1 + 1 + 1 + 1 + 1 + 1 + 1 + 1 + 1 + 1 + 1 + 1 + 1 + 1 + 1 + 1 + 1 = n) ∧ (¬ n = n + 1 + 1 + 1 + 1 + 1 + 1 + 1 + 1 + 1 + 1 + 1 + 1 + 1 + 1 + 1 + 1 + 1 + 1 + 1 + 1) ∧ (¬ n + 1 + 1 + 1 + 1 + 1 + 1 + 1 + 1 + 1 + 1 + 1 + 1 + 1 + 1 + 1 + 1 + 1 + 1 + 1 + 1 = n) ∧ (¬ n = n + 1 + 1 + 1 + 1 + 1 + 1 + 1 + 1 + 1 + 1 + 1 + 1 + 1 + 1 + 1 + 1 + 1 + 1 + 1 + 1 + 1) ∧ (¬ n + 1 + 1 + 1 + 1 + 1 + 1 + 1 + 1 + 1 + 1 + 1 + 1 + 1 + 1 + 1 + 1 + 1 + 1 + 1 + 1 + 1 = n) ∧ (¬ n = n + 1 + 1 + 1 + 1 + 1 + 1 + 1 + 1 + 1 + 1 + 1 + 1 + 1 + 1 + 1 + 1 + 1 + 1 + 1 + 1 + 1 + 1) ∧ (¬ n + 1 + 1 + 1 + 1 + 1 + 1 + 1 + 1 + 1 + 1 + 1 + 1 + 1 + 1 + 1 + 1 + 1 + 1 + 1 + 1 + 1 + 1 = n) ∧ (¬ n = n + 1 + 1 + 1 + 1 + 1 + 1 + 1 + 1 + 1 + 1 + 1 + 1 + 1 + 1 + 1 + 1 + 1 + 1 + 1 + 1 + 1 + 1 + 1) ∧ (¬ n + 1 + 1 + 1 + 1 + 1 + 1 + 1 + 1 + 1 + 1 + 1 + 1 + 1 + 1 + 1 + 1 + 1 + 1 + 1 + 1 + 1 + 1 + 1 = n) ∧ (¬ n = n + 1 + 1 + 1 + 1 + 1 + 1 + 1 + 1 + 1 + 1 + 1 + 1 + 1 + 1 + 1 + 1 + 1 + 1 + 1 + 1 + 1 + 1 + 1 + 1) ∧ (¬ n + 1 + 1 + 1 + 1 + 1 + 1 + 1 + 1 + 1 + 1 + 1 + 1 + 1 + 1 + 1 + 1 + 1 + 1 + 1 + 1 + 1 + 1 + 1 + 1 = n) ∧ (¬ n = n + 1 + 1 + 1 + 1 + 1 + 1 + 1 + 1 + 1 + 1 + 1 + 1 + 1 + 1 + 1 + 1 + 1 + 1 + 1 + 1 + 1 + 1 + 1 + 1 + 1) ∧ (¬ n + 1 + 1 + 1 + 1 + 1 + 1 + 1 + 1 + 1 + 1 + 1 + 1 + 1 + 1 + 1 + 1 + 1 + 1 + 1 + 1 + 1 + 1 + 1 + 1 + 1 = n) ∧ (¬ n = n + 1 + 1 + 1 + 1 + 1 + 1 + 1 + 1 + 1 + 1 + 1 + 1 + 1 + 1 + 1 + 1 + 1 + 1 + 1 + 1 + 1 + 1 + 1 + 1 + 1 + 1) ∧ (¬ n + 1 + 1 + 1 + 1 + 1 + 1 + 1 + 1 + 1 + 1 + 1 + 1 + 1 + 1 + 1 + 1 + 1 + 1 + 1 + 1 + 1 + 1 + 1 + 1 + 1 + 1 = n) := by
  refine ⟨?_, ?_, ?_, ?_, ?_, ?_, ?_, ?_, ?_, ?_, ?_, ?_, ?_, ?_, ?_, ?_, ?_, ?_, ?_, ?_, ?_, ?_, ?_, ?_⟩ <;> omega
end TL
