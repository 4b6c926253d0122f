/- Laws of stores: mended, saved, acted at, opened. -/
import Derived.Test.YtjcmndkbepamhaaGreatDoorGj
import Derived.Test.YtjcmndkbepamhaaGreatDoorGi
set_option linter.unusedSimpArgs false
set_option linter.unusedVariables false
set_option maxRecDepth 100000
set_option maxHeartbeats 4000000
set_option pp.maxSteps 1500
namespace TL
open Go Go.Proofs
attribute [local simp] marksV storyV codeV Claim.v Place.v Store.v Desk.v Deed.v
theorem out_mend {s : Store} (h : storeOk s = false) : storeMend s = noStore := if_neg (by simp [h])
theorem out_save {s : Store} (h : storeOk s = false) : storeSave s = noStore := if_neg (by simp [h])
theorem out_open {s : Store} (h : storeOk s = false) : storeOpen s = noDeskV := if_neg (by simp [h])
theorem yes_open {s : Store} (h : storeOk s = true) : storeOpen s = opened s := if_pos h
theorem mend_small {s : Store} (h : s.small) : (storeMend s).small := by
  unfold storeMend; split
  · exact ⟨h.1, by have := h.2; simp; omega⟩
  · exact ⟨by simp [noStore], by simp [noStore]⟩
theorem drop_len : (deedTx ⟨1, 0, []⟩).length = 6 ∧ deedTx ⟨1, 0, []⟩ ≠ [] := by
  have h0 : (readC 4 []).isSome = false := rfl
  have e : deedTx ⟨1, 0, []⟩ = txDrop ++ dec 0 := by unfold deedTx; simp
  have e2 : dec 0 = [48] := by simp [dec, Go.Lib.decDigits]
  rw [e, e2]; exact ⟨rfl, by simp [txDrop]⟩
theorem lawStoreMend (bs : List UInt8) : FnZ Tryz.prog 9 [codeV bs] (.bool true) := by
  refine FnZ_of (rs := [.tmp 2]) false Tryz.func9 rfl rfl rfl rfl (Nat.le_of_ble_eq_true rfl) ?_
  by_cases h : (1048576 : Int) < bs.length
  · simp -dsimp [nes, nes8, nes9, h]
  simp -dsimp [nes, nes8, nes9, h]
  refine callS_ (drawStoreMend_z bs _ _) ?_
  rintro t m1 n1 ⟨hn1, ⟨x, ⟨s, hs, rfl⟩, rfl⟩, rfl⟩
  have small := hs.small
  have h1 := storeMend_fn s small
  have h2 := storeMendS_fn s small
  have h0 := storeOk_fn s small
  have hk := ft (storeOk s)
  rcases hk with hk | hk
  · rw [hk, out_mend hk] at h1 h2
    rw [hk] at h0
    clear hs small
    obtain ⟨s1, s2, s3⟩ := s
    simp -dsimp [nes, nes8, nes9]
    refine call_ h1 (by simp -dsimp) ?_
    simp -dsimp [nes, nes8, nes9, noStore]
    refine call_ h2 (by simp -dsimp) ?_
    simp -dsimp [nes, nes8, nes9, noStore]
    refine call_ h0 (by simp -dsimp) ?_
    simp -dsimp [nes, nes8, nes9]
    refine call_ alive_fn (by simp -dsimp) ?_
    simp -dsimp [nes, nes8, nes9]
  · obtain ⟨a1, a2, a3, a4, a5⟩ := mend_done hk
    have sx := mend_small small
    have h3 := readJournal_fn (storeMend s).log sx.2
    have h4 := storeMend_fn (storeMend s) sx
    have h5 := storeOpen_fn (storeMend s) sx
    have h6 := storeAct_fn (storeMend s) ⟨1, 0, []⟩ sx (by simp)
    have hact : actOk (storeMend s) ⟨1, 0, []⟩ = (decide (0 < (storeOpen (storeMend s)).now.story.length) && decide ((storeMend s).log.length + 7 ≤ 1000)) := by
      unfold actOk
      rw [a1, a2, yes_open a1, drop_first (opened_ok a1), drop_len.1]
      simp [drop_len.2]
    rw [hk] at h1 h2
    rw [a1, a4] at h4
    rw [a1] at h5
    rw [hact] at h6
    have hj : (readJ (storeMend s).log).2 = (storeMend s).log.length := by rw [a2]
    rw [hj] at h3
    generalize (readJ (storeMend s).log).1 = L at *
    generalize storeAct (storeMend s) ⟨1, 0, []⟩ = A at *
    generalize storeOpen (storeMend s) = D at *
    generalize storeMend s = x at *
    clear hs small hk a1 a2 a3 a4 a5 hj hact h0
    obtain ⟨s1, s2, s3⟩ := s
    obtain ⟨x1, x2, x3⟩ := x
    obtain ⟨A1, A2, A3⟩ := A
    obtain ⟨⟨D1, D2⟩, D3⟩ := D
    have q1 : (decide (0 < D2.length)) = decide ((0 : Int) < D2.length) := by rw [decide_eq_decide]; omega
    have q2 : (decide (x2.length + 7 ≤ 1000)) = decide (((x2.length : Int) + 7) ≤ 1000) := by rw [decide_eq_decide]; omega
    have w1 : x2.length ≤ 2000000000 → IntKind.wrap .i64 ((x2.length : Int) + 7) = (x2.length : Int) + 7 := fun h => w64 (by omega) (by omega)
    have w1 := w1 sx.2
    rw [q1, q2] at h6
    simp -dsimp [nes, nes8, nes9]
    refine call_ h1 (by simp -dsimp) ?_
    simp -dsimp [nes, nes8, nes9]
    refine call_ h2 (by simp -dsimp) ?_
    simp -dsimp [nes, nes8, nes9]
    refine call_ h3 (by simp -dsimp) ?_
    simp -dsimp [nes, nes8, nes9]
    refine call_ h4 (by simp -dsimp) ?_
    simp -dsimp [nes, nes8, nes9]
    refine call_ h5 (by simp -dsimp) ?_
    simp -dsimp [nes, nes8, nes9]
    refine call_ h6 (by simp -dsimp) ?_
    by_cases b1 : (0 : Int) < D2.length
    · have b1' : 0 < D2.length := by omega
      have b1'' : ¬ D2 = [] := fun h => by rw [h] at b1'; simp at b1'
      by_cases b2 : ((x2.length : Int) + 7) ≤ 1000
      · simp -dsimp [nes, nes8, nes9, b1, b1', b1'', b2, w1]
      · simp -dsimp [nes, nes8, nes9, b1, b1', b1'', b2, w1]
    · have b1' : ¬ 0 < D2.length := by omega
      have b1'' : D2 = [] := List.length_eq_zero_iff.1 (by omega)
      simp -dsimp [nes, nes8, nes9, b1, b1', b1'', w1]
theorem lawStoreAct (bs : List UInt8) : FnZ Tryz.prog 10 [codeV bs] (.bool true) := by
  refine FnZ_of (rs := [.tmp 2]) false Tryz.func10 rfl rfl rfl rfl (Nat.le_of_ble_eq_true rfl) ?_
  by_cases h : (1048576 : Int) < bs.length
  · simp -dsimp [nes, nes8, nes9, h]
  simp -dsimp [nes, nes8, nes9, h]
  refine callS_ (drawStoreAct_z bs _ _) ?_
  rintro t m1 n1 ⟨hn1, ⟨x, ⟨s, a, hs, ha, rfl⟩, rfl⟩, rfl⟩
  have small := hs.small
  have h1 := storeAct_fn s a small (by omega)
  have h2 := storeActS_fn s a small (by omega)
  have h0 := storeOk_fn s small
  have hk := ft (actOk s a)
  rcases hk with hk | hk
  · have hx : (storeOk s = true ∧ storeAct s a = s) ∨ (storeOk s = false ∧ storeAct s a = noStore) := by
      cases ho : storeOk s
      · exact .inr ⟨rfl, (storeAct_out ho).1⟩
      · exact .inl ⟨rfl, storeAct_no hk ho⟩
    rw [hk] at h1 h2
    generalize storeAct s a = z at *
    generalize storeOk s = o at *
    clear hs small ha hk
    obtain ⟨a1, a2, a3⟩ := a
    rcases hx with ⟨rfl, rfl⟩ | ⟨rfl, rfl⟩
    · obtain ⟨z1, z2, z3⟩ := z
      simp -dsimp [nes, nes8, nes9]
      refine call_ h1 (by simp -dsimp) ?_
      simp -dsimp [nes, nes8, nes9]
      refine call_ h2 (by simp -dsimp) ?_
      simp -dsimp [nes, nes8, nes9]
      refine call_ alive_fn (by simp -dsimp) ?_
      simp -dsimp [nes, nes8, nes9]
    · obtain ⟨s1, s2, s3⟩ := s
      have c0 := ft (decide (noStore = ⟨s1, s2, s3⟩))
      rcases c0 with c0 | c0
      · have c0' := of_decide_eq_false c0
        simp -dsimp [nes, nes8, nes9]
        refine call_ h1 (by simp -dsimp) ?_
        simp -dsimp [nes, nes8, nes9, noStore]
        refine call_ h2 (by simp -dsimp) ?_
        simp -dsimp [nes, nes8, nes9, noStore]
        by_cases y1 : s1 = []
        · by_cases y2 : s2 = []
          · have y3 : ¬ (0 : Int) = s3 := fun e => c0' (by rw [y1, y2, ← e]; rfl)
            simp -dsimp [nes, nes8, nes9, y1, y2, y3]
            refine call_ h0 (by simp -dsimp [y1, y2]) ?_
            simp -dsimp [nes, nes8, nes9, y1, y2, y3]
            refine call_ alive_fn (by simp -dsimp) ?_
            simp -dsimp [nes, nes8, nes9]
          · have y2' : ¬ [] = s2 := fun e => y2 e.symm
            simp -dsimp [nes, nes8, nes9, y1, y2, y2']
            refine call_ h0 (by simp -dsimp [y1]) ?_
            simp -dsimp [nes, nes8, nes9, y1, y2, y2']
            refine call_ alive_fn (by simp -dsimp) ?_
            simp -dsimp [nes, nes8, nes9]
        · have y1' : ¬ [] = s1 := fun e => y1 e.symm
          simp -dsimp [nes, nes8, nes9, y1, y1']
          refine call_ h0 (by simp -dsimp) ?_
          simp -dsimp [nes, nes8, nes9, y1, y1']
          refine call_ alive_fn (by simp -dsimp) ?_
          simp -dsimp [nes, nes8, nes9]
      · have c0' := of_decide_eq_true c0
        cases c0'
        simp -dsimp [nes, nes8, nes9]
        refine call_ h1 (by simp -dsimp) ?_
        simp -dsimp [nes, nes8, nes9, noStore]
        refine call_ h2 (by simp -dsimp) ?_
        simp -dsimp [nes, nes8, nes9, noStore]
        refine call_ alive_fn (by simp -dsimp) ?_
        simp -dsimp [nes, nes8, nes9]
  · obtain ⟨a1, a2, a3, a4, a5, a6⟩ := act_done hk
    obtain ⟨b1, b2, b3, b4, b5⟩ := actOk_iff.1 hk
    have sx : (storeAct s a).small := ⟨by rw [a6]; exact small.1, by rw [a4]; omega⟩
    have h3 := storeOpen_fn s small
    have h4 := storeOpen_fn (storeAct s a) sx
    have h5 := deskDo_fn (opened s) a (desk_fine (opened_ok b1)).1 (by omega)
    have h6 := storeOk_fn (storeAct s a) sx
    have h7 := sameDesk_fn (deskDo (opened s) a).1 (deskDo (opened s) a).1 (desk_fine (deskDo_ok _ a (opened_ok b1))).1
    rw [hk] at h1 h2
    rw [b1, yes_open b1] at h3
    rw [a1, yes_open a1, a3] at h4
    rw [b3] at h5
    rw [a1] at h6
    generalize (deskDo (opened s) a).1 = E at *
    generalize opened s = D at *
    generalize storeAct s a = z at *
    clear hs small ha hk a1 a2 a3 a4 b1 b2 b3 b4 b5 sx h0
    obtain ⟨s1, s2, s3⟩ := s
    obtain ⟨z1, z2, z3⟩ := z
    obtain ⟨⟨D1, D2⟩, D3⟩ := D
    obtain ⟨⟨E1, E2⟩, E3⟩ := E
    obtain ⟨y1, y2, y3⟩ := a
    simp only at a5 a6
    subst a5 a6
    simp -dsimp [nes, nes8, nes9]
    refine call_ h1 (by simp -dsimp) ?_
    simp -dsimp [nes, nes8, nes9]
    refine call_ h2 (by simp -dsimp) ?_
    simp -dsimp [nes, nes8, nes9]
    refine call_ h3 (by simp -dsimp) ?_
    simp -dsimp [nes, nes8, nes9]
    refine call_ h4 (by simp -dsimp) ?_
    simp -dsimp [nes, nes8, nes9]
    refine call_ h5 (by simp -dsimp) ?_
    simp -dsimp [nes, nes8, nes9]
    refine call_ h6 (by simp -dsimp) ?_
    simp -dsimp [nes, nes8, nes9]
    refine call_ h7 (by simp -dsimp) ?_
    simp -dsimp [nes, nes8, nes9]
theorem lawStoreOpen (bs : List UInt8) : FnZ Tryz.prog 11 [codeV bs] (.bool true) := by
  refine FnZ_of (rs := [.tmp 2]) false Tryz.func11 rfl rfl rfl rfl (Nat.le_of_ble_eq_true rfl) ?_
  by_cases h : (1048576 : Int) < bs.length
  · simp -dsimp [nes, nes8, nes9, h]
  simp -dsimp [nes, nes8, nes9, h]
  refine callS_ (drawStoreOpen_z bs _ _) ?_
  rintro t m1 n1 ⟨hn1, ⟨x, ⟨s, hs, rfl⟩, rfl⟩, rfl⟩
  have small := hs.small
  have h1 := storeOpen_fn s small
  have h2 := storeOpenS_fn s small
  have h0 := storeOk_fn s small
  have hk := ft (storeOk s)
  rcases hk with hk | hk
  · rw [hk, out_open hk] at h1 h2
    rw [hk] at h0
    have h3 := sameDesk_fn noDeskV noDeskV ⟨⟨by simp [noDeskV], by simp [noDeskV]⟩, by simp [noDeskV], by simp [noDeskV]⟩
    have h4 := noDesk_fn noDeskV ⟨⟨by simp [noDeskV], by simp [noDeskV]⟩, by simp [noDeskV], by simp [noDeskV]⟩
    clear hs small
    obtain ⟨s1, s2, s3⟩ := s
    simp -dsimp [nes, nes8, nes9]
    refine call_ h1 (by simp -dsimp) ?_
    simp -dsimp [nes, nes8, nes9, noDeskV]
    refine call_ h2 (by simp -dsimp) ?_
    simp -dsimp [nes, nes8, nes9, noDeskV]
    refine call_ h3 (by simp -dsimp [noDeskV]) ?_
    simp -dsimp [nes, nes8, nes9]
    refine call_ h4 (by simp -dsimp [noDeskV]) ?_
    simp -dsimp [nes, nes8, nes9]
    refine call_ h0 (by simp -dsimp) ?_
    simp -dsimp [nes, nes8, nes9]
    refine call_ alive_fn (by simp -dsimp) ?_
    simp -dsimp [nes, nes8, nes9]
  · obtain ⟨a1, a2, a3, a4, a5⟩ := mend_done hk
    have sx := mend_small small
    have dsm := (desk_fine (opened_ok hk)).1
    have h3 := storeMend_fn s small
    have h4 := storeOpen_fn (storeMend s) sx
    have h5 := storeSync_fn s small
    have e5 : storeSync s = ⟨s.saved, s.log, s.log.length⟩ := if_pos hk
    have k5 : storeOk ⟨s.saved, s.log, s.log.length⟩ = true := by
      obtain ⟨g1, g2, g3, g4⟩ := storeOk_iff.1 hk
      exact storeOk_iff.2 ⟨g1, g2, by simp, by simp⟩
    have o5 : opened ⟨s.saved, s.log, s.log.length⟩ = opened s := rfl
    have h6 := storeOpen_fn ⟨s.saved, s.log, s.log.length⟩ small
    have h7 := sameDesk_fn (opened s) (opened s) dsm
    have h8 := deskOk_fn (opened s) (by have := dsm.2.1; omega) (by have := dsm.1.1; omega) (fun p hp => by have := (dsm.2.2 p hp).1; omega)
    rw [hk, yes_open hk] at h1 h2
    rw [hk] at h3
    rw [a1, yes_open a1, a3] at h4
    rw [hk, e5] at h5
    rw [k5, yes_open k5, o5] at h6
    rw [opened_ok hk] at h8
    generalize storeMend s = x at *
    generalize opened s = D at *
    clear hs small hk a1 a2 a3 a4 a5 sx dsm e5 k5 o5 h0
    obtain ⟨s1, s2, s3⟩ := s
    obtain ⟨x1, x2, x3⟩ := x
    obtain ⟨⟨D1, D2⟩, D3⟩ := D
    simp -dsimp [nes, nes8, nes9]
    refine call_ h1 (by simp -dsimp) ?_
    simp -dsimp [nes, nes8, nes9]
    refine call_ h2 (by simp -dsimp) ?_
    simp -dsimp [nes, nes8, nes9]
    refine call_ h7 (by simp -dsimp) ?_
    simp -dsimp [nes, nes8, nes9]
    refine call_ h3 (by simp -dsimp) ?_
    simp -dsimp [nes, nes8, nes9]
    refine call_ h4 (by simp -dsimp) ?_
    simp -dsimp [nes, nes8, nes9]
    refine call_ h5 (by simp -dsimp) ?_
    simp -dsimp [nes, nes8, nes9]
    refine call_ h6 (by simp -dsimp) ?_
    simp -dsimp [nes, nes8, nes9]
    refine call_ h8 (by simp -dsimp) ?_
    simp -dsimp [nes, nes8, nes9]
    refine call_ h7 (by simp -dsimp) ?_
    simp -dsimp [nes, nes8, nes9]
    refine call_ h7 (by simp -dsimp) ?_
    simp -dsimp [nes, nes8, nes9]
end TL
