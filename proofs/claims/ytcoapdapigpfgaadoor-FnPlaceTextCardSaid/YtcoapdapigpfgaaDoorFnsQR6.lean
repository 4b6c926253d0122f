/- Reading terms and claims: the reference. -/
import Derived.Test.YtcoapdapigpfgaaDoorFnsQR5
import Derived.Test.YtcoapdapigpfgaaDoorFnsQR4
set_option linter.unusedSimpArgs false
set_option linter.unusedVariables false
set_option maxRecDepth 100000
set_option maxHeartbeats 4000000
set_option pp.maxSteps 1500
namespace TL
open Go Go.Proofs
attribute [local simp] marksV storyV codeV Claim.v Place.v
theorem good_fits {ms : List Mark} (h : ∀ m ∈ ms, 0 ≤ m.kind ∧ m.kind ≤ 5 ∧ 0 ≤ m.num ∧ m.num ≤ 1000) : fits ms := fun m hm => by
  obtain ⟨h1, h2, h3, h4⟩ := h m hm
  exact ⟨⟨by omega, by omega⟩, ⟨by omega, by omega⟩⟩
theorem rSame_good {A : UInt8 → Option Mark} (hA : ∀ c m, A c = some m → 0 ≤ m.kind ∧ m.kind ≤ 5 ∧ 0 ≤ m.num ∧ m.num ≤ 1000) (F : Nat) : good (rSame A F) :=
  rRow_good (rRow_good (rRow_good (rPart_good hA F) (sg := 38) (k := 3) (by omega) (by omega) F) (sg := 124) (k := 4) (by omega) (by omega) F) (sg := 61) (k := 5) (by omega) (by omega) F
theorem Tm.nums : ∀ T : Tm, T.ok → ∀ m ∈ T.marks, 0 ≤ m.num ∧ m.num ≤ 5
  | .tells i, h, m, hm => by simp [marks] at hm; subst hm; simp; have : i < 4 := h; omega
  | .count n, h, m, hm => by simp [marks] at hm; subst hm; simp; have : n < 6 := h; omega
  | .not a, h, m, hm => by
    simp only [marks, List.mem_append, List.mem_singleton] at hm
    rcases hm with hm | rfl
    · exact a.nums h m hm
    · simp
  | .bin k a b, h, m, hm => by
    simp only [marks, List.mem_append, List.mem_singleton] at hm
    rcases hm with (hm | hm) | rfl
    · exact a.nums h.2.1 m hm
    · exact b.nums h.2.2 m hm
    · simp
theorem termOk_fits {people : Int} {t : List Mark} (h : termOk people t = true) : fits t := by
  obtain ⟨T, h1, h2, _⟩ := termText_tree h
  subst h2
  intro m hm
  obtain ⟨a1, a2⟩ := T.kinds h1 m hm
  obtain ⟨b1, b2⟩ := T.nums h1 m hm
  exact ⟨⟨by omega, by omega⟩, ⟨by omega, by omega⟩⟩
theorem readTermS_fn (people : Int) (s : List UInt8) : FnZ Tryd.prog 81 [.int .i64 people, .str s] (optV (readT people s)) := by
  by_cases h60 : s.length ≤ 60
  case neg =>
    have h : 60 < s.length := by omega
    have h' : (60 : Int) < s.length := by omega
    rw [readT_long h]
    refine FnZ_of (rs := [.tmp 4, .tmp 5]) false Tryd.func81 rfl rfl rfl rfl (Nat.le_of_ble_eq_true rfl) ?_
    simp -dsimp [h', optV]
  rw [readT_code atomS_ok h60]
  have hS := l2Level_all s (by omega) s.length (l2Atom_fn s (by omega) s.length) 0 (by omega) (by omega)
  have hgood := rSame_good atomS_good s.length s
  rw [List.drop_zero] at hS
  have hl60 : ¬ (60 : Int) < s.length := by omega
  generalize rSame atomS s.length s = r at *
  obtain ⟨ms, rest, ok⟩ := r
  simp only at hgood
  have hmsl : ms.length ≤ 60 := by have := hgood.1; omega
  have htS := termOkS_fn people ms (good_fits hgood.2) (by omega)
  have hl0 : s.length - 0 = s.length := rfl
  rw [hl0] at hS
  cases ok with
  | false =>
    have hne : ¬ (-1 : Int) = (s.length : Int) := by omega
    refine FnZ_of (rs := [.tmp 4, .tmp 5]) false Tryd.func81 rfl rfl rfl rfl (Nat.le_of_ble_eq_true rfl) ?_
    simp -dsimp [hl60]
    refine callS_ (hS _ _) ?_
    rintro t m2 n2 ⟨hle2, hout2, i2, xs, next2, rfl, hj0, hj1, hmj, hyl, hok2, hno2⟩
    have e1 := hno2 rfl
    simp -dsimp [e1, hne, optV]
  | true =>
    by_cases hr : rest = []
    case neg =>
      refine FnZ_of (rs := [.tmp 4, .tmp 5]) false Tryd.func81 rfl rfl rfl rfl (Nat.le_of_ble_eq_true rfl) ?_
      simp -dsimp [hl60]
      refine callS_ (hS _ _) ?_
      rintro t m2 n2 ⟨hle2, hout2, i2, xs, next2, rfl, hj0, hj1, hmj, hyl, hok2, hno2⟩
      refine (hok2 rfl).2.elim fun q3 hq => ?_
      have e1 := hq.1
      have e2 : s.drop q3 = rest := hq.2.1
      have hne0 : ¬ q3 = s.length := by intro h; rw [h, List.drop_length] at e2; exact hr e2.symm
      have hne : ¬ (q3 : Int) = (s.length : Int) := by omega
      simp -dsimp [e1, hne, hr, optV]
    subst hr
    have hk := ft (termOk people ms)
    rcases hk with hk | hk
    · refine FnZ_of (rs := [.tmp 4, .tmp 5]) false Tryd.func81 rfl rfl rfl rfl (Nat.le_of_ble_eq_true rfl) ?_
      simp -dsimp [hl60]
      refine callS_ (hS _ _) ?_
      rintro t m2 n2 ⟨hle2, hout2, i2, xs, next2, rfl, hj0, hj1, hmj, hyl, hok2, hno2⟩
      refine (hok2 rfl).2.elim fun q3 hq => ?_
      have e0 : xs = ms := (hok2 rfl).1
      have e1 := hq.1
      have e2 : s.drop q3 = [] := hq.2.1
      have e3 := hq.2.2
      have hq3 : q3 = s.length := by have := congrArg List.length e2; rw [List.length_drop] at this; simp at this; omega
      simp -dsimp [e1, hq3]
      refine call_ htS (by simp -dsimp [hmj, e0]) ?_
      simp -dsimp [hk, optV]
    · obtain ⟨T, h1, h2, h3⟩ := termText_tree hk
      have hT := l2Text_fn T h1 (by rw [h2]; omega)
      rw [h2, h3] at hT
      by_cases he : termText people ms = s
      · refine FnZ_of (rs := [.tmp 4, .tmp 5]) false Tryd.func81 rfl rfl rfl rfl (Nat.le_of_ble_eq_true rfl) ?_
        simp -dsimp [hl60]
        refine callS_ (hS _ _) ?_
        rintro t m2 n2 ⟨hle2, hout2, i2, xs, next2, rfl, hj0, hj1, hmj, hyl, hok2, hno2⟩
        refine (hok2 rfl).2.elim fun q3 hq => ?_
        have e0 : xs = ms := (hok2 rfl).1
        have e1 := hq.1
        have e2 : s.drop q3 = [] := hq.2.1
        have e3 := hq.2.2
        have hq3 : q3 = s.length := by have := congrArg List.length e2; rw [List.length_drop] at this; simp at this; omega
        simp -dsimp [e1, hq3]
        refine call_ htS (by simp -dsimp [hmj, e0]) ?_
        simp -dsimp [hk]
        refine call_ hT (by simp -dsimp [hmj, e0]) ?_
        simp -dsimp [he, hk, hmj, e0, optV]
      · refine FnZ_of (rs := [.tmp 4, .tmp 5]) false Tryd.func81 rfl rfl rfl rfl (Nat.le_of_ble_eq_true rfl) ?_
        simp -dsimp [hl60]
        refine callS_ (hS _ _) ?_
        rintro t m2 n2 ⟨hle2, hout2, i2, xs, next2, rfl, hj0, hj1, hmj, hyl, hok2, hno2⟩
        refine (hok2 rfl).2.elim fun q3 hq => ?_
        have e0 : xs = ms := (hok2 rfl).1
        have e1 := hq.1
        have e2 : s.drop q3 = [] := hq.2.1
        have e3 := hq.2.2
        have hq3 : q3 = s.length := by have := congrArg List.length e2; rw [List.length_drop] at this; simp at this; omega
        simp -dsimp [e1, hq3]
        refine call_ htS (by simp -dsimp [hmj, e0]) ?_
        simp -dsimp [hk]
        refine call_ hT (by simp -dsimp [hmj, e0]) ?_
        simp -dsimp [he, hk, optV]
theorem readClaimS_fn (people : Int) (s : List UInt8) (hl : s.length ≤ 2000000000) : FnZ Tryd.prog 55 [.int .i64 people, .str s] (optC (readC people s)) := by
  by_cases h3 : s.length < 3
  · have zero : readC people s = none := by
      cases e : readC people s with
      | none => rfl
      | some c => have := readC_is e; have := (claimTx_len this.1).1; rw [(readC_is e).2] at this; omega
    have h3' : (s.length : Int) < 3 := by omega
    rw [zero]
    refine FnZ_of (rs := [.cell 4 80, .tmp 5]) false Tryd.func55 rfl rfl rfl rfl (Nat.le_of_ble_eq_true rfl) ?_
    simp -dsimp [h3', optC]
  match s, h3, hl with
  | [], h3, hl => simp at h3
  | [a], h3, hl => simp at h3
  | a :: b :: s, h3, hl =>
    have h3' : ¬ ((s.length : Int) + 1 + 1 < 3) := by simp at h3; omega
    have l2 : (2 : Int) ≤ (s.length : Int) + 1 + 1 := by omega
    have l3 : ((s.length : Int) + 1 + 1).toNat = s.length + 1 + 1 := by omega
    have hlt := UInt8.toNat_lt a
    have w1 : IntKind.wrap .i64 ((a.toNat : Int) - 97) = (a.toNat : Int) - 97 := w64 (by omega) (by omega)
    have w2 : IntKind.wrap .i64 (a.toNat : Int) = (a.toNat : Int) := w64 (by omega) (by omega)
    have ht := readTermS_fn people s
    have e : readC people (a :: b :: s) = if b = 58 then (readT people s).bind fun t => if claimOk people ⟨(a.toNat : Int) - 97, t⟩ = true then some ⟨(a.toNat : Int) - 97, t⟩ else none else none := rfl
    have his : ∀ t, readT people s = some t → s.length ≤ 60 ∧ termOk people t = true ∧ termText people t = s := fun t h => readT_is h
    rw [e]
    generalize readT people s = o at *
    cases o with
    | none =>
      have e2 : (if b = 58 then (none : Option (List Mark)).bind (fun t => if claimOk people ⟨(a.toNat : Int) - 97, t⟩ = true then some (⟨(a.toNat : Int) - 97, t⟩ : Claim) else none) else none) = none := by split <;> rfl
      rw [e2]
      refine FnZ_of (rs := [.cell 4 80, .tmp 5]) false Tryd.func55 rfl rfl rfl rfl (Nat.le_of_ble_eq_true rfl) ?_
      simp -dsimp [h3', l2, l3]
      refine call_ ht (by simp -dsimp) ?_
      simp -dsimp [optV, w1, w2, optC]
    | some t =>
      obtain ⟨g1, g2, g3⟩ := his t rfl
      have gl := (termOk_len g2).2.1
      rw [Option.bind_some]
      have hfine : (⟨(a.toNat : Int) - 97, t⟩ : Claim).fine := by
        exact ⟨termOk_fits g2, by simp only; omega⟩
      have hct := claimTxS_fn people ⟨(a.toNat : Int) - 97, t⟩ hfine
      have hk := ft (claimOk people ⟨(a.toNat : Int) - 97, t⟩)
      rcases hk with hk | hk
      · have e2 : (if b = 58 then (if claimOk people ⟨(a.toNat : Int) - 97, t⟩ = true then some (⟨(a.toNat : Int) - 97, t⟩ : Claim) else none) else none) = none := by split <;> simp [hk]
        have e3 : claimTx people ⟨(a.toNat : Int) - 97, t⟩ = [] := by unfold claimTx; rw [if_neg (by simp [hk])]
        rw [e3] at hct
        rw [e2]
        refine FnZ_of (rs := [.cell 4 80, .tmp 5]) false Tryd.func55 rfl rfl rfl rfl (Nat.le_of_ble_eq_true rfl) ?_
        simp -dsimp [h3', l2, l3]
        refine call_ ht (by simp -dsimp) ?_
        simp -dsimp [optV, w1, w2]
        refine call_ hct (by simp -dsimp) ?_
        simp -dsimp [optC]
      · have hwho := (claimOk_all hk).2.2.1
        have e3 : claimTx people ⟨(a.toNat : Int) - 97, t⟩ = a :: 58 :: s := by
          unfold claimTx; rw [if_pos hk, letter_fwd a _ rfl hwho, g3]
        rw [e3] at hct
        by_cases hb : b = 58
        · subst hb
          rw [if_pos rfl, if_pos hk]
          refine FnZ_of (rs := [.cell 4 80, .tmp 5]) false Tryd.func55 rfl rfl rfl rfl (Nat.le_of_ble_eq_true rfl) ?_
          simp -dsimp [h3', l2, l3]
          refine call_ ht (by simp -dsimp) ?_
          simp -dsimp [optV, w1, w2]
          refine call_ hct (by simp -dsimp) ?_
          simp -dsimp [optC]
        · have hb' : ¬ 58 = b := fun h => hb h.symm
          rw [if_neg hb]
          refine FnZ_of (rs := [.cell 4 80, .tmp 5]) false Tryd.func55 rfl rfl rfl rfl (Nat.le_of_ble_eq_true rfl) ?_
          simp -dsimp [h3', l2, l3]
          refine call_ ht (by simp -dsimp) ?_
          simp -dsimp [optV, w1, w2]
          refine call_ hct (by simp -dsimp) ?_
          simp -dsimp [hb, hb', optC]
end TL
