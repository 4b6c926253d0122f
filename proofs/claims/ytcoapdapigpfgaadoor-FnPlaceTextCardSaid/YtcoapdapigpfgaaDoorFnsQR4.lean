/- Reading terms and claims: the program. -/
import Derived.Test.YtcoapdapigpfgaaDoorFnsQR2
import Derived.Test.YtcoapdapigpfgaaDoorFnsQR3
import Derived.Test.YtcoapdapigpfgaaDoorFnsQ15
set_option linter.unusedSimpArgs false
set_option linter.unusedVariables false
set_option maxRecDepth 100000
set_option maxHeartbeats 4000000
set_option pp.maxSteps 1500
namespace TL
open Go Go.Proofs
attribute [local simp] marksV storyV codeV Claim.v Place.v
theorem termText_fn (people : Int) (t : List Mark) : FnZ Tryd.prog 107 [.int .i64 people, marksV t] (.str (termText people t)) := by
  have hk := ft (termOk people t)
  rcases hk with hk | hk
  · rw [termText_no hk]
    refine FnZ_of (rs := [.tmp 4]) false Tryd.func107 rfl rfl rfl rfl (Nat.le_of_ble_eq_true rfl) ?_
    simp -dsimp
    refine call_ (termOk_fn people t) (by simp -dsimp) ?_
    simp -dsimp [hk]
  · obtain ⟨T, h1, h2, h3⟩ := termText_tree hk
    have hl := (termOk_len hk).2.1
    have ht := textOf_fn T h1 (by rw [h2]; omega)
    rw [h2, h3] at ht
    generalize termText people t = s at *
    refine FnZ_of (rs := [.tmp 4]) false Tryd.func107 rfl rfl rfl rfl (Nat.le_of_ble_eq_true rfl) ?_
    simp -dsimp
    refine call_ (termOk_fn people t) (by simp -dsimp) ?_
    simp -dsimp [hk]
    refine call_ ht (by simp -dsimp) ?_
    simp -dsimp
def optV (o : Option (List Mark)) : V := .tup [marksV (o.getD []), .bool o.isSome]
theorem readT_long {people : Int} {s : List UInt8} (h : 60 < s.length) : readT people s = none := readT_none fun t hl _ _ => by omega
theorem readT_people {people : Int} {s : List UInt8} (h : peopleOk people = false) : readT people s = none := readT_none fun t _ ht _ => by
  simp only [termOk, Bool.and_eq_true] at ht; rw [h] at ht; simp at ht
theorem peopleOk_fn' (p : Int) : FnZ Tryd.prog 97 [.int .i64 p] (.bool (peopleOk p)) := peopleOk_fn p
theorem readTerm_no (people : Int) (s : List UInt8) (hl : s.length ≤ 2000000000) (h : peopleOk people = false ∨ 60 < s.length) : FnZ Tryd.prog 82 [.int .i64 people, .str s] (.tup [.sl [], .bool false]) := by
  have hp := ft (peopleOk people)
  rcases hp with hp | hp
  · refine FnZ_of (rs := [.tmp 4, .tmp 5]) false Tryd.func82 rfl rfl rfl rfl (Nat.le_of_ble_eq_true rfl) ?_
    simp -dsimp
    refine call_ (peopleOk_fn' people) (by simp -dsimp) ?_
    simp -dsimp [hp]
  · have hl2 : (60 : Int) < s.length := by have := h.resolve_left (by simp [hp]); omega
    refine FnZ_of (rs := [.tmp 4, .tmp 5]) false Tryd.func82 rfl rfl rfl rfl (Nat.le_of_ble_eq_true rfl) ?_
    simp -dsimp
    refine call_ (peopleOk_fn' people) (by simp -dsimp) ?_
    simp -dsimp [hp, hl2]
theorem readTerm_fn (people : Int) (s : List UInt8) (hl : s.length ≤ 2000000000) : FnZ Tryd.prog 82 [.int .i64 people, .str s] (optV (readT people s)) := by
  by_cases h60 : s.length ≤ 60
  case neg =>
    have h : 60 < s.length := by omega
    rw [readT_long h]
    exact readTerm_no people s hl (.inr h)
  have hp := ft (peopleOk people)
  rcases hp with hp | hp
  · rw [readT_people hp]
    exact readTerm_no people s hl (.inl hp)
  rw [readT_code atomI_ok h60]
  have hS := readSame_all s.length (by omega) s (Nat.le_refl _)
  have hT := termText_fn people (rSame atomI s.length s).ms
  have hne : (rSame atomI s.length s).ok = true → s ≠ [] := by
    rintro h rfl; rw [rSame_nil] at h; cases h
  have hl60 : ¬ (60 : Int) < s.length := by omega
  generalize rSame atomI s.length s = r at *
  obtain ⟨ms, rest, ok⟩ := r
  simp only at hT hne ⊢
  have htt : termText people ms = s → ok = true → termOk people ms = true := fun h1 h2 => by
    have hk := ft (termOk people ms)
    rcases hk with hk | hk
    · rw [termText_no hk] at h1; exact absurd h1.symm (hne h2)
    · exact hk
  refine FnZ_of (rs := [.tmp 4, .tmp 5]) false Tryd.func82 rfl rfl rfl rfl (Nat.le_of_ble_eq_true rfl) ?_
  simp -dsimp
  refine call_ (peopleOk_fn' people) (by simp -dsimp) ?_
  simp -dsimp [hp, hl60]
  refine callS_ (hS _ _) ?_
  rintro t m2 n2 ⟨hle2, hout2, st2, rfl, hrow2, hnil2⟩
  simp only at hrow2 hnil2 ⊢
  cases ok with
  | false =>
    simp -dsimp [optV]
  | true =>
    by_cases hr : rest = []
    case neg => simp -dsimp [optV, hr]
    subst hr
    rcases hrow2 with ⟨rfl, _⟩ | ⟨i2, rfl, hj0, hj1, hmj⟩
    · exact absurd rfl (hnil2 rfl)
    simp -dsimp
    refine call_ hT (by simp -dsimp [hmj]) ?_
    by_cases he : termText people ms = s
    · have hk := htt he rfl
      simp -dsimp [he, hk, hmj, optV]
    · simp -dsimp [he, optV]
theorem claimBy_fn (people who : Int) (t : List Mark) (hl : t.length ≤ 1048576) : FnZ Tryd.prog 83 [.int .i64 people, .int .i64 who, marksV t] (.tup [(if claimOk people ⟨who, t⟩ = true then (⟨who, t⟩ : Claim) else ⟨0, []⟩).v, .bool (claimOk people ⟨who, t⟩)]) := by
  have hc := claimOk_fn people ⟨who, t⟩
  have hk := ft (claimOk people ⟨who, t⟩)
  refine FnZ_of (rs := [.cell 6 80, .tmp 7]) false Tryd.func83 rfl rfl rfl rfl (Nat.le_of_ble_eq_true rfl) ?_
  simp -dsimp
  refine call_ (cloneMarks_fn t hl) (by simp -dsimp) ?_
  simp -dsimp
  refine call_ hc (by simp -dsimp) ?_
  rcases hk with hk | hk
  · simp -dsimp [hk]
  · simp -dsimp [hk]
def optC (o : Option Claim) : V := .tup [(o.getD ⟨0, []⟩).v, .bool o.isSome]
theorem readClaim_fn (people : Int) (s : List UInt8) (hl : s.length ≤ 2000000000) : FnZ Tryd.prog 56 [.int .i64 people, .str s] (optC (readC people s)) := by
  have zero : ∀ (x : List UInt8), s.length < 3 → readC people s = none := fun _ h => by
    cases e : readC people s with
    | none => rfl
    | some c => have := readC_is e; have := (claimTx_len this.1).1; rw [(readC_is e).2] at this; omega
  by_cases h3 : s.length < 3
  · have h3' : (s.length : Int) < 3 := by omega
    rw [zero [] h3]
    refine FnZ_of (rs := [.cell 4 80, .tmp 5]) false Tryd.func56 rfl rfl rfl rfl (Nat.le_of_ble_eq_true rfl) ?_
    simp -dsimp [h3, h3', optC]
  clear zero
  match s, h3, hl with
  | [], h3, hl => simp at h3
  | [a], h3, hl => simp at h3
  | a :: b :: s, h3, hl =>
    have h3' : ¬ ((s.length : Int) + 1 + 1 < 3) := by simp at h3; omega
    have hls : s.length ≤ 2000000000 := by simp at hl; omega
    have l2 : (2 : Int) ≤ (s.length : Int) + 1 + 1 := by omega
    have l3 : ((s.length : Int) + 1 + 1).toNat = s.length + 1 + 1 := by omega
    by_cases hb : b = 58
    case neg =>
      have e : readC people (a :: b :: s) = none := if_neg hb
      have hb' : ¬ (b.toNat : Int) = 58 := fun h => hb (UInt8.toNat.inj (by show b.toNat = 58; omega))
      rw [e]
      refine FnZ_of (rs := [.cell 4 80, .tmp 5]) false Tryd.func56 rfl rfl rfl rfl (Nat.le_of_ble_eq_true rfl) ?_
      simp -dsimp [h3', hb', optC]
    subst hb
    have e : readC people (a :: 58 :: s) = (readT people s).bind fun t => if claimOk people ⟨(a.toNat : Int) - 97, t⟩ = true then some ⟨(a.toNat : Int) - 97, t⟩ else none := rfl
    rw [e]
    have ht := readTerm_fn people s hls
    have hlt := UInt8.toNat_lt a
    have w1 : IntKind.wrap .i64 ((a.toNat : Int) - 97) = (a.toNat : Int) - 97 := w64 (by omega) (by omega)
    have w2 : IntKind.wrap .i64 (a.toNat : Int) = (a.toNat : Int) := w64 (by omega) (by omega)
    have hle : ∀ t, readT people s = some t → t.length ≤ 1048576 := fun t h => by
      have := (termOk_len (readT_is h).2.1).2.1; omega
    generalize readT people s = o at *
    cases o with
    | none =>
      refine FnZ_of (rs := [.cell 4 80, .tmp 5]) false Tryd.func56 rfl rfl rfl rfl (Nat.le_of_ble_eq_true rfl) ?_
      simp -dsimp [h3', l2, l3, optC]
      refine call_ ht (by simp -dsimp) ?_
      simp -dsimp [optV, optC]
    | some t =>
      have hcb := claimBy_fn people ((a.toNat : Int) - 97) t (hle t rfl)
      have hk := ft (claimOk people ⟨(a.toNat : Int) - 97, t⟩)
      refine FnZ_of (rs := [.cell 4 80, .tmp 5]) false Tryd.func56 rfl rfl rfl rfl (Nat.le_of_ble_eq_true rfl) ?_
      simp -dsimp [h3', l2, l3, optC]
      refine call_ ht (by simp -dsimp) ?_
      simp -dsimp [optV, w1, w2]
      refine call_ hcb (by simp -dsimp) ?_
      rcases hk with hk | hk
      · simp -dsimp [hk, optC]
      · simp -dsimp [hk, optC]
end TL
