/- TL: parts FnsA6, FnsA7, TlOpen, FnsGI, TlRow, Fns12, Fns13, Fns14. -/
import Derived.Test.YtibdhpnjjgppgabHd
import Derived.Test.YtibdhpnjjgppgabHc
import Derived.ChangeArms
import Derived.WideShapes
import Derived.KernelRfl
/- The least number of questions: the reference. -/
set_option linter.unusedSimpArgs false
set_option linter.unusedVariables false
set_option maxRecDepth 100000
set_option maxHeartbeats 4000000
set_option pp.maxSteps 1500
namespace TL
open Go Go.Proofs
theorem ktell_done {p T : Nat} (h0 : ¬ T = 0) : 0 ≤ ktell p T ↔ doneT p T = true := by
  have := kt_done (p := p) (T := T)
  unfold kt at this
  rw [if_neg h0] at this
  rw [← this]
  exact ⟨fun h => .inl h, fun h => h.resolve_right h0⟩
theorem split_not {p T i j : Nat} (hT : InT p T) : splits p T i j = false ↔ askY p T i j = T ∨ askN p T i j = T := by
  constructor
  · intro h
    by_cases hy : askY p T i j = 0
    · refine .inr ?_
      apply Nat.eq_of_testBit_eq; intro w
      have : (askY p T i j).testBit w = false := by rw [hy, Nat.zero_testBit]
      rw [bit_askY hT] at this
      rw [bit_askN hT]
      cases hw : T.testBit w
      · rfl
      · rw [hw] at this
        rw [show (w.testBit i == w.testBit j) = false by simpa using this]; rfl
    · by_cases hn : askN p T i j = 0
      · refine .inl ?_
        apply Nat.eq_of_testBit_eq; intro w
        have : (askN p T i j).testBit w = false := by rw [hn, Nat.zero_testBit]
        rw [bit_askN hT] at this
        rw [bit_askY hT]
        cases hw : T.testBit w
        · rfl
        · rw [hw] at this
          rw [show (w.testBit i == w.testBit j) = true by simpa using this]; rfl
      · rw [splits_iff.2 ⟨hy, hn⟩] at h; cases h
  · intro h
    cases hs : splits p T i j
    · rfl
    · have := split_lt hT hs
      omega
theorem asked13 {p T i j : Nat} (h1 : 1 ≤ p) (h4 : p ≤ 4) (hT : InT p T) (hi : i < p) (hj : j < p) : FnZ Try.prog 31 [.int .i64 p, .int .i64 T, .int .i64 i, .int .i64 j, .bool true] (.int .i64 ((askY p T i j : Nat) : Int)) ∧ FnZ Try.prog 31 [.int .i64 p, .int .i64 T, .int .i64 i, .int .i64 j, .bool false] (.int .i64 ((askN p T i j : Nat) : Int)) := by
  have a := l13Asked_fn p T i j true h1 h4 (table_small h4 hT) (by omega) (by omega)
  have b := l13Asked_fn p T i j false h1 h4 (table_small h4 hT) (by omega) (by omega)
  rw [askedS_val _ hT] at a b
  exact ⟨a, b⟩
def Ime (p T m : Nat) (e : Nat) (s : S) : Prop := ∃ (i : Nat) (best : Int), s.tm 0 = .v (.int .i64 p) ∧ s.tm 1 = .v (.int .i64 T) ∧ s.tm 2 = .v (.int .i64 ((m + 1 : Nat) : Int)) ∧ s.tm 7 = .v (.int .i64 best) ∧ s.tm 8 = .v (.int .i64 i) ∧ i ≤ p ∧
  InvB p T (lv p m) (fun a b => a < i ∧ a < b ∧ b < p) best ∧ (e = 1 → i = p)
def Imi (p T m i : Nat) (e : Nat) (s : S) : Prop := ∃ (j : Nat) (best : Int), s.tm 0 = .v (.int .i64 p) ∧ s.tm 1 = .v (.int .i64 T) ∧ s.tm 2 = .v (.int .i64 ((m + 1 : Nat) : Int)) ∧ s.tm 7 = .v (.int .i64 best) ∧ s.tm 8 = .v (.int .i64 i) ∧ s.tm 9 = .v (.int .i64 j) ∧ i < j ∧ j ≤ p ∧
  InvB p T (lv p m) (fun a b => (a < i ∧ a < b ∧ b < p) ∨ (a = i ∧ i < b ∧ b < j)) best ∧ (e = 1 → j = p)
theorem l13Least_fn (p : Nat) (h1 : 1 ≤ p) (h4 : p ≤ 4) : ∀ m : Nat, m ≤ 1000 → ∀ T : Nat, InT p T → FnZ Try.prog 16 [.int .i64 p, .int .i64 T, .int .i64 m] (.int .i64 (lv p m T)) := by
  intro m
  induction m with
  | zero =>
    intro _ T hT
    have hkt := l13Teller_fn p T h1 h4 hT
    by_cases h0 : T = 0
    · subst h0
      have e : lv p 0 0 = 0 := lv_done (doneT_iff.2 (.inl rfl))
      refine FnZ_of (rs := [.tmp 6]) false Try.func16 rfl rfl rfl rfl (Nat.le_of_ble_eq_true rfl) ?_
      simp -dsimp [e]
    have hkd := ktell_done (p := p) h0
    cases hd : doneT p T with
    | true =>
      have e : lv p 0 T = 0 := lv_done hd
      have hk := hkd.2 hd
      generalize ktell p T = q at *
      refine FnZ_of (rs := [.tmp 6]) false Try.func16 rfl rfl rfl rfl (Nat.le_of_ble_eq_true rfl) ?_
      simp -dsimp [h0]
      refine call_ hkt (by simp -dsimp) ?_
      simp -dsimp [h0, hk, e]
    | false =>
      have e : lv p 0 T = -1 := lv_zero hd
      have hk : ¬ 0 ≤ ktell p T := fun h => by rw [hkd.1 h] at hd; cases hd
      generalize ktell p T = q at *
      refine FnZ_of (rs := [.tmp 6]) false Try.func16 rfl rfl rfl rfl (Nat.le_of_ble_eq_true rfl) ?_
      simp -dsimp [h0]
      refine call_ hkt (by simp -dsimp) ?_
      simp -dsimp [h0, hk, e]
  | succ m ih =>
    intro hm T hT
    have ih := ih (by omega)
    have hkt := l13Teller_fn p T h1 h4 hT
    by_cases h0 : T = 0
    · have e : lv p (m + 1) T = 0 := lv_done (doneT_iff.2 (.inl h0))
      refine FnZ_of (rs := [.tmp 6]) false Try.func16 rfl rfl rfl rfl (Nat.le_of_ble_eq_true rfl) ?_
      simp -dsimp [h0]
      rw [← h0, e]
    have hkd := ktell_done (p := p) h0
    cases hd : doneT p T with
    | true =>
      have e : lv p (m + 1) T = 0 := lv_done hd
      have hk := hkd.2 hd
      generalize ktell p T = q at *
      refine FnZ_of (rs := [.tmp 6]) false Try.func16 rfl rfl rfl rfl (Nat.le_of_ble_eq_true rfl) ?_
      simp -dsimp [h0]
      refine call_ hkt (by simp -dsimp) ?_
      simp -dsimp [h0, hk, e]
    | false =>
      have hk : ¬ 0 ≤ ktell p T := fun h => by rw [hkd.1 h] at hd; cases hd
      have hm0 : ¬ ((m + 1 : Nat) : Int) = 0 := by omega
      have hm0' : ¬ (m : Int) + 1 = 0 := by omega
      have wm : IntKind.wrap .i64 (((m + 1 : Nat) : Int) - 1) = (m : Int) := by rw [w64 (by omega) (by omega)]; omega
      have wm' : IntKind.wrap .i64 (m : Int) = (m : Int) := w64 (by omega) (by omega)
      generalize ktell p T = q at *
      refine FnZ_of (rs := [.tmp 6]) false Try.func16 rfl rfl rfl rfl (Nat.le_of_ble_eq_true rfl) ?_
      simp -dsimp [h0]
      refine call_ hkt (by simp -dsimp) ?_
      simp -dsimp [h0, hk, hm0, hm0']
      refine twp_loopC (Ime p T m 0) (fun s => p - natOf (s.tm 8)) (Ime p T m 1) ?_ ?_ ?_
      · exact ⟨0, -1, by simp -dsimp, by simp -dsimp, by simp -dsimp, by simp -dsimp, by simp -dsimp, by omega, .inl ⟨rfl, fun a b hab => by omega⟩, by simp⟩
      · rintro s ⟨i, best, t0, t1, t2, t7, t8, hi, hinv, hend⟩
        by_cases hlt : i < p
        case neg =>
          simp -dsimp [t0, t8, hlt]
          exact ⟨i, best, by simp -dsimp [t0], by simp -dsimp [t1], by simp -dsimp [t2], by simp -dsimp [t7], by simp -dsimp [t8], hi, hinv, fun _ => by omega⟩
        have wi : IntKind.wrap .i64 ((i : Int) + 1) = ((i + 1 : Nat) : Int) := by rw [w64 (by omega) (by omega)]; omega
        have hmu : p - (i + 1) < p - i := by omega
        simp -dsimp [t0, t8, hlt, wi]
        refine twp_loopB (Imi p T m i 0) (fun s => p - natOf (s.tm 9)) (Imi p T m i 1) ?_ ?_ ?_
        · exact ⟨i + 1, best, by simp -dsimp [t0], by simp -dsimp [t1], by simp -dsimp [t2], by simp -dsimp [t7], by simp -dsimp [t8], by simp -dsimp, by omega, by omega, hinv.same (fun a b => by omega), by simp⟩
        · rintro s2 ⟨j, best, u0, u1, u2, u7, u8, u9, hij, hj, hinv2, hend2⟩
          by_cases hlt2 : j < p
          case neg =>
            simp -dsimp [u0, u9, hlt2]
            exact ⟨j, best, by simp -dsimp [u0], by simp -dsimp [u1], by simp -dsimp [u2], by simp -dsimp [u7], by simp -dsimp [u8], by simp -dsimp [u9], hij, hj, hinv2, fun _ => by omega⟩
          have wj : IntKind.wrap .i64 ((j : Int) + 1) = ((j + 1 : Nat) : Int) := by rw [w64 (by omega) (by omega)]; omega
          have hmu2 : p - (j + 1) < p - j := by omega
          obtain ⟨hy, hn⟩ := asked13 (i := i) (j := j) h1 h4 hT hlt hlt2
          have hstep := hinv2.step (S' := fun a b => (a < i ∧ a < b ∧ b < p) ∨ (a = i ∧ i < b ∧ b < j + 1)) (a := i) (c := j) (fun a b => by omega)
          obtain ⟨y, hY⟩ : ∃ y, askY p T i j = y := ⟨_, rfl⟩
          obtain ⟨z, hZ⟩ : ∃ z, askN p T i j = z := ⟨_, rfl⟩
          have hyT := hT.askY (i := i) (j := j)
          have hzT := hT.askN (i := i) (j := j)
          have hcd : candB p T (lv p m) i j = if splits p T i j = true ∧ 0 ≤ lv p m y ∧ 0 ≤ lv p m z then some (1 + max (lv p m y) (lv p m z)) else none := by rw [← hY, ← hZ]; rfl
          have hspn := split_not (i := i) (j := j) hT
          rw [hY] at hy hyT hspn
          rw [hZ] at hn hzT hspn
          cases hsp : splits p T i j with
          | false =>
            rw [hsp] at hcd hspn
            rw [hcd, if_neg (by simp)] at hstep
            simp only [stepB] at hstep
            by_cases hyT2 : y = T
            · simp -dsimp [u0, u1, u2, u7, u8, u9, hlt2]
              refine call_ hy (by simp -dsimp) ?_
              simp -dsimp [u0, u1, u2, u7, u8, u9, hlt2]
              refine call_ hn (by simp -dsimp) ?_
              simp -dsimp [u0, u1, u2, u7, u8, u9, hlt2, hyT2, wj, hmu2]
              exact ⟨j + 1, best, by simp -dsimp [u0], by simp -dsimp [u1], by simp -dsimp [u2], by simp -dsimp [u7], by simp -dsimp [u8], by simp -dsimp, by omega, by omega, hstep, by simp⟩
            · have hzT2 : z = T := (hspn.1 rfl).resolve_left hyT2
              have hyT3 : ¬ (y : Int) = T := by omega
              simp -dsimp [u0, u1, u2, u7, u8, u9, hlt2]
              refine call_ hy (by simp -dsimp) ?_
              simp -dsimp [u0, u1, u2, u7, u8, u9, hlt2]
              refine call_ hn (by simp -dsimp) ?_
              simp -dsimp [u0, u1, u2, u7, u8, u9, hlt2, hyT2, hyT3, hzT2, wj, hmu2]
              exact ⟨j + 1, best, by simp -dsimp [u0], by simp -dsimp [u1], by simp -dsimp [u2], by simp -dsimp [u7], by simp -dsimp [u8], by simp -dsimp, by omega, by omega, hstep, by simp⟩
          | true =>
            rw [hsp] at hspn hcd
            have hyT2 : ¬ y = T := fun h => by have := hspn.2 (.inl h); cases this
            have hzT2 : ¬ z = T := fun h => by have := hspn.2 (.inr h); cases this
            have hyT3 : ¬ (y : Int) = T := by omega
            have hzT3 : ¬ (z : Int) = T := by omega
            have ihy := ih y hyT
            have ihz := ih z hzT
            have a1 := lv_ge p m y
            have a2 := lv_lt (m := m) h1 hyT
            have b1 := lv_ge p m z
            have b2 := lv_lt (m := m) h1 hzT
            obtain ⟨a, ha⟩ : ∃ a, lv p m y = a := ⟨_, rfl⟩
            obtain ⟨b, hb⟩ : ∃ b, lv p m z = b := ⟨_, rfl⟩
            simp only [ha, hb] at ihy ihz a1 a2 b1 b2 hcd
            have wab : IntKind.wrap .i64 (max a b + 1) = max a b + 1 := w64 (by omega) (by omega)
            have hco : 1 + max a b = max a b + 1 := by omega
            rw [hco] at hcd
            simp -dsimp [u0, u1, u2, u7, u8, u9, hlt2]
            refine call_ hy (by simp -dsimp) ?_
            simp -dsimp [u0, u1, u2, u7, u8, u9, hlt2]
            refine call_ hn (by simp -dsimp) ?_
            simp -dsimp [u0, u1, u2, u7, u8, u9, hlt2, hyT2, hzT2, hyT3, hzT3, wm, wm']
            refine call_ ihy (by simp -dsimp) ?_
            simp -dsimp [u0, u1, u2, u7, u8, u9, hlt2, hyT2, hzT2, hyT3, hzT3, wm, wm']
            refine call_ ihz (by simp -dsimp) ?_
            by_cases ca : a < 0
            · rw [hcd, if_neg (by omega)] at hstep
              simp only [stepB] at hstep
              simp -dsimp [u0, u1, u2, u7, u8, u9, hlt2, ca, wj, hmu2]
              exact ⟨j + 1, best, by simp -dsimp [u0], by simp -dsimp [u1], by simp -dsimp [u2], by simp -dsimp [u7], by simp -dsimp [u8], by simp -dsimp, by omega, by omega, hstep, by simp⟩
            by_cases cb : b < 0
            · rw [hcd, if_neg (by omega)] at hstep
              simp only [stepB] at hstep
              simp -dsimp [u0, u1, u2, u7, u8, u9, hlt2, ca, cb, wj, hmu2]
              exact ⟨j + 1, best, by simp -dsimp [u0], by simp -dsimp [u1], by simp -dsimp [u2], by simp -dsimp [u7], by simp -dsimp [u8], by simp -dsimp, by omega, by omega, hstep, by simp⟩
            rw [hcd, if_pos ⟨trivial, by omega, by omega⟩] at hstep
            simp only [stepB] at hstep
            by_cases cc : best < 0
            · rw [if_pos (.inl cc)] at hstep
              simp -dsimp [u0, u1, u2, u7, u8, u9, hlt2, ca, cb, cc, wab, wj, hmu2]
              exact ⟨j + 1, max a b + 1, by simp -dsimp [u0], by simp -dsimp [u1], by simp -dsimp [u2], by simp -dsimp [u7], by simp -dsimp [u8], by simp -dsimp, by omega, by omega, hstep, by simp⟩
            by_cases cd : max a b + 1 < best
            · rw [if_pos (.inr cd)] at hstep
              simp -dsimp [u0, u1, u2, u7, u8, u9, hlt2, ca, cb, cc, cd, wab, wj, hmu2]
              exact ⟨j + 1, max a b + 1, by simp -dsimp [u0], by simp -dsimp [u1], by simp -dsimp [u2], by simp -dsimp [u7], by simp -dsimp [u8], by simp -dsimp, by omega, by omega, hstep, by simp⟩
            · rw [if_neg (by omega)] at hstep
              simp -dsimp [u0, u1, u2, u7, u8, u9, hlt2, ca, cb, cc, cd, wab, wj, hmu2]
              exact ⟨j + 1, best, by simp -dsimp [u0], by simp -dsimp [u1], by simp -dsimp [u2], by simp -dsimp [u7], by simp -dsimp [u8], by simp -dsimp, by omega, by omega, hstep, by simp⟩
        · rintro s2 ⟨j, best, u0, u1, u2, u7, u8, u9, hij, hj, hinv2, hend2⟩
          have := hend2 rfl
          subst this
          simp -dsimp [u0, u8, wi, hmu, t8]
          exact ⟨i + 1, best, by simp -dsimp [u0], by simp -dsimp [u1], by simp -dsimp [u2], by simp -dsimp [u7], by simp -dsimp, by omega, hinv2.same (fun a b => by omega), by simp⟩
      · rintro s ⟨i, best, t0, t1, t2, t7, t8, hi, hinv, hend⟩
        have := hend rfl
        subst this
        have hlv := hinv.lv hT hd (fun a b hab => by omega) (fun a b ha hb => .inr ⟨by omega, hb, ha⟩)
        have e : best = lv i (m + 1) T := IsLv.uniq hlv (lv_is i (m + 1) T)
        subst e
        simp -dsimp [t7]
theorem leastAsksS_fn (people t : Int) : FnZ Try.prog 6 [.int .i64 people, .int .i64 t] (.int .i64 (la people t)) := by
  have hk := ft (tableOk people t)
  have hok := tableOkS_fn people t
  rcases hk with hk | hk
  · have e : la people t = -1 := if_neg (by simp [hk])
    rw [hk] at hok
    refine FnZ_of (rs := [.tmp 4]) false Try.func6 rfl rfl rfl rfl (Nat.le_of_ble_eq_true rfl) ?_
    simp -dsimp
    refine call_ hok (by simp -dsimp) ?_
    simp -dsimp [e]
  · rw [hk] at hok
    obtain ⟨p, T, rfl, rfl, h1, h4, hT⟩ := tableOk_spec hk
    have e := la_ok h1 h4 hT
    have hs := l13Least_fn p h1 h4 p (by omega) T hT
    refine FnZ_of (rs := [.tmp 4]) false Try.func6 rfl rfl rfl rfl (Nat.le_of_ble_eq_true rfl) ?_
    simp -dsimp
    refine call_ hok (by simp -dsimp) ?_
    simp -dsimp [e]
    refine call_ hs (by simp -dsimp) ?_
    simp -dsimp [e]
end TL

/- Majorities and opposites of the program; the law of LeastAsks. -/
set_option linter.unusedSimpArgs false
set_option linter.unusedVariables false
set_option maxRecDepth 100000
set_option maxHeartbeats 4000000
set_option pp.maxSteps 1500
namespace TL
open Go Go.Proofs
attribute [local simp] marksV storyV codeV
theorem tellersIn_fn (p w : Nat) (h1 : 1 ≤ p) (h4 : p ≤ 4) (hw : w < 2 ^ p) : FnZ Try.prog 23 [.int .i64 p, .int .i64 w] (.int .i64 (cnt w)) := by
  have hN : 2 ^ p ≤ 2 ^ 4 := Nat.pow_le_pow_right (by omega) h4
  have hok := worldOk_fn p w
  have hk : worldOk p w = true := by
    have e : ((2 ^ p : Nat) : Int) = (2 : Int) ^ p := by simp
    have : (w : Int) < (2 : Int) ^ p := by rw [← e]; omega
    simp only [worldOk, peopleOk, Bool.and_eq_true, decide_eq_true_eq]
    exact ⟨⟨⟨by omega, by omega⟩, by omega⟩, by simpa using this⟩
  rw [hk] at hok
  have hc := onesCount_fn w (by omega)
  have wu : IntKind.wrap .u64 (w : Int) = w := by simp only [IntKind.wrap, IntKind.bits, IntKind.signed]; simp; omega
  refine FnZ_of (rs := [.tmp 4]) false Try.func23 rfl rfl rfl rfl (Nat.le_of_ble_eq_true rfl) ?_
  simp -dsimp
  refine call_ hok (by simp -dsimp) ?_
  simp -dsimp [wu]
  refine call_ hc (by simp -dsimp) ?_
  simp -dsimp
theorem majority1_fn (p w : Nat) (h1 : 1 ≤ p) (h4 : p ≤ 4) (hw : w < 2 ^ p) : FnZ Try.prog 22 [.int .i64 w, .ref [.int .i64 p]] (.bool (decide (p < 2 * cnt w))) := by
  have hN : 2 ^ p ≤ 2 ^ 4 := Nat.pow_le_pow_right (by omega) h4
  have ht := tellersIn_fn p w h1 h4 hw
  have hc := cnt_le w
  generalize cnt w = c at *
  have wc : IntKind.wrap .i64 (2 * (c : Int)) = ((2 * c : Nat) : Int) := by rw [w64 (by omega) (by omega)]; omega
  have e : ((p : Int) < 2 * (c : Int)) ↔ (p < 2 * c) := by omega
  have e2 : ((p : Int) < ((2 * c : Nat) : Int)) ↔ (p < 2 * c) := by omega
  refine FnZ_of (rs := [.tmp 3]) false Try.func22 rfl rfl rfl rfl (Nat.le_of_ble_eq_true rfl) ?_
  simp -dsimp
  refine twp_draw [0, 1, 4, 2, 3, 5, 6] [] (List.replicate 7 []) (List.replicate 7 []) (by kernel_rfl) (by kernel_rfl) (by kernel_rfl) (by kernel_rfl) ?_
  simp -dsimp [List.range_succ]
  refine call_ ht (by simp -dsimp) ?_
  simp -dsimp [List.range_succ, wc, e, e2]
theorem majorityI_fn (p : Nat) (h1 : 1 ≤ p) (h4 : p ≤ 4) : FnZ Try.prog 10 [.int .i64 p] (.int .i64 ((majOf p : Nat) : Int)) := by
  have hok := peopleOk_at (p : Int)
  have hk : peopleOk p = true := by simp [peopleOk]; omega
  rw [hk] at hok
  have ht := tableBy_fn p h1 h4 22 [.ref [.int .i64 p]] (fun w => decide (p < 2 * cnt w)) fun w hw => majority1_fn p w h1 h4 hw
  unfold majOf
  generalize tabN (2 ^ p) (fun w => decide (p < 2 * cnt w)) = M at *
  refine FnZ_of (rs := [.tmp 2]) false Try.func10 rfl rfl rfl rfl (Nat.le_of_ble_eq_true rfl) ?_
  simp -dsimp
  refine call_ hok (by simp -dsimp) ?_
  simp -dsimp
  refine callM_ ht (by simp -dsimp) rfl ?_
  simp -dsimp
theorem opposite1_fn (p T w : Nat) (h1 : 1 ≤ p) (h4 : p ≤ 4) (hT : InT p T) (hw : w < 2 ^ p) : FnZ Try.prog 24 [.int .i64 w, .ref [.int .i64 T], .ref [.int .i64 p]] (.bool (T.testBit (2 ^ p - 1 - w))) := by
  have hN : 2 ^ p ≤ 2 ^ 4 := Nat.pow_le_pow_right (by omega) h4
  have hs := table_small h4 hT
  have ws : IntKind.wrap .i64 (2 ^ min p IntKind.i64.bits) = ((2 ^ p : Nat) : Int) := by rw [shl_fact (by omega)]; simp
  have hp0 : ¬ (p : Int) < 0 := by omega
  generalize 2 ^ p = N at *
  have w1 : IntKind.wrap .i64 ((N : Int) - 1) = ((N - 1 : Nat) : Int) := by rw [w64 (by omega) (by omega)]; omega
  have w2 : IntKind.wrap .i64 (((N - 1 : Nat) : Int) - w) = ((N - 1 - w : Nat) : Int) := by rw [w64 (by omega) (by omega)]; omega
  have hb := bit1 T (N - 1 - w) (by omega) (by omega)
  generalize N - 1 - w = q at *
  have hq0 : ¬ (q : Int) < 0 := by omega
  generalize N - 1 = N1 at *
  refine FnZ_of (rs := [.tmp 4]) false Try.func24 rfl rfl rfl rfl (Nat.le_of_ble_eq_true rfl) ?_
  simp -dsimp
  refine twp_draw (List.range 10) [] (List.replicate 10 []) (List.replicate 10 []) (by kernel_rfl) (by kernel_rfl) (by kernel_rfl) (by kernel_rfl) ?_
  simp -dsimp [List.range_succ, hp0, ws, w1, w2, hq0]
  rw [hb]
  cases T.testBit q <;> simp
theorem oppositeI_fn (p T : Nat) (h1 : 1 ≤ p) (h4 : p ≤ 4) (hT : InT p T) : FnZ Try.prog 11 [.int .i64 p, .int .i64 T] (.int .i64 ((turned p T : Nat) : Int)) := by
  have hok := tableOk_fn p T
  rw [tab_ok h1 h4 hT] at hok
  have ht := tableBy_fn p h1 h4 24 [.ref [.int .i64 T], .ref [.int .i64 p]] (fun w => T.testBit (2 ^ p - 1 - w)) fun w hw => opposite1_fn p T w h1 h4 hT hw
  unfold turned
  generalize tabN (2 ^ p) (fun w => T.testBit (2 ^ p - 1 - w)) = M at *
  refine FnZ_of (rs := [.tmp 4]) false Try.func11 rfl rfl rfl rfl (Nat.le_of_ble_eq_true rfl) ?_
  simp -dsimp
  refine call_ hok (by simp -dsimp) ?_
  simp -dsimp
  refine callM_ ht (by simp -dsimp) rfl ?_
  simp -dsimp
theorem drawLeastAsks_z (bs : List UInt8) (m : Mem) (n : Nat) : FnS Try.prog 4 m n [.v (codeV bs)] (Drawn SomeTwo m n) := by
  refine Drawn_of ⟨_, Try.func4, rfl, rfl⟩ fun hfr => ?_
  refine FnS_of (rs := [.tmp 2, .tmp 3]) false Try.func4 rfl rfl rfl rfl (Nat.le_of_ble_eq_true rfl) ?_
  simp -dsimp
  refine callS_ (open_at bs _ _) ?_
  rintro t m1 n1 ⟨rfl, rfl, rfl⟩
  simp -dsimp
  refine callS_ (known_z (bs.take 2000) 0 (by omega) _ _ n (by omega) (by simp)) ?_
  rintro t m2 n2 ⟨hn2, ⟨x, ⟨a, b, rfl⟩, rfl⟩, p1, hp1, hp2, rfl⟩
  simp -dsimp
  refine ⟨by omega, ⟨_, by simp <;> exact ⟨rfl, rfl⟩, _, _, rfl⟩, fun j j1 => ?_⟩
  simp [far j1, show ¬ j = n by omega]
theorem andnot_sub {a b : Nat} (ha : a < 65536) (hb : b < 65536) (h : IntKind.i64.wrap ((a % 2 ^ IntKind.i64.bits &&& 2 ^ IntKind.i64.bits - 1 - b % 2 ^ IntKind.i64.bits : Nat) : Int) = 0) : ∀ w, a.testBit w = true → b.testBit w = true := by
  have hbits : IntKind.i64.bits = 64 := rfl
  rw [hbits] at h
  have e1 : a % 2 ^ 64 = a := Nat.mod_eq_of_lt (by omega)
  have e2 : b % 2 ^ 64 = b := Nat.mod_eq_of_lt (by omega)
  have hle : (a &&& 2 ^ 64 - 1 - b) ≤ a := Nat.and_le_left
  rw [e1, e2, w64 (by omega) (by omega)] at h
  have h0 : (a &&& 2 ^ 64 - 1 - b) = 0 := by omega
  intro w hw
  cases hbw : b.testBit w
  · have hlt : w < 64 := by
      rcases Nat.lt_or_ge w 64 with h | h
      · exact h
      · have : a.testBit w = false := Nat.testBit_lt_two_pow (Nat.lt_of_lt_of_le (show a < 2 ^ 64 by omega) (Nat.pow_le_pow_right (by omega) h))
        rw [this] at hw; cases hw
    have : (a &&& 2 ^ 64 - 1 - b).testBit w = true := by
      rw [Nat.testBit_and, show 2 ^ 64 - 1 - b = 2 ^ 64 - (b + 1) by omega, Nat.testBit_two_pow_sub_succ (by omega), hw, hbw]
      simp [hlt]
    rw [h0, Nat.zero_testBit] at this; cases this
  · rfl
theorem lawLeastAsks (bs : List UInt8) : FnZ Try.prog 3 [codeV bs] (.bool true) := by
  refine FnZ_of (rs := [.tmp 2]) false Try.func3 rfl rfl rfl rfl (Nat.le_of_ble_eq_true rfl) ?_
  by_cases h : (1048576 : Int) < bs.length
  · simp -dsimp [h]
  simp -dsimp [h]
  refine callS_ (drawLeastAsks_z bs _ _) ?_
  rintro t m1 n1 ⟨hn1, ⟨x, ⟨a, b, rfl⟩, rfl⟩, rfl⟩
  have h1 := leastAsks_fn a b
  have h2 := leastAsksS_fn a b
  have h3 := tableOkS_fn a b
  have hk := ft (tableOk a b)
  rcases hk with hk | hk
  · have e : la a b = -1 := if_neg (by simp [hk])
    rw [e] at h1 h2
    rw [hk] at h3
    simp -dsimp
    refine call_ h1 (by simp -dsimp) ?_
    simp -dsimp
    refine call_ h2 (by simp -dsimp) ?_
    simp -dsimp
    refine call_ h3 (by simp -dsimp) ?_
    simp -dsimp
    refine call_ alive_fn (by simp -dsimp) ?_
    simp -dsimp
  rw [hk] at h3
  obtain ⟨p, T, rfl, rfl, hp1, hp4, hT0⟩ := tableOk_spec hk
  have hT : InT p T := hT0
  rw [la_ok hp1 hp4 hT] at h1 h2
  have h4 := knownTeller_fn p T hp1 hp4 hT
  have h5 := majorityI_fn p hp1 hp4
  have h6 := oppositeI_fn p T hp1 hp4 hT
  have hlt := lv_lt (m := p) hp1 hT
  have hge := lv_ge p p T
  have hz := lv_zero_iff (p := p) (m := p) (T := T)
  have hmaj := fun hs => lv_maj hp1 hp4 hT hs
  have hopp := fun h0 ho => lv_opp (m := p) hT h0 ho
  have hsm := table_small hp4 hT
  have hmm := table_small hp4 (InT.maj p)
  have hsub := andnot_sub hsm hmm
  have hkd := kt_done (p := p) (T := T)
  rw [← hz] at hkd
  clear hz hT hT0 hk
  generalize lv p p T = v at *
  generalize kt p T = q at *
  generalize majOf p = M at *
  generalize turned p T = R at *
  have hlt2 : ¬ (p : Int) ≤ v := by omega
  obtain ⟨X, hX⟩ : ∃ X, IntKind.i64.wrap ((T % 2 ^ IntKind.i64.bits &&& 2 ^ IntKind.i64.bits - 1 - M % 2 ^ IntKind.i64.bits : Nat) : Int) = X := ⟨_, rfl⟩
  rw [hX] at hsub
  -- E7
  have hneg : X = 0 → ¬ v < 0 := fun h => by have := hmaj (hsub h); omega
  by_cases h0 : T = 0
  · have hv : v = 0 := hkd.1 (.inr h0)
    subst h0
    subst hv
    have hp0 : ¬ (p : Int) ≤ 0 := by omega
    have hp0' : ¬ p = 0 := by omega
    have hp1' : (0 : Int) < p := by omega
    have hp1'' : 0 < p := by omega
    simp -dsimp
    refine call_ h1 (by simp -dsimp) ?_
    simp -dsimp
    refine call_ h2 (by simp -dsimp) ?_
    simp -dsimp
    refine call_ h3 (by simp -dsimp) ?_
    simp -dsimp
    refine call_ h5 (by simp -dsimp) ?_
    have hw0 : IntKind.wrap .i64 (0 : Int) = 0 := rfl
    simp -dsimp [hp0, hp0', hp1', hp1'', hw0]
  have h0i : ¬ (T : Int) = 0 := by omega
  by_cases hR : R = T
  · have hv : v = -1 := hopp h0 hR
    have hX0 : ¬ X = 0 := fun h => by have := hneg h; omega
    have hq : ¬ 0 ≤ q := fun h => by have := hkd.1 (.inl h); omega
    have hRi : (R : Int) = T := by omega
    subst hv
    have hpi : (-1 : Int) < p := by omega
    simp -dsimp
    refine call_ h1 (by simp -dsimp) ?_
    simp -dsimp
    refine call_ h2 (by simp -dsimp) ?_
    simp -dsimp
    refine call_ h3 (by simp -dsimp) ?_
    simp -dsimp [h0, h0i, hX0, hq, hR, hRi, hpi]
    refine call_ h4 (by simp -dsimp) ?_
    simp -dsimp [h0, h0i, hX0, hq, hR, hRi, hpi]
    refine call_ h5 (by simp -dsimp) ?_
    simp -dsimp [h0, hX, hlt2, h0i, hX0, hq, hR, hRi, hpi]
    refine call_ h6 (by simp -dsimp) ?_
    simp -dsimp [h0, hX, hlt2, hlt, h0i, hX0, hq, hR, hRi, hpi]
  have hRi : ¬ (R : Int) = T := by omega
  by_cases hq : 0 ≤ q
  · have hv : v = 0 := hkd.1 (.inl hq)
    subst hv
    have hp0 : ¬ (p : Int) ≤ 0 := by omega
    have hp0' : ¬ p = 0 := by omega
    have hp1' : (0 : Int) < p := by omega
    have hp1'' : 0 < p := by omega
    by_cases hX0 : X = 0
    · simp -dsimp
      refine call_ h1 (by simp -dsimp) ?_
      simp -dsimp
      refine call_ h2 (by simp -dsimp) ?_
      simp -dsimp
      refine call_ h3 (by simp -dsimp) ?_
      simp -dsimp [h0, h0i, hX0, hq, hR, hRi, hp0, hp0', hp1', hp1'']
      refine call_ h4 (by simp -dsimp) ?_
      simp -dsimp [h0, h0i, hX0, hq, hR, hRi, hp0, hp0', hp1', hp1'']
      refine call_ h5 (by simp -dsimp) ?_
      simp -dsimp [h0, hX, hlt2, h0i, hX0, hq, hR, hRi, hp0, hp0', hp1', hp1'']
      refine call_ h6 (by simp -dsimp) ?_
      simp -dsimp [h0, hX, hlt2, hlt, h0i, hX0, hq, hR, hRi, hp0, hp0', hp1', hp1'']
    · simp -dsimp
      refine call_ h1 (by simp -dsimp) ?_
      simp -dsimp
      refine call_ h2 (by simp -dsimp) ?_
      simp -dsimp
      refine call_ h3 (by simp -dsimp) ?_
      simp -dsimp [h0, h0i, hX0, hq, hR, hRi, hp0, hp0', hp1', hp1'']
      refine call_ h4 (by simp -dsimp) ?_
      simp -dsimp [h0, h0i, hX0, hq, hR, hRi, hp0, hp0', hp1', hp1'']
      refine call_ h5 (by simp -dsimp) ?_
      simp -dsimp [h0, hX, hlt2, h0i, hX0, hq, hR, hRi, hp0, hp0', hp1', hp1'']
      refine call_ h6 (by simp -dsimp) ?_
      simp -dsimp [h0, hX, hlt2, hlt, h0i, hX0, hq, hR, hRi, hp0, hp0', hp1', hp1'']
  · have hv : ¬ v = 0 := fun h => by
      rcases hkd.2 h with h | h
      · exact hq h
      · exact h0 h
    by_cases hX0 : X = 0
    · have hn := hneg hX0
      simp -dsimp
      refine call_ h1 (by simp -dsimp) ?_
      simp -dsimp
      refine call_ h2 (by simp -dsimp) ?_
      simp -dsimp
      refine call_ h3 (by simp -dsimp) ?_
      simp -dsimp [h0, h0i, hX0, hq, hR, hRi, hv, hn]
      refine call_ h4 (by simp -dsimp) ?_
      simp -dsimp [h0, h0i, hX0, hq, hR, hRi, hv, hn]
      refine call_ h5 (by simp -dsimp) ?_
      simp -dsimp [h0, hX, hlt2, h0i, hX0, hq, hR, hRi, hv, hn]
      refine call_ h6 (by simp -dsimp) ?_
      simp -dsimp [h0, hX, hlt2, hlt, h0i, hX0, hq, hR, hRi, hv, hn]
    · simp -dsimp
      refine call_ h1 (by simp -dsimp) ?_
      simp -dsimp
      refine call_ h2 (by simp -dsimp) ?_
      simp -dsimp
      refine call_ h3 (by simp -dsimp) ?_
      simp -dsimp [h0, h0i, hX0, hq, hR, hRi, hv]
      refine call_ h4 (by simp -dsimp) ?_
      simp -dsimp [h0, h0i, hX0, hq, hR, hRi, hv]
      refine call_ h5 (by simp -dsimp) ?_
      simp -dsimp [h0, hX, hlt2, h0i, hX0, hq, hR, hRi, hv]
      refine call_ h6 (by simp -dsimp) ?_
      simp -dsimp [h0, hX, hlt2, hlt, h0i, hX0, hq, hR, hRi, hv]
end TL

/- TL, part 21: what the reading of an argument says: the pure value that it is. -/
set_option linter.unusedVariables false
set_option linter.unusedSimpArgs false
namespace TL
open Go Go.RowKit
/-- All that lies in memory. -/
def ZA (w : World) : Zs := fun k _ => k < w.heap.size
/-- Whatever is read at a type is a row of pure cells of a kind. -/
def Opens (P : Program) (w : World) (t : TypeId) (R : List V → Prop) : Prop :=
  ∀ (H : Type) (enc : TypeId × Value → H) (base : Nat) (sp : Nat → Bool) (held : Bool) (fuel : Nat) (cs : List Value) (x : DataW H × List MemPlace), DataW.trod enc P w base sp held fuel t cs = some x → ∃ vs, RepCs (ZA w) w vs cs ∧ R vs
section
variable {P : Program} {w : World} {t : TypeId}
theorem RepCs.append {Z : Zs} {a b : List V} {us vs : List Value} (h : RepCs Z w a us) (g : RepCs Z w b vs) : RepCs Z w (a ++ b) (us ++ vs) := by
  induction a generalizing us with
  | nil => cases h; exact g
  | cons x xs ih => cases h with | cons hc h t => exact .cons hc h (ih t)
theorem Opens.mono {R R' : List V → Prop} (h : Opens P w t R) (hr : ∀ vs, R vs → R' vs) : Opens P w t R' := fun H enc base sp held fuel cs x hx => by
  obtain ⟨vs, h1, h2⟩ := h H enc base sp held fuel cs x hx
  exact ⟨vs, h1, hr vs h2⟩
theorem opens_int {k : IntKind} (ht : P.underlying t = some (.int k)) : Opens P w t fun vs => ∃ n, vs = [.int k n] ∧ (Lit.int k n).wf = true := fun H enc base sp held fuel cs x hx => by
  obtain ⟨n, rfl, _, hw⟩ := DataW.trod_int ht hx
  exact ⟨_, .cons rfl (.int _ _) .nil, n, rfl, hw⟩
theorem opens_bool (ht : P.underlying t = some .bool) : Opens P w t fun vs => ∃ b, vs = [.bool b] := fun H enc base sp held fuel cs x hx => by
  obtain ⟨b, rfl, _⟩ := DataW.trod_bool ht hx
  exact ⟨_, .cons rfl (.bool _) .nil, b, rfl⟩
theorem opens_string (ht : P.underlying t = some .string) : Opens P w t fun vs => ∃ s : List UInt8, vs = [.str s] ∧ s.length ≤ maxLen := fun H enc base sp held fuel cs x hx => by
  obtain ⟨s, rfl, _, hs⟩ := DataW.trod_string ht hx
  exact ⟨_, .cons rfl (.str rfl) .nil, _, rfl, by simpa using hs⟩
theorem opens_slice {e : TypeId} {z : Nat} {α : Type} {v : α → V} {Q : α → Prop} (ht : P.underlying t = some (.slice e)) (hc : P.cellsOf e = z) (hz : 0 < z)
    (ho : Opens P w e fun vs => ∃ a, Q a ∧ (v a = .agg vs ∨ (z = 1 ∧ vs = [v a]))) : Opens P w t fun vs => ∃ l : List α, vs = [.sl (l.map v)] ∧ l.length ≤ maxLen ∧ ∀ a ∈ l, Q a := fun H enc base sp held fuel cs x hx => by
  rcases DataW.trod_slice ht hx with ⟨rfl, _⟩ | ⟨a, len, cap, elems, rest, n, _, rfl, rfl, hb, hl, hm, hlen, hel, _⟩
  · exact ⟨_, .cons rfl (.nil _ _) .nil, [], rfl, by simp, by simp⟩
  · have key : ∀ m k, k + m = len → ∃ (l : List α) (us : List Value), l.length = m ∧ RepEs (ZA w) w z (l.map v) us ∧ (∀ a ∈ l, Q a) ∧ ∀ i u, us[i]? = some u → w.cell? (a.add (k * z + i)) = some u := by
      intro m
      induction m with
      | zero => intro k _; exact ⟨[], [], rfl, .nil z, by simp, by simp⟩
      | succ m ih =>
        intro k hk
        obtain ⟨l, us, h1, h2, h3, h4⟩ := ih (k + 1) (by omega)
        have he := hel k (by omega)
        have : k < elems.length := by omega
        rw [List.getElem?_eq_getElem this, Option.bind_eq_some_iff] at he
        obtain ⟨ci, hci, htr⟩ := he
        obtain ⟨_, hcl, hcell⟩ := World.cells?_some hci
        obtain ⟨vs, hrep, y, hQ, hv⟩ := ho H enc base sp held n ci _ htr
        have hlz : ci.length = z := by rw [hcl, hc]
        refine ⟨y :: l, ci ++ us, by simp [h1], ?_, ?_, ?_⟩
        · rcases hv with hv | ⟨rfl, rfl⟩
          · show RepEs (ZA w) w z (v y :: l.map v) (ci ++ us)
            rw [hv]; exact .agg hrep hlz h2
          · cases hrep with | cons hcc hx' t => cases t; exact .one hcc hx' h2
        · intro b hb; rcases List.mem_cons.1 hb with rfl | hb
          · exact hQ
          · exact h3 b hb
        · intro i u hu
          by_cases hi : i < z
          · rw [List.getElem?_append_left (by omega)] at hu
            have := hcell i (by omega)
            rw [hc, add_add, hu] at this
            exact this
          · rw [List.getElem?_append_right (by omega)] at hu
            have := h4 _ u hu
            rw [hlz, show (k + 1) * z + (i - z) = k * z + i by rw [Nat.succ_mul]; omega] at this
            exact this
    obtain ⟨l, us, h1, h2, h3, h4⟩ := key len 0 (by omega)
    refine ⟨_, .cons rfl (.sl h2 (by simp [h1]) hl hm fun i u hu => ?_) .nil, l, rfl, by omega, h3⟩
    have := h4 i u hu
    rw [Nat.zero_mul, Nat.zero_add] at this
    exact ⟨this, World.block_lt_of_cell? w _ this⟩
theorem opens_struct2 {f0 f1 : Field} {R0 R1 : List V → Prop} (ht : P.underlying t = some (.struct #[f0, f1])) (o0 : f0.offset = 0) (o1 : f1.offset = P.cellsOf f0.type) (hz : P.cellsOf t = P.cellsOf f0.type + P.cellsOf f1.type)
    (h0 : Opens P w f0.type R0) (h1 : Opens P w f1.type R1) : Opens P w t fun vs => ∃ v0 v1, vs = v0 ++ v1 ∧ R0 v0 ∧ R1 v1 := fun H enc base sp held fuel cs x hx => by
  obtain ⟨xs, n, _, _, hcl, hxl, hf⟩ := DataW.trod_struct ht hx
  have e0 := hf 0 f0 rfl
  have e1 := hf 1 f1 rfl
  have hxl : xs.length = 2 := hxl
  rw [List.getElem?_eq_getElem (by omega)] at e0 e1
  obtain ⟨v0, r0, q0⟩ := h0 H enc base sp held n _ _ e0
  obtain ⟨v1, r1, q1⟩ := h1 H enc base sp held n _ _ e1
  refine ⟨v0 ++ v1, ?_, v0, v1, rfl, q0, q1⟩
  have := r0.append r1
  rw [o0, o1, List.drop_zero, List.take_of_length_le (l := cs.drop _) (by simp; omega), List.take_append_drop] at this
  exact this
theorem opens_struct3 {f0 f1 f2 : Field} {R0 R1 R2 : List V → Prop} (ht : P.underlying t = some (.struct #[f0, f1, f2])) (o0 : f0.offset = 0) (o1 : f1.offset = P.cellsOf f0.type) (o2 : f2.offset = P.cellsOf f0.type + P.cellsOf f1.type)
    (hz : P.cellsOf t = P.cellsOf f0.type + P.cellsOf f1.type + P.cellsOf f2.type)
    (h0 : Opens P w f0.type R0) (h1 : Opens P w f1.type R1) (h2 : Opens P w f2.type R2) : Opens P w t fun vs => ∃ v0 v1 v2, vs = v0 ++ v1 ++ v2 ∧ R0 v0 ∧ R1 v1 ∧ R2 v2 := fun H enc base sp held fuel cs x hx => by
  obtain ⟨xs, n, _, _, hcl, hxl, hf⟩ := DataW.trod_struct ht hx
  have e0 := hf 0 f0 rfl
  have e1 := hf 1 f1 rfl
  have e2 := hf 2 f2 rfl
  have hxl : xs.length = 3 := hxl
  rw [List.getElem?_eq_getElem (by omega)] at e0 e1 e2
  obtain ⟨v0, r0, q0⟩ := h0 H enc base sp held n _ _ e0
  obtain ⟨v1, r1, q1⟩ := h1 H enc base sp held n _ _ e1
  obtain ⟨v2, r2, q2⟩ := h2 H enc base sp held n _ _ e2
  refine ⟨v0 ++ v1 ++ v2, ?_, v0, v1, v2, rfl, q0, q1, q2⟩
  have := (r0.append r1).append r2
  rw [o0, o1, o2, List.drop_zero, List.take_of_length_le (l := cs.drop (_ + _)) (by simp; omega)] at this
  have e : cs.take (P.cellsOf f0.type) ++ (cs.drop (P.cellsOf f0.type)).take (P.cellsOf f1.type) ++ cs.drop (P.cellsOf f0.type + P.cellsOf f1.type) = cs := by
    rw [List.append_assoc, ← List.drop_drop, List.take_append_drop, List.take_append_drop]
  rw [e] at this
  exact this
theorem rep_one {R : List V → Prop} {H : Type} {enc : TypeId × Value → H} {base : Nat} {sp : Nat → Bool} {held : Bool} {v : Value} {d : DataW H} {p : List MemPlace} (ho : Opens P w t R) (h : DataW.Trod enc P w base sp held t v d p) (hv : v.cells = #[v]) : ∃ x, RepV (ZA w) w x v ∧ R [x] := by
  obtain ⟨fuel, h⟩ := h
  obtain ⟨vs, h1, h2⟩ := ho H enc base sp held fuel _ _ h
  rw [hv] at h1
  cases h1 with | cons hc hx t => cases t; exact ⟨_, hx, h2⟩
theorem rep_agg {R : List V → Prop} {H : Type} {enc : TypeId × Value → H} {base : Nat} {sp : Nat → Bool} {held : Bool} {cs : Array Value} {d : DataW H} {p : List MemPlace} (ho : Opens P w t R) (h : DataW.Trod enc P w base sp held t (.agg cs) d p) : ∃ vs, RepV (ZA w) w (.agg vs) (.agg cs) ∧ R vs := by
  obtain ⟨fuel, h⟩ := h
  obtain ⟨vs, h1, h2⟩ := ho H enc base sp held fuel _ _ h
  have h1 : RepCs (ZA w) w vs cs.toList := h1
  exact ⟨vs, by have := RepV.agg h1; simpa using this, h2⟩
/-- A law's contract over pure values, for the machine. -/
theorem law_walk {f : Nat} {args : List V} {us : List Value} (law : FnZ P f args (.bool true)) (hgl : Gl P (ZA w) w) (hr : RepVs (ZA w) w args us) :
    Calls P f us.toArray w fun e w' => e = .returned (.bool true) ∧ Below w.heap.size w w' := by
  have hc := law.2 (ZA w) w us ⟨fun _ _ h => h, hgl⟩ hr
  intro c
  obtain ⟨e, w', fr, h1, h2⟩ := hc c
  refine ⟨e, w', fr, ?_, h2⟩
  obtain ⟨v, rfl, hb, hv⟩ := h1
  cases hv
  exact ⟨rfl, hb⟩
end
end TL

/- The library's variables at the start: this program reads none of them. -/
set_option linter.unusedVariables false
namespace TL
open Go Go.Proofs
theorem gl_start {W : World} (h : W.ShapedOpen Try.prog) : Gl Try.prog (ZA W) W := by
  have n1 : Try.prog.globalNamed "internal/bytealg.MaxLen" = none := by kernel_rfl
  have n2 : Try.prog.globalNamed "strconv.ErrSyntax" = none := by kernel_rfl
  have n3 : Try.prog.globalNamed "strconv.ErrRange" = none := by kernel_rfl
  rintro g Q (⟨e, _⟩ | ⟨e | e, _⟩)
  · rw [n1] at e; cases e
  · rw [n2] at e; cases e
  · rw [n3] at e; cases e
end TL

/- TL, part 22: rows that are made at once and filled one by one. -/
set_option linter.unusedVariables false
set_option linter.unusedSimpArgs false
namespace TL
open Go
theorem flat_len {k : Nat} : ∀ {bl : List (List T)}, (∀ x ∈ bl, x.length = k) → bl.flatten.length = bl.length * k
  | [], _ => by simp
  | b :: bl, h => by
    have h1 := h b (List.mem_cons_self ..)
    have h2 := flat_len (bl := bl) fun x hx => h x (List.mem_cons_of_mem _ hx)
    rw [List.flatten_cons, List.length_append, h1, h2, List.length_cons, Nat.succ_mul]; omega
theorem setAt_append (a b : List T) : ∀ (xs : List T) (off : Nat), a.length = off → xs.length ≤ b.length → setAt (a ++ b) off xs = a ++ xs ++ b.drop xs.length
  | [], off, h, _ => by simp [setAt]
  | x :: xs, off, h, hl => by
    cases b with
    | nil => simp at hl
    | cons y ys =>
      unfold setAt
      rw [List.set_append_right _ _ (by omega), show off - a.length = 0 by omega, List.set_cons_zero]
      have := setAt_append (a ++ [x]) ys xs (off + 1) (by simp; omega) (by simpa using hl)
      rw [show a ++ x :: ys = a ++ [x] ++ ys by simp, this]; simp
theorem setAt_flat {k : Nat} {bl : List (List T)} {i : Nat} {b : List T} (h : ∀ x ∈ bl, x.length = k) (hb : b.length = k) (hi : i < bl.length) : setAt bl.flatten (i * k) b = (bl.set i b).flatten := by
  have e1 : bl = bl.take i ++ bl[i] :: bl.drop (i + 1) := by rw [← List.drop_eq_getElem_cons hi, List.take_append_drop]
  have l1 : (bl.take i).flatten.length = i * k := by rw [flat_len (k := k) fun x hx => h x (List.mem_of_mem_take hx), List.length_take]; congr 1; omega
  have l2 : bl[i].length = k := h _ (List.getElem_mem _)
  have e2 : bl.flatten = (bl.take i).flatten ++ (bl[i] ++ (bl.drop (i + 1)).flatten) := by
    have e4 : bl.flatten = (bl.take i ++ bl[i] :: bl.drop (i + 1)).flatten := by rw [← e1]
    rw [e4, List.flatten_append, List.flatten_cons]
  have e3 : bl.set i b = bl.take i ++ b :: bl.drop (i + 1) := by rw [List.set_eq_take_append_cons_drop, if_pos hi]
  rw [e2, setAt_append _ _ b _ l1 (by simp; omega), e3, hb]
  rw [List.drop_append_of_le_length (by omega), List.drop_eq_nil_of_le (by omega)]
  simp
/-- The cells of an element. -/
def cellsT (x : V) : List T := x.cells.map .v
/-- A row of which the first i are filled. -/
def filled {α : Type} (v : α → V) (zs : List T) (l : List α) (i : Nat) : List (List T) := (l.take i).map (fun a => cellsT (v a)) ++ List.replicate (l.length - i) zs
/-- Elements of k cells. -/
def ElemOk {α : Type} (v : α → V) (k : Nat) : Prop := ∀ a, (v a).cells.length = k ∧ (∀ c ∈ (v a).cells, c.cell = true) ∧ (if k = 1 then (v a).cells = [v a] else v a = .agg (v a).cells)
theorem filled_len {α : Type} {v : α → V} {zs : List T} {l : List α} {i : Nat} (hi : i ≤ l.length) : (filled v zs l i).length = l.length := by
  simp [filled]; omega
theorem filled_all {α : Type} {v : α → V} {zs : List T} {l : List α} {i k : Nat} (hv : ElemOk v k) (hz : zs.length = k) : ∀ x ∈ filled v zs l i, x.length = k := by
  intro x hx
  rcases List.mem_append.1 hx with hx | hx
  · obtain ⟨a, _, rfl⟩ := List.mem_map.1 hx
    simp [cellsT, (hv a).1]
  · rw [(List.mem_replicate.1 hx).2, hz]
theorem filled_zero {α : Type} (v : α → V) (zs : List T) (l : List α) : (filled v zs l 0).flatten = (List.replicate l.length zs).flatten := by simp [filled]
theorem filled_flat_len {α : Type} {v : α → V} {zs : List T} {l : List α} {i k : Nat} (hv : ElemOk v k) (hz : zs.length = k) (hi : i ≤ l.length) : (filled v zs l i).flatten.length = l.length * k := by
  rw [flat_len (filled_all hv hz), filled_len hi]
theorem filled_set {α : Type} {v : α → V} {zs : List T} {l : List α} {i k : Nat} (hv : ElemOk v k) (hz : zs.length = k) (hi : i < l.length) : setAt (filled v zs l i).flatten (i * k) (cellsT (v l[i])) = (filled v zs l (i + 1)).flatten := by
  rw [setAt_flat (filled_all hv hz) (by simp [cellsT, (hv _).1]) (by rw [filled_len (by omega)]; exact hi)]
  congr 1
  unfold filled
  rw [List.set_append_right _ _ (by simp; omega), List.take_succ_eq_append_getElem hi]
  rw [show l.length - i = (l.length - (i + 1)) + 1 by omega, List.replicate_succ]
  simp only [List.length_map, List.length_take, Nat.min_eq_left (Nat.le_of_lt hi), Nat.sub_self, List.set_cons_zero, List.map_append, List.map_cons, List.map_nil, List.append_assoc, List.cons_append, List.nil_append]
theorem filled_end {α : Type} (v : α → V) (zs : List T) (l : List α) : filled v zs l l.length = l.map fun a => cellsT (v a) := by simp [filled]
theorem mapO_cells {k : Bool} {m : Mem} {d : Nat} : ∀ (xs : List V), mapO (bor k m d) (xs.map .v) = some xs
  | [] => rfl
  | x :: xs => by simp [mapO, mapO_cells xs]
theorem cells_flat {α : Type} (v : α → V) : ∀ l : List α, (l.map fun a => cellsT (v a)).flatten = (l.flatMap fun a => (v a).cells).map T.v
  | [] => rfl
  | x :: xs => by simp only [List.map_cons, List.flatten_cons, cells_flat v xs, List.flatMap_cons, List.map_append]; rfl
theorem chunk_elems {α : Type} {v : α → V} {k : Nat} (hv : ElemOk v k) : ∀ l : List α, chunk k l.length (l.flatMap fun a => (v a).cells) = l.map v
  | [] => rfl
  | a :: l => by
    obtain ⟨h1, h2, h3⟩ := hv a
    simp only [List.length_cons, chunk, List.flatMap_cons, List.map_cons]
    rw [List.drop_append_of_le_length (by omega), List.drop_eq_nil_of_le (by omega), List.nil_append, chunk_elems hv l]
    congr 1
    by_cases hk : k = 1
    · rw [if_pos hk] at h3 ⊢; rw [h3]; rfl
    · rw [if_neg hk] at h3 ⊢
      rw [List.take_append_of_le_length (by omega), List.take_of_length_le (by omega), ← h3]
theorem bor_filled {α : Type} {v : α → V} {k : Nat} (hv : ElemOk v k) {m : Mem} {id e : Nat} {zs : List T} {l : List α} (d : Nat) (hm : m id = some (.box e k (filled v zs l l.length).flatten)) : bor true m (d + 1) (.sv id 0 l.length) = some (.sl (l.map v)) := by
  have hlen : (l.flatMap fun a => (v a).cells).length = l.length * k := by
    induction l with
    | nil => simp
    | cons a l ih => simp only [List.flatMap_cons, List.length_append, (hv a).1, List.length_cons, Nat.succ_mul]; rw [show (l.flatMap fun a => (v a).cells).length = l.length * k from ?_]; · omega
                     clear ih hm
                     induction l with
                     | nil => simp
                     | cons b l ih => simp only [List.flatMap_cons, List.length_append, (hv b).1, List.length_cons, Nat.succ_mul, ih]; omega
  unfold bor
  rw [hm]
  simp only [if_true, filled_end, cells_flat, List.length_map, hlen, Nat.zero_add, Nat.le_refl, tst_true, List.drop_zero]
  rw [List.take_of_length_le (by simp [hlen]), mapO_cells]
  simp only [obind_some]
  rw [tst_pos, chunk_elems hv]
  intro x hx
  obtain ⟨a, _, ha⟩ := List.mem_flatMap.1 hx
  exact (hv a).2.1 x ha
end TL

/- The functions by which the exact laws measure, turn and compare their arguments. -/
set_option linter.unusedSimpArgs false
set_option linter.unusedVariables false
set_option maxRecDepth 100000
set_option maxHeartbeats 4000000
set_option pp.maxSteps 1500
namespace TL
open Go Go.Proofs
attribute [local simp] marksV storyV codeV Claim.v Place.v
theorem elemOk_mark : ElemOk Mark.v 2 := fun a => ⟨rfl, by simp [Mark.v], by simp [Mark.v]⟩
theorem elemOk_claim : ElemOk Claim.v 2 := fun a => ⟨rfl, by simp, by simp⟩
theorem elemOk_place : ElemOk Place.v 2 := fun a => ⟨rfl, by simp, by simp⟩
theorem cellsT_mark (m : Mark) : cellsT m.v = [.v (.int .i64 m.kind), .v (.int .i64 m.num)] := rfl
theorem cellsT_claim (c : Claim) : cellsT c.v = [.v (.int .i64 c.who), .v (.sl (c.says.map Mark.v))] := rfl
theorem cellsT_place (p : Place) : cellsT p.v = [.v (.int .i64 p.people), .v (.sl (p.story.map Claim.v))] := rfl
/-- What is left of a measure. -/
def szR (left : Int) (n : Nat) : Int := if left - n < 0 then -1 else left - n
def Claim.small (c : Claim) : Prop := c.says.length ≤ 1048576
def Place.small (p : Place) : Prop := p.story.length ≤ 1048576 ∧ ∀ c ∈ p.story, c.small
theorem take_eq_succ {α : Type} {a b : List α} {i : Nat} (ha : i < a.length) (hb : i < b.length) (h : a.take i = b.take i) (he : a[i] = b[i]) : a.take (i + 1) = b.take (i + 1) := by
  rw [List.take_succ_eq_append_getElem ha, List.take_succ_eq_append_getElem hb, h, he]
def IeqMarkS (a b : List Mark) (e : Nat) (s : S) : Prop := ∃ i : Nat, s.tm 0 = .v (.sl (a.map Mark.v)) ∧ s.tm 1 = .v (.sl (b.map Mark.v)) ∧ s.tm 5 = .v (.int .i64 i) ∧ i ≤ a.length ∧ a.take i = b.take i ∧ (e = 1 → i = a.length)
def IeqClaimS (a b : List Claim) (e : Nat) (s : S) : Prop := ∃ i : Nat, s.tm 0 = .v (.sl (a.map Claim.v)) ∧ s.tm 1 = .v (.sl (b.map Claim.v)) ∧ s.tm 5 = .v (.int .i64 i) ∧ i ≤ a.length ∧ a.take i = b.take i ∧ (e = 1 → i = a.length)
end TL

/- Measures; the exact law of PlaceOk. -/
set_option linter.unusedSimpArgs false
set_option linter.unusedVariables false
set_option maxRecDepth 100000
set_option maxHeartbeats 4000000
set_option pp.maxSteps 1500
namespace TL
open Go Go.Proofs
attribute [local simp] marksV storyV codeV Claim.v Place.v
def mid (n : Nat) : Prop := n ≤ 9223372036854775807
def Claim.mid (c : Claim) : Prop := TL.mid c.says.length
def Place.mid (p : Place) : Prop := TL.mid p.story.length ∧ ∀ c ∈ p.story, c.mid
def saysSum (l : List Claim) : Nat := (l.map fun c => c.says.length).sum
theorem saysSum_take {l : List Claim} {i : Nat} (h : i < l.length) : saysSum (l.take (i + 1)) = saysSum (l.take i) + l[i].says.length := by
  unfold saysSum; rw [List.take_succ_eq_append_getElem h, List.map_append, List.sum_append]; rfl
theorem saysSum_le (l : List Claim) (i : Nat) : saysSum (l.take i) ≤ saysSum l := by
  have e : saysSum l = saysSum (l.take i ++ l.drop i) := by rw [List.take_append_drop]
  rw [e]; unfold saysSum; rw [List.map_append, List.sum_append]; omega
def SZC (l : List Claim) (left : Int) (e : Nat) (s : S) : Prop := ∃ i : Nat, s.tm 0 = .v (.sl (l.map Claim.v)) ∧ s.tm 1 = .v (.int .i64 (left - l.length - saysSum (l.take i))) ∧ s.tm 5 = .v (.int .i64 i) ∧ i ≤ l.length ∧ 0 ≤ left - l.length - saysSum (l.take i) ∧ (e = 1 → i = l.length)
def Place.bulk (p : Place) : Nat := p.story.length + saysSum p.story
theorem saysSum_mem {l : List Claim} {c : Claim} (h : c ∈ l) : c.says.length ≤ saysSum l := by
  induction l with
  | nil => cases h
  | cons y ys ih =>
    rcases List.mem_cons.1 h with rfl | h
    · simp [saysSum]
    · have := ih h; simp only [saysSum, List.map_cons, List.sum_cons] at this ⊢; omega
theorem Place.small_of {p : Place} (h : ¬ (1048576 : Int) - p.bulk < 0) : p.small := by
  unfold Place.bulk at h
  exact ⟨by omega, fun c hc => by have := saysSum_mem hc; unfold Claim.small; omega⟩
end TL

/- What the arguments of the exact laws are. -/
set_option linter.unusedVariables false
set_option linter.unusedSimpArgs false
namespace TL
open Go Go.Proofs
theorem fit_wf {n : Int} (h : (Lit.int .i64 n).wf = true) : fit n := by
  simp [Lit.wf, IntKind.min, IntKind.max, IntKind.signed, IntKind.bits] at h
  unfold fit; omega
theorem opens_int' (w : World) : Opens Try.prog w 3 fun vs => ∃ n : Int, fit n ∧ vs = [.int .i64 n] :=
  (opens_int Try.underlying3).mono fun vs h => by obtain ⟨n, rfl, hw⟩ := h; exact ⟨n, fit_wf hw, rfl⟩
theorem opens_code (w : World) : Opens Try.prog w 22 fun vs => ∃ bs : List UInt8, vs = [codeV bs] :=
  (opens_slice (α := UInt8) (v := fun b => V.int .u8 b.toNat) (Q := fun _ => True) Try.underlying22 (z := 1) (by kernel_rfl) (by omega) ((opens_int Try.underlying5).mono fun vs h => by
    obtain ⟨n, rfl, hw⟩ := h
    refine ⟨UInt8.ofNat n.toNat, trivial, .inr ⟨rfl, ?_⟩⟩
    have e : ((UInt8.ofNat n.toNat).toNat : Int) = n := by
      simp [Lit.wf, IntKind.min, IntKind.max, IntKind.signed, IntKind.bits] at hw
      rw [UInt8.toNat_ofNat']; omega
    rw [e])).mono fun vs h => by obtain ⟨l, rfl, _, _⟩ := h; exact ⟨l, rfl⟩
end TL
