/- The texts of terms and claims: what the program writes. -/
import Derived.Test.YtcoapdapigpfgaaDoorFnsQT
set_option linter.unusedSimpArgs false
set_option linter.unusedVariables false
set_option maxRecDepth 100000
set_option maxHeartbeats 4000000
set_option pp.maxSteps 1500
namespace TL
open Go Go.Proofs
attribute [local simp] marksV storyV codeV Claim.v Place.v
theorem Tm.kind_le : ∀ T : Tm, T.ok → T.kind ≤ 5
  | .tells _, _ => by simp [kind]
  | .count _, _ => by simp [kind]
  | .not _, _ => by simp [kind]
  | .bin k a b, h => by have := h.1; simp [kind]; omega
theorem held_tm (a : Tm) (ha : a.ok) (hl : a.marks.length ≤ 1048576) (ih : FnZ Tryd.prog 91 [marksV a.marks] (.str a.text)) (ks : List Int) (hks : ks.length ≤ 10) (q : Bool) (hq : decide ((a.kind : Int) ∈ ks) = q) :
    FnZ Tryd.prog 116 [marksV a.marks, .sl (ks.map (V.int .i64))] (.str (par q a.text)) := by
  obtain ⟨pre, m, h1, h2⟩ := a.last
  have := a.text_len
  have h := held_fn a.marks a.text pre m ks h1 ih (by omega) hl hks
  rw [h2, hq] at h
  exact h
theorem textOf_fn : ∀ T : Tm, T.ok → T.marks.length ≤ 1048576 → FnZ Tryd.prog 91 [marksV T.marks] (.str T.text)
  | .tells i, hok, hl => by
    have hi : i < 4 := hok
    have w1 : IntKind.wrap .i64 (97 + (i : Int)) = 97 + i := w64 (by omega) (by omega)
    have w2 : IntKind.wrap .u8 (97 + (i : Int)) = 97 + i := by rw [IntKind.wrap_u8]; omega
    have w3 : (97 + (i : Int)).toNat = 97 + i := by omega
    have w4 : IntKind.wrap .i64 0 = 0 := rfl
    refine FnZ_of (rs := [.tmp 2]) false Tryd.func91 rfl rfl rfl rfl (Nat.le_of_ble_eq_true rfl) ?_
    simp -dsimp [Tm.marks, Mark.v, w1, w2, w3, w4, Tm.text]
  | .count i, hok, hl => by
    have hi : i < 6 := hok
    have w1 : IntKind.wrap .i64 (48 + (i : Int)) = 48 + i := w64 (by omega) (by omega)
    have w2 : IntKind.wrap .u8 (48 + (i : Int)) = 48 + i := by rw [IntKind.wrap_u8]; omega
    have w3 : (48 + (i : Int)).toNat = 48 + i := by omega
    have w4 : IntKind.wrap .i64 0 = 0 := rfl
    refine FnZ_of (rs := [.tmp 2]) false Tryd.func91 rfl rfl rfl rfl (Nat.le_of_ble_eq_true rfl) ?_
    simp -dsimp [Tm.marks, Mark.v, w1, w2, w3, w4, Tm.text]
  | .not a, hok, hl => by
    have hla : a.marks.length ≤ 1048576 := by simp [Tm.marks] at hl; omega
    have ih := textOf_fn a hok hla
    have hka := a.kind_le hok
    have htl := a.text_len
    have hpl := par_len (decide (3 ≤ a.kind)) a.text
    have hh := held_tm a hok hla ih [3, 4, 5] (by simp) (decide (3 ≤ a.kind)) (by rw [Bool.eq_iff_iff]; simp; omega)
    have e0 : (Tm.not a).marks = a.marks ++ [⟨2, 0⟩] := rfl
    have hlen : (Tm.not a).marks.length = a.marks.length + 1 := by rw [e0]; simp
    have hget : (Tm.not a).marks[a.marks.length]? = some ⟨2, 0⟩ := by rw [e0]; simp
    have htake : List.take a.marks.length (List.map Mark.v (Tm.not a).marks) = List.map Mark.v a.marks := by rw [e0]; simp
    have w1 : IntKind.wrap .i64 (((Tm.not a).marks.length : Int) - 1) = (a.marks.length : Int) := by rw [w64 (by omega) (by omega)]; omega
    have hle : a.marks.length ≤ (Tm.not a).marks.length := by omega
    have b1 : (1 : Int) + (par (decide (3 ≤ a.kind)) a.text).length ≤ 9223372036854775807 := by omega
    have et : (Tm.not a).text = 33 :: par (decide (3 ≤ a.kind)) a.text := rfl
    rw [et]
    generalize (Tm.not a).marks = l at *
    generalize par (decide (3 ≤ a.kind)) a.text = s at *
    refine FnZ_of (rs := [.tmp 2]) false Tryd.func91 rfl rfl rfl rfl (Nat.le_of_ble_eq_true rfl) ?_
    simp -dsimp [w1, hget, htake, hle]
    refine call_ hh (by simp -dsimp) ?_
    simp -dsimp [b1]
  | .bin k a b, hok, hl => by
    obtain ⟨hk, hoa, hob⟩ := hok
    have hlab : a.marks.length + b.marks.length ≤ 1048575 := by simp [Tm.marks] at hl; omega
    have iha := textOf_fn a hoa (by omega)
    have ihb := textOf_fn b hob (by omega)
    have hka := a.kind_le hoa
    have hkb := b.kind_le hob
    have hta := a.text_len
    have htb := b.text_len
    have hpa := par_len (decide (3 + k < a.kind)) a.text
    have hpb := par_len (decide (3 + k ≤ b.kind)) b.text
    have hlp := lastPart_fn a.marks b hob (by simp; omega)
    have e0 : (Tm.bin k a b).marks = a.marks ++ b.marks ++ [⟨3 + k, 0⟩] := rfl
    have hlen : (Tm.bin k a b).marks.length = a.marks.length + b.marks.length + 1 := by rw [e0]; simp; omega
    have hget : (Tm.bin k a b).marks[a.marks.length + b.marks.length]? = some ⟨3 + k, 0⟩ := by
      rw [e0, List.getElem?_append_right (by simp)]; simp
    have htake : List.take (a.marks.length + b.marks.length) (List.map Mark.v (Tm.bin k a b).marks) = List.map Mark.v (a.marks ++ b.marks) := by
      rw [e0, List.map_append, List.take_left' (by simp)]
    have htake2 : List.take a.marks.length (List.map Mark.v (Tm.bin k a b).marks) = List.map Mark.v a.marks := by
      rw [e0, List.append_assoc, List.map_append, List.take_left' (by simp)]
    have hdrop : List.drop a.marks.length (List.map Mark.v (a.marks ++ b.marks)) = List.map Mark.v b.marks := by
      rw [List.map_append, List.drop_left' (by simp)]
    have et : (Tm.bin k a b).text = par (decide (3 + k < a.kind)) a.text ++ sign k :: par (decide (3 + k ≤ b.kind)) b.text := rfl
    have hha := held_tm a hoa (by omega) iha
    have hhb := held_tm b hob (by omega) ihb
    rw [et]
    obtain ⟨n, hn⟩ : ∃ n, n = a.marks.length + b.marks.length := ⟨_, rfl⟩
    rw [← hn] at hlen hget htake
    have hc1 : a.marks.length ≤ n := by omega
    have hle : n ≤ (Tm.bin k a b).marks.length := by omega
    have w1 : IntKind.wrap .i64 (((Tm.bin k a b).marks.length : Int) - 1) = (n : Int) := by rw [w64 (by omega) (by omega)]; omega
    have hkk : k = 0 ∨ k = 1 ∨ k = 2 := by omega
    generalize hL : (Tm.bin k a b).marks = l at *
    generalize hM : a.marks ++ b.marks = M at *
    clear e0 hL hM et
    rcases hkk with hkk | hkk | hkk
    · subst hkk
      have h1 := hha [4, 5] (by simp) (decide (3 + 0 < a.kind)) (by rw [Bool.eq_iff_iff]; simp; omega)
      have h2 := hhb [3, 4, 5] (by simp) (decide (3 + 0 ≤ b.kind)) (by rw [Bool.eq_iff_iff]; simp; omega)
      generalize par (decide (3 + 0 < a.kind)) a.text = s1 at *
      generalize par (decide (3 + 0 ≤ b.kind)) b.text = s2 at *
      have c1 : (s1.length : Int) + 1 ≤ 9223372036854775807 := by omega
      have c2 : (s1.length : Int) + 1 + s2.length ≤ 9223372036854775807 := by omega
      have c3 : (s1.length : Int) + (1 + s2.length) ≤ 9223372036854775807 := by omega
      refine FnZ_of (rs := [.tmp 2]) false Tryd.func91 rfl rfl rfl rfl (Nat.le_of_ble_eq_true rfl) ?_
      simp -dsimp [w1, hget, htake, hle, Mark.v]
      refine call_ hlp (by simp -dsimp) ?_
      simp -dsimp
      refine twp_draw (List.range 9) [] (List.replicate 9 []) (List.replicate 9 []) (by kernel_rfl) (by kernel_rfl) (by kernel_rfl) (by kernel_rfl) ?_
      simp -dsimp [List.range_succ, htake, htake2, hdrop, hle, hc1, show a.marks.length ≤ l.length by omega]
      refine call_ h1 (by simp -dsimp) ?_
      simp -dsimp [c1]
      refine call_ h2 (by simp -dsimp) ?_
      simp -dsimp [c1, c2, c3, sign]
    · subst hkk
      have h1 := hha [5] (by simp) (decide (3 + 1 < a.kind)) (by rw [Bool.eq_iff_iff]; simp; omega)
      have h2 := hhb [4, 5] (by simp) (decide (3 + 1 ≤ b.kind)) (by rw [Bool.eq_iff_iff]; simp; omega)
      generalize par (decide (3 + 1 < a.kind)) a.text = s1 at *
      generalize par (decide (3 + 1 ≤ b.kind)) b.text = s2 at *
      have c1 : (s1.length : Int) + 1 ≤ 9223372036854775807 := by omega
      have c2 : (s1.length : Int) + 1 + s2.length ≤ 9223372036854775807 := by omega
      have c3 : (s1.length : Int) + (1 + s2.length) ≤ 9223372036854775807 := by omega
      refine FnZ_of (rs := [.tmp 2]) false Tryd.func91 rfl rfl rfl rfl (Nat.le_of_ble_eq_true rfl) ?_
      simp -dsimp [w1, hget, htake, hle, Mark.v]
      refine call_ hlp (by simp -dsimp) ?_
      simp -dsimp
      refine twp_draw (List.range 9) [] (List.replicate 9 []) (List.replicate 9 []) (by kernel_rfl) (by kernel_rfl) (by kernel_rfl) (by kernel_rfl) ?_
      simp -dsimp [List.range_succ, htake, htake2, hdrop, hle, hc1, show a.marks.length ≤ l.length by omega]
      refine call_ h1 (by simp -dsimp) ?_
      simp -dsimp [c1]
      refine call_ h2 (by simp -dsimp) ?_
      simp -dsimp [c1, c2, c3, sign]
    · subst hkk
      have h1 := iha
      have e5 : par (decide (3 + 2 < a.kind)) a.text = a.text := by rw [decide_eq_false (by omega)]; rfl
      rw [e5]
      have h2 := hhb [5] (by simp) (decide (3 + 2 ≤ b.kind)) (by rw [Bool.eq_iff_iff]; simp; omega)
      generalize a.text = s1 at *
      generalize par (decide (3 + 2 ≤ b.kind)) b.text = s2 at *
      have c1 : (s1.length : Int) + 1 ≤ 9223372036854775807 := by omega
      have c2 : (s1.length : Int) + 1 + s2.length ≤ 9223372036854775807 := by omega
      have c3 : (s1.length : Int) + (1 + s2.length) ≤ 9223372036854775807 := by omega
      refine FnZ_of (rs := [.tmp 2]) false Tryd.func91 rfl rfl rfl rfl (Nat.le_of_ble_eq_true rfl) ?_
      simp -dsimp [w1, hget, htake, hle, Mark.v]
      refine call_ hlp (by simp -dsimp) ?_
      simp -dsimp
      refine twp_draw (List.range 9) [] (List.replicate 9 []) (List.replicate 9 []) (by kernel_rfl) (by kernel_rfl) (by kernel_rfl) (by kernel_rfl) ?_
      simp -dsimp [List.range_succ, htake, htake2, hdrop, hle, hc1, show a.marks.length ≤ l.length by omega]
      refine call_ h1 (by simp -dsimp) ?_
      simp -dsimp [c1]
      refine call_ h2 (by simp -dsimp) ?_
      simp -dsimp [c1, c2, c3, sign]
end TL
