/- The texts of terms: what the reference writes. -/
import Derived.Test.YtcoapdapigpfgaaDoorFnsQU
set_option linter.unusedSimpArgs false
set_option linter.unusedVariables false
set_option maxRecDepth 100000
set_option maxHeartbeats 4000000
set_option pp.maxSteps 1500
namespace TL
open Go Go.Proofs
attribute [local simp] marksV storyV codeV Claim.v Place.v
theorem l1Number_fn (n : Nat) (hn : n < 10) : FnZ Tryd.prog 54 [.int .i64 n] (.str [UInt8.ofNat (48 + n)]) := by
  have h1 : (n : Int) < 10 := by omega
  have h2 : max (n : Int) 0 = n := by omega
  have w1 : IntKind.wrap .i64 (48 + (n : Int)) = 48 + n := w64 (by omega) (by omega)
  have w2 : IntKind.wrap .u8 (48 + (n : Int)) = 48 + n := by rw [IntKind.wrap_u8]; omega
  have w3 : (48 + (n : Int)).toNat = 48 + n := by omega
  refine FnZ_of (rs := [.tmp 2]) false Tryd.func54 rfl rfl rfl rfl (Nat.le_of_ble_eq_true rfl) ?_
  simp -dsimp [h1, hn, h2, w1, w2, w3]
theorem l2Binds_fn (l pre : List Mark) (m : Mark) (hlast : l = pre ++ [m]) (h0 : 0 ≤ m.kind) (h5 : m.kind ≤ 5) (hl : l.length ≤ 1048576) : FnZ Tryd.prog 113 [marksV l] (.int .i64 (min (5 - m.kind) 3)) := by
  have hlen : l.length = pre.length + 1 := by rw [hlast]; simp
  have hget : l[pre.length]? = some m := by rw [hlast]; simp
  have w1 : IntKind.wrap .i64 ((l.length : Int) - 1) = (pre.length : Int) := by rw [w64 (by omega) (by omega)]; omega
  have w2 : IntKind.wrap .i64 (5 - m.kind) = 5 - m.kind := w64 (by omega) (by omega)
  generalize pre.length = n at *
  refine FnZ_of (rs := [.tmp 2]) false Tryd.func113 rfl rfl rfl rfl (Nat.le_of_ble_eq_true rfl) ?_
  simp -dsimp [w1, w2, hget]
theorem l2Held_fn (l : List Mark) (st : List UInt8) (pre : List Mark) (m : Mark) (b : Int) (q : Bool) (hq : decide (min (5 - m.kind) 3 < b) = q) (hlast : l = pre ++ [m]) (h0 : 0 ≤ m.kind) (h5 : m.kind ≤ 5) (h : FnZ Tryd.prog 88 [marksV l] (.str st)) (hs : st.length ≤ 1000000000) (hl : l.length ≤ 1048576) :
    FnZ Tryd.prog 111 [marksV l, .int .i64 b] (.str (par q st)) := by
  have b1 : (1 : Int) + st.length ≤ 9223372036854775807 := by omega
  have b2 : (st.length : Int) + 1 + 1 ≤ 9223372036854775807 := by omega
  have hb := l2Binds_fn l pre m hlast h0 h5 hl
  generalize min (5 - m.kind) 3 = x at *
  refine FnZ_of (rs := [.tmp 4]) false Tryd.func111 rfl rfl rfl rfl (Nat.le_of_ble_eq_true rfl) ?_
  simp -dsimp
  refine call_ hb (by simp -dsimp) ?_
  by_cases hx : x < b
  · rw [decide_eq_true hx] at hq
    subst hq
    simp -dsimp [hx]
    refine call_ h (by simp -dsimp) ?_
    simp -dsimp [b1, b2, par]
  · rw [decide_eq_false hx] at hq
    subst hq
    simp -dsimp [hx]
    refine call_ h (by simp -dsimp) ?_
    simp -dsimp [par]
theorem l2Held_tm (a : Tm) (ha : a.ok) (hl : a.marks.length ≤ 1048576) (ih : FnZ Tryd.prog 88 [marksV a.marks] (.str a.text)) (b : Int) (q : Bool) (hq : decide (min (5 - (a.kind : Int)) 3 < b) = q) :
    FnZ Tryd.prog 111 [marksV a.marks, .int .i64 b] (.str (par q a.text)) := by
  obtain ⟨pre, m, h1, h2⟩ := a.last
  have := a.text_len
  have := a.kind_le ha
  exact l2Held_fn a.marks a.text pre m b q (by rw [h2]; exact hq) h1 (by omega) (by omega) ih (by omega) hl
theorem l2Text_fn : ∀ T : Tm, T.ok → T.marks.length ≤ 1048576 → FnZ Tryd.prog 88 [marksV T.marks] (.str T.text)
  | .tells i, hok, hl => by
    have hi : i = 0 ∨ i = 1 ∨ i = 2 ∨ i = 3 := by have : i < 4 := hok; omega
    have w4 : IntKind.wrap .i64 0 = 0 := rfl
    rcases hi with rfl | rfl | rfl | rfl
    all_goals
      refine FnZ_of (rs := [.tmp 2]) false Tryd.func88 rfl rfl rfl rfl (Nat.le_of_ble_eq_true rfl) ?_
      simp -dsimp [Tm.marks, Mark.v, w4, Tm.text]
      refine twp_draw (List.range 13) [] (List.replicate 13 []) (List.replicate 13 []) (by kernel_rfl) (by kernel_rfl) (by kernel_rfl) (by kernel_rfl) ?_
      simp -dsimp [List.range_succ, Tm.marks, Mark.v, w4, Tm.text, show IntKind.wrap .i64 1 = 1 from rfl, show IntKind.wrap .i64 2 = 2 from rfl, show IntKind.wrap .i64 3 = 3 from rfl, show IntKind.wrap .i64 4 = 4 from rfl]
  | .count i, hok, hl => by
    have hi : i < 6 := hok
    have w4 : IntKind.wrap .i64 0 = 0 := rfl
    refine FnZ_of (rs := [.tmp 2]) false Tryd.func88 rfl rfl rfl rfl (Nat.le_of_ble_eq_true rfl) ?_
    simp -dsimp [Tm.marks, Mark.v, w4, Tm.text]
    refine call_ (l1Number_fn i (by omega)) (by simp -dsimp) ?_
    simp -dsimp [Tm.text]
  | .not a, hok, hl => by
    have hla : a.marks.length ≤ 1048576 := by simp [Tm.marks] at hl; omega
    have ih := l2Text_fn a hok hla
    have hka := a.kind_le hok
    have htl := a.text_len
    have hpl := par_len (decide (3 ≤ a.kind)) a.text
    have hh := l2Held_tm a hok hla ih 3 (decide (3 ≤ a.kind)) (by rw [Bool.eq_iff_iff]; simp; omega)
    have e0 : (Tm.not a).marks = a.marks ++ [⟨2, 0⟩] := rfl
    have hlen : (Tm.not a).marks.length = a.marks.length + 1 := by rw [e0]; simp
    have hget : (Tm.not a).marks[a.marks.length]? = some ⟨2, 0⟩ := by rw [e0]; simp
    have htake : List.take a.marks.length (List.map Mark.v (Tm.not a).marks) = List.map Mark.v a.marks := by rw [e0]; simp
    have w1 : IntKind.wrap .i64 (((Tm.not a).marks.length : Int) - 1) = (a.marks.length : Int) := by rw [w64 (by omega) (by omega)]; omega
    have hle : a.marks.length ≤ (Tm.not a).marks.length := by omega
    have b1 : (1 : Int) + (par (decide (3 ≤ a.kind)) a.text).length ≤ 9223372036854775807 := by omega
    have et : (Tm.not a).text = 33 :: par (decide (3 ≤ a.kind)) a.text := rfl
    rw [et]
    generalize (Tm.not a).marks = l at *
    generalize par (decide (3 ≤ a.kind)) a.text = s at *
    refine FnZ_of (rs := [.tmp 2]) false Tryd.func88 rfl rfl rfl rfl (Nat.le_of_ble_eq_true rfl) ?_
    simp -dsimp [w1, hget, htake, hle]
    refine call_ hh (by simp -dsimp) ?_
    simp -dsimp [b1]
  | .bin k a b, hok, hl => by
    obtain ⟨hk, hoa, hob⟩ := hok
    have hlab : a.marks.length + b.marks.length ≤ 1048575 := by simp [Tm.marks] at hl; omega
    have iha := l2Text_fn a hoa (by omega)
    have ihb := l2Text_fn b hob (by omega)
    have hka := a.kind_le hoa
    have hkb := b.kind_le hob
    have hta := a.text_len
    have htb := b.text_len
    have hpa := par_len (decide (3 + k < a.kind)) a.text
    have hpb := par_len (decide (3 + k ≤ b.kind)) b.text
    have hlp := l2Starts_fn a.marks [⟨3 + k, 0⟩] b hob (by simp; omega)
    have hbd := l2Binds_fn (Tm.bin k a b).marks (a.marks ++ b.marks) ⟨3 + k, 0⟩ rfl (by simp; omega) (by simp; omega) hl
    have e0 : (Tm.bin k a b).marks = a.marks ++ b.marks ++ [⟨3 + k, 0⟩] := rfl
    have hlen : (Tm.bin k a b).marks.length = a.marks.length + b.marks.length + 1 := by rw [e0]; simp; omega
    have hget : (Tm.bin k a b).marks[a.marks.length + b.marks.length]? = some ⟨3 + k, 0⟩ := by
      rw [e0, List.getElem?_append_right (by simp)]; simp
    have htake : List.take (a.marks.length + b.marks.length) (List.map Mark.v (Tm.bin k a b).marks) = List.map Mark.v (a.marks ++ b.marks) := by
      rw [e0, List.map_append, List.take_left' (by simp)]
    have htake2 : List.take a.marks.length (List.map Mark.v (Tm.bin k a b).marks) = List.map Mark.v a.marks := by
      rw [e0, List.append_assoc, List.map_append, List.take_left' (by simp)]
    have hdrop : List.drop a.marks.length (List.map Mark.v (a.marks ++ b.marks)) = List.map Mark.v b.marks := by
      rw [List.map_append, List.drop_left' (by simp)]
    have et : (Tm.bin k a b).text = par (decide (3 + k < a.kind)) a.text ++ sign k :: par (decide (3 + k ≤ b.kind)) b.text := rfl
    have hha := l2Held_tm a hoa (by omega) iha
    have hhb := l2Held_tm b hob (by omega) ihb
    rw [et]
    obtain ⟨n, hn⟩ : ∃ n, n = a.marks.length + b.marks.length := ⟨_, rfl⟩
    rw [← hn] at hlen hget htake
    have hc1 : a.marks.length ≤ n := by omega
    have hle : n ≤ (Tm.bin k a b).marks.length := by omega
    have w1 : IntKind.wrap .i64 (((Tm.bin k a b).marks.length : Int) - 1) = (n : Int) := by rw [w64 (by omega) (by omega)]; omega
    have wE : IntKind.wrap .i64 ((n : Int) - 1) = (a.marks.length : Int) + b.marks.length - 1 := by rw [w64 (by omega) (by omega)]; omega
    rw [← e0] at hlp
    have hkk : k = 0 ∨ k = 1 ∨ k = 2 := by omega
    generalize hL : (Tm.bin k a b).marks = l at *
    generalize hM : a.marks ++ b.marks = M at *
    clear e0 hL hM et
    rcases hkk with hkk | hkk | hkk
    · subst hkk
      have h1 := hha (2 - 0) (decide (3 + 0 < a.kind)) (by rw [Bool.eq_iff_iff]; simp; omega)
      have h2 := hhb (3 - 0) (decide (3 + 0 ≤ b.kind)) (by rw [Bool.eq_iff_iff]; simp; omega)
      have hbd : FnZ Tryd.prog 113 [marksV l] (.int .i64 2) := hbd
      generalize par (decide (3 + 0 < a.kind)) a.text = s1 at *
      generalize par (decide (3 + 0 ≤ b.kind)) b.text = s2 at *
      have c1 : (s1.length : Int) + 1 ≤ 9223372036854775807 := by omega
      have c2 : (s1.length : Int) + 1 + s2.length ≤ 9223372036854775807 := by omega
      have c3 : (s1.length : Int) + (1 + s2.length) ≤ 9223372036854775807 := by omega
      refine FnZ_of (rs := [.tmp 2]) false Tryd.func88 rfl rfl rfl rfl (Nat.le_of_ble_eq_true rfl) ?_
      simp -dsimp [w1, hget, htake, hle, Mark.v, wE]
      refine call_ hlp (by simp -dsimp) ?_
      simp -dsimp
      refine call_ hbd (by simp -dsimp) ?_
      simp -dsimp
      refine twp_draw [0, 1, 2, 3, 5, 6, 7, 8, 9, 11, 12, 13, 14, 15, 16, 4, 10, 17, 18, 19] [] (List.replicate 20 []) (List.replicate 20 []) (by kernel_rfl) (by kernel_rfl) (by kernel_rfl) (by kernel_rfl) ?_
      simp -dsimp [List.range_succ, htake, htake2, hdrop, hle, hc1, show a.marks.length ≤ l.length by omega, show IntKind.wrap .i64 0 = 0 from rfl, show IntKind.wrap .i64 1 = 1 from rfl, show IntKind.wrap .i64 2 = 2 from rfl, show IntKind.wrap .i64 3 = 3 from rfl]
      refine call_ h1 (by simp -dsimp) ?_
      simp -dsimp [c1]
      refine call_ h2 (by simp -dsimp) ?_
      simp -dsimp [c1, c2, c3, sign]
    · subst hkk
      have h1 := hha (2 - 1) (decide (3 + 1 < a.kind)) (by rw [Bool.eq_iff_iff]; simp; omega)
      have h2 := hhb (3 - 1) (decide (3 + 1 ≤ b.kind)) (by rw [Bool.eq_iff_iff]; simp; omega)
      have hbd : FnZ Tryd.prog 113 [marksV l] (.int .i64 1) := hbd
      generalize par (decide (3 + 1 < a.kind)) a.text = s1 at *
      generalize par (decide (3 + 1 ≤ b.kind)) b.text = s2 at *
      have c1 : (s1.length : Int) + 1 ≤ 9223372036854775807 := by omega
      have c2 : (s1.length : Int) + 1 + s2.length ≤ 9223372036854775807 := by omega
      have c3 : (s1.length : Int) + (1 + s2.length) ≤ 9223372036854775807 := by omega
      refine FnZ_of (rs := [.tmp 2]) false Tryd.func88 rfl rfl rfl rfl (Nat.le_of_ble_eq_true rfl) ?_
      simp -dsimp [w1, hget, htake, hle, Mark.v, wE]
      refine call_ hlp (by simp -dsimp) ?_
      simp -dsimp
      refine call_ hbd (by simp -dsimp) ?_
      simp -dsimp
      refine twp_draw [0, 1, 2, 3, 5, 6, 7, 8, 9, 11, 12, 13, 14, 15, 16, 4, 10, 17, 18, 19] [] (List.replicate 20 []) (List.replicate 20 []) (by kernel_rfl) (by kernel_rfl) (by kernel_rfl) (by kernel_rfl) ?_
      simp -dsimp [List.range_succ, htake, htake2, hdrop, hle, hc1, show a.marks.length ≤ l.length by omega, show IntKind.wrap .i64 0 = 0 from rfl, show IntKind.wrap .i64 1 = 1 from rfl, show IntKind.wrap .i64 2 = 2 from rfl, show IntKind.wrap .i64 3 = 3 from rfl]
      refine call_ h1 (by simp -dsimp) ?_
      simp -dsimp [c1]
      refine call_ h2 (by simp -dsimp) ?_
      simp -dsimp [c1, c2, c3, sign]
    · subst hkk
      have h1 := hha (2 - 2) (decide (3 + 2 < a.kind)) (by rw [Bool.eq_iff_iff]; simp; omega)
      have h2 := hhb (3 - 2) (decide (3 + 2 ≤ b.kind)) (by rw [Bool.eq_iff_iff]; simp; omega)
      have hbd : FnZ Tryd.prog 113 [marksV l] (.int .i64 0) := hbd
      generalize par (decide (3 + 2 < a.kind)) a.text = s1 at *
      generalize par (decide (3 + 2 ≤ b.kind)) b.text = s2 at *
      have c1 : (s1.length : Int) + 1 ≤ 9223372036854775807 := by omega
      have c2 : (s1.length : Int) + 1 + s2.length ≤ 9223372036854775807 := by omega
      have c3 : (s1.length : Int) + (1 + s2.length) ≤ 9223372036854775807 := by omega
      refine FnZ_of (rs := [.tmp 2]) false Tryd.func88 rfl rfl rfl rfl (Nat.le_of_ble_eq_true rfl) ?_
      simp -dsimp [w1, hget, htake, hle, Mark.v, wE]
      refine call_ hlp (by simp -dsimp) ?_
      simp -dsimp
      refine call_ hbd (by simp -dsimp) ?_
      simp -dsimp
      refine twp_draw [0, 1, 2, 3, 5, 6, 7, 8, 9, 11, 12, 13, 14, 15, 16, 4, 10, 17, 18, 19] [] (List.replicate 20 []) (List.replicate 20 []) (by kernel_rfl) (by kernel_rfl) (by kernel_rfl) (by kernel_rfl) ?_
      simp -dsimp [List.range_succ, htake, htake2, hdrop, hle, hc1, show a.marks.length ≤ l.length by omega, show IntKind.wrap .i64 0 = 0 from rfl, show IntKind.wrap .i64 1 = 1 from rfl, show IntKind.wrap .i64 2 = 2 from rfl, show IntKind.wrap .i64 3 = 3 from rfl]
      refine call_ h1 (by simp -dsimp) ?_
      simp -dsimp [c1]
      refine call_ h2 (by simp -dsimp) ?_
      simp -dsimp [c1, c2, c3, sign]
end TL
