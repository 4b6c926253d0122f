/- TL: parts FnsQE14, FnsQL3, FnsQE15a, FnsQE15b, FnsQE15, FnsQE16, FnsQE17, FnsQE18, FnsQE19. -/
import Derived.Test.YtcoapdapigpfgaaDoorFnsQGE
import Derived.Test.YtcoapdapigpfgaaDoorFnsQE2
import Derived.Lib.ItoaNum
import Derived.Lib.AtoiAll
import Derived.Test.YtcoapdapigpfgaaDoorShelfC
import Derived.Shelf.Strings.Cut
import Derived.Shelf.Strconv.AtoiAll
import Derived.Lib.SmallJoins
import Derived.WalkSmall
import Derived.Test.YtcoapdapigpfgaaDoorFnsQGC
import Derived.Test.YtcoapdapigpfgaaDoorFnsQGR
import Derived.Test.YtcoapdapigpfgaaDoorFnsQ10
/- Deeds read: the plain part. -/
set_option linter.unusedSimpArgs false
set_option linter.unusedVariables false
set_option maxRecDepth 100000
namespace TL
open Go Go.Proofs
/-! Small numbers in figures. -/
open Go.Lib in
def atoiV (s : List UInt8) : Int := match atoiAll s with
  | .ok v => v
  | .range => atoiSat s
  | _ => 0
def goodDec (n : Nat) (l : List UInt8) : Bool := decide (digS l = (n : Int)) && decide (Go.Lib.atoiAll l = .ok (n : Int)) && l.all fun y => decide (y ≠ 32) && decide (y ≠ 10)
theorem good_one : ∀ n : Fin 10, goodDec n.val [UInt8.ofNat (48 + n.val)] = true := by decide +kernel
theorem good_two : ∀ n : Fin 100, ¬ n.val < 10 → goodDec n.val [UInt8.ofNat (48 + n.val / 10), UInt8.ofNat (48 + n.val % 10)] = true := by decide +kernel
theorem good_dec {n : Int} (h0 : 0 ≤ n) (h : n ≤ 99) : digS (dec n) = n ∧ Go.Lib.atoiAll (dec n) = .ok n ∧ ∀ y ∈ dec n, y ≠ 32 ∧ y ≠ 10 := by
  have e : ((n.toNat : Nat) : Int) = n := by omega
  have hg : goodDec n.toNat (dec n) = true := by
    unfold dec
    by_cases h1 : n.toNat < 10
    · rw [Go.Lib.decDigits_one h1]; exact good_one ⟨n.toNat, h1⟩
    · rw [Go.Lib.decDigits_two h1 (by omega)]; exact good_two ⟨n.toNat, by omega⟩ h1
  simp only [goodDec, Bool.and_eq_true, decide_eq_true_eq, List.all_eq_true, e] at hg
  exact ⟨hg.1.1, hg.1.2, hg.2⟩
theorem atoiV_dec {n : Int} (h0 : 0 ≤ n) (h : n ≤ 99) : atoiV (dec n) = n := by
  unfold atoiV; rw [(good_dec h0 h).2.1]
theorem dec_inj {a b : Int} (ha : 0 ≤ a) (ha9 : a ≤ 99) (hb : 0 ≤ b) (hb9 : b ≤ 99) (h : dec a = dec b) : a = b := by
  rw [← atoiV_dec ha ha9, ← atoiV_dec hb hb9, h]
/-! What deeds have a text. -/
theorem deed_cases {a : Deed} (h : deedTx a ≠ []) :
    (∃ w, a = ⟨0, 0, w⟩ ∧ (∃ c, readC 4 w = some c) ∧ deedTx a = txSay ++ w) ∨ (∃ n, 0 ≤ n ∧ n ≤ 99 ∧ a = ⟨1, n, []⟩ ∧ deedTx a = txDrop ++ dec n) ∨ (∃ n, 0 ≤ n ∧ n ≤ 99 ∧ a = ⟨2, n, []⟩ ∧ deedTx a = txPeople ++ dec n) ∨
    (a = ⟨3, 0, []⟩ ∧ deedTx a = txLeast) ∨ (a = ⟨4, 0, []⟩ ∧ deedTx a = txBack) := by
  obtain ⟨k, n, w⟩ := a
  unfold deedTx at h ⊢
  simp only at h ⊢
  split at h
  · rename_i h1
    obtain ⟨rfl, rfl, h3⟩ := h1
    refine .inl ⟨w, rfl, ?_, by rw [if_pos ⟨rfl, rfl, h3⟩]⟩
    cases e : readC 4 w with
    | none => rw [e] at h3; cases h3
    | some c => exact ⟨c, rfl⟩
  rename_i h1
  rw [if_neg h1]
  split at h
  · exact absurd rfl h
  rename_i h2
  rw [if_neg h2]
  have hw : w = [] := by
    cases w with
    | nil => rfl
    | cons x w => exact absurd (.inl (by simp)) h2
  have h0 : 0 ≤ n := by
    rcases Int.lt_or_le n 0 with h | h
    · exact absurd (.inr (.inl h)) h2
    · exact h
  have h9 : n ≤ 99 := by
    rcases Int.lt_or_le 99 n with h | h
    · exact absurd (.inr (.inr h)) h2
    · exact h
  subst hw
  split at h
  · rename_i h3; subst h3; exact .inr (.inl ⟨n, h0, h9, rfl, if_pos rfl⟩)
  rename_i h3
  split at h
  · rename_i h4; subst h4; exact .inr (.inr (.inl ⟨n, h0, h9, rfl, by rw [if_neg h3, if_pos rfl]⟩))
  rename_i h4
  split at h
  · rename_i h5; obtain ⟨rfl, rfl⟩ := h5; exact .inr (.inr (.inr (.inl ⟨rfl, by rw [if_neg h3, if_neg h4, if_pos ⟨rfl, rfl⟩]⟩)))
  rename_i h5
  split at h
  · rename_i h6; obtain ⟨rfl, rfl⟩ := h6; exact .inr (.inr (.inr (.inr ⟨rfl, by rw [if_neg h3, if_neg h4, if_neg h5, if_pos ⟨rfl, rfl⟩]⟩)))
  · exact absurd rfl h
theorem readC_clean {people : Int} {w : List UInt8} {c : Claim} (h : readC people w = some c) : ∀ y ∈ w, y ≠ 32 ∧ y ≠ 10 := by
  obtain ⟨h1, h2⟩ := readC_is h
  intro y hy
  rw [← h2] at hy
  have := claimTx_clean h1 y hy
  exact ⟨this.2.1, this.2.2.1⟩
/-! A text's first word, and what stands behind it. -/
theorem cut_clean {c : UInt8} {s : List UInt8} (h : ∀ y ∈ s, y ≠ c) : Go.Lib.cut s [c] = (s, [], false) := by
  unfold Go.Lib.cut; rw [index_clean h]; rfl
theorem cut_at {c : UInt8} {x r : List UInt8} (h : ∀ y ∈ x, y ≠ c) : Go.Lib.cut (x ++ c :: r) [c] = (x, r, true) := by
  unfold Go.Lib.cut
  rw [index_at h, if_pos (by omega)]
  have e1 : ((x.length : Nat) : Int).toNat = x.length := by omega
  rw [e1, List.take_left]
  congr 2
  rw [List.drop_append, List.drop_of_length_le (by simp)]; simp
def deedW (w r : List UInt8) : Option Deed :=
  if w = [115, 97, 121] then some ⟨0, 0, r⟩ else if w = [100, 114, 111, 112] then some ⟨1, atoiV r, []⟩ else if w = [112, 101, 111, 112, 108, 101] then some ⟨2, atoiV r, []⟩
  else if w = [108, 101, 97, 115, 116] then some ⟨3, 0, []⟩ else if w = [98, 97, 99, 107] then some ⟨4, 0, []⟩ else none
def deedI (s : List UInt8) : Option Deed := deedW (Go.Lib.cut s [32]).1 (Go.Lib.cut s [32]).2.1
theorem deedI_of {a : Deed} (h : deedTx a ≠ []) : deedI (deedTx a) = some a := by
  unfold deedI
  rcases deed_cases h with ⟨w, rfl, ⟨c, hc⟩, e⟩ | ⟨n, h0, h9, rfl, e⟩ | ⟨n, h0, h9, rfl, e⟩ | ⟨rfl, e⟩ | ⟨rfl, e⟩
  · have := cut_at (c := 32) (x := [115, 97, 121]) (r := w) (by decide)
    rw [e]
    show deedW (Go.Lib.cut ([115, 97, 121] ++ 32 :: w) [32]).1 _ = _
    have e2 : txSay ++ w = [115, 97, 121] ++ 32 :: w := rfl
    rw [e2, this]; rfl
  · have := cut_at (c := 32) (x := [100, 114, 111, 112]) (r := dec n) (by decide)
    have e2 : txDrop ++ dec n = [100, 114, 111, 112] ++ 32 :: dec n := rfl
    rw [e, e2, this]
    show some (⟨1, atoiV (dec n), []⟩ : Deed) = _
    rw [atoiV_dec h0 h9]
  · have := cut_at (c := 32) (x := [112, 101, 111, 112, 108, 101]) (r := dec n) (by decide)
    have e2 : txPeople ++ dec n = [112, 101, 111, 112, 108, 101] ++ 32 :: dec n := rfl
    rw [e, e2, this]
    show some (⟨2, atoiV (dec n), []⟩ : Deed) = _
    rw [atoiV_dec h0 h9]
  · rw [e, cut_clean (by decide)]; rfl
  · rw [e, cut_clean (by decide)]; rfl
theorem deedTx_inj {a b : Deed} (h : deedTx a ≠ []) (e : deedTx a = deedTx b) : a = b := by
  have h1 := deedI_of h
  rw [e, deedI_of (by rw [← e]; exact h)] at h1
  exact (Option.some.inj h1).symm
/-- What ReadDeed finds. -/
noncomputable def readD (s : List UInt8) : Option Deed := by
  classical exact if h : ∃ a, s ≠ [] ∧ deedTx a = s then some (Classical.choose h) else none
theorem readD_some {s : List UInt8} {a : Deed} (h : s ≠ []) (e : deedTx a = s) : readD s = some a := by
  have hx : ∃ a, s ≠ [] ∧ deedTx a = s := ⟨a, h, e⟩
  unfold readD; rw [dif_pos hx]
  have := Classical.choose_spec hx
  exact congrArg some (deedTx_inj (by rw [this.2]; exact h) (by rw [this.2, e]))
theorem readD_is {s : List UInt8} {a : Deed} (h : readD s = some a) : s ≠ [] ∧ deedTx a = s := by
  unfold readD at h
  split at h
  · rename_i hx; cases h; exact Classical.choose_spec hx
  · cases h
theorem readD_none {s : List UInt8} (h : ∀ a, s ≠ [] → deedTx a ≠ s) : readD s = none := by
  unfold readD; rw [dif_neg]; rintro ⟨a, h1, h2⟩; exact h a h1 h2
theorem readD_off {s : List UInt8} (h : deedI s = none) : readD s = none := readD_none fun a h1 h2 => by
  have := deedI_of (a := a) (by rw [h2]; exact h1)
  rw [h2, h] at this; cases this
theorem readD_on {s : List UInt8} {a : Deed} (h : deedI s = some a) (hs : s ≠ []) : readD s = if deedTx a = s then some a else none := by
  split
  · rename_i h1; exact readD_some hs h1
  · rename_i h1
    refine readD_none fun b h2 h3 => h1 ?_
    have := deedI_of (a := b) (by rw [h3]; exact h2)
    rw [h3, h] at this
    rw [Option.some.inj this]; exact h3
/-! The reference's candidates. -/
def deedS (s : List UInt8) : List Deed := [⟨3, 0, []⟩, ⟨4, 0, []⟩] ++ match cutAt 32 s with
  | [_, r] => [⟨0, 0, r⟩, ⟨1, digS r, []⟩, ⟨2, digS r, []⟩]
  | _ => []
theorem cut_word {x r : List UInt8} (hx : ∀ y ∈ x, y ≠ (32 : UInt8)) (hr : ∀ y ∈ r, y ≠ (32 : UInt8)) : cutAt 32 (x ++ 32 :: r) = [x, r] := by
  rw [cutAt_app hx, cutAt_none hr]
theorem deedS_of {a : Deed} (h : deedTx a ≠ []) : a ∈ deedS (deedTx a) := by
  unfold deedS
  rcases deed_cases h with ⟨w, rfl, ⟨c, hc⟩, e⟩ | ⟨n, h0, h9, rfl, e⟩ | ⟨n, h0, h9, rfl, e⟩ | ⟨rfl, e⟩ | ⟨rfl, e⟩
  · have e2 : txSay ++ w = [115, 97, 121] ++ 32 :: w := rfl
    rw [e, e2, cut_word (by decide) fun y hy => (readC_clean hc y hy).1]; simp
  · have e2 : txDrop ++ dec n = [100, 114, 111, 112] ++ 32 :: dec n := rfl
    rw [e, e2, cut_word (by decide) fun y hy => ((good_dec h0 h9).2.2 y hy).1]; simp [(good_dec h0 h9).1]
  · have e2 : txPeople ++ dec n = [112, 101, 111, 112, 108, 101] ++ 32 :: dec n := rfl
    rw [e, e2, cut_word (by decide) fun y hy => ((good_dec h0 h9).2.2 y hy).1]; simp [(good_dec h0 h9).1]
  · simp
  · simp
theorem readD_none' {s : List UInt8} (h : ∀ a ∈ deedS s, s ≠ [] → deedTx a ≠ s) : readD s = none := readD_none fun a h1 h2 => by
  have := deedS_of (a := a) (by rw [h2]; exact h1)
  rw [h2] at this
  exact h a this h1 h2
theorem cutR_len (s : List UInt8) (c : List UInt8) : (Go.Lib.cut s c).2.1.length ≤ s.length := by
  unfold Go.Lib.cut
  split
  · simp
  · simp
theorem cutW_nil {s : List UInt8} (h : (Go.Lib.cut s [32]).1 ≠ []) : s ≠ [] := fun e => by
  rw [e, cut_clean (by simp)] at h; exact h rfl
end TL

/- The library's functions, off the shelf: texts cut, numbers read. -/
set_option linter.unusedSimpArgs false
set_option linter.unusedVariables false
set_option maxRecDepth 100000
namespace TL
open Go Go.Proofs Go.RowKit
section
variable {P : Program}
theorem cut_FnZ {ρ : Go.Shelf.Ren} (L : Go.Proofs.Lays.n145 P ρ) (hf : ∃ fn, P.funcs[ρ.f 145]? = some fn ∧ (fn.name == "runtime.NumGoroutine") = false ∧ fn.body.isNone = false)
    (hg : P.globalNamed "internal/bytealg.MaxLen" = some (ρ.g 1)) (s c : List UInt8) (hs : s.length < 4294967281) : FnZ P (ρ.f 145) [.str s, .str c] (.tup [.str (Go.Lib.cut s c).1, .str (Go.Lib.cut s c).2.1, .bool (Go.Lib.cut s c).2.2]) := by
  refine FnZ_calls hf fun Z w vs hz hv => ?_
  cases hv with | cons h1 hv => cases hv with | cons h2 hv => cases hv with | nil =>
    cases h1 with
    | @str _ b hb =>
      cases h2 with
      | @str _ bsep hb2 =>
        have hq : GQ P (ρ.g 1) (fun v => ∃ m, v = .int .i64 m) := GQ.maxLen hg
        obtain ⟨_, v, hc, m, rfl⟩ := hz.gl _ _ hq
        have hsz : b.size = s.length := by rw [← hb]; rfl
        refine calls_mono (Any.strings_Cut L b bsep m w (by omega) hc) ?_
        rintro e w' ⟨rfl, n, rfl⟩
        rw [hb, hb2]
        exact ⟨_, rfl, below_drewN (Below.refl _ _) n, .tup (.cons (.str (by simp)) (.cons (.str (by simp)) (.cons (.bool _) .nil)))⟩
theorem atoi_FnZ {ρ : Go.Shelf.Ren} (L : Go.Proofs.LaysC.n172 P ρ) (hf : ∃ fn, P.funcs[ρ.f 172]? = some fn ∧ (fn.name == "runtime.NumGoroutine") = false ∧ fn.body.isNone = false)
    (s : List UInt8) (hs : s.length ≤ 2000000000) : FnZ P (ρ.f 172) [.str s] (.tup [.int .i64 (atoiV s), .any]) := by
  refine FnZ_calls hf fun Z w vs hz hv => ?_
  cases hv with | cons h1 hv => cases hv with | nil =>
    cases h1 with
    | @str _ b hb =>
      have hsz : b.size = s.length := by rw [← hb]; rfl
      have q1 : GQ P (ρ.g 15) (fun v => v = .nilIface ∨ ∃ t p, v = .iface t p) := GQ.errSyntax L.m15
      have q2 : GQ P (ρ.g 16) (fun v => v = .nilIface ∨ ∃ t p, v = .iface t p) := GQ.errRange L.m16
      obtain ⟨_, v1, hc1, hv1⟩ := hz.gl _ _ q1
      obtain ⟨_, v2, hc2, hv2⟩ := hz.gl _ _ q2
      cases e : Go.Lib.atoiAll s with
      | ok v =>
        have ev : atoiV s = v := by unfold atoiV; rw [e]
        rw [ev]
        refine calls_mono (Any.strconv_Atoi_ok L b (by omega) v (by rw [hb]; exact e) w) ?_
        rintro e' w' ⟨rfl, hw⟩
        refine ⟨_, rfl, ?_, .tup (.cons (.int _ _) (.cons (.any _) .nil))⟩
        rcases hw with rfl | ⟨t, rfl⟩
        · exact Below.refl _ _
        · exact Go.Joins.below_bytesWorld _ _ _ _ (Nat.le_refl _)
      | range =>
        have ev : atoiV s = Go.Lib.atoiSat s := by unfold atoiV; rw [e]
        rw [ev]
        refine calls_mono (Any.strconv_Atoi_range L b (by omega) (by rw [hb]; exact e) v2 w hc2 hv2) ?_
        rintro e' w' ⟨N, rfl, _, _, hw⟩
        rw [hb]
        exact ⟨_, rfl, hw, .tup (.cons (.int _ _) (.cons (.any _) .nil))⟩
      | _ =>
        have ev : atoiV s = 0 := by unfold atoiV; rw [e]
        rw [ev]
        refine calls_mono (Any.strconv_Atoi_syntax L b (by omega) (by rw [hb]; exact e) v1 w hc1 hv1) ?_
        rintro e' w' ⟨N, rfl, _, _, hw⟩
        exact ⟨_, rfl, hw, .tup (.cons (.int _ _) (.cons (.any _) .nil))⟩
end
theorem cut_fn (s c : List UInt8) (hs : s.length < 4294967281) : FnZ Tryd.prog 74 [.str s, .str c] (.tup [.str (Go.Lib.cut s c).1, .str (Go.Lib.cut s c).2.1, .bool (Go.Lib.cut s c).2.2]) :=
  cut_FnZ Tryd.lays145 ⟨_, Tryd.func74, rfl, rfl⟩ (by kernel_rfl) s c hs
theorem atoi_fn (s : List UInt8) (hs : s.length ≤ 2000000000) : FnZ Tryd.prog 75 [.str s] (.tup [.int .i64 (atoiV s), .any]) :=
  atoi_FnZ Tryd.laysC172 ⟨_, Tryd.func75, rfl, rfl⟩ s hs
end TL

/- Deeds read: the program and the reference, and the exact law. -/
set_option linter.unusedSimpArgs false
set_option linter.unusedVariables false
set_option maxRecDepth 100000
set_option maxHeartbeats 4000000
set_option pp.maxSteps 1500
namespace TL
open Go Go.Proofs
attribute [local simp] marksV storyV codeV Claim.v Place.v Deed.v
def optD (o : Option Deed) : V := .tup [(o.getD ⟨0, 0, []⟩).v, .bool o.isSome]
theorem readDeed_fn (s : List UInt8) (hl : s.length ≤ 2000000000) : FnZ Tryd.prog 46 [.str s] (optD (readD s)) := by
  have hcut := cut_fn s [32] (by omega)
  have hon : ∀ a, deedW (Go.Lib.cut s [32]).1 (Go.Lib.cut s [32]).2.1 = some a → s ≠ [] → readD s = if deedTx a = s then some a else none := fun a h => readD_on h
  have hoff : deedW (Go.Lib.cut s [32]).1 (Go.Lib.cut s [32]).2.1 = none → readD s = none := readD_off
  have hne := cutW_nil (s := s)
  have hrl := cutR_len s [32]
  have hdt : ∀ a : Deed, a.words.length ≤ 2000000000 → FnZ Tryd.prog 18 [a.v] (.str (deedTx a)) := fun a h => deedText_fn a h
  generalize (Go.Lib.cut s [32]).2.2 = f at *
  generalize (Go.Lib.cut s [32]).2.1 = r at *
  generalize (Go.Lib.cut s [32]).1 = w at *
  have hrl2 : r.length ≤ 2000000000 := by omega
  by_cases h1 : w = [115, 97, 121]
  · subst h1
    have ho := hon ⟨0, 0, r⟩ rfl (hne (by simp))
    have hd := hdt ⟨0, 0, r⟩ hrl2
    clear hon hoff hne hdt
    rw [ho]
    by_cases hx : deedTx ⟨0, 0, r⟩ = s
    · rw [hx] at hd
      rw [if_pos hx]
      refine FnZ_of (rs := [.cell 2 26, .tmp 3]) false Tryd.func46 rfl rfl rfl rfl (Nat.le_of_ble_eq_true rfl) ?_
      simp -dsimp
      refine call_ hcut (by simp -dsimp) ?_
      simp -dsimp
      refine call_ hd (by simp -dsimp) ?_
      simp -dsimp [optD]
    · rw [if_neg hx]
      refine FnZ_of (rs := [.cell 2 26, .tmp 3]) false Tryd.func46 rfl rfl rfl rfl (Nat.le_of_ble_eq_true rfl) ?_
      simp -dsimp
      refine call_ hcut (by simp -dsimp) ?_
      simp -dsimp
      refine call_ hd (by simp -dsimp) ?_
      simp -dsimp [optD, hx]
  by_cases h2 : w = [100, 114, 111, 112]
  · subst h2
    have ho := hon ⟨1, atoiV r, []⟩ rfl (hne (by simp))
    have hd := hdt ⟨1, atoiV r, []⟩ (by simp)
    have ha := atoi_fn r hrl2
    clear hon hoff hne hdt
    rw [ho]
    generalize atoiV r = num at *
    by_cases hx : deedTx ⟨1, num, []⟩ = s
    · rw [hx] at hd
      rw [if_pos hx]
      refine FnZ_of (rs := [.cell 2 26, .tmp 3]) false Tryd.func46 rfl rfl rfl rfl (Nat.le_of_ble_eq_true rfl) ?_
      simp -dsimp
      refine call_ hcut (by simp -dsimp) ?_
      simp -dsimp
      refine call_ ha (by simp -dsimp) ?_
      simp -dsimp
      refine call_ hd (by simp -dsimp) ?_
      simp -dsimp [optD]
    · rw [if_neg hx]
      refine FnZ_of (rs := [.cell 2 26, .tmp 3]) false Tryd.func46 rfl rfl rfl rfl (Nat.le_of_ble_eq_true rfl) ?_
      simp -dsimp
      refine call_ hcut (by simp -dsimp) ?_
      simp -dsimp
      refine call_ ha (by simp -dsimp) ?_
      simp -dsimp
      refine call_ hd (by simp -dsimp) ?_
      simp -dsimp [optD, hx]
  by_cases h3 : w = [112, 101, 111, 112, 108, 101]
  · subst h3
    have ho := hon ⟨2, atoiV r, []⟩ rfl (hne (by simp))
    have hd := hdt ⟨2, atoiV r, []⟩ (by simp)
    have ha := atoi_fn r hrl2
    clear hon hoff hne hdt
    rw [ho]
    generalize atoiV r = num at *
    by_cases hx : deedTx ⟨2, num, []⟩ = s
    · rw [hx] at hd
      rw [if_pos hx]
      refine FnZ_of (rs := [.cell 2 26, .tmp 3]) false Tryd.func46 rfl rfl rfl rfl (Nat.le_of_ble_eq_true rfl) ?_
      simp -dsimp
      refine call_ hcut (by simp -dsimp) ?_
      simp -dsimp
      refine call_ ha (by simp -dsimp) ?_
      simp -dsimp
      refine call_ hd (by simp -dsimp) ?_
      simp -dsimp [optD]
    · rw [if_neg hx]
      refine FnZ_of (rs := [.cell 2 26, .tmp 3]) false Tryd.func46 rfl rfl rfl rfl (Nat.le_of_ble_eq_true rfl) ?_
      simp -dsimp
      refine call_ hcut (by simp -dsimp) ?_
      simp -dsimp
      refine call_ ha (by simp -dsimp) ?_
      simp -dsimp
      refine call_ hd (by simp -dsimp) ?_
      simp -dsimp [optD, hx]
  by_cases h4 : w = [108, 101, 97, 115, 116]
  · subst h4
    have ho := hon ⟨3, 0, []⟩ rfl (hne (by simp))
    have hd := hdt ⟨3, 0, []⟩ (by simp)
    clear hon hoff hne hdt
    rw [ho]
    by_cases hx : deedTx ⟨3, 0, []⟩ = s
    · rw [hx] at hd
      rw [if_pos hx]
      refine FnZ_of (rs := [.cell 2 26, .tmp 3]) false Tryd.func46 rfl rfl rfl rfl (Nat.le_of_ble_eq_true rfl) ?_
      simp -dsimp
      refine call_ hcut (by simp -dsimp) ?_
      simp -dsimp
      refine call_ hd (by simp -dsimp) ?_
      simp -dsimp [optD]
    · rw [if_neg hx]
      refine FnZ_of (rs := [.cell 2 26, .tmp 3]) false Tryd.func46 rfl rfl rfl rfl (Nat.le_of_ble_eq_true rfl) ?_
      simp -dsimp
      refine call_ hcut (by simp -dsimp) ?_
      simp -dsimp
      refine call_ hd (by simp -dsimp) ?_
      simp -dsimp [optD, hx]
  by_cases h5 : w = [98, 97, 99, 107]
  · subst h5
    have ho := hon ⟨4, 0, []⟩ rfl (hne (by simp))
    have hd := hdt ⟨4, 0, []⟩ (by simp)
    clear hon hoff hne hdt
    rw [ho]
    by_cases hx : deedTx ⟨4, 0, []⟩ = s
    · rw [hx] at hd
      rw [if_pos hx]
      refine FnZ_of (rs := [.cell 2 26, .tmp 3]) false Tryd.func46 rfl rfl rfl rfl (Nat.le_of_ble_eq_true rfl) ?_
      simp -dsimp
      refine call_ hcut (by simp -dsimp) ?_
      simp -dsimp
      refine call_ hd (by simp -dsimp) ?_
      simp -dsimp [optD]
    · rw [if_neg hx]
      refine FnZ_of (rs := [.cell 2 26, .tmp 3]) false Tryd.func46 rfl rfl rfl rfl (Nat.le_of_ble_eq_true rfl) ?_
      simp -dsimp
      refine call_ hcut (by simp -dsimp) ?_
      simp -dsimp
      refine call_ hd (by simp -dsimp) ?_
      simp -dsimp [optD, hx]
  · have e : deedW w r = none := by unfold deedW; rw [if_neg h1, if_neg h2, if_neg h3, if_neg h4, if_neg h5]
    rw [hoff e]
    clear hon hoff hne hdt
    refine FnZ_of (rs := [.cell 2 26, .tmp 3]) false Tryd.func46 rfl rfl rfl rfl (Nat.le_of_ble_eq_true rfl) ?_
    simp -dsimp
    refine call_ hcut (by simp -dsimp) ?_
    simp -dsimp [optD, h1, h2, h3, h4, h5]
end TL

/- Deeds read: the program and the reference, and the exact law. -/
set_option linter.unusedSimpArgs false
set_option linter.unusedVariables false
set_option maxRecDepth 100000
set_option maxHeartbeats 4000000
set_option pp.maxSteps 1500
namespace TL
open Go Go.Proofs
attribute [local simp] marksV storyV codeV Claim.v Place.v Deed.v
/-! The reference. -/
def Isrd (s : List UInt8) (l : List Deed) (e : Nat) (y : S) : Prop := ∃ i id : Nat, y.tm 0 = .v (.str s) ∧ y.tm 2 = .ptr 0 0 ∧ y.m 0 = some (.box 26 3 [.v (.int .i64 0), .v (.int .i64 0), .v (.str [])]) ∧ y.tm 5 = .loc id ∧ 0 < id ∧ id < y.n ∧
  y.m id = some (.arr 26 (l.map Deed.v)) ∧ y.tm 7 = .v (.int .i64 i) ∧ y.mu = false ∧ i ≤ l.length ∧ (∀ a ∈ l.take i, s ≠ [] → deedTx a ≠ s) ∧ (e = 1 → i = l.length)
theorem deedS_two {s x r : List UInt8} (h : cutAt 32 s = [x, r]) : deedS s = [⟨3, 0, []⟩, ⟨4, 0, []⟩, ⟨0, 0, r⟩, ⟨1, digS r, []⟩, ⟨2, digS r, []⟩] := by
  unfold deedS; rw [h]; rfl
theorem deedS_not {s : List UInt8} (h : (cutAt 32 s).length ≠ 2) : deedS s = [⟨3, 0, []⟩, ⟨4, 0, []⟩] := by
  unfold deedS
  generalize cutAt 32 s = ps at h
  match ps, h with
  | [], _ => rfl
  | [_], _ => rfl
  | [_, _], h => exact absurd rfl h
  | _ :: _ :: _ :: _, _ => rfl
theorem readDeedS_fn (s : List UInt8) (hl : s.length ≤ 2000000000) : FnZ Tryd.prog 45 [.str s] (optD (readD s)) := by
  have hcut := l1Cut_fn s 32 hl
  have e32 : (((32 : UInt8).toNat : Nat) : Int) = 32 := rfl
  rw [e32] at hcut
  have hno := readD_none' (s := s)
  have hyes : ∀ a, s ≠ [] → deedTx a = s → readD s = some a := fun a => readD_some
  have hlen : ∀ a ∈ deedS s, a.words.length ≤ 2000000000 := by
    by_cases h2 : (cutAt 32 s).length = 2
    · have h3 : ∃ x rest, cutAt 32 s = [x, rest] := by
        generalize cutAt 32 s = ps at h2
        match ps, h2 with
        | [x, r], _ => exact ⟨x, r, rfl⟩
      obtain ⟨x, r, h5⟩ := h3
      have hrl : r.length ≤ s.length := cutAt_piece (c := 32) (by rw [h5]; simp)
      rw [deedS_two h5]
      intro a ha
      simp only [List.mem_cons, List.mem_nil_iff, or_false] at ha
      rcases ha with rfl | rfl | rfl | rfl | rfl <;> simp <;> omega
    · rw [deedS_not h2]
      intro a ha
      simp only [List.mem_cons, List.mem_nil_iff, or_false] at ha
      rcases ha with rfl | rfl <;> simp
  have hll : (deedS s).length ≤ 5 := by
    by_cases h2 : (cutAt 32 s).length = 2
    · have h3 : ∃ x rest, cutAt 32 s = [x, rest] := by
        generalize cutAt 32 s = ps at h2
        match ps, h2 with
        | [x, r], _ => exact ⟨x, r, rfl⟩
      obtain ⟨x, r, h5⟩ := h3
      rw [deedS_two h5]; simp
    · rw [deedS_not h2]; simp
  by_cases h2 : (cutAt 32 s).length = 2
  case pos =>
    have h3 : ∃ x rest, cutAt 32 s = [x, rest] := by
      generalize cutAt 32 s = ps at h2
      match ps, h2 with
      | [x, r], _ => exact ⟨x, r, rfl⟩
    refine h3.elim fun x h4 => h4.elim fun r h5 => ?_
    clear h3 h4 h2
    have hrl : r.length ≤ s.length := cutAt_piece (c := 32) (by rw [h5]; simp)
    have hdg := l1Digits_fn r (by omega)
    have hds := deedS_two h5
    rw [h5] at hcut
    generalize deedS s = l at *
    generalize digS r = D at *
    clear h5
    refine FnZ_of (rs := [.cell 2 26, .tmp 3]) false Tryd.func45 rfl rfl rfl rfl (Nat.le_of_ble_eq_true rfl) ?_
    simp -dsimp
    refine call_ hcut (by simp -dsimp) ?_
    simp -dsimp
    refine call_ hdg (by simp -dsimp) ?_
    simp -dsimp
    refine twp_loopC (Isrd s l 0) (fun y => l.length - natOf (y.tm 7)) (Isrd s l 1) ?_ ?_ ?_
    · refine ⟨0, _, by simp -dsimp, by simp -dsimp, by simp -dsimp, by simp -dsimp; rfl, by simp -dsimp, by simp -dsimp, by simp -dsimp [hds], by simp -dsimp, by simp -dsimp, by omega, by simp, by simp⟩
    · rintro y ⟨i, id, t0, t2, m0, t5, hid0, hid, hm, t7, hmu, hi, hall, hend⟩
      by_cases hlt : i < l.length
      case neg =>
        simp -dsimp [t5, t7, hm, hlt]
        exact ⟨i, id, by simp -dsimp [t0], by simp -dsimp [t2], by simp -dsimp [m0], by simp -dsimp [t5], hid0, by simp -dsimp [hid], by simp -dsimp [hm], by simp -dsimp [t7], by simp -dsimp [hmu], hi, hall, fun _ => by omega⟩
      have hget : (l.map Deed.v)[i]? = some (l[i].v) := by simp [hlt]
      have wi : IntKind.wrap .i64 ((i : Int) + 1) = ((i + 1 : Nat) : Int) := by rw [w64 (by omega) (by omega)]; omega
      have hmu1 : l.length - (i + 1) < l.length - i := by omega
      have hdt := deedTextS_fn l[i] (hlen _ (List.getElem_mem _))
      have f0 := far (show 0 < y.n by omega)
      have f1 := far hid
      by_cases hs : s = []
      · have hnx : ∀ a ∈ l.take (i + 1), s ≠ [] → deedTx a ≠ s := fun a _ h => absurd hs h
        simp -dsimp [t0, t5, t7, hm, hlt, hs, wi, hmu1]
        exact ⟨i + 1, id, by simp -dsimp [t0, hs], by simp -dsimp [t2], by simp -dsimp [m0], by simp -dsimp [t5], hid0, by simp -dsimp [hid], by simp -dsimp [hm], by simp -dsimp, by simp -dsimp [hmu], by omega, fun a _ h => absurd rfl h, by simp⟩
      · by_cases he : deedTx l[i] = s
        · rw [hyes _ hs he]
          rw [he] at hdt
          simp -dsimp [t0, t5, t7, hm, hlt, hs, hget]
          refine call_ hdt (by simp -dsimp) ?_
          simp -dsimp [t0, t2, t5, t7, m0, hm, hget, hlt, f0, f1, optD]
        · have hnx : ∀ a ∈ l.take (i + 1), s ≠ [] → deedTx a ≠ s := fun a ha h => by
            rw [List.take_succ_eq_append_getElem hlt] at ha
            rcases List.mem_append.1 ha with ha | ha
            · exact hall a ha h
            · rw [List.mem_singleton.1 ha]; exact he
          simp -dsimp [t0, t5, t7, hm, hlt, hs, hget]
          refine call_ hdt (by simp -dsimp) ?_
          simp -dsimp [t0, he, t7, wi, hmu1]
          exact ⟨i + 1, id, by simp -dsimp [t0], by simp -dsimp [t2], by simp -dsimp [m0], by simp -dsimp [t5], hid0, by simp -dsimp [hid], by simp -dsimp [hm], by simp -dsimp, by simp -dsimp [hmu], by omega, hnx, by simp⟩
    · rintro y ⟨i, id, t0, t2, m0, t5, hid0, hid, hm, t7, hmu, hi, hall, hend⟩
      have hil := hend rfl
      rw [hil, List.take_length] at hall
      rw [hno hall]
      have f0 := far (show 0 < y.n by omega)
      simp -dsimp [t2, m0, f0, optD]
  case neg =>
    have h2' : ¬ ((cutAt 32 s).length : Int) = 2 := by omega
    have hds := deedS_not h2
    generalize deedS s = l at *
    refine FnZ_of (rs := [.cell 2 26, .tmp 3]) false Tryd.func45 rfl rfl rfl rfl (Nat.le_of_ble_eq_true rfl) ?_
    simp -dsimp
    refine call_ hcut (by simp -dsimp) ?_
    simp -dsimp [h2, h2']
    refine twp_loopC (Isrd s l 0) (fun y => l.length - natOf (y.tm 7)) (Isrd s l 1) ?_ ?_ ?_
    · refine ⟨0, _, by simp -dsimp, by simp -dsimp, by simp -dsimp, by simp -dsimp; rfl, by simp -dsimp, by simp -dsimp, by simp -dsimp [hds], by simp -dsimp, by simp -dsimp, by omega, by simp, by simp⟩
    · rintro y ⟨i, id, t0, t2, m0, t5, hid0, hid, hm, t7, hmu, hi, hall, hend⟩
      by_cases hlt : i < l.length
      case neg =>
        simp -dsimp [t5, t7, hm, hlt]
        exact ⟨i, id, by simp -dsimp [t0], by simp -dsimp [t2], by simp -dsimp [m0], by simp -dsimp [t5], hid0, by simp -dsimp [hid], by simp -dsimp [hm], by simp -dsimp [t7], by simp -dsimp [hmu], hi, hall, fun _ => by omega⟩
      have hget : (l.map Deed.v)[i]? = some (l[i].v) := by simp [hlt]
      have wi : IntKind.wrap .i64 ((i : Int) + 1) = ((i + 1 : Nat) : Int) := by rw [w64 (by omega) (by omega)]; omega
      have hmu1 : l.length - (i + 1) < l.length - i := by omega
      have hdt := deedTextS_fn l[i] (hlen _ (List.getElem_mem _))
      have f0 := far (show 0 < y.n by omega)
      have f1 := far hid
      by_cases hs : s = []
      · have hnx : ∀ a ∈ l.take (i + 1), s ≠ [] → deedTx a ≠ s := fun a _ h => absurd hs h
        simp -dsimp [t0, t5, t7, hm, hlt, hs, wi, hmu1]
        exact ⟨i + 1, id, by simp -dsimp [t0, hs], by simp -dsimp [t2], by simp -dsimp [m0], by simp -dsimp [t5], hid0, by simp -dsimp [hid], by simp -dsimp [hm], by simp -dsimp, by simp -dsimp [hmu], by omega, fun a _ h => absurd rfl h, by simp⟩
      · by_cases he : deedTx l[i] = s
        · rw [hyes _ hs he]
          rw [he] at hdt
          simp -dsimp [t0, t5, t7, hm, hlt, hs, hget]
          refine call_ hdt (by simp -dsimp) ?_
          simp -dsimp [t0, t2, t5, t7, m0, hm, hget, hlt, f0, f1, optD]
        · have hnx : ∀ a ∈ l.take (i + 1), s ≠ [] → deedTx a ≠ s := fun a ha h => by
            rw [List.take_succ_eq_append_getElem hlt] at ha
            rcases List.mem_append.1 ha with ha | ha
            · exact hall a ha h
            · rw [List.mem_singleton.1 ha]; exact he
          simp -dsimp [t0, t5, t7, hm, hlt, hs, hget]
          refine call_ hdt (by simp -dsimp) ?_
          simp -dsimp [t0, he, t7, wi, hmu1]
          exact ⟨i + 1, id, by simp -dsimp [t0], by simp -dsimp [t2], by simp -dsimp [m0], by simp -dsimp [t5], hid0, by simp -dsimp [hid], by simp -dsimp [hm], by simp -dsimp, by simp -dsimp [hmu], by omega, hnx, by simp⟩
    · rintro y ⟨i, id, t0, t2, m0, t5, hid0, hid, hm, t7, hmu, hi, hall, hend⟩
      have hil := hend rfl
      rw [hil, List.take_length] at hall
      rw [hno hall]
      have f0 := far (show 0 < y.n by omega)
      simp -dsimp [t2, m0, f0, optD]
end TL

/- Deeds read: the program and the reference, and the exact law. -/
set_option linter.unusedSimpArgs false
set_option linter.unusedVariables false
set_option maxRecDepth 100000
set_option maxHeartbeats 4000000
set_option pp.maxSteps 1500
namespace TL
open Go Go.Proofs
attribute [local simp] marksV storyV codeV Claim.v Place.v Deed.v
theorem exactReadDeed_row (s : List UInt8) {q : Prop} (hq : q) : FnZ Tryd.prog 11 [.str s] (.bool true) := by
  by_cases h : (1048576 : Int) < s.length
  · refine FnZ_of (rs := [.tmp 2]) false Tryd.func11 rfl rfl rfl rfl (Nat.le_of_ble_eq_true rfl) ?_
    simp -dsimp [h]
  have h1 := readDeedS_fn s (by omega)
  have h2 := readDeed_fn s (by omega)
  have heq := eqDeed_fn ((readD s).getD ⟨0, 0, []⟩) ((readD s).getD ⟨0, 0, []⟩)
  generalize hd : (readD s).getD ⟨0, 0, []⟩ = d at *
  unfold optD at h1 h2
  rw [hd] at h1 h2
  generalize (readD s).isSome = b at *
  obtain ⟨d1, d2, d3⟩ := d
  refine FnZ_of (rs := [.tmp 2]) false Tryd.func11 rfl rfl rfl rfl (Nat.le_of_ble_eq_true rfl) ?_
  simp -dsimp [h]
  refine call_ h1 (by simp -dsimp) ?_
  simp -dsimp
  refine call_ h2 (by simp -dsimp) ?_
  simp -dsimp
  refine call_ heq (by simp -dsimp) ?_
  simp -dsimp
theorem opens_str (w : World) : Opens Tryd.prog w 9 fun vs => ∃ s : List UInt8, s.length ≤ maxLen ∧ vs = [.str s] :=
  (opens_string Tryd.underlying9).mono fun vs h => by obtain ⟨s, rfl, hl⟩ := h; exact ⟨s, hl, rfl⟩
end TL

/- Drawn deeds. -/
set_option linter.unusedSimpArgs false
set_option linter.unusedVariables false
set_option maxRecDepth 100000
set_option maxHeartbeats 4000000
set_option pp.maxSteps 1500
namespace TL
open Go Go.Proofs
attribute [local simp] marksV storyV codeV Claim.v Place.v Deed.v
def SomeDeed (x : V) : Prop := ∃ a : Deed, a.words.length ≤ 200 ∧ x = a.v
theorem deed_kinds : ∃ vs : List V, vs = [.int .i64 0, .int .i64 0, .int .i64 0, .int .i64 1, .int .i64 2, .int .i64 3, .int .i64 4] ∧ ∀ r : Int, 0 ≤ r → r < 7 → ∃ k : Int, 0 ≤ k ∧ k ≤ 4 ∧ vs[r.toNat]? = some (.int .i64 k) := by
  refine ⟨_, rfl, fun r h0 h6 => ?_⟩
  have : r = 0 ∨ r = 1 ∨ r = 2 ∨ r = 3 ∨ r = 4 ∨ r = 5 ∨ r = 6 := by omega
  rcases this with rfl | rfl | rfl | rfl | rfl | rfl | rfl
  · exact ⟨0, by omega, by omega, rfl⟩
  · exact ⟨0, by omega, by omega, rfl⟩
  · exact ⟨0, by omega, by omega, rfl⟩
  · exact ⟨1, by omega, by omega, rfl⟩
  · exact ⟨2, by omega, by omega, rfl⟩
  · exact ⟨3, by omega, by omega, rfl⟩
  · exact ⟨4, by omega, by omega, rfl⟩
def DI (m0 : Mem) (n0 rid : Nat) (bs : List UInt8) (p : Nat) (q : Place) (s : S) : Prop := ∃ (kind : Int) (id p' : Nat), s.tm 0 = .ptr rid 0 ∧ s.tm 3 = .ptr n0 0 ∧ s.tm 4 = .ptr (n0 + 1) 0 ∧ s.tm 5 = .ptr id 0 ∧ s.mu = false ∧ n0 + 1 < id ∧ id < s.n ∧
  s.m n0 = some (.box 36 2 [.v (.int .i64 q.people), .v (storyV q.story)]) ∧ s.m (n0 + 1) = some (.box 26 3 [.v (.int .i64 0), .v (.int .i64 0), .v (.str [])]) ∧
  s.m id = some (.box 26 3 [.v (.int .i64 kind), .v (.int .i64 0), .v (.str [])]) ∧ s.m rid = some (rdB bs p') ∧ p ≤ p' ∧ p' ≤ p + 2 ∧ (∀ j, j < n0 → j ≠ rid → s.m j = m0 j)
def DI2 (m0 : Mem) (n0 rid : Nat) (bs : List UInt8) (p : Nat) (s : S) : Prop := ∃ (kind num : Int) (words : List UInt8) (id p' : Nat), s.tm 0 = .ptr rid 0 ∧ s.tm 4 = .ptr (n0 + 1) 0 ∧ s.tm 5 = .ptr id 0 ∧ s.mu = false ∧ n0 + 1 < id ∧ id < s.n ∧
  s.m (n0 + 1) = some (.box 26 3 [.v (.int .i64 0), .v (.int .i64 0), .v (.str [])]) ∧
  s.m id = some (.box 26 3 [.v (.int .i64 kind), .v (.int .i64 num), .v (.str words)]) ∧ words.length ≤ 100 ∧ s.m rid = some (rdB bs p') ∧ p ≤ p' ∧ p' ≤ p + 60 ∧ (∀ j, j < n0 → j ≠ rid → s.m j = m0 j)
theorem sixty {r : Int} (h0 : 0 ≤ r) (h : r < 60) : ∃ k : Int, r.tdiv 59 = k ∧ 0 ≤ k ∧ k ≤ 1 := ⟨_, rfl, by rw [Int.tdiv_eq_ediv_of_nonneg h0]; omega, by rw [Int.tdiv_eq_ediv_of_nonneg h0]; omega⟩
theorem deed_zX (bs : List UInt8) (p : Nat) (hp : p < 600000000) (q : Place) (hq : q.story.length ≤ 1000) (X : T) (hX : X.cells = [.v (.int .i64 q.people), .v (storyV q.story)]) (m : Mem) (n rid : Nat) (hr : rid < n) (hm : m rid = some (rdB bs p)) :
    FnS Tryd.prog 76 m n [.ptr rid 0, X] (Draws SomeDeed 100 m n rid bs p) := by
  refine Draws_of hr ⟨_, Tryd.func76, rfl, rfl⟩ fun hfr => ?_
  obtain ⟨vs, hvs, hel⟩ := deed_kinds
  refine FnS_of (rs := [.cell 4 26]) false Tryd.func76 rfl rfl rfl rfl (Nat.le_of_ble_eq_true rfl) ?_
  have f1 := far hr
  simp -dsimp [hX]
  refine twp_cutQ (DI m n rid bs p q) ?_ ?_
  · refine twp_drawT (.run [1, 5, 1000] (.alt (.run [11, 2, 3, 4, 6, 7, 8, 9, 10, 12] .done) (.run [2, 3, 4] (.alt (.run [11, 6, 7, 8, 9, 10, 12] .done) (.run [6, 7, 8, 9, 10, 11, 12] .done))))) [] (List.replicate 13 []) (List.replicate 13 []) (by kernel_rfl) (by kernel_rfl) (by kernel_rfl) (by kernel_rfl) ?_
    simp -dsimp [List.range_succ, f1]
    refine bld_ [(0, .int .i64 0), (1, .int .i64 0), (2, .int .i64 0), (3, .int .i64 1), (4, .int .i64 2), (5, .int .i64 3), (6, .int .i64 4)] 3 vs (by simp -dsimp) (by rw [hvs]; simp -dsimp) ?_
    clear hvs
    simp -dsimp [List.range_succ, f1]
    refine ordT_both ?_ ?_
    · simp -dsimp [List.range_succ, f1]
      refine callS_ (pick_at bs p (by omega) _ _ _ rid (by simp [hm, f1])) ?_
      rintro t m1 n1 ⟨hn1, ⟨r, rfl, hr0, hr1⟩, rfl⟩
      have hr1 := hr1 (by decide)
      refine (hel r hr0 hr1).elim fun k hk => ?_
      have k0 := hk.1
      have k4 := hk.2.1
      have kg := hk.2.2
      have g1 := far (show rid < n1 by omega)
      simp -dsimp [List.range_succ, f1, hr0, kg]
      refine callS_ (pick_at bs (p + 1) (by omega) _ _ _ rid (by simp [f1, g1])) ?_
      rintro t m2 n2 ⟨hn2, ⟨r2, rfl, hr20, hr21⟩, rfl⟩
      have hr21 := hr21 (by decide)
      refine (sixty hr20 hr21).elim fun k2 hk2 => ?_
      have e2 := hk2.1
      have e20 := hk2.2.1
      have e21 := hk2.2.2
      have w1 : IntKind.wrap .i64 k2 = k2 := w64 (by omega) (by omega)
      have w2 : IntKind.wrap .i64 (k2 * 5) = k2 * 5 := w64 (by omega) (by omega)
      have w3 : IntKind.wrap .i64 (k + k2 * 5) = k + k2 * 5 := w64 (by omega) (by omega)
      have g2 := far (show rid < n2 by omega)
      have g3 := far (show n < n2 by omega)
      have g4 := far (show n + 1 < n2 by omega)
      have g5 := far (show n < n1 by omega)
      have g6 := far (show n + 1 < n1 by omega)
      have g7 := far (show n < n + 1 + 1 by omega)
      have g8 := far (show n + 1 < n + 1 + 1 by omega)
      simp -dsimp [List.range_succ, f1, g1, g2, g3, g4, e2, w1, w2, w3]
      refine ⟨k + k2 * 5, n + 1 + 1, p + 1 + 1, by simp -dsimp, by simp -dsimp, by simp -dsimp, by simp -dsimp, by simp -dsimp, by omega, by simp -dsimp <;> omega, by simp -dsimp [f1, g1, g2, g3, g4, g5, g6, g7, g8], by simp -dsimp [f1, g1, g2, g3, g4, g5, g6, g7, g8], by simp -dsimp [f1, g1, g2, g3, g4, g5, g6, g7, g8], by simp -dsimp [f1, g1, g2, g3, g4, g5, g6, g7, g8], by omega, by omega, fun j j1 j2 => ?_⟩
      simp -dsimp [far j1, far (show j < n1 by omega), far (show j < n2 by omega), j2, Ne.symm j2]
    · simp -dsimp [List.range_succ, f1]
      refine callS_ (pick_at bs p (by omega) _ _ _ rid (by simp [hm, f1])) ?_
      rintro t m1 n1 ⟨hn1, ⟨r, rfl, hr0, hr1⟩, rfl⟩
      have hr1 := hr1 (by decide)
      refine (hel r hr0 hr1).elim fun k hk => ?_
      have k0 := hk.1
      have k4 := hk.2.1
      have kg := hk.2.2
      have g1 := far (show rid < n1 by omega)
      simp -dsimp [List.range_succ, f1, hr0, kg]
      refine ordT_both ?_ ?_
      · simp -dsimp [List.range_succ, f1, g1]
        refine callS_ (pick_at bs (p + 1) (by omega) _ _ _ rid (by simp [f1, g1])) ?_
        rintro t m2 n2 ⟨hn2, ⟨r2, rfl, hr20, hr21⟩, rfl⟩
        have hr21 := hr21 (by decide)
        refine (sixty hr20 hr21).elim fun k2 hk2 => ?_
        have e2 := hk2.1
        have e20 := hk2.2.1
        have e21 := hk2.2.2
        have w1 : IntKind.wrap .i64 k2 = k2 := w64 (by omega) (by omega)
        have w2 : IntKind.wrap .i64 (k2 * 5) = k2 * 5 := w64 (by omega) (by omega)
        have w3 : IntKind.wrap .i64 (k + k2 * 5) = k + k2 * 5 := w64 (by omega) (by omega)
        have g2 := far (show rid < n2 by omega)
        have g3 := far (show n < n2 by omega)
        have g4 := far (show n + 1 < n2 by omega)
        have g5 := far (show n < n1 by omega)
        have g6 := far (show n + 1 < n1 by omega)
        have g7 := far (show n < n + 1 + 1 by omega)
        have g8 := far (show n + 1 < n + 1 + 1 by omega)
        simp -dsimp [List.range_succ, f1, g1, g2, g3, g4, e2, w1, w2, w3]
        refine ⟨k + k2 * 5, n1, p + 1 + 1, by simp -dsimp, by simp -dsimp, by simp -dsimp, by simp -dsimp, by simp -dsimp, by omega, by simp -dsimp <;> omega, by simp -dsimp [f1, g1, g2, g3, g4, g5, g6, g7, g8], by simp -dsimp [f1, g1, g2, g3, g4, g5, g6, g7, g8], by simp -dsimp [f1, g1, g2, g3, g4, g5, g6, g7, g8], by simp -dsimp [f1, g1, g2, g3, g4, g5, g6, g7, g8], by omega, by omega, fun j j1 j2 => ?_⟩
        simp -dsimp [far j1, far (show j < n1 by omega), far (show j < n2 by omega), j2, Ne.symm j2]
      · simp -dsimp [List.range_succ, f1, g1]
        refine callS_ (pick_at bs (p + 1) (by omega) _ _ _ rid (by simp [f1, g1])) ?_
        rintro t m2 n2 ⟨hn2, ⟨r2, rfl, hr20, hr21⟩, rfl⟩
        have hr21 := hr21 (by decide)
        refine (sixty hr20 hr21).elim fun k2 hk2 => ?_
        have e2 := hk2.1
        have e20 := hk2.2.1
        have e21 := hk2.2.2
        have w1 : IntKind.wrap .i64 k2 = k2 := w64 (by omega) (by omega)
        have w2 : IntKind.wrap .i64 (k2 * 5) = k2 * 5 := w64 (by omega) (by omega)
        have w3 : IntKind.wrap .i64 (k + k2 * 5) = k + k2 * 5 := w64 (by omega) (by omega)
        have g2 := far (show rid < n2 by omega)
        have g3 := far (show n < n2 by omega)
        have g4 := far (show n + 1 < n2 by omega)
        have g5 := far (show n < n1 by omega)
        have g6 := far (show n + 1 < n1 by omega)
        have g7 := far (show n < n + 1 + 1 by omega)
        have g8 := far (show n + 1 < n + 1 + 1 by omega)
        simp -dsimp [List.range_succ, f1, g1, g2, g3, g4, e2, w1, w2, w3]
        refine ⟨k + k2 * 5, n2, p + 1 + 1, by simp -dsimp, by simp -dsimp, by simp -dsimp, by simp -dsimp, by simp -dsimp, by omega, by simp -dsimp <;> omega, by simp -dsimp [f1, g1, g2, g3, g4, g5, g6, g7, g8], by simp -dsimp [f1, g1, g2, g3, g4, g5, g6, g7, g8], by simp -dsimp [f1, g1, g2, g3, g4, g5, g6, g7, g8], by simp -dsimp [f1, g1, g2, g3, g4, g5, g6, g7, g8], by omega, by omega, fun j j1 j2 => ?_⟩
        simp -dsimp [far j1, far (show j < n1 by omega), far (show j < n2 by omega), j2, Ne.symm j2]
  · intro s hs
    refine twp_cut (DI2 m n rid bs p) ?_ ?_
    · obtain ⟨kind, id, p', t0, t3, t4, t5, hmu, hid0, hid, m0, m1, mid, mrd, hp0, hp2, hout⟩ := hs
      have d0 : ¬ rid = id := by omega
      have d1 : ¬ n = id := by omega
      have d2 : ¬ n + 1 = id := by omega
      have d3 : ¬ id = rid := by omega
      have e1 : ¬ n + 1 = rid := by omega
      have e2 : ¬ rid = n + 1 := by omega
      have h1 := far hid
      have h2 := far (show rid < s.n by omega)
      have h3 := far (show n < s.n by omega)
      have h4 := far (show n + 1 < s.n by omega)
      by_cases k0 : kind = 0
      · have hpe : ∃ w : Int, max q.people 1 = w ∧ 1 ≤ w := ⟨_, rfl, by omega⟩
        have hpe2 : ∃ w : Int, min (max q.people 1) 4 = w ∧ 1 ≤ w ∧ w ≤ 4 := ⟨_, rfl, by omega, by omega⟩
        refine hpe2.elim fun w hw => ?_
        have hw1 := hw.1
        have hw2 := hw.2.1
        have hw3 := hw.2.2
        simp -dsimp [t0, t3, t4, t5, mid, m0, k0, hw1, h1, h2, h3]
        refine callS_ (claim_z bs p' (by omega) w 0 (by omega) (by omega) (by omega) _ _ rid (by omega) (by simp [mrd])) ?_
        rintro t m2 n2 ⟨hn2, ⟨x, ⟨c, cl, cf, rfl⟩, rfl⟩, p3, hp3, hp4, rfl⟩
        have hct := claimTxS_fn w c ⟨cf.2, by omega⟩
        have hcl := claimTx_short w c
        have h5 := far (show id < n2 by omega)
        generalize claimTx w c = cx at *
        simp -dsimp [t0, t3, t4, t5, mid, m0, h1, h2, h3, h5, d3]
        refine call_ hct (by simp -dsimp) ?_
        simp -dsimp [t0, t3, t4, t5, mid, m0, h1, h2, h3, h5, d3]
        refine ⟨0, 0, cx, id, p3, by simp -dsimp [t0], by simp -dsimp [t4], by simp -dsimp [t5], by simp -dsimp [hmu], hid0, by simp -dsimp <;> omega, by simp -dsimp [d2, e1, e2, m1], by simp -dsimp [k0], by omega, by simp -dsimp [d0, d3], by omega, by omega, fun j j1 j2 => ?_⟩
        simp -dsimp [show ¬ j = id by omega, j2, hout j j1 j2]
      by_cases k1 : kind = 1
      · have hl1 : ∃ w : Int, max (q.story.length : Int) 1 = w ∧ 1 ≤ w ∧ w ≤ 1000 := ⟨_, rfl, by omega, by omega⟩
        refine hl1.elim fun w hw => ?_
        have hw1 := hw.1
        have hw2 := hw.2.1
        have hw3 := hw.2.2
        simp -dsimp [t0, t3, t4, t5, mid, m0, k0, k1, hw1, h1, h2, h3]
        refine callS_ (pick_at bs p' (by omega) _ _ _ rid (by simp [mrd])) ?_
        rintro t m2 n2 ⟨hn2, ⟨r, rfl, hr0, hr1⟩, rfl⟩
        simp -dsimp [t0, t3, t4, t5, mid, m0, h1, h2, h3, d3]
        refine ⟨1, r, [], id, p' + 1, by simp -dsimp [t0], by simp -dsimp [t4], by simp -dsimp [t5], by simp -dsimp [hmu], hid0, by simp -dsimp <;> omega, by simp -dsimp [d2, e1, e2, m1], by simp -dsimp [k1], by simp, by simp -dsimp [d0, d3], by omega, by omega, fun j j1 j2 => ?_⟩
        simp -dsimp [show ¬ j = id by omega, j2, hout j j1 j2]
      by_cases k2 : kind = 2
      · simp -dsimp [t0, t3, t4, t5, mid, m0, k0, k1, k2, h1, h2, h3]
        refine callS_ (pick_at bs p' (by omega) _ _ _ rid (by simp [mrd])) ?_
        rintro t m2 n2 ⟨hn2, ⟨r, rfl, hr0, hr1⟩, rfl⟩
        have hr1 := hr1 (by decide)
        have wr : IntKind.wrap .i64 (1 + r) = 1 + r := w64 (by omega) (by omega)
        simp -dsimp [t0, t3, t4, t5, mid, m0, h1, h2, h3, d3, wr]
        refine ⟨2, 1 + r, [], id, p' + 1, by simp -dsimp [t0], by simp -dsimp [t4], by simp -dsimp [t5], by simp -dsimp [hmu], hid0, by simp -dsimp <;> omega, by simp -dsimp [d2, e1, e2, m1], by simp -dsimp [k2], by simp, by simp -dsimp [d0, d3], by omega, by omega, fun j j1 j2 => ?_⟩
        simp -dsimp [show ¬ j = id by omega, j2, hout j j1 j2]
      · simp -dsimp [t0, t3, t4, t5, mid, m0, k0, k1, k2, h1, h2, h3]
        exact ⟨kind, 0, [], id, p', by simp -dsimp [t0], by simp -dsimp [t4], by simp -dsimp [t5], by simp -dsimp [hmu], hid0, by simp -dsimp [hid], by simp -dsimp [m1], by simp -dsimp [mid], by simp, by simp -dsimp [mrd], by omega, by omega, fun j j1 j2 => by simp -dsimp [hout j j1 j2]⟩
    · rintro s ⟨kind, num, words, id, p', t0, t4, t5, hmu, hid0, hid, m1, mid, hwl, mrd, hp0, hp2, hout⟩
      have d0 : ¬ rid = id := by omega
      have d1 : ¬ n + 1 = id := by omega
      have d2 : ¬ n + 1 = rid := by omega
      have d3 : ¬ id = rid := by omega
      have d4 : ¬ id = n + 1 := by omega
      have e2 : ¬ rid = n + 1 := by omega
      have h1 := far hid
      have h2 := far (show rid < s.n by omega)
      have h4 := far (show n + 1 < s.n by omega)
      simp -dsimp [t0]
      refine callS_ (odd_at bs p' (by omega) _ (by omega) _ _ rid (by simp [mrd])) ?_
      rintro t m2 n2 ⟨hn2, ⟨b, rfl, _⟩, p3, hp3, hp4, rfl⟩
      cases b with
      | false =>
        simp -dsimp [t0, t4, t5, mid, m1, d0, d1, d2, d3, d4]
        refine ⟨by omega, ⟨_, by simp, ⟨kind, num, words⟩, by simp only; omega, rfl⟩, fun j j1 j2 => ?_, p3, by omega, by omega, by simp [d0, d1, d2, d3, d4, e2, h1, h2, h4]⟩
        simp [far j1, far (show j < s.n by omega), far (show j < n2 by omega), show ¬ j = id by omega, show ¬ j = n + 1 by omega, j2, hout j j1 j2]
      | true =>
        have h5 := far (show id < n2 by omega)
        have h6 := far (show rid < n2 by omega)
        have h7 := far (show n + 1 < n2 by omega)
        simp -dsimp [t0, t4, t5, mid, m1, d0, d1, d2, d3, d4]
        refine callS_ (pick_at bs p3 (by omega) _ _ _ rid (by simp)) ?_
        rintro t m3 n3 ⟨hn3, ⟨r, rfl, hr0, hr1⟩, rfl⟩
        have hr1 := hr1 (by decide)
        have g5 := far (show id < n3 by omega)
        have g6 := far (show rid < n3 by omega)
        have g7 := far (show n + 1 < n3 by omega)
        have hr4 : r = 0 ∨ r = 1 := by omega
        rcases hr4 with rfl | rfl
        · simp -dsimp [t0, t4, t5, mid, m1, hmu, d0, d1, d2, d3, d4, g5, g6, g7]
          refine callS_ (pick_at bs (p3 + 1) (by omega) _ _ _ rid (by simp [g6])) ?_
          rintro t m4 n4 ⟨hn4, ⟨r2, rfl, hr20, hr21⟩, rfl⟩
          have hr21 := hr21 (by decide)
          have hr5 : r2 = 0 ∨ r2 = 1 := by omega
          have g8 := far (show n3 < n4 by omega)
          rcases hr5 with rfl | rfl
          · simp -dsimp [t0, t4, t5, mid, m1, hmu, d0, d1, d2, d3, d4, g5, g6, g7, g8]
            refine ⟨by omega, ⟨_, by simp, ⟨kind, -1, words⟩, by simp only; omega, rfl⟩, fun j j1 j2 => ?_, p3 + 1 + 1, by omega, by omega, by simp [d0, d1, d2, d3, d4, e2, h1, h2, h4, g6]⟩
            simp [far j1, far (show j < s.n by omega), far (show j < n2 by omega), far (show j < n3 by omega), show ¬ j = id by omega, show ¬ j = n + 1 by omega, j2, hout j j1 j2]
          · simp -dsimp [t0, t4, t5, mid, m1, hmu, d0, d1, d2, d3, d4, g5, g6, g7, g8]
            refine ⟨by omega, ⟨_, by simp, ⟨kind, 100, words⟩, by simp only; omega, rfl⟩, fun j j1 j2 => ?_, p3 + 1 + 1, by omega, by omega, by simp [d0, d1, d2, d3, d4, e2, h1, h2, h4, g6]⟩
            simp [far j1, far (show j < s.n by omega), far (show j < n2 by omega), far (show j < n3 by omega), show ¬ j = id by omega, show ¬ j = n + 1 by omega, j2, hout j j1 j2]
        · simp -dsimp [t0, t4, t5, mid, m1, hmu, d0, d1, d2, d3, d4, g5, g6, g7]
          refine callS_ (pick_at bs (p3 + 1) (by omega) _ _ _ rid (by simp [g6])) ?_
          rintro t m4 n4 ⟨hn4, ⟨r2, rfl, hr20, hr21⟩, rfl⟩
          have hr21 := hr21 (by decide)
          have hr5 : r2 = 0 ∨ r2 = 1 ∨ r2 = 2 ∨ r2 = 3 := by omega
          have g8 := far (show n3 < n4 by omega)
          rcases hr5 with rfl | rfl | rfl | rfl
          · simp -dsimp [t0, t4, t5, mid, m1, hmu, d0, d1, d2, d3, d4, g5, g6, g7, g8]
            refine ⟨by omega, ⟨_, by simp, ⟨kind, num, [97, 58, 40, 98, 41]⟩, by simp, rfl⟩, fun j j1 j2 => ?_, p3 + 1 + 1, by omega, by omega, by simp [d0, d1, d2, d3, d4, e2, h1, h2, h4, g6]⟩
            simp [far j1, far (show j < s.n by omega), far (show j < n2 by omega), far (show j < n3 by omega), show ¬ j = id by omega, show ¬ j = n + 1 by omega, j2, hout j j1 j2]
          · simp -dsimp [t0, t4, t5, mid, m1, hmu, d0, d1, d2, d3, d4, g5, g6, g7, g8]
            refine ⟨by omega, ⟨_, by simp, ⟨kind, num, [101, 58, 97]⟩, by simp, rfl⟩, fun j j1 j2 => ?_, p3 + 1 + 1, by omega, by omega, by simp [d0, d1, d2, d3, d4, e2, h1, h2, h4, g6]⟩
            simp [far j1, far (show j < s.n by omega), far (show j < n2 by omega), far (show j < n3 by omega), show ¬ j = id by omega, show ¬ j = n + 1 by omega, j2, hout j j1 j2]
          · simp -dsimp [t0, t4, t5, mid, m1, hmu, d0, d1, d2, d3, d4, g5, g6, g7, g8]
            refine ⟨by omega, ⟨_, by simp, ⟨kind, num, [97, 32, 97]⟩, by simp, rfl⟩, fun j j1 j2 => ?_, p3 + 1 + 1, by omega, by omega, by simp [d0, d1, d2, d3, d4, e2, h1, h2, h4, g6]⟩
            simp [far j1, far (show j < s.n by omega), far (show j < n2 by omega), far (show j < n3 by omega), show ¬ j = id by omega, show ¬ j = n + 1 by omega, j2, hout j j1 j2]
          · simp -dsimp [t0, t4, t5, mid, m1, hmu, d0, d1, d2, d3, d4, g5, g6, g7, g8]
            refine ⟨by omega, ⟨_, by simp, ⟨kind, num, [97, 58]⟩, by simp, rfl⟩, fun j j1 j2 => ?_, p3 + 1 + 1, by omega, by omega, by simp [d0, d1, d2, d3, d4, e2, h1, h2, h4, g6]⟩
            simp [far j1, far (show j < s.n by omega), far (show j < n2 by omega), far (show j < n3 by omega), show ¬ j = id by omega, show ¬ j = n + 1 by omega, j2, hout j j1 j2]
theorem deed_z (bs : List UInt8) (p : Nat) (hp : p < 600000000) (q : Place) (hq : q.story.length ≤ 1000) (m : Mem) (n rid : Nat) (hr : rid < n) (hm : m rid = some (rdB bs p)) :
    FnS Tryd.prog 76 m n [.ptr rid 0, .v q.v] (Draws SomeDeed 100 m n rid bs p) := deed_zX bs p hp q hq _ rfl m n rid hr hm
theorem deed_zA (bs : List UInt8) (p : Nat) (hp : p < 600000000) (q : Place) (hq : q.story.length ≤ 1000) (m : Mem) (n rid : Nat) (hr : rid < n) (hm : m rid = some (rdB bs p)) :
    FnS Tryd.prog 76 m n [.ptr rid 0, .agg [.v (.int .i64 q.people), .v (storyV q.story)]] (Draws SomeDeed 100 m n rid bs p) := deed_zX bs p hp q hq _ rfl m n rid hr hm
end TL

/- The laws of deeds' texts. -/
set_option linter.unusedSimpArgs false
set_option linter.unusedVariables false
set_option maxRecDepth 100000
set_option maxHeartbeats 4000000
set_option pp.maxSteps 1500
namespace TL
open Go Go.Proofs
attribute [local simp] marksV storyV codeV Claim.v Place.v Deed.v
theorem drawDeedText_z (bs : List UInt8) (m : Mem) (n : Nat) : FnS Tryd.prog 48 m n [.v (codeV bs)] (Drawn SomeDeed m n) := by
  refine Drawn_of ⟨_, Tryd.func48, rfl, rfl⟩ fun hfr => ?_
  refine FnS_of (rs := [.cell 2 26]) false Tryd.func48 rfl rfl rfl rfl (Nat.le_of_ble_eq_true rfl) ?_
  simp -dsimp
  refine callS_ (open_at bs _ _) ?_
  rintro t m1 n1 ⟨rfl, rfl, rfl⟩
  simp -dsimp
  refine callS_ (place_z (bs.take 2000) 0 (by omega) 0 (by omega) (by omega) _ _ _ (by omega) (by simp)) ?_
  rintro t m2 n2 ⟨hn2, ⟨x, hx, rfl⟩, p2, hp1, hp2, rfl⟩
  obtain ⟨q, hq1, hq2, hq3, rfl⟩ := hx
  simp -dsimp
  refine callS_ (deed_z (bs.take 2000) p2 (by omega) q (by omega) _ _ (n + 1) (by omega) (by simp)) ?_
  rintro t m3 n3 ⟨hn3, ⟨x, ⟨a, ha, rfl⟩, rfl⟩, p3, hp3, hp4, rfl⟩
  simp -dsimp
  refine ⟨by omega, ⟨_, by simp, a, ha, rfl⟩, fun j j1 => ?_⟩
  simp [far j1]
theorem lawDeedText (bs : List UInt8) : FnZ Tryd.prog 12 [codeV bs] (.bool true) := by
  refine FnZ_of (rs := [.tmp 2]) false Tryd.func12 rfl rfl rfl rfl (Nat.le_of_ble_eq_true rfl) ?_
  by_cases h : (1048576 : Int) < bs.length
  · simp -dsimp [h]
  simp -dsimp [h]
  refine callS_ (drawDeedText_z bs _ _) ?_
  rintro t m1 n1 ⟨hn1, ⟨x, ⟨a, ha, rfl⟩, rfl⟩, rfl⟩
  have h1 := deedText_fn a (by omega)
  have h2 := deedTextS_fn a (by omega)
  have hl := deedTx_len a
  have hrd := readDeed_fn (deedTx a) (by omega)
  have hsome : deedTx a ≠ [] → readD (deedTx a) = some a := fun h => readD_some h rfl
  generalize deedTx a = tx at *
  obtain ⟨a1, a2, a3⟩ := a
  simp -dsimp
  refine call_ h1 (by simp -dsimp) ?_
  simp -dsimp
  refine call_ h2 (by simp -dsimp) ?_
  by_cases e : tx = []
  · simp -dsimp [e]
    refine call_ alive_fn (by simp -dsimp) ?_
    simp -dsimp
  · rw [hsome e] at hrd
    simp -dsimp [e]
    refine call_ hrd (by simp -dsimp) ?_
    simp -dsimp [optD]
/-! Texts that are spoilt. -/
def SomeStr (x : V) : Prop := ∃ s : List UInt8, s.length ≤ 2000 ∧ x = .str s
theorem spoil_strs : ∃ vs : List V, vs = [.str [], .str [48], .str [32], .str [10], .str [49], .str [98, 97, 99, 107]] ∧ ∀ r : Int, 0 ≤ r → r < 6 → ∃ x : List UInt8, x.length ≤ 4 ∧ vs[r.toNat]? = some (.str x) := by
  refine ⟨_, rfl, fun r h0 h6 => ?_⟩
  have : r = 0 ∨ r = 1 ∨ r = 2 ∨ r = 3 ∨ r = 4 ∨ r = 5 := by omega
  rcases this with rfl | rfl | rfl | rfl | rfl | rfl
  · exact ⟨[], by simp, rfl⟩
  · exact ⟨[48], by simp, rfl⟩
  · exact ⟨[32], by simp, rfl⟩
  · exact ⟨[10], by simp, rfl⟩
  · exact ⟨[49], by simp, rfl⟩
  · exact ⟨[98, 97, 99, 107], by simp, rfl⟩
theorem spoil_z (bs : List UInt8) (p : Nat) (hp : p < 600000000) (s : List UInt8) (hs : s.length ≤ 1500) (m : Mem) (n rid : Nat) (hr : rid < n) (hm : m rid = some (rdB bs p)) :
    FnS Tryd.prog 78 m n [.ptr rid 0, .v (.str s)] (Draws SomeStr 10 m n rid bs p) := by
  refine Draws_of hr ⟨_, Tryd.func78, rfl, rfl⟩ fun hfr => ?_
  obtain ⟨vs, hvs, hel⟩ := spoil_strs
  refine FnS_of (rs := [.tmp 4]) false Tryd.func78 rfl rfl rfl rfl (Nat.le_of_ble_eq_true rfl) ?_
  have f1 := far hr
  by_cases h0 : s = []
  · simp -dsimp [h0]
    refine ⟨by omega, ⟨_, by simp, [10], by simp, rfl⟩, fun j j1 j2 => ?_, p, by omega, by omega, by simp [hm]⟩
    simp
  have hl0 : ¬ (s.length : Int) = 0 := fun h => h0 (List.length_eq_zero_iff.1 (by omega))
  have hl1 : 0 < s.length := List.length_pos_iff.2 h0
  simp -dsimp [h0, hl0]
  refine callS_ (pick_at bs p (by omega) _ _ _ rid (by simp [hm])) ?_
  rintro t m1 n1 ⟨hn1, ⟨k, rfl, hk0, hk1⟩, rfl⟩
  have hk1 := hk1 (by omega)
  have hkl : k ≤ (s.length : Int) := by omega
  have f2 := far (show rid < n1 by omega)
  simp -dsimp
  refine twp_draw [0, 1, 2, 4, 9, 10, 11, 12, 1003, 5, 6, 7, 8, 13, 14] [] (List.replicate 15 []) (List.replicate 15 []) (by kernel_rfl) (by kernel_rfl) (by kernel_rfl) (by kernel_rfl) ?_
  have w1 : IntKind.wrap .i64 (k + 1) = k + 1 := w64 (by omega) (by omega)
  have z0 : 0 ≤ k + 1 := by omega
  have z1 : k + 1 ≤ (s.length : Int) := by omega
  simp -dsimp [List.range_succ, f1, f2, hk0, hkl, w1, z0, z1]
  refine bld_ [(0, .str []), (1, .str [48]), (2, .str [32]), (3, .str [10]), (4, .str [49]), (5, .str [98, 97, 99, 107])] 9 vs (by simp -dsimp) (by rw [hvs]; simp -dsimp) ?_
  clear hvs
  simp -dsimp [List.range_succ, f1, f2, hk0, hkl, w1, z0, z1]
  refine callS_ (pick_at bs (p + 1) (by omega) _ _ _ rid (by simp [f1, f2])) ?_
  rintro t m2 n2 ⟨hn2, ⟨r2, rfl, hr20, hr21⟩, rfl⟩
  have hr21 := hr21 (by decide)
  refine (hel r2 hr20 hr21).elim fun x hx => ?_
  have hx1 := hx.1
  have hx2 := hx.2
  have hm1 : min k.toNat s.length = k.toNat := by omega
  have b1 : ((min k.toNat s.length : Nat) : Int) + x.length ≤ 9223372036854775807 := by omega
  have b2 : ((min k.toNat s.length : Nat) : Int) + x.length + ((s.length - (k + 1).toNat : Nat) : Int) ≤ 9223372036854775807 := by omega
  have b3 : ((min k.toNat s.length : Nat) : Int) + (x.length + ((s.length - (k + 1).toNat : Nat) : Int)) ≤ 9223372036854775807 := by omega
  simp -dsimp [List.range_succ, hr20, hx2, b1, b2, b3]
  refine ⟨by omega, ⟨_, by simp, s.take k.toNat ++ (x ++ s.drop (k + 1).toNat), by simp; omega, rfl⟩, fun j j1 j2 => ?_, p + 1 + 1, by omega, by omega, by simp⟩
  simp [far j1, j2]
theorem drawReadDeed_z (bs : List UInt8) (m : Mem) (n : Nat) : FnS Tryd.prog 49 m n [.v (codeV bs)] (Drawn SomeStr m n) := by
  refine Drawn_of ⟨_, Tryd.func49, rfl, rfl⟩ fun hfr => ?_
  refine FnS_of (rs := [.tmp 2]) false Tryd.func49 rfl rfl rfl rfl (Nat.le_of_ble_eq_true rfl) ?_
  simp -dsimp
  refine callS_ (open_at bs _ _) ?_
  rintro t m1 n1 ⟨rfl, rfl, rfl⟩
  simp -dsimp
  refine callS_ (place_z (bs.take 2000) 0 (by omega) 0 (by omega) (by omega) _ _ _ (by omega) (by simp)) ?_
  rintro t m2 n2 ⟨hn2, ⟨x, hx, rfl⟩, p2, hp1, hp2, rfl⟩
  obtain ⟨q, hq1, hq2, hq3, rfl⟩ := hx
  simp -dsimp
  refine callS_ (deed_z (bs.take 2000) p2 (by omega) q (by omega) _ _ n (by omega) (by simp)) ?_
  rintro t m3 n3 ⟨hn3, ⟨x, ⟨a, ha, rfl⟩, rfl⟩, p3, hp3, hp4, rfl⟩
  have hdt := deedTextS_fn a (by omega)
  have hdl := deedTx_len a
  generalize deedTx a = tx at *
  obtain ⟨a1, a2, a3⟩ := a
  simp -dsimp
  refine call_ hdt (by simp -dsimp) ?_
  simp -dsimp
  refine callS_ (pick_at (bs.take 2000) p3 (by omega) _ _ _ n (by simp)) ?_
  rintro t m4 n4 ⟨hn4, ⟨r, rfl, hr0, hr1⟩, rfl⟩
  by_cases hr : r = 0
  · simp -dsimp [hr]
    refine callS_ (spoil_z (bs.take 2000) (p3 + 1) (by omega) tx (by omega) _ _ n (by omega) (by simp)) ?_
    rintro t m5 n5 ⟨hn5, ⟨x, ⟨y, hy, rfl⟩, rfl⟩, p5, hp5, hp6, rfl⟩
    simp -dsimp
    refine ⟨by omega, ⟨_, by simp, y, hy, rfl⟩, fun j j1 => ?_⟩
    simp [far j1, show ¬ j = n by omega]
  · simp -dsimp [hr]
    refine ⟨by omega, ⟨_, by simp, tx, by omega, rfl⟩, fun j j1 => ?_⟩
    simp [far j1, show ¬ j = n by omega]
theorem last_in {p w s : List UInt8} {c : UInt8} (hw : w ≠ []) (h : p ++ w = s ++ [c]) : c ∈ w := by
  have h1 := congrArg List.getLast? h
  rw [List.getLast?_append, List.getLast?_append] at h1
  cases e : w.getLast? with
  | none => exact absurd (List.getLast?_eq_none_iff.1 e) hw
  | some y =>
    rw [e] at h1
    simp at h1
    rw [← h1]; exact List.mem_of_getLast? e
theorem readD_more {s : List UInt8} {c : UInt8} (hc : c = 32 ∨ c = 10) : readD (s ++ [c]) = none := readD_none fun b h1 h2 => by
  have hne : deedTx b ≠ [] := by rw [h2]; exact h1
  rcases deed_cases hne with ⟨w, rfl, ⟨d, hd⟩, e⟩ | ⟨n, h0, h9, rfl, e⟩ | ⟨n, h0, h9, rfl, e⟩ | ⟨rfl, e⟩ | ⟨rfl, e⟩
  · have hw : w ≠ [] := fun e0 => by rw [e0] at hd; cases hd
    have := readC_clean hd c (last_in hw (e.symm.trans h2))
    rcases hc with rfl | rfl
    · exact this.1 rfl
    · exact this.2 rfl
  · have hw : dec n ≠ [] := fun e0 => by have := (good_dec h0 h9).2.1; rw [e0] at this; cases this
    have := (good_dec h0 h9).2.2 c (last_in hw (e.symm.trans h2))
    rcases hc with rfl | rfl
    · exact this.1 rfl
    · exact this.2 rfl
  · have hw : dec n ≠ [] := fun e0 => by have := (good_dec h0 h9).2.1; rw [e0] at this; cases this
    have := (good_dec h0 h9).2.2 c (last_in hw (e.symm.trans h2))
    rcases hc with rfl | rfl
    · exact this.1 rfl
    · exact this.2 rfl
  · have := last_in (p := []) (w := txLeast) (by decide) (e.symm.trans h2)
    rcases hc with rfl | rfl <;> revert this <;> decide
  · have := last_in (p := []) (w := txBack) (by decide) (e.symm.trans h2)
    rcases hc with rfl | rfl <;> revert this <;> decide
theorem lawReadDeed (bs : List UInt8) : FnZ Tryd.prog 13 [codeV bs] (.bool true) := by
  refine FnZ_of (rs := [.tmp 2]) false Tryd.func13 rfl rfl rfl rfl (Nat.le_of_ble_eq_true rfl) ?_
  by_cases h : (1048576 : Int) < bs.length
  · simp -dsimp [h]
  simp -dsimp [h]
  refine callS_ (drawReadDeed_z bs _ _) ?_
  rintro t m1 n1 ⟨hn1, ⟨x, ⟨s, hs, rfl⟩, rfl⟩, rfl⟩
  have h1 := readDeed_fn s (by omega)
  have h2 := readDeedS_fn s (by omega)
  have h3 := readDeed_fn (s ++ [32]) (by simp; omega)
  rw [readD_more (.inl rfl)] at h3
  have hsl : (s.length : Int) + 1 ≤ 9223372036854775807 := by omega
  have his : ∀ a, readD s = some a → deedTx a = s := fun a h => (readD_is h).2
  have hdt : ∀ a, readD s = some a → FnZ Tryd.prog 18 [a.v] (.str (deedTx a)) := fun a h => deedText_fn a (by
    have e := (readD_is h).2
    have hne : deedTx a ≠ [] := by rw [e]; exact (readD_is h).1
    rcases deed_cases hne with ⟨w, rfl, ⟨d, hd⟩, _⟩ | ⟨n, h0, h9, rfl, _⟩ | ⟨n, h0, h9, rfl, _⟩ | ⟨rfl, _⟩ | ⟨rfl, _⟩
    · have := readC_len hd; simp only; omega
    · simp
    · simp
    · simp
    · simp)
  generalize readD s = o at *
  simp -dsimp
  refine call_ h1 (by simp -dsimp) ?_
  simp -dsimp [optD]
  refine call_ h2 (by simp -dsimp) ?_
  cases o with
  | none =>
    simp -dsimp [optD]
    refine call_ alive_fn (by simp -dsimp) ?_
    simp -dsimp
  | some a =>
    have hd := hdt a rfl
    rw [his a rfl] at hd
    clear his hdt
    obtain ⟨a1, a2, a3⟩ := a
    simp -dsimp [optD, hsl]
    refine call_ h3 (by simp -dsimp) ?_
    have f9 : ¬ n1 = n1 + 1 + 1 + 1 + 1 := by omega
    simp -dsimp [optD, f9, nes]
    refine call_ hd (by simp -dsimp) ?_
    simp -dsimp
end TL

/- Journals read. -/
set_option linter.unusedSimpArgs false
set_option linter.unusedVariables false
set_option maxRecDepth 100000
set_option maxHeartbeats 4000000
set_option pp.maxSteps 1500
namespace TL
open Go Go.Proofs
attribute [local simp] marksV storyV codeV Claim.v Place.v Deed.v
theorem cut_found {s : List UInt8} {c : UInt8} (h : (Go.Lib.cut s [c]).2.2 = true) : s = (Go.Lib.cut s [c]).1 ++ c :: (Go.Lib.cut s [c]).2.1 ∧ ∀ y ∈ (Go.Lib.cut s [c]).1, y ≠ c := by
  rcases cut_first c s with h1 | ⟨x, r, rfl, h1⟩
  · rw [cut_clean h1] at h; cases h
  · rw [cut_at h1]; exact ⟨rfl, h1⟩
/-- What ReadJournal reads, and how far. -/
noncomputable def readJF : Nat → List UInt8 → List Deed × Nat
  | 0, _ => ([], 0)
  | f + 1, s => if (Go.Lib.cut s [10]).2.2 = true then match readD (Go.Lib.cut s [10]).1 with
    | some a => (a :: (readJF f (Go.Lib.cut s [10]).2.1).1, (Go.Lib.cut s [10]).1.length + 1 + (readJF f (Go.Lib.cut s [10]).2.1).2)
    | none => ([], 0) else ([], 0)
noncomputable def readJ (s : List UInt8) : List Deed × Nat := readJF (s.length + 1) s
theorem readJF_step {f : Nat} {s : List UInt8} {a : Deed} (h : (Go.Lib.cut s [10]).2.2 = true) (ha : readD (Go.Lib.cut s [10]).1 = some a) :
    readJF (f + 1) s = (a :: (readJF f (Go.Lib.cut s [10]).2.1).1, (Go.Lib.cut s [10]).1.length + 1 + (readJF f (Go.Lib.cut s [10]).2.1).2) := by
  show (if _ then _ else _) = _
  rw [if_pos h, ha]
theorem readJF_stop {f : Nat} {s : List UInt8} (h : (Go.Lib.cut s [10]).2.2 = false ∨ readD (Go.Lib.cut s [10]).1 = none) : readJF (f + 1) s = ([], 0) := by
  show (if _ then _ else _) = _
  rcases h with h | h
  · rw [if_neg (by simp [h])]
  · rw [h]; split <;> rfl
theorem readJF_jr : ∀ (l : List Deed) (f : Nat), l.length < f → (∀ a ∈ l, deedTx a ≠ []) → readJF f (jr l deedTx) = (l, (jr l deedTx).length)
  | [], f + 1, _, _ => by
    have e : jr ([] : List Deed) deedTx = [] := rfl
    rw [e, readJF_stop (.inl (by rw [cut_clean (by simp)]))]; rfl
  | a :: l, f + 1, hf, h => by
    have h1 := h a (List.mem_cons_self ..)
    have e : jr (a :: l) deedTx = deedTx a ++ 10 :: jr l deedTx := by simp [jr]
    have hc : ∀ y ∈ deedTx a, y ≠ 10 := by
      rcases deed_cases h1 with ⟨w, rfl, ⟨d, hd⟩, e⟩ | ⟨n, h0, h9, rfl, e⟩ | ⟨n, h0, h9, rfl, e⟩ | ⟨rfl, e⟩ | ⟨rfl, e⟩ <;> rw [e]
      · intro y hy
        rcases List.mem_append.1 hy with hy | hy
        · have h10 : ∀ y ∈ txSay, y ≠ (10 : UInt8) := by decide
          exact h10 y hy
        · exact (readC_clean hd y hy).2
      · intro y hy
        rcases List.mem_append.1 hy with hy | hy
        · have h10 : ∀ y ∈ txDrop, y ≠ (10 : UInt8) := by decide
          exact h10 y hy
        · exact ((good_dec h0 h9).2.2 y hy).2
      · intro y hy
        rcases List.mem_append.1 hy with hy | hy
        · have h10 : ∀ y ∈ txPeople, y ≠ (10 : UInt8) := by decide
          exact h10 y hy
        · exact ((good_dec h0 h9).2.2 y hy).2
      · decide
      · decide
    have ih := readJF_jr l f (by simp at hf; omega) fun b hb => h b (List.mem_cons_of_mem _ hb)
    have hcut := cut_at (r := jr l deedTx) hc
    rw [e, readJF_step (a := a) (by rw [hcut]) (by rw [hcut]; exact readD_some h1 rfl), hcut]
    simp only
    rw [ih]
    simp only [List.length_append, List.length_cons]
    congr 1; omega
theorem jr_long : ∀ (l : List Deed), l.length ≤ (jr l deedTx).length
  | [] => by simp
  | a :: l => by
    have := jr_long l
    have e : jr (a :: l) deedTx = deedTx a ++ 10 :: jr l deedTx := by simp [jr]
    rw [e]; simp only [List.length_append, List.length_cons]; omega
theorem readJ_jr {l : List Deed} (h : ∀ a ∈ l, deedTx a ≠ []) : readJ (jr l deedTx) = (l, (jr l deedTx).length) := readJF_jr l _ (by have := jr_long l; omega) h
def Irj (s : List UInt8) (J : List Deed × Nat) (y : S) : Prop := ∃ (pos id f : Nat) (l : List Deed), y.tm 0 = .v (.str s) ∧ y.tm 4 = .loc id ∧ id < y.n ∧ y.m id = some (.arr 26 (l.map Deed.v)) ∧ y.tm 5 = .v (.int .i64 pos) ∧ y.mu = false ∧ pos ≤ s.length ∧ l.length ≤ pos ∧
  (s.drop pos).length < f ∧ l ++ (readJF f (s.drop pos)).1 = J.1 ∧ pos + (readJF f (s.drop pos)).2 = J.2
theorem readJournal_fn (s : List UInt8) (hl : s.length ≤ 2000000000) : FnZ Tryd.prog 51 [.str s] (.tup [.sl ((readJ s).1.map Deed.v), .int .i64 (readJ s).2]) := by
  generalize hJ : readJ s = J
  refine FnZ_of (rs := [.tmp 2, .tmp 3]) false Tryd.func51 rfl rfl rfl rfl (Nat.le_of_ble_eq_true rfl) ?_
  simp -dsimp
  refine twp_loop (Irj s J) (fun y => s.length - natOf (y.tm 5)) ?_ ?_
  · exact ⟨0, 0, s.length + 1, [], by simp -dsimp, by simp -dsimp, by simp -dsimp, by simp -dsimp, by simp -dsimp, by simp -dsimp, by omega, by simp, by simp, by rw [← hJ]; rfl, by rw [← hJ]; simp [readJ]⟩
  · rintro y ⟨pos, id, f, l, t0, t4, hid, hm, t5, hmu, hpos, hll, hf, hj1, hj2⟩
    have hcut := cut_fn (s.drop pos) [10] (by rw [List.length_drop]; omega)
    have hpos' : (pos : Int) ≤ s.length := by omega
    have f1 := far hid
    have hstop : (Go.Lib.cut (s.drop pos) [10]).2.2 = false ∨ readD (Go.Lib.cut (s.drop pos) [10]).1 = none → J = (l, pos) := fun h => by
      cases f with
      | zero => simp at hf
      | succ f =>
        rw [readJF_stop h] at hj1 hj2
        obtain ⟨J1, J2⟩ := J
        simp at hj1 hj2
        rw [← hj1, ← hj2]
    have hgo : ∀ a, (Go.Lib.cut (s.drop pos) [10]).2.2 = true → readD (Go.Lib.cut (s.drop pos) [10]).1 = some a → ∃ g, pos + ((Go.Lib.cut (s.drop pos) [10]).1.length + 1) ≤ s.length ∧ (s.drop (pos + ((Go.Lib.cut (s.drop pos) [10]).1.length + 1))).length < g ∧
        (l ++ [a]) ++ (readJF g (s.drop (pos + ((Go.Lib.cut (s.drop pos) [10]).1.length + 1)))).1 = J.1 ∧ pos + ((Go.Lib.cut (s.drop pos) [10]).1.length + 1) + (readJF g (s.drop (pos + ((Go.Lib.cut (s.drop pos) [10]).1.length + 1)))).2 = J.2 := fun a h ha => by
      cases f with
      | zero => simp at hf
      | succ f =>
        rw [readJF_step h ha] at hj1 hj2
        obtain ⟨e, _⟩ := cut_found h
        have e2 : s.drop (pos + ((Go.Lib.cut (s.drop pos) [10]).1.length + 1)) = (Go.Lib.cut (s.drop pos) [10]).2.1 := by
          rw [← List.drop_drop]
          generalize Go.Lib.cut (s.drop pos) [10] = C at *
          rw [e, List.drop_append, List.drop_of_length_le (by omega)]
          have : C.1.length + 1 - C.1.length = 1 := by omega
          rw [this]; simp
        have e3 := congrArg List.length e
        rw [List.length_append, List.length_cons, List.length_drop] at e3
        have e4 := congrArg List.length e2
        rw [List.length_drop] at e4
        refine ⟨f, by omega, by rw [List.length_drop] at hf ⊢; omega, ?_, ?_⟩
        · rw [e2, ← hj1]; simp
        · rw [e2, ← hj2]; simp only; omega
    have hwl : (Go.Lib.cut (s.drop pos) [10]).1.length ≤ s.length := by
      unfold Go.Lib.cut
      split
      · simp only [List.length_take, List.length_drop]; omega
      · simp only [List.length_drop]; omega
    have hrd := readDeed_fn (Go.Lib.cut (s.drop pos) [10]).1 (by omega)
    generalize (Go.Lib.cut (s.drop pos) [10]).2.1 = r at *
    generalize (Go.Lib.cut (s.drop pos) [10]).2.2 = fd at *
    generalize (Go.Lib.cut (s.drop pos) [10]).1 = w at *
    generalize readD w = o at *
    cases fd with
    | false =>
      have hst := hstop (.inl rfl)
      rw [hst]
      simp -dsimp [t0, t5, hpos, hpos']
      refine call_ hcut (by simp -dsimp) ?_
      simp -dsimp
      refine call_ hrd (by simp -dsimp) ?_
      simp -dsimp [optD, t4, t5, hm, f1]
    | true =>
      cases o with
      | none =>
        have hst := hstop (.inr rfl)
        rw [hst]
        simp -dsimp [t0, t5, hpos, hpos']
        refine call_ hcut (by simp -dsimp) ?_
        simp -dsimp
        refine call_ hrd (by simp -dsimp) ?_
        simp -dsimp [optD, t4, t5, hm, f1]
      | some a =>
        have hg := hgo a rfl rfl
        clear hgo hstop
        refine hg.elim fun g hg => ?_
        obtain ⟨g1, g2, g3, g4⟩ := hg
        have b1 : (l.length + 1) * 32 ≤ 140737488355328 := by omega
        have w1 : IntKind.wrap .i64 ((w.length : Int) + 1) = (w.length : Int) + 1 := w64 (by omega) (by omega)
        have w2 : IntKind.wrap .i64 ((pos : Int) + ((w.length : Int) + 1)) = ((pos + (w.length + 1) : Nat) : Int) := by rw [w64 (by omega) (by omega)]; omega
        have hmu1 : s.length - (pos + (w.length + 1)) < s.length - pos := by omega
        have hT : ((pos : Int) + ((w.length : Int) + 1)).toNat = pos + (w.length + 1) := by omega
        simp -dsimp [t0, t5, hpos, hpos']
        refine call_ hcut (by simp -dsimp) ?_
        simp -dsimp
        refine call_ hrd (by simp -dsimp) ?_
        simp -dsimp [optD, t4, t5, hm, f1, hmu, b1, w1, w2, hT, hmu1, nes]
        refine st_out fun s' ht hm' hn' hu' => ?_
        have a0 := ht 0
        have a4 := ht 4
        have a5 := ht 5
        simp -dsimp [t0, w2] at a0 a4 a5 hm' hn' hu'
        clear ht
        refine ⟨pos + (w.length + 1), _, g, l ++ [a], a0, a4, by omega, ?_, a5, by rw [hu', hmu], g1, by simp; omega, g2, g3, g4⟩
        simp [hm', nes, f1]
end TL

/- The law of journals' texts. -/
set_option linter.unusedSimpArgs false
set_option linter.unusedVariables false
set_option maxRecDepth 100000
set_option maxHeartbeats 4000000
set_option pp.maxSteps 1500
namespace TL
open Go Go.Proofs
attribute [local simp] marksV storyV codeV Claim.v Place.v Deed.v
def IsameDeeds (a b : List Deed) (e : Nat) (s : S) : Prop := ∃ i : Nat, s.tm 0 = .v (.sl (a.map Deed.v)) ∧ s.tm 1 = .v (.sl (b.map Deed.v)) ∧ s.tm 5 = .v (.int .i64 i) ∧ i ≤ a.length ∧ a.take i = b.take i ∧ (e = 1 → i = a.length)
theorem sameDeeds_fn (a b : List Deed) (hl : a.length ≤ 1048576) : FnZ Tryd.prog 52 [.sl (a.map Deed.v), .sl (b.map Deed.v)] (.bool (decide (a = b))) := by
  refine FnZ_of (rs := [.tmp 4]) false Tryd.func52 rfl rfl rfl rfl (Nat.le_of_ble_eq_true rfl) ?_
  by_cases hn : a.length = b.length
  case neg =>
    have e : decide (a = b) = false := by simp; rintro rfl; exact hn rfl
    have hn' : ¬ (a.length : Int) = b.length := by omega
    simp -dsimp [hn, hn', e]
  simp -dsimp [hn]
  refine twp_loopC (IsameDeeds a b 0) (fun s => a.length - natOf (s.tm 5)) (IsameDeeds a b 1) ?_ ?_ ?_
  · exact ⟨0, by simp -dsimp, by simp -dsimp, by simp -dsimp, by omega, by simp, by simp⟩
  · rintro s ⟨i, h0, h1, h5, hi, htk, hend⟩
    by_cases hlt : i < a.length
    case neg =>
      have hlt2 : ¬ i < b.length := by omega
      simp -dsimp [h0, h5, hlt, hlt2, hn]
      exact ⟨i, by simp -dsimp [h0], by simp -dsimp [h1], by simp -dsimp [h5], hi, htk, fun _ => by omega⟩
    have hlt2 : i < b.length := by omega
    have hgeta : (a.map Deed.v)[i]? = some (a[i].v) := by simp [hlt]
    have hgetb : (b.map Deed.v)[i]? = some (b[i].v) := by simp [hlt2]
    have wi : IntKind.wrap .i64 ((i : Int) + 1) = ((i + 1 : Nat) : Int) := by rw [w64 (by omega) (by omega)]; omega
    have hmu : a.length - (i + 1) < a.length - i := by omega
    have hmu2 : b.length - (i + 1) < b.length - i := by omega
    have hne : ¬ a[i] = b[i] → decide (a = b) = false := fun h => by
      simp; rintro rfl; exact h rfl
    have heq : a[i].kind = b[i].kind → a[i].num = b[i].num → a[i].words = b[i].words → a[i] = b[i] := fun x y z => by
      cases h1 : a[i]; cases h2 : b[i]; rw [h1, h2] at x y z; simp only at x y z; rw [x, y, z]
    simp -dsimp [h0, h5, hlt, hlt2, hn]
    refine twp_draw (List.range 9) [] (List.replicate 9 []) (List.replicate 9 []) (by kernel_rfl) (by kernel_rfl) (by kernel_rfl) (by kernel_rfl) ?_
    by_cases q1 : a[i].kind = b[i].kind
    case neg =>
      have e := hne fun h => q1 (by rw [h])
      simp -dsimp [List.range_succ, h0, h1, h5, hlt, hlt2, hgeta, hgetb, q1, e]
    by_cases q2 : a[i].num = b[i].num
    case neg =>
      have e := hne fun h => q2 (by rw [h])
      simp -dsimp [List.range_succ, h0, h1, h5, hlt, hlt2, hgeta, hgetb, q1, q2, e]
    by_cases q3 : a[i].words = b[i].words
    case neg =>
      have e := hne fun h => q3 (by rw [h])
      simp -dsimp [List.range_succ, h0, h1, h5, hlt, hlt2, hgeta, hgetb, q1, q2, q3, e]
    have htk2 := take_eq_succ hlt hlt2 htk (heq q1 q2 q3)
    simp -dsimp [List.range_succ, h0, h1, h5, hlt, hlt2, hgeta, hgetb, q1, q2, q3, wi, hmu, hmu2]
    exact ⟨i + 1, by simp -dsimp [h0], by simp -dsimp [h1], by simp -dsimp, by omega, htk2, by simp⟩
  · rintro s ⟨i, h0, h1, h5, hi, htk, hend⟩
    have := hend rfl
    subst this
    rw [List.take_length, hn, List.take_length] at htk
    have e : decide (a = b) = true := by simpa using htk
    simp -dsimp [e]
/-! Drawn rows of deeds. -/
def SomeDeeds (x : V) : Prop := ∃ l : List Deed, l.length ≤ 10 + 1 ∧ (∀ a ∈ l, a.words.length ≤ 200) ∧ x = .sl (l.map Deed.v)
def SomeDeeds0 (x : V) : Prop := ∃ l : List Deed, l.length ≤ 10 ∧ (∀ a ∈ l, a.words.length ≤ 200) ∧ x = .sl (l.map Deed.v)
def DLI (m0 : Mem) (n0 rid : Nat) (bs : List UInt8) (p : Nat) (q : Place) (e : Nat) (s : S) : Prop := ∃ (c id p' : Nat) (l : List Deed), s.tm 0 = .ptr rid 0 ∧ s.tm 3 = .ptr n0 0 ∧ s.m n0 = some (.box 36 2 [.v (.int .i64 q.people), .v (storyV q.story)]) ∧
  s.tm 5 = .loc id ∧ s.tm 6 = .v (.int .i64 c) ∧ s.mu = false ∧ n0 < id ∧ id < s.n ∧ s.m id = some (.arr 26 (l.map Deed.v)) ∧ l.length + c ≤ 5 ∧ p ≤ p' ∧ p' + 100 * c ≤ p + 600 ∧ (∀ a ∈ l, a.words.length ≤ 200) ∧ s.m rid = some (rdB bs p') ∧ (∀ j, j < n0 → j ≠ rid → s.m j = m0 j) ∧ (e = 1 → c = 0)
theorem deeds_z (bs : List UInt8) (p : Nat) (hp : p < 500000000) (q : Place) (hq : q.story.length ≤ 1000) (m : Mem) (n rid : Nat) (hr : rid < n) (hm : m rid = some (rdB bs p)) :
    FnS Tryd.prog 103 m n [.ptr rid 0, .v q.v] (Draws SomeDeeds0 700 m n rid bs p) := by
  refine Draws_of hr ⟨_, Tryd.func103, rfl, rfl⟩ fun hfr => ?_
  refine FnS_of (rs := [.tmp 4]) false Tryd.func103 rfl rfl rfl rfl (Nat.le_of_ble_eq_true rfl) ?_
  have f1 := far hr
  simp -dsimp
  refine callS_ (pick_at bs p (by omega) _ _ _ rid (by simp [hm, f1])) ?_
  rintro t m1 n1 ⟨hn1, ⟨r, rfl, hr0, hr1⟩, rfl⟩
  have hr1 := hr1 (by decide)
  obtain ⟨r, rfl⟩ := Int.eq_ofNat_of_zero_le hr0
  have f2 := far (show rid < n1 by omega)
  have f3 := far (show n < n1 by omega)
  simp -dsimp
  refine twp_loopC (DLI m n rid bs p q 0) (fun s => natOf (s.tm 6)) (DLI m n rid bs p q 1) ?_ ?_ ?_
  · refine ⟨r, n + 1, p + 1, [], by simp -dsimp, by simp -dsimp, by simp -dsimp [f1], by simp -dsimp, by simp -dsimp, by simp -dsimp, by omega, by simp -dsimp <;> omega, by simp -dsimp [f1], by simp; omega, by omega, by omega, by simp, by simp -dsimp [f1], fun j j1 j2 => ?_, by simp⟩
    simp -dsimp [far j1, j2]
  · rintro s ⟨c, id, p', l, t0, t3, m0, t5, t6, hmu, hid0, hid, mid, hlc, hp0, hp1, hw, mrd, hout, hend⟩
    by_cases hc : 0 < c
    case neg =>
      have hc0 : c = 0 := by omega
      simp -dsimp [t6, hc, hc0]
      exact ⟨c, id, p', l, by simp -dsimp [t0], by simp -dsimp [t3], by simp -dsimp [m0], by simp -dsimp [t5], by simp -dsimp [t6], by simp -dsimp [hmu], hid0, by simp -dsimp [hid], by simp -dsimp [mid], hlc, hp0, hp1, hw, by simp -dsimp [mrd], fun j j1 j2 => by simp -dsimp [hout j j1 j2], fun _ => hc0⟩
    have d0 : ¬ rid = id := by omega
    have d1 : ¬ id = rid := by omega
    have d2 : ¬ n = id := by omega
    have d3 : ¬ n = rid := by omega
    have d4 : ¬ id = n := by omega
    have h1 := far hid
    have h2 := far (show rid < s.n by omega)
    have h3 := far (show n < s.n by omega)
    have wc : IntKind.wrap .i64 ((c : Int) - 1) = ((c - 1 : Nat) : Int) := by rw [w64 (by omega) (by omega)]; omega
    have hmu1 : c - 1 < c := by omega
    have b1 : (l.length + 1) * 32 ≤ 140737488355328 := by omega
    simp -dsimp [t0, t3, t5, t6, m0, hc]
    refine callS_ (deed_zA bs p' (by omega) q hq _ _ rid (by omega) (by simp [mrd])) ?_
    rintro t m2 n2 ⟨hn2, ⟨x, ⟨a, ha, rfl⟩, rfl⟩, p3, hp3, hp4, rfl⟩
    have h4 := far (show id < n2 by omega)
    have h5 := far (show rid < n2 by omega)
    have h6 := far (show n < n2 by omega)
    simp -dsimp [t0, t3, t5, t6, hmu, mid, d0, d1, d2, d3, d4, h4, h5, h6, b1, wc, hmu1, nes]
    refine st_out fun s' ht hm' hn' hu' => ?_
    have a0 := ht 0
    have a3 := ht 3
    have a5 := ht 5
    have a6 := ht 6
    simp -dsimp [t0, t3, wc] at a0 a3 a5 a6 hm' hn' hu'
    clear ht
    refine ⟨c - 1, _, p3, l ++ [a], a0, a3, by simp [hm', d2, d3, h6, m0], a5, a6, by rw [hu', hmu], by omega, by omega, ?_, by simp; omega, by omega, by omega, fun b hb => ?_, by simp [hm', d0, h5], fun j j1 j2 => ?_, by simp⟩
    · simp [hm', nes]
    · rcases List.mem_append.1 hb with hb | hb
      · exact hw b hb
      · rw [List.mem_singleton.1 hb]; exact ha
    · simp [hm', show ¬ j = id by omega, far (show j < n2 by omega), j2, hout j j1 j2]
  · rintro s ⟨c, id, p', l, t0, t3, m0, t5, t6, hmu, hid0, hid, mid, hlc, hp0, hp1, hw, mrd, hout, hend⟩
    simp -dsimp [t5]
    refine ⟨by omega, ⟨_, by simp -dsimp [mid, show n ≤ id by omega], l, by omega, hw, rfl⟩, hout, p', by omega, by omega, mrd⟩
/-- Rows of deeds of the caller's own. -/
def OwnDeeds (m : Mem) (n rid : Nat) (bs : List UInt8) (p : Nat) (t : T) (m' : Mem) (n' : Nat) : Prop := ∃ (id p' : Nat) (l : List Deed), t = .loc id ∧ n ≤ id ∧ id < n' ∧ m' id = some (.arr 26 (l.map Deed.v)) ∧ l.length ≤ 10 ∧ (∀ a ∈ l, a.words.length ≤ 200) ∧
  m' rid = some (rdB bs p') ∧ p ≤ p' ∧ p' ≤ p + 1000 ∧ (∀ j, j < n → j ≠ rid → m' j = m j) ∧ n ≤ n'
def WLI (m0 : Mem) (n0 rid : Nat) (bs : List UInt8) (p : Nat) (l : List Deed) (e : Nat) (s : S) : Prop := ∃ (i id : Nat) (w : List Deed), s.tm 0 = .ptr rid 0 ∧ s.tm 3 = .loc id ∧ s.tm 4 = .v (.sl (l.map Deed.v)) ∧ s.tm 5 = .v (.int .i64 i) ∧ s.mu = false ∧ n0 ≤ id ∧ id < s.n ∧ i ≤ l.length ∧
  s.m id = some (.arr 26 (w.map Deed.v)) ∧ w.length ≤ i ∧ (∀ a ∈ w, a.words.length ≤ 200) ∧ s.m rid = some (rdB bs p) ∧ (∀ j, j < n0 → j ≠ rid → s.m j = m0 j) ∧ (e = 1 → i = l.length)
theorem written_z (bs : List UInt8) (p : Nat) (hp : p < 400000000) (m : Mem) (n rid : Nat) (hr : rid < n) (hm : m rid = some (rdB bs p)) :
    FnS Tryd.prog 79 m n [.ptr rid 0] (OwnDeeds m n rid bs p) := by
  refine FnS_of (rs := [.tmp 2]) false Tryd.func79 rfl rfl rfl rfl (Nat.le_of_ble_eq_true rfl) ?_
  have f1 := far hr
  simp -dsimp
  refine callS_ (place_z bs p (by omega) 0 (by omega) (by omega) _ _ rid (by omega) (by simp [hm, f1])) ?_
  rintro t m1 n1 ⟨hn1, ⟨x, hx, rfl⟩, p1, hp1, hp2, rfl⟩
  obtain ⟨q, hq1, hq2, hq3, rfl⟩ := hx
  have f2 := far (show rid < n1 by omega)
  have f3 := far (show n < n1 by omega)
  simp -dsimp
  refine callS_ (deeds_z bs p1 (by omega) q (by omega) _ _ rid (by omega) (by simp)) ?_
  rintro t m2 n2 ⟨hn2, ⟨x, ⟨l, hll, hlw, rfl⟩, rfl⟩, p2, hp3, hp4, rfl⟩
  have f4 := far (show rid < n2 by omega)
  have f5 := far (show n < n2 by omega)
  have d0 : ¬ n = rid := by omega
  simp -dsimp
  refine twp_loopC (WLI m n rid bs p2 l 0) (fun s => l.length - natOf (s.tm 5)) (WLI m n rid bs p2 l 1) ?_ ?_ ?_
  · refine ⟨0, n, [], by simp -dsimp, by simp -dsimp, by simp -dsimp, by simp -dsimp, by simp -dsimp, by omega, by simp -dsimp <;> omega, by omega, by simp -dsimp [d0], by simp, by simp, by simp -dsimp, fun j j1 j2 => ?_, by simp⟩
    simp -dsimp [far j1, j2]
  · rintro s ⟨i, id, w, t0, t3, t4, t5, hmu, hid0, hid, hi, mid, hwi, hww, mrd, hout, hend⟩
    by_cases hlt : i < l.length
    case neg =>
      simp -dsimp [t4, t5, hlt]
      exact ⟨i, id, w, by simp -dsimp [t0], by simp -dsimp [t3], by simp -dsimp [t4], by simp -dsimp [t5], by simp -dsimp [hmu], hid0, by simp -dsimp [hid], hi, by simp -dsimp [mid], hwi, hww, by simp -dsimp [mrd], fun j j1 j2 => by simp -dsimp [hout j j1 j2], fun _ => by omega⟩
    have hget : (l.map Deed.v)[i]? = some (l[i].v) := by simp [hlt]
    have wi : IntKind.wrap .i64 ((i : Int) + 1) = ((i + 1 : Nat) : Int) := by rw [w64 (by omega) (by omega)]; omega
    have hmu1 : l.length - (i + 1) < l.length - i := by omega
    have hlw1 := hlw _ (List.getElem_mem hlt)
    have hdt := deedTextS_fn l[i] (by omega)
    have b1 : (w.length + 1) * 32 ≤ 140737488355328 := by omega
    have h1 := far hid
    by_cases he : deedTx l[i] = []
    · simp -dsimp [t4, t5, hlt, hget]
      refine call_ hdt (by simp -dsimp) ?_
      simp -dsimp [he, t5, wi, hmu1]
      exact ⟨i + 1, id, w, by simp -dsimp [t0], by simp -dsimp [t3], by simp -dsimp [t4], by simp -dsimp, by simp -dsimp [hmu], hid0, by simp -dsimp [hid], by omega, by simp -dsimp [mid], by omega, hww, by simp -dsimp [mrd], fun j j1 j2 => by simp -dsimp [hout j j1 j2], by simp⟩
    · have d1 : id = rid → False := by
        intro h; rw [h, mrd] at mid; cases mid
      have d2 : ¬ rid = id := fun h => d1 h.symm
      have h2 := far (show rid < s.n by omega)
      generalize deedTx l[i] = tx at *
      simp -dsimp [t4, t5, hlt, hget]
      refine call_ hdt (by simp -dsimp) ?_
      simp -dsimp [he, t3, t4, t5, hlt, hget, hmu, mid, h1, h2, d2, b1, wi, hmu1, nes]
      refine st_out fun s' ht hm' hn' hu' => ?_
      have a0 := ht 0
      have a3 := ht 3
      have a4 := ht 4
      have a5 := ht 5
      simp -dsimp [t0, t4, wi] at a0 a3 a4 a5 hm' hn' hu'
      clear ht
      refine ⟨i + 1, _, w ++ [l[i]], a0, a3, a4, a5, by rw [hu', hmu], by omega, by omega, by omega, ?_, by simp; omega, fun b hb => ?_, by simp [hm', d2, h2, mrd], fun j j1 j2 => ?_, by simp⟩
      · simp [hm', nes]
      · rcases List.mem_append.1 hb with hb | hb
        · exact hww b hb
        · rw [List.mem_singleton.1 hb]; exact hlw1
      · simp [hm', show ¬ j = id by omega, far (show j < s.n by omega), hout j j1 j2]
  · rintro s ⟨i, id, w, t0, t3, t4, t5, hmu, hid0, hid, hi, mid, hwi, hww, mrd, hout, hend⟩
    simp -dsimp [t3]
    exact ⟨id, p2, w, rfl, hid0, hid, mid, by omega, hww, mrd, by omega, by omega, hout, by omega⟩
theorem drawJournalText_z (bs : List UInt8) (m : Mem) (n : Nat) : FnS Tryd.prog 50 m n [.v (codeV bs)] (Drawn SomeDeeds m n) := by
  refine Drawn_of ⟨_, Tryd.func50, rfl, rfl⟩ fun hfr => ?_
  refine FnS_of (rs := [.tmp 2]) false Tryd.func50 rfl rfl rfl rfl (Nat.le_of_ble_eq_true rfl) ?_
  simp -dsimp
  refine callS_ (open_at bs _ _) ?_
  rintro t m1 n1 ⟨rfl, rfl, rfl⟩
  simp -dsimp
  refine callS_ (written_z (bs.take 2000) 0 (by omega) _ _ n (by omega) (by simp)) ?_
  rintro t m2 n2 ⟨id, p2, l, rfl, hid0, hid, mid, hll, hlw, mrd, hp1, hp2, hout, hn2⟩
  have d0 : ¬ n = id := by omega
  simp -dsimp
  refine callS_ (odd_at (bs.take 2000) p2 (by omega) _ (by omega) _ _ n (by simp [mrd])) ?_
  rintro t m3 n3 ⟨hn3, ⟨b, rfl, _⟩, p3, hp3, hp4, rfl⟩
  have h1 := far (show id < n3 by omega)
  have d1 : ¬ id = n := by omega
  have b1 : (l.length + 1) * 32 ≤ 140737488355328 := by omega
  cases b with
  | false =>
    simp -dsimp [d1, mid]
    refine ⟨by omega, ⟨_, by simp -dsimp [d1, mid, show n ≤ id by omega], l, by omega, hlw, rfl⟩, fun j j1 => ?_⟩
    simp [show ¬ j = n by omega, hout j (by omega) (by omega), far j1]
  | true =>
    simp -dsimp [d1, mid, h1, b1, nes]
    have hw2 : ∀ a ∈ l ++ [(⟨9, 0, []⟩ : Deed)], a.words.length ≤ 200 := fun a ha => by
      rcases List.mem_append.1 ha with ha | ha
      · exact hlw a ha
      · rw [List.mem_singleton.1 ha]; simp
    have hle3 : n ≤ n3 + 1 := by omega
    have hlen3 : (l ++ [(⟨9, 0, []⟩ : Deed)]).length ≤ 10 + 1 := by simp; omega
    refine ⟨by omega, ⟨.sl ((l ++ [(⟨9, 0, []⟩ : Deed)]).map Deed.v), by simp -dsimp [hle3], l ++ [⟨9, 0, []⟩], hlen3, hw2, rfl⟩, fun j j1 => ?_⟩
    simp [show ¬ j = n by omega, show ¬ j = id by omega, show ¬ j = n3 by omega, show ¬ j = n3 + 1 by omega, hout j (by omega) (by omega), far j1]
theorem lawJournalText (bs : List UInt8) : FnZ Tryd.prog 14 [codeV bs] (.bool true) := by
  refine FnZ_of (rs := [.tmp 2]) false Tryd.func14 rfl rfl rfl rfl (Nat.le_of_ble_eq_true rfl) ?_
  by_cases h : (1048576 : Int) < bs.length
  · simp -dsimp [h]
  simp -dsimp [h]
  refine callS_ (drawJournalText_z bs _ _) ?_
  rintro t m1 n1 ⟨hn1, ⟨x, ⟨l, hll, hlw, rfl⟩, rfl⟩, rfl⟩
  have h1 := journalText_fn l (by omega) (fun a ha => by have := hlw a ha; omega)
  have h2 := journalTextS_fn l (by omega) (fun a ha => by have := hlw a ha; omega)
  have hsd := sameDeeds_fn l l (by omega)
  by_cases e : journalTx l = []
  · rw [e] at h1 h2
    simp -dsimp
    refine call_ h1 (by simp -dsimp) ?_
    simp -dsimp
    refine call_ h2 (by simp -dsimp) ?_
    simp -dsimp
    refine call_ alive_fn (by simp -dsimp) ?_
    simp -dsimp
  · have hall : ∀ a ∈ l, deedTx a ≠ [] := fun a ha h0 => e (journalTx_none ha h0)
    have hj := journalTx_all hall
    have hjl := jr_len l
    have hrj := readJournal_fn (jr l deedTx) (by omega)
    rw [readJ_jr hall] at hrj
    rw [hj] at h1 h2 e
    simp only at hrj
    generalize jr l deedTx = J at *
    simp -dsimp
    refine call_ h1 (by simp -dsimp) ?_
    simp -dsimp
    refine call_ h2 (by simp -dsimp) ?_
    simp -dsimp [e]
    refine call_ hrj (by simp -dsimp) ?_
    simp -dsimp
    refine call_ hsd (by simp -dsimp) ?_
    simp -dsimp
end TL
