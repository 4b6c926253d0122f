/- Reading terms: the program's code. -/
import Derived.Test.YtcoapdapigpfgaaDoorFnsQGA
set_option linter.unusedSimpArgs false
set_option linter.unusedVariables false
set_option maxRecDepth 100000
set_option maxHeartbeats 4000000
set_option pp.maxSteps 1500
namespace TL
open Go Go.Proofs
attribute [local simp] marksV storyV codeV Claim.v Place.v
def cutB (s : List UInt8) (c : UInt8) : List UInt8 × Bool := match s with
  | [] => ([], false)
  | x :: r => if x = c then (r, true) else (x :: r, false)
theorem hasPrefix_fn (s : List UInt8) (c : UInt8) (hl : s.length ≤ 1000000000) : FnZ Tryd.prog 169 [.str s, .str [c]] (.bool (cutB s c).2) := by
  refine FnZ_of (rs := [.tmp 4]) false Tryd.func169 rfl rfl rfl rfl (Nat.le_of_ble_eq_true rfl) ?_
  cases s with
  | nil => simp -dsimp [cutB]
  | cons x r =>
    have h1 : (1 : Int) ≤ (r.length : Int) + 1 := by omega
    have h0 : ¬ (r.length : Int) + 1 < 1 := by omega
    by_cases hx : x = c
    · subst hx; simp -dsimp [cutB, h1, h0]
    · simp -dsimp [cutB, h1, h0, hx]
theorem cutPrefixL_fn (s : List UInt8) (c : UInt8) (hl : s.length ≤ 1000000000) : FnZ Tryd.prog 165 [.str s, .str [c]] (.tup [.str (cutB s c).1, .bool (cutB s c).2]) := by
  refine FnZ_of (rs := [.tmp 4, .tmp 5]) false Tryd.func165 rfl rfl rfl rfl (Nat.le_of_ble_eq_true rfl) ?_
  simp -dsimp
  refine call_ (hasPrefix_fn s c hl) (by simp -dsimp) ?_
  cases s with
  | nil => simp -dsimp [cutB]
  | cons x r =>
    have h1 : (1 : Int) ≤ (r.length : Int) + 1 := by omega
    by_cases hx : x = c
    · subst hx; simp -dsimp [cutB, h1]
    · simp -dsimp [cutB, h1, hx]
theorem cutPrefix_fn (s : List UInt8) (c : UInt8) (hl : s.length ≤ 1000000000) : FnZ Tryd.prog 153 [.str s, .str [c]] (.tup [.str (cutB s c).1, .bool (cutB s c).2]) := by
  refine FnZ_of (rs := [.tmp 4, .tmp 5]) false Tryd.func153 rfl rfl rfl rfl (Nat.le_of_ble_eq_true rfl) ?_
  simp -dsimp
  refine call_ (cutPrefixL_fn s c hl) (by simp -dsimp) ?_
  simp -dsimp
/-- What a reader gives back: a row of its own. -/
structure RPost (m : Mem) (n : Nat) (r : R) (t : T) (m' : Mem) (n' : Nat) : Prop where
  le : n ≤ n'
  out : ∀ j, j < n → m' j = m j
  res : ∃ st, t = .tup [st, .v (.str r.rest), .v (.bool r.ok)] ∧ IsRow m' n n' 126 st (r.ms.map Mark.v) ∧ (r.ok = true → st ≠ .nil)
abbrev RFn (f : Nat) (L : Nat) (p : List UInt8 → R) : Prop := ∀ s : List UInt8, s.length ≤ L → ∀ m n, FnS Tryd.prog f m n [.v (.str s)] (RPost m n (p s))
/-- The loop of readRow. -/
def Irr (m0 : Mem) (n0 : Nat) (F : Nat) (p : List UInt8 → R) (sg : UInt8) (k : Int) (f : Nat) (G : R) (s : S) : Prop := ∃ (ms : List Mark) (rest : List UInt8) (ok : Bool) (st : T) (g : Nat),
  s.tm 0 = .v (.str rest) ∧ s.tm 1 = .v (.str [sg]) ∧ s.tm 2 = .v (.int .i64 k) ∧ s.tm 3 = .fn f [] ∧ s.tm 11 = st ∧ s.tm 12 = .v (.bool ok) ∧ s.mu = false ∧ n0 ≤ s.n ∧ (∀ j, j < n0 → s.m j = m0 j) ∧
  IsRow s.m n0 s.n 126 st (ms.map Mark.v) ∧ rest.length ≤ g ∧ rest.length ≤ F ∧ ms.length + rest.length ≤ F ∧ (ok = true → st ≠ .nil ∧ G = rLoop p sg k g ms rest) ∧ (ok = false → G = ⟨[], rest, false⟩)
def lenOf : T → Nat
  | .v (.str s) => s.length + 1
  | .v (.bool b) => if b then 1 else 0
  | _ => 0
@[simp] theorem lenOf_str (s : List UInt8) : lenOf (.v (.str s)) = s.length + 1 := rfl
@[simp] theorem lenOf_bool (b : Bool) : lenOf (.v (.bool b)) = if b then 1 else 0 := rfl
def Xrr (m0 : Mem) (n0 : Nat) (G : R) (s : S) : Prop := ∃ rest : List UInt8, s.tm 0 = .v (.str rest) ∧ G = ⟨[], rest, false⟩ ∧ n0 ≤ s.n ∧ ∀ j, j < n0 → s.m j = m0 j
theorem cutB_len (s : List UInt8) (c : UInt8) : (cutB s c).1.length ≤ s.length := by
  unfold cutB; split
  · simp
  · split <;> simp
theorem cut_no {p : List UInt8 → R} {sg : UInt8} {k : Int} {g : Nat} {ms : List Mark} {rest : List UInt8} (h : (cutB rest sg).2 = false) : rLoop p sg k g ms rest = ⟨ms, rest, true⟩ := by
  cases g with
  | zero => rfl
  | succ g =>
    cases rest with
    | nil => rfl
    | cons c r =>
      simp only [rLoop]
      by_cases hc : c = sg
      · subst hc; simp [cutB] at h
      · rw [if_neg hc]
theorem cut_yes {p : List UInt8 → R} {sg : UInt8} {k : Int} {g : Nat} {ms : List Mark} {rest : List UInt8} (hg : rest.length ≤ g) (h : (cutB rest sg).2 = true) :
    ∃ g', (cutB rest sg).1.length ≤ g' ∧ (cutB rest sg).1.length + 1 = rest.length ∧ rLoop p sg k g ms rest = if (p (cutB rest sg).1).ok = true then rLoop p sg k g' (ms ++ (p (cutB rest sg).1).ms ++ [⟨k, 0⟩]) (p (cutB rest sg).1).rest else ⟨[], (p (cutB rest sg).1).rest, false⟩ := by
  cases rest with
  | nil => cases h
  | cons c r =>
    have hc : c = sg := by
      unfold cutB at h; simp only at h
      split at h
      · assumption
      · cases h
    subst hc
    have e : (cutB (c :: r) c).1 = r := by simp [cutB]
    rw [e]
    cases g with
    | zero => simp at hg
    | succ g => exact ⟨g, by simpa using hg, by simp, by simp only [rLoop, if_true]⟩
theorem readRow_fn (f : Nat) (p : List UInt8 → R) (sg : UInt8) (k : Int) (F : Nat) (hp : good p) (hF : F ≤ 1000000) (hf : RFn f F p) : ∀ s : List UInt8, s.length ≤ F → ∀ m n, FnS Tryd.prog 133 m n [.v (.str s), .v (.str [sg]), .v (.int .i64 k), .fn f []] (RPost m n (rRow p sg k F s)) := by
  intro s hs m n
  have g0 := (hp s).1
  refine FnS_of (rs := [.tmp 8, .tmp 9, .tmp 10]) false Tryd.func133 rfl rfl rfl rfl (Nat.le_of_ble_eq_true rfl) ?_
  simp -dsimp
  refine callS_ (hf s hs _ _) ?_
  rintro t m1 n1 ⟨hle, hout, st, rfl, hrow, hnil⟩
  simp -dsimp
  refine twp_loopC (Irr m n F p sg k f (rRow p sg k F s)) (fun s => lenOf (s.tm 0) + lenOf (s.tm 12)) (Xrr m n (rRow p sg k F s)) ?_ ?_ ?_
  · refine ⟨(p s).ms, (p s).rest, (p s).ok, st, F, by simp -dsimp, by simp -dsimp, by simp -dsimp, by simp -dsimp, by simp -dsimp, by simp -dsimp, by simp -dsimp, by simp -dsimp [hle], by simp -dsimp; exact hout, by simp -dsimp; exact hrow, by omega, by omega, by omega, fun h => ⟨hnil h, ?_⟩, fun h => ?_⟩
    · unfold rRow; rw [if_pos h]
    · unfold rRow; rw [if_neg (by simp [h])]
  · rintro s1 ⟨ms, rest, ok, st, g, t0, t1, t2, t3, t11, t12, hmu, hn, hm, hrow, hg, hrF, hmsF, h1, h0⟩
    cases ok with
    | false =>
      simp -dsimp [t12]
      exact ⟨rest, by simp -dsimp [t0], h0 rfl, by simp -dsimp [hn], by simp -dsimp; exact hm⟩
    | true =>
      obtain ⟨hst, hG⟩ := h1 rfl
      have hloc : ∃ i, st = .loc i ∧ n ≤ i ∧ i < s1.n ∧ s1.m i = some (.arr 126 (ms.map Mark.v)) := by
        rcases hrow with ⟨rfl, _⟩ | h
        · exact absurd rfl hst
        · exact h
      obtain ⟨i, rfl, hi0, hi1, hmi⟩ := hloc
      have hcl := cutB_len rest sg
      simp -dsimp [t0, t1, t12]
      refine call_ (cutPrefix_fn rest sg (by omega)) (by simp -dsimp) ?_
      have hq := ft (cutB rest sg).2
      rcases hq with hq | hq
      · rw [cut_no hq] at hG
        simp -dsimp [hq, t0, t11]
        rw [hG]
        exact ⟨hn, hm, .loc i, rfl, .inr ⟨i, rfl, hi0, hi1, hmi⟩, by simp⟩
      · obtain ⟨g', hg1, hg2, hg3⟩ := cut_yes (p := p) (sg := sg) (k := k) (ms := ms) hg hq
        rw [hG, hg3]
        generalize (cutB rest sg).1 = more at *
        have gm := (hp more).1
        simp -dsimp [hq, t3]
        refine callS_ (hf more (by omega) _ _) ?_
        rintro t m2 n2 ⟨hle2, hout2, st2, rfl, hrow2, hnil2⟩
        have hi2 : i < n2 := by omega
        have hmi2 : m2 i = some (.arr 126 (ms.map Mark.v)) := by rw [hout2 i hi1, hmi]
        have f1 := far hi2
        have b1 : (ms.length + (p more).ms.length) * 16 ≤ 140737488355328 := by omega
        have b2 : (ms.length + (p more).ms.length + 1) * 16 ≤ 140737488355328 := by omega
        have eL : ∀ ok' : Bool, (p more).ok = ok' → (ok' = true → (if (p more).ok = true then rLoop p sg k g' (ms ++ (p more).ms ++ [⟨k, 0⟩]) (p more).rest else ⟨[], (p more).rest, false⟩) = rLoop p sg k g' (ms ++ (p more).ms ++ [⟨k, 0⟩]) (p more).rest) ∧
          (ok' = false → (if (p more).ok = true then rLoop p sg k g' (ms ++ (p more).ms ++ [⟨k, 0⟩]) (p more).rest else ⟨[], (p more).rest, false⟩) = ⟨[], (p more).rest, false⟩) := fun ok' h => ⟨fun h1 => by rw [if_pos (by rw [h, h1])], fun h1 => by rw [if_neg (by simp [h, h1])]⟩
        have eL2 := eL _ rfl
        clear eL hG hg3
        generalize (if (p more).ok = true then rLoop p sg k g' (ms ++ (p more).ms ++ [⟨k, 0⟩]) (p more).rest else ⟨[], (p more).rest, false⟩) = G at *
        have hkmu : ∀ b : Bool, (p more).rest.length + 1 + (if b = true then 1 else 0) < rest.length + 1 + 1 := fun b => by split <;> omega
        generalize (p more).ms = qms at *
        generalize (p more).rest = qrest at *
        generalize (p more).ok = qok at *
        rcases hrow2 with ⟨rfl, h0⟩ | ⟨i2, rfl, hj0, hj1, hmj⟩
        · have hq0 : qms = [] := by simpa using h0
          subst hq0
          have b3 : (ms.length + 1) * 16 ≤ 140737488355328 := by omega
          have b4 : ms.length * 16 ≤ 140737488355328 := by omega
          simp -dsimp [t0, t1, t2, t3, t11, hmu, hmi2, f1, b3, b4, nes]
          refine ⟨st_out fun s' ht hm' hn' hu' => ?_, by rw [t12]; exact hkmu qok⟩
          have q0 := ht 0
          have q1 := ht 1
          have q2 := ht 2
          have q3 := ht 3
          have q11 := ht 11
          have q12 := ht 12
          simp -dsimp [t1, t2, t3] at q0 q1 q2 q3 q11 q12 hm' hn' hu'
          clear ht
          refine ⟨ms ++ [⟨k, 0⟩], qrest, qok, _, g', q0, q1, q2, q3, q11, q12, by rw [hu', hmu], by omega, fun j hj => ?_, .inr ⟨_, rfl, by omega, by omega, ?_⟩, by omega, by omega, by simp; omega, fun h => ⟨by simp, by rw [eL2.1 h]; simp⟩, fun h => eL2.2 h⟩
          · have e1 : j < n2 := by omega
            have e2 : ¬ j = i := by rintro rfl; omega
            have e3 := far e1
            simp [hm', e2, e3, hout2 j (by omega), hm j hj]
          · simp [hm', nes, Mark.v]
        · have f2 := far hj1
          simp -dsimp [t0, t1, t2, t3, t11, hmu, hmi2, hmj, f1, f2, b1, b2, nes]
          refine ⟨st_out fun s' ht hm' hn' hu' => ?_, by rw [t12]; exact hkmu qok⟩
          have q0 := ht 0
          have q1 := ht 1
          have q2 := ht 2
          have q3 := ht 3
          have q11 := ht 11
          have q12 := ht 12
          simp -dsimp [t1, t2, t3] at q0 q1 q2 q3 q11 q12 hm' hn' hu'
          clear ht
          refine ⟨ms ++ qms ++ [⟨k, 0⟩], qrest, qok, _, g', q0, q1, q2, q3, q11, q12, by rw [hu', hmu], by omega, fun j hj => ?_, .inr ⟨_, rfl, by omega, by omega, ?_⟩, by omega, by omega, by simp; omega, fun h => ⟨by simp, eL2.1 h⟩, fun h => eL2.2 h⟩
          · have e1 : j < n2 := by omega
            have e2 : ¬ j = i := by rintro rfl; omega
            have e3 := far e1
            simp [hm', e2, e3, hout2 j (by omega), hm j hj]
          · simp [hm', nes, Mark.v]
  · rintro s1 ⟨rest, t0, hG, hn, hm⟩
    simp -dsimp [t0]
    rw [hG]
    exact ⟨hn, hm, .nil, rfl, .inl ⟨rfl, rfl⟩, by simp⟩
theorem pack (s : List UInt8) {r : R} {m m' : Mem} {n n' : Nat} {st : T} (h1 : n ≤ n') (h2 : ∀ j, j < n → m' j = m j) (h3 : IsRow m' n n' 126 st (r.ms.map Mark.v)) (h4 : r.ok = true → st ≠ .nil) : RPost m n r (.tup [st, .v (.str r.rest), .v (.bool r.ok)]) m' n' :=
  ⟨h1, h2, st, rfl, h3, h4⟩
theorem RPost.mk' {r : R} {m m' : Mem} {n n' : Nat} {st : T} {a : List UInt8} {b : Bool} (h1 : n ≤ n') (h2 : ∀ j, j < n → m' j = m j) (h3 : IsRow m' n n' 126 st (r.ms.map Mark.v)) (h4 : b = true → st ≠ .nil) (ha : r.rest = a) (hb : r.ok = b) : RPost m n r (.tup [st, .v (.str a), .v (.bool b)]) m' n' := by
  subst ha; subst hb; exact ⟨h1, h2, st, rfl, h3, h4⟩
theorem rowFn (f : Nat) (p : List UInt8 → R) (sg : UInt8) (k : Int) (F : Nat) (hp : good p) (hF : F ≤ 1000000) (hf : RFn f F p) (g : Nat) (hg : ∀ s : List UInt8, s.length ≤ F → ∀ m n, FnS Tryd.prog 133 m n [.v (.str s), .v (.str [sg]), .v (.int .i64 k), .fn f []] (RPost m n (rRow p sg k F s)) → FnS Tryd.prog g m n [.v (.str s)] (RPost m n (rRow p sg k F s))) : RFn g F (rRow p sg k F) :=
  fun s hs m n => hg s hs m n (readRow_fn f p sg k F hp hF hf s hs m n)
theorem readAnd_fn (F : Nat) (p : List UInt8 → R) (hp : good p) (hF : F ≤ 1000000) (hf : RFn 166 F p) : RFn 154 F (rRow p 38 3 F) := by
  refine rowFn 166 p 38 3 F hp hF hf 154 fun s hs m n h => ?_
  generalize rRow p 38 3 F s = r at *
  refine FnS_of (rs := [.tmp 2, .tmp 3, .tmp 4]) false Tryd.func154 rfl rfl rfl rfl (Nat.le_of_ble_eq_true rfl) ?_
  simp -dsimp
  refine callS_ h ?_
  rintro t m1 n1 ⟨hle, hout, st, rfl, hrow, hnil⟩
  simp -dsimp
  exact ⟨hle, hout, st, rfl, hrow, hnil⟩
theorem readOr_fn (F : Nat) (p : List UInt8 → R) (hp : good p) (hF : F ≤ 1000000) (hf : RFn 154 F p) : RFn 134 F (rRow p 124 4 F) := by
  refine rowFn 154 p 124 4 F hp hF hf 134 fun s hs m n h => ?_
  generalize rRow p 124 4 F s = r at *
  refine FnS_of (rs := [.tmp 2, .tmp 3, .tmp 4]) false Tryd.func134 rfl rfl rfl rfl (Nat.le_of_ble_eq_true rfl) ?_
  simp -dsimp
  refine callS_ h ?_
  rintro t m1 n1 ⟨hle, hout, st, rfl, hrow, hnil⟩
  simp -dsimp
  exact ⟨hle, hout, st, rfl, hrow, hnil⟩
theorem readSame_fn (F : Nat) (p : List UInt8 → R) (hp : good p) (hF : F ≤ 1000000) (hf : RFn 134 F p) : RFn 106 F (rRow p 61 5 F) := by
  refine rowFn 134 p 61 5 F hp hF hf 106 fun s hs m n h => ?_
  generalize rRow p 61 5 F s = r at *
  refine FnS_of (rs := [.tmp 2, .tmp 3, .tmp 4]) false Tryd.func106 rfl rfl rfl rfl (Nat.le_of_ble_eq_true rfl) ?_
  simp -dsimp
  refine callS_ h ?_
  rintro t m1 n1 ⟨hle, hout, st, rfl, hrow, hnil⟩
  simp -dsimp
  exact ⟨hle, hout, st, rfl, hrow, hnil⟩
/-- What readPart does with its first sign. -/
theorem rPart_letter (f : Nat) (c : UInt8) (s : List UInt8) (h1 : 97 ≤ c.toNat) (h2 : c.toNat ≤ 122) : rPart atomI (f + 1) (c :: s) = ⟨[⟨0, (c.toNat : Int) - 97⟩], s, true⟩ := rPart_one _ _ _ _ _ (if_pos ⟨h1, h2⟩)
theorem rPart_digit (f : Nat) (c : UInt8) (s : List UInt8) (h0 : ¬ (97 ≤ c.toNat ∧ c.toNat ≤ 122)) (h1 : 48 ≤ c.toNat) (h2 : c.toNat ≤ 57) : rPart atomI (f + 1) (c :: s) = ⟨[⟨1, (c.toNat : Int) - 48⟩], s, true⟩ := rPart_one _ _ _ _ _ (by unfold atomI; rw [if_neg h0, if_pos ⟨h1, h2⟩])
theorem rPart_else (A : UInt8 → Option Mark) (f : Nat) (c : UInt8) (s : List UInt8) (h : A c = none) (h1 : c ≠ 33) (h2 : c ≠ 40) : rPart A (f + 1) (c :: s) = ⟨[], c :: s, false⟩ := by
  show (match A c with
    | some m => _
    | none => _) = _
  rw [h]; simp only; rw [if_neg h1, if_neg h2]
theorem atomI_none {c : UInt8} (h0 : ¬ (97 ≤ c.toNat ∧ c.toNat ≤ 122)) (h1 : ¬ (48 ≤ c.toNat ∧ c.toNat ≤ 57)) : atomI c = none := by unfold atomI; rw [if_neg h0, if_neg h1]
theorem readPart_fn : ∀ F, F ≤ 1000000 → RFn 166 F (rPart atomI F)
  | 0, _ => fun s hs m n => by
    have : s = [] := List.length_eq_zero_iff.1 (by omega)
    subst this
    refine FnS_of (rs := [.tmp 2, .tmp 3, .tmp 4]) false Tryd.func166 rfl rfl rfl rfl (Nat.le_of_ble_eq_true rfl) ?_
    simp -dsimp
    exact RPost.mk' (Nat.le_refl _) (fun _ _ => rfl) (.inl ⟨rfl, rfl⟩) (by simp) rfl rfl
  | F + 1, hF => fun s hs m n => by
    cases s with
    | nil =>
      refine FnS_of (rs := [.tmp 2, .tmp 3, .tmp 4]) false Tryd.func166 rfl rfl rfl rfl (Nat.le_of_ble_eq_true rfl) ?_
      simp -dsimp
      exact RPost.mk' (Nat.le_refl _) (fun _ _ => rfl) (.inl ⟨rfl, rfl⟩) (by simp) rfl rfl
    | cons c s =>
      have hs' : s.length ≤ F := by simpa using hs
      have hp := rPart_good atomI_good F
      have ih := readPart_fn F (by omega)
      have hS : RFn 106 F (rSame atomI F) := readSame_fn F _ (rRow_good (rRow_good hp (by omega) (by omega) F) (by omega) (by omega) F) (by omega) (readOr_fn F _ (rRow_good hp (by omega) (by omega) F) (by omega) (readAnd_fn F _ hp (by omega) ih))
      have gp := (hp s).1
      have gs := (rRow_good (rRow_good (rRow_good hp (sg := 38) (k := 3) (by omega) (by omega) F) (sg := 124) (k := 4) (by omega) (by omega) F) (sg := 61) (k := 5) (by omega) (by omega) F s).1
      have gs : (rSame atomI F s).ms.length + (rSame atomI F s).rest.length ≤ s.length := gs
      have hlt := UInt8.toNat_lt c
      have l1 : (1 : Int) ≤ (s.length : Int) + 1 := by omega
      have l2 : ((s.length : Int) + 1).toNat = s.length + 1 := by omega
      have run : ∀ (post : T → Mem → Nat → Prop), (FnS Tryd.prog 166 m n [.v (.str (c :: s))] post → FnS Tryd.prog 166 m n [.v (.str (c :: s))] post) := fun _ h => h
      by_cases hlet : 97 ≤ c.toNat ∧ c.toNat ≤ 122
      · have i1 : (97 : Int) ≤ c.toNat := by omega
        have i2 : (c.toNat : Int) ≤ 122 := by omega
        have w1 : IntKind.wrap .u8 ((c.toNat : Int) - 97) = (c.toNat : Int) - 97 := by rw [IntKind.wrap_u8]; omega
        have w2 : IntKind.wrap .i64 ((c.toNat : Int) - 97) = (c.toNat : Int) - 97 := w64 (by omega) (by omega)
        rw [rPart_letter F c s hlet.1 hlet.2]
        refine FnS_of (rs := [.tmp 2, .tmp 3, .tmp 4]) false Tryd.func166 rfl rfl rfl rfl (Nat.le_of_ble_eq_true rfl) ?_
        simp -dsimp
        refine twp_draw (List.range 6) [] (List.replicate 6 []) (List.replicate 6 []) (by kernel_rfl) (by kernel_rfl) (by kernel_rfl) (by kernel_rfl) ?_
        simp -dsimp [List.range_succ, i1, i2, w1, w2, l1, l2]
        exact RPost.mk' (by omega) (fun j hj => by simp; omega) (.inr ⟨n, rfl, by omega, by omega, by simp [Mark.v]⟩) (by simp) rfl rfl
      by_cases hdig : 48 ≤ c.toNat ∧ c.toNat ≤ 57
      · have i1 : (48 : Int) ≤ c.toNat := by omega
        have i2 : (c.toNat : Int) ≤ 57 := by omega
        have i3 : ¬ (97 : Int) ≤ c.toNat := by omega
        have w1 : IntKind.wrap .u8 ((c.toNat : Int) - 48) = (c.toNat : Int) - 48 := by rw [IntKind.wrap_u8]; omega
        have w2 : IntKind.wrap .i64 ((c.toNat : Int) - 48) = (c.toNat : Int) - 48 := w64 (by omega) (by omega)
        rw [rPart_digit F c s hlet hdig.1 hdig.2]
        refine FnS_of (rs := [.tmp 2, .tmp 3, .tmp 4]) false Tryd.func166 rfl rfl rfl rfl (Nat.le_of_ble_eq_true rfl) ?_
        simp -dsimp
        refine twp_draw (List.range 6) [] (List.replicate 6 []) (List.replicate 6 []) (by kernel_rfl) (by kernel_rfl) (by kernel_rfl) (by kernel_rfl) ?_
        simp -dsimp [List.range_succ, i1, i2, i3, w1, w2, l1, l2]
        exact RPost.mk' (by omega) (fun j hj => by simp; omega) (.inr ⟨n, rfl, by omega, by omega, by simp [Mark.v]⟩) (by simp) rfl rfl
      have hA := atomI_none hlet hdig
      by_cases h33 : c = 33
      · subst h33
        have ePart := rPart_not atomI F s rfl
        have hq := ih s hs' 
        rw [ePart]
        have b1 : ((rPart atomI F s).ms.length + 1) * 16 ≤ 140737488355328 := by omega
        refine FnS_of (rs := [.tmp 2, .tmp 3, .tmp 4]) false Tryd.func166 rfl rfl rfl rfl (Nat.le_of_ble_eq_true rfl) ?_
        simp -dsimp
        refine twp_draw (List.range 6) [] (List.replicate 6 []) (List.replicate 6 []) (by kernel_rfl) (by kernel_rfl) (by kernel_rfl) (by kernel_rfl) ?_
        simp -dsimp [List.range_succ, l1, l2]
        refine callS_ (hq _ _) ?_
        rintro t m2 n2 ⟨hle2, hout2, st2, rfl, hrow2, hnil2⟩
        rcases hrow2 with ⟨rfl, h0⟩ | ⟨i2, rfl, hj0, hj1, hmj⟩
        · have hq0 : (rPart atomI F s).ms = [] := by simpa using h0
          simp -dsimp
          refine RPost.mk' (by omega) (fun j hj => ?_) (.inr ⟨_, rfl, by omega, by omega, by simp [hq0, Mark.v, nes]⟩) (by simp) rfl rfl
          have hj' : j < n := hj
          have f3 := far (show j < n2 by omega)
          simp [f3, hout2 j hj]
        · have f2 := far hj1
          simp -dsimp [hmj, f2, b1, nes]
          refine RPost.mk' (by omega) (fun j hj => ?_) (.inr ⟨_, rfl, by omega, by omega, by simp [Mark.v, nes]⟩) (by simp) rfl rfl
          have hj' : j < n := hj
          have f3 := far (show j < n2 by omega)
          have f4 : ¬ j = i2 := by omega
          simp [f3, f4, hout2 j hj]
      by_cases h40 : c = 40
      · subst h40
        have ePart := rPart_open atomI F s rfl
        have hq := hS s hs'
        rw [ePart]
        have hcl : (rSame atomI F s).rest.length ≤ 1000000000 := by omega
        have esh : shut (rSame atomI F s) = ⟨(rSame atomI F s).ms, (cutB (rSame atomI F s).rest 41).1, (rSame atomI F s).ok && (cutB (rSame atomI F s).rest 41).2⟩ := by
          unfold shut cutB
          cases (rSame atomI F s).rest with
          | nil => simp
          | cons x r =>
            simp only
            split <;> simp
        rw [esh]
        refine FnS_of (rs := [.tmp 2, .tmp 3, .tmp 4]) false Tryd.func166 rfl rfl rfl rfl (Nat.le_of_ble_eq_true rfl) ?_
        simp -dsimp
        refine twp_draw (List.range 6) [] (List.replicate 6 []) (List.replicate 6 []) (by kernel_rfl) (by kernel_rfl) (by kernel_rfl) (by kernel_rfl) ?_
        simp -dsimp [List.range_succ, l1, l2]
        refine callS_ (hq _ _) ?_
        rintro t m2 n2 ⟨hle2, hout2, st2, rfl, hrow2, hnil2⟩
        simp -dsimp
        refine call_ (cutPrefix_fn (rSame atomI F s).rest 41 hcl) (by simp -dsimp) ?_
        simp -dsimp
        have hb := ft (rSame atomI F s).ok
        rcases hb with hb | hb
        · simp -dsimp [hb]
          exact RPost.mk' hle2 hout2 hrow2 (by simp) rfl (by simp)
        · simp -dsimp [hb]
          exact RPost.mk' hle2 hout2 hrow2 (fun _ => hnil2 hb) rfl (by simp)
      have eElse := rPart_else atomI F c s hA h33 h40
      rw [eElse]
      have k33 : ¬ (c.toNat : Int) = 33 := fun h => h33 (UInt8.toNat.inj (by show c.toNat = 33; omega))
      have k40 : ¬ (c.toNat : Int) = 40 := fun h => h40 (UInt8.toNat.inj (by show c.toNat = 40; omega))
      have three : ((¬ (97 : Int) ≤ c.toNat) ∧ ¬ (48 : Int) ≤ c.toNat) ∨ ((¬ (97 : Int) ≤ c.toNat) ∧ (48 : Int) ≤ c.toNat ∧ ¬ (c.toNat : Int) ≤ 57) ∨ ((97 : Int) ≤ c.toNat ∧ (¬ (c.toNat : Int) ≤ 122) ∧ (48 : Int) ≤ c.toNat ∧ ¬ (c.toNat : Int) ≤ 57) := by omega
      rcases three with ⟨h1, h2⟩ | ⟨h1, h2, h3⟩ | ⟨h1, h2, h3, h4⟩
      · refine FnS_of (rs := [.tmp 2, .tmp 3, .tmp 4]) false Tryd.func166 rfl rfl rfl rfl (Nat.le_of_ble_eq_true rfl) ?_
        simp -dsimp
        refine twp_draw (List.range 6) [] (List.replicate 6 []) (List.replicate 6 []) (by kernel_rfl) (by kernel_rfl) (by kernel_rfl) (by kernel_rfl) ?_
        simp -dsimp [List.range_succ, l1, l2, h1, h2, k33, k40]
        exact RPost.mk' (Nat.le_refl _) (fun _ _ => rfl) (.inl ⟨rfl, rfl⟩) (by simp) rfl rfl
      · refine FnS_of (rs := [.tmp 2, .tmp 3, .tmp 4]) false Tryd.func166 rfl rfl rfl rfl (Nat.le_of_ble_eq_true rfl) ?_
        simp -dsimp
        refine twp_draw (List.range 6) [] (List.replicate 6 []) (List.replicate 6 []) (by kernel_rfl) (by kernel_rfl) (by kernel_rfl) (by kernel_rfl) ?_
        simp -dsimp [List.range_succ, l1, l2, h1, h2, h3, k33, k40]
        exact RPost.mk' (Nat.le_refl _) (fun _ _ => rfl) (.inl ⟨rfl, rfl⟩) (by simp) rfl rfl
      · refine FnS_of (rs := [.tmp 2, .tmp 3, .tmp 4]) false Tryd.func166 rfl rfl rfl rfl (Nat.le_of_ble_eq_true rfl) ?_
        simp -dsimp
        refine twp_draw (List.range 6) [] (List.replicate 6 []) (List.replicate 6 []) (by kernel_rfl) (by kernel_rfl) (by kernel_rfl) (by kernel_rfl) ?_
        simp -dsimp [List.range_succ, l1, l2, h1, h2, h3, h4, k33, k40]
        exact RPost.mk' (Nat.le_refl _) (fun _ _ => rfl) (.inl ⟨rfl, rfl⟩) (by simp) rfl rfl
theorem readSame_all (F : Nat) (hF : F ≤ 1000000) : RFn 106 F (rSame atomI F) := by
  have hp := rPart_good atomI_good F
  exact readSame_fn F _ (rRow_good (rRow_good hp (by omega) (by omega) F) (by omega) (by omega) F) (by omega) (readOr_fn F _ (rRow_good hp (by omega) (by omega) F) (by omega) (readAnd_fn F _ hp (by omega) (readPart_fn F hF)))
end TL
