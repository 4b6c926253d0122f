/- TL, part 10: what others see of a value; texts, numbers, tuples. -/
import Derived.Test.YtcoapdapigpfgaaTlOps2
set_option linter.unusedVariables false
set_option linter.unusedSimpArgs false
namespace TL
open Go Go.RowKit

section
variable {P : Program} {φ : Phi} {Z : Zs} {m : Mem} {n : Nat} {w : World}

def allZs (w : World) : Zs := fun k _ => k < w.heap.size
theorem sub_allZs (hm : RelM P φ Z m n w) : SubZ Z (allZs w) := fun k o h => hm.zlt.lt k o h
theorem keep_refl (Z : Zs) (w : World) : KeepZ Z w w := fun _ _ _ => rfl

theorem mapO_spec {α β : Type} {f : α → Option β} {xs : List α} {ys : List β} (h : mapO f xs = some ys) : xs.length = ys.length ∧ ∀ (i : Nat) (x : α), xs[i]? = some x → ∃ y, ys[i]? = some y ∧ f x = some y := by
  induction xs generalizing ys with
  | nil => simp [mapO] at h; subst h; simp
  | cons x xs ih =>
    simp only [mapO] at h
    cases hf : f x with
    | none => simp [hf] at h
    | some y =>
      simp only [hf, Option.bind_some, Option.map_eq_some_iff] at h
      obtain ⟨zs, hz, rfl⟩ := h
      obtain ⟨h1, h2⟩ := ih hz
      refine ⟨by simp [h1], fun i x' hx => ?_⟩
      cases i with
      | zero => simp at hx; subst hx; exact ⟨y, rfl, hf⟩
      | succ i => exact h2 i x' (by simpa using hx)
theorem mapO_cons {α β : Type} {f : α → Option β} {x : α} {xs : List α} {ys : List β} (h : mapO f (x :: xs) = some ys) : ∃ y zs, f x = some y ∧ mapO f xs = some zs ∧ ys = y :: zs := by
  simp only [mapO] at h
  cases hf : f x with
  | none => simp [hf] at h
  | some y =>
    simp only [hf, Option.bind_some, Option.map_eq_some_iff] at h
    obtain ⟨zs, hz, rfl⟩ := h
    exact ⟨y, zs, rfl, hz, rfl⟩

theorem chunk_rep {z : Nat} (hz : 0 < z) : ∀ (len : Nat) (xs : List V) (us : List Value), RepCs Z w xs us → xs.length = len * z → RepEs Z w z (chunk z len xs) us := by
  intro len
  induction len with
  | zero =>
    intro xs us h hl
    obtain rfl : xs = [] := List.eq_nil_of_length_eq_zero (by simpa using hl)
    cases h; exact .nil z
  | succ len ih =>
    intro xs us h hl
    have hd := h.drop z
    have ht := h.take z
    have hu : us = us.take z ++ us.drop z := (List.take_append_drop z us).symm
    have hl' : (xs.drop z).length = len * z := by rw [List.length_drop, hl, Nat.add_mul]; omega
    have ih' := ih _ _ hd hl'
    unfold chunk
    by_cases h1 : z = 1
    · subst h1
      rw [if_pos rfl]
      cases h with
      | nil => simp at hl
      | cons hc h t => exact .one hc h ih'
    · rw [if_neg h1, hu]
      exact .agg ht (by rw [← ht.length, List.length_take, hl, Nat.add_mul]; omega) ih'
theorem chunk_length (z len : Nat) (xs : List V) : (chunk z len xs).length = len := by
  induction len generalizing xs with
  | zero => rfl
  | succ n ih => simp [chunk, ih]

/-- What a call, or whoever reads, sees. -/
theorem bor_sound (hm : RelM P φ Z m n w) {k : Bool} {Zb : Zs} (hs : SubZ Z Zb) (hk : k = true → ∀ g, Owned φ m g → ∀ o, Zb g o) : ∀ (d : Nat) (t : T) (u : Value) (x : V), RepT φ Z w t u → bor k m d t = some x → RepV Zb w x u := by
  intro d
  have base : ∀ d t u x, RepT φ Z w t u → (∃ y, t = .v y) ∨ t = .nil ∨ (∃ id, t = .loc id) ∨ (∃ cs, t = .fptr cs 0) → bor k m d t = some x → RepV Zb w x u := by
    rintro d t u x h (⟨y, rfl⟩ | rfl | ⟨id, rfl⟩ | ⟨cs, rfl⟩) hx
    · have : bor k m d (.v y) = some y := by cases d <;> rfl
      rw [this] at hx; cases hx
      cases h with | v h => exact h.mono hs (keep_refl _ _)
    · have : bor k m d .nil = some (.sl []) := by cases d <;> rfl
      rw [this] at hx; cases hx
      cases h; exact .nil _ _
    · have : elems m (.loc id) = (bor k m d (.loc id)).bind fun x => match x with | .sl xs => some xs | _ => none := by
        cases d <;> (simp only [elems, bor]; split <;> simp_all)
      rw [hx] at this
      have hb : ∃ xs, x = .sl xs := by
        cases d <;> (simp only [bor] at hx; split at hx <;> cases hx <;> exact ⟨_, rfl⟩)
      obtain ⟨xs, rfl⟩ := hb
      exact (elems_rep hm h (by simpa using this)).mono hs (keep_refl _ _)
    · have : bor k m d (.fptr cs 0) = some (.ref cs) := by cases d <;> rfl
      rw [this] at hx; cases hx
      cases h with
      | fptr h hz =>
        rw [add_zero']
        exact .ref (h.mono hs (keep_refl _ _)) fun i u hu => ⟨(hz i u hu).1, hs _ _ (hz i u hu).2⟩
  induction d with
  | zero =>
    intro t u x h hx
    cases t with
    | v y => exact base 0 _ u x h (.inl ⟨y, rfl⟩) hx
    | nil => exact base 0 _ u x h (.inr (.inl rfl)) hx
    | loc id => exact base 0 _ u x h (.inr (.inr (.inl ⟨id, rfl⟩))) hx
    | fptr cs off => cases off with
      | zero => exact base 0 _ u x h (.inr (.inr (.inr ⟨cs, rfl⟩))) hx
      | succ o => simp [bor] at hx
    | _ => simp [bor] at hx
  | succ d ih =>
    have list : ∀ ts us xs, RepTs φ Z w ts us → mapO (bor k m d) ts = some xs → RepVs Zb w xs us := by
      intro ts
      induction ts with
      | nil => intro us xs h hx; cases h; simp [mapO] at hx; subst hx; exact .nil
      | cons t ts iht =>
        intro us xs h hx
        obtain ⟨y, zs, h1, h2, rfl⟩ := mapO_cons hx
        cases h with | cons h t => exact .cons (ih _ _ _ h h1) (iht _ _ t h2)
    have cells : ∀ us xs, RepVs Zb w xs us → (∀ x ∈ xs, x.cell = true) → RepCs Zb w xs us := by
      intro us xs h
      induction xs generalizing us with
      | nil => intro _; cases h; exact .nil
      | cons y ys ihy =>
        intro hc
        cases h with | cons h t => exact .cons (hc y (by simp)) h (ihy _ t fun x hx => hc x (by simp [hx]))
    intro t u x h hx
    cases t with
    | v y => exact base _ _ u x h (.inl ⟨y, rfl⟩) hx
    | nil => exact base _ _ u x h (.inr (.inl rfl)) hx
    | loc id => exact base _ _ u x h (.inr (.inr (.inl ⟨id, rfl⟩))) hx
    | fptr cs off => cases off with
      | zero => exact base _ _ u x h (.inr (.inr (.inr ⟨cs, rfl⟩))) hx
      | succ o => simp [bor] at hx
    | agg cs =>
      simp only [bor] at hx
      obtain ⟨xs, h1, hx⟩ := obind_eq hx
      obtain ⟨h2, hx⟩ := tst_eq hx
      cases hx
      cases h with | agg h => exact .agg (cells _ _ (list _ _ _ h h1) h2)
    | tup cs =>
      simp only [bor, Option.map_eq_some_iff] at hx
      obtain ⟨xs, h1, rfl⟩ := hx
      cases h with | tup h => exact .tup (list _ _ _ h h1)
    | fn f cs =>
      simp only [bor, Option.map_eq_some_iff] at hx
      obtain ⟨xs, h1, rfl⟩ := hx
      cases h with | fn h => exact .fn (list _ _ _ h h1)
    | sv id co len =>
      simp only [bor] at hx
      cases k with
      | false => simp at hx
      | true =>
        have hZ := hk rfl
        simp only [if_true] at hx
        split at hx
        · rename_i e z cs hb
          obtain ⟨hle, hx⟩ := tst_eq hx
          obtain ⟨xs, h1, hx⟩ := obind_eq hx
          obtain ⟨h2, hx⟩ := tst_eq hx
          cases hx
          obtain ⟨v, hv, hz0, hsz, g, cur, hg, hcur, hl, hr, hc, hnz, hform⟩ := hm.blk _ _ hb
          cases h with
          | @sv _ _ _ g' n' c c' A h hlc hmm ha h00 =>
            have hgo := hZ g ⟨id, _, v, hb, rfl, hv, hg⟩
            rw [hv] at h; cases h
            cases hg
            have hcs := cells _ _ (list _ _ _ ((hr.drop co).take (len * z)) h1) h2
            by_cases hlen : len = 0
            · subst hlen; exact .nil _ _
            · have := ha (by omega)
              subst this
              have hxl : xs.length = len * z := by
                rw [← (mapO_spec h1).1, List.length_take, List.length_drop]; omega
              refine .sl (chunk_rep hz0 len xs _ hcs hxl) (chunk_length _ _ _) hlc hmm fun i u hu => ?_
              rw [add_lit]
              have hglt := (Array.getElem?_eq_some_iff.1 hcur).1
              refine ⟨?_, hgo _⟩
              rw [cell_of_row w _ (co + i) cur e (0, 0) hcur]
              rw [List.getElem?_take] at hu; split at hu
              · rw [List.getElem?_drop, List.getElem?_take] at hu; split at hu
                · simpa using hu
                · cases hu
              · cases hu
        · cases hx
    | ptr id off =>
      cases off with
      | succ o => simp [bor] at hx
      | zero =>
        simp only [bor] at hx
        cases k with
        | false => simp at hx
        | true =>
          have hZ := hk rfl
          simp only [if_true] at hx
          split at hx
          · rename_i e z cs hb
            obtain ⟨xs, h1, hx⟩ := obind_eq hx
            obtain ⟨h2, hx⟩ := tst_eq hx
            cases hx
            obtain ⟨g, cur, v, hv, hg, rfl, hcur, hl, hr, hc⟩ := box_at hm h hb
            refine .ref (cells _ _ (list _ _ _ hr h1) h2) fun i u hu => ?_
            rw [add_lit, Nat.zero_add]
            refine ⟨?_, hZ g ⟨id, _, v, hb, rfl, hv, hg⟩ _⟩
            rw [cell_of_row w _ i cur e (0, 0) hcur]
            rw [List.getElem?_take] at hu; split at hu
            · simpa using hu
            · cases hu
          · cases hx
theorem bors_sound (hm : RelM P φ Z m n w) {k : Bool} {Zb : Zs} (hs : SubZ Z Zb) (hk : k = true → ∀ g, Owned φ m g → ∀ o, Zb g o) {d : Nat} : ∀ (ts : List T) (us : List Value) (xs : List V), RepTs φ Z w ts us → mapO (bor k m d) ts = some xs → RepVs Zb w xs us := by
  intro ts
  induction ts with
  | nil => intro us xs h hx; cases h; simp [mapO] at hx; subst hx; exact .nil
  | cons t ts iht =>
    intro us xs h hx
    obtain ⟨y, zs, h1, h2, rfl⟩ := mapO_cons hx
    cases h with | cons h t => exact .cons (bor_sound hm hs hk d _ _ _ h h1) (iht _ _ t h2)

mutual
theorem flat_rep {Z' : Zs} {w' : World} : ∀ {x : V} {u : Value}, x.flat = true → RepV Z w x u → RepV Z' w' x u
  | .bool b, _, _, .bool _ => .bool b
  | .int k i, _, _, .int _ _ => .int k i
  | .str s, _, _, .str h => .str h
  | .tup vs, _, h, .tup g => .tup (flatL_rep (by simpa [V.flat] using h) g)
  | .agg vs, _, h, .agg g => .agg (flatC_rep (by simpa [V.flat] using h) g)
theorem flatL_rep {Z' : Zs} {w' : World} : ∀ {x : List V} {u : List Value}, flatL x = true → RepVs Z w x u → RepVs Z' w' x u
  | [], _, _, .nil => .nil
  | x :: xs, _, h, .cons g t => .cons (flat_rep (by simp [flatL] at h; exact h.1) g) (flatL_rep (by simp [flatL] at h; exact h.2) t)
theorem flatC_rep {Z' : Zs} {w' : World} : ∀ {x : List V} {u : List Value}, flatL x = true → RepCs Z w x u → RepCs Z' w' x u
  | [], _, _, .nil => .nil
  | x :: xs, _, h, .cons hc g t => .cons hc (flat_rep (by simp [flatL] at h; exact h.1) g) (flatC_rep (by simp [flatL] at h; exact h.2) t)
end

theorem ba_get (b : ByteArray) (i : Nat) : b[i]? = b.data[i]? := by
  by_cases h : i < b.size
  · rw [getElem?_pos b i h, getElem?_pos b.data i h]; rfl
  · rw [getElem?_neg b i h, getElem?_neg b.data i h]
theorem evIndex_sound {t : Nat} {a i x : T} {u ui : Value} (h : RepT φ Z w a u) (hi : RepT φ Z w i ui) (hx : evIndex P t i a = some x) : ∃ v, (Instr.index t u ui).run P w = .ok v w ∧ RepT φ Z w x v := by
  cases a with
  | v a =>
    cases a with
    | str s =>
      cases i with
      | v i =>
        cases i with
        | int k i =>
          obtain rfl := int_rep hi
          obtain ⟨⟨h1, h2⟩, hx⟩ := tst_eq hx
          obtain ⟨c, hc, hx⟩ := obind_eq hx
          cases hx
          obtain ⟨b, rfl, hb⟩ := str_rep h
          refine ⟨.int .u8 c.toNat, ?_, .v (.int _ _)⟩
          have hbc : b[i.toNat]? = some c := by
            rw [← hb] at hc
            rw [ba_get]; simpa using hc
          simp [Instr.index, asIntOf, run_underlying (und_of_isStr h1), h2, hbc]
        | _ => simp [evIndex] at hx
      | _ => simp [evIndex] at hx
    | _ => simp [evIndex] at hx
  | _ => simp [evIndex] at hx

theorem RepVs.get {cs : List V} {us : List Value} (h : RepVs Z w cs us) : ∀ (i : Nat) (x : V), cs[i]? = some x → ∃ u, us[i]? = some u ∧ RepV Z w x u := by
  induction cs generalizing us with
  | nil => intro i x hx; simp at hx
  | cons y ys ih =>
    cases h with
    | cons h t =>
      intro i x hx
      cases i with
      | zero => simp at hx; subst hx; exact ⟨_, rfl, h⟩
      | succ i => exact ih t i x (by simpa using hx)
theorem evExtract_sound {i : Nat} {a x : T} {u : Value} (h : RepT φ Z w a u) (hx : evExtract i a = some x) : ∃ v, (Instr.extract u i).run P w = .ok v w ∧ RepT φ Z w x v := by
  cases h with
  | tup h =>
    obtain ⟨u, h1, h2⟩ := h.get i x hx
    exact ⟨u, by simp [Instr.extract, h1], h2⟩
  | v h =>
    cases h with
    | tup h =>
      simp only [evExtract, Option.map_eq_some_iff] at hx
      obtain ⟨y, hy, rfl⟩ := hx
      obtain ⟨u, h1, h2⟩ := h.get i y hy
      exact ⟨u, by simp [Instr.extract, h1], .v h2⟩
    | _ => simp [evExtract] at hx
  | _ => simp [evExtract] at hx
end
end TL
