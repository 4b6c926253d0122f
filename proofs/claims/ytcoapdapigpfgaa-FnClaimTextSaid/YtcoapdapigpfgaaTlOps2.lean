/- TL, part 9: addresses, slices, texts, numbers. -/
import Derived.Test.YtcoapdapigpfgaaTlOps
import Derived.Laws.StructEq
import Derived.Laws.Concat
import Derived.Laws.Slices
import Derived.Laws.BytesString
import Derived.Laws.BytesArg
set_option linter.unusedVariables false
set_option linter.unusedSimpArgs false
namespace TL
open Go Go.RowKit

section
variable {P : Program} {φ : Phi} {Z : Zs} {m : Mem} {n : Nat} {w : World}

theorem fo_spec {t f o : Nat} (h : fo P t f = some o) : ∃ fs g k, P.underlying t = some (.struct fs) ∧ fs[f]? = some g ∧ g.offset = o ∧ sz P g.type = some k ∧ k ≠ 0 := by
  unfold fo at h
  cases hu : P.underlying t with
  | none => simp [hu] at h
  | some d =>
    simp only [hu, Option.bind_some] at h
    split at h
    · rename_i fs
      cases hf : fs[f]? with
      | none => simp [hf] at h
      | some g =>
        simp only [hf, Option.bind_some] at h
        split at h
        · cases h
        · split at h
          · rename_i h0 h1
            cases h
            obtain ⟨k, hk⟩ := Option.isSome_iff_exists.1 h1
            exact ⟨fs, g, k, rfl, hf, rfl, hk, by rintro rfl; exact h0 hk⟩
          · cases h
    · cases h
theorem run_fieldAt {t f o : Nat} (h : fo P t f = some o) (a : Addr) : (Instr.fieldAt t (.pointer (some a)) f).run P w = .ok (.pointer (some (a.add o))) w := by
  obtain ⟨fs, g, k, h1, h2, h3, h4, h5⟩ := fo_spec h
  simp [Instr.fieldAt, run_underlying h1, h2, Instr.sureAddr, fieldPlace, run_sizeOf h4, h5, h3]
theorem evFieldAddr_sound {t f : Nat} {a x : T} {u : Value} (h : RepT φ Z w a u) (hx : evFieldAddr P t f a = some x) : ∃ v, (Instr.fieldAt t u f).run P w = .ok v w ∧ RepT φ Z w x v := by
  cases h with
  | @ptr id off k h =>
    obtain ⟨o, ho, hx⟩ := obind_eq hx; cases hx
    refine ⟨_, run_fieldAt ho _, ?_⟩
    rw [add_lit]; exact .ptr h
  | @ptrs id off k n c h =>
    obtain ⟨o, ho, hx⟩ := obind_eq hx; cases hx
    refine ⟨_, run_fieldAt ho _, ?_⟩
    rw [add_lit]; exact .ptrs h
  | @fptr cs off us ad h hz =>
    obtain ⟨o, ho, hx⟩ := obind_eq hx; cases hx
    refine ⟨_, run_fieldAt ho _, ?_⟩
    rw [add_add]; exact .fptr h hz
  | v h =>
    cases h with
    | ref h hz =>
      obtain ⟨o, ho, hx⟩ := obind_eq hx; cases hx
      exact ⟨_, run_fieldAt ho _, .fptr h hz⟩
    | _ => simp [evFieldAddr] at hx
  | _ => simp [evFieldAddr] at hx

theorem evNilCheck_sound {a x : T} {u : Value} (h : RepT φ Z w a u) (hx : evNilCheck a = some x) : x = a ∧ ∃ ad, u = .pointer (some ad) := by
  cases h with
  | ptr h => cases hx; exact ⟨rfl, _, rfl⟩
  | ptrs h => cases hx; exact ⟨rfl, _, rfl⟩
  | fptr h hz => cases hx; exact ⟨rfl, _, rfl⟩
  | v h =>
    cases h with
    | ref h hz => cases hx; exact ⟨rfl, _, rfl⟩
    | _ => simp [evNilCheck] at hx
  | _ => simp [evNilCheck] at hx

/-- An element's address. -/
theorem RepV.elem {xs : List V} {y : V} {i : Nat} {A : Option Addr} {n c k : Nat} (h : RepV Z w (.sl xs) (.slice A n c)) (hi : xs[i]? = some y) (hk : y.cells.length = k) :
    n = xs.length ∧ i < n ∧ ∃ ad us, A = some ad ∧ RepCs Z w y.cells us ∧ ∀ j u, us[j]? = some u → w.cell? ((ad.add (i * k)).add j) = some u ∧ Z ((ad.add (i * k)).add j).block ((ad.add (i * k)).add j).off := by
  cases h with
  | nil => simp at hi
  | @sl z _ us ad _ _ he hn hc hm hz =>
    have hlt : i < xs.length := by
      rcases Nat.lt_or_ge i xs.length with h | h
      · exact h
      · rw [List.getElem?_eq_none h] at hi; cases hi
    obtain ⟨vs, h1, h2, h3⟩ := he.get i y hi
    have hkz : z = k := by rw [← h2, ← h1.length, hk]
    subst hkz
    refine ⟨hn.symm, by omega, ad, vs, rfl, h1, fun j u hu => ?_⟩
    rw [add_add]
    exact hz _ u (h3 j u hu)

theorem slice_of_elems (hm : RelM P φ Z m n w) {t : T} {u : Value} {xs : List V} (h : RepT φ Z w t u) (hx : elems m t = some xs) : ∃ A c, u = .slice A xs.length c ∧ xs.length ≤ c ∧ c ≤ maxLen ∨ ∃ A c, u = .slice A 0 c ∧ xs = [] := by
  have := elems_rep hm h hx
  cases this with
  | nil A c => exact ⟨none, 0, .inr ⟨_, _, rfl, rfl⟩⟩
  | sl he hn hc hmm hz => exact ⟨_, _, .inl ⟨by rw [hn], by omega, hmm⟩⟩

theorem fpAt_sound {e t : Nat} {i : Int} {ki : IntKind} {xs : List V} {k : Nat} {x : T} {u : Value} (hv : RepV Z w (.sl xs) u) (he : elT P t = some e) (hk : sz P e = some k) (hx : fpAt k i xs = some x) :
    ∃ v, (Instr.indexAt t u (.int ki i)).run P w = .ok v w ∧ RepT φ Z w x v := by
  obtain ⟨h0, hx⟩ := tst_eq hx
  obtain ⟨y, hy, hx⟩ := obind_eq hx
  obtain ⟨⟨hl, hk0⟩, hx⟩ := tst_eq hx
  cases hx
  have hs : ∃ A c, u = .slice A xs.length c := by
    cases hv with
    | nil A c => exact ⟨A, c, rfl⟩
    | sl _ hn _ _ _ => exact ⟨_, _, by rw [hn]⟩
  obtain ⟨A, c, rfl⟩ := hs
  obtain ⟨_, hlt, ad, us, rfl, h2, h3⟩ := hv.elem hy hl
  have hi : i < (xs.length : Int) := by omega
  refine ⟨.pointer (some (ad.add (i.toNat * k))), ?_, ?_⟩
  · simp [Instr.indexAt, asIntOf, run_underlying (und_of_elT he), run_sizeOf hk, h0, hi]
  · have := RepT.fptr (φ := φ) (off := 0) h2 h3
    rwa [add_zero'] at this
theorem evIndexAddr_sound (hm : RelM P φ Z m n w) {t : Nat} {a i x : T} {u ui : Value} (h : RepT φ Z w a u) (hi : RepT φ Z w i ui) (hx : evIndexAddr P t m a i = some x) :
    ∃ v, (Instr.indexAt t u ui).run P w = .ok v w ∧ RepT φ Z w x v := by
  cases i with
  | v i =>
    cases i with
    | int ki i =>
      obtain rfl := int_rep hi
      simp only [evIndexAddr] at hx
      obtain ⟨e, he, hx⟩ := obind_eq hx
      obtain ⟨k, hk, hx⟩ := obind_eq hx
      cases a with
      | sv id co len =>
        simp only at hx
        split at hx
        · rename_i e' z cs hb
          obtain ⟨⟨hzk, h0, h1⟩, hx1⟩ := tst_eq hx
          clear hx; subst hzk
          cases hx1
          cases h with
          | @sv _ _ _ k n' c c' A h hl hmm ha h00 =>
            have := ha (by omega)
            subst this
            refine ⟨.pointer (some ⟨k, co + i.toNat * z, none⟩), ?_, .ptrs h⟩
            simp [Instr.indexAt, asIntOf, run_underlying (und_of_elT he), run_sizeOf hk, h0, h1, add_lit]
        · cases hx
      | _ =>
        simp only at hx
        obtain ⟨xs, hxs, hx⟩ := obind_eq hx
        exact fpAt_sound (elems_rep hm h hxs) he hk hx
    | _ => simp [evIndexAddr] at hx
  | _ => simp [evIndexAddr] at hx

/-! slices -/
theorem RepEs.take {z : Nat} {xs : List V} {us : List Value} (h : RepEs Z w z xs us) (k : Nat) : RepEs Z w z (xs.take k) (us.take (k * z)) := by
  induction xs generalizing us z k with
  | nil => cases h; simpa using RepEs.nil z
  | cons y ys ih =>
    cases k with
    | zero => simpa using RepEs.nil z
    | succ k =>
      cases h with
      | @agg _ cs u us' _ h hl t =>
        have : (u ++ us').take ((k + 1) * z) = u ++ us'.take (k * z) := by
          rw [List.take_append, List.take_of_length_le (by rw [hl, Nat.add_mul]; omega), hl, Nat.add_mul]
          congr 2; omega
        rw [this]; exact .agg h hl (ih t k)
      | one hc h t =>
        have := ih t k
        simp only [Nat.mul_one] at this ⊢
        exact .one hc h this
theorem RepEs.drop {z : Nat} {xs : List V} {us : List Value} (h : RepEs Z w z xs us) (k : Nat) : RepEs Z w z (xs.drop k) (us.drop (k * z)) := by
  induction xs generalizing us z k with
  | nil => cases h; simpa using RepEs.nil z
  | cons y ys ih =>
    cases k with
    | zero => simpa using h
    | succ k =>
      cases h with
      | @agg _ cs u us' _ h hl t =>
        have : (u ++ us').drop ((k + 1) * z) = us'.drop (k * z) := by
          rw [List.drop_append, List.drop_of_length_le (by rw [hl, Nat.add_mul]; omega), hl, Nat.add_mul, List.nil_append]
          congr 1; omega
        rw [this]; exact ih t k
      | one hc h t =>
        have := ih t k
        simp only [Nat.mul_one] at this ⊢
        exact this
theorem allZ_z {k z : Nat} {xs : List V} {us : List Value} (h : RepEs Z w z xs us) (ha : allZ k xs) (hne : xs ≠ []) : z = k := by
  cases xs with
  | nil => exact absurd rfl hne
  | cons y ys =>
    obtain ⟨vs, h1, h2, _⟩ := h.get 0 y rfl
    rw [← h2, ← h1.length]; exact (ha y (by simp)).1

/-- The bounds of a slice expression, as the machine asks them. -/
theorem bounds_sound {lo hi : Option T} {ulo uhi : Option Value} {len cap : Nat} {isS : Bool} {l h : Nat} (hlc : len ≤ cap) (hlo : ∀ t, lo = some t → ∃ u, ulo = some u ∧ RepT φ Z w t u) (hlo' : lo = none → ulo = none)
    (hhi : ∀ t, hi = some t → ∃ u, uhi = some u ∧ RepT φ Z w t u) (hhi' : hi = none → uhi = none) (hx : slRange len lo hi = some (l, h)) :
    (Instr.sliceBounds isS len cap ulo uhi none).run P w = .ok (l, h, cap) w ∧ l ≤ h ∧ h ≤ len := by
  unfold slRange at hx
  obtain ⟨hh, hhb, hx⟩ := obind_eq hx
  obtain ⟨ll, hlb, hx⟩ := obind_eq hx
  obtain ⟨⟨h1, h2, h3⟩, hx⟩ := tst_eq hx
  cases hx
  have rh : (match uhi with | some v => Instr.sliceBound v cap (if isS then .sliceAcap else .sliceAlen) | none => pure len).run P w = .ok hh.toNat w := by
    cases hi with
    | none => rw [hhi' rfl]; simp only [bnd] at hhb; cases hhb; simp
    | some t =>
      obtain ⟨u, rfl, hr⟩ := hhi t rfl
      cases hr with
      | v hr => cases hr <;> simp only [bnd] at hhb <;> cases hhb; exact run_sliceBound w _ _ _ _ (by omega) (by omega)
      | _ => simp [bnd] at hhb
  have rl : (match ulo with | some v => Instr.sliceBound v hh.toNat .sliceB | none => pure 0).run P w = .ok ll.toNat w := by
    cases lo with
    | none => rw [hlo' rfl]; simp only [bnd] at hlb; cases hlb; simp
    | some t =>
      obtain ⟨u, rfl, hr⟩ := hlo t rfl
      cases hr with
      | v hr => cases hr <;> simp only [bnd] at hlb <;> cases hlb; exact run_sliceBound w _ _ _ _ (by omega) (by omega)
      | _ => simp [bnd] at hlb
  refine ⟨?_, by omega, by omega⟩
  unfold Instr.sliceBounds
  simp only [Sem.run_bind, Sem.run_pure, Result.andThen_ok, Option.isSome_none, Bool.false_eq_true, if_false]
  cases uhi <;> cases ulo <;> simp only [Sem.run_pure, Result.andThen_ok] at rh rl ⊢ <;> simp_all

theorem evSlice_sound (hm : RelM P φ Z m n w) {t : Nat} {a x : T} {lo hi : Option T} {u : Value} {ulo uhi : Option Value} (h : RepT φ Z w a u) (hlo : ∀ t, lo = some t → ∃ u, ulo = some u ∧ RepT φ Z w t u) (hlo' : lo = none → ulo = none)
    (hhi : ∀ t, hi = some t → ∃ u, uhi = some u ∧ RepT φ Z w t u) (hhi' : hi = none → uhi = none) (hx : evSlice P t m lo hi a = some x) :
    ∃ v, (Instr.sliceAt t u ulo uhi none).run P w = .ok v w ∧ RepT φ Z w x v := by
  have general : ∀ xs, RepV Z w (.sl xs) u → (obind (elT P t) fun e => obind (sz P e) fun k => tst (allZ k xs) (obind (slRange xs.length lo hi) fun p => some (T.v (.sl ((xs.take p.2).drop p.1))))) = some x →
      ∃ v, (Instr.sliceAt t u ulo uhi none).run P w = .ok v w ∧ RepT φ Z w x v := by
    intro xs hv hx
    obtain ⟨e, he, hx⟩ := obind_eq hx
    obtain ⟨k, hk, hx⟩ := obind_eq hx
    obtain ⟨ha, hx⟩ := tst_eq hx
    obtain ⟨⟨l, r⟩, hr, hx⟩ := obind_eq hx
    cases hx
    cases hv with
    | nil A c =>
      obtain ⟨hb, h1, h2⟩ := bounds_sound (P := P) (w := w) (isS := true) (len := 0) (cap := c) (Nat.zero_le _) hlo hlo' hhi hhi' hr
      refine ⟨.slice (if c = l then A else A.map (·.add (l * k))) (r - l) (c - l), ?_, ?_⟩
      · simp [Instr.sliceAt, Instr.slice, run_underlying (und_of_elT he), hb, run_sizeOf hk]
      · have e1 : r - l = 0 := by simp at h2; omega
        rw [e1]; simpa using RepT.v (.nil _ _)
    | @sl z _ us ad nn c hes hn hc hmm hz =>
      obtain ⟨hb, h1, h2⟩ := bounds_sound (P := P) (w := w) (isS := true) (len := nn) (cap := c) hc hlo hlo' hhi hhi' (by rw [← hn]; exact hr)
      refine ⟨.slice (if c = l then some ad else some (ad.add (l * k))) (r - l) (c - l), ?_, .v ?_⟩
      · simp [Instr.sliceAt, Instr.slice, run_underlying (und_of_elT he), hb, run_sizeOf hk]
      · by_cases hlr : l = r
        · subst hlr
          rw [Nat.sub_self, List.drop_of_length_le (by rw [List.length_take]; omega)]
          exact .nil _ _
        · have hne : xs ≠ [] := by rintro rfl; simp at hn; omega
          obtain rfl := allZ_z hes ha hne
          rw [if_neg (by omega)]
          refine .sl ((hes.take r).drop l) ?_ (by omega) (by omega) fun i u hu => ?_
          · rw [List.length_drop, List.length_take]; omega
          · rw [add_add]
            refine hz _ u ?_
            rw [List.getElem?_drop, List.getElem?_take] at hu
            split at hu
            · exact hu
            · cases hu
  cases h with
  | v h =>
    rename_i y
    cases y with
    | str s =>
      obtain ⟨hs, hx⟩ := tst_eq hx
      obtain ⟨⟨l, r⟩, hr, hx⟩ := obind_eq hx
      cases hx
      cases h with
      | @str _ b h =>
        have hsz : s.length = b.size := by rw [← h, Array.length_toList]; rfl
        obtain ⟨hb, h1, h2⟩ := bounds_sound (P := P) (w := w) (isS := false) (len := b.size) (cap := b.size) (Nat.le_refl _) hlo hlo' hhi hhi' (by rw [← hsz]; exact hr)
        refine ⟨.string (b.extract l r), ?_, .v (.str ?_)⟩
        · simp only [Instr.sliceAt, Instr.slice, Sem.run_bind, run_underlying (und_of_isStr hs), Result.andThen_ok, Option.isSome_none, Bool.false_eq_true, if_false, Sem.run_pure, hb]
        · rw [ByteArray.data_extract, Array.toList_extract, h, List.extract_eq_take_drop, List.drop_take]
    | sl xs => exact general xs h (by have h := hx; simp only [evSlice, elems, obind_some] at h; exact h)
    | _ => simp only [evSlice, elems, obind_none] at hx; obtain ⟨_, _, hx⟩ := obind_eq hx; obtain ⟨_, _, hx⟩ := obind_eq hx; cases hx
  | @sv id co len k n' c c' A h hl hmm ha h00 =>
    simp only [evSlice] at hx
    obtain ⟨e, he, hx⟩ := obind_eq hx
    obtain ⟨kk, hk, hx⟩ := obind_eq hx
    split at hx
    · rename_i e' z cs hb
      obtain ⟨hzk, hx1⟩ := tst_eq hx
      clear hx; subst hzk
      obtain ⟨⟨l, r⟩, hr, hx2⟩ := obind_eq hx1
      cases hx2
      obtain ⟨hb', h1, h2⟩ := bounds_sound (P := P) (w := w) (isS := true) (len := len) (cap := c') hl hlo hlo' hhi hhi' hr
      refine ⟨.slice (if c' = l then A else A.map (·.add (l * z))) (r - l) (c' - l), ?_, ?_⟩
      · simp [Instr.sliceAt, Instr.slice, run_underlying (und_of_elT he), hb', run_sizeOf hk]
      · refine .sv h (by omega) (by omega) (fun hp => ?_) (fun h0 => ?_)
        · have := ha (by omega)
          subst this
          rw [if_neg (by omega)]
          simp [add_lit]
        · simp only at h0
          have hz0 : 0 < z := by
            obtain ⟨v', hv', hbb⟩ := hm.blk _ _ hb
            exact hbb.1
          have hco : co = 0 := by omega
          have hl0 : l = 0 := by
            have : l * z = 0 := by omega
            rcases Nat.mul_eq_zero.1 this with h | h
            · exact h
            · omega
          obtain ⟨h3, h4⟩ := h00 hco
          subst hl0 h3 h4
          simp [add_zero']
    · cases hx
  | nil => exact general [] (.nil _ _) (by have h := hx; simp only [evSlice, elems, obind_some] at h; exact h)
  | @loc id u h =>
    simp only [evSlice] at hx
    obtain ⟨e, he, hx⟩ := obind_eq hx
    obtain ⟨kk, hk, hx⟩ := obind_eq hx
    obtain ⟨xs, hxs, hx⟩ := obind_eq hx
    refine general xs (elems_rep hm (.loc h) hxs) ?_
    simp only [he, hk, obind_some]; exact hx
  | _ => simp only [evSlice, elems, obind_none] at hx; obtain ⟨_, _, hx⟩ := obind_eq hx; obtain ⟨_, _, hx⟩ := obind_eq hx; cases hx
end
end TL
