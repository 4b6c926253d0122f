/- TL, part 19: what is read from a part of memory, is read from the whole. -/
import Derived.Test.YtcoapdapigpfgaaDoorTlGb
set_option linter.unusedVariables false
set_option linter.unusedSimpArgs false
namespace TL
open Go Go.RowKit

def LeM (m m' : Mem) : Prop := ∀ i b, m i = some b → m' i = some b

theorem ob {α β : Type} {o o' : Option α} {k k' : α → Option β} {b : β} (h : obind o k = some b) (h1 : ∀ a, o = some a → o' = some a) (h2 : ∀ a, k a = some b → k' a = some b) : obind o' k' = some b := by
  obtain ⟨a, ha, hk⟩ := obind_eq h
  rw [h1 a ha]; exact h2 a hk
theorem ts {β : Type} {c : Prop} {d : Decidable c} {x x' : Option β} {b : β} (h : tst c x = some b) (h1 : x = some b → x' = some b) : tst c x' = some b := by
  obtain ⟨hc, hx⟩ := tst_eq h
  rw [tst_pos hc]; exact h1 hx

section
variable {P : Program} {m m' : Mem} (hm : LeM m m')
include hm

theorem elems_mono {t : T} {xs : List V} (h : elems m t = some xs) : elems m' t = some xs := by
  cases t with
  | loc id =>
    simp only [elems] at h ⊢
    split at h
    · rename_i e ys hi; rw [hm _ _ hi]; exact h
    · rename_i ys hi; rw [hm _ _ hi]; exact h
    · cases h
  | v y => cases y <;> exact h
  | _ => exact h
theorem slLen_mono {t : T} {k : Nat} (h : slLen m t = some k) : slLen m' t = some k := by
  unfold slLen at h ⊢
  split at h
  · exact h
  · rename_i hne
    simp only [Option.map_eq_some_iff] at h ⊢
    obtain ⟨xs, h1, h2⟩ := h
    exact ⟨xs, elems_mono hm h1, h2⟩
theorem ecells_mono {z : Nat} {t : T} {p : Nat × List T} (h : ecells m z t = some p) : ecells m' z t = some p := by
  unfold ecells at h ⊢
  split at h
  · split at h
    · rename_i e z' cs hi
      rw [hm _ _ hi]; exact h
    · cases h
  · exact ob h (fun xs => elems_mono hm) fun _ h => h
omit hm in
theorem mapO_mono {α β : Type} {f g : α → Option β} (hf : ∀ x y, f x = some y → g x = some y) : ∀ (xs : List α) (ys : List β), mapO f xs = some ys → mapO g xs = some ys
  | [], ys, h => h
  | x :: xs, ys, h => by
    obtain ⟨y, zs, h1, h2, rfl⟩ := mapO_cons h
    simp only [mapO, hf x y h1, Option.bind_some, mapO_mono hf xs zs h2, Option.map_some]
theorem bor_mono {k : Bool} : ∀ (d : Nat) (t : T) (x : V), bor k m d t = some x → bor k m' d t = some x := by
  intro d
  have base : ∀ d t x, ((∃ y, t = .v y) ∨ t = .nil ∨ (∃ id, t = .loc id) ∨ (∃ cs o, t = .fptr cs o)) → bor k m d t = some x → bor k m' d t = some x := by
    rintro d t x (⟨y, rfl⟩ | rfl | ⟨id, rfl⟩ | ⟨cs, o, rfl⟩) h
    · simpa [bor] using h
    · simpa [bor] using h
    · have e : ∀ m : Mem, bor k m d (.loc id) = match m id with | some (.arr _ xs) | some (.ro xs) => some (.sl xs) | _ => none := by intro m; cases d <;> (simp only [bor]; rfl)
      rw [e] at h ⊢
      split at h
      · rename_i e ys hi; rw [hm _ _ hi]; exact h
      · rename_i ys hi; rw [hm _ _ hi]; exact h
      · cases h
    · cases o with
      | zero => simpa [bor] using h
      | succ o => simp [bor] at h
  induction d with
  | zero =>
    intro t x h
    cases t with
    | v y => exact base _ _ _ (.inl ⟨y, rfl⟩) h
    | nil => exact base _ _ _ (.inr (.inl rfl)) h
    | loc id => exact base _ _ _ (.inr (.inr (.inl ⟨id, rfl⟩))) h
    | fptr cs o => exact base _ _ _ (.inr (.inr (.inr ⟨cs, o, rfl⟩))) h
    | _ => simp [bor] at h
  | succ d ih =>
    intro t x h
    cases t with
    | v y => exact base _ _ _ (.inl ⟨y, rfl⟩) h
    | nil => exact base _ _ _ (.inr (.inl rfl)) h
    | loc id => exact base _ _ _ (.inr (.inr (.inl ⟨id, rfl⟩))) h
    | fptr cs o => exact base _ _ _ (.inr (.inr (.inr ⟨cs, o, rfl⟩))) h
    | agg cs => simp only [bor] at h ⊢; exact ob h (fun xs => mapO_mono ih cs xs) fun _ h => h
    | tup cs =>
      simp only [bor, Option.map_eq_some_iff] at h ⊢
      obtain ⟨xs, h1, h2⟩ := h; exact ⟨xs, mapO_mono ih cs xs h1, h2⟩
    | fn f cs =>
      simp only [bor, Option.map_eq_some_iff] at h ⊢
      obtain ⟨xs, h1, h2⟩ := h; exact ⟨xs, mapO_mono ih cs xs h1, h2⟩
    | sv id co len =>
      simp only [bor] at h ⊢
      cases k with
      | false => simp at h
      | true =>
        simp only [if_true] at h ⊢
        split at h
        · rename_i e z cs hi
          rw [hm _ _ hi]
          exact ts h fun h => ob h (fun xs => mapO_mono ih _ xs) fun _ h => h
        · cases h
    | ptr id off =>
      cases off with
      | succ o => simp [bor] at h
      | zero =>
        simp only [bor] at h ⊢
        cases k with
        | false => simp at h
        | true =>
          simp only [if_true] at h ⊢
          split at h
          · rename_i e z cs hi
            rw [hm _ _ hi]
            exact ob h (fun xs => mapO_mono ih _ xs) fun _ h => h
          · cases h
theorem evLoad_mono {t : Nat} {a x : T} (h : evLoad P t m a = some x) : evLoad P t m' a = some x := by
  cases a with
  | ptr id off =>
    simp only [evLoad] at h ⊢
    split at h
    · rename_i hi; rw [hm _ _ hi]; exact h
    · cases h
  | v y => cases y <;> exact h
  | _ => exact h
theorem evIndexAddr_mono {t : Nat} {a i x : T} (h : evIndexAddr P t m a i = some x) : evIndexAddr P t m' a i = some x := by
  cases i with
  | v i =>
    cases i with
    | int k i =>
      simp only [evIndexAddr] at h ⊢
      refine ob h (fun _ h => h) fun e h => ob h (fun _ h => h) fun k h => ?_
      split at h
      · split at h
        · rename_i hi; rw [hm _ _ hi]; exact h
        · cases h
      · exact ob h (fun xs => elems_mono hm) fun _ h => h
    | _ => cases h
  | _ => cases h
theorem evSlice_mono {t : Nat} {a x : T} {lo hi : Option T} (h : evSlice P t m lo hi a = some x) : evSlice P t m' lo hi a = some x := by
  unfold evSlice at h ⊢
  split at h
  · exact h
  · refine ob h (fun _ h => h) fun e h => ob h (fun _ h => h) fun k h => ?_
    split at h
    · rename_i hi; rw [hm _ _ hi]; exact h
    · cases h
  · exact ob h (fun _ h => h) fun e h => ob h (fun _ h => h) fun k h => ob h (fun xs => elems_mono hm) fun _ h => h
theorem evBin_mono {op : BinOp} {t : Nat} {a b x : T} (h : evBin P m op t a b = some x) : evBin P m' op t a b = some x := by
  unfold evBin at h ⊢
  split at h
  · exact h
  · exact h
  · exact h
  · exact ob h (fun _ h => h) fun e h => ob h (fun x => bor_mono hm 2 _ x) fun k h => ob h (fun x => bor_mono hm 2 _ x) fun _ h => h
theorem evConvert_mono {src dst : Nat} {a x : T} (h : evConvert P src dst m a = some x) : evConvert P src dst m' a = some x := by
  unfold evConvert at h ⊢
  split at h
  · exact h
  · exact h
  · exact ts h fun h => ob h (fun _ h => h) fun e h => ts h fun h => ob h (fun xs => elems_mono hm) fun _ h => h
theorem evLen_mono {t : Nat} {a : T} {E : Eff} (h : evLen P t m a = some E) : evLen P t m' a = some E := by
  unfold evLen at h ⊢
  split at h
  · exact h
  · exact ob h (fun _ h => h) fun e h => ob h (fun x => slLen_mono hm) fun _ h => h

/-- A value. -/
theorem opF_mono {mu : Bool} {ρ : Operand → T} {n n' : Nat} {op : Op} {E : Eff} (h : opF P mu ρ m n op = some E) (hu : E.us = []) : opF P mu ρ m' n' op = some E := by
  cases op with
  | alloc t => simp only [opF] at h; exact absurd hu (us_alloc h)
  | box t x => simp only [opF] at h; exact absurd hu (us_box h)
  | buildSlice t len parts => simp only [opF] at h; exact absurd hu (us_buildSlice h)
  | makeSlice t l c => simp only [opF] at h; exact absurd hu (us_make h)
  | store t a x =>
    simp only [opF] at h
    obtain ⟨u, _, h⟩ := obind_eq h
    cases h; simp at hu
  | load t a => simp only [opF] at h ⊢; exact ob h (fun x => evLoad_mono hm) fun _ h => h
  | binOp op t x y q => simp only [opF] at h ⊢; exact ob h (fun x => evBin_mono hm) fun _ h => h
  | convert src dst x => simp only [opF] at h ⊢; exact ob h (fun x => evConvert_mono hm) fun _ h => h
  | slice t x lo hi mx =>
    cases mx with
    | none => simp only [opF] at h ⊢; exact ob h (fun x => evSlice_mono hm) fun _ h => h
    | some q => cases h
  | indexAddr t x i => simp only [opF] at h ⊢; exact ob h (fun x => evIndexAddr_mono hm) fun _ h => h
  | unOp o t x => cases o <;> exact h
  | makeFunc f first cap => cases f <;> exact h
  | call c =>
    obtain ⟨callee, args, ats⟩ := c
    cases callee with
    | builtin b =>
      simp only [opF] at h ⊢
      unfold evBuiltin at h ⊢
      split at h
      · split at h
        · exact evLen_mono hm h
        · cases h
      · split at h
        · obtain ⟨_, h⟩ := tst_eq h
          exact absurd hu (us_append h)
        · cases h
      · exact h
      · exact h
      · cases h
    | _ => cases h
  | _ => exact h
end
end TL
