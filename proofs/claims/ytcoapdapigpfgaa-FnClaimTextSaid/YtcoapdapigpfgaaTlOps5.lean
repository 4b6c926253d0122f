/- TL, part 12: new variables, structs, rows. -/
import Derived.Test.YtcoapdapigpfgaaTlOps4
import Derived.Great.BuildSlice
set_option linter.unusedVariables false
set_option linter.unusedSimpArgs false
namespace TL
open Go Go.RowKit

section
variable {P : Program} {φ : Phi} {Z : Zs} {m : Mem} {n : Nat} {w : World}

theorem RelM.succ (hm : RelM P φ Z m n w) : RelM P φ Z m (n + 1) w := ⟨hm.ok, fun i hi => hm.fresh i (by omega), hm.blk, hm.ne, hm.zlt⟩

theorem constCell_rep (v : Value) : RepT φ Z w (constCell v) v := by
  unfold constCell
  split
  · exact rep_bool _
  · exact rep_int _ _
  · exact .v (.str rfl)
  · exact .nil
  · exact .v (.any _)
theorem constCells_rep : ∀ vs : List Value, RepTs φ Z w (vs.map constCell) vs
  | [] => .nil
  | v :: vs => .cons (constCell_rep v) (constCells_rep vs)
theorem const_rep (v : Value) : RepT φ Z w (const v) v := by
  unfold const
  split
  · exact .agg (constCells_rep _)
  · exact constCell_rep v

theorem zeroC_spec {t : Nat} {zs : List T} (h : zeroC P t = some zs) : ∃ i z, P.info? t = some i ∧ i.zero = some z ∧ zs = (const z).cells := by
  unfold zeroC at h
  cases hi : P.info? t with
  | none => simp [hi] at h
  | some i =>
    simp only [hi, Option.bind_some, Option.map_eq_some_iff] at h
    obtain ⟨z, hz, rfl⟩ := h
    exact ⟨i, z, rfl, hz, rfl⟩
theorem info_zero_sz {t k : Nat} {zs : List T} (h : zeroC P t = some zs) (hk : sz P t = some k) : ∃ i z, P.info? t = some i ∧ i.zero = some z ∧ i.size = k ∧ zs = (const z).cells := by
  obtain ⟨i, z, h1, h2, h3⟩ := zeroC_spec h
  obtain ⟨j, h4, h5⟩ := info_of_sz hk
  rw [h1] at h4; cases h4
  exact ⟨i, z, h1, h2, h5, h3⟩

theorem Done.box (hm : RelM P φ Z m n w) {e : TypeId} {z : Nat} {cs : List T} {us : Array Value} {r : Result Next} (hr : r = .ok (.value (.pointer (some ⟨w.heap.size, 0, none⟩))) (w.alloc (.cells us e)))
    (hz : 0 < z) (hsz : sz P e = some z) (hc : allC cs) (h : RepTs φ Z w cs us.toList) : Done P φ Z m (n + 1) w r ⟨.ptr n 0, [(n, some (.box e z cs))]⟩ := by
  have hl : cs.length = us.size := by rw [h.length]; simp
  obtain ⟨h1, h2⟩ := hm.succ.allocMut (id := n) (by omega) (hm.fresh n (Nat.le_refl _)) (e := e) (z := z) (cs := cs) (cur := us) (v := .pointer (some ⟨w.heap.size, 0, none⟩)) hz hsz (by omega)
    (by rw [List.take_of_length_le (by simp; omega)]; exact h) hc (.inl rfl)
  exact ⟨_, _, _, _, .inl hr, h1, .ptr (updP_same _ _ _), h2⟩
theorem evAlloc_sound (hm : RelM P φ Z m n w) {t : Nat} {E : Eff} (hx : evAlloc P t n = some E) : Done P φ Z m (n + 1) w ((do pure (.value (← Instr.alloc t true (.tuple #[]))) : Sem Next).run P w) E := by
  unfold evAlloc at hx
  obtain ⟨zs, hzs, hx⟩ := obind_eq hx
  obtain ⟨k, hk, hx⟩ := obind_eq hx
  obtain ⟨⟨h1, h2, h3⟩, hx⟩ := tst_eq hx
  cases hx
  obtain ⟨i, z, g1, g2, g3, rfl⟩ := info_zero_sz hzs hk
  refine Done.box hm (us := z.cells) ?_ h3 hk h2 ((const_rep z).toCells hm.ok h2)
  simp [Instr.alloc, zeroValue, typeInfo, g1, g2, newVar, Go.newRow]
theorem evBox_sound (hm : RelM P φ Z m n w) {t : Nat} {x : T} {u : Value} {E : Eff} (h : RepT φ Z w x u) (hx : evBox P t n x = some E) : Done P φ Z m (n + 1) w ((do pure (.value (← Instr.box t u)) : Sem Next).run P w) E := by
  unfold evBox at hx
  obtain ⟨k, hk, hx⟩ := obind_eq hx
  obtain ⟨⟨h1, h2, h3⟩, hx⟩ := tst_eq hx
  cases hx
  refine Done.box hm (us := u.cells) ?_ h3 hk h2 (h.toCells hm.ok h2)
  simp [Instr.box, newVar, Go.newRow]

/-! structs -/
inductive RepPs (φ : Phi) (Z : Zs) (w : World) : List (Nat × T) → List (Nat × Value) → Prop
  | nil : RepPs φ Z w [] []
  | cons {i : Nat} {x : T} {u : Value} {xs : List (Nat × T)} {us : List (Nat × Value)} (h : RepT φ Z w x u) (t : RepPs φ Z w xs us) : RepPs φ Z w ((i, x) :: xs) ((i, u) :: us)
theorem RepPs.of {ρ : Operand → T} {ev : Operand → Value} (h : ∀ o, RepT φ Z w (ρ o) (ev o)) : ∀ l : List (Nat × Operand), RepPs φ Z w (l.map fun p => (p.1, ρ p.2)) (l.map fun p => (p.1, ev p.2))
  | [] => .nil
  | p :: l => .cons (h _) (RepPs.of h l)

theorem fill_step (cells us : Array Value) (off : Nat) (h : off + us.size ≤ cells.size) :
    (us.zipIdx.foldl (fun cs (c, j) => cs.setIfInBounds (off + j) c) cells).toList = cells.toList.take off ++ us.toList ++ cells.toList.drop (off + us.size) := by
  have e : us.zipIdx.foldl (fun cs (c, j) => cs.setIfInBounds (off + j) c) cells = (us.toList.zipIdx 0).foldl (fun cs (x : Value × Nat) => cs.setIfInBounds (off + x.2) x.1) cells := by
    rw [← Array.foldl_toList, Array.toList_zipIdx]
  obtain ⟨h1, h2⟩ := Great.foldl_set off us.toList 0 cells
  rw [e]
  apply List.ext_getElem?
  intro k
  rw [Array.getElem?_toList, h2 k]
  simp only [Nat.add_zero, Array.length_toList]
  have lt : (cells.toList.take off).length = off := by rw [List.length_take, Array.length_toList]; omega
  have ltu : (cells.toList.take off ++ us.toList).length = off + us.size := by rw [List.length_append, lt, Array.length_toList]
  by_cases ha : k < off
  · rw [if_neg (by omega), List.append_assoc, List.getElem?_append_left (by rw [lt]; omega), List.getElem?_take, if_pos ha, Array.getElem?_toList]
  · by_cases hb : k < off + us.size
    · rw [if_pos ⟨by omega, hb, by omega⟩, List.getElem?_append_left (by rw [ltu]; exact hb), List.getElem?_append_right (by rw [lt]; omega), lt]
    · rw [if_neg (by omega), List.getElem?_append_right (by rw [ltu]; omega), ltu, List.getElem?_drop, Array.getElem?_toList]
      congr 1; omega
theorem RepTs.setAt {cs xs : List T} {us vs : List Value} (h : RepTs φ Z w cs us) (g : RepTs φ Z w xs vs) {off : Nat} (hl : off + xs.length ≤ cs.length) : RepTs φ Z w (setAt cs off xs) (us.take off ++ vs ++ us.drop (off + vs.length)) := by
  rw [setAt_spec _ _ _ hl, g.length]
  exact ((h.take off).append g).append (h.drop _)

theorem places_get : ∀ (fs : List Field) (places : List (Nat × Nat)), fs.mapM (fun f => (P.info? f.type).map fun i => (f.offset, i.size)) = some places → ∀ (i : Nat) (f : Field), fs[i]? = some f → ∀ k, sz P f.type = some k → places[i]? = some (f.offset, k)
  | [], places, h, i, f, hf, k, hk => by simp at hf
  | g :: fs, places, h, i, f, hf, k, hk => by
    simp only [List.mapM_cons, Option.bind_eq_bind, Option.pure_def, Option.bind_eq_some_iff, Option.map_eq_some_iff] at h
    obtain ⟨a, ⟨q, hq, rfl⟩, rest, hrest, h⟩ := h
    cases h
    cases i with
    | zero =>
      simp only [List.getElem?_cons_zero, Option.some.injEq] at hf ⊢
      subst hf
      obtain ⟨j, h4, h5⟩ := info_of_sz hk
      rw [hq] at h4; cases h4; rw [h5]
    | succ i =>
      simp only [List.getElem?_cons_succ] at hf ⊢
      exact places_get fs rest hrest i f hf k hk
theorem places_some : ∀ (fs : List Field), (fs.all fun f => (P.info? f.type).isSome) = true → ∃ places, fs.mapM (fun f => (P.info? f.type).map fun i => (f.offset, i.size)) = some places
  | [], _ => ⟨[], rfl⟩
  | f :: fs, h => by
    simp only [List.all_cons, Bool.and_eq_true, Option.isSome_iff_exists] at h
    obtain ⟨⟨i, hi⟩, h⟩ := h
    obtain ⟨ps, hps⟩ := places_some fs h
    exact ⟨(f.offset, i.size) :: ps, by simp [List.mapM_cons, hi, hps]⟩

theorem placeC_sound (hφ : PhiOk φ) {t : Nat} {fs : Array Field} {places : List (Nat × Nat)} (hu : P.underlying t = some (.struct fs)) (hp : fs.toList.mapM (fun f => (P.info? f.type).map fun i => (f.offset, i.size)) = some places) :
    ∀ (parts : List (Nat × T)) (vals : List (Nat × Value)) (cs : List T) (cells : Array Value) (cs' : List T), RepPs φ Z w parts vals → RepTs φ Z w cs cells.toList → placeC P t parts cs = some cs' →
    ∃ r, Instr.fill (places.toArray[·]?) cells vals = some r ∧ RepTs φ Z w cs' r.toList := by
  intro parts
  induction parts with
  | nil => intro vals cs cells cs' h hr hx; cases h; cases hx; exact ⟨cells, rfl, hr⟩
  | cons p parts ih =>
    intro vals cs cells cs' h hr hx
    cases h with
    | @cons i x u _ us h tl =>
      simp only [placeC] at hx
      obtain ⟨o, ho, hx⟩ := obind_eq hx
      obtain ⟨k, hk, hx⟩ := obind_eq hx
      obtain ⟨⟨h1, h2, h3⟩, hx⟩ := tst_eq hx
      obtain ⟨fs', g, k', f1, f2, f3, f4, f5⟩ := fo_spec ho
      rw [hu] at f1; cases f1
      have hpl : places.toArray[i]? = some (o, k) := by
        have : fsz P t i = sz P g.type := by simp only [fsz, hu, Option.bind_some, f2]
        rw [this] at hk
        have := places_get _ _ hp i g (by simpa using f2) k hk
        rw [List.getElem?_toArray, this, f3]
      have hcells := h.toCells hφ h2
      have hsz : u.cells.size = k := by have := hcells.length; rw [h1] at this; simpa using this.symm
      have hcl : cs.length = cells.size := by rw [hr.length]; simp
      have hst := fill_step cells u.cells o (by omega)
      obtain ⟨r, hr1, hr2⟩ := ih us _ (u.cells.zipIdx.foldl (fun cs (c, j) => cs.setIfInBounds (o + j) c) cells) cs' tl (by rw [hst]; have := hr.setAt hcells (off := o) (by omega); simpa using this) hx
      refine ⟨r, ?_, hr2⟩
      simp only [Instr.fill, hpl]
      rw [if_neg (by simp [hsz]; omega)]
      exact hr1
theorem evBuild_sound (hm : RelM P φ Z m n w) {t : Nat} {parts : List (Nat × T)} {vals : List (Nat × Value)} {x : T} (h : RepPs φ Z w parts vals) (hx : evBuild P t parts = some x) :
    ∃ v, (Instr.build t vals.toArray).run P w = .ok v w ∧ RepT φ Z w x v := by
  unfold evBuild at hx
  obtain ⟨zs, hzs, hx⟩ := obind_eq hx
  obtain ⟨k, hk, hx⟩ := obind_eq hx
  obtain ⟨⟨h1, h2, h3⟩, hx⟩ := tst_eq hx
  obtain ⟨cs, hcs, hx⟩ := obind_eq hx
  cases hx
  obtain ⟨i, z, g1, g2, g3, rfl⟩ := info_zero_sz hzs hk
  unfold fieldsOk at h2
  split at h2
  · rename_i fs hu
    obtain ⟨places, hp⟩ := places_some fs.toList h2
    obtain ⟨r, hr, hr2⟩ := placeC_sound hm.ok hu hp parts vals _ z.cells cs h ((const_rep z).toCells hm.ok h3) hcs
    refine ⟨.agg r, run_build w t vals.toArray r ?_, ?_⟩
    · unfold Program.built
      simp only [g1, hu, g2, hp, hr]
    · exact RepT.agg (us := r.toList) hr2
  · cases h2
end
end TL
