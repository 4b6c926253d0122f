/- TL, part 13: slices made, slices written out. -/
import Derived.Test.YtcoapdapigpfgaaTlOps5
import Derived.Laws.MakeOwn
set_option linter.unusedVariables false
set_option linter.unusedSimpArgs false
namespace TL
open Go Go.RowKit

section
variable {P : Program} {φ : Phi} {Z : Zs} {m : Mem} {n : Nat} {w : World}

theorem inOrder_spec : ∀ (l : List (Nat × T)) (i : Nat) (vals : List (Nat × Value)) (xs : List T), RepPs φ Z w l vals → inOrder i l = some xs → ∃ us : List Value, RepTs φ Z w xs us ∧ vals = (us.zipIdx i).map fun x => (x.2, x.1)
  | [], i, vals, xs, h, hx => by cases h; cases hx; exact ⟨[], .nil, rfl⟩
  | (j, x) :: l, i, vals, xs, h, hx => by
    cases h with
    | cons h t =>
      simp only [inOrder] at hx
      obtain ⟨rfl, hx⟩ := tst_eq hx
      simp only [Option.map_eq_some_iff] at hx
      obtain ⟨ys, hys, rfl⟩ := hx
      obtain ⟨us, h1, rfl⟩ := inOrder_spec l _ _ _ t hys
      exact ⟨_ :: us, .cons h h1, by simp [List.zipIdx_cons]⟩

theorem flat_length {k : Nat} : ∀ (vs : List Value), (∀ v ∈ vs, v.cells.size = k) → (vs.flatMap fun v => v.cells.toList).length = vs.length * k
  | [], _ => by simp
  | v :: vs, h => by
    rw [List.flatMap_cons, List.length_append, flat_length vs fun u hu => h u (by simp [hu])]
    simp only [Array.length_toList, h v (by simp), List.length_cons, Nat.add_mul, Nat.one_mul]; omega
/-- Parts of k cells each from the first place on. -/
theorem fill_rows {k : Nat} (hk : 0 < k) : ∀ (vs : List Value) (i : Nat) (cells : Array Value), (∀ v ∈ vs, v.cells.size = k) → cells.size = (i + vs.length) * k →
    Instr.fill (fun i => some (i * k, k)) cells ((vs.zipIdx i).map fun x => (x.2, x.1)) = some (cells.toList.take (i * k) ++ vs.flatMap fun v => v.cells.toList).toArray
  | [], i, cells, h, hs => by
    simp only [List.zipIdx_nil, List.map_nil, Instr.fill, List.flatMap_nil, List.append_nil, List.length_nil, Nat.add_zero] at hs ⊢
    rw [List.take_of_length_le (by simp [hs])]
  | v :: vs, i, cells, h, hs => by
    have hv := h v (by simp)
    have e : (i + (v :: vs).length) * k = i * k + k + vs.length * k := by simp only [List.length_cons, Nat.add_mul, Nat.one_mul]; omega
    rw [e] at hs
    have hst := fill_step cells v.cells (i * k) (by omega)
    simp only [List.zipIdx_cons, List.map_cons, Instr.fill]
    rw [if_neg (by simp [hv]; omega)]
    have hsz : (v.cells.zipIdx.foldl (fun cs (c, j) => cs.setIfInBounds (i * k + j) c) cells).size = (i + 1 + vs.length) * k := by
      rw [← Array.length_toList, hst]
      simp only [List.length_append, List.length_take, List.length_drop, Array.length_toList, Nat.add_mul, Nat.one_mul]; omega
    rw [fill_rows hk vs (i + 1) _ (fun u hu => h u (by simp [hu])) hsz, hst]
    congr 2
    rw [List.flatMap_cons, ← List.append_assoc]
    congr 1
    have hl : (cells.toList.take (i * k) ++ v.cells.toList).length = (i + 1) * k := by
      simp only [List.length_append, List.length_take, Array.length_toList, Nat.add_mul, Nat.one_mul]; omega
    rw [← hl, List.take_left]

theorem run_buildSlice0 (w : World) (t e : TypeId) (parts : Array (Nat × Value)) (ie : TypeInfo) (hu : P.underlying t = some (.slice e)) (hie : P.info? e = some ie) (hp : parts.toList = []) :
    (Instr.buildSlice t 0 parts).run P w = .ok (.slice (some ⟨w.heap.size, 0, none⟩) 0 0) (w.alloc (.cells #[] e)) := by
  simp [Instr.buildSlice, run_underlying hu, Go.sizeOf, typeInfo, hie, hp, Instr.fill, Go.newRow, Array.range_zero']

/-- One element's cells. -/
theorem RepV.elemCells {v : V} {u : Value} {k : Nat} (h : RepV Z w v u) (hl : v.cells.length = k) (hc : ∀ c ∈ v.cells, c.cell = true) :
    u.cells.size = k ∧ ∀ xs us, RepEs Z w k xs us → RepEs Z w k (v :: xs) (u.cells.toList ++ us) := by
  have one : v.cells = [v] → u.cells = #[u] → v.cell = true → u.cells.size = k ∧ ∀ xs us, RepEs Z w k xs us → RepEs Z w k (v :: xs) (u.cells.toList ++ us) := by
    intro h1 h2 h3
    have hk : k = 1 := by rw [← hl, h1]; rfl
    subst hk
    exact ⟨by rw [h2]; rfl, fun xs us hr => by rw [h2]; exact .one h3 h hr⟩
  cases h with
  | any u => exact absurd (hc .any (by simp [V.cells])) (by simp [V.cell])
  | tup h => exact absurd (hc _ (List.mem_singleton.2 rfl)) (by simp [V.cell])
  | agg h =>
    simp only [V.cells] at hl
    refine ⟨by have := h.length; simp [Value.cells]; omega, fun xs us hr => ?_⟩
    exact RepEs.agg h (by rw [← hl, h.length]; rfl) hr
  | bool b => exact one rfl rfl rfl
  | int q i => exact one rfl rfl rfl
  | str h => exact one rfl rfl rfl
  | fn h => exact one rfl rfl rfl
  | nil A c => exact one rfl rfl rfl
  | sl h a b c d => exact one rfl rfl rfl
  | ref h d => exact one rfl rfl rfl
theorem RepVs.elemCells {k : Nat} : ∀ (vs : List V) (us : List Value), RepVs Z w vs us → allZ k vs → (∀ u ∈ us, u.cells.size = k) ∧ RepEs Z w k vs (us.flatMap fun u => u.cells.toList)
  | [], us, h, ha => by cases h; exact ⟨by simp, .nil k⟩
  | v :: vs, us, h, ha => by
    cases h with
    | @cons _ u _ us h t =>
      obtain ⟨h1, h2⟩ := h.elemCells (ha v (by simp)).1 (ha v (by simp)).2
      obtain ⟨h3, h4⟩ := RepVs.elemCells vs us t fun x hx => ha x (by simp [hx])
      exact ⟨by simpa using ⟨h1, h3⟩, by rw [List.flatMap_cons]; exact h2 _ _ h4⟩
theorem RepTs.elemCells (hφ : PhiOk φ) {k : Nat} : ∀ (xs : List T) (us : List Value), RepTs φ Z w xs us → (∀ x ∈ xs, x.cells.length = k ∧ allC x.cells) →
    (∀ u ∈ us, u.cells.size = k) ∧ RepTs φ Z w (xs.flatMap T.cells) (us.flatMap fun u => u.cells.toList) ∧ allC (xs.flatMap T.cells)
  | [], us, h, ha => by cases h; exact ⟨by simp, .nil, by intro x hx; simp at hx⟩
  | x :: xs, us, h, ha => by
    cases h with
    | @cons _ u _ us h t =>
      obtain ⟨a1, a2⟩ := ha x (by simp)
      have h1 := h.toCells hφ a2
      obtain ⟨h2, h3, h4⟩ := RepTs.elemCells hφ xs us t fun y hy => ha y (by simp [hy])
      refine ⟨?_, by rw [List.flatMap_cons, List.flatMap_cons]; exact h1.append h3, ?_⟩
      · intro v hv
        rcases List.mem_cons.1 hv with rfl | hv
        · have := h1.length; rw [a1] at this; simpa using this.symm
        · exact h2 v hv
      · intro y hy
        rw [List.flatMap_cons, List.mem_append] at hy
        rcases hy with hy | hy
        · exact a2 y hy
        · exact h4 y hy

theorem Done.row (hm : RelM P φ Z m n w) {e : TypeId} {z l : Nat} {cs : List T} {us : Array Value} {r : Result Next} (hr : r = .ok (.value (.slice (some ⟨w.heap.size, 0, none⟩) l l)) (w.alloc (.cells us e)))
    (hz : 0 < z) (hsz : sz P e = some z) (hc : allC cs) (hl : us.size = l * z) (hlm : l ≤ maxLen) (h : RepTs φ Z w cs us.toList) : Done P φ Z m (n + 1) w r ⟨.sv n 0 l, [(n, some (.box e z cs))]⟩ := by
  have hcs : cs.length = us.size := by rw [h.length]; simp
  obtain ⟨h1, h2⟩ := hm.succ.allocMut (id := n) (by omega) (hm.fresh n (Nat.le_refl _)) (e := e) (z := z) (cs := cs) (cur := us) (v := .slice (some ⟨w.heap.size, 0, none⟩) l l) hz hsz (by omega)
    (by rw [List.take_of_length_le (by simp; omega)]; exact h) hc (.inr ⟨_, _, rfl, hl, hlm⟩)
  exact ⟨_, _, _, _, .inl hr, h1, .sv (updP_same _ _ _) (Nat.le_refl _) hlm (fun _ => rfl) (fun _ => ⟨rfl, rfl⟩), h2⟩
theorem small_maxLen {l k : Nat} (hk : 0 < k) (h : l * k ≤ 16777216) : l ≤ maxLen := by
  have : l * 1 ≤ l * k := Nat.mul_le_mul_left l hk
  simp only [maxLen]; omega

theorem evBuildSlice_sound (hm : RelM P φ Z m n w) {t len : Nat} {parts : List (Nat × T)} {vals : List (Nat × Value)} {mu : Bool} {E : Eff} (h : RepPs φ Z w parts vals) (hx : evBuildSlice P mu t m n len parts = some E) :
    Done P φ Z m (n + 1) w ((do pure (.value (← Instr.buildSlice t len vals.toArray)) : Sem Next).run P w) E := by
  unfold evBuildSlice at hx
  obtain ⟨e, he, hx⟩ := obind_eq hx
  obtain ⟨xs, hxs, hx⟩ := obind_eq hx
  obtain ⟨hxl, hx1⟩ := tst_eq hx
  subst hxl
  unfold newRow at hx1
  replace hx := hx1
  obtain ⟨k, hk, hx⟩ := obind_eq hx
  obtain ⟨⟨h1, h2, h3⟩, hx⟩ := tst_eq hx
  obtain ⟨zs, hzs⟩ := Option.isSome_iff_exists.1 h1
  obtain ⟨i, z, g1, g2, g3, rfl⟩ := info_zero_sz hzs hk
  obtain ⟨us, hus, rfl⟩ := inOrder_spec _ _ _ _ h hxs
  have hlen : xs.length = us.length := hus.length
  have run : (∀ u ∈ us, u.cells.size = k) → ((do pure (.value (← Instr.buildSlice t xs.length ((us.zipIdx 0).map fun x => (x.2, x.1)).toArray)) : Sem Next).run P w) =
      .ok (.value (.slice (some ⟨w.heap.size, 0, none⟩) xs.length xs.length)) (w.alloc (.cells (us.flatMap fun u => u.cells.toList).toArray e)) := by
    intro hu
    have hb : (Instr.buildSlice t xs.length ((us.zipIdx 0).map fun x => (x.2, x.1)).toArray).run P w = .ok (.slice (some ⟨w.heap.size, 0, none⟩) xs.length xs.length) (w.alloc (.cells (us.flatMap fun u => u.cells.toList).toArray e)) := by
      cases us with
      | nil =>
        have : xs = [] := by cases xs with | nil => rfl | cons => simp at hlen
        subst this
        exact run_buildSlice0 w t e _ i (und_of_elT he) g1 (by simp)
      | cons u us =>
        have hp : 0 < xs.length * k := Nat.mul_pos (by rw [hlen]; simp) h2
        refine run_buildSlice w t e xs.length _ _ i z (und_of_elT he) g1 g2 (by rw [g3]; omega) (by rw [g3]; omega) ?_
        rw [g3]
        have := fill_rows h2 (u :: us) 0 ((Array.range (xs.length * k)).map (z.cells[· % z.cells.size]!)) hu (by simp [hlen])
        simpa using this
    simp only [Sem.run_bind, hb, Result.andThen_ok, Sem.run_pure]
  split at hx
  · obtain ⟨ha, hx⟩ := tst_eq hx
    cases hx
    obtain ⟨a1, a2, a3⟩ := RepTs.elemCells hm.ok xs us hus ha
    exact Done.row hm (run a1) h2 hk a3 (by simp only [List.size_toArray]; rw [flat_length us a1, hlen]) (small_maxLen h2 h3) a2
  · obtain ⟨vs, hvs, hx⟩ := obind_eq hx
    obtain ⟨ha, hx⟩ := tst_eq hx
    cases hx
    have hr := bors_sound hm (k := false) (Zb := Z) (fun _ _ h => h) (by simp) xs us vs hus hvs
    obtain ⟨a1, a2⟩ := RepVs.elemCells vs us hr ha
    have hvl : vs.length = xs.length := ((mapO_spec hvs).1).symm
    have hfl := flat_length us a1
    obtain ⟨q1, q2⟩ := hm.succ.allocArr (id := n) (by omega) (hm.fresh n (Nat.le_refl _)) (e := e) (z := k) (xs := vs) (us := us.flatMap fun u => u.cells.toList) (cur := (us.flatMap fun u => u.cells.toList).toArray) (c := xs.length) h2 hk a2 (by omega)
      (small_maxLen h2 h3) (by rw [List.size_toArray, hfl, hlen]) (List.take_of_length_le (by show List.length _ ≤ _; rw [hfl, hvl, hlen]; exact Nat.le_refl _))
    rw [hvl] at q1 q2
    exact ⟨_, _, _, _, .inl (run a1), q1, .loc (updP_same _ _ _), q2⟩

theorem replicate_cells (z : Array Value) (hz : 0 < z.size) : ∀ l : Nat, (madeCells z (l * z.size)).toList = (List.replicate l z.toList).flatten := by
  intro l
  apply List.ext_getElem?
  intro i
  simp only [madeCells, Array.toList_map, Array.toList_range, List.getElem?_map]
  induction l generalizing i with
  | zero => simp
  | succ l ih =>
    rw [List.replicate_succ', List.flatten_append, List.flatten_singleton]
    have hl : (List.replicate l z.toList).flatten.length = l * z.size := by simp
    by_cases h : i < l * z.size
    · rw [List.getElem?_append_left (by rw [hl]; exact h), ← ih]
      rw [List.getElem?_range h, List.getElem?_range (by rw [Nat.add_mul]; omega)]
    · rw [List.getElem?_append_right (by rw [hl]; omega), hl]
      by_cases h2 : i < (l + 1) * z.size
      · rw [List.getElem?_range h2]
        have hlt : i - l * z.size < z.size := by rw [Nat.add_mul] at h2; omega
        have hmod : i % z.size = i - l * z.size := by
          have : i = (i - l * z.size) + z.size * l := by rw [Nat.mul_comm z.size l]; omega
          rw [this, Nat.add_mul_mod_self_left, Nat.mod_eq_of_lt (by omega)]
          rw [Nat.mul_comm z.size l]; omega
        simp only [Option.map_some, hmod]
        rw [getElem!_pos z _ hlt, List.getElem?_eq_getElem (by simpa using hlt)]; simp
      · rw [List.getElem?_eq_none (by simp; omega), List.getElem?_eq_none (by rw [Nat.add_mul] at h2; simp; omega)]; rfl
theorem RepTs.replicate {cs : List T} {us : List Value} (h : RepTs φ Z w cs us) : ∀ l, RepTs φ Z w (List.replicate l cs).flatten (List.replicate l us).flatten
  | 0 => .nil
  | l + 1 => by rw [List.replicate_succ, List.replicate_succ, List.flatten_cons, List.flatten_cons]; exact h.append (h.replicate l)
theorem evMake_sound (hm : RelM P φ Z m n w) {t : Nat} {l c : T} {ul uc : Value} {E : Eff} (hl : RepT φ Z w l ul) (hc : RepT φ Z w c uc) (hx : evMake P t n l c = some E) :
    Done P φ Z m (n + 1) w ((do pure (.value (← Instr.makeSlice t ul uc)) : Sem Next).run P w) E := by
  unfold evMake at hx
  split at hx
  · obtain rfl := int_rep hl; obtain rfl := int_rep hc
    obtain ⟨e, he, hx⟩ := obind_eq hx
    obtain ⟨k, hk, hx⟩ := obind_eq hx
    obtain ⟨by_, hby, hx⟩ := obind_eq hx
    obtain ⟨zs, hzs, hx⟩ := obind_eq hx
    obtain ⟨⟨hlc, h0, hb, h63, hzl, hk0, hac⟩, hx1⟩ := tst_eq hx
    subst hlc
    cases hx1
    obtain ⟨i, z, g1, g2, g3, rfl⟩ := info_zero_sz hzs hk
    have hbi : i.bytes = by_ := by simpa [bytes, g1] using hby
    have hcells := (const_rep (φ := φ) (Z := Z) (w := w) z).toCells hm.ok hac
    have hzk : z.cells.size = k := by have := hcells.length; rw [hzl] at this; simpa using this.symm
    have hrun := run_make (P := P) w t e i z (und_of_elT he) g1 g2 .i64 .i64 _ _ h0 (Int.le_refl _) (by rw [hbi]; exact hb) h63
    rw [g3] at hrun
    refine Done.row hm (us := madeCells z.cells (_ * k)) (by simp only [Sem.run_bind, hrun, Result.andThen_ok, Sem.run_pure]) hk0 hk ?_ (size_madeCells _ _) (by simp only [maxLen]; omega) ?_
    · intro x hx
      obtain ⟨l, h1, h2⟩ := List.mem_flatten.1 hx
      obtain ⟨_, rfl⟩ := List.mem_replicate.1 h1
      exact hac x h2
    · rw [← hzk, replicate_cells z.cells (by omega)]
      exact hcells.replicate _
  · cases hx
end
end TL
