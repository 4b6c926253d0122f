/- TL, part 8: what the operations do, and that the abstract ones follow them. -/
import Derived.Test.YtcoapdapigpfgaaTlMem3
set_option linter.unusedVariables false
set_option linter.unusedSimpArgs false
namespace TL
open Go Go.RowKit

def Done (P : Program) (φ : Phi) (Z : Zs) (m : Mem) (n : Nat) (w : World) (r : Result Next) (E : Eff) : Prop :=
  ∃ v w' φ' Z', (r = .ok (.value v) w' ∨ (r = .ok .skip w' ∧ v = undef)) ∧ RelM P φ' Z' (applyUs m E.us) n w' ∧ RepT φ' Z' w' E.val v ∧ Step φ Z m w φ' Z' (applyUs m E.us) w'

section
variable {P : Program} {φ : Phi} {Z : Zs} {m : Mem} {n : Nat} {w : World}

theorem Done.same {r : Result Next} {x : T} {v : Value} (hm : RelM P φ Z m n w) (hr : r = .ok (.value v) w) (hx : RepT φ Z w x v) : Done P φ Z m n w r ⟨x, []⟩ :=
  ⟨v, w, φ, Z, .inl hr, hm, hx, Step.refl _ _ _ _⟩

theorem obind_eq {α β : Type} {o : Option α} {k : α → Option β} {b : β} (h : obind o k = some b) : ∃ a, o = some a ∧ k a = some b := by
  cases o with
  | none => simp at h
  | some a => exact ⟨a, rfl, by simpa using h⟩
theorem tst_eq {β : Type} {c : Prop} [Decidable c] {x : Option β} {b : β} (h : tst c x = some b) : c ∧ x = some b := by
  unfold tst at h; split at h
  · exact ⟨‹_›, h⟩
  · cases h
theorem boolOf_rep {t : T} {u : Value} {b : Bool} (h : RepT φ Z w t u) (hb : boolOf t = some b) : u = .bool b := by
  cases h with
  | v h => cases h <;> simp [boolOf] at hb; subst hb; rfl
  | _ => simp [boolOf] at hb
theorem int_rep {k : IntKind} {i : Int} {u : Value} (h : RepT φ Z w (.v (.int k i)) u) : u = .int k i := by
  cases h with | v h => cases h; rfl
theorem str_rep {s : List UInt8} {u : Value} (h : RepT φ Z w (.v (.str s)) u) : ∃ b : ByteArray, u = .string b ∧ b.data.toList = s := by
  cases h with | v h => cases h with | str h => exact ⟨_, rfl, h⟩
theorem rep_int (k : IntKind) (i : Int) : RepT φ Z w (.v (.int k i)) (.int k i) := .v (.int k i)
theorem rep_bool (b : Bool) : RepT φ Z w (.v (.bool b)) (.bool b) := .v (.bool b)

/-! types -/
theorem info_of_sz {t k : Nat} (h : sz P t = some k) : ∃ i, P.info? t = some i ∧ i.size = k := by
  unfold sz at h; cases hi : P.info? t with
  | none => simp [hi] at h
  | some i => simp [hi] at h; exact ⟨i, rfl, h⟩
theorem run_sizeOf {t k : Nat} (h : sz P t = some k) (w : World) : (Go.sizeOf t).run P w = .ok k w := by
  obtain ⟨i, h1, h2⟩ := info_of_sz h
  simp [Go.sizeOf, typeInfo, h1, h2]
theorem run_isAgg {t : Nat} {a : Bool} (h : isAg P t = some a) (w : World) : (isAgg t).run P w = .ok a w := by
  unfold isAg at h; cases hu : P.underlying t with
  | none => simp [hu] at h
  | some d =>
    simp only [hu, Option.map_some, Option.some.injEq] at h
    simp only [isAgg, Sem.run_bind, run_underlying hu, Result.andThen_ok]
    subst h
    cases d <;> rfl
theorem und_of_elT {t e : Nat} (h : elT P t = some e) : P.underlying t = some (.slice e) := by
  unfold elT at h; cases hu : P.underlying t with
  | none => simp [hu] at h
  | some d => simp [hu] at h; split at h <;> simp at h; subst h; rfl
theorem und_of_isStr {t : Nat} (h : isStr P t = some true) : P.underlying t = some .string := by
  unfold isStr at h; cases hu : P.underlying t with
  | none => simp [hu] at h
  | some d => simp only [hu, Option.map_some, Option.some.injEq] at h; split at h <;> simp at h; rfl
theorem und_of_intK {t : Nat} {k : IntKind} (h : intK P t = some k) : P.underlying t = some (.int k) := by
  unfold intK at h; cases hu : P.underlying t with
  | none => simp [hu] at h
  | some d => simp [hu] at h; split at h <;> simp at h; subst h; rfl

/-! loads -/
theorem cutV_sound {t off : Nat} {cs : List V} {us : List Value} {ad : Addr} {x : T} (h : RepCs Z w cs us)
    (hz : ∀ i u, us[i]? = some u → w.cell? (ad.add i) = some u ∧ Z (ad.add i).block (ad.add i).off) (hx : cutV P t cs off = some x) :
    ∃ v, (loadVar t (ad.add off)).run P w = .ok v w ∧ RepT φ Z w x v := by
  unfold cutV at hx
  obtain ⟨k, hk, hx⟩ := obind_eq hx
  obtain ⟨a, ha, hx⟩ := obind_eq hx
  cases a with
  | true =>
    obtain ⟨hle, hx⟩ := tst_eq (by simpa using hx)
    cases hx
    have hl : ((us.drop off).take k).length = k := by rw [List.length_take, List.length_drop, ← h.length]; omega
    refine ⟨.agg ((us.drop off).take k).toArray, ?_, .v (.agg ((h.drop off).take k))⟩
    have := run_loadCells_list (P := P) w (ad.add off) ((us.drop off).take k) fun j v hv => by
      rw [add_add]
      refine (hz (off + j) v ?_).1
      rw [List.getElem?_take] at hv
      split at hv
      · rwa [List.getElem?_drop] at hv
      · cases hv
    rw [hl] at this
    simp [loadVar, run_isAgg ha, run_sizeOf hk, this]
  | false =>
    simp only [Bool.false_eq_true, if_false, Option.map_eq_some_iff] at hx
    obtain ⟨y, hy, rfl⟩ := hx
    obtain ⟨u, hu, hr⟩ := h.get off y hy
    refine ⟨u, ?_, .v hr⟩
    simp [loadVar, run_isAgg ha, (hz off u hu).1]
theorem cutT_sound {t off : Nat} {cs : List T} {us : List Value} {ad : Addr} {x : T} (h : RepTs φ Z w cs us)
    (hz : ∀ i u, us[i]? = some u → w.cell? (ad.add i) = some u) (hx : cutT P t cs off = some x) :
    ∃ v, (loadVar t (ad.add off)).run P w = .ok v w ∧ RepT φ Z w x v := by
  unfold cutT at hx
  obtain ⟨k, hk, hx⟩ := obind_eq hx
  obtain ⟨a, ha, hx⟩ := obind_eq hx
  cases a with
  | true =>
    obtain ⟨hle, hx⟩ := tst_eq (by simpa using hx)
    cases hx
    have hl : ((us.drop off).take k).length = k := by rw [List.length_take, List.length_drop, ← h.length]; omega
    refine ⟨.agg ((us.drop off).take k).toArray, ?_, .agg ((h.drop off).take k)⟩
    have := run_loadCells_list (P := P) w (ad.add off) ((us.drop off).take k) fun j v hv => by
      rw [add_add]
      refine hz (off + j) v ?_
      rw [List.getElem?_take] at hv
      split at hv
      · rwa [List.getElem?_drop] at hv
      · cases hv
    rw [hl] at this
    simp [loadVar, run_isAgg ha, run_sizeOf hk, this]
  | false =>
    simp only [Bool.false_eq_true, if_false] at hx
    obtain ⟨u, hu, hr⟩ := h.get off x hx
    refine ⟨u, ?_, hr⟩
    simp [loadVar, run_isAgg ha, hz off u hu]

/-- What a pointer into a block of the frame's own is. -/
theorem box_at (hm : RelM P φ Z m n w) {id off : Nat} {u : Value} {e : TypeId} {z : Nat} {cs : List T} (h : RepT φ Z w (.ptr id off) u) (hi : m id = some (.box e z cs)) :
    ∃ k cur v, φ id = some v ∧ blkOf v = some k ∧ u = .pointer (some ⟨k, off, none⟩) ∧ w.heap[k]? = some (.cells cur e (0, 0)) ∧ cs.length ≤ cur.size ∧ RepTs φ Z w cs (cur.toList.take cs.length) ∧ allC cs := by
  obtain ⟨v, hv, hb⟩ := hm.blk _ _ hi
  obtain ⟨h1, h2, k, cur, h3, h4, h5, h6, h7, h8, h9⟩ := hb
  cases h with
  | ptr h => rw [hv] at h; cases h; cases h3; exact ⟨_, cur, _, hv, rfl, rfl, h4, h5, h6, h7⟩
  | ptrs h => rw [hv] at h; cases h; cases h3; exact ⟨_, cur, _, hv, rfl, rfl, h4, h5, h6, h7⟩
theorem evLoad_sound (hm : RelM P φ Z m n w) {t : Nat} {a x : T} {u : Value} (h : RepT φ Z w a u) (hx : evLoad P t m a = some x) : ∃ v, (Instr.loadAt t u).run P w = .ok v w ∧ RepT φ Z w x v := by
  cases a with
  | ptr id off =>
    simp only [evLoad] at hx
    split at hx
    · rename_i e z cs hi
      obtain ⟨k, cur, v, _, _, rfl, h4, h5, h6, h7⟩ := box_at hm h hi
      obtain ⟨v, hv, hr⟩ := cutT_sound (P := P) (ad := ⟨k, 0, none⟩) h6 (fun i u hu => by
        rw [add_lit, Nat.zero_add, cell_of_row w k i cur e (0, 0) h4]
        rw [List.getElem?_take] at hu; split at hu
        · simpa using hu
        · cases hu) hx
      rw [add_lit, Nat.zero_add] at hv
      exact ⟨v, by simpa [Instr.loadAt, Instr.sureAddr] using hv, hr⟩
    · cases hx
  | fptr cs off =>
    cases h with
    | fptr h hz =>
      obtain ⟨v, hv, hr⟩ := cutV_sound (φ := φ) h hz hx
      exact ⟨v, by simpa [Instr.loadAt, Instr.sureAddr] using hv, hr⟩
  | v y =>
    cases h with
    | v h =>
      cases h with
      | ref h hz =>
        obtain ⟨v, hv, hr⟩ := cutV_sound (φ := φ) h hz hx
        exact ⟨v, by simpa [Instr.loadAt, Instr.sureAddr, add_zero'] using hv, hr⟩
      | _ => simp [evLoad] at hx
  | _ => simp [evLoad] at hx

/-! stores -/
theorem setAt_spec (cs : List T) (off : Nat) (xs : List T) (h : off + xs.length ≤ cs.length) : setAt cs off xs = cs.take off ++ xs ++ cs.drop (off + xs.length) := by
  induction xs generalizing cs off with
  | nil => simp [setAt]
  | cons x xs ih =>
    simp only [setAt, List.length_cons] at h ⊢
    rw [ih _ _ (by rw [List.length_set]; omega)]
    rw [List.set_eq_take_append_cons_drop, if_pos (by omega)]
    have h1 : (cs.take off).length = off := by rw [List.length_take]; omega
    have e1 : List.take (off + 1) (cs.take off ++ x :: cs.drop (off + 1)) = cs.take off ++ [x] := by
      rw [List.take_append, h1, List.take_of_length_le (by omega)]
      rw [show off + 1 - off = 1 by omega]; rfl
    have e2 : List.drop (off + 1 + xs.length) (cs.take off ++ x :: cs.drop (off + 1)) = cs.drop (off + (xs.length + 1)) := by
      rw [List.drop_append, h1, List.drop_of_length_le (by omega), List.nil_append]
      rw [show off + 1 + xs.length - off = xs.length + 1 by omega, List.drop_succ_cons, List.drop_drop]
      congr 1; omega
    rw [e1, e2]; simp
theorem length_setAt (cs : List T) (off : Nat) (xs : List T) : (setAt cs off xs).length = cs.length := by
  induction xs generalizing cs off with
  | nil => rfl
  | cons x xs ih => simp [setAt, ih]

theorem evStore_sound (hm : RelM P φ Z m n w) {t : Nat} {a x : T} {u y : Value} {us : Nat × Option Blk} (h : RepT φ Z w a u) (hy : RepT φ Z w x y) (hx : evStore P t m x a = some us) :
    ∃ w', (Instr.storeAt t u y).run P w = .ok () w' ∧ RelM P φ Z (updM m us.1 us.2) n w' ∧ Step φ Z m w φ Z (updM m us.1 us.2) w' := by
  cases a with
  | ptr id off =>
    simp only [evStore] at hx
    split at hx
    · rename_i e z cs hi
      obtain ⟨k, hk, hx⟩ := obind_eq hx
      obtain ⟨⟨hl, hc, hle⟩, hx⟩ := tst_eq hx
      cases hx
      obtain ⟨g, cur, v, hv, hg, rfl, h4, h5, h6, h7⟩ := box_at hm h hi
      have hcells := hy.toCells hm.ok hc
      have hlen : y.cells.toList.length = k := by rw [← hcells.length, hl]
      have hones := hcells.ones hm.ok hc
      have hlk : off + 0 + y.cells.toList.length ≤ cur.size := by omega
      have hst := run_storeCells_at P g off e y.cells.toList 0 cur w h4 hlk hones
      simp only [Nat.add_zero] at hst
      refine ⟨w.setRow g (cur.toList.take off ++ y.cells.toList ++ cur.toList.drop (off + y.cells.toList.length)).toArray, ?_, ?_⟩
      · have hsz : y.cells.size = k := by simpa using hlen
        simp [Instr.storeAt, Instr.sureAddr, storeVar, run_sizeOf hk, hsz, hst]
      · have hs : (cur.toList.take off ++ y.cells.toList ++ cur.toList.drop (off + y.cells.toList.length)).toArray.size = cur.size := by
          simp only [List.size_toArray, List.length_append, List.length_take, List.length_drop, hlen]; simp only [Array.length_toList]; omega
        have hcur : cs.length ≤ cur.toList.length := by simpa using h5
        refine hm.store_ hi hv hg h4 hs (by rw [length_setAt]; exact h5) ?_ ?_
        · rw [length_setAt, setAt_spec _ _ _ (by omega)]
          have ht1 := h6.take off
          have ht2 := h6.drop (off + k)
          rw [List.take_take, Nat.min_eq_left (by omega)] at ht1
          have : (List.take off cur.toList ++ y.cells.toList ++ List.drop (off + y.cells.toList.length) cur.toList).toArray.toList.take cs.length = cur.toList.take off ++ y.cells.toList ++ (cur.toList.take cs.length).drop (off + k) := by
            have hll : (cur.toList.take off ++ y.cells.toList).length = off + k := by simp only [List.length_append, List.length_take, hlen]; omega
            show List.take cs.length (cur.toList.take off ++ y.cells.toList ++ _) = _
            rw [List.take_append, hll, List.take_of_length_le (by omega), hlen, List.drop_take]
          rw [this]
          exact (ht1.append hcells).append (by rw [hl]; exact ht2)
        · rw [setAt_spec _ _ _ (by omega)]
          intro q hq
          simp only [List.mem_append] at hq
          rcases hq with (hq | hq) | hq
          · exact h7 q (List.mem_of_mem_take hq)
          · exact hc q hq
          · exact h7 q (List.mem_of_mem_drop hq)
    · cases hx
  | _ => simp [evStore] at hx
end
end TL
