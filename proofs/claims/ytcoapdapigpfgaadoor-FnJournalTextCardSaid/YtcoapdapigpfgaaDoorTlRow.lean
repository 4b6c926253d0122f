/- TL, part 22: rows that are made at once and filled one by one. -/
import Derived.Test.YtcoapdapigpfgaaDoorTlCut
set_option linter.unusedVariables false
set_option linter.unusedSimpArgs false
namespace TL
open Go
theorem flat_len {k : Nat} : ∀ {bl : List (List T)}, (∀ x ∈ bl, x.length = k) → bl.flatten.length = bl.length * k
  | [], _ => by simp
  | b :: bl, h => by
    have h1 := h b (List.mem_cons_self ..)
    have h2 := flat_len (bl := bl) fun x hx => h x (List.mem_cons_of_mem _ hx)
    rw [List.flatten_cons, List.length_append, h1, h2, List.length_cons, Nat.succ_mul]; omega
theorem setAt_append (a b : List T) : ∀ (xs : List T) (off : Nat), a.length = off → xs.length ≤ b.length → setAt (a ++ b) off xs = a ++ xs ++ b.drop xs.length
  | [], off, h, _ => by simp [setAt]
  | x :: xs, off, h, hl => by
    cases b with
    | nil => simp at hl
    | cons y ys =>
      unfold setAt
      rw [List.set_append_right _ _ (by omega), show off - a.length = 0 by omega, List.set_cons_zero]
      have := setAt_append (a ++ [x]) ys xs (off + 1) (by simp; omega) (by simpa using hl)
      rw [show a ++ x :: ys = a ++ [x] ++ ys by simp, this]; simp
theorem setAt_flat {k : Nat} {bl : List (List T)} {i : Nat} {b : List T} (h : ∀ x ∈ bl, x.length = k) (hb : b.length = k) (hi : i < bl.length) : setAt bl.flatten (i * k) b = (bl.set i b).flatten := by
  have e1 : bl = bl.take i ++ bl[i] :: bl.drop (i + 1) := by rw [← List.drop_eq_getElem_cons hi, List.take_append_drop]
  have l1 : (bl.take i).flatten.length = i * k := by rw [flat_len (k := k) fun x hx => h x (List.mem_of_mem_take hx), List.length_take]; congr 1; omega
  have l2 : bl[i].length = k := h _ (List.getElem_mem _)
  have e2 : bl.flatten = (bl.take i).flatten ++ (bl[i] ++ (bl.drop (i + 1)).flatten) := by
    have e4 : bl.flatten = (bl.take i ++ bl[i] :: bl.drop (i + 1)).flatten := by rw [← e1]
    rw [e4, List.flatten_append, List.flatten_cons]
  have e3 : bl.set i b = bl.take i ++ b :: bl.drop (i + 1) := by rw [List.set_eq_take_append_cons_drop, if_pos hi]
  rw [e2, setAt_append _ _ b _ l1 (by simp; omega), e3, hb]
  rw [List.drop_append_of_le_length (by omega), List.drop_eq_nil_of_le (by omega)]
  simp
/-- The cells of an element. -/
def cellsT (x : V) : List T := x.cells.map .v
/-- A row of which the first i are filled. -/
def filled {α : Type} (v : α → V) (zs : List T) (l : List α) (i : Nat) : List (List T) := (l.take i).map (fun a => cellsT (v a)) ++ List.replicate (l.length - i) zs
/-- Elements of k cells. -/
def ElemOk {α : Type} (v : α → V) (k : Nat) : Prop := ∀ a, (v a).cells.length = k ∧ (∀ c ∈ (v a).cells, c.cell = true) ∧ (if k = 1 then (v a).cells = [v a] else v a = .agg (v a).cells)
theorem filled_len {α : Type} {v : α → V} {zs : List T} {l : List α} {i : Nat} (hi : i ≤ l.length) : (filled v zs l i).length = l.length := by
  simp [filled]; omega
theorem filled_all {α : Type} {v : α → V} {zs : List T} {l : List α} {i k : Nat} (hv : ElemOk v k) (hz : zs.length = k) : ∀ x ∈ filled v zs l i, x.length = k := by
  intro x hx
  rcases List.mem_append.1 hx with hx | hx
  · obtain ⟨a, _, rfl⟩ := List.mem_map.1 hx
    simp [cellsT, (hv a).1]
  · rw [(List.mem_replicate.1 hx).2, hz]
theorem filled_zero {α : Type} (v : α → V) (zs : List T) (l : List α) : (filled v zs l 0).flatten = (List.replicate l.length zs).flatten := by simp [filled]
theorem filled_flat_len {α : Type} {v : α → V} {zs : List T} {l : List α} {i k : Nat} (hv : ElemOk v k) (hz : zs.length = k) (hi : i ≤ l.length) : (filled v zs l i).flatten.length = l.length * k := by
  rw [flat_len (filled_all hv hz), filled_len hi]
theorem filled_set {α : Type} {v : α → V} {zs : List T} {l : List α} {i k : Nat} (hv : ElemOk v k) (hz : zs.length = k) (hi : i < l.length) : setAt (filled v zs l i).flatten (i * k) (cellsT (v l[i])) = (filled v zs l (i + 1)).flatten := by
  rw [setAt_flat (filled_all hv hz) (by simp [cellsT, (hv _).1]) (by rw [filled_len (by omega)]; exact hi)]
  congr 1
  unfold filled
  rw [List.set_append_right _ _ (by simp; omega), List.take_succ_eq_append_getElem hi]
  rw [show l.length - i = (l.length - (i + 1)) + 1 by omega, List.replicate_succ]
  simp only [List.length_map, List.length_take, Nat.min_eq_left (Nat.le_of_lt hi), Nat.sub_self, List.set_cons_zero, List.map_append, List.map_cons, List.map_nil, List.append_assoc, List.cons_append, List.nil_append]
theorem filled_end {α : Type} (v : α → V) (zs : List T) (l : List α) : filled v zs l l.length = l.map fun a => cellsT (v a) := by simp [filled]
theorem mapO_cells {k : Bool} {m : Mem} {d : Nat} : ∀ (xs : List V), mapO (bor k m d) (xs.map .v) = some xs
  | [] => rfl
  | x :: xs => by simp [mapO, mapO_cells xs]
theorem cells_flat {α : Type} (v : α → V) : ∀ l : List α, (l.map fun a => cellsT (v a)).flatten = (l.flatMap fun a => (v a).cells).map T.v
  | [] => rfl
  | x :: xs => by simp only [List.map_cons, List.flatten_cons, cells_flat v xs, List.flatMap_cons, List.map_append]; rfl
theorem chunk_elems {α : Type} {v : α → V} {k : Nat} (hv : ElemOk v k) : ∀ l : List α, chunk k l.length (l.flatMap fun a => (v a).cells) = l.map v
  | [] => rfl
  | a :: l => by
    obtain ⟨h1, h2, h3⟩ := hv a
    simp only [List.length_cons, chunk, List.flatMap_cons, List.map_cons]
    rw [List.drop_append_of_le_length (by omega), List.drop_eq_nil_of_le (by omega), List.nil_append, chunk_elems hv l]
    congr 1
    by_cases hk : k = 1
    · rw [if_pos hk] at h3 ⊢; rw [h3]; rfl
    · rw [if_neg hk] at h3 ⊢
      rw [List.take_append_of_le_length (by omega), List.take_of_length_le (by omega), ← h3]
theorem bor_filled {α : Type} {v : α → V} {k : Nat} (hv : ElemOk v k) {m : Mem} {id e : Nat} {zs : List T} {l : List α} (d : Nat) (hm : m id = some (.box e k (filled v zs l l.length).flatten)) : bor true m (d + 1) (.sv id 0 l.length) = some (.sl (l.map v)) := by
  have hlen : (l.flatMap fun a => (v a).cells).length = l.length * k := by
    induction l with
    | nil => simp
    | cons a l ih => simp only [List.flatMap_cons, List.length_append, (hv a).1, List.length_cons, Nat.succ_mul]; rw [show (l.flatMap fun a => (v a).cells).length = l.length * k from ?_]; · omega
                     clear ih hm
                     induction l with
                     | nil => simp
                     | cons b l ih => simp only [List.flatMap_cons, List.length_append, (hv b).1, List.length_cons, Nat.succ_mul, ih]; omega
  unfold bor
  rw [hm]
  simp only [if_true, filled_end, cells_flat, List.length_map, hlen, Nat.zero_add, Nat.le_refl, tst_true, List.drop_zero]
  rw [List.take_of_length_le (by simp [hlen]), mapO_cells]
  simp only [obind_some]
  rw [tst_pos, chunk_elems hv]
  intro x hx
  obtain ⟨a, _, ha⟩ := List.mem_flatMap.1 hx
  exact (hv a).2.1 x ha
end TL
