/- TL, part 6: allocation, stores, appends: the relation behind them. -/
import Derived.Test.YtcoapdapigpfgaaTlMem
namespace TL
open Go Go.RowKit

def updP (φ : Phi) (i : Nat) (v : Value) : Phi := fun j => if j = i then some v else φ j
theorem updP_same (φ : Phi) (i : Nat) (v : Value) : updP φ i v i = some v := if_pos rfl
theorem updP_ne (φ : Phi) {i j : Nat} (v : Value) (h : j ≠ i) : updP φ i v j = φ j := if_neg h
theorem ext_updP {φ : Phi} {i : Nat} (v : Value) (h : φ i = none) : Ext φ (updP φ i v) := fun j u hu => by
  rw [updP_ne]; exact hu
  rintro rfl; rw [h] at hu; cases hu

section
variable {P : Program} {φ φ' : Phi} {Z Z' : Zs} {m : Mem} {n : Nat} {w w' : World}

theorem RelB.keep {v : Value} {b : Blk} (h : RelB P φ Z w v b) (he : Ext φ φ') (hs : SubZ Z Z') (hk : KeepZ Z w w')
    (hb : isRo b = false → ∀ k, blkOf v = some k → w'.heap[k]? = w.heap[k]? ∧ ∀ o, Z' k o → Z k o) : RelB P φ' Z' w' v b := by
  cases b with
  | ro xs => exact RepV.mono hs hk h
  | arr e xs =>
    obtain ⟨us, z, h1, h2, h3, h4, h5⟩ := h
    refine ⟨us, z, h1, h2, ?_, h4.mono hs hk, fun k hv o => ?_⟩
    · refine ⟨h3.1, h3.2.imp id ?_⟩
      rintro ⟨g, cap, cur, rfl, h6, h7, h8⟩
      exact ⟨g, cap, cur, rfl, h6, by rw [(hb rfl g rfl).1]; exact h7, h8⟩
    · rw [← h5 k hv o]
      exact ⟨(hb rfl k hv).2 o, hs k o⟩
  | box e z cs =>
    obtain ⟨h1, h2, k, cur, h3, h4, h5, h6, h7, h8, h9⟩ := h
    exact ⟨h1, h2, k, cur, h3, by rw [(hb rfl k h3).1]; exact h4, h5, h6.mono he hs hk, h7, fun o ho => h8 o ((hb rfl k h3).2 o ho), h9⟩

theorem RelB.lt {v : Value} {b : Blk} (h : RelB P φ Z w v b) (hr : isRo b = false) {k : Nat} (hk : blkOf v = some k) : k < w.heap.size := by
  cases b with
  | ro xs => cases hr
  | arr e xs =>
    obtain ⟨us, z, h1, h2, h3, h4, h5⟩ := h
    rcases h3.2 with ⟨rfl, _⟩ | ⟨g, cap, cur, rfl, h6, h7, h8⟩
    · cases hk
    · cases hk; exact (Array.getElem?_eq_some_iff.1 h7).1
  | box e z cs =>
    obtain ⟨h1, h2, k', cur, h3, h4, h5⟩ := h
    rw [h3] at hk; cases hk
    exact (Array.getElem?_eq_some_iff.1 h4).1

theorem RelM.owned_lt (hm : RelM P φ Z m n w) {k : Nat} (h : Owned φ m k) : k < w.heap.size := by
  obtain ⟨i, b, v, h1, h2, h3, h4⟩ := h
  obtain ⟨v', h5, h6⟩ := hm.blk i b h1
  rw [h3] at h5; cases h5
  exact h6.lt h2 h4

theorem keepZ_of_heap (h : ∀ k o, Z k o → w'.heap[k]? = w.heap[k]?) : KeepZ Z w w' := fun k o hz => World.cell?_of_block (w := w) (h k o hz)

/-- A new block, its handle a pointer or a slice. -/
theorem RelM.alloc_ (hm : RelM P φ Z m n w) {id : Nat} (hid : id < n) (hφ : φ id = none) (o : Obj) (b : Blk) (v : Value) (Z' : Zs) (hs : SubZ Z Z') (hZ : ∀ k o, Z' k o → Z k o ∨ k = w.heap.size) (h1 : v.oneCell' = true)
    (hv : blkOf v = some w.heap.size) (hb : RelB P (updP φ id v) Z' (w.alloc o) v b) :
    RelM P (updP φ id v) Z' (updM m id (some b)) n (w.alloc o) ∧ Step φ Z m w (updP φ id v) Z' (updM m id (some b)) (w.alloc o) := by
  have he : Ext φ (updP φ id v) := ext_updP v hφ
  have hmid : m id = none := by
    cases h : m id with
    | none => rfl
    | some b => obtain ⟨u, hu, _⟩ := hm.blk id b h; rw [hφ] at hu; cases hu
  have hold : ∀ k, k < w.heap.size → (w.alloc o).heap[k]? = w.heap[k]? := fun k hk => heap_alloc_old w o k hk
  have hk : KeepZ Z w (w.alloc o) := keepZ_of_heap fun k o hz => hold k (hm.zlt.lt k o hz)
  refine ⟨⟨?_, ?_, ?_, ?_, ?_⟩, ⟨he, hs, hk, rfl, rfl, rfl, by simp, fun k hk _ => hold k hk, ?_, ?_⟩⟩
  · intro i u hu
    by_cases hi : i = id
    · subst hi; rw [updP_same] at hu; cases hu; exact h1
    · rw [updP_ne _ _ hi] at hu; exact hm.ok i u hu
  · intro i hi
    rw [updP_ne _ _ (by omega)]; exact hm.fresh i hi
  · intro i c hc
    by_cases hi : i = id
    · subst hi; rw [updM_same] at hc; cases hc
      exact ⟨v, updP_same _ _ _, hb⟩
    · rw [updM_ne _ _ hi] at hc
      obtain ⟨u, hu, hr⟩ := hm.blk i c hc
      refine ⟨u, by rw [updP_ne _ _ hi]; exact hu, hr.keep he hs hk fun hro k hk => ?_⟩
      have hlt := hr.lt hro hk
      refine ⟨hold k hlt, fun o hz => (hZ k o hz).resolve_right (by omega)⟩
  · intro i j a c u u' k hi hj hu hu' hk hk' hra hrc
    by_cases hi' : i = id <;> by_cases hj' : j = id
    · rw [hi', hj']
    · subst hi'
      rw [updP_same] at hu; cases hu
      rw [hv] at hk; cases hk
      rw [updM_ne _ _ hj'] at hj; rw [updP_ne _ _ hj'] at hu'
      obtain ⟨x, hx, hr⟩ := hm.blk j c hj
      rw [hu'] at hx; cases hx
      exact absurd (hr.lt hrc hk') (by omega)
    · subst hj'
      rw [updP_same] at hu'; cases hu'
      rw [hv] at hk'; cases hk'
      rw [updM_ne _ _ hi'] at hi; rw [updP_ne _ _ hi'] at hu
      obtain ⟨x, hx, hr⟩ := hm.blk i a hi
      rw [hu] at hx; cases hx
      exact absurd (hr.lt hra hk) (by omega)
    · rw [updM_ne _ _ hi'] at hi; rw [updP_ne _ _ hi'] at hu
      rw [updM_ne _ _ hj'] at hj; rw [updP_ne _ _ hj'] at hu'
      exact hm.ne i j a c u u' k hi hj hu hu' hk hk' hra hrc
  · refine ⟨fun k o' hz => ?_, hm.zlt.gl.keep hs hk⟩
    rcases hZ k o' hz with h | h
    · exact Nat.lt_of_lt_of_le (hm.zlt.lt k o' h) (by simp)
    · simp [h]
  · rintro k hk ⟨i, c, u, hi, hro, hu, hb⟩
    by_cases hi' : i = id
    · subst hi'; rw [updP_same] at hu; cases hu; rw [hv] at hb; cases hb; omega
    · rw [updM_ne _ _ hi'] at hi; rw [updP_ne _ _ hi'] at hu
      exact ⟨i, c, u, hi, hro, hu, hb⟩
  · intro k o' hz
    rcases hZ k o' hz with h | h
    · exact .inl h
    · exact .inr (.inl (by omega))

/-- A variable. -/
theorem RelM.allocMut (hm : RelM P φ Z m n w) {id : Nat} (hid : id < n) (hφ : φ id = none) {e : TypeId} {z : Nat} {cs : List T} {cur : Array Value} {v : Value} (hz : 0 < z) (hsz : sz P e = some z) (hl : cs.length ≤ cur.size)
    (hr : RepTs φ Z w cs (cur.toList.take cs.length)) (hc : allC cs)
    (hv : v = .pointer (some ⟨w.heap.size, 0, none⟩) ∨ ∃ n c, v = .slice (some ⟨w.heap.size, 0, none⟩) n c ∧ cur.size = c * z ∧ c ≤ maxLen) :
    RelM P (updP φ id v) Z (updM m id (some (.box e z cs))) n (w.alloc (.cells cur e)) ∧ Step φ Z m w (updP φ id v) Z (updM m id (some (.box e z cs))) (w.alloc (.cells cur e)) := by
  have hb : blkOf v = some w.heap.size := by rcases hv with rfl | ⟨n, c, rfl, _⟩ <;> rfl
  refine hm.alloc_ hid hφ _ _ v Z (fun _ _ h => h) (fun _ _ h => .inl h) (by rcases hv with rfl | ⟨n, c, rfl, _⟩ <;> rfl) hb ⟨hz, hsz, w.heap.size, cur, hb, heap_alloc_new w _, hl, ?_, hc, fun o ho => absurd (hm.zlt.lt _ o ho) (by omega), hv⟩
  exact hr.mono (ext_updP v hφ) (fun _ _ h => h) (keepZ_of_heap fun k o hz => heap_alloc_old w _ k (hm.zlt.lt k o hz))

/-- A row that is read. -/
theorem RelM.allocArr (hm : RelM P φ Z m n w) {id : Nat} (hid : id < n) (hφ : φ id = none) {e : TypeId} {z : Nat} {xs : List V} {us : List Value} {cur : Array Value} {c : Nat} (hz : 0 < z) (hsz : sz P e = some z)
    (hr : RepEs Z w z xs us) (hlc : xs.length ≤ c) (hcm : c ≤ maxLen) (hcs : cur.size = c * z) (ht : cur.toList.take (xs.length * z) = us) :
    let v : Value := .slice (some ⟨w.heap.size, 0, none⟩) xs.length c
    let Z' : Zs := fun k o => Z k o ∨ (k = w.heap.size ∧ o < xs.length * z)
    RelM P (updP φ id v) Z' (updM m id (some (.arr e xs))) n (w.alloc (.cells cur e)) ∧ Step φ Z m w (updP φ id v) Z' (updM m id (some (.arr e xs))) (w.alloc (.cells cur e)) := by
  intro v Z'
  refine hm.alloc_ hid hφ _ _ v Z' (fun _ _ h => .inl h) (fun _ _ h => h.imp (fun h => h) (·.1)) rfl rfl ⟨us, z, hsz, hz, ⟨hr.length, .inr ⟨w.heap.size, c, cur, rfl, Nat.zero_le _, heap_alloc_new w _, hlc, hcm, hcs, ht⟩⟩, ?_, ?_⟩
  · exact hr.mono (fun _ _ h => .inl h) (keepZ_of_heap fun k o hz => heap_alloc_old w _ k (hm.zlt.lt k o hz))
  · intro k hk o
    obtain rfl : w.heap.size = k := by simpa [v, blkOf] using hk
    exact ⟨fun h => h.elim (fun h => absurd (hm.zlt.lt _ o h) (by omega)) (·.2), fun h => .inr ⟨rfl, h⟩⟩

/-- What a slice is read as. -/
theorem RelB.reads {v : Value} {b : Blk} {xs : List V} (h : RelB P φ Z w v b) (hx : (∃ e, b = .arr e xs) ∨ b = .ro xs) : RepV Z w (.sl xs) v := by
  rcases hx with ⟨e, rfl⟩ | rfl
  · obtain ⟨us, z, h1, h2, h3, h4, h5⟩ := h
    rcases h3.2 with ⟨rfl, h0⟩ | ⟨g, cap, cur, rfl, h6, h7, h8, h9, h10, h11⟩
    · obtain rfl : xs = [] := List.eq_nil_of_length_eq_zero h0
      exact .nil _ _
    · refine .sl h4 rfl h8 h9 fun i u hu => ?_
      have hi : i < us.length := by
        rcases Nat.lt_or_ge i us.length with h | h
        · exact h
        · rw [List.getElem?_eq_none h] at hu; cases hu
      refine ⟨h3.cells (g := g) rfl i u hu, ?_⟩
      rw [add_lit]
      rw [h5 g rfl]
      show 0 + i < _
      rw [Nat.zero_add, ← h3.1]; exact hi
  · exact h

theorem elems_rep (hm : RelM P φ Z m n w) {t : T} {u : Value} {xs : List V} (h : RepT φ Z w t u) (hx : elems m t = some xs) : RepV Z w (.sl xs) u := by
  cases h with
  | v h =>
    rename_i x
    cases x <;> simp [elems] at hx
    subst hx; exact h
  | nil => simp [elems] at hx; subst hx; exact .nil _ _
  | @loc id u h =>
    simp only [elems] at hx
    split at hx
    · rename_i e ys hy
      cases hx
      obtain ⟨u', hu, hr⟩ := hm.blk _ _ hy
      rw [h] at hu; cases hu
      exact hr.reads (.inl ⟨e, rfl⟩)
    · rename_i ys hy
      cases hx
      obtain ⟨u', hu, hr⟩ := hm.blk _ _ hy
      rw [h] at hu; cases hu
      exact hr
    · cases hx
  | _ => simp [elems] at hx
end
end TL
