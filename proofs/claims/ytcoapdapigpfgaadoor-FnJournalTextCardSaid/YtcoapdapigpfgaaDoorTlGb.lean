/- TL: parts TlMem, TlMem2, TlMem3, TlOps, TlOps2, TlOps3, TlOps4, TlOps5, TlOps6, TlOps7, TlOps8, TlOps9. -/
import Derived.Test.YtcoapdapigpfgaaDoorTlGa
import Derived.Laws.StructEq
import Derived.Laws.Concat
import Derived.Laws.Slices
import Derived.Laws.BytesString
import Derived.Laws.BytesArg
import Derived.Great.BuildSlice
import Derived.Laws.MakeOwn
/- TL, part 5: what allocations, stores and appends do to the relation. -/
namespace TL
open Go Go.RowKit

section
variable {P : Program} {φ φ' : Phi} {Z Z' : Zs} {m : Mem} {n : Nat} {w w' : World}

theorem RepTs.length {cs : List T} {us : List Value} (h : RepTs φ Z w cs us) : cs.length = us.length := by
  induction cs generalizing us with
  | nil => cases h; rfl
  | cons x xs ih => cases h with | cons h t => simp [ih t]
theorem RepVs.length {cs : List V} {us : List Value} (h : RepVs Z w cs us) : cs.length = us.length := by
  induction cs generalizing us with
  | nil => cases h; rfl
  | cons x xs ih => cases h with | cons h t => simp [ih t]
theorem RepCs.length {cs : List V} {us : List Value} (h : RepCs Z w cs us) : cs.length = us.length := by
  induction cs generalizing us with
  | nil => cases h; rfl
  | cons x xs ih => cases h with | cons hc h t => simp [ih t]
theorem RepTs.append {a b : List T} {us vs : List Value} (h : RepTs φ Z w a us) (g : RepTs φ Z w b vs) : RepTs φ Z w (a ++ b) (us ++ vs) := by
  induction a generalizing us with
  | nil => cases h; exact g
  | cons x xs ih => cases h with | cons h t => exact .cons h (ih t)
theorem RepTs.get {cs : List T} {us : List Value} (h : RepTs φ Z w cs us) : ∀ (i : Nat) (x : T), cs[i]? = some x → ∃ u, us[i]? = some u ∧ RepT φ Z w x u := by
  induction cs generalizing us with
  | nil => intro i x hx; simp at hx
  | cons y ys ih =>
    cases h with
    | cons h t =>
      intro i x hx
      cases i with
      | zero => simp at hx; subst hx; exact ⟨_, rfl, h⟩
      | succ i => exact ih t i x (by simpa using hx)
theorem RepTs.take {cs : List T} {us : List Value} (h : RepTs φ Z w cs us) (k : Nat) : RepTs φ Z w (cs.take k) (us.take k) := by
  induction cs generalizing us k with
  | nil => cases h; simpa using RepTs.nil
  | cons y ys ih =>
    cases h with
    | cons h t => cases k with
      | zero => simpa using RepTs.nil
      | succ k => exact .cons h (ih t k)
theorem RepTs.drop {cs : List T} {us : List Value} (h : RepTs φ Z w cs us) (k : Nat) : RepTs φ Z w (cs.drop k) (us.drop k) := by
  induction cs generalizing us k with
  | nil => cases h; simpa using RepTs.nil
  | cons y ys ih =>
    cases h with
    | cons h t => cases k with
      | zero => exact .cons h t
      | succ k => exact ih t k
theorem RepCs.get {cs : List V} {us : List Value} (h : RepCs Z w cs us) : ∀ (i : Nat) (x : V), cs[i]? = some x → ∃ u, us[i]? = some u ∧ RepV Z w x u := by
  induction cs generalizing us with
  | nil => intro i x hx; simp at hx
  | cons y ys ih =>
    cases h with
    | cons hc h t =>
      intro i x hx
      cases i with
      | zero => simp at hx; subst hx; exact ⟨_, rfl, h⟩
      | succ i => exact ih t i x (by simpa using hx)
theorem RepCs.take {cs : List V} {us : List Value} (h : RepCs Z w cs us) (k : Nat) : RepCs Z w (cs.take k) (us.take k) := by
  induction cs generalizing us k with
  | nil => cases h; simpa using RepCs.nil
  | cons y ys ih =>
    cases h with
    | cons hc h t => cases k with
      | zero => simpa using RepCs.nil
      | succ k => exact .cons hc h (ih t k)
theorem RepCs.drop {cs : List V} {us : List Value} (h : RepCs Z w cs us) (k : Nat) : RepCs Z w (cs.drop k) (us.drop k) := by
  induction cs generalizing us k with
  | nil => cases h; simpa using RepCs.nil
  | cons y ys ih =>
    cases h with
    | cons hc h t => cases k with
      | zero => exact .cons hc h t
      | succ k => exact ih t k
theorem RepCs.toTs {cs : List V} {us : List Value} (h : RepCs Z w cs us) : RepTs φ Z w (cs.map .v) us := by
  induction cs generalizing us with
  | nil => cases h; exact .nil
  | cons y ys ih => cases h with | cons hc h t => exact .cons (.v h) (ih t)
theorem RepCs.cells {cs : List V} {us : List Value} (h : RepCs Z w cs us) : ∀ c ∈ cs, c.cell = true := by
  induction cs generalizing us with
  | nil => intro c hc; cases hc
  | cons y ys ih =>
    cases h with
    | cons hc h t =>
      intro c hm
      rcases List.mem_cons.1 hm with rfl | hm
      · exact hc
      · exact ih t c hm

theorem RepV.one {x : V} {u : Value} (h : RepV Z w x u) (hc : x.cell = true) : u.oneCell' = true := by
  cases h <;> first | rfl | simp [V.cell] at hc
theorem RepT.one {x : T} {u : Value} (h : RepT φ Z w x u) (hc : x.cell = true) : u.oneCell' = true ∨ ∃ i, x = .loc i := by
  cases h with
  | v h => exact .inl (h.one hc)
  | loc h => exact .inr ⟨_, rfl⟩
  | agg h => simp [T.cell] at hc
  | tup h => simp [T.cell] at hc
  | _ => exact .inl rfl

theorem RepT.one' (hφ : PhiOk φ) {x : T} {u : Value} (h : RepT φ Z w x u) (hc : x.cell = true) : u.oneCell' = true := by
  rcases h.one hc with h1 | ⟨i, rfl⟩
  · exact h1
  · cases h with | loc h => exact hφ _ _ h
theorem cells_one {u : Value} (h : u.oneCell' = true) : u.cells = #[u] := by cases u <;> first | rfl | simp [Value.oneCell'] at h
theorem RepT.toCells (hφ : PhiOk φ) {x : T} {u : Value} (h : RepT φ Z w x u) (hc : allC x.cells) : RepTs φ Z w x.cells u.cells.toList := by
  cases h with
  | agg h => exact h
  | v h =>
    cases h with
    | agg h => exact h.toTs
    | tup h => exact absurd (hc _ (List.mem_singleton.2 rfl)) (by simp [T.cell, V.cell])
    | any u => exact absurd (hc _ (List.mem_singleton.2 rfl)) (by simp [T.cell, V.cell])
    | bool b => exact .cons (.v (.bool b)) .nil
    | int k n => exact .cons (.v (.int k n)) .nil
    | str h => exact .cons (.v (.str h)) .nil
    | fn h => exact .cons (.v (.fn h)) .nil
    | nil A c => exact .cons (.v (.nil A c)) .nil
    | sl h a b c d => exact .cons (.v (.sl h a b c d)) .nil
    | ref h d => exact .cons (.v (.ref h d)) .nil
  | tup h => exact absurd (hc _ (List.mem_singleton.2 rfl)) (by simp [T.cell])
  | loc h => rw [cells_one (hφ _ _ h)]; exact .cons (.loc h) .nil
  | nil => exact .cons .nil .nil
  | sv a b c d e => exact .cons (.sv a b c d e) .nil
  | ptr h => exact .cons (.ptr h) .nil
  | ptrs h => exact .cons (.ptrs h) .nil
  | fptr h d => exact .cons (.fptr h d) .nil
  | fn h => exact .cons (.fn h) .nil
theorem RepTs.ones (hφ : PhiOk φ) {cs : List T} {us : List Value} (h : RepTs φ Z w cs us) (hc : allC cs) : ∀ u ∈ us, u.oneCell' = true := by
  induction cs generalizing us with
  | nil => cases h; intro u hu; cases hu
  | cons y ys ih =>
    cases h with
    | cons h t =>
      intro u hu
      rcases List.mem_cons.1 hu with rfl | hu
      · exact h.one' hφ (hc y (by simp))
      · exact ih t (fun x hx => hc x (by simp [hx])) u hu
theorem RepCs.ones {cs : List V} {us : List Value} (h : RepCs Z w cs us) : ∀ u ∈ us, u.oneCell' = true := by
  induction cs generalizing us with
  | nil => cases h; intro u hu; cases hu
  | cons y ys ih =>
    cases h with
    | cons hc h t =>
      intro u hu
      rcases List.mem_cons.1 hu with rfl | hu
      · exact h.one hc
      · exact ih t u hu
theorem RepEs.ones {z : Nat} {xs : List V} {us : List Value} (h : RepEs Z w z xs us) : ∀ u ∈ us, u.oneCell' = true := by
  induction xs generalizing us z with
  | nil => cases h; intro u hu; cases hu
  | cons y ys ih =>
    cases h with
    | agg h hl t =>
      intro u hu
      rcases List.mem_append.1 hu with hu | hu
      · exact h.ones u hu
      · exact ih t u hu
    | one hc h t =>
      intro u hu
      rcases List.mem_cons.1 hu with rfl | hu
      · exact h.one hc
      · exact ih t u hu
theorem RepEs.length {z : Nat} {xs : List V} {us : List Value} (h : RepEs Z w z xs us) : us.length = xs.length * z := by
  induction xs generalizing us z with
  | nil => cases h; simp
  | cons y ys ih =>
    cases h with
    | agg h hl t => simp [ih t, hl, Nat.add_mul, Nat.add_comm]
    | one hc h t => simp [ih t]
theorem RepEs.append {z : Nat} {a b : List V} {us vs : List Value} (h : RepEs Z w z a us) (g : RepEs Z w z b vs) : RepEs Z w z (a ++ b) (us ++ vs) := by
  induction a generalizing us with
  | nil => cases h; exact g
  | cons x xs ih =>
    cases h with
    | agg h hl t => rw [List.append_assoc]; exact .agg h hl (ih t)
    | one hc h t => exact .one hc h (ih t)
/-- An element's cells. -/
theorem RepEs.get {z : Nat} {xs : List V} {us : List Value} (h : RepEs Z w z xs us) : ∀ (i : Nat) (x : V), xs[i]? = some x → ∃ vs, RepCs Z w x.cells vs ∧ vs.length = z ∧ ∀ j u, vs[j]? = some u → us[i * z + j]? = some u := by
  induction xs generalizing us z with
  | nil => intro i x hx; simp at hx
  | cons y ys ih =>
    intro i x hx
    cases h with
    | @agg _ cs u0 us0 _ h hl t =>
      cases i with
      | zero =>
        simp at hx; subst hx
        refine ⟨_, h, hl, fun j u hu => ?_⟩
        have hj : j < u0.length := by
          rcases Nat.lt_or_ge j u0.length with h | h
          · exact h
          · rw [List.getElem?_eq_none h] at hu; cases hu
        rw [Nat.zero_mul, Nat.zero_add, List.getElem?_append_left hj]; exact hu
      | succ i =>
        obtain ⟨vs, h1, h2, h3⟩ := ih t i x (by simpa using hx)
        refine ⟨vs, h1, h2, fun j u hu => ?_⟩
        have e : (i + 1) * z + j = u0.length + (i * z + j) := by rw [hl, Nat.add_mul]; omega
        rw [e, List.getElem?_append_right (by omega), Nat.add_sub_cancel_left]
        exact h3 j u hu
    | @one _ u0 us0 _ hc h t =>
      cases i with
      | zero =>
        simp at hx; subst hx
        have e : y.cells = [y] := by cases y <;> first | rfl | simp [V.cell] at hc
        refine ⟨[u0], by rw [e]; exact .cons hc h .nil, rfl, fun j u hu => ?_⟩
        cases j with
        | zero => simpa using hu
        | succ j => simp at hu
      | succ i =>
        obtain ⟨vs, h1, h2, h3⟩ := ih t i x (by simpa using hx)
        refine ⟨vs, h1, h2, fun j u hu => ?_⟩
        have := h3 j u hu
        simp only [Nat.mul_one] at this ⊢
        rw [show i + 1 + j = (i + j) + 1 by omega]
        simpa using this
end
end TL

/- TL, part 6: allocation, stores, appends: the relation behind them. -/
namespace TL
open Go Go.RowKit

def updP (φ : Phi) (i : Nat) (v : Value) : Phi := fun j => if j = i then some v else φ j
theorem updP_same (φ : Phi) (i : Nat) (v : Value) : updP φ i v i = some v := if_pos rfl
theorem updP_ne (φ : Phi) {i j : Nat} (v : Value) (h : j ≠ i) : updP φ i v j = φ j := if_neg h
theorem ext_updP {φ : Phi} {i : Nat} (v : Value) (h : φ i = none) : Ext φ (updP φ i v) := fun j u hu => by
  rw [updP_ne]; exact hu
  rintro rfl; rw [h] at hu; cases hu

section
variable {P : Program} {φ φ' : Phi} {Z Z' : Zs} {m : Mem} {n : Nat} {w w' : World}

theorem RelB.keep {v : Value} {b : Blk} (h : RelB P φ Z w v b) (he : Ext φ φ') (hs : SubZ Z Z') (hk : KeepZ Z w w')
    (hb : isRo b = false → ∀ k, blkOf v = some k → w'.heap[k]? = w.heap[k]? ∧ ∀ o, Z' k o → Z k o) : RelB P φ' Z' w' v b := by
  cases b with
  | ro xs => exact RepV.mono hs hk h
  | arr e xs =>
    obtain ⟨us, z, h1, h2, h3, h4, h5⟩ := h
    refine ⟨us, z, h1, h2, ?_, h4.mono hs hk, fun k hv o => ?_⟩
    · refine ⟨h3.1, h3.2.imp id ?_⟩
      rintro ⟨g, cap, cur, rfl, h6, h7, h8⟩
      exact ⟨g, cap, cur, rfl, h6, by rw [(hb rfl g rfl).1]; exact h7, h8⟩
    · rw [← h5 k hv o]
      exact ⟨(hb rfl k hv).2 o, hs k o⟩
  | box e z cs =>
    obtain ⟨h1, h2, k, cur, h3, h4, h5, h6, h7, h8, h9⟩ := h
    exact ⟨h1, h2, k, cur, h3, by rw [(hb rfl k h3).1]; exact h4, h5, h6.mono he hs hk, h7, fun o ho => h8 o ((hb rfl k h3).2 o ho), h9⟩

theorem RelB.lt {v : Value} {b : Blk} (h : RelB P φ Z w v b) (hr : isRo b = false) {k : Nat} (hk : blkOf v = some k) : k < w.heap.size := by
  cases b with
  | ro xs => cases hr
  | arr e xs =>
    obtain ⟨us, z, h1, h2, h3, h4, h5⟩ := h
    rcases h3.2 with ⟨rfl, _⟩ | ⟨g, cap, cur, rfl, h6, h7, h8⟩
    · cases hk
    · cases hk; exact (Array.getElem?_eq_some_iff.1 h7).1
  | box e z cs =>
    obtain ⟨h1, h2, k', cur, h3, h4, h5⟩ := h
    rw [h3] at hk; cases hk
    exact (Array.getElem?_eq_some_iff.1 h4).1

theorem RelM.owned_lt (hm : RelM P φ Z m n w) {k : Nat} (h : Owned φ m k) : k < w.heap.size := by
  obtain ⟨i, b, v, h1, h2, h3, h4⟩ := h
  obtain ⟨v', h5, h6⟩ := hm.blk i b h1
  rw [h3] at h5; cases h5
  exact h6.lt h2 h4

theorem keepZ_of_heap (h : ∀ k o, Z k o → w'.heap[k]? = w.heap[k]?) : KeepZ Z w w' := fun k o hz => World.cell?_of_block (w := w) (h k o hz)

/-- A new block, its handle a pointer or a slice. -/
theorem RelM.alloc_ (hm : RelM P φ Z m n w) {id : Nat} (hid : id < n) (hφ : φ id = none) (o : Obj) (b : Blk) (v : Value) (Z' : Zs) (hs : SubZ Z Z') (hZ : ∀ k o, Z' k o → Z k o ∨ k = w.heap.size) (h1 : v.oneCell' = true)
    (hv : blkOf v = some w.heap.size) (hb : RelB P (updP φ id v) Z' (w.alloc o) v b) :
    RelM P (updP φ id v) Z' (updM m id (some b)) n (w.alloc o) ∧ Step φ Z m w (updP φ id v) Z' (updM m id (some b)) (w.alloc o) := by
  have he : Ext φ (updP φ id v) := ext_updP v hφ
  have hmid : m id = none := by
    cases h : m id with
    | none => rfl
    | some b => obtain ⟨u, hu, _⟩ := hm.blk id b h; rw [hφ] at hu; cases hu
  have hold : ∀ k, k < w.heap.size → (w.alloc o).heap[k]? = w.heap[k]? := fun k hk => heap_alloc_old w o k hk
  have hk : KeepZ Z w (w.alloc o) := keepZ_of_heap fun k o hz => hold k (hm.zlt.lt k o hz)
  refine ⟨⟨?_, ?_, ?_, ?_, ?_⟩, ⟨he, hs, hk, rfl, rfl, rfl, by simp, fun k hk _ => hold k hk, ?_, ?_⟩⟩
  · intro i u hu
    by_cases hi : i = id
    · subst hi; rw [updP_same] at hu; cases hu; exact h1
    · rw [updP_ne _ _ hi] at hu; exact hm.ok i u hu
  · intro i hi
    rw [updP_ne _ _ (by omega)]; exact hm.fresh i hi
  · intro i c hc
    by_cases hi : i = id
    · subst hi; rw [updM_same] at hc; cases hc
      exact ⟨v, updP_same _ _ _, hb⟩
    · rw [updM_ne _ _ hi] at hc
      obtain ⟨u, hu, hr⟩ := hm.blk i c hc
      refine ⟨u, by rw [updP_ne _ _ hi]; exact hu, hr.keep he hs hk fun hro k hk => ?_⟩
      have hlt := hr.lt hro hk
      refine ⟨hold k hlt, fun o hz => (hZ k o hz).resolve_right (by omega)⟩
  · intro i j a c u u' k hi hj hu hu' hk hk' hra hrc
    by_cases hi' : i = id <;> by_cases hj' : j = id
    · rw [hi', hj']
    · subst hi'
      rw [updP_same] at hu; cases hu
      rw [hv] at hk; cases hk
      rw [updM_ne _ _ hj'] at hj; rw [updP_ne _ _ hj'] at hu'
      obtain ⟨x, hx, hr⟩ := hm.blk j c hj
      rw [hu'] at hx; cases hx
      exact absurd (hr.lt hrc hk') (by omega)
    · subst hj'
      rw [updP_same] at hu'; cases hu'
      rw [hv] at hk'; cases hk'
      rw [updM_ne _ _ hi'] at hi; rw [updP_ne _ _ hi'] at hu
      obtain ⟨x, hx, hr⟩ := hm.blk i a hi
      rw [hu] at hx; cases hx
      exact absurd (hr.lt hra hk) (by omega)
    · rw [updM_ne _ _ hi'] at hi; rw [updP_ne _ _ hi'] at hu
      rw [updM_ne _ _ hj'] at hj; rw [updP_ne _ _ hj'] at hu'
      exact hm.ne i j a c u u' k hi hj hu hu' hk hk' hra hrc
  · refine ⟨fun k o' hz => ?_, hm.zlt.gl.keep hs hk⟩
    rcases hZ k o' hz with h | h
    · exact Nat.lt_of_lt_of_le (hm.zlt.lt k o' h) (by simp)
    · simp [h]
  · rintro k hk ⟨i, c, u, hi, hro, hu, hb⟩
    by_cases hi' : i = id
    · subst hi'; rw [updP_same] at hu; cases hu; rw [hv] at hb; cases hb; omega
    · rw [updM_ne _ _ hi'] at hi; rw [updP_ne _ _ hi'] at hu
      exact ⟨i, c, u, hi, hro, hu, hb⟩
  · intro k o' hz
    rcases hZ k o' hz with h | h
    · exact .inl h
    · exact .inr (.inl (by omega))

/-- A variable. -/
theorem RelM.allocMut (hm : RelM P φ Z m n w) {id : Nat} (hid : id < n) (hφ : φ id = none) {e : TypeId} {z : Nat} {cs : List T} {cur : Array Value} {v : Value} (hz : 0 < z) (hsz : sz P e = some z) (hl : cs.length ≤ cur.size)
    (hr : RepTs φ Z w cs (cur.toList.take cs.length)) (hc : allC cs)
    (hv : v = .pointer (some ⟨w.heap.size, 0, none⟩) ∨ ∃ n c, v = .slice (some ⟨w.heap.size, 0, none⟩) n c ∧ cur.size = c * z ∧ c ≤ maxLen) :
    RelM P (updP φ id v) Z (updM m id (some (.box e z cs))) n (w.alloc (.cells cur e)) ∧ Step φ Z m w (updP φ id v) Z (updM m id (some (.box e z cs))) (w.alloc (.cells cur e)) := by
  have hb : blkOf v = some w.heap.size := by rcases hv with rfl | ⟨n, c, rfl, _⟩ <;> rfl
  refine hm.alloc_ hid hφ _ _ v Z (fun _ _ h => h) (fun _ _ h => .inl h) (by rcases hv with rfl | ⟨n, c, rfl, _⟩ <;> rfl) hb ⟨hz, hsz, w.heap.size, cur, hb, heap_alloc_new w _, hl, ?_, hc, fun o ho => absurd (hm.zlt.lt _ o ho) (by omega), hv⟩
  exact hr.mono (ext_updP v hφ) (fun _ _ h => h) (keepZ_of_heap fun k o hz => heap_alloc_old w _ k (hm.zlt.lt k o hz))

/-- A row that is read. -/
theorem RelM.allocArr (hm : RelM P φ Z m n w) {id : Nat} (hid : id < n) (hφ : φ id = none) {e : TypeId} {z : Nat} {xs : List V} {us : List Value} {cur : Array Value} {c : Nat} (hz : 0 < z) (hsz : sz P e = some z)
    (hr : RepEs Z w z xs us) (hlc : xs.length ≤ c) (hcm : c ≤ maxLen) (hcs : cur.size = c * z) (ht : cur.toList.take (xs.length * z) = us) :
    let v : Value := .slice (some ⟨w.heap.size, 0, none⟩) xs.length c
    let Z' : Zs := fun k o => Z k o ∨ (k = w.heap.size ∧ o < xs.length * z)
    RelM P (updP φ id v) Z' (updM m id (some (.arr e xs))) n (w.alloc (.cells cur e)) ∧ Step φ Z m w (updP φ id v) Z' (updM m id (some (.arr e xs))) (w.alloc (.cells cur e)) := by
  intro v Z'
  refine hm.alloc_ hid hφ _ _ v Z' (fun _ _ h => .inl h) (fun _ _ h => h.imp (fun h => h) (·.1)) rfl rfl ⟨us, z, hsz, hz, ⟨hr.length, .inr ⟨w.heap.size, c, cur, rfl, Nat.zero_le _, heap_alloc_new w _, hlc, hcm, hcs, ht⟩⟩, ?_, ?_⟩
  · exact hr.mono (fun _ _ h => .inl h) (keepZ_of_heap fun k o hz => heap_alloc_old w _ k (hm.zlt.lt k o hz))
  · intro k hk o
    obtain rfl : w.heap.size = k := by simpa [v, blkOf] using hk
    exact ⟨fun h => h.elim (fun h => absurd (hm.zlt.lt _ o h) (by omega)) (·.2), fun h => .inr ⟨rfl, h⟩⟩

/-- What a slice is read as. -/
theorem RelB.reads {v : Value} {b : Blk} {xs : List V} (h : RelB P φ Z w v b) (hx : (∃ e, b = .arr e xs) ∨ b = .ro xs) : RepV Z w (.sl xs) v := by
  rcases hx with ⟨e, rfl⟩ | rfl
  · obtain ⟨us, z, h1, h2, h3, h4, h5⟩ := h
    rcases h3.2 with ⟨rfl, h0⟩ | ⟨g, cap, cur, rfl, h6, h7, h8, h9, h10, h11⟩
    · obtain rfl : xs = [] := List.eq_nil_of_length_eq_zero h0
      exact .nil _ _
    · refine .sl h4 rfl h8 h9 fun i u hu => ?_
      have hi : i < us.length := by
        rcases Nat.lt_or_ge i us.length with h | h
        · exact h
        · rw [List.getElem?_eq_none h] at hu; cases hu
      refine ⟨h3.cells (g := g) rfl i u hu, ?_⟩
      rw [add_lit]
      rw [h5 g rfl]
      show 0 + i < _
      rw [Nat.zero_add, ← h3.1]; exact hi
  · exact h

theorem elems_rep (hm : RelM P φ Z m n w) {t : T} {u : Value} {xs : List V} (h : RepT φ Z w t u) (hx : elems m t = some xs) : RepV Z w (.sl xs) u := by
  cases h with
  | v h =>
    rename_i x
    cases x <;> simp [elems] at hx
    subst hx; exact h
  | nil => simp [elems] at hx; subst hx; exact .nil _ _
  | @loc id u h =>
    simp only [elems] at hx
    split at hx
    · rename_i e ys hy
      cases hx
      obtain ⟨u', hu, hr⟩ := hm.blk _ _ hy
      rw [h] at hu; cases hu
      exact hr.reads (.inl ⟨e, rfl⟩)
    · rename_i ys hy
      cases hx
      obtain ⟨u', hu, hr⟩ := hm.blk _ _ hy
      rw [h] at hu; cases hu
      exact hr
    · cases hx
  | _ => simp [elems] at hx
end
end TL

/- TL, part 7: a change in one block; stores; appends. -/
set_option linter.unusedVariables false
set_option linter.unusedSimpArgs false
namespace TL
open Go Go.RowKit

section
variable {P : Program} {φ φ' : Phi} {Z Z' : Zs} {m m' : Mem} {n : Nat} {w w' : World}

theorem RelM.change (hm : RelM P φ Z m n w) {i0 j0 g : Nat} {b0 : Blk} {v0 : Value} (hi : m i0 = some b0) (hro : isRo b0 = false) (hv : φ i0 = some v0) (hg : blkOf v0 = some g)
    (he : Ext φ φ') (hok : PhiOk φ') (hfr : ∀ i, n ≤ i → φ' i = none) (hs : SubZ Z Z') (hZ : ∀ k o, Z' k o → Z k o ∨ k = g) (hk : KeepZ Z w w')
    (hos : w'.os = w.os) (htape : w'.tape = w.tape) (hout : w'.output = w.output) (hsize : w'.heap.size = w.heap.size) (hheap : ∀ k, k ≠ g → w'.heap[k]? = w.heap[k]?)
    (hm' : ∀ j b, m' j = some b → (m j = some b ∧ j ≠ i0) ∨ ∃ v, φ' j = some v ∧ RelB P φ' Z' w' v b ∧ (isRo b = true ∨ (blkOf v = some g ∧ j = j0))) :
    RelM P φ' Z' m' n w' ∧ Step φ Z m w φ' Z' m' w' := by
  obtain ⟨v0', hv0', hb0⟩ := hm.blk _ _ hi
  rw [hv] at hv0'; cases hv0'
  have hglt : g < w.heap.size := hb0.lt hro hg
  -- another block that the old memory owns
  have far : ∀ j b v k, m j = some b → j ≠ i0 → isRo b = false → φ j = some v → blkOf v = some k → k ≠ g := fun j b v k hj hne hr hv' hk' e => by
    subst e; exact hne (hm.ne j i0 b b0 v v0 k hj hi hv' hv hk' hg hr hro)
  have hown : ∀ k, Owned φ' m' k → Owned φ m k := by
    rintro k ⟨j, b, v, hj, hr, hv', hb⟩
    rcases hm' j b hj with ⟨h1, _⟩ | ⟨v1, h2, h3, h4⟩
    · obtain ⟨u, hu, _⟩ := hm.blk j b h1
      have := he j u hu; rw [hv'] at this; cases this
      exact ⟨j, b, v, h1, hr, hu, hb⟩
    · rw [hv'] at h2; cases h2
      rcases h4 with h4 | ⟨h4, _⟩
      · rw [hr] at h4; cases h4
      · rw [hb] at h4; cases h4; exact ⟨i0, b0, v0, hi, hro, hv, hg⟩
  refine ⟨⟨hok, hfr, ?_, ?_, ?_⟩, ⟨he, hs, hk, hos, htape, hout, Nat.le_of_eq hsize.symm, ?_, fun k _ h => hown k h, ?_⟩⟩
  · intro j b hj
    rcases hm' j b hj with ⟨h1, hne⟩ | ⟨v, h2, h3, _⟩
    · obtain ⟨u, hu, hr⟩ := hm.blk j b h1
      refine ⟨u, he j u hu, hr.keep he hs hk fun hro' k hk' => ?_⟩
      have hne' := far j b u k h1 hne hro' hu hk'
      exact ⟨hheap k hne', fun o hz => (hZ k o hz).resolve_right hne'⟩
    · exact ⟨v, h2, h3⟩
  · intro i j a b u v k h1 h2 h3 h4 h5 h6 h7 h8
    rcases hm' i a h1 with ⟨g1, n1⟩ | ⟨v1, g1, _, g2⟩ <;> rcases hm' j b h2 with ⟨g3, n2⟩ | ⟨v2, g3, _, g4⟩
    · obtain ⟨u', hu, _⟩ := hm.blk i a g1
      have := he i u' hu; rw [h3] at this; cases this
      obtain ⟨v', hv', _⟩ := hm.blk j b g3
      have := he j v' hv'; rw [h4] at this; cases this
      exact hm.ne i j a b u v k g1 g3 hu hv' h5 h6 h7 h8
    · rcases g4 with g4 | ⟨g4, _⟩
      · rw [h8] at g4; cases g4
      · rw [h4] at g3; cases g3; rw [h6] at g4; cases g4
        obtain ⟨u', hu, _⟩ := hm.blk i a g1
        have := he i u' hu; rw [h3] at this; cases this
        exact absurd rfl (far i a u _ g1 n1 h7 hu h5)
    · rcases g2 with g2 | ⟨g2, _⟩
      · rw [h7] at g2; cases g2
      · rw [h3] at g1; cases g1; rw [h5] at g2; cases g2
        obtain ⟨v', hv', _⟩ := hm.blk j b g3
        have := he j v' hv'; rw [h4] at this; cases this
        exact absurd rfl (far j b v _ g3 n2 h8 hv' h6)
    · rcases g2 with g2 | ⟨_, g2⟩
      · rw [h7] at g2; cases g2
      · rcases g4 with g4 | ⟨_, g4⟩
        · rw [h8] at g4; cases g4
        · rw [g2, g4]
  · refine ⟨fun k o hz => ?_, hm.zlt.gl.keep hs hk⟩
    rw [hsize]
    rcases hZ k o hz with h | h
    · exact hm.zlt.lt k o h
    · rw [h]; exact hglt
  · intro k hk' ho
    exact hheap k fun e => ho (by subst e; exact ⟨i0, b0, v0, hi, hro, hv, hg⟩)
  · intro k o hz
    rcases hZ k o hz with h | h
    · exact .inl h
    · exact .inr (.inr (by subst h; exact ⟨i0, b0, v0, hi, hro, hv, hg⟩))

/-- A store into a variable or a row of the frame's own. -/
theorem RelM.store_ (hm : RelM P φ Z m n w) {i e z g : Nat} {cs cs' : List T} {v : Value} {cur cur' : Array Value} (hi : m i = some (.box e z cs)) (hv : φ i = some v) (hg : blkOf v = some g) (hcur : w.heap[g]? = some (.cells cur e (0, 0)))
    (hs : cur'.size = cur.size) (hl : cs'.length ≤ cur.size) (hr : RepTs φ Z w cs' (cur'.toList.take cs'.length)) (hc : allC cs') :
    RelM P φ Z (updM m i (some (.box e z cs'))) n (w.setRow g cur') ∧ Step φ Z m w φ Z (updM m i (some (.box e z cs'))) (w.setRow g cur') := by
  obtain ⟨v', hv', hb⟩ := hm.blk _ _ hi
  rw [hv] at hv'; cases hv'
  obtain ⟨h1, h2, k, cur0, h3, h4, h5, h6, h7, h8, h9⟩ := hb
  rw [hg] at h3; cases h3
  rw [hcur] at h4; cases h4
  have hk : KeepZ Z w (w.setRow g cur') := keepZ_of_heap fun k o hz => setRow_other w g k cur' (by rintro rfl; exact h8 o hz)
  refine hm.change (i0 := i) (j0 := i) hi rfl hv hg (fun _ _ h => h) hm.ok hm.fresh (fun _ _ h => h) (fun _ _ h => .inl h) hk rfl rfl rfl (by simp) (fun k hk => setRow_other w g k cur' hk) fun j b hj => ?_
  by_cases hji : j = i
  · subst hji
    rw [updM_same] at hj; cases hj
    refine .inr ⟨v, hv, ⟨h1, h2, g, cur', hg, setRow_heap w g cur cur' e _ hcur, by rw [hs]; exact hl, hr.mono (fun _ _ h => h) (fun _ _ h => h) hk, hc, h8, ?_⟩, .inr ⟨hg, rfl⟩⟩
    rcases h9 with h9 | ⟨n', c, h9, h10⟩
    · exact .inl h9
    · exact .inr ⟨n', c, h9, by rw [hs]; exact h10.1, h10.2⟩
  · rw [updM_ne _ _ hji] at hj
    exact .inl ⟨hj, hji⟩
end

section
variable {P : Program} (w : World)
/-- append onto a row of the frame's own: what it comes to, and where it lies. -/
theorem run_append_tl (t ty e : TypeId) (i : TypeInfo) (z : Value) (ht : P.underlying t = some (.slice e)) (hi : P.info? e = some i) (hz : i.zero = some z) (hzs : z.cells.size = i.size) (hsz : 0 < i.size)
    (v : Value) (n : Nat) (xs : List Value) (hown : w.ownsRow 0 e i.size v n xs)
    (A : Option Addr) (m c : Nat) (news : List Value) (hl : news.length = m * i.size) (hA : 0 < m → ∃ a, A = some a ∧ ∀ j u, news[j]? = some u → w.cell? (a.add j) = some u) (h1 : ∀ u ∈ news, u.oneCell' = true)
    (hbytes : (n + m) * i.bytes ≤ 140737488355328) (h63 : n + m ≤ maxLen) :
    ∃ v' w', (Builtin.append_ #[t, t] ty #[v, .slice A m c]).run P w = .ok v' w' ∧ w'.ownsRow 0 e i.size v' (n + m) (xs ++ news) ∧
      ((m = 0 ∧ v' = v ∧ w' = w) ∨
       (∃ g cur cap cur', v = .slice (some ⟨g, 0, none⟩) n cap ∧ v' = .slice (some ⟨g, 0, none⟩) (n + m) cap ∧ w.heap[g]? = some (.cells cur e (0, 0)) ∧ w' = w.setRow g cur' ∧ cur'.size = cur.size) ∨
       (∃ cap cur', v' = .slice (some ⟨w.heap.size, 0, none⟩) (n + m) cap ∧ w' = w.drew.alloc (.cells cur' e) ∧ n + m ≤ cap ∧ cap ≤ maxLen ∧ cur'.size = cap * i.size ∧ cur'.toList.take ((n + m) * i.size) = xs ++ news)) := by
  have hsmall : n + m ≤ 9223372036854775807 := by simp only [maxLen] at h63; omega
  have hlen : (xs ++ news).length = (n + m) * i.size := by rw [List.length_append, hown.1, hl, Nat.add_mul]
  by_cases hm : m = 0
  · subst hm
    obtain rfl : news = [] := List.eq_nil_of_length_eq_zero (by simpa using hl)
    have hr : (Builtin.append_ #[t, t] ty #[v, .slice A 0 c]).run P w = .ok v w := by
      rcases hown.2 with ⟨rfl, rfl⟩ | ⟨g, cap, cur, rfl, _, _, hnc, _⟩ <;> cases A <;>
        simp [Builtin.append_, run_underlying ht, Go.sizeOf, typeInfo, hi, Builtin.lenOf, Builtin.firstCells, loadCells, loadCellsFrom, storeCells, *]
    exact ⟨v, w, hr, by simpa using hown, .inl ⟨rfl, rfl, rfl⟩⟩
  obtain ⟨a, rfl, hnews⟩ := hA (by omega)
  have grown : ∀ (old : Nat), old < n + m →
      (w.drew.alloc (.cells (xs.toArray ++ news.toArray ++ Builtin.zeroCells z.cells (grownCap w (n + m) old e - (n + m))) e)).ownsRow 0 e i.size
        (.slice (some ⟨w.heap.size, 0, none⟩) (n + m) (grownCap w (n + m) old e)) (n + m) (xs ++ news) ∧ n + m ≤ grownCap w (n + m) old e ∧ grownCap w (n + m) old e ≤ maxLen ∧
      (xs.toArray ++ news.toArray ++ Builtin.zeroCells z.cells (grownCap w (n + m) old e - (n + m))).size = grownCap w (n + m) old e * i.size ∧
      (xs.toArray ++ news.toArray ++ Builtin.zeroCells z.cells (grownCap w (n + m) old e - (n + m))).toList.take ((n + m) * i.size) = xs ++ news := by
    intro old ho
    have hge := grownCap_ge w (n + m) old e
    have hcm : grownCap w (n + m) old e ≤ maxLen := grownCap_le_maxLen w (n + m) old e h63
    have hs : (xs.toArray ++ news.toArray ++ Builtin.zeroCells z.cells (grownCap w (n + m) old e - (n + m))).size = grownCap w (n + m) old e * i.size := by
      simp only [Array.size_append, List.size_toArray, size_zeroCells, hzs, hown.1, hl, ← Nat.add_mul]
      congr 1
      omega
    have htk : (xs.toArray ++ news.toArray ++ Builtin.zeroCells z.cells (grownCap w (n + m) old e - (n + m))).toList.take ((n + m) * i.size) = xs ++ news := by
      simp only [Array.toList_append, List.append_assoc]
      rw [← List.append_assoc, ← hlen]
      exact List.take_left
    exact ⟨⟨hlen, .inr ⟨w.heap.size, _, _, rfl, Nat.zero_le _, heap_alloc_new w.drew _, hge, hcm, hs, htk⟩⟩, hge, hcm, hs, htk⟩
  rcases hown.2 with ⟨rfl, rfl⟩ | ⟨g, cap, cur, rfl, hbg, hg, hnc, hcm, hcs, htake⟩
  · obtain rfl : xs = [] := List.eq_nil_of_length_eq_zero (by simpa using hown.1)
    have hr := run_append_nil (P := P) w t ty e i z ht hi hz a m c news hl hnews (by omega) (by omega) (by have hb := hbytes; simp only [Nat.zero_add] at hb; omega)
    have hgr := grown 0 (by omega)
    simp only [Nat.zero_add, List.nil_append, Array.empty_append] at hgr ⊢
    exact ⟨_, _, hr, hgr.1, .inr (.inr ⟨_, _, rfl, rfl, hgr.2.1, hgr.2.2.1, hgr.2.2.2.1, hgr.2.2.2.2⟩)⟩
  · by_cases hroom : n + m ≤ cap
    · have hfit : n * i.size + news.length ≤ cur.size := by rw [hl, hcs, ← Nat.add_mul]; exact Nat.mul_le_mul_right _ hroom
      have hr := run_append_room (P := P) w t ty e i ht hi g n cap cur hg a m c news hl hnews h1 hroom hfit
      have hsz' : (cur.toList.take (n * i.size) ++ news ++ cur.toList.drop (n * i.size + news.length)).toArray.size = cur.size := by
        simp only [List.size_toArray, List.length_append, List.length_take, List.length_drop, Array.length_toList]; omega
      refine ⟨_, _, hr, ⟨hlen, .inr ⟨g, cap, _, rfl, hbg, setRow_heap w g cur _ e _ hg, hroom, hcm, by rw [hsz', hcs], ?_⟩⟩, .inr (.inl ⟨g, cur, cap, _, rfl, rfl, hg, rfl, hsz'⟩)⟩
      rw [htake, ← hlen]
      exact List.take_left
    · have holds : ∀ j u, xs[j]? = some u → w.cell? ((⟨g, 0, none⟩ : Addr).add j) = some u := hown.cells (g := g) rfl
      have hr := run_append_grow (P := P) w t ty e i z ht hi hz ⟨g, 0, none⟩ n cap xs hown.1 holds a m c news hl hnews (by omega) (by omega) (growslice_fits (by omega) hbytes)
      have hgr := grown cap (by omega)
      exact ⟨_, _, hr, hgr.1, .inr (.inr ⟨_, _, rfl, rfl, hgr.2.1, hgr.2.2.1, hgr.2.2.2.1, hgr.2.2.2.2⟩)⟩
end
end TL

/- TL, part 8: what the operations do, and that the abstract ones follow them. -/
set_option linter.unusedVariables false
set_option linter.unusedSimpArgs false
namespace TL
open Go Go.RowKit

def Done (P : Program) (φ : Phi) (Z : Zs) (m : Mem) (n : Nat) (w : World) (r : Result Next) (E : Eff) : Prop :=
  ∃ v w' φ' Z', (r = .ok (.value v) w' ∨ (r = .ok .skip w' ∧ v = undef)) ∧ RelM P φ' Z' (applyUs m E.us) n w' ∧ RepT φ' Z' w' E.val v ∧ Step φ Z m w φ' Z' (applyUs m E.us) w'

section
variable {P : Program} {φ : Phi} {Z : Zs} {m : Mem} {n : Nat} {w : World}

theorem Done.same {r : Result Next} {x : T} {v : Value} (hm : RelM P φ Z m n w) (hr : r = .ok (.value v) w) (hx : RepT φ Z w x v) : Done P φ Z m n w r ⟨x, []⟩ :=
  ⟨v, w, φ, Z, .inl hr, hm, hx, Step.refl _ _ _ _⟩

theorem obind_eq {α β : Type} {o : Option α} {k : α → Option β} {b : β} (h : obind o k = some b) : ∃ a, o = some a ∧ k a = some b := by
  cases o with
  | none => simp at h
  | some a => exact ⟨a, rfl, by simpa using h⟩
theorem tst_eq {β : Type} {c : Prop} [Decidable c] {x : Option β} {b : β} (h : tst c x = some b) : c ∧ x = some b := by
  unfold tst at h; split at h
  · exact ⟨‹_›, h⟩
  · cases h
theorem boolOf_rep {t : T} {u : Value} {b : Bool} (h : RepT φ Z w t u) (hb : boolOf t = some b) : u = .bool b := by
  cases h with
  | v h => cases h <;> simp [boolOf] at hb; subst hb; rfl
  | _ => simp [boolOf] at hb
theorem int_rep {k : IntKind} {i : Int} {u : Value} (h : RepT φ Z w (.v (.int k i)) u) : u = .int k i := by
  cases h with | v h => cases h; rfl
theorem str_rep {s : List UInt8} {u : Value} (h : RepT φ Z w (.v (.str s)) u) : ∃ b : ByteArray, u = .string b ∧ b.data.toList = s := by
  cases h with | v h => cases h with | str h => exact ⟨_, rfl, h⟩
theorem rep_int (k : IntKind) (i : Int) : RepT φ Z w (.v (.int k i)) (.int k i) := .v (.int k i)
theorem rep_bool (b : Bool) : RepT φ Z w (.v (.bool b)) (.bool b) := .v (.bool b)

/-! types -/
theorem info_of_sz {t k : Nat} (h : sz P t = some k) : ∃ i, P.info? t = some i ∧ i.size = k := by
  unfold sz at h; cases hi : P.info? t with
  | none => simp [hi] at h
  | some i => simp [hi] at h; exact ⟨i, rfl, h⟩
theorem run_sizeOf {t k : Nat} (h : sz P t = some k) (w : World) : (Go.sizeOf t).run P w = .ok k w := by
  obtain ⟨i, h1, h2⟩ := info_of_sz h
  simp [Go.sizeOf, typeInfo, h1, h2]
theorem run_isAgg {t : Nat} {a : Bool} (h : isAg P t = some a) (w : World) : (isAgg t).run P w = .ok a w := by
  unfold isAg at h; cases hu : P.underlying t with
  | none => simp [hu] at h
  | some d =>
    simp only [hu, Option.map_some, Option.some.injEq] at h
    simp only [isAgg, Sem.run_bind, run_underlying hu, Result.andThen_ok]
    subst h
    cases d <;> rfl
theorem und_of_elT {t e : Nat} (h : elT P t = some e) : P.underlying t = some (.slice e) := by
  unfold elT at h; cases hu : P.underlying t with
  | none => simp [hu] at h
  | some d => simp [hu] at h; split at h <;> simp at h; subst h; rfl
theorem und_of_isStr {t : Nat} (h : isStr P t = some true) : P.underlying t = some .string := by
  unfold isStr at h; cases hu : P.underlying t with
  | none => simp [hu] at h
  | some d => simp only [hu, Option.map_some, Option.some.injEq] at h; split at h <;> simp at h; rfl
theorem und_of_intK {t : Nat} {k : IntKind} (h : intK P t = some k) : P.underlying t = some (.int k) := by
  unfold intK at h; cases hu : P.underlying t with
  | none => simp [hu] at h
  | some d => simp [hu] at h; split at h <;> simp at h; subst h; rfl

/-! loads -/
theorem cutV_sound {t off : Nat} {cs : List V} {us : List Value} {ad : Addr} {x : T} (h : RepCs Z w cs us)
    (hz : ∀ i u, us[i]? = some u → w.cell? (ad.add i) = some u ∧ Z (ad.add i).block (ad.add i).off) (hx : cutV P t cs off = some x) :
    ∃ v, (loadVar t (ad.add off)).run P w = .ok v w ∧ RepT φ Z w x v := by
  unfold cutV at hx
  obtain ⟨k, hk, hx⟩ := obind_eq hx
  obtain ⟨a, ha, hx⟩ := obind_eq hx
  cases a with
  | true =>
    obtain ⟨hle, hx⟩ := tst_eq (by simpa using hx)
    cases hx
    have hl : ((us.drop off).take k).length = k := by rw [List.length_take, List.length_drop, ← h.length]; omega
    refine ⟨.agg ((us.drop off).take k).toArray, ?_, .v (.agg ((h.drop off).take k))⟩
    have := run_loadCells_list (P := P) w (ad.add off) ((us.drop off).take k) fun j v hv => by
      rw [add_add]
      refine (hz (off + j) v ?_).1
      rw [List.getElem?_take] at hv
      split at hv
      · rwa [List.getElem?_drop] at hv
      · cases hv
    rw [hl] at this
    simp [loadVar, run_isAgg ha, run_sizeOf hk, this]
  | false =>
    simp only [Bool.false_eq_true, if_false, Option.map_eq_some_iff] at hx
    obtain ⟨y, hy, rfl⟩ := hx
    obtain ⟨u, hu, hr⟩ := h.get off y hy
    refine ⟨u, ?_, .v hr⟩
    simp [loadVar, run_isAgg ha, (hz off u hu).1]
theorem cutT_sound {t off : Nat} {cs : List T} {us : List Value} {ad : Addr} {x : T} (h : RepTs φ Z w cs us)
    (hz : ∀ i u, us[i]? = some u → w.cell? (ad.add i) = some u) (hx : cutT P t cs off = some x) :
    ∃ v, (loadVar t (ad.add off)).run P w = .ok v w ∧ RepT φ Z w x v := by
  unfold cutT at hx
  obtain ⟨k, hk, hx⟩ := obind_eq hx
  obtain ⟨a, ha, hx⟩ := obind_eq hx
  cases a with
  | true =>
    obtain ⟨hle, hx⟩ := tst_eq (by simpa using hx)
    cases hx
    have hl : ((us.drop off).take k).length = k := by rw [List.length_take, List.length_drop, ← h.length]; omega
    refine ⟨.agg ((us.drop off).take k).toArray, ?_, .agg ((h.drop off).take k)⟩
    have := run_loadCells_list (P := P) w (ad.add off) ((us.drop off).take k) fun j v hv => by
      rw [add_add]
      refine hz (off + j) v ?_
      rw [List.getElem?_take] at hv
      split at hv
      · rwa [List.getElem?_drop] at hv
      · cases hv
    rw [hl] at this
    simp [loadVar, run_isAgg ha, run_sizeOf hk, this]
  | false =>
    simp only [Bool.false_eq_true, if_false] at hx
    obtain ⟨u, hu, hr⟩ := h.get off x hx
    refine ⟨u, ?_, hr⟩
    simp [loadVar, run_isAgg ha, hz off u hu]

/-- What a pointer into a block of the frame's own is. -/
theorem box_at (hm : RelM P φ Z m n w) {id off : Nat} {u : Value} {e : TypeId} {z : Nat} {cs : List T} (h : RepT φ Z w (.ptr id off) u) (hi : m id = some (.box e z cs)) :
    ∃ k cur v, φ id = some v ∧ blkOf v = some k ∧ u = .pointer (some ⟨k, off, none⟩) ∧ w.heap[k]? = some (.cells cur e (0, 0)) ∧ cs.length ≤ cur.size ∧ RepTs φ Z w cs (cur.toList.take cs.length) ∧ allC cs := by
  obtain ⟨v, hv, hb⟩ := hm.blk _ _ hi
  obtain ⟨h1, h2, k, cur, h3, h4, h5, h6, h7, h8, h9⟩ := hb
  cases h with
  | ptr h => rw [hv] at h; cases h; cases h3; exact ⟨_, cur, _, hv, rfl, rfl, h4, h5, h6, h7⟩
  | ptrs h => rw [hv] at h; cases h; cases h3; exact ⟨_, cur, _, hv, rfl, rfl, h4, h5, h6, h7⟩
theorem evLoad_sound (hm : RelM P φ Z m n w) {t : Nat} {a x : T} {u : Value} (h : RepT φ Z w a u) (hx : evLoad P t m a = some x) : ∃ v, (Instr.loadAt t u).run P w = .ok v w ∧ RepT φ Z w x v := by
  cases a with
  | ptr id off =>
    simp only [evLoad] at hx
    split at hx
    · rename_i e z cs hi
      obtain ⟨k, cur, v, _, _, rfl, h4, h5, h6, h7⟩ := box_at hm h hi
      obtain ⟨v, hv, hr⟩ := cutT_sound (P := P) (ad := ⟨k, 0, none⟩) h6 (fun i u hu => by
        rw [add_lit, Nat.zero_add, cell_of_row w k i cur e (0, 0) h4]
        rw [List.getElem?_take] at hu; split at hu
        · simpa using hu
        · cases hu) hx
      rw [add_lit, Nat.zero_add] at hv
      exact ⟨v, by simpa [Instr.loadAt, Instr.sureAddr] using hv, hr⟩
    · cases hx
  | fptr cs off =>
    cases h with
    | fptr h hz =>
      obtain ⟨v, hv, hr⟩ := cutV_sound (φ := φ) h hz hx
      exact ⟨v, by simpa [Instr.loadAt, Instr.sureAddr] using hv, hr⟩
  | v y =>
    cases h with
    | v h =>
      cases h with
      | ref h hz =>
        obtain ⟨v, hv, hr⟩ := cutV_sound (φ := φ) h hz hx
        exact ⟨v, by simpa [Instr.loadAt, Instr.sureAddr, add_zero'] using hv, hr⟩
      | _ => simp [evLoad] at hx
  | _ => simp [evLoad] at hx

/-! stores -/
theorem setAt_spec (cs : List T) (off : Nat) (xs : List T) (h : off + xs.length ≤ cs.length) : setAt cs off xs = cs.take off ++ xs ++ cs.drop (off + xs.length) := by
  induction xs generalizing cs off with
  | nil => simp [setAt]
  | cons x xs ih =>
    simp only [setAt, List.length_cons] at h ⊢
    rw [ih _ _ (by rw [List.length_set]; omega)]
    rw [List.set_eq_take_append_cons_drop, if_pos (by omega)]
    have h1 : (cs.take off).length = off := by rw [List.length_take]; omega
    have e1 : List.take (off + 1) (cs.take off ++ x :: cs.drop (off + 1)) = cs.take off ++ [x] := by
      rw [List.take_append, h1, List.take_of_length_le (by omega)]
      rw [show off + 1 - off = 1 by omega]; rfl
    have e2 : List.drop (off + 1 + xs.length) (cs.take off ++ x :: cs.drop (off + 1)) = cs.drop (off + (xs.length + 1)) := by
      rw [List.drop_append, h1, List.drop_of_length_le (by omega), List.nil_append]
      rw [show off + 1 + xs.length - off = xs.length + 1 by omega, List.drop_succ_cons, List.drop_drop]
      congr 1; omega
    rw [e1, e2]; simp
theorem length_setAt (cs : List T) (off : Nat) (xs : List T) : (setAt cs off xs).length = cs.length := by
  induction xs generalizing cs off with
  | nil => rfl
  | cons x xs ih => simp [setAt, ih]

theorem evStore_sound (hm : RelM P φ Z m n w) {t : Nat} {a x : T} {u y : Value} {us : Nat × Option Blk} (h : RepT φ Z w a u) (hy : RepT φ Z w x y) (hx : evStore P t m x a = some us) :
    ∃ w', (Instr.storeAt t u y).run P w = .ok () w' ∧ RelM P φ Z (updM m us.1 us.2) n w' ∧ Step φ Z m w φ Z (updM m us.1 us.2) w' := by
  cases a with
  | ptr id off =>
    simp only [evStore] at hx
    split at hx
    · rename_i e z cs hi
      obtain ⟨k, hk, hx⟩ := obind_eq hx
      obtain ⟨⟨hl, hc, hle⟩, hx⟩ := tst_eq hx
      cases hx
      obtain ⟨g, cur, v, hv, hg, rfl, h4, h5, h6, h7⟩ := box_at hm h hi
      have hcells := hy.toCells hm.ok hc
      have hlen : y.cells.toList.length = k := by rw [← hcells.length, hl]
      have hones := hcells.ones hm.ok hc
      have hlk : off + 0 + y.cells.toList.length ≤ cur.size := by omega
      have hst := run_storeCells_at P g off e y.cells.toList 0 cur w h4 hlk hones
      simp only [Nat.add_zero] at hst
      refine ⟨w.setRow g (cur.toList.take off ++ y.cells.toList ++ cur.toList.drop (off + y.cells.toList.length)).toArray, ?_, ?_⟩
      · have hsz : y.cells.size = k := by simpa using hlen
        simp [Instr.storeAt, Instr.sureAddr, storeVar, run_sizeOf hk, hsz, hst]
      · have hs : (cur.toList.take off ++ y.cells.toList ++ cur.toList.drop (off + y.cells.toList.length)).toArray.size = cur.size := by
          simp only [List.size_toArray, List.length_append, List.length_take, List.length_drop, hlen]; simp only [Array.length_toList]; omega
        have hcur : cs.length ≤ cur.toList.length := by simpa using h5
        refine hm.store_ hi hv hg h4 hs (by rw [length_setAt]; exact h5) ?_ ?_
        · rw [length_setAt, setAt_spec _ _ _ (by omega)]
          have ht1 := h6.take off
          have ht2 := h6.drop (off + k)
          rw [List.take_take, Nat.min_eq_left (by omega)] at ht1
          have : (List.take off cur.toList ++ y.cells.toList ++ List.drop (off + y.cells.toList.length) cur.toList).toArray.toList.take cs.length = cur.toList.take off ++ y.cells.toList ++ (cur.toList.take cs.length).drop (off + k) := by
            have hll : (cur.toList.take off ++ y.cells.toList).length = off + k := by simp only [List.length_append, List.length_take, hlen]; omega
            show List.take cs.length (cur.toList.take off ++ y.cells.toList ++ _) = _
            rw [List.take_append, hll, List.take_of_length_le (by omega), hlen, List.drop_take]
          rw [this]
          exact (ht1.append hcells).append (by rw [hl]; exact ht2)
        · rw [setAt_spec _ _ _ (by omega)]
          intro q hq
          simp only [List.mem_append] at hq
          rcases hq with (hq | hq) | hq
          · exact h7 q (List.mem_of_mem_take hq)
          · exact hc q hq
          · exact h7 q (List.mem_of_mem_drop hq)
    · cases hx
  | _ => simp [evStore] at hx
end
end TL

/- TL, part 9: addresses, slices, texts, numbers. -/
set_option linter.unusedVariables false
set_option linter.unusedSimpArgs false
namespace TL
open Go Go.RowKit

section
variable {P : Program} {φ : Phi} {Z : Zs} {m : Mem} {n : Nat} {w : World}

theorem fo_spec {t f o : Nat} (h : fo P t f = some o) : ∃ fs g k, P.underlying t = some (.struct fs) ∧ fs[f]? = some g ∧ g.offset = o ∧ sz P g.type = some k ∧ k ≠ 0 := by
  unfold fo at h
  cases hu : P.underlying t with
  | none => simp [hu] at h
  | some d =>
    simp only [hu, Option.bind_some] at h
    split at h
    · rename_i fs
      cases hf : fs[f]? with
      | none => simp [hf] at h
      | some g =>
        simp only [hf, Option.bind_some] at h
        split at h
        · cases h
        · split at h
          · rename_i h0 h1
            cases h
            obtain ⟨k, hk⟩ := Option.isSome_iff_exists.1 h1
            exact ⟨fs, g, k, rfl, hf, rfl, hk, by rintro rfl; exact h0 hk⟩
          · cases h
    · cases h
theorem run_fieldAt {t f o : Nat} (h : fo P t f = some o) (a : Addr) : (Instr.fieldAt t (.pointer (some a)) f).run P w = .ok (.pointer (some (a.add o))) w := by
  obtain ⟨fs, g, k, h1, h2, h3, h4, h5⟩ := fo_spec h
  simp [Instr.fieldAt, run_underlying h1, h2, Instr.sureAddr, fieldPlace, run_sizeOf h4, h5, h3]
theorem evFieldAddr_sound {t f : Nat} {a x : T} {u : Value} (h : RepT φ Z w a u) (hx : evFieldAddr P t f a = some x) : ∃ v, (Instr.fieldAt t u f).run P w = .ok v w ∧ RepT φ Z w x v := by
  cases h with
  | @ptr id off k h =>
    obtain ⟨o, ho, hx⟩ := obind_eq hx; cases hx
    refine ⟨_, run_fieldAt ho _, ?_⟩
    rw [add_lit]; exact .ptr h
  | @ptrs id off k n c h =>
    obtain ⟨o, ho, hx⟩ := obind_eq hx; cases hx
    refine ⟨_, run_fieldAt ho _, ?_⟩
    rw [add_lit]; exact .ptrs h
  | @fptr cs off us ad h hz =>
    obtain ⟨o, ho, hx⟩ := obind_eq hx; cases hx
    refine ⟨_, run_fieldAt ho _, ?_⟩
    rw [add_add]; exact .fptr h hz
  | v h =>
    cases h with
    | ref h hz =>
      obtain ⟨o, ho, hx⟩ := obind_eq hx; cases hx
      exact ⟨_, run_fieldAt ho _, .fptr h hz⟩
    | _ => simp [evFieldAddr] at hx
  | _ => simp [evFieldAddr] at hx

theorem evNilCheck_sound {a x : T} {u : Value} (h : RepT φ Z w a u) (hx : evNilCheck a = some x) : x = a ∧ ∃ ad, u = .pointer (some ad) := by
  cases h with
  | ptr h => cases hx; exact ⟨rfl, _, rfl⟩
  | ptrs h => cases hx; exact ⟨rfl, _, rfl⟩
  | fptr h hz => cases hx; exact ⟨rfl, _, rfl⟩
  | v h =>
    cases h with
    | ref h hz => cases hx; exact ⟨rfl, _, rfl⟩
    | _ => simp [evNilCheck] at hx
  | _ => simp [evNilCheck] at hx

/-- An element's address. -/
theorem RepV.elem {xs : List V} {y : V} {i : Nat} {A : Option Addr} {n c k : Nat} (h : RepV Z w (.sl xs) (.slice A n c)) (hi : xs[i]? = some y) (hk : y.cells.length = k) :
    n = xs.length ∧ i < n ∧ ∃ ad us, A = some ad ∧ RepCs Z w y.cells us ∧ ∀ j u, us[j]? = some u → w.cell? ((ad.add (i * k)).add j) = some u ∧ Z ((ad.add (i * k)).add j).block ((ad.add (i * k)).add j).off := by
  cases h with
  | nil => simp at hi
  | @sl z _ us ad _ _ he hn hc hm hz =>
    have hlt : i < xs.length := by
      rcases Nat.lt_or_ge i xs.length with h | h
      · exact h
      · rw [List.getElem?_eq_none h] at hi; cases hi
    obtain ⟨vs, h1, h2, h3⟩ := he.get i y hi
    have hkz : z = k := by rw [← h2, ← h1.length, hk]
    subst hkz
    refine ⟨hn.symm, by omega, ad, vs, rfl, h1, fun j u hu => ?_⟩
    rw [add_add]
    exact hz _ u (h3 j u hu)

theorem slice_of_elems (hm : RelM P φ Z m n w) {t : T} {u : Value} {xs : List V} (h : RepT φ Z w t u) (hx : elems m t = some xs) : ∃ A c, u = .slice A xs.length c ∧ xs.length ≤ c ∧ c ≤ maxLen ∨ ∃ A c, u = .slice A 0 c ∧ xs = [] := by
  have := elems_rep hm h hx
  cases this with
  | nil A c => exact ⟨none, 0, .inr ⟨_, _, rfl, rfl⟩⟩
  | sl he hn hc hmm hz => exact ⟨_, _, .inl ⟨by rw [hn], by omega, hmm⟩⟩

theorem fpAt_sound {e t : Nat} {i : Int} {ki : IntKind} {xs : List V} {k : Nat} {x : T} {u : Value} (hv : RepV Z w (.sl xs) u) (he : elT P t = some e) (hk : sz P e = some k) (hx : fpAt k i xs = some x) :
    ∃ v, (Instr.indexAt t u (.int ki i)).run P w = .ok v w ∧ RepT φ Z w x v := by
  obtain ⟨h0, hx⟩ := tst_eq hx
  obtain ⟨y, hy, hx⟩ := obind_eq hx
  obtain ⟨⟨hl, hk0⟩, hx⟩ := tst_eq hx
  cases hx
  have hs : ∃ A c, u = .slice A xs.length c := by
    cases hv with
    | nil A c => exact ⟨A, c, rfl⟩
    | sl _ hn _ _ _ => exact ⟨_, _, by rw [hn]⟩
  obtain ⟨A, c, rfl⟩ := hs
  obtain ⟨_, hlt, ad, us, rfl, h2, h3⟩ := hv.elem hy hl
  have hi : i < (xs.length : Int) := by omega
  refine ⟨.pointer (some (ad.add (i.toNat * k))), ?_, ?_⟩
  · simp [Instr.indexAt, asIntOf, run_underlying (und_of_elT he), run_sizeOf hk, h0, hi]
  · have := RepT.fptr (φ := φ) (off := 0) h2 h3
    rwa [add_zero'] at this
theorem evIndexAddr_sound (hm : RelM P φ Z m n w) {t : Nat} {a i x : T} {u ui : Value} (h : RepT φ Z w a u) (hi : RepT φ Z w i ui) (hx : evIndexAddr P t m a i = some x) :
    ∃ v, (Instr.indexAt t u ui).run P w = .ok v w ∧ RepT φ Z w x v := by
  cases i with
  | v i =>
    cases i with
    | int ki i =>
      obtain rfl := int_rep hi
      simp only [evIndexAddr] at hx
      obtain ⟨e, he, hx⟩ := obind_eq hx
      obtain ⟨k, hk, hx⟩ := obind_eq hx
      cases a with
      | sv id co len =>
        simp only at hx
        split at hx
        · rename_i e' z cs hb
          obtain ⟨⟨hzk, h0, h1⟩, hx1⟩ := tst_eq hx
          clear hx; subst hzk
          cases hx1
          cases h with
          | @sv _ _ _ k n' c c' A h hl hmm ha h00 =>
            have := ha (by omega)
            subst this
            refine ⟨.pointer (some ⟨k, co + i.toNat * z, none⟩), ?_, .ptrs h⟩
            simp [Instr.indexAt, asIntOf, run_underlying (und_of_elT he), run_sizeOf hk, h0, h1, add_lit]
        · cases hx
      | _ =>
        simp only at hx
        obtain ⟨xs, hxs, hx⟩ := obind_eq hx
        exact fpAt_sound (elems_rep hm h hxs) he hk hx
    | _ => simp [evIndexAddr] at hx
  | _ => simp [evIndexAddr] at hx

/-! slices -/
theorem RepEs.take {z : Nat} {xs : List V} {us : List Value} (h : RepEs Z w z xs us) (k : Nat) : RepEs Z w z (xs.take k) (us.take (k * z)) := by
  induction xs generalizing us z k with
  | nil => cases h; simpa using RepEs.nil z
  | cons y ys ih =>
    cases k with
    | zero => simpa using RepEs.nil z
    | succ k =>
      cases h with
      | @agg _ cs u us' _ h hl t =>
        have : (u ++ us').take ((k + 1) * z) = u ++ us'.take (k * z) := by
          rw [List.take_append, List.take_of_length_le (by rw [hl, Nat.add_mul]; omega), hl, Nat.add_mul]
          congr 2; omega
        rw [this]; exact .agg h hl (ih t k)
      | one hc h t =>
        have := ih t k
        simp only [Nat.mul_one] at this ⊢
        exact .one hc h this
theorem RepEs.drop {z : Nat} {xs : List V} {us : List Value} (h : RepEs Z w z xs us) (k : Nat) : RepEs Z w z (xs.drop k) (us.drop (k * z)) := by
  induction xs generalizing us z k with
  | nil => cases h; simpa using RepEs.nil z
  | cons y ys ih =>
    cases k with
    | zero => simpa using h
    | succ k =>
      cases h with
      | @agg _ cs u us' _ h hl t =>
        have : (u ++ us').drop ((k + 1) * z) = us'.drop (k * z) := by
          rw [List.drop_append, List.drop_of_length_le (by rw [hl, Nat.add_mul]; omega), hl, Nat.add_mul, List.nil_append]
          congr 1; omega
        rw [this]; exact ih t k
      | one hc h t =>
        have := ih t k
        simp only [Nat.mul_one] at this ⊢
        exact this
theorem allZ_z {k z : Nat} {xs : List V} {us : List Value} (h : RepEs Z w z xs us) (ha : allZ k xs) (hne : xs ≠ []) : z = k := by
  cases xs with
  | nil => exact absurd rfl hne
  | cons y ys =>
    obtain ⟨vs, h1, h2, _⟩ := h.get 0 y rfl
    rw [← h2, ← h1.length]; exact (ha y (by simp)).1

/-- The bounds of a slice expression, as the machine asks them. -/
theorem bounds_sound {lo hi : Option T} {ulo uhi : Option Value} {len cap : Nat} {isS : Bool} {l h : Nat} (hlc : len ≤ cap) (hlo : ∀ t, lo = some t → ∃ u, ulo = some u ∧ RepT φ Z w t u) (hlo' : lo = none → ulo = none)
    (hhi : ∀ t, hi = some t → ∃ u, uhi = some u ∧ RepT φ Z w t u) (hhi' : hi = none → uhi = none) (hx : slRange len lo hi = some (l, h)) :
    (Instr.sliceBounds isS len cap ulo uhi none).run P w = .ok (l, h, cap) w ∧ l ≤ h ∧ h ≤ len := by
  unfold slRange at hx
  obtain ⟨hh, hhb, hx⟩ := obind_eq hx
  obtain ⟨ll, hlb, hx⟩ := obind_eq hx
  obtain ⟨⟨h1, h2, h3⟩, hx⟩ := tst_eq hx
  cases hx
  have rh : (match uhi with | some v => Instr.sliceBound v cap (if isS then .sliceAcap else .sliceAlen) | none => pure len).run P w = .ok hh.toNat w := by
    cases hi with
    | none => rw [hhi' rfl]; simp only [bnd] at hhb; cases hhb; simp
    | some t =>
      obtain ⟨u, rfl, hr⟩ := hhi t rfl
      cases hr with
      | v hr => cases hr <;> simp only [bnd] at hhb <;> cases hhb; exact run_sliceBound w _ _ _ _ (by omega) (by omega)
      | _ => simp [bnd] at hhb
  have rl : (match ulo with | some v => Instr.sliceBound v hh.toNat .sliceB | none => pure 0).run P w = .ok ll.toNat w := by
    cases lo with
    | none => rw [hlo' rfl]; simp only [bnd] at hlb; cases hlb; simp
    | some t =>
      obtain ⟨u, rfl, hr⟩ := hlo t rfl
      cases hr with
      | v hr => cases hr <;> simp only [bnd] at hlb <;> cases hlb; exact run_sliceBound w _ _ _ _ (by omega) (by omega)
      | _ => simp [bnd] at hlb
  refine ⟨?_, by omega, by omega⟩
  unfold Instr.sliceBounds
  simp only [Sem.run_bind, Sem.run_pure, Result.andThen_ok, Option.isSome_none, Bool.false_eq_true, if_false]
  cases uhi <;> cases ulo <;> simp only [Sem.run_pure, Result.andThen_ok] at rh rl ⊢ <;> simp_all

theorem evSlice_sound (hm : RelM P φ Z m n w) {t : Nat} {a x : T} {lo hi : Option T} {u : Value} {ulo uhi : Option Value} (h : RepT φ Z w a u) (hlo : ∀ t, lo = some t → ∃ u, ulo = some u ∧ RepT φ Z w t u) (hlo' : lo = none → ulo = none)
    (hhi : ∀ t, hi = some t → ∃ u, uhi = some u ∧ RepT φ Z w t u) (hhi' : hi = none → uhi = none) (hx : evSlice P t m lo hi a = some x) :
    ∃ v, (Instr.sliceAt t u ulo uhi none).run P w = .ok v w ∧ RepT φ Z w x v := by
  have general : ∀ xs, RepV Z w (.sl xs) u → (obind (elT P t) fun e => obind (sz P e) fun k => tst (allZ k xs) (obind (slRange xs.length lo hi) fun p => some (T.v (.sl ((xs.take p.2).drop p.1))))) = some x →
      ∃ v, (Instr.sliceAt t u ulo uhi none).run P w = .ok v w ∧ RepT φ Z w x v := by
    intro xs hv hx
    obtain ⟨e, he, hx⟩ := obind_eq hx
    obtain ⟨k, hk, hx⟩ := obind_eq hx
    obtain ⟨ha, hx⟩ := tst_eq hx
    obtain ⟨⟨l, r⟩, hr, hx⟩ := obind_eq hx
    cases hx
    cases hv with
    | nil A c =>
      obtain ⟨hb, h1, h2⟩ := bounds_sound (P := P) (w := w) (isS := true) (len := 0) (cap := c) (Nat.zero_le _) hlo hlo' hhi hhi' hr
      refine ⟨.slice (if c = l then A else A.map (·.add (l * k))) (r - l) (c - l), ?_, ?_⟩
      · simp [Instr.sliceAt, Instr.slice, run_underlying (und_of_elT he), hb, run_sizeOf hk]
      · have e1 : r - l = 0 := by simp at h2; omega
        rw [e1]; simpa using RepT.v (.nil _ _)
    | @sl z _ us ad nn c hes hn hc hmm hz =>
      obtain ⟨hb, h1, h2⟩ := bounds_sound (P := P) (w := w) (isS := true) (len := nn) (cap := c) hc hlo hlo' hhi hhi' (by rw [← hn]; exact hr)
      refine ⟨.slice (if c = l then some ad else some (ad.add (l * k))) (r - l) (c - l), ?_, .v ?_⟩
      · simp [Instr.sliceAt, Instr.slice, run_underlying (und_of_elT he), hb, run_sizeOf hk]
      · by_cases hlr : l = r
        · subst hlr
          rw [Nat.sub_self, List.drop_of_length_le (by rw [List.length_take]; omega)]
          exact .nil _ _
        · have hne : xs ≠ [] := by rintro rfl; simp at hn; omega
          obtain rfl := allZ_z hes ha hne
          rw [if_neg (by omega)]
          refine .sl ((hes.take r).drop l) ?_ (by omega) (by omega) fun i u hu => ?_
          · rw [List.length_drop, List.length_take]; omega
          · rw [add_add]
            refine hz _ u ?_
            rw [List.getElem?_drop, List.getElem?_take] at hu
            split at hu
            · exact hu
            · cases hu
  cases h with
  | v h =>
    rename_i y
    cases y with
    | str s =>
      obtain ⟨hs, hx⟩ := tst_eq hx
      obtain ⟨⟨l, r⟩, hr, hx⟩ := obind_eq hx
      cases hx
      cases h with
      | @str _ b h =>
        have hsz : s.length = b.size := by rw [← h, Array.length_toList]; rfl
        obtain ⟨hb, h1, h2⟩ := bounds_sound (P := P) (w := w) (isS := false) (len := b.size) (cap := b.size) (Nat.le_refl _) hlo hlo' hhi hhi' (by rw [← hsz]; exact hr)
        refine ⟨.string (b.extract l r), ?_, .v (.str ?_)⟩
        · simp only [Instr.sliceAt, Instr.slice, Sem.run_bind, run_underlying (und_of_isStr hs), Result.andThen_ok, Option.isSome_none, Bool.false_eq_true, if_false, Sem.run_pure, hb]
        · rw [ByteArray.data_extract, Array.toList_extract, h, List.extract_eq_take_drop, List.drop_take]
    | sl xs => exact general xs h (by have h := hx; simp only [evSlice, elems, obind_some] at h; exact h)
    | _ => simp only [evSlice, elems, obind_none] at hx; obtain ⟨_, _, hx⟩ := obind_eq hx; obtain ⟨_, _, hx⟩ := obind_eq hx; cases hx
  | @sv id co len k n' c c' A h hl hmm ha h00 =>
    simp only [evSlice] at hx
    obtain ⟨e, he, hx⟩ := obind_eq hx
    obtain ⟨kk, hk, hx⟩ := obind_eq hx
    split at hx
    · rename_i e' z cs hb
      obtain ⟨hzk, hx1⟩ := tst_eq hx
      clear hx; subst hzk
      obtain ⟨⟨l, r⟩, hr, hx2⟩ := obind_eq hx1
      cases hx2
      obtain ⟨hb', h1, h2⟩ := bounds_sound (P := P) (w := w) (isS := true) (len := len) (cap := c') hl hlo hlo' hhi hhi' hr
      refine ⟨.slice (if c' = l then A else A.map (·.add (l * z))) (r - l) (c' - l), ?_, ?_⟩
      · simp [Instr.sliceAt, Instr.slice, run_underlying (und_of_elT he), hb', run_sizeOf hk]
      · refine .sv h (by omega) (by omega) (fun hp => ?_) (fun h0 => ?_)
        · have := ha (by omega)
          subst this
          rw [if_neg (by omega)]
          simp [add_lit]
        · simp only at h0
          have hz0 : 0 < z := by
            obtain ⟨v', hv', hbb⟩ := hm.blk _ _ hb
            exact hbb.1
          have hco : co = 0 := by omega
          have hl0 : l = 0 := by
            have : l * z = 0 := by omega
            rcases Nat.mul_eq_zero.1 this with h | h
            · exact h
            · omega
          obtain ⟨h3, h4⟩ := h00 hco
          subst hl0 h3 h4
          simp [add_zero']
    · cases hx
  | nil => exact general [] (.nil _ _) (by have h := hx; simp only [evSlice, elems, obind_some] at h; exact h)
  | @loc id u h =>
    simp only [evSlice] at hx
    obtain ⟨e, he, hx⟩ := obind_eq hx
    obtain ⟨kk, hk, hx⟩ := obind_eq hx
    obtain ⟨xs, hxs, hx⟩ := obind_eq hx
    refine general xs (elems_rep hm (.loc h) hxs) ?_
    simp only [he, hk, obind_some]; exact hx
  | _ => simp only [evSlice, elems, obind_none] at hx; obtain ⟨_, _, hx⟩ := obind_eq hx; obtain ⟨_, _, hx⟩ := obind_eq hx; cases hx
end
end TL

/- TL, part 10: what others see of a value; texts, numbers, tuples. -/
set_option linter.unusedVariables false
set_option linter.unusedSimpArgs false
namespace TL
open Go Go.RowKit

section
variable {P : Program} {φ : Phi} {Z : Zs} {m : Mem} {n : Nat} {w : World}

def allZs (w : World) : Zs := fun k _ => k < w.heap.size
theorem sub_allZs (hm : RelM P φ Z m n w) : SubZ Z (allZs w) := fun k o h => hm.zlt.lt k o h
theorem keep_refl (Z : Zs) (w : World) : KeepZ Z w w := fun _ _ _ => rfl

theorem mapO_spec {α β : Type} {f : α → Option β} {xs : List α} {ys : List β} (h : mapO f xs = some ys) : xs.length = ys.length ∧ ∀ (i : Nat) (x : α), xs[i]? = some x → ∃ y, ys[i]? = some y ∧ f x = some y := by
  induction xs generalizing ys with
  | nil => simp [mapO] at h; subst h; simp
  | cons x xs ih =>
    simp only [mapO] at h
    cases hf : f x with
    | none => simp [hf] at h
    | some y =>
      simp only [hf, Option.bind_some, Option.map_eq_some_iff] at h
      obtain ⟨zs, hz, rfl⟩ := h
      obtain ⟨h1, h2⟩ := ih hz
      refine ⟨by simp [h1], fun i x' hx => ?_⟩
      cases i with
      | zero => simp at hx; subst hx; exact ⟨y, rfl, hf⟩
      | succ i => exact h2 i x' (by simpa using hx)
theorem mapO_cons {α β : Type} {f : α → Option β} {x : α} {xs : List α} {ys : List β} (h : mapO f (x :: xs) = some ys) : ∃ y zs, f x = some y ∧ mapO f xs = some zs ∧ ys = y :: zs := by
  simp only [mapO] at h
  cases hf : f x with
  | none => simp [hf] at h
  | some y =>
    simp only [hf, Option.bind_some, Option.map_eq_some_iff] at h
    obtain ⟨zs, hz, rfl⟩ := h
    exact ⟨y, zs, rfl, hz, rfl⟩

theorem chunk_rep {z : Nat} (hz : 0 < z) : ∀ (len : Nat) (xs : List V) (us : List Value), RepCs Z w xs us → xs.length = len * z → RepEs Z w z (chunk z len xs) us := by
  intro len
  induction len with
  | zero =>
    intro xs us h hl
    obtain rfl : xs = [] := List.eq_nil_of_length_eq_zero (by simpa using hl)
    cases h; exact .nil z
  | succ len ih =>
    intro xs us h hl
    have hd := h.drop z
    have ht := h.take z
    have hu : us = us.take z ++ us.drop z := (List.take_append_drop z us).symm
    have hl' : (xs.drop z).length = len * z := by rw [List.length_drop, hl, Nat.add_mul]; omega
    have ih' := ih _ _ hd hl'
    unfold chunk
    by_cases h1 : z = 1
    · subst h1
      rw [if_pos rfl]
      cases h with
      | nil => simp at hl
      | cons hc h t => exact .one hc h ih'
    · rw [if_neg h1, hu]
      exact .agg ht (by rw [← ht.length, List.length_take, hl, Nat.add_mul]; omega) ih'
theorem chunk_length (z len : Nat) (xs : List V) : (chunk z len xs).length = len := by
  induction len generalizing xs with
  | zero => rfl
  | succ n ih => simp [chunk, ih]

/-- What a call, or whoever reads, sees. -/
theorem bor_sound (hm : RelM P φ Z m n w) {k : Bool} {Zb : Zs} (hs : SubZ Z Zb) (hk : k = true → ∀ g, Owned φ m g → ∀ o, Zb g o) : ∀ (d : Nat) (t : T) (u : Value) (x : V), RepT φ Z w t u → bor k m d t = some x → RepV Zb w x u := by
  intro d
  have base : ∀ d t u x, RepT φ Z w t u → (∃ y, t = .v y) ∨ t = .nil ∨ (∃ id, t = .loc id) ∨ (∃ cs, t = .fptr cs 0) → bor k m d t = some x → RepV Zb w x u := by
    rintro d t u x h (⟨y, rfl⟩ | rfl | ⟨id, rfl⟩ | ⟨cs, rfl⟩) hx
    · have : bor k m d (.v y) = some y := by cases d <;> rfl
      rw [this] at hx; cases hx
      cases h with | v h => exact h.mono hs (keep_refl _ _)
    · have : bor k m d .nil = some (.sl []) := by cases d <;> rfl
      rw [this] at hx; cases hx
      cases h; exact .nil _ _
    · have : elems m (.loc id) = (bor k m d (.loc id)).bind fun x => match x with | .sl xs => some xs | _ => none := by
        cases d <;> (simp only [elems, bor]; split <;> simp_all)
      rw [hx] at this
      have hb : ∃ xs, x = .sl xs := by
        cases d <;> (simp only [bor] at hx; split at hx <;> cases hx <;> exact ⟨_, rfl⟩)
      obtain ⟨xs, rfl⟩ := hb
      exact (elems_rep hm h (by simpa using this)).mono hs (keep_refl _ _)
    · have : bor k m d (.fptr cs 0) = some (.ref cs) := by cases d <;> rfl
      rw [this] at hx; cases hx
      cases h with
      | fptr h hz =>
        rw [add_zero']
        exact .ref (h.mono hs (keep_refl _ _)) fun i u hu => ⟨(hz i u hu).1, hs _ _ (hz i u hu).2⟩
  induction d with
  | zero =>
    intro t u x h hx
    cases t with
    | v y => exact base 0 _ u x h (.inl ⟨y, rfl⟩) hx
    | nil => exact base 0 _ u x h (.inr (.inl rfl)) hx
    | loc id => exact base 0 _ u x h (.inr (.inr (.inl ⟨id, rfl⟩))) hx
    | fptr cs off => cases off with
      | zero => exact base 0 _ u x h (.inr (.inr (.inr ⟨cs, rfl⟩))) hx
      | succ o => simp [bor] at hx
    | _ => simp [bor] at hx
  | succ d ih =>
    have list : ∀ ts us xs, RepTs φ Z w ts us → mapO (bor k m d) ts = some xs → RepVs Zb w xs us := by
      intro ts
      induction ts with
      | nil => intro us xs h hx; cases h; simp [mapO] at hx; subst hx; exact .nil
      | cons t ts iht =>
        intro us xs h hx
        obtain ⟨y, zs, h1, h2, rfl⟩ := mapO_cons hx
        cases h with | cons h t => exact .cons (ih _ _ _ h h1) (iht _ _ t h2)
    have cells : ∀ us xs, RepVs Zb w xs us → (∀ x ∈ xs, x.cell = true) → RepCs Zb w xs us := by
      intro us xs h
      induction xs generalizing us with
      | nil => intro _; cases h; exact .nil
      | cons y ys ihy =>
        intro hc
        cases h with | cons h t => exact .cons (hc y (by simp)) h (ihy _ t fun x hx => hc x (by simp [hx]))
    intro t u x h hx
    cases t with
    | v y => exact base _ _ u x h (.inl ⟨y, rfl⟩) hx
    | nil => exact base _ _ u x h (.inr (.inl rfl)) hx
    | loc id => exact base _ _ u x h (.inr (.inr (.inl ⟨id, rfl⟩))) hx
    | fptr cs off => cases off with
      | zero => exact base _ _ u x h (.inr (.inr (.inr ⟨cs, rfl⟩))) hx
      | succ o => simp [bor] at hx
    | agg cs =>
      simp only [bor] at hx
      obtain ⟨xs, h1, hx⟩ := obind_eq hx
      obtain ⟨h2, hx⟩ := tst_eq hx
      cases hx
      cases h with | agg h => exact .agg (cells _ _ (list _ _ _ h h1) h2)
    | tup cs =>
      simp only [bor, Option.map_eq_some_iff] at hx
      obtain ⟨xs, h1, rfl⟩ := hx
      cases h with | tup h => exact .tup (list _ _ _ h h1)
    | fn f cs =>
      simp only [bor, Option.map_eq_some_iff] at hx
      obtain ⟨xs, h1, rfl⟩ := hx
      cases h with | fn h => exact .fn (list _ _ _ h h1)
    | sv id co len =>
      simp only [bor] at hx
      cases k with
      | false => simp at hx
      | true =>
        have hZ := hk rfl
        simp only [if_true] at hx
        split at hx
        · rename_i e z cs hb
          obtain ⟨hle, hx⟩ := tst_eq hx
          obtain ⟨xs, h1, hx⟩ := obind_eq hx
          obtain ⟨h2, hx⟩ := tst_eq hx
          cases hx
          obtain ⟨v, hv, hz0, hsz, g, cur, hg, hcur, hl, hr, hc, hnz, hform⟩ := hm.blk _ _ hb
          cases h with
          | @sv _ _ _ g' n' c c' A h hlc hmm ha h00 =>
            have hgo := hZ g ⟨id, _, v, hb, rfl, hv, hg⟩
            rw [hv] at h; cases h
            cases hg
            have hcs := cells _ _ (list _ _ _ ((hr.drop co).take (len * z)) h1) h2
            by_cases hlen : len = 0
            · subst hlen; exact .nil _ _
            · have := ha (by omega)
              subst this
              have hxl : xs.length = len * z := by
                rw [← (mapO_spec h1).1, List.length_take, List.length_drop]; omega
              refine .sl (chunk_rep hz0 len xs _ hcs hxl) (chunk_length _ _ _) hlc hmm fun i u hu => ?_
              rw [add_lit]
              have hglt := (Array.getElem?_eq_some_iff.1 hcur).1
              refine ⟨?_, hgo _⟩
              rw [cell_of_row w _ (co + i) cur e (0, 0) hcur]
              rw [List.getElem?_take] at hu; split at hu
              · rw [List.getElem?_drop, List.getElem?_take] at hu; split at hu
                · simpa using hu
                · cases hu
              · cases hu
        · cases hx
    | ptr id off =>
      cases off with
      | succ o => simp [bor] at hx
      | zero =>
        simp only [bor] at hx
        cases k with
        | false => simp at hx
        | true =>
          have hZ := hk rfl
          simp only [if_true] at hx
          split at hx
          · rename_i e z cs hb
            obtain ⟨xs, h1, hx⟩ := obind_eq hx
            obtain ⟨h2, hx⟩ := tst_eq hx
            cases hx
            obtain ⟨g, cur, v, hv, hg, rfl, hcur, hl, hr, hc⟩ := box_at hm h hb
            refine .ref (cells _ _ (list _ _ _ hr h1) h2) fun i u hu => ?_
            rw [add_lit, Nat.zero_add]
            refine ⟨?_, hZ g ⟨id, _, v, hb, rfl, hv, hg⟩ _⟩
            rw [cell_of_row w _ i cur e (0, 0) hcur]
            rw [List.getElem?_take] at hu; split at hu
            · simpa using hu
            · cases hu
          · cases hx
theorem bors_sound (hm : RelM P φ Z m n w) {k : Bool} {Zb : Zs} (hs : SubZ Z Zb) (hk : k = true → ∀ g, Owned φ m g → ∀ o, Zb g o) {d : Nat} : ∀ (ts : List T) (us : List Value) (xs : List V), RepTs φ Z w ts us → mapO (bor k m d) ts = some xs → RepVs Zb w xs us := by
  intro ts
  induction ts with
  | nil => intro us xs h hx; cases h; simp [mapO] at hx; subst hx; exact .nil
  | cons t ts iht =>
    intro us xs h hx
    obtain ⟨y, zs, h1, h2, rfl⟩ := mapO_cons hx
    cases h with | cons h t => exact .cons (bor_sound hm hs hk d _ _ _ h h1) (iht _ _ t h2)

mutual
theorem flat_rep {Z' : Zs} {w' : World} : ∀ {x : V} {u : Value}, x.flat = true → RepV Z w x u → RepV Z' w' x u
  | .bool b, _, _, .bool _ => .bool b
  | .int k i, _, _, .int _ _ => .int k i
  | .str s, _, _, .str h => .str h
  | .tup vs, _, h, .tup g => .tup (flatL_rep (by simpa [V.flat] using h) g)
  | .agg vs, _, h, .agg g => .agg (flatC_rep (by simpa [V.flat] using h) g)
theorem flatL_rep {Z' : Zs} {w' : World} : ∀ {x : List V} {u : List Value}, flatL x = true → RepVs Z w x u → RepVs Z' w' x u
  | [], _, _, .nil => .nil
  | x :: xs, _, h, .cons g t => .cons (flat_rep (by simp [flatL] at h; exact h.1) g) (flatL_rep (by simp [flatL] at h; exact h.2) t)
theorem flatC_rep {Z' : Zs} {w' : World} : ∀ {x : List V} {u : List Value}, flatL x = true → RepCs Z w x u → RepCs Z' w' x u
  | [], _, _, .nil => .nil
  | x :: xs, _, h, .cons hc g t => .cons hc (flat_rep (by simp [flatL] at h; exact h.1) g) (flatC_rep (by simp [flatL] at h; exact h.2) t)
end

theorem ba_get (b : ByteArray) (i : Nat) : b[i]? = b.data[i]? := by
  by_cases h : i < b.size
  · rw [getElem?_pos b i h, getElem?_pos b.data i h]; rfl
  · rw [getElem?_neg b i h, getElem?_neg b.data i h]
theorem evIndex_sound {t : Nat} {a i x : T} {u ui : Value} (h : RepT φ Z w a u) (hi : RepT φ Z w i ui) (hx : evIndex P t i a = some x) : ∃ v, (Instr.index t u ui).run P w = .ok v w ∧ RepT φ Z w x v := by
  cases a with
  | v a =>
    cases a with
    | str s =>
      cases i with
      | v i =>
        cases i with
        | int k i =>
          obtain rfl := int_rep hi
          obtain ⟨⟨h1, h2⟩, hx⟩ := tst_eq hx
          obtain ⟨c, hc, hx⟩ := obind_eq hx
          cases hx
          obtain ⟨b, rfl, hb⟩ := str_rep h
          refine ⟨.int .u8 c.toNat, ?_, .v (.int _ _)⟩
          have hbc : b[i.toNat]? = some c := by
            rw [← hb] at hc
            rw [ba_get]; simpa using hc
          simp [Instr.index, asIntOf, run_underlying (und_of_isStr h1), h2, hbc]
        | _ => simp [evIndex] at hx
      | _ => simp [evIndex] at hx
    | _ => simp [evIndex] at hx
  | _ => simp [evIndex] at hx

theorem RepVs.get {cs : List V} {us : List Value} (h : RepVs Z w cs us) : ∀ (i : Nat) (x : V), cs[i]? = some x → ∃ u, us[i]? = some u ∧ RepV Z w x u := by
  induction cs generalizing us with
  | nil => intro i x hx; simp at hx
  | cons y ys ih =>
    cases h with
    | cons h t =>
      intro i x hx
      cases i with
      | zero => simp at hx; subst hx; exact ⟨_, rfl, h⟩
      | succ i => exact ih t i x (by simpa using hx)
theorem evExtract_sound {i : Nat} {a x : T} {u : Value} (h : RepT φ Z w a u) (hx : evExtract i a = some x) : ∃ v, (Instr.extract u i).run P w = .ok v w ∧ RepT φ Z w x v := by
  cases h with
  | tup h =>
    obtain ⟨u, h1, h2⟩ := h.get i x hx
    exact ⟨u, by simp [Instr.extract, h1], h2⟩
  | v h =>
    cases h with
    | tup h =>
      simp only [evExtract, Option.map_eq_some_iff] at hx
      obtain ⟨y, hy, rfl⟩ := hx
      obtain ⟨u, h1, h2⟩ := h.get i y hy
      exact ⟨u, by simp [Instr.extract, h1], .v h2⟩
    | _ => simp [evExtract] at hx
  | _ => simp [evExtract] at hx
end
end TL

/- TL, part 11: numbers, texts, comparisons, conversions. -/
set_option linter.unusedVariables false
set_option linter.unusedSimpArgs false
namespace TL
open Go Go.RowKit

section
variable {P : Program} {φ : Phi} {Z : Zs} {m : Mem} {n : Nat} {w : World}

theorem intBin_sound {op : BinOp} {k k' : IntKind} {a b : Int} {r : V} (h : bin op (.int k a) (.int k' b) = some r) (t : Nat) :
    ∃ v, (binOp op t (.int k a) (.int k' b)).run P w = .ok v w ∧ RepV Z w r v := by
  cases op <;> simp only [bin] at h
  case shl =>
    simp only [intBin] at h; split at h; · cases h
    rename_i hb; cases h
    refine ⟨_, ?_, .int _ _⟩
    simp [binOp, Op.shift, hb]
  case shr =>
    simp only [intBin] at h; split at h; · cases h
    rename_i hb; cases h
    refine ⟨_, ?_, .int _ _⟩
    simp [binOp, Op.shift, hb]
  all_goals
    split at h
    · rename_i hk
      subst hk
      simp only [intBin] at h
      first
      | (cases h
         first
         | (refine ⟨.int k _, ?_, .int _ _⟩; simp only [binOp, Op.intArith, ne_eq, not_true_eq_false, if_false, Sem.run_pure]; done)
         | (refine ⟨.int k _, ?_, .int _ _⟩; simp only [binOp, Op.intBits, ne_eq, not_true_eq_false, if_false, Sem.run_pure]; done)
         | (refine ⟨.bool _, ?_, .bool _⟩; simp [binOp, Op.intCmp]; done)
         | (refine ⟨.bool _, ?_, .bool _⟩; simp [binOp, Op.intCmp]; rfl))
      | (split at h
         · cases h
         · rename_i hb; cases h; refine ⟨.int k _, ?_, .int _ _⟩; simp [binOp, Op.intDiv, hb]; done)
      | (split at h
         · cases h
         · rename_i hb; cases h; refine ⟨.int k _, ?_, .int _ _⟩; simp [binOp, Op.intDiv, hb]; rfl)
    · cases h
theorem boolBin_sound {op : BinOp} {a b : Bool} {r : V} (h : bin op (.bool a) (.bool b) = some r) {t : Nat} (x y : Operand) (hb : P.underlying t = some .bool) :
    ∃ v, (do eqGuard op t x y (.bool a) (.bool b); binOp op t (.bool a) (.bool b)).run P w = .ok v w ∧ RepV Z w r v := by
  cases op <;> simp only [bin] at h <;> first | (cases h; done) | skip
  · cases h; exact ⟨.bool (a == b), by simp [eqGuard, binOp, Op.equal, Op.maxDepth, run_equalIn_bool', hb], .bool _⟩
  · cases h; exact ⟨.bool (!(a == b)), by simp [eqGuard, binOp, Op.equal, Op.maxDepth, run_equalIn_bool', hb], .bool _⟩
theorem strBin_sound {op : BinOp} {a b : ByteArray} {r : V} (h : bin op (.str a.data.toList) (.str b.data.toList) = some r) (t : Nat) :
    ∃ v, (binOp op t (.string a) (.string b)).run P w = .ok v w ∧ RepV Z w r v := by
  cases op <;> simp only [bin] at h <;> first | (cases h; done) | skip
  case add =>
    split at h
    · rename_i hl
      cases h
      refine ⟨.string (a ++ b), ?_, .str (by simp [ByteArray.data_append])⟩
      have : a.size + b.size ≤ 9223372036854775807 := by
        have e1 : a.data.toList.length = a.size := Array.length_toList
        have e2 : b.data.toList.length = b.size := Array.length_toList
        rw [e1, e2] at hl; omega
      simp [binOp, run_string_add_sum w a b this]
    · cases h
  case eql =>
    cases h
    have e : (a.toList == b.toList) = decide (a.data.toList = b.data.toList) := by rw [ByteArray.toList_eq, ByteArray.toList_eq]; exact Bool.eq_iff_iff.2 (by simp)
    exact ⟨.bool (a.toList == b.toList), by simp only [binOp, Op.stringOp, Sem.run_pure], e ▸ .bool _⟩
  case neq =>
    cases h
    have e : (!(a.toList == b.toList)) = decide (a.data.toList ≠ b.data.toList) := by rw [ByteArray.toList_eq, ByteArray.toList_eq]; exact Bool.eq_iff_iff.2 (by simp)
    exact ⟨.bool (!(a.toList == b.toList)), by simp only [binOp, Op.stringOp, Sem.run_pure], e ▸ .bool _⟩

theorem run_eqGuard_int (op : BinOp) (t : Nat) (x y : Operand) (k k' : IntKind) (a b : Int) : (eqGuard op t x y (.int k a) (.int k' b)).run P w = .ok () w := by cases op <;> simp [eqGuard]
theorem run_eqGuard_str (op : BinOp) (t : Nat) (x y : Operand) (a b : ByteArray) : (eqGuard op t x y (.string a) (.string b)).run P w = .ok () w := by cases op <;> simp [eqGuard]

/-! structs that are compared -/
theorem kindsFrom_cons {i : Nat} {f : Field} {fs : List Field} {ks : List Nat} (h : kindsFrom P i (f :: fs) = some ks) :
    f.name ≠ "_" ∧ f.offset = i ∧ ∃ k ks', ks = k :: ks' ∧ kindsFrom P (i + 1) fs = some ks' ∧ (k = 0 ∧ P.underlying f.type = some .bool ∨ k = 1 ∧ (∃ q, P.underlying f.type = some (.int q)) ∨ k = 2 ∧ P.underlying f.type = some .string) := by
  unfold kindsFrom at h
  split at h
  · rename_i hc
    refine ⟨hc.1, hc.2, ?_⟩
    cases hu : P.underlying f.type with
    | none => simp [hu] at h
    | some d =>
      rw [hu] at h
      cases d <;> simp only [Option.bind_none, Option.bind_some, Option.map_eq_some_iff] at h <;> first | (cases h; done) | skip
      · obtain ⟨ks', h1, rfl⟩ := h; exact ⟨0, ks', rfl, h1, .inl ⟨rfl, rfl⟩⟩
      · obtain ⟨ks', h1, rfl⟩ := h; exact ⟨1, ks', rfl, h1, .inr (.inl ⟨rfl, _, rfl⟩)⟩
      · obtain ⟨ks', h1, rfl⟩ := h; exact ⟨2, ks', rfl, h1, .inr (.inr ⟨rfl, rfl⟩)⟩
  · cases h
theorem part_cell {t : Nat} {us : Array Value} {i : Nat} {u : Value} (hu : us[i]? = some u) (h : P.underlying t = some .bool ∨ (∃ q, P.underlying t = some (.int q)) ∨ P.underlying t = some .string) : (part t us i).run P w = .ok u w := by
  have : (isAgg t).run P w = .ok false w := by
    rcases h with h | ⟨q, h⟩ | h <;> simp [isAgg, run_underlying h]
  simp [part, this, hu]
theorem eqFields_sound {d : Nat} : ∀ (fs : List Field) (i : Nat) (ks : List Nat) (as bs : List V) (us vs : List Value) (U W : Array Value) (q : Bool), kindsFrom P i fs = some ks → RepCs Z w as us → RepCs Z w bs vs →
    (∀ j, us[j]? = U[i + j]?) → (∀ j, vs[j]? = W[i + j]?) → cellsEq ks as bs = some q → (Op.eqFields (d + 1) U W fs).run P w = .ok q w := by
  intro fs
  induction fs with
  | nil =>
    intro i ks as bs us vs U W q hk ha hb hU hW hq
    simp [kindsFrom] at hk; subst hk
    cases as <;> cases bs <;> simp [cellsEq] at hq
    subst hq; simp [Op.eqFields]
  | cons f fs ih =>
    intro i ks as bs us vs U W q hk ha hb hU hW hq
    obtain ⟨hn, ho, k, ks', rfl, hk', hc⟩ := kindsFrom_cons hk
    have hty : P.underlying f.type = some .bool ∨ (∃ q, P.underlying f.type = some (.int q)) ∨ P.underlying f.type = some .string := by
      rcases hc with ⟨_, h⟩ | ⟨_, h⟩ | ⟨_, h⟩
      · exact .inl h
      · exact .inr (.inl h)
      · exact .inr (.inr h)
    cases ha with
    | nil => rcases hc with ⟨rfl, _⟩ | ⟨rfl, _⟩ | ⟨rfl, _⟩ <;> cases bs <;> simp [cellsEq] at hq
    | @cons a u as us ca ra ta =>
      cases hb with
      | nil => rcases hc with ⟨rfl, _⟩ | ⟨rfl, _⟩ | ⟨rfl, _⟩ <;> cases a <;> simp [cellsEq] at hq
      | @cons b v bs vs cb rb tb =>
        have hu : U[i]? = some u := by have := hU 0; simpa using this.symm
        have hv : W[i]? = some v := by have := hW 0; simpa using this.symm
        have hU' : ∀ j, us[j]? = U[i + 1 + j]? := fun j => by have := hU (j + 1); simp only [List.getElem?_cons_succ] at this; rw [this]; congr 1; omega
        have hW' : ∀ j, vs[j]? = W[i + 1 + j]? := fun j => by have := hW (j + 1); simp only [List.getElem?_cons_succ] at this; rw [this]; congr 1; omega
        have step : ∀ q1 q2, (Op.equalIn (d + 1) f.type u v).run P w = .ok q1 w → cellsEq ks' as bs = some q2 → q = (q1 && q2) → (Op.eqFields (d + 1) U W (f :: fs)).run P w = .ok q w := by
          intro q1 q2 h1 h2 h3
          subst ho
          simp only [Op.eqFields, ne_eq, hn, not_false_eq_true, if_true, Sem.run_bind, part_cell hu hty, part_cell hv hty, Result.andThen_ok, h1]
          cases q1
          · simp [h3]
          · simp only [Bool.not_true, Bool.false_eq_true, if_false]
            rw [h3, Bool.true_and]
            exact ih _ ks' as bs us vs U W q2 hk' ta tb hU' hW' h2
        rcases hc with ⟨rfl, ht⟩ | ⟨rfl, kq, ht⟩ | ⟨rfl, ht⟩
        · cases a <;> cases b <;> simp only [cellsEq] at hq <;> first | (cases hq; done) | skip
          simp only [Option.map_eq_some_iff] at hq
          obtain ⟨q2, h2, rfl⟩ := hq
          cases ra; cases rb
          exact step _ q2 (run_equalIn_bool' w d _ _ _ ht) h2 rfl
        · cases a <;> cases b <;> simp only [cellsEq] at hq <;> first | (cases hq; done) | skip
          obtain ⟨hkk, hq⟩ := tst_eq hq
          simp only [Option.map_eq_some_iff] at hq
          obtain ⟨q2, h2, rfl⟩ := hq
          subst hkk
          cases ra; cases rb
          refine step _ q2 (run_equalIn_int w d _ _ _ _ _ ht) h2 ?_
          congr 1
        · cases a <;> cases b <;> simp only [cellsEq] at hq <;> first | (cases hq; done) | skip
          simp only [Option.map_eq_some_iff] at hq
          obtain ⟨q2, h2, rfl⟩ := hq
          cases ra with | str ra => cases rb with | str rb =>
          refine step _ q2 (run_equalIn_string w d _ _ _ ht) h2 ?_
          rw [ByteArray.toList_eq, ByteArray.toList_eq, ra, rb]
          congr 1
          exact Bool.eq_iff_iff.2 (by simp)
theorem eqKinds_spec {t : Nat} {ks : List Nat} (h : eqKinds P t = some ks) : P.underlying t = some (.struct (P.fieldsOf t)) ∧ P.stoodInHeld t = false ∧ P.eqGuardType P.depth t = false ∧ kindsFrom P 0 (P.fieldsOf t).toList = some ks := by
  unfold eqKinds at h
  split at h
  · rename_i fs hu
    split at h
    · rename_i hc
      simp at hc
      have : P.fieldsOf t = fs := by simp [Program.fieldsOf, hu]
      rw [this]; exact ⟨hu, hc.1, hc.2, h⟩
    · cases h
  · cases h
theorem structEq_sound {op : BinOp} {t : Nat} {ks : List Nat} {a b : V} {u v : Value} {x : T} (x1 y1 : Operand) (hk : eqKinds P t = some ks) (ha : RepV Z w a u) (hb : RepV Z w b v) (hx : structEq op ks a b = some x) :
    ∃ r, (do eqGuard op t x1 y1 u v; binOp op t u v).run P w = .ok r w ∧ RepT φ Z w x r := by
  obtain ⟨h1, h2, h3, h4⟩ := eqKinds_spec hk
  cases a <;> cases b <;> simp only [structEq] at hx <;> first | (cases hx; done) | skip
  obtain ⟨q, hq, hx⟩ := obind_eq hx
  cases ha with | agg ha => cases hb with | agg hb =>
  rename_i us vs
  have he : (Op.equalIn 10000 t (.agg us.toArray) (.agg vs.toArray)).run P w = .ok q w := by
    rw [run_equalIn_struct w 9999 t us.toArray vs.toArray h1 h2]
    exact eqFields_sound (d := 9998) _ 0 ks _ _ us vs us.toArray vs.toArray q h4 ha hb (by simp) (by simp) hq
  cases op <;> simp only at hx <;> first | (cases hx; done) | skip
  · cases hx; refine ⟨.bool q, ?_, rep_bool _⟩
    simp only [Sem.run_bind, run_eqGuard_agg w .eql t x1 y1 _ _ h3, Result.andThen_ok, run_eql_struct, he]
  · cases hx; refine ⟨.bool (!q), ?_, rep_bool _⟩
    simp only [Sem.run_bind, run_eqGuard_agg w .neq t x1 y1 _ _ h3, Result.andThen_ok, run_neq_struct, he]

theorem isBool_spec {t : Nat} (h : isBool P t = some true) : P.underlying t = some .bool := by
  unfold isBool at h; cases hu : P.underlying t with
  | none => simp [hu] at h
  | some d => simp only [hu, Option.map_some, Option.some.injEq] at h; split at h <;> simp at h; rfl
theorem evBin_sound (hm : RelM P φ Z m n w) {op : BinOp} {t : Nat} {a b x : T} {u v : Value} (x1 y1 : Operand) (h : RepT φ Z w a u) (g : RepT φ Z w b v) (hx : evBin P m op t a b = some x) :
    ∃ r, (do eqGuard op t x1 y1 u v; binOp op t u v).run P w = .ok r w ∧ RepT φ Z w x r := by
  have struct : (obind (eqKinds P t) fun ks => obind (bor false m 2 a) fun a => obind (bor false m 2 b) fun b => structEq op ks a b) = some x →
      ∃ r, (do eqGuard op t x1 y1 u v; binOp op t u v).run P w = .ok r w ∧ RepT φ Z w x r := by
    intro hx
    obtain ⟨ks, hks, hx⟩ := obind_eq hx
    obtain ⟨a', ha, hx⟩ := obind_eq hx
    obtain ⟨b', hb, hx⟩ := obind_eq hx
    exact structEq_sound x1 y1 hks (bor_sound hm (Zb := Z) (fun _ _ h => h) (by simp) 2 _ _ _ h ha) (bor_sound hm (Zb := Z) (fun _ _ h => h) (by simp) 2 _ _ _ g hb) hx
  unfold evBin at hx
  split at hx
  · obtain rfl := int_rep h; obtain rfl := int_rep g
    obtain ⟨r, hr, hx⟩ := obind_eq hx; cases hx
    obtain ⟨v, h1, h2⟩ := intBin_sound (P := P) (Z := Z) (w := w) hr t
    exact ⟨v, by simp [run_eqGuard_int, h1], .v h2⟩
  · cases h with | v h => cases h with | bool => cases g with | v g => cases g with | bool =>
    obtain ⟨hb, hx⟩ := tst_eq hx
    obtain ⟨r, hr, hx⟩ := obind_eq hx; cases hx
    obtain ⟨v, h1, h2⟩ := boolBin_sound (P := P) (Z := Z) (w := w) hr x1 y1 (isBool_spec hb)
    exact ⟨v, h1, .v h2⟩
  · obtain ⟨s, rfl, rfl⟩ := str_rep h; obtain ⟨s', rfl, rfl⟩ := str_rep g
    obtain ⟨r, hr, hx⟩ := obind_eq hx; cases hx
    obtain ⟨v, h1, h2⟩ := strBin_sound (P := P) (Z := Z) (w := w) hr t
    exact ⟨v, by simp [run_eqGuard_str, h1], .v h2⟩
  · exact struct hx

theorem toBytes_spec : ∀ (xs : List V) (s : List UInt8), toBytes xs = some s → ∃ ns : List Int, xs = ns.map (V.int .u8) ∧ s = ns.map fun n => UInt8.ofNat n.toNat
  | [], s, h => by simp [toBytes] at h; exact ⟨[], rfl, by simp [h]⟩
  | .int .u8 n :: xs, s, h => by
    simp only [toBytes, Option.map_eq_some_iff] at h
    obtain ⟨s', h1, rfl⟩ := h
    obtain ⟨ns, rfl, rfl⟩ := toBytes_spec xs s' h1
    exact ⟨n :: ns, rfl, rfl⟩
theorem sl_slice {xs : List V} {u : Value} (h : RepV Z w (.sl xs) u) : ∃ A l c, u = .slice A l c := by cases h <;> exact ⟨_, _, _, rfl⟩
theorem bytes_rep {z : Nat} : ∀ (ns : List Int) (us : List Value), RepEs Z w z (ns.map (V.int .u8)) us → us = ns.map (Value.int .u8)
  | [], us, h => by cases h; rfl
  | n :: ns, us, h => by
    cases h with
    | one hc h t => cases h; rw [bytes_rep ns _ t]; rfl
theorem evConvert_sound (hm : RelM P φ Z m n w) {src dst : Nat} {a x : T} {u : Value} (h : RepT φ Z w a u) (hx : evConvert P src dst m a = some x) : ∃ v, (convert src dst u).run P w = .ok v w ∧ RepT φ Z w x v := by
  have general : (tst (isStr P dst = some true) (obind (elT P src) fun e => tst (intK P e = some .u8) (obind (elems m a) fun xs => (toBytes xs).map fun s => T.v (.str s)))) = some x → ∃ v, (convert src dst u).run P w = .ok v w ∧ RepT φ Z w x v := by
    intro hx
    obtain ⟨hd, hx⟩ := tst_eq hx
    obtain ⟨e, he, hx⟩ := obind_eq hx
    obtain ⟨hk, hx⟩ := tst_eq hx
    obtain ⟨xs, hxs, hx⟩ := obind_eq hx
    simp only [Option.map_eq_some_iff] at hx
    obtain ⟨s, hs, rfl⟩ := hx
    obtain ⟨ns, rfl, rfl⟩ := toBytes_spec _ _ hs
    have hr := elems_rep hm h hxs
    obtain ⟨A, l, c, rfl⟩ := sl_slice hr
    rw [run_convert_bytes_string w src dst e A l c (und_of_elT he) (und_of_intK hk) (und_of_isStr hd)]
    cases A with
    | none =>
      have : ns = [] := by
        generalize hq : ns.map (V.int .u8) = ys at hr
        cases hr with
        | nil => simpa using hq
      subst this
      exact ⟨.string ByteArray.empty, by simp [Conv.bytesToString], .v (.str rfl)⟩
    | some ad =>
      have hl : (loadCells ad l).run P w = .ok (ns.map (Value.int .u8)).toArray w ∧ True := by
        refine ⟨?_, trivial⟩
        generalize hq : ns.map (V.int .u8) = ys at hr
        cases hr with
        | nil => obtain rfl : ns = [] := by simpa using hq
                 simp [loadCells, loadCellsFrom]
        | @sl z _ us _ _ _ hes hn hc hmm hz =>
          subst hq
          have hu : us = ns.map (Value.int .u8) := bytes_rep ns us hes
          have := run_loadCells_list (P := P) w ad us fun j v hv => (hz j v hv).1
          rw [hu] at this
          simp only [List.length_map] at this hn
          rw [← hn]; exact this
      refine ⟨_, run_bytesToString w ad l c ns hl.1, .v (.str ?_)⟩
      rw [foldl_push_bytes]
      simp [ByteArray.empty, ByteArray.emptyWithCapacity]
      rfl
  unfold evConvert at hx
  split at hx
  · obtain rfl := int_rep h
    obtain ⟨k', hk', hx⟩ := obind_eq hx
    obtain ⟨k, hk, hx⟩ := obind_eq hx; cases hx
    exact ⟨.int k (k.wrap _), by simp [convert, run_underlying (und_of_intK hk), run_underlying (und_of_intK hk'), Conv.intToInt], rep_int _ _⟩
  · obtain ⟨s, rfl, rfl⟩ := str_rep h
    obtain ⟨⟨h1, h2⟩, hx⟩ := tst_eq hx; cases hx
    exact ⟨.string s, by simp [convert, run_underlying (und_of_isStr h1), run_underlying (und_of_isStr h2)], .v (.str rfl)⟩
  · exact general hx
end
end TL

/- TL, part 12: new variables, structs, rows. -/
set_option linter.unusedVariables false
set_option linter.unusedSimpArgs false
namespace TL
open Go Go.RowKit

section
variable {P : Program} {φ : Phi} {Z : Zs} {m : Mem} {n : Nat} {w : World}

theorem RelM.succ (hm : RelM P φ Z m n w) : RelM P φ Z m (n + 1) w := ⟨hm.ok, fun i hi => hm.fresh i (by omega), hm.blk, hm.ne, hm.zlt⟩

theorem constCell_rep (v : Value) : RepT φ Z w (constCell v) v := by
  unfold constCell
  split
  · exact rep_bool _
  · exact rep_int _ _
  · exact .v (.str rfl)
  · exact .nil
  · exact .v (.any _)
theorem constCells_rep : ∀ vs : List Value, RepTs φ Z w (vs.map constCell) vs
  | [] => .nil
  | v :: vs => .cons (constCell_rep v) (constCells_rep vs)
theorem const_rep (v : Value) : RepT φ Z w (const v) v := by
  unfold const
  split
  · exact .agg (constCells_rep _)
  · exact constCell_rep v

theorem zeroC_spec {t : Nat} {zs : List T} (h : zeroC P t = some zs) : ∃ i z, P.info? t = some i ∧ i.zero = some z ∧ zs = (const z).cells := by
  unfold zeroC at h
  cases hi : P.info? t with
  | none => simp [hi] at h
  | some i =>
    simp only [hi, Option.bind_some, Option.map_eq_some_iff] at h
    obtain ⟨z, hz, rfl⟩ := h
    exact ⟨i, z, rfl, hz, rfl⟩
theorem info_zero_sz {t k : Nat} {zs : List T} (h : zeroC P t = some zs) (hk : sz P t = some k) : ∃ i z, P.info? t = some i ∧ i.zero = some z ∧ i.size = k ∧ zs = (const z).cells := by
  obtain ⟨i, z, h1, h2, h3⟩ := zeroC_spec h
  obtain ⟨j, h4, h5⟩ := info_of_sz hk
  rw [h1] at h4; cases h4
  exact ⟨i, z, h1, h2, h5, h3⟩

theorem Done.box (hm : RelM P φ Z m n w) {e : TypeId} {z : Nat} {cs : List T} {us : Array Value} {r : Result Next} (hr : r = .ok (.value (.pointer (some ⟨w.heap.size, 0, none⟩))) (w.alloc (.cells us e)))
    (hz : 0 < z) (hsz : sz P e = some z) (hc : allC cs) (h : RepTs φ Z w cs us.toList) : Done P φ Z m (n + 1) w r ⟨.ptr n 0, [(n, some (.box e z cs))]⟩ := by
  have hl : cs.length = us.size := by rw [h.length]; simp
  obtain ⟨h1, h2⟩ := hm.succ.allocMut (id := n) (by omega) (hm.fresh n (Nat.le_refl _)) (e := e) (z := z) (cs := cs) (cur := us) (v := .pointer (some ⟨w.heap.size, 0, none⟩)) hz hsz (by omega)
    (by rw [List.take_of_length_le (by simp; omega)]; exact h) hc (.inl rfl)
  exact ⟨_, _, _, _, .inl hr, h1, .ptr (updP_same _ _ _), h2⟩
theorem evAlloc_sound (hm : RelM P φ Z m n w) {t : Nat} {E : Eff} (hx : evAlloc P t n = some E) : Done P φ Z m (n + 1) w ((do pure (.value (← Instr.alloc t true (.tuple #[]))) : Sem Next).run P w) E := by
  unfold evAlloc at hx
  obtain ⟨zs, hzs, hx⟩ := obind_eq hx
  obtain ⟨k, hk, hx⟩ := obind_eq hx
  obtain ⟨⟨h1, h2, h3⟩, hx⟩ := tst_eq hx
  cases hx
  obtain ⟨i, z, g1, g2, g3, rfl⟩ := info_zero_sz hzs hk
  refine Done.box hm (us := z.cells) ?_ h3 hk h2 ((const_rep z).toCells hm.ok h2)
  simp [Instr.alloc, zeroValue, typeInfo, g1, g2, newVar, Go.newRow]
theorem evBox_sound (hm : RelM P φ Z m n w) {t : Nat} {x : T} {u : Value} {E : Eff} (h : RepT φ Z w x u) (hx : evBox P t n x = some E) : Done P φ Z m (n + 1) w ((do pure (.value (← Instr.box t u)) : Sem Next).run P w) E := by
  unfold evBox at hx
  obtain ⟨k, hk, hx⟩ := obind_eq hx
  obtain ⟨⟨h1, h2, h3⟩, hx⟩ := tst_eq hx
  cases hx
  refine Done.box hm (us := u.cells) ?_ h3 hk h2 (h.toCells hm.ok h2)
  simp [Instr.box, newVar, Go.newRow]

/-! structs -/
inductive RepPs (φ : Phi) (Z : Zs) (w : World) : List (Nat × T) → List (Nat × Value) → Prop
  | nil : RepPs φ Z w [] []
  | cons {i : Nat} {x : T} {u : Value} {xs : List (Nat × T)} {us : List (Nat × Value)} (h : RepT φ Z w x u) (t : RepPs φ Z w xs us) : RepPs φ Z w ((i, x) :: xs) ((i, u) :: us)
theorem RepPs.of {ρ : Operand → T} {ev : Operand → Value} (h : ∀ o, RepT φ Z w (ρ o) (ev o)) : ∀ l : List (Nat × Operand), RepPs φ Z w (l.map fun p => (p.1, ρ p.2)) (l.map fun p => (p.1, ev p.2))
  | [] => .nil
  | p :: l => .cons (h _) (RepPs.of h l)

theorem fill_step (cells us : Array Value) (off : Nat) (h : off + us.size ≤ cells.size) :
    (us.zipIdx.foldl (fun cs (c, j) => cs.setIfInBounds (off + j) c) cells).toList = cells.toList.take off ++ us.toList ++ cells.toList.drop (off + us.size) := by
  have e : us.zipIdx.foldl (fun cs (c, j) => cs.setIfInBounds (off + j) c) cells = (us.toList.zipIdx 0).foldl (fun cs (x : Value × Nat) => cs.setIfInBounds (off + x.2) x.1) cells := by
    rw [← Array.foldl_toList, Array.toList_zipIdx]
  obtain ⟨h1, h2⟩ := Great.foldl_set off us.toList 0 cells
  rw [e]
  apply List.ext_getElem?
  intro k
  rw [Array.getElem?_toList, h2 k]
  simp only [Nat.add_zero, Array.length_toList]
  have lt : (cells.toList.take off).length = off := by rw [List.length_take, Array.length_toList]; omega
  have ltu : (cells.toList.take off ++ us.toList).length = off + us.size := by rw [List.length_append, lt, Array.length_toList]
  by_cases ha : k < off
  · rw [if_neg (by omega), List.append_assoc, List.getElem?_append_left (by rw [lt]; omega), List.getElem?_take, if_pos ha, Array.getElem?_toList]
  · by_cases hb : k < off + us.size
    · rw [if_pos ⟨by omega, hb, by omega⟩, List.getElem?_append_left (by rw [ltu]; exact hb), List.getElem?_append_right (by rw [lt]; omega), lt]
    · rw [if_neg (by omega), List.getElem?_append_right (by rw [ltu]; omega), ltu, List.getElem?_drop, Array.getElem?_toList]
      congr 1; omega
theorem RepTs.setAt {cs xs : List T} {us vs : List Value} (h : RepTs φ Z w cs us) (g : RepTs φ Z w xs vs) {off : Nat} (hl : off + xs.length ≤ cs.length) : RepTs φ Z w (setAt cs off xs) (us.take off ++ vs ++ us.drop (off + vs.length)) := by
  rw [setAt_spec _ _ _ hl, g.length]
  exact ((h.take off).append g).append (h.drop _)

theorem places_get : ∀ (fs : List Field) (places : List (Nat × Nat)), fs.mapM (fun f => (P.info? f.type).map fun i => (f.offset, i.size)) = some places → ∀ (i : Nat) (f : Field), fs[i]? = some f → ∀ k, sz P f.type = some k → places[i]? = some (f.offset, k)
  | [], places, h, i, f, hf, k, hk => by simp at hf
  | g :: fs, places, h, i, f, hf, k, hk => by
    simp only [List.mapM_cons, Option.bind_eq_bind, Option.pure_def, Option.bind_eq_some_iff, Option.map_eq_some_iff] at h
    obtain ⟨a, ⟨q, hq, rfl⟩, rest, hrest, h⟩ := h
    cases h
    cases i with
    | zero =>
      simp only [List.getElem?_cons_zero, Option.some.injEq] at hf ⊢
      subst hf
      obtain ⟨j, h4, h5⟩ := info_of_sz hk
      rw [hq] at h4; cases h4; rw [h5]
    | succ i =>
      simp only [List.getElem?_cons_succ] at hf ⊢
      exact places_get fs rest hrest i f hf k hk
theorem places_some : ∀ (fs : List Field), (fs.all fun f => (P.info? f.type).isSome) = true → ∃ places, fs.mapM (fun f => (P.info? f.type).map fun i => (f.offset, i.size)) = some places
  | [], _ => ⟨[], rfl⟩
  | f :: fs, h => by
    simp only [List.all_cons, Bool.and_eq_true, Option.isSome_iff_exists] at h
    obtain ⟨⟨i, hi⟩, h⟩ := h
    obtain ⟨ps, hps⟩ := places_some fs h
    exact ⟨(f.offset, i.size) :: ps, by simp [List.mapM_cons, hi, hps]⟩

theorem placeC_sound (hφ : PhiOk φ) {t : Nat} {fs : Array Field} {places : List (Nat × Nat)} (hu : P.underlying t = some (.struct fs)) (hp : fs.toList.mapM (fun f => (P.info? f.type).map fun i => (f.offset, i.size)) = some places) :
    ∀ (parts : List (Nat × T)) (vals : List (Nat × Value)) (cs : List T) (cells : Array Value) (cs' : List T), RepPs φ Z w parts vals → RepTs φ Z w cs cells.toList → placeC P t parts cs = some cs' →
    ∃ r, Instr.fill (places.toArray[·]?) cells vals = some r ∧ RepTs φ Z w cs' r.toList := by
  intro parts
  induction parts with
  | nil => intro vals cs cells cs' h hr hx; cases h; cases hx; exact ⟨cells, rfl, hr⟩
  | cons p parts ih =>
    intro vals cs cells cs' h hr hx
    cases h with
    | @cons i x u _ us h tl =>
      simp only [placeC] at hx
      obtain ⟨o, ho, hx⟩ := obind_eq hx
      obtain ⟨k, hk, hx⟩ := obind_eq hx
      obtain ⟨⟨h1, h2, h3⟩, hx⟩ := tst_eq hx
      obtain ⟨fs', g, k', f1, f2, f3, f4, f5⟩ := fo_spec ho
      rw [hu] at f1; cases f1
      have hpl : places.toArray[i]? = some (o, k) := by
        have : fsz P t i = sz P g.type := by simp only [fsz, hu, Option.bind_some, f2]
        rw [this] at hk
        have := places_get _ _ hp i g (by simpa using f2) k hk
        rw [List.getElem?_toArray, this, f3]
      have hcells := h.toCells hφ h2
      have hsz : u.cells.size = k := by have := hcells.length; rw [h1] at this; simpa using this.symm
      have hcl : cs.length = cells.size := by rw [hr.length]; simp
      have hst := fill_step cells u.cells o (by omega)
      obtain ⟨r, hr1, hr2⟩ := ih us _ (u.cells.zipIdx.foldl (fun cs (c, j) => cs.setIfInBounds (o + j) c) cells) cs' tl (by rw [hst]; have := hr.setAt hcells (off := o) (by omega); simpa using this) hx
      refine ⟨r, ?_, hr2⟩
      simp only [Instr.fill, hpl]
      rw [if_neg (by simp [hsz]; omega)]
      exact hr1
theorem evBuild_sound (hm : RelM P φ Z m n w) {t : Nat} {parts : List (Nat × T)} {vals : List (Nat × Value)} {x : T} (h : RepPs φ Z w parts vals) (hx : evBuild P t parts = some x) :
    ∃ v, (Instr.build t vals.toArray).run P w = .ok v w ∧ RepT φ Z w x v := by
  unfold evBuild at hx
  obtain ⟨zs, hzs, hx⟩ := obind_eq hx
  obtain ⟨k, hk, hx⟩ := obind_eq hx
  obtain ⟨⟨h1, h2, h3⟩, hx⟩ := tst_eq hx
  obtain ⟨cs, hcs, hx⟩ := obind_eq hx
  cases hx
  obtain ⟨i, z, g1, g2, g3, rfl⟩ := info_zero_sz hzs hk
  unfold fieldsOk at h2
  split at h2
  · rename_i fs hu
    obtain ⟨places, hp⟩ := places_some fs.toList h2
    obtain ⟨r, hr, hr2⟩ := placeC_sound hm.ok hu hp parts vals _ z.cells cs h ((const_rep z).toCells hm.ok h3) hcs
    refine ⟨.agg r, run_build w t vals.toArray r ?_, ?_⟩
    · unfold Program.built
      simp only [g1, hu, g2, hp, hr]
    · exact RepT.agg (us := r.toList) hr2
  · cases h2
end
end TL

/- TL, part 13: slices made, slices written out. -/
set_option linter.unusedVariables false
set_option linter.unusedSimpArgs false
namespace TL
open Go Go.RowKit

section
variable {P : Program} {φ : Phi} {Z : Zs} {m : Mem} {n : Nat} {w : World}

theorem inOrder_spec : ∀ (l : List (Nat × T)) (i : Nat) (vals : List (Nat × Value)) (xs : List T), RepPs φ Z w l vals → inOrder i l = some xs → ∃ us : List Value, RepTs φ Z w xs us ∧ vals = (us.zipIdx i).map fun x => (x.2, x.1)
  | [], i, vals, xs, h, hx => by cases h; cases hx; exact ⟨[], .nil, rfl⟩
  | (j, x) :: l, i, vals, xs, h, hx => by
    cases h with
    | cons h t =>
      simp only [inOrder] at hx
      obtain ⟨rfl, hx⟩ := tst_eq hx
      simp only [Option.map_eq_some_iff] at hx
      obtain ⟨ys, hys, rfl⟩ := hx
      obtain ⟨us, h1, rfl⟩ := inOrder_spec l _ _ _ t hys
      exact ⟨_ :: us, .cons h h1, by simp [List.zipIdx_cons]⟩

theorem flat_length {k : Nat} : ∀ (vs : List Value), (∀ v ∈ vs, v.cells.size = k) → (vs.flatMap fun v => v.cells.toList).length = vs.length * k
  | [], _ => by simp
  | v :: vs, h => by
    rw [List.flatMap_cons, List.length_append, flat_length vs fun u hu => h u (by simp [hu])]
    simp only [Array.length_toList, h v (by simp), List.length_cons, Nat.add_mul, Nat.one_mul]; omega
/-- Parts of k cells each from the first place on. -/
theorem fill_rows {k : Nat} (hk : 0 < k) : ∀ (vs : List Value) (i : Nat) (cells : Array Value), (∀ v ∈ vs, v.cells.size = k) → cells.size = (i + vs.length) * k →
    Instr.fill (fun i => some (i * k, k)) cells ((vs.zipIdx i).map fun x => (x.2, x.1)) = some (cells.toList.take (i * k) ++ vs.flatMap fun v => v.cells.toList).toArray
  | [], i, cells, h, hs => by
    simp only [List.zipIdx_nil, List.map_nil, Instr.fill, List.flatMap_nil, List.append_nil, List.length_nil, Nat.add_zero] at hs ⊢
    rw [List.take_of_length_le (by simp [hs])]
  | v :: vs, i, cells, h, hs => by
    have hv := h v (by simp)
    have e : (i + (v :: vs).length) * k = i * k + k + vs.length * k := by simp only [List.length_cons, Nat.add_mul, Nat.one_mul]; omega
    rw [e] at hs
    have hst := fill_step cells v.cells (i * k) (by omega)
    simp only [List.zipIdx_cons, List.map_cons, Instr.fill]
    rw [if_neg (by simp [hv]; omega)]
    have hsz : (v.cells.zipIdx.foldl (fun cs (c, j) => cs.setIfInBounds (i * k + j) c) cells).size = (i + 1 + vs.length) * k := by
      rw [← Array.length_toList, hst]
      simp only [List.length_append, List.length_take, List.length_drop, Array.length_toList, Nat.add_mul, Nat.one_mul]; omega
    rw [fill_rows hk vs (i + 1) _ (fun u hu => h u (by simp [hu])) hsz, hst]
    congr 2
    rw [List.flatMap_cons, ← List.append_assoc]
    congr 1
    have hl : (cells.toList.take (i * k) ++ v.cells.toList).length = (i + 1) * k := by
      simp only [List.length_append, List.length_take, Array.length_toList, Nat.add_mul, Nat.one_mul]; omega
    rw [← hl, List.take_left]

theorem run_buildSlice0 (w : World) (t e : TypeId) (parts : Array (Nat × Value)) (ie : TypeInfo) (hu : P.underlying t = some (.slice e)) (hie : P.info? e = some ie) (hp : parts.toList = []) :
    (Instr.buildSlice t 0 parts).run P w = .ok (.slice (some ⟨w.heap.size, 0, none⟩) 0 0) (w.alloc (.cells #[] e)) := by
  simp [Instr.buildSlice, run_underlying hu, Go.sizeOf, typeInfo, hie, hp, Instr.fill, Go.newRow, Array.range_zero']

/-- One element's cells. -/
theorem RepV.elemCells {v : V} {u : Value} {k : Nat} (h : RepV Z w v u) (hl : v.cells.length = k) (hc : ∀ c ∈ v.cells, c.cell = true) :
    u.cells.size = k ∧ ∀ xs us, RepEs Z w k xs us → RepEs Z w k (v :: xs) (u.cells.toList ++ us) := by
  have one : v.cells = [v] → u.cells = #[u] → v.cell = true → u.cells.size = k ∧ ∀ xs us, RepEs Z w k xs us → RepEs Z w k (v :: xs) (u.cells.toList ++ us) := by
    intro h1 h2 h3
    have hk : k = 1 := by rw [← hl, h1]; rfl
    subst hk
    exact ⟨by rw [h2]; rfl, fun xs us hr => by rw [h2]; exact .one h3 h hr⟩
  cases h with
  | any u => exact absurd (hc .any (by simp [V.cells])) (by simp [V.cell])
  | tup h => exact absurd (hc _ (List.mem_singleton.2 rfl)) (by simp [V.cell])
  | agg h =>
    simp only [V.cells] at hl
    refine ⟨by have := h.length; simp [Value.cells]; omega, fun xs us hr => ?_⟩
    exact RepEs.agg h (by rw [← hl, h.length]; rfl) hr
  | bool b => exact one rfl rfl rfl
  | int q i => exact one rfl rfl rfl
  | str h => exact one rfl rfl rfl
  | fn h => exact one rfl rfl rfl
  | nil A c => exact one rfl rfl rfl
  | sl h a b c d => exact one rfl rfl rfl
  | ref h d => exact one rfl rfl rfl
theorem RepVs.elemCells {k : Nat} : ∀ (vs : List V) (us : List Value), RepVs Z w vs us → allZ k vs → (∀ u ∈ us, u.cells.size = k) ∧ RepEs Z w k vs (us.flatMap fun u => u.cells.toList)
  | [], us, h, ha => by cases h; exact ⟨by simp, .nil k⟩
  | v :: vs, us, h, ha => by
    cases h with
    | @cons _ u _ us h t =>
      obtain ⟨h1, h2⟩ := h.elemCells (ha v (by simp)).1 (ha v (by simp)).2
      obtain ⟨h3, h4⟩ := RepVs.elemCells vs us t fun x hx => ha x (by simp [hx])
      exact ⟨by simpa using ⟨h1, h3⟩, by rw [List.flatMap_cons]; exact h2 _ _ h4⟩
theorem RepTs.elemCells (hφ : PhiOk φ) {k : Nat} : ∀ (xs : List T) (us : List Value), RepTs φ Z w xs us → (∀ x ∈ xs, x.cells.length = k ∧ allC x.cells) →
    (∀ u ∈ us, u.cells.size = k) ∧ RepTs φ Z w (xs.flatMap T.cells) (us.flatMap fun u => u.cells.toList) ∧ allC (xs.flatMap T.cells)
  | [], us, h, ha => by cases h; exact ⟨by simp, .nil, by intro x hx; simp at hx⟩
  | x :: xs, us, h, ha => by
    cases h with
    | @cons _ u _ us h t =>
      obtain ⟨a1, a2⟩ := ha x (by simp)
      have h1 := h.toCells hφ a2
      obtain ⟨h2, h3, h4⟩ := RepTs.elemCells hφ xs us t fun y hy => ha y (by simp [hy])
      refine ⟨?_, by rw [List.flatMap_cons, List.flatMap_cons]; exact h1.append h3, ?_⟩
      · intro v hv
        rcases List.mem_cons.1 hv with rfl | hv
        · have := h1.length; rw [a1] at this; simpa using this.symm
        · exact h2 v hv
      · intro y hy
        rw [List.flatMap_cons, List.mem_append] at hy
        rcases hy with hy | hy
        · exact a2 y hy
        · exact h4 y hy

theorem Done.row (hm : RelM P φ Z m n w) {e : TypeId} {z l : Nat} {cs : List T} {us : Array Value} {r : Result Next} (hr : r = .ok (.value (.slice (some ⟨w.heap.size, 0, none⟩) l l)) (w.alloc (.cells us e)))
    (hz : 0 < z) (hsz : sz P e = some z) (hc : allC cs) (hl : us.size = l * z) (hlm : l ≤ maxLen) (h : RepTs φ Z w cs us.toList) : Done P φ Z m (n + 1) w r ⟨.sv n 0 l, [(n, some (.box e z cs))]⟩ := by
  have hcs : cs.length = us.size := by rw [h.length]; simp
  obtain ⟨h1, h2⟩ := hm.succ.allocMut (id := n) (by omega) (hm.fresh n (Nat.le_refl _)) (e := e) (z := z) (cs := cs) (cur := us) (v := .slice (some ⟨w.heap.size, 0, none⟩) l l) hz hsz (by omega)
    (by rw [List.take_of_length_le (by simp; omega)]; exact h) hc (.inr ⟨_, _, rfl, hl, hlm⟩)
  exact ⟨_, _, _, _, .inl hr, h1, .sv (updP_same _ _ _) (Nat.le_refl _) hlm (fun _ => rfl) (fun _ => ⟨rfl, rfl⟩), h2⟩
theorem small_maxLen {l k : Nat} (hk : 0 < k) (h : l * k ≤ 16777216) : l ≤ maxLen := by
  have : l * 1 ≤ l * k := Nat.mul_le_mul_left l hk
  simp only [maxLen]; omega

theorem evBuildSlice_sound (hm : RelM P φ Z m n w) {t len : Nat} {parts : List (Nat × T)} {vals : List (Nat × Value)} {mu : Bool} {E : Eff} (h : RepPs φ Z w parts vals) (hx : evBuildSlice P mu t m n len parts = some E) :
    Done P φ Z m (n + 1) w ((do pure (.value (← Instr.buildSlice t len vals.toArray)) : Sem Next).run P w) E := by
  unfold evBuildSlice at hx
  obtain ⟨e, he, hx⟩ := obind_eq hx
  obtain ⟨xs, hxs, hx⟩ := obind_eq hx
  obtain ⟨hxl, hx1⟩ := tst_eq hx
  subst hxl
  unfold newRow at hx1
  replace hx := hx1
  obtain ⟨k, hk, hx⟩ := obind_eq hx
  obtain ⟨⟨h1, h2, h3⟩, hx⟩ := tst_eq hx
  obtain ⟨zs, hzs⟩ := Option.isSome_iff_exists.1 h1
  obtain ⟨i, z, g1, g2, g3, rfl⟩ := info_zero_sz hzs hk
  obtain ⟨us, hus, rfl⟩ := inOrder_spec _ _ _ _ h hxs
  have hlen : xs.length = us.length := hus.length
  have run : (∀ u ∈ us, u.cells.size = k) → ((do pure (.value (← Instr.buildSlice t xs.length ((us.zipIdx 0).map fun x => (x.2, x.1)).toArray)) : Sem Next).run P w) =
      .ok (.value (.slice (some ⟨w.heap.size, 0, none⟩) xs.length xs.length)) (w.alloc (.cells (us.flatMap fun u => u.cells.toList).toArray e)) := by
    intro hu
    have hb : (Instr.buildSlice t xs.length ((us.zipIdx 0).map fun x => (x.2, x.1)).toArray).run P w = .ok (.slice (some ⟨w.heap.size, 0, none⟩) xs.length xs.length) (w.alloc (.cells (us.flatMap fun u => u.cells.toList).toArray e)) := by
      cases us with
      | nil =>
        have : xs = [] := by cases xs with | nil => rfl | cons => simp at hlen
        subst this
        exact run_buildSlice0 w t e _ i (und_of_elT he) g1 (by simp)
      | cons u us =>
        have hp : 0 < xs.length * k := Nat.mul_pos (by rw [hlen]; simp) h2
        refine run_buildSlice w t e xs.length _ _ i z (und_of_elT he) g1 g2 (by rw [g3]; omega) (by rw [g3]; omega) ?_
        rw [g3]
        have := fill_rows h2 (u :: us) 0 ((Array.range (xs.length * k)).map (z.cells[· % z.cells.size]!)) hu (by simp [hlen])
        simpa using this
    simp only [Sem.run_bind, hb, Result.andThen_ok, Sem.run_pure]
  split at hx
  · obtain ⟨ha, hx⟩ := tst_eq hx
    cases hx
    obtain ⟨a1, a2, a3⟩ := RepTs.elemCells hm.ok xs us hus ha
    exact Done.row hm (run a1) h2 hk a3 (by simp only [List.size_toArray]; rw [flat_length us a1, hlen]) (small_maxLen h2 h3) a2
  · obtain ⟨vs, hvs, hx⟩ := obind_eq hx
    obtain ⟨ha, hx⟩ := tst_eq hx
    cases hx
    have hr := bors_sound hm (k := false) (Zb := Z) (fun _ _ h => h) (by simp) xs us vs hus hvs
    obtain ⟨a1, a2⟩ := RepVs.elemCells vs us hr ha
    have hvl : vs.length = xs.length := ((mapO_spec hvs).1).symm
    have hfl := flat_length us a1
    obtain ⟨q1, q2⟩ := hm.succ.allocArr (id := n) (by omega) (hm.fresh n (Nat.le_refl _)) (e := e) (z := k) (xs := vs) (us := us.flatMap fun u => u.cells.toList) (cur := (us.flatMap fun u => u.cells.toList).toArray) (c := xs.length) h2 hk a2 (by omega)
      (small_maxLen h2 h3) (by rw [List.size_toArray, hfl, hlen]) (List.take_of_length_le (by show List.length _ ≤ _; rw [hfl, hvl, hlen]; exact Nat.le_refl _))
    rw [hvl] at q1 q2
    exact ⟨_, _, _, _, .inl (run a1), q1, .loc (updP_same _ _ _), q2⟩

theorem replicate_cells (z : Array Value) (hz : 0 < z.size) : ∀ l : Nat, (madeCells z (l * z.size)).toList = (List.replicate l z.toList).flatten := by
  intro l
  apply List.ext_getElem?
  intro i
  simp only [madeCells, Array.toList_map, Array.toList_range, List.getElem?_map]
  induction l generalizing i with
  | zero => simp
  | succ l ih =>
    rw [List.replicate_succ', List.flatten_append, List.flatten_singleton]
    have hl : (List.replicate l z.toList).flatten.length = l * z.size := by simp
    by_cases h : i < l * z.size
    · rw [List.getElem?_append_left (by rw [hl]; exact h), ← ih]
      rw [List.getElem?_range h, List.getElem?_range (by rw [Nat.add_mul]; omega)]
    · rw [List.getElem?_append_right (by rw [hl]; omega), hl]
      by_cases h2 : i < (l + 1) * z.size
      · rw [List.getElem?_range h2]
        have hlt : i - l * z.size < z.size := by rw [Nat.add_mul] at h2; omega
        have hmod : i % z.size = i - l * z.size := by
          have : i = (i - l * z.size) + z.size * l := by rw [Nat.mul_comm z.size l]; omega
          rw [this, Nat.add_mul_mod_self_left, Nat.mod_eq_of_lt (by omega)]
          rw [Nat.mul_comm z.size l]; omega
        simp only [Option.map_some, hmod]
        rw [getElem!_pos z _ hlt, List.getElem?_eq_getElem (by simpa using hlt)]; simp
      · rw [List.getElem?_eq_none (by simp; omega), List.getElem?_eq_none (by rw [Nat.add_mul] at h2; simp; omega)]; rfl
theorem RepTs.replicate {cs : List T} {us : List Value} (h : RepTs φ Z w cs us) : ∀ l, RepTs φ Z w (List.replicate l cs).flatten (List.replicate l us).flatten
  | 0 => .nil
  | l + 1 => by rw [List.replicate_succ, List.replicate_succ, List.flatten_cons, List.flatten_cons]; exact h.append (h.replicate l)
theorem evMake_sound (hm : RelM P φ Z m n w) {t : Nat} {l c : T} {ul uc : Value} {E : Eff} (hl : RepT φ Z w l ul) (hc : RepT φ Z w c uc) (hx : evMake P t n l c = some E) :
    Done P φ Z m (n + 1) w ((do pure (.value (← Instr.makeSlice t ul uc)) : Sem Next).run P w) E := by
  unfold evMake at hx
  split at hx
  · obtain rfl := int_rep hl; obtain rfl := int_rep hc
    obtain ⟨e, he, hx⟩ := obind_eq hx
    obtain ⟨k, hk, hx⟩ := obind_eq hx
    obtain ⟨by_, hby, hx⟩ := obind_eq hx
    obtain ⟨zs, hzs, hx⟩ := obind_eq hx
    obtain ⟨⟨hlc, h0, hb, h63, hzl, hk0, hac⟩, hx1⟩ := tst_eq hx
    subst hlc
    cases hx1
    obtain ⟨i, z, g1, g2, g3, rfl⟩ := info_zero_sz hzs hk
    have hbi : i.bytes = by_ := by simpa [bytes, g1] using hby
    have hcells := (const_rep (φ := φ) (Z := Z) (w := w) z).toCells hm.ok hac
    have hzk : z.cells.size = k := by have := hcells.length; rw [hzl] at this; simpa using this.symm
    have hrun := run_make (P := P) w t e i z (und_of_elT he) g1 g2 .i64 .i64 _ _ h0 (Int.le_refl _) (by rw [hbi]; exact hb) h63
    rw [g3] at hrun
    refine Done.row hm (us := madeCells z.cells (_ * k)) (by simp only [Sem.run_bind, hrun, Result.andThen_ok, Sem.run_pure]) hk0 hk ?_ (size_madeCells _ _) (by simp only [maxLen]; omega) ?_
    · intro x hx
      obtain ⟨l, h1, h2⟩ := List.mem_flatten.1 hx
      obtain ⟨_, rfl⟩ := List.mem_replicate.1 h1
      exact hac x h2
    · rw [← hzk, replicate_cells z.cells (by omega)]
      exact hcells.replicate _
  · cases hx
end
end TL

/- TL, part 14: append. -/
set_option linter.unusedVariables false
set_option linter.unusedSimpArgs false
namespace TL
open Go Go.RowKit

section
variable {P : Program} {φ φ' : Phi} {Z Z' : Zs} {m m' : Mem} {n : Nat} {w : World}

theorem szz_spec {t k : Nat} (h : szz P t = some k) : ∃ i z, P.info? t = some i ∧ i.zero = some z ∧ z.cells.size = i.size ∧ i.size = k := by
  unfold szz at h
  cases hi : P.info? t with
  | none => simp [hi] at h
  | some i =>
    cases hz : i.zero with
    | none => simp [hi, hz] at h
    | some z =>
      simp only [hi, hz, Option.bind_some] at h
      split at h
      · rename_i h1; cases h; exact ⟨i, z, rfl, hz, h1, rfl⟩
      · cases h
theorem RelM.quiet (hm : RelM P φ Z m n w) (he : Ext φ φ') (hok : PhiOk φ') (hfr : ∀ i, n ≤ i → φ' i = none)
    (hm' : ∀ j b, m' j = some b → m j = some b ∨ ∃ v, φ' j = some v ∧ RelB P φ' Z w v b ∧ (isRo b = true ∨ blkOf v = none)) :
    RelM P φ' Z m' n w ∧ Step φ Z m w φ' Z m' w := by
  have old : ∀ j b v k, m' j = some b → isRo b = false → φ' j = some v → blkOf v = some k → m j = some b ∧ φ j = some v := by
    intro j b v k hj hr hv hk
    rcases hm' j b hj with h | ⟨v1, h1, _, h3⟩
    · obtain ⟨u, hu, _⟩ := hm.blk j b h
      have := he j u hu; rw [hv] at this; cases this
      exact ⟨h, hu⟩
    · rw [hv] at h1; cases h1
      rcases h3 with h3 | h3
      · rw [hr] at h3; cases h3
      · rw [hk] at h3; cases h3
  refine ⟨⟨hok, hfr, ?_, ?_, hm.zlt⟩, ⟨he, fun _ _ h => h, fun _ _ _ => rfl, rfl, rfl, rfl, Nat.le_refl _, fun _ _ _ => rfl, ?_, fun _ _ h => .inl h⟩⟩
  · intro j b hj
    rcases hm' j b hj with h | ⟨v, h1, h2, _⟩
    · obtain ⟨u, hu, hr⟩ := hm.blk j b h
      exact ⟨u, he j u hu, hr.keep he (fun _ _ h => h) (fun _ _ _ => rfl) fun _ _ _ => ⟨rfl, fun _ h => h⟩⟩
    · exact ⟨v, h1, h2⟩
  · intro i j a b u v k h1 h2 h3 h4 h5 h6 h7 h8
    obtain ⟨g1, g2⟩ := old i a u k h1 h7 h3 h5
    obtain ⟨g3, g4⟩ := old j b v k h2 h8 h4 h6
    exact hm.ne i j a b u v k g1 g3 g2 g4 h5 h6 h7 h8
  · rintro k hk ⟨j, b, v, h1, h2, h3, h4⟩
    obtain ⟨g1, g2⟩ := old j b v k h1 h2 h3 h4
    exact ⟨j, b, v, g1, h2, g2, h4⟩
theorem RelM.drew (hm : RelM P φ Z m n w) : RelM P φ Z m n w.drew :=
  ⟨hm.ok, hm.fresh, fun i b h => by
    obtain ⟨v, h1, h2⟩ := hm.blk i b h
    exact ⟨v, h1, h2.keep (fun _ _ h => h) (fun _ _ h => h) (fun _ _ _ => rfl) fun _ _ _ => ⟨rfl, fun _ h => h⟩⟩, hm.ne, ⟨hm.zlt.lt, hm.zlt.gl.keep (fun _ _ h => h) fun _ _ _ => rfl⟩⟩
theorem Step.drew (φ : Phi) (Z : Zs) (m : Mem) (w : World) : Step φ Z m w φ Z m w.drew :=
  ⟨fun _ _ h => h, fun _ _ h => h, fun _ _ _ => rfl, rfl, rfl, rfl, Nat.le_refl _, fun _ _ _ => rfl, fun _ _ h => h, fun _ _ h => .inl h⟩

/-- What is appended. -/
theorem news_of {k : Nat} {ys : List V} {u : Value} (h : RepV Z w (.sl ys) u) (ha : allZ k ys) :
    ∃ A mm c news, u = .slice A mm c ∧ RepEs Z w k ys news ∧ mm = ys.length ∧ (0 < mm → ∃ a, A = some a ∧ ∀ j u, news[j]? = some u → w.cell? (a.add j) = some u) := by
  cases h with
  | nil A c => exact ⟨A, 0, c, [], rfl, .nil k, rfl, fun h => by omega⟩
  | @sl z xs us ad n c h hn hc hm hz =>
    by_cases he : ys = []
    · subst he
      cases h
      exact ⟨_, _, _, [], rfl, .nil k, hn.symm, fun h => ⟨_, rfl, fun j u hu => by simp at hu⟩⟩
    · have := allZ_z h ha he
      subst this
      exact ⟨_, _, _, us, rfl, h, hn.symm, fun _ => ⟨_, rfl, fun j u hu => (hz j u hu).1⟩⟩
theorem le_maxLen_of {a b : Nat} (hb : 0 < b) (h : a * b ≤ 140737488355328) : a ≤ maxLen := by
  have : a * 1 ≤ a * b := Nat.mul_le_mul_left a hb
  simp only [maxLen]; omega

theorem updU {m : Mem} {i j : Nat} {a b : Blk} (x : Option Blk) : (updM (updM m i x) j (some a)) i = (if i = j then some a else x) := by
  unfold updM; simp

/-- append to a row of pure elements. -/
theorem appArr_sound (hm : RelM P φ Z m n w) {i t ty e k by_ : Nat} {e' : TypeId} {xs ys : List V} {v y : Value} {E : Eff} (ht : elT P t = some e) (hk : szz P e = some k) (hb : bytes P e = some by_)
    (hi : m i = some (.arr e' xs)) (hv : φ i = some v) (hy : RepV Z w (.sl ys) y) (hx : appArr e k by_ i n e' xs ys = some E) :
    Done P φ Z m (n + 1) w ((do pure (.value (← Builtin.append_ #[t, t] ty #[v, y])) : Sem Next).run P w) E := by
  unfold appArr at hx
  obtain ⟨⟨hee, hk0, hby, ha, hbound⟩, hx⟩ := tst_eq hx
  subst hee
  cases hx
  obtain ⟨inf, z, g1, g2, g3, g4⟩ := szz_spec hk
  have hbi : inf.bytes = by_ := by simpa [bytes, g1] using hb
  obtain ⟨v', hv', us, z', b1, b2, b3, b4, b5⟩ := hm.blk _ _ hi
  rw [hv] at hv'; cases hv'
  have hsz : sz P e' = some k := by simp [sz, g1, g4]
  rw [hsz] at b1; cases b1
  obtain ⟨A, mm, c, news, rfl, n1, rfl, n3⟩ := news_of hy ha
  have hnl : news.length = ys.length * inf.size := by rw [n1.length, g4]
  have hni : n ≠ i := fun h => by have := hm.fresh n (Nat.le_refl _); rw [h, hv] at this; cases this
  obtain ⟨v1, w1, hrun, hown, halt⟩ := run_append_tl (P := P) w t ty e' inf z (und_of_elT ht) g1 g2 g3 (by omega) v xs.length us (by rw [g4]; exact b3) A ys.length c news hnl n3 n1.ones (by rw [hbi]; exact hbound) (le_maxLen_of hby hbound)
  rw [g4] at hown
  have hr : ((do pure (.value (← Builtin.append_ #[t, t] ty #[v, .slice A ys.length c])) : Sem Next).run P w) = .ok (.value v1) w1 := by simp only [Sem.run_bind, hrun, Result.andThen_ok, Sem.run_pure]
  have happ : (xs ++ ys).length = xs.length + ys.length := List.length_append
  have hφn : φ n = none := hm.fresh n (Nat.le_refl _)
  have hread : RepV Z w (.sl xs) v := RelB.reads (P := P) (φ := φ) (b := .arr e' xs) ⟨us, k, hsz, b2, b3, b4, b5⟩ (.inl ⟨_, rfl⟩)
  have h1c : v1.oneCell' = true := by
    rcases hown.2 with ⟨rfl, _⟩ | ⟨_, _, _, rfl, _⟩ <;> rfl
  have ext : Ext φ (updP φ n v1) := ext_updP v1 hφn
  have ok' : PhiOk (updP φ n v1) := fun j u hu => by
    by_cases hj : j = n
    · subst hj; rw [updP_same] at hu; cases hu; exact h1c
    · rw [updP_ne _ _ hj] at hu; exact hm.ok j u hu
  have fr' : ∀ j, n + 1 ≤ j → updP φ n v1 j = none := fun j hj => by rw [updP_ne _ _ (by omega)]; exact hm.fresh j (by omega)
  -- the block stays the row's own
  have stay : ∀ (g : Nat) (Z' : Zs), blkOf v = some g → blkOf v1 = some g → SubZ Z Z' → (∀ k o, Z' k o → Z k o ∨ k = g) → (∀ o, Z' g o ↔ o < (xs.length + ys.length) * k) → KeepZ Z w w1 → w1.os = w.os → w1.tape = w.tape → w1.output = w.output → w1.heap.size = w.heap.size → (∀ k, k ≠ g → w1.heap[k]? = w.heap[k]?) →
      Done P φ Z m (n + 1) w ((do pure (.value (← Builtin.append_ #[t, t] ty #[v, .slice A ys.length c])) : Sem Next).run P w) ⟨.loc n, [(i, some (.ro xs)), (n, some (.arr e' (xs ++ ys)))]⟩ := by
    intro g Z' hg hg1 hs hZ hiff hkeep hos htape hout hsize hheap
    have key := hm.succ.change (i0 := i) (j0 := n) (g := g) (m' := updM (updM m i (some (.ro xs))) n (some (.arr e' (xs ++ ys)))) hi rfl hv hg ext ok' fr' hs hZ hkeep hos htape hout hsize hheap (fun j b hj => by
      by_cases hjn : j = n
      · subst hjn
        rw [updM_same] at hj; cases hj
        refine .inr ⟨v1, updP_same _ _ _, ⟨us ++ news, k, hsz, b2, by rw [happ]; exact hown, (b4.mono hs hkeep).append (n1.mono hs hkeep), fun q hq o => ?_⟩, .inr ⟨hg1, rfl⟩⟩
        rw [hg1] at hq; cases hq; rw [happ]; exact hiff o
      · rw [updM_ne _ _ hjn] at hj
        by_cases hji : j = i
        · subst hji
          rw [updM_same] at hj; cases hj
          exact .inr ⟨v, ext _ _ hv, hread.mono hs hkeep, .inl rfl⟩
        · rw [updM_ne _ _ hji] at hj; exact .inl ⟨hj, hji⟩)
    exact ⟨v1, w1, _, Z', .inl hr, key.1, .loc (updP_same _ _ _), key.2⟩
  rcases halt with ⟨h0, rfl, rfl⟩ | ⟨g, cur, cap, cur', rfl, rfl, hg, rfl, hcs⟩ | ⟨cap, cur', rfl, rfl, hcap, hcm, hcs, htk⟩
  · cases hg : blkOf v1 with
    | some g => exact stay g Z hg hg (fun _ _ h => h) (fun _ _ h => .inl h) (fun o => by rw [b5 g hg o, h0, Nat.add_zero]) (keep_refl _ _) rfl rfl rfl rfl fun _ _ => rfl
    | none =>
      have key := hm.succ.quiet (m' := updM (updM m i (some (.ro xs))) n (some (.arr e' (xs ++ ys)))) ext ok' fr' (fun j b hj => by
        by_cases hjn : j = n
        · subst hjn
          rw [updM_same] at hj; cases hj
          exact .inr ⟨v1, updP_same _ _ _, ⟨us ++ news, k, hsz, b2, by rw [happ]; exact hown, b4.append n1, fun q hq => by rw [hg] at hq; cases hq⟩, .inr hg⟩
        · rw [updM_ne _ _ hjn] at hj
          by_cases hji : j = i
          · subst hji
            rw [updM_same] at hj; cases hj
            exact .inr ⟨v1, ext _ _ hv, hread, .inl rfl⟩
          · rw [updM_ne _ _ hji] at hj; exact .inl hj)
      exact ⟨v1, _, _, Z, .inl hr, key.1, .loc (updP_same _ _ _), key.2⟩
  · have hz0 : ∀ o, Z g o ↔ o < xs.length * k := fun o => b5 g rfl o
    refine stay g (fun k' o => Z k' o ∨ (k' = g ∧ o < (xs.length + ys.length) * k)) rfl rfl (fun _ _ h => .inl h) (fun _ _ h => h.imp id (·.1)) (fun o => ?_) ?_ rfl rfl rfl (by simp) fun q hq => setRow_other w g q cur' hq
    · constructor
      · rintro (h | h)
        · have := (hz0 o).1 h; rw [Nat.add_mul]; omega
        · exact h.2
      · exact fun h => .inr ⟨rfl, h⟩
    · intro q o hz
      by_cases hq : q = g
      · subst hq
        have ho := (hz0 o).1 hz
        have hul : us.length = xs.length * k := b3.1
        obtain ⟨u, hu⟩ : ∃ u, us[o]? = some u := ⟨us[o]'(by omega), List.getElem?_eq_getElem (by omega)⟩
        have e1 := b3.cells (g := q) rfl o u hu
        have e2 := hown.cells (g := q) rfl o u (by rw [List.getElem?_append_left (by omega)]; exact hu)
        rw [add_lit, Nat.zero_add] at e1 e2
        rw [e1, e2]
      · exact World.cell?_of_block (w := w) (setRow_other w g q cur' hq)
  · have key := hm.succ.quiet (φ' := φ) (m' := updM m i (some (.ro xs))) (fun _ _ h => h) hm.ok hm.succ.fresh (fun j b hj => by
      by_cases hji : j = i
      · subst hji
        rw [updM_same] at hj; cases hj
        exact .inr ⟨v, hv, hread, .inl rfl⟩
      · rw [updM_ne _ _ hji] at hj; exact .inl hj)
    have hes : RepEs Z w.drew k (xs ++ ys) (us ++ news) := RepEs.mono (Z := Z) (Z' := Z) (w := w) (w' := w.drew) (fun _ _ h => h) (fun _ _ _ => rfl) (b4.append n1)
    obtain ⟨q1, q2⟩ := key.1.drew.allocArr (id := n) (by omega) hφn (e := e') (z := k) (cur := cur') (c := cap) b2 hsz hes (by rw [happ]; exact hcap) hcm (by rw [hcs, g4]) (by rw [happ, ← g4]; exact htk)
    rw [happ] at q1 q2
    exact ⟨_, _, _, _, .inl hr, q1, .loc (updP_same _ _ _), (key.2.trans (Step.drew _ _ _ _)).trans q2⟩

/-- append to nothing. -/
theorem appNil_sound (hm : RelM P φ Z m n w) {t ty e k by_ : Nat} {ys : List V} {y : Value} {E : Eff} (ht : elT P t = some e) (hk : szz P e = some k) (hb : bytes P e = some by_)
    (hy : RepV Z w (.sl ys) y) (hx : appNil e k by_ n ys = some E) :
    Done P φ Z m (n + 1) w ((do pure (.value (← Builtin.append_ #[t, t] ty #[.slice none 0 0, y])) : Sem Next).run P w) E := by
  unfold appNil at hx
  obtain ⟨⟨hk0, hby, ha, hbound⟩, hx⟩ := tst_eq hx
  cases hx
  obtain ⟨inf, z, g1, g2, g3, g4⟩ := szz_spec hk
  have hbi : inf.bytes = by_ := by simpa [bytes, g1] using hb
  have hsz : sz P e = some k := by simp [sz, g1, g4]
  obtain ⟨A, mm, c, news, rfl, n1, rfl, n3⟩ := news_of hy ha
  have hnl : news.length = ys.length * inf.size := by rw [n1.length, g4]
  obtain ⟨v1, w1, hrun, hown, halt⟩ := run_append_tl (P := P) w t ty e inf z (und_of_elT ht) g1 g2 g3 (by omega) (.slice none 0 0) 0 [] (World.ownsRow_nil _ _ _ _) A ys.length c news hnl n3 n1.ones (by rw [hbi, Nat.zero_add]; exact hbound) (by rw [Nat.zero_add]; exact le_maxLen_of hby hbound)
  rw [g4] at hown
  have hr : ((do pure (.value (← Builtin.append_ #[t, t] ty #[.slice none 0 0, .slice A ys.length c])) : Sem Next).run P w) = .ok (.value v1) w1 := by simp only [Sem.run_bind, hrun, Result.andThen_ok, Sem.run_pure]
  have hφn : φ n = none := hm.fresh n (Nat.le_refl _)
  simp only [Nat.zero_add, List.nil_append] at halt hown
  rcases halt with ⟨h0, rfl, rfl⟩ | ⟨g, cur, cap, cur', h, _⟩ | ⟨cap, cur', rfl, rfl, hcap, hcm, hcs, htk⟩
  · have key := hm.succ.quiet (φ' := updP φ n (.slice none 0 0)) (m' := updM m n (some (.arr e ys))) (ext_updP _ hφn) (fun j u hu => by
        by_cases hj : j = n
        · subst hj; rw [updP_same] at hu; cases hu; rfl
        · rw [updP_ne _ _ hj] at hu; exact hm.ok j u hu) (fun j hj => by rw [updP_ne _ _ (by omega)]; exact hm.fresh j (by omega)) (fun j b hj => by
        by_cases hjn : j = n
        · subst hjn
          rw [updM_same] at hj; cases hj
          exact .inr ⟨_, updP_same _ _ _, ⟨news, k, hsz, hk0, hown, n1, fun q hq => by cases hq⟩, .inr rfl⟩
        · rw [updM_ne _ _ hjn] at hj; exact .inl hj)
    exact ⟨_, _, _, Z, .inl hr, key.1, .loc (updP_same _ _ _), key.2⟩
  · cases h
  · have hes : RepEs Z w.drew k ys news := RepEs.mono (Z := Z) (Z' := Z) (w := w) (w' := w.drew) (fun _ _ h => h) (fun _ _ _ => rfl) n1
    obtain ⟨q1, q2⟩ := hm.succ.drew.allocArr (id := n) (by omega) hφn (e := e) (z := k) (cur := cur') (c := cap) hk0 hsz hes hcap hcm (by rw [hcs, g4]) (by rw [← g4]; exact htk)
    exact ⟨_, _, _, _, .inl hr, q1, .loc (updP_same _ _ _), (Step.drew _ _ _ _).trans q2⟩
end
end TL

/- TL, part 15: append to rows that may change. -/
set_option linter.unusedVariables false
set_option linter.unusedSimpArgs false
namespace TL
open Go Go.RowKit

section
variable {P : Program} {φ φ' : Phi} {Z Z' : Zs} {m m' : Mem} {n : Nat} {w : World}

theorem RepEs.toTs {z : Nat} {xs : List V} {us : List Value} (h : RepEs Z w z xs us) : RepTs φ Z w (xs.flatMap fun x => x.cells.map .v) us := by
  induction xs generalizing us z with
  | nil => cases h; exact .nil
  | cons x xs ih =>
    cases h with
    | agg h hl t => rw [List.flatMap_cons]; exact h.toTs.append (ih t)
    | @one _ u us _ hc h t =>
      rw [List.flatMap_cons]
      have : x.cells = [x] := by cases x <;> first | rfl | simp [V.cell] at hc
      rw [this]
      exact RepTs.append (a := [.v x]) (us := [u]) (.cons (.v h) .nil) (ih t)

/-- The cells that are appended. -/
theorem ecells_sound (hm : RelM P φ Z m n w) {k : Nat} {y : T} {u : Value} {nn : Nat} {ys : List T} (h : RepT φ Z w y u) (hk : 0 < k) (hx : ecells m k y = some (nn, ys)) :
    ∃ A c news, u = .slice A nn c ∧ RepTs φ Z w ys news ∧ news.length = nn * k ∧ (0 < nn → ∃ a, A = some a ∧ ∀ j v, news[j]? = some v → w.cell? (a.add j) = some v) := by
  have general : (obind (elems m y) fun xs => tst (allZ k xs) (some (xs.length, xs.flatMap fun x => x.cells.map T.v))) = some (nn, ys) →
      ∃ A c news, u = .slice A nn c ∧ RepTs φ Z w ys news ∧ news.length = nn * k ∧ (0 < nn → ∃ a, A = some a ∧ ∀ j v, news[j]? = some v → w.cell? (a.add j) = some v) := by
    intro hx
    obtain ⟨xs, hxs, hx⟩ := obind_eq hx
    obtain ⟨ha, hx⟩ := tst_eq hx
    cases hx
    obtain ⟨A, mm, c, news, rfl, n1, rfl, n3⟩ := news_of (elems_rep hm h hxs) ha
    exact ⟨A, c, news, rfl, n1.toTs, n1.length, n3⟩
  unfold ecells at hx
  split at hx
  · rename_i id co len
    split at hx
    · rename_i e z cs hi
      obtain ⟨⟨rfl, hle⟩, hx⟩ := tst_eq hx
      cases hx
      obtain ⟨v, hv, h1, h2, g, cur, h3, h4, h5, h6, h7, h8, h9⟩ := hm.blk _ _ hi
      cases h with
      | @sv _ _ _ g' n' c' c'' A hq hl hmx ha h0 =>
        rw [hv] at hq; cases hq
        cases h3
        have hlen := h6.length
        refine ⟨A, c'', ((cur.toList.take cs.length).drop co).take (nn * z), rfl, (h6.drop co).take _, ?_, fun hp => ⟨_, ha hp, fun j v hj => ?_⟩⟩
        · rw [List.length_take, List.length_drop, ← hlen]; omega
        · rw [add_lit, cell_of_row w _ _ cur e (0, 0) h4]
          rw [List.getElem?_take] at hj
          split at hj
          · rw [List.getElem?_drop, List.getElem?_take] at hj
            split at hj
            · simpa using hj
            · cases hj
          · cases hj
    · cases hx
  · exact general hx

theorem boxUpd {e : TypeId} {z : Nat} {cs : List T} {v : Value} {g : Nat} {cur : Array Value} (hz : 0 < z) (hsz : sz P e = some z) (hg : blkOf v = some g) (hh : w.heap[g]? = some (.cells cur e (0, 0))) (hl : cs.length ≤ cur.size)
    (hr : RepTs φ Z w cs (cur.toList.take cs.length)) (hc : allC cs) (hnz : ∀ o, ¬ Z g o) {n' c : Nat} (hv : v = .slice (some ⟨g, 0, none⟩) n' c) (hcs : cur.size = c * z) (hcm : c ≤ maxLen) : RelB P φ Z w v (.box e z cs) :=
  ⟨hz, hsz, g, cur, hg, hh, hl, hr, hc, hnz, .inr ⟨n', c, hv, hcs, hcm⟩⟩

theorem appMut_sound (hm : RelM P φ Z m n w) {i co len t ty e k by_ nn z : Nat} {e' : TypeId} {cs ys : List T} {v y : Value} {yt : T} {E : Eff} (ht : elT P t = some e) (hk : szz P e = some k) (hb : bytes P e = some by_)
    (hi : m i = some (.box e' z cs)) (h : RepT φ Z w (.sv i co len) v) (hy : RepT φ Z w yt y) (hys : ecells m k yt = some (nn, ys)) (hx : appMut e k by_ i n co len e' z cs nn ys = some E) :
    Done P φ Z m (n + 1) w ((do pure (.value (← Builtin.append_ #[t, t] ty #[v, y])) : Sem Next).run P w) E := by
  unfold appMut at hx
  obtain ⟨⟨hee, hzk, hk0, hby, hco, hle, hbound, hac⟩, hx1⟩ := tst_eq hx
  clear hx
  subst hee hzk hco
  cases hx1
  obtain ⟨inf, zz, g1, g2, g3, g4⟩ := szz_spec hk
  have hbi : inf.bytes = by_ := by simpa [bytes, g1] using hb
  obtain ⟨v0, hv, h1, hsz, g, cur, h3, h4, h5, h6, h7, h8, h9⟩ := hm.blk _ _ hi
  obtain ⟨A, c, news, rfl, n1, n2, n3⟩ := ecells_sound hm hy hk0 hys
  cases h with
  | @sv _ _ _ g' n' c' c'' A' hq hl hmx ha h0 =>
    obtain ⟨rfl, rfl⟩ := h0 rfl
    rw [hv] at hq; cases hq
    cases h3
    obtain ⟨hcz, hcm⟩ : cur.size = c'' * z ∧ c'' ≤ maxLen := by
      rcases h9 with h9 | ⟨a, b, h9, h10, h11⟩
      · cases h9
      · cases h9; exact ⟨h10, h11⟩
    have hown : w.ownsRow 0 e' z (.slice (some ⟨g', 0, none⟩) len c'') len (cur.toList.take (len * z)) :=
      ⟨by rw [List.length_take, Array.length_toList]; omega, .inr ⟨g', c'', cur, rfl, Nat.zero_le _, h4, hl, hcm, hcz, rfl⟩⟩
    obtain ⟨v1, w1, hrun, hown1, halt⟩ := run_append_tl (P := P) w t ty e' inf zz (und_of_elT ht) g1 g2 g3 (by omega) (.slice (some ⟨g', 0, none⟩) len c'') len (cur.toList.take (len * z)) (by rw [g4]; exact hown) A nn c news (by rw [g4]; exact n2) n3 (n1.ones hm.ok hac) (by rw [hbi]; exact hbound) (le_maxLen_of hby hbound)
    rw [g4] at hown1
    have hr : ((do pure (.value (← Builtin.append_ #[t, t] ty #[.slice (some ⟨g', 0, none⟩) len c'', .slice A nn c])) : Sem Next).run P w) = .ok (.value v1) w1 := by simp only [Sem.run_bind, hrun, Result.andThen_ok, Sem.run_pure]
    have hφn : φ n = none := hm.fresh n (Nat.le_refl _)
    have h1c : v1.oneCell' = true := by rcases hown1.2 with ⟨rfl, _⟩ | ⟨_, _, _, rfl, _⟩ <;> rfl
    have ext : Ext φ (updP φ n v1) := ext_updP v1 hφn
    have ok' : PhiOk (updP φ n v1) := fun j u hu => by
      by_cases hj : j = n
      · subst hj; rw [updP_same] at hu; cases hu; exact h1c
      · rw [updP_ne _ _ hj] at hu; exact hm.ok j u hu
    have fr' : ∀ j, n + 1 ≤ j → updP φ n v1 j = none := fun j hj => by rw [updP_ne _ _ (by omega)]; exact hm.fresh j (by omega)
    have hltake : (cs.take (len * z)).length = len * z := by rw [List.length_take]; omega
    have hyl : ys.length = nn * z := by rw [n1.length, n2]
    have hcsl : (cs.take (len * z) ++ ys).length = (len + nn) * z := by rw [List.length_append, hltake, hyl, Nat.add_mul]
    have hall : allC (cs.take (len * z) ++ ys) := fun q hq => by
      rcases List.mem_append.1 hq with hq | hq
      · exact h7 q (List.mem_of_mem_take hq)
      · exact hac q hq
    have holdT : RepTs φ Z w (cs.take (len * z)) (cur.toList.take (len * z)) := by
      have := h6.take (len * z)
      rwa [List.take_take, Nat.min_eq_left (by omega)] at this
    -- the block stays
    have stay : ∀ (cur' : Array Value) (c1 : Nat), w1.heap[g']? = some (.cells cur' e' (0, 0)) → cur'.toList.take ((len + nn) * z) = cur.toList.take (len * z) ++ news → v1 = .slice (some ⟨g', 0, none⟩) (len + nn) c'' → len + nn ≤ c'' → cur'.size = cur.size → KeepZ Z w w1 → w1.os = w.os → w1.tape = w.tape → w1.output = w.output → w1.heap.size = w.heap.size → (∀ k, k ≠ g' → w1.heap[k]? = w.heap[k]?) →
        Done P φ Z m (n + 1) w ((do pure (.value (← Builtin.append_ #[t, t] ty #[.slice (some ⟨g', 0, none⟩) len c'', .slice A nn c])) : Sem Next).run P w) ⟨.sv n 0 (len + nn), [(i, none), (n, some (.box e' z (cs.take (len * z) ++ ys)))]⟩ := by
      intro cur' c1 hcur' htk hv1 hcap hcs hkeep hos htape hout hsize hheap
      have key := hm.succ.change (i0 := i) (j0 := n) (g := g') (Z' := Z) (m' := updM (updM m i none) n (some (.box e' z (cs.take (len * z) ++ ys)))) hi rfl hv rfl ext ok' fr' (fun _ _ h => h) (fun _ _ h => .inl h) hkeep hos htape hout hsize hheap (fun j b hj => by
        by_cases hjn : j = n
        · subst hjn
          rw [updM_same] at hj; cases hj
          have hsp : (len + nn) * z ≤ c'' * z := Nat.mul_le_mul_right _ hcap
          refine .inr ⟨v1, updP_same _ _ _, boxUpd (g := g') (cur := cur') (n' := len + nn) (c := c'') h1 hsz (by rw [hv1]; rfl) hcur' (by rw [hcsl, hcs, hcz]; exact hsp) ?_ hall h8 hv1 (by rw [hcs, hcz]) hcm, .inr ⟨by rw [hv1]; rfl, rfl⟩⟩
          rw [hcsl, htk]
          exact (holdT.append n1).mono ext (fun _ _ h => h) hkeep
        · rw [updM_ne _ _ hjn] at hj
          by_cases hji : j = i
          · subst hji; rw [updM_same] at hj; cases hj
          · rw [updM_ne _ _ hji] at hj; exact .inl ⟨hj, hji⟩)
      refine ⟨v1, w1, _, Z, .inl hr, key.1, ?_, key.2⟩
      rw [hv1]
      exact .sv (by rw [updP_same]) hcap hcm (fun _ => rfl) fun _ => ⟨rfl, rfl⟩
    rcases halt with ⟨h0, rfl, rfl⟩ | ⟨q, cur0, cap, cur', hq, rfl, hh, rfl, hcs⟩ | ⟨cap, cur', rfl, rfl, hcap, hcm1, hcs, htk⟩
    · subst h0
      obtain rfl : news = [] := List.eq_nil_of_length_eq_zero (by simpa using n2)
      exact stay cur 0 h4 (by simp) rfl hl rfl (keep_refl _ _) rfl rfl rfl rfl fun _ _ => rfl
    · cases hq
      rw [h4] at hh; cases hh
      have hcur' := setRow_heap w g' cur cur' e' _ h4
      rcases hown1.2 with ⟨hq, _⟩ | ⟨q, cap, cur2, hq, _, hh2, hcap2, _, _, htk2⟩
      · cases hq
      · cases hq
        rw [hcur'] at hh2; cases hh2
        exact stay _ 0 hcur' htk2 rfl hcap2 hcs (keepZ_of_heap fun k o hz => setRow_other w g' k cur' (by rintro rfl; exact h8 o hz)) rfl rfl rfl (by simp) fun k hk => setRow_other w g' k cur' hk
    · have key := hm.succ.quiet (φ' := φ) (m' := updM m i none) (fun _ _ h => h) hm.ok hm.succ.fresh (fun j b hj => by
        by_cases hji : j = i
        · subst hji; rw [updM_same] at hj; cases hj
        · rw [updM_ne _ _ hji] at hj; exact .inl hj)
      have hts : RepTs φ Z w.drew (cs.take (len * z) ++ ys) (cur'.toList.take (cs.take (len * z) ++ ys).length) := by
        rw [hcsl, ← g4, htk]
        rw [g4]
        exact RepTs.mono (φ := φ) (φ' := φ) (Z := Z) (Z' := Z) (w := w) (w' := w.drew) (fun _ _ h => h) (fun _ _ h => h) (fun _ _ _ => rfl) (holdT.append n1)
      have hsp : (len + nn) * z ≤ cap * z := Nat.mul_le_mul_right _ hcap
      obtain ⟨q1, q2⟩ := key.1.drew.allocMut (id := n) (by omega) hφn (e := e') (z := z) (cs := cs.take (len * z) ++ ys) (cur := cur') (v := .slice (some ⟨w.heap.size, 0, none⟩) (len + nn) cap) h1 hsz (by rw [hcsl, hcs, g4]; exact hsp) hts hall
        (.inr ⟨_, _, rfl, by rw [hcs, g4], hcm1⟩)
      exact ⟨_, _, _, _, .inl hr, q1, .sv (updP_same _ _ _) hcap hcm1 (fun _ => rfl) (fun _ => ⟨rfl, rfl⟩), (key.2.trans (Step.drew _ _ _ _)).trans q2⟩

theorem appNilMut_sound (hm : RelM P φ Z m n w) {t ty e k by_ nn : Nat} {ys : List T} {y : Value} {yt : T} {E : Eff} (ht : elT P t = some e) (hk : szz P e = some k) (hb : bytes P e = some by_)
    (hy : RepT φ Z w yt y) (hys : ecells m k yt = some (nn, ys)) (hx : appNilMut e k by_ n nn ys = some E) :
    Done P φ Z m (n + 1) w ((do pure (.value (← Builtin.append_ #[t, t] ty #[.slice none 0 0, y])) : Sem Next).run P w) E := by
  unfold appNilMut at hx
  obtain ⟨⟨hk0, hby, hnn, hbound, hac⟩, hx⟩ := tst_eq hx
  cases hx
  obtain ⟨inf, zz, g1, g2, g3, g4⟩ := szz_spec hk
  have hbi : inf.bytes = by_ := by simpa [bytes, g1] using hb
  have hsz : sz P e = some k := by simp [sz, g1, g4]
  obtain ⟨A, c, news, rfl, n1, n2, n3⟩ := ecells_sound hm hy hk0 hys
  obtain ⟨v1, w1, hrun, hown, halt⟩ := run_append_tl (P := P) w t ty e inf zz (und_of_elT ht) g1 g2 g3 (by omega) (.slice none 0 0) 0 [] (World.ownsRow_nil _ _ _ _) A nn c news (by rw [g4]; exact n2) n3 (n1.ones hm.ok hac) (by rw [hbi, Nat.zero_add]; exact hbound) (by rw [Nat.zero_add]; exact le_maxLen_of hby hbound)
  have hr : ((do pure (.value (← Builtin.append_ #[t, t] ty #[.slice none 0 0, .slice A nn c])) : Sem Next).run P w) = .ok (.value v1) w1 := by simp only [Sem.run_bind, hrun, Result.andThen_ok, Sem.run_pure]
  have hφn : φ n = none := hm.fresh n (Nat.le_refl _)
  simp only [Nat.zero_add, List.nil_append] at halt
  rcases halt with ⟨h0, _, _⟩ | ⟨g, cur, cap, cur', h, _⟩ | ⟨cap, cur', rfl, rfl, hcap, hcm, hcs, htk⟩
  · omega
  · cases h
  · have hyl : ys.length = nn * k := by rw [n1.length, n2]
    have hts : RepTs φ Z w.drew ys (cur'.toList.take ys.length) := by
      rw [hyl, ← g4, htk]
      exact RepTs.mono (φ := φ) (φ' := φ) (Z := Z) (Z' := Z) (w := w) (w' := w.drew) (fun _ _ h => h) (fun _ _ h => h) (fun _ _ _ => rfl) n1
    have hsp : nn * k ≤ cap * k := Nat.mul_le_mul_right _ hcap
    obtain ⟨q1, q2⟩ := hm.succ.drew.allocMut (id := n) (by omega) hφn (e := e) (z := k) (cs := ys) (cur := cur') (v := .slice (some ⟨w.heap.size, 0, none⟩) nn cap) hk0 hsz (by rw [hyl, hcs, g4]; exact hsp) hts hac (.inr ⟨_, _, rfl, by rw [hcs, g4], hcm⟩)
    exact ⟨_, _, _, _, .inl hr, q1, .sv (updP_same _ _ _) hcap hcm (fun _ => rfl) (fun _ => ⟨rfl, rfl⟩), (Step.drew _ _ _ _).trans q2⟩

theorem evAppend_sound (hm : RelM P φ Z m n w) {t ty : Nat} {x y : T} {u v : Value} {mu : Bool} {E : Eff} (h : RepT φ Z w x u) (hy : RepT φ Z w y v) (hx : evAppend P mu t m n y x = some E) :
    Done P φ Z m (n + 1) w ((do pure (.value (← Builtin.append_ #[t, t] ty #[u, v])) : Sem Next).run P w) E := by
  unfold evAppend at hx
  split at hx
  · obtain ⟨e, he, hx⟩ := obind_eq hx
    obtain ⟨k, hk, hx⟩ := obind_eq hx
    obtain ⟨by_, hb, hx⟩ := obind_eq hx
    split at hx
    · rename_i hi
      obtain ⟨⟨nn, ys⟩, hp, hx⟩ := obind_eq hx
      exact appMut_sound hm he hk hb hi h hy hp hx
    · cases hx
  · obtain ⟨e, he, hx⟩ := obind_eq hx
    obtain ⟨k, hk, hx⟩ := obind_eq hx
    obtain ⟨by_, hb, hx⟩ := obind_eq hx
    split at hx
    · rename_i hi
      obtain ⟨ys, hp, hx⟩ := obind_eq hx
      cases h with
      | loc h => exact appArr_sound hm he hk hb hi h (elems_rep hm hy hp) hx
    · cases hx
  · obtain ⟨e, he, hx⟩ := obind_eq hx
    obtain ⟨k, hk, hx⟩ := obind_eq hx
    obtain ⟨by_, hb, hx⟩ := obind_eq hx
    cases h
    split at hx
    · obtain ⟨⟨nn, ys⟩, hp, hx⟩ := obind_eq hx
      exact appNilMut_sound hm he hk hb hy hp hx
    · obtain ⟨ys, hp, hx⟩ := obind_eq hx
      exact appNil_sound hm he hk hb (elems_rep hm hy hp) hx
  · cases hx
end
end TL

/- TL, part 16: every operation. -/
set_option linter.unusedVariables false
set_option linter.unusedSimpArgs false
namespace TL
open Go Go.RowKit

section
variable {P : Program} {φ φ' : Phi} {Z Z' : Zs} {m m' : Mem} {n : Nat} {w : World}

theorem Done.val {s : Sem Value} {x : T} {v : Value} (hm : RelM P φ Z m n w) (hr : s.run P w = .ok v w) (hx : RepT φ Z w x v) : Done P φ Z m n w ((do pure (.value (← s)) : Sem Next).run P w) ⟨x, []⟩ :=
  Done.same hm (by simp only [Sem.run_bind, hr, Result.andThen_ok, Sem.run_pure]) hx

theorem Done.up {r : Result Next} {E : Eff} (h : Done P φ Z m (n + 1) w r E) (hu : E.us ≠ []) : Done P φ Z m (bump n E.us) w r E := by
  cases hE : E.us with
  | nil => exact absurd hE hu
  | cons x xs => exact h
theorem us_alloc {t : Nat} {E : Eff} (hx : evAlloc P t n = some E) : E.us ≠ [] := by
  unfold evAlloc at hx
  obtain ⟨zs, _, hx⟩ := obind_eq hx
  obtain ⟨k, _, hx⟩ := obind_eq hx
  obtain ⟨_, hx⟩ := tst_eq hx
  cases hx; simp
theorem us_box {t : Nat} {x : T} {E : Eff} (hx : evBox P t n x = some E) : E.us ≠ [] := by
  unfold evBox at hx
  obtain ⟨k, _, hx⟩ := obind_eq hx
  obtain ⟨_, hx⟩ := tst_eq hx
  cases hx; simp
theorem us_buildSlice {t len : Nat} {parts : List (Nat × T)} {mu : Bool} {E : Eff} (hx : evBuildSlice P mu t m n len parts = some E) : E.us ≠ [] := by
  unfold evBuildSlice at hx
  obtain ⟨e, _, hx⟩ := obind_eq hx
  obtain ⟨xs, _, hx⟩ := obind_eq hx
  obtain ⟨_, hx⟩ := tst_eq hx
  unfold newRow at hx
  obtain ⟨k, _, hx⟩ := obind_eq hx
  obtain ⟨_, hx⟩ := tst_eq hx
  split at hx
  · obtain ⟨_, hx⟩ := tst_eq hx; cases hx; simp
  · obtain ⟨vs, _, hx⟩ := obind_eq hx
    obtain ⟨_, hx⟩ := tst_eq hx; cases hx; simp
theorem us_make {t : Nat} {l c : T} {E : Eff} (hx : evMake P t n l c = some E) : E.us ≠ [] := by
  unfold evMake at hx
  split at hx
  · obtain ⟨e, _, hx⟩ := obind_eq hx
    obtain ⟨k, _, hx⟩ := obind_eq hx
    obtain ⟨b, _, hx⟩ := obind_eq hx
    obtain ⟨z, _, hx⟩ := obind_eq hx
    obtain ⟨_, hx⟩ := tst_eq hx
    cases hx; simp
  · cases hx
theorem us_append {t : Nat} {x y : T} {mu : Bool} {E : Eff} (hx : evAppend P mu t m n y x = some E) : E.us ≠ [] := by
  unfold evAppend at hx
  split at hx
  · obtain ⟨e, _, hx⟩ := obind_eq hx
    obtain ⟨k, _, hx⟩ := obind_eq hx
    obtain ⟨b, _, hx⟩ := obind_eq hx
    split at hx
    · obtain ⟨p, _, hx⟩ := obind_eq hx
      unfold appMut at hx
      obtain ⟨_, hx⟩ := tst_eq hx
      cases hx; simp
    · cases hx
  · obtain ⟨e, _, hx⟩ := obind_eq hx
    obtain ⟨k, _, hx⟩ := obind_eq hx
    obtain ⟨b, _, hx⟩ := obind_eq hx
    split at hx
    · obtain ⟨p, _, hx⟩ := obind_eq hx
      unfold appArr at hx
      obtain ⟨_, hx⟩ := tst_eq hx
      cases hx; simp
    · cases hx
  · obtain ⟨e, _, hx⟩ := obind_eq hx
    obtain ⟨k, _, hx⟩ := obind_eq hx
    obtain ⟨b, _, hx⟩ := obind_eq hx
    split at hx
    · obtain ⟨p, _, hx⟩ := obind_eq hx
      unfold appNilMut at hx
      obtain ⟨_, hx⟩ := tst_eq hx
      cases hx; simp
    · obtain ⟨p, _, hx⟩ := obind_eq hx
      unfold appNil at hx
      obtain ⟨_, hx⟩ := tst_eq hx
      cases hx; simp
  · cases hx

theorem RepTs.of {ρ : Operand → T} {ev : Operand → Value} (h : ∀ o, RepT φ Z w (ρ o) (ev o)) : ∀ l : List Operand, RepTs φ Z w (l.map ρ) (l.map ev)
  | [] => .nil
  | p :: l => .cons (h _) (RepTs.of h l)

theorem evLen_sound (hm : RelM P φ Z m n w) {ts : Array TypeId} {t ty : Nat} {l : List Nat} {x : T} {u : Value} {E : Eff} (hts : ts.toList = t :: l) (h : RepT φ Z w x u) (hx : evLen P t m x = some E) :
    Done P φ Z m (bump n E.us) w ((do pure (.value (← Builtin.len_ ts ty #[u])) : Sem Next).run P w) E := by
  have h0 : ts[0]? = some t := by rw [← Array.getElem?_toList, hts]; rfl
  have general : (obind (elT P t) fun _ => obind (slLen m x) fun n => some (⟨.v (.int .i64 n), []⟩ : Eff)) = some E → Done P φ Z m (bump n E.us) w ((do pure (.value (← Builtin.len_ ts ty #[u])) : Sem Next).run P w) E := by
    intro hx
    obtain ⟨e, he, hx⟩ := obind_eq hx
    obtain ⟨k, hk, hx⟩ := obind_eq hx
    cases hx
    have hu : ∃ A c, u = .slice A k c := by
      unfold slLen at hk
      split at hk
      · cases hk; cases h; exact ⟨_, _, rfl⟩
      · simp only [Option.map_eq_some_iff] at hk
        obtain ⟨xs, hxs, rfl⟩ := hk
        have hr := elems_rep hm h hxs
        cases hr with
        | nil A c => exact ⟨_, _, rfl⟩
        | sl h hn => exact ⟨_, _, by rw [hn]⟩
    obtain ⟨A, c, rfl⟩ := hu
    refine Done.val hm (v := .int .i64 k) ?_ (rep_int _ _)
    simp [Builtin.len_, h0, run_underlying (und_of_elT he), goInt]
  unfold evLen at hx
  split at hx
  · obtain ⟨s, rfl, rfl⟩ := str_rep h
    obtain ⟨h1, hx⟩ := tst_eq hx
    cases hx
    refine Done.val hm (v := .int .i64 s.size) ?_ (rep_int _ _)
    simp [Builtin.len_, h0, run_underlying (und_of_isStr h1), goInt]
  · exact general hx

theorem evBuiltin_sound (hm : RelM P φ Z m n w) {b : Builtin} {ts : Array TypeId} {ty : Nat} {cs : Array Bool} {xs : List T} {us : List Value} {mu : Bool} {E : Eff} (h : RepTs φ Z w xs us) (hx : evBuiltin P mu b ts.toList m n xs = some E) :
    Done P φ Z m (bump n E.us) w ((Go.builtin b ts ty cs us.toArray).run P w) E := by
  unfold evBuiltin at hx
  split at hx
  · cases h with | cons h t => cases t with | nil =>
    split at hx
    · rename_i hts
      exact evLen_sound hm hts h hx
    · cases hx
  · cases h with | cons h t => cases t with | cons g t => cases t with | nil =>
    split at hx
    · rename_i t t' hts
      obtain ⟨htt, hx1⟩ := tst_eq hx
      subst htt
      have : ts = #[t, t] := by apply Array.ext'; simpa using hts
      subst this
      exact (evAppend_sound hm h g hx1).up (us_append hx1)
    · cases hx
  · cases h with | cons h t => cases t with | cons g t => cases t with | nil =>
    obtain rfl := int_rep h; obtain rfl := int_rep g
    rename_i a b
    cases hx
    refine Done.val hm (v := .int .i64 (max a b)) ?_ (rep_int _ _)
    simp only [Builtin.max_, List.foldlM_cons, List.foldlM_nil, Builtin.max2, Sem.run_bind, Sem.run_pure, Result.andThen_ok]
    congr 2; rw [Int.max_def]; split <;> split <;> omega
  · cases h with | cons h t => cases t with | cons g t => cases t with | nil =>
    obtain rfl := int_rep h; obtain rfl := int_rep g
    rename_i a b
    cases hx
    refine Done.val hm (v := .int .i64 (min a b)) ?_ (rep_int _ _)
    simp only [Builtin.min_, List.foldlM_cons, List.foldlM_nil, Builtin.min2, Sem.run_bind, Sem.run_pure, Result.andThen_ok]
    congr 2; rw [Int.min_def]; split <;> split <;> omega
  · cases hx

theorem opF_sound (hm : RelM P φ Z m n w) {mu : Bool} {ρ : Operand → T} {ev : Operand → Value} (hρ : ∀ o, RepT φ Z w (ρ o) (ev o)) (o : Oper) {E : Eff} (hx : opF P mu ρ m n o.op = some E) :
    Done P φ Z m (bump n E.us) w ((execOp ev o).run P w) E := by
  obtain ⟨dst, op, ty, pos, af, gd⟩ := o
  simp only at hx
  unfold execOp
  cases op with
  | move x => simp only [opF] at hx; cases hx; exact Done.same hm (by simp) (hρ x)
  | assign x => simp only [opF] at hx; cases hx; exact Done.same hm (by simp) (hρ x)
  | pick c a b =>
    simp only [opF] at hx
    obtain ⟨q, hq, hx⟩ := obind_eq hx; cases hx
    have := boolOf_rep (hρ c) hq
    cases q
    · exact Done.same hm (v := ev b) (by simp [this, asBool]) (hρ b)
    · exact Done.same hm (v := ev a) (by simp [this, asBool]) (hρ a)
  | alloc t => exact (evAlloc_sound hm hx).up (us_alloc hx)
  | box t x => exact (evBox_sound hm (hρ x) hx).up (us_box hx)
  | build t parts =>
    simp only [opF] at hx
    obtain ⟨x, h, hx⟩ := obind_eq hx; cases hx
    obtain ⟨v, h1, h2⟩ := evBuild_sound hm (RepPs.of hρ parts.toList) h
    refine Done.val hm (v := v) ?_ h2
    rw [← h1]; congr 2; apply Array.ext'; simp
  | buildSlice t len parts =>
    simp only [opF] at hx
    have h1 := evBuildSlice_sound hm (RepPs.of hρ parts.toList) hx
    have e : (List.map (fun p => (p.1, ev p.2)) parts.toList).toArray = (parts.map fun (i, x) => (i, ev x)) := by apply Array.ext'; simp
    rw [e] at h1; exact h1.up (us_buildSlice hx)
  | load t a =>
    simp only [opF] at hx
    obtain ⟨x, h, hx⟩ := obind_eq hx; cases hx
    obtain ⟨v, h1, h2⟩ := evLoad_sound hm (hρ a) h
    exact Done.val hm h1 h2
  | store t a x =>
    simp only [opF] at hx
    obtain ⟨u, h, hx⟩ := obind_eq hx; cases hx
    obtain ⟨w', h1, h2, h3⟩ := evStore_sound hm (hρ a) (hρ x) h
    exact ⟨undef, w', φ, Z, .inr ⟨by simp only [Sem.run_bind, h1, Result.andThen_ok, Sem.run_pure], rfl⟩, h2.succ, .v (.any _), h3⟩
  | nilCheck x =>
    simp only [opF] at hx
    obtain ⟨y, h, hx⟩ := obind_eq hx; cases hx
    obtain ⟨rfl, ad, had⟩ := evNilCheck_sound (hρ x) h
    exact Done.same hm (v := ev x) (by simp [had]) (hρ x)
  | binOp op t x y q =>
    simp only [opF] at hx
    obtain ⟨z, h, hx⟩ := obind_eq hx; cases hx
    obtain ⟨v, h1, h2⟩ := evBin_sound hm x y (hρ x) (hρ y) h
    exact Done.val hm h1 h2
  | unOp op t x =>
    cases op <;> simp only [opF] at hx <;> first | (cases hx; done) | skip
    · obtain ⟨z, h, hx⟩ := obind_eq hx; cases hx
      unfold evNeg at h
      split at h
      · rename_i k q hq
        cases h
        have hr := hρ x
        rw [hq] at hr
        have := int_rep hr
        exact Done.val hm (v := .int k (k.wrap (0 - q))) (by rw [this]; simp only [Op.unary, Op.intArith, Sem.run_pure]) (rep_int _ _)
      · cases h
    · obtain ⟨z, h, hx⟩ := obind_eq hx; cases hx
      have := boolOf_rep (hρ x) h
      exact Done.val hm (v := .bool (!z)) (by rw [this]; simp only [Op.unary, Sem.run_pure]) (rep_bool _)
  | convert src dst x =>
    simp only [opF] at hx
    obtain ⟨z, h, hx⟩ := obind_eq hx; cases hx
    obtain ⟨v, h1, h2⟩ := evConvert_sound hm (hρ x) h
    exact Done.val hm h1 h2
  | makeFunc f first cap =>
    cases f <;> simp only [opF] at hx <;> first | (cases hx; done) | skip
    rename_i q
    obtain ⟨hf, hx1⟩ := tst_eq hx
    subst hf; cases hx1
    refine Done.val hm (v := .func (.func q) #[] (cap.map ev)) (by simp [Instr.makeFunc]) ?_
    have := RepT.fn (f := q) (RepTs.of hρ cap.toList)
    rw [show cap.map ev = (cap.toList.map ev).toArray by apply Array.ext'; simp]
    exact this
  | makeSlice t l c => exact (evMake_sound hm (hρ l) (hρ c) hx).up (us_make hx)
  | slice t x lo hi mx =>
    cases mx <;> simp only [opF] at hx
    · obtain ⟨z, h, hx⟩ := obind_eq hx; cases hx
      obtain ⟨v, h1, h2⟩ := evSlice_sound hm (hρ x) (ulo := lo.map ev) (uhi := hi.map ev) (fun t ht => by
        cases lo with
        | none => cases ht
        | some q => cases ht; exact ⟨_, rfl, hρ q⟩) (fun ht => by cases lo with
        | none => rfl
        | some q => cases ht) (fun t ht => by
        cases hi with
        | none => cases ht
        | some q => cases ht; exact ⟨_, rfl, hρ q⟩) (fun ht => by cases hi with
        | none => rfl
        | some q => cases ht) h
      exact Done.val hm h1 h2
    · cases hx
  | fieldAddr t x f =>
    simp only [opF] at hx
    obtain ⟨z, h, hx⟩ := obind_eq hx; cases hx
    obtain ⟨v, h1, h2⟩ := evFieldAddr_sound (P := P) (hρ x) h
    exact Done.val hm h1 h2
  | indexAddr t x i =>
    simp only [opF] at hx
    obtain ⟨z, h, hx⟩ := obind_eq hx; cases hx
    obtain ⟨v, h1, h2⟩ := evIndexAddr_sound hm (hρ x) (hρ i) h
    exact Done.val hm h1 h2
  | index t x i =>
    simp only [opF] at hx
    obtain ⟨z, h, hx⟩ := obind_eq hx; cases hx
    obtain ⟨v, h1, h2⟩ := evIndex_sound (P := P) (hρ x) (hρ i) h
    exact Done.val hm h1 h2
  | extract x i =>
    simp only [opF] at hx
    obtain ⟨z, h, hx⟩ := obind_eq hx; cases hx
    obtain ⟨v, h1, h2⟩ := evExtract_sound (P := P) (hρ x) h
    exact Done.val hm h1 h2
  | call c =>
    obtain ⟨callee, args, ats⟩ := c
    cases callee with
    | builtin b =>
      simp only [opF] at hx
      have h := RepTs.of hρ args.toList
      have h1 := evBuiltin_sound (ty := ty) (cs := args.map fun | .const _ => true | _ => false) hm h hx
      simp only [resolve, Sem.run_bind, Sem.run_pure, Result.andThen_ok, invoke]
      rw [show args.map ev = (args.toList.map ev).toArray by apply Array.ext'; simp]
      exact h1
    | _ => cases hx
  | _ => cases hx
end
end TL
