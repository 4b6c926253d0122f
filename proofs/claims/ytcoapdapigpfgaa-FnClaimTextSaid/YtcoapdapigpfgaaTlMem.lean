/- TL, part 5: what allocations, stores and appends do to the relation. -/
import Derived.Test.YtcoapdapigpfgaaTlBase
namespace TL
open Go Go.RowKit

section
variable {P : Program} {φ φ' : Phi} {Z Z' : Zs} {m : Mem} {n : Nat} {w w' : World}

theorem RepTs.length {cs : List T} {us : List Value} (h : RepTs φ Z w cs us) : cs.length = us.length := by
  induction cs generalizing us with
  | nil => cases h; rfl
  | cons x xs ih => cases h with | cons h t => simp [ih t]
theorem RepVs.length {cs : List V} {us : List Value} (h : RepVs Z w cs us) : cs.length = us.length := by
  induction cs generalizing us with
  | nil => cases h; rfl
  | cons x xs ih => cases h with | cons h t => simp [ih t]
theorem RepCs.length {cs : List V} {us : List Value} (h : RepCs Z w cs us) : cs.length = us.length := by
  induction cs generalizing us with
  | nil => cases h; rfl
  | cons x xs ih => cases h with | cons hc h t => simp [ih t]
theorem RepTs.append {a b : List T} {us vs : List Value} (h : RepTs φ Z w a us) (g : RepTs φ Z w b vs) : RepTs φ Z w (a ++ b) (us ++ vs) := by
  induction a generalizing us with
  | nil => cases h; exact g
  | cons x xs ih => cases h with | cons h t => exact .cons h (ih t)
theorem RepTs.get {cs : List T} {us : List Value} (h : RepTs φ Z w cs us) : ∀ (i : Nat) (x : T), cs[i]? = some x → ∃ u, us[i]? = some u ∧ RepT φ Z w x u := by
  induction cs generalizing us with
  | nil => intro i x hx; simp at hx
  | cons y ys ih =>
    cases h with
    | cons h t =>
      intro i x hx
      cases i with
      | zero => simp at hx; subst hx; exact ⟨_, rfl, h⟩
      | succ i => exact ih t i x (by simpa using hx)
theorem RepTs.take {cs : List T} {us : List Value} (h : RepTs φ Z w cs us) (k : Nat) : RepTs φ Z w (cs.take k) (us.take k) := by
  induction cs generalizing us k with
  | nil => cases h; simpa using RepTs.nil
  | cons y ys ih =>
    cases h with
    | cons h t => cases k with
      | zero => simpa using RepTs.nil
      | succ k => exact .cons h (ih t k)
theorem RepTs.drop {cs : List T} {us : List Value} (h : RepTs φ Z w cs us) (k : Nat) : RepTs φ Z w (cs.drop k) (us.drop k) := by
  induction cs generalizing us k with
  | nil => cases h; simpa using RepTs.nil
  | cons y ys ih =>
    cases h with
    | cons h t => cases k with
      | zero => exact .cons h t
      | succ k => exact ih t k
theorem RepCs.get {cs : List V} {us : List Value} (h : RepCs Z w cs us) : ∀ (i : Nat) (x : V), cs[i]? = some x → ∃ u, us[i]? = some u ∧ RepV Z w x u := by
  induction cs generalizing us with
  | nil => intro i x hx; simp at hx
  | cons y ys ih =>
    cases h with
    | cons hc h t =>
      intro i x hx
      cases i with
      | zero => simp at hx; subst hx; exact ⟨_, rfl, h⟩
      | succ i => exact ih t i x (by simpa using hx)
theorem RepCs.take {cs : List V} {us : List Value} (h : RepCs Z w cs us) (k : Nat) : RepCs Z w (cs.take k) (us.take k) := by
  induction cs generalizing us k with
  | nil => cases h; simpa using RepCs.nil
  | cons y ys ih =>
    cases h with
    | cons hc h t => cases k with
      | zero => simpa using RepCs.nil
      | succ k => exact .cons hc h (ih t k)
theorem RepCs.drop {cs : List V} {us : List Value} (h : RepCs Z w cs us) (k : Nat) : RepCs Z w (cs.drop k) (us.drop k) := by
  induction cs generalizing us k with
  | nil => cases h; simpa using RepCs.nil
  | cons y ys ih =>
    cases h with
    | cons hc h t => cases k with
      | zero => exact .cons hc h t
      | succ k => exact ih t k
theorem RepCs.toTs {cs : List V} {us : List Value} (h : RepCs Z w cs us) : RepTs φ Z w (cs.map .v) us := by
  induction cs generalizing us with
  | nil => cases h; exact .nil
  | cons y ys ih => cases h with | cons hc h t => exact .cons (.v h) (ih t)
theorem RepCs.cells {cs : List V} {us : List Value} (h : RepCs Z w cs us) : ∀ c ∈ cs, c.cell = true := by
  induction cs generalizing us with
  | nil => intro c hc; cases hc
  | cons y ys ih =>
    cases h with
    | cons hc h t =>
      intro c hm
      rcases List.mem_cons.1 hm with rfl | hm
      · exact hc
      · exact ih t c hm

theorem RepV.one {x : V} {u : Value} (h : RepV Z w x u) (hc : x.cell = true) : u.oneCell' = true := by
  cases h <;> first | rfl | simp [V.cell] at hc
theorem RepT.one {x : T} {u : Value} (h : RepT φ Z w x u) (hc : x.cell = true) : u.oneCell' = true ∨ ∃ i, x = .loc i := by
  cases h with
  | v h => exact .inl (h.one hc)
  | loc h => exact .inr ⟨_, rfl⟩
  | agg h => simp [T.cell] at hc
  | tup h => simp [T.cell] at hc
  | _ => exact .inl rfl

theorem RepT.one' (hφ : PhiOk φ) {x : T} {u : Value} (h : RepT φ Z w x u) (hc : x.cell = true) : u.oneCell' = true := by
  rcases h.one hc with h1 | ⟨i, rfl⟩
  · exact h1
  · cases h with | loc h => exact hφ _ _ h
theorem cells_one {u : Value} (h : u.oneCell' = true) : u.cells = #[u] := by cases u <;> first | rfl | simp [Value.oneCell'] at h
theorem RepT.toCells (hφ : PhiOk φ) {x : T} {u : Value} (h : RepT φ Z w x u) (hc : allC x.cells) : RepTs φ Z w x.cells u.cells.toList := by
  cases h with
  | agg h => exact h
  | v h =>
    cases h with
    | agg h => exact h.toTs
    | tup h => exact absurd (hc _ (List.mem_singleton.2 rfl)) (by simp [T.cell, V.cell])
    | any u => exact absurd (hc _ (List.mem_singleton.2 rfl)) (by simp [T.cell, V.cell])
    | bool b => exact .cons (.v (.bool b)) .nil
    | int k n => exact .cons (.v (.int k n)) .nil
    | str h => exact .cons (.v (.str h)) .nil
    | fn h => exact .cons (.v (.fn h)) .nil
    | nil A c => exact .cons (.v (.nil A c)) .nil
    | sl h a b c d => exact .cons (.v (.sl h a b c d)) .nil
    | ref h d => exact .cons (.v (.ref h d)) .nil
  | tup h => exact absurd (hc _ (List.mem_singleton.2 rfl)) (by simp [T.cell])
  | loc h => rw [cells_one (hφ _ _ h)]; exact .cons (.loc h) .nil
  | nil => exact .cons .nil .nil
  | sv a b c d e => exact .cons (.sv a b c d e) .nil
  | ptr h => exact .cons (.ptr h) .nil
  | ptrs h => exact .cons (.ptrs h) .nil
  | fptr h d => exact .cons (.fptr h d) .nil
  | fn h => exact .cons (.fn h) .nil
theorem RepTs.ones (hφ : PhiOk φ) {cs : List T} {us : List Value} (h : RepTs φ Z w cs us) (hc : allC cs) : ∀ u ∈ us, u.oneCell' = true := by
  induction cs generalizing us with
  | nil => cases h; intro u hu; cases hu
  | cons y ys ih =>
    cases h with
    | cons h t =>
      intro u hu
      rcases List.mem_cons.1 hu with rfl | hu
      · exact h.one' hφ (hc y (by simp))
      · exact ih t (fun x hx => hc x (by simp [hx])) u hu
theorem RepCs.ones {cs : List V} {us : List Value} (h : RepCs Z w cs us) : ∀ u ∈ us, u.oneCell' = true := by
  induction cs generalizing us with
  | nil => cases h; intro u hu; cases hu
  | cons y ys ih =>
    cases h with
    | cons hc h t =>
      intro u hu
      rcases List.mem_cons.1 hu with rfl | hu
      · exact h.one hc
      · exact ih t u hu
theorem RepEs.ones {z : Nat} {xs : List V} {us : List Value} (h : RepEs Z w z xs us) : ∀ u ∈ us, u.oneCell' = true := by
  induction xs generalizing us z with
  | nil => cases h; intro u hu; cases hu
  | cons y ys ih =>
    cases h with
    | agg h hl t =>
      intro u hu
      rcases List.mem_append.1 hu with hu | hu
      · exact h.ones u hu
      · exact ih t u hu
    | one hc h t =>
      intro u hu
      rcases List.mem_cons.1 hu with rfl | hu
      · exact h.one hc
      · exact ih t u hu
theorem RepEs.length {z : Nat} {xs : List V} {us : List Value} (h : RepEs Z w z xs us) : us.length = xs.length * z := by
  induction xs generalizing us z with
  | nil => cases h; simp
  | cons y ys ih =>
    cases h with
    | agg h hl t => simp [ih t, hl, Nat.add_mul, Nat.add_comm]
    | one hc h t => simp [ih t]
theorem RepEs.append {z : Nat} {a b : List V} {us vs : List Value} (h : RepEs Z w z a us) (g : RepEs Z w z b vs) : RepEs Z w z (a ++ b) (us ++ vs) := by
  induction a generalizing us with
  | nil => cases h; exact g
  | cons x xs ih =>
    cases h with
    | agg h hl t => rw [List.append_assoc]; exact .agg h hl (ih t)
    | one hc h t => exact .one hc h (ih t)
/-- An element's cells. -/
theorem RepEs.get {z : Nat} {xs : List V} {us : List Value} (h : RepEs Z w z xs us) : ∀ (i : Nat) (x : V), xs[i]? = some x → ∃ vs, RepCs Z w x.cells vs ∧ vs.length = z ∧ ∀ j u, vs[j]? = some u → us[i * z + j]? = some u := by
  induction xs generalizing us z with
  | nil => intro i x hx; simp at hx
  | cons y ys ih =>
    intro i x hx
    cases h with
    | @agg _ cs u0 us0 _ h hl t =>
      cases i with
      | zero =>
        simp at hx; subst hx
        refine ⟨_, h, hl, fun j u hu => ?_⟩
        have hj : j < u0.length := by
          rcases Nat.lt_or_ge j u0.length with h | h
          · exact h
          · rw [List.getElem?_eq_none h] at hu; cases hu
        rw [Nat.zero_mul, Nat.zero_add, List.getElem?_append_left hj]; exact hu
      | succ i =>
        obtain ⟨vs, h1, h2, h3⟩ := ih t i x (by simpa using hx)
        refine ⟨vs, h1, h2, fun j u hu => ?_⟩
        have e : (i + 1) * z + j = u0.length + (i * z + j) := by rw [hl, Nat.add_mul]; omega
        rw [e, List.getElem?_append_right (by omega), Nat.add_sub_cancel_left]
        exact h3 j u hu
    | @one _ u0 us0 _ hc h t =>
      cases i with
      | zero =>
        simp at hx; subst hx
        have e : y.cells = [y] := by cases y <;> first | rfl | simp [V.cell] at hc
        refine ⟨[u0], by rw [e]; exact .cons hc h .nil, rfl, fun j u hu => ?_⟩
        cases j with
        | zero => simpa using hu
        | succ j => simp at hu
      | succ i =>
        obtain ⟨vs, h1, h2, h3⟩ := ih t i x (by simpa using hx)
        refine ⟨vs, h1, h2, fun j u hu => ?_⟩
        have := h3 j u hu
        simp only [Nat.mul_one] at this ⊢
        rw [show i + 1 + j = (i + j) + 1 by omega]
        simpa using this
end
end TL
