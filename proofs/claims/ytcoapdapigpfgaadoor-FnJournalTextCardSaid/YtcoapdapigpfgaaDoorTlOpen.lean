/- TL, part 21: what the reading of an argument says: the pure value that it is. -/
import Derived.Test.YtcoapdapigpfgaaDoorTlFn
import Derived.ChangeArms
import Derived.WideShapes
set_option linter.unusedVariables false
set_option linter.unusedSimpArgs false
namespace TL
open Go Go.RowKit
/-- All that lies in memory. -/
def ZA (w : World) : Zs := fun k _ => k < w.heap.size
/-- Whatever is read at a type is a row of pure cells of a kind. -/
def Opens (P : Program) (w : World) (t : TypeId) (R : List V → Prop) : Prop :=
  ∀ (H : Type) (enc : TypeId × Value → H) (base : Nat) (sp : Nat → Bool) (held : Bool) (fuel : Nat) (cs : List Value) (x : DataW H × List MemPlace), DataW.trod enc P w base sp held fuel t cs = some x → ∃ vs, RepCs (ZA w) w vs cs ∧ R vs
section
variable {P : Program} {w : World} {t : TypeId}
theorem RepCs.append {Z : Zs} {a b : List V} {us vs : List Value} (h : RepCs Z w a us) (g : RepCs Z w b vs) : RepCs Z w (a ++ b) (us ++ vs) := by
  induction a generalizing us with
  | nil => cases h; exact g
  | cons x xs ih => cases h with | cons hc h t => exact .cons hc h (ih t)
theorem Opens.mono {R R' : List V → Prop} (h : Opens P w t R) (hr : ∀ vs, R vs → R' vs) : Opens P w t R' := fun H enc base sp held fuel cs x hx => by
  obtain ⟨vs, h1, h2⟩ := h H enc base sp held fuel cs x hx
  exact ⟨vs, h1, hr vs h2⟩
theorem opens_int {k : IntKind} (ht : P.underlying t = some (.int k)) : Opens P w t fun vs => ∃ n, vs = [.int k n] ∧ (Lit.int k n).wf = true := fun H enc base sp held fuel cs x hx => by
  obtain ⟨n, rfl, _, hw⟩ := DataW.trod_int ht hx
  exact ⟨_, .cons rfl (.int _ _) .nil, n, rfl, hw⟩
theorem opens_bool (ht : P.underlying t = some .bool) : Opens P w t fun vs => ∃ b, vs = [.bool b] := fun H enc base sp held fuel cs x hx => by
  obtain ⟨b, rfl, _⟩ := DataW.trod_bool ht hx
  exact ⟨_, .cons rfl (.bool _) .nil, b, rfl⟩
theorem opens_string (ht : P.underlying t = some .string) : Opens P w t fun vs => ∃ s : List UInt8, vs = [.str s] ∧ s.length ≤ maxLen := fun H enc base sp held fuel cs x hx => by
  obtain ⟨s, rfl, _, hs⟩ := DataW.trod_string ht hx
  exact ⟨_, .cons rfl (.str rfl) .nil, _, rfl, by simpa using hs⟩
theorem opens_slice {e : TypeId} {z : Nat} {α : Type} {v : α → V} {Q : α → Prop} (ht : P.underlying t = some (.slice e)) (hc : P.cellsOf e = z) (hz : 0 < z)
    (ho : Opens P w e fun vs => ∃ a, Q a ∧ (v a = .agg vs ∨ (z = 1 ∧ vs = [v a]))) : Opens P w t fun vs => ∃ l : List α, vs = [.sl (l.map v)] ∧ l.length ≤ maxLen ∧ ∀ a ∈ l, Q a := fun H enc base sp held fuel cs x hx => by
  rcases DataW.trod_slice ht hx with ⟨rfl, _⟩ | ⟨a, len, cap, elems, rest, n, _, rfl, rfl, hb, hl, hm, hlen, hel, _⟩
  · exact ⟨_, .cons rfl (.nil _ _) .nil, [], rfl, by simp, by simp⟩
  · have key : ∀ m k, k + m = len → ∃ (l : List α) (us : List Value), l.length = m ∧ RepEs (ZA w) w z (l.map v) us ∧ (∀ a ∈ l, Q a) ∧ ∀ i u, us[i]? = some u → w.cell? (a.add (k * z + i)) = some u := by
      intro m
      induction m with
      | zero => intro k _; exact ⟨[], [], rfl, .nil z, by simp, by simp⟩
      | succ m ih =>
        intro k hk
        obtain ⟨l, us, h1, h2, h3, h4⟩ := ih (k + 1) (by omega)
        have he := hel k (by omega)
        have : k < elems.length := by omega
        rw [List.getElem?_eq_getElem this, Option.bind_eq_some_iff] at he
        obtain ⟨ci, hci, htr⟩ := he
        obtain ⟨_, hcl, hcell⟩ := World.cells?_some hci
        obtain ⟨vs, hrep, y, hQ, hv⟩ := ho H enc base sp held n ci _ htr
        have hlz : ci.length = z := by rw [hcl, hc]
        refine ⟨y :: l, ci ++ us, by simp [h1], ?_, ?_, ?_⟩
        · rcases hv with hv | ⟨rfl, rfl⟩
          · show RepEs (ZA w) w z (v y :: l.map v) (ci ++ us)
            rw [hv]; exact .agg hrep hlz h2
          · cases hrep with | cons hcc hx' t => cases t; exact .one hcc hx' h2
        · intro b hb; rcases List.mem_cons.1 hb with rfl | hb
          · exact hQ
          · exact h3 b hb
        · intro i u hu
          by_cases hi : i < z
          · rw [List.getElem?_append_left (by omega)] at hu
            have := hcell i (by omega)
            rw [hc, add_add, hu] at this
            exact this
          · rw [List.getElem?_append_right (by omega)] at hu
            have := h4 _ u hu
            rw [hlz, show (k + 1) * z + (i - z) = k * z + i by rw [Nat.succ_mul]; omega] at this
            exact this
    obtain ⟨l, us, h1, h2, h3, h4⟩ := key len 0 (by omega)
    refine ⟨_, .cons rfl (.sl h2 (by simp [h1]) hl hm fun i u hu => ?_) .nil, l, rfl, by omega, h3⟩
    have := h4 i u hu
    rw [Nat.zero_mul, Nat.zero_add] at this
    exact ⟨this, World.block_lt_of_cell? w _ this⟩
theorem opens_struct2 {f0 f1 : Field} {R0 R1 : List V → Prop} (ht : P.underlying t = some (.struct #[f0, f1])) (o0 : f0.offset = 0) (o1 : f1.offset = P.cellsOf f0.type) (hz : P.cellsOf t = P.cellsOf f0.type + P.cellsOf f1.type)
    (h0 : Opens P w f0.type R0) (h1 : Opens P w f1.type R1) : Opens P w t fun vs => ∃ v0 v1, vs = v0 ++ v1 ∧ R0 v0 ∧ R1 v1 := fun H enc base sp held fuel cs x hx => by
  obtain ⟨xs, n, _, _, hcl, hxl, hf⟩ := DataW.trod_struct ht hx
  have e0 := hf 0 f0 rfl
  have e1 := hf 1 f1 rfl
  have hxl : xs.length = 2 := hxl
  rw [List.getElem?_eq_getElem (by omega)] at e0 e1
  obtain ⟨v0, r0, q0⟩ := h0 H enc base sp held n _ _ e0
  obtain ⟨v1, r1, q1⟩ := h1 H enc base sp held n _ _ e1
  refine ⟨v0 ++ v1, ?_, v0, v1, rfl, q0, q1⟩
  have := r0.append r1
  rw [o0, o1, List.drop_zero, List.take_of_length_le (l := cs.drop _) (by simp; omega), List.take_append_drop] at this
  exact this
theorem opens_struct3 {f0 f1 f2 : Field} {R0 R1 R2 : List V → Prop} (ht : P.underlying t = some (.struct #[f0, f1, f2])) (o0 : f0.offset = 0) (o1 : f1.offset = P.cellsOf f0.type) (o2 : f2.offset = P.cellsOf f0.type + P.cellsOf f1.type)
    (hz : P.cellsOf t = P.cellsOf f0.type + P.cellsOf f1.type + P.cellsOf f2.type)
    (h0 : Opens P w f0.type R0) (h1 : Opens P w f1.type R1) (h2 : Opens P w f2.type R2) : Opens P w t fun vs => ∃ v0 v1 v2, vs = v0 ++ v1 ++ v2 ∧ R0 v0 ∧ R1 v1 ∧ R2 v2 := fun H enc base sp held fuel cs x hx => by
  obtain ⟨xs, n, _, _, hcl, hxl, hf⟩ := DataW.trod_struct ht hx
  have e0 := hf 0 f0 rfl
  have e1 := hf 1 f1 rfl
  have e2 := hf 2 f2 rfl
  have hxl : xs.length = 3 := hxl
  rw [List.getElem?_eq_getElem (by omega)] at e0 e1 e2
  obtain ⟨v0, r0, q0⟩ := h0 H enc base sp held n _ _ e0
  obtain ⟨v1, r1, q1⟩ := h1 H enc base sp held n _ _ e1
  obtain ⟨v2, r2, q2⟩ := h2 H enc base sp held n _ _ e2
  refine ⟨v0 ++ v1 ++ v2, ?_, v0, v1, v2, rfl, q0, q1, q2⟩
  have := (r0.append r1).append r2
  rw [o0, o1, o2, List.drop_zero, List.take_of_length_le (l := cs.drop (_ + _)) (by simp; omega)] at this
  have e : cs.take (P.cellsOf f0.type) ++ (cs.drop (P.cellsOf f0.type)).take (P.cellsOf f1.type) ++ cs.drop (P.cellsOf f0.type + P.cellsOf f1.type) = cs := by
    rw [List.append_assoc, ← List.drop_drop, List.take_append_drop, List.take_append_drop]
  rw [e] at this
  exact this
theorem rep_one {R : List V → Prop} {H : Type} {enc : TypeId × Value → H} {base : Nat} {sp : Nat → Bool} {held : Bool} {v : Value} {d : DataW H} {p : List MemPlace} (ho : Opens P w t R) (h : DataW.Trod enc P w base sp held t v d p) (hv : v.cells = #[v]) : ∃ x, RepV (ZA w) w x v ∧ R [x] := by
  obtain ⟨fuel, h⟩ := h
  obtain ⟨vs, h1, h2⟩ := ho H enc base sp held fuel _ _ h
  rw [hv] at h1
  cases h1 with | cons hc hx t => cases t; exact ⟨_, hx, h2⟩
theorem rep_agg {R : List V → Prop} {H : Type} {enc : TypeId × Value → H} {base : Nat} {sp : Nat → Bool} {held : Bool} {cs : Array Value} {d : DataW H} {p : List MemPlace} (ho : Opens P w t R) (h : DataW.Trod enc P w base sp held t (.agg cs) d p) : ∃ vs, RepV (ZA w) w (.agg vs) (.agg cs) ∧ R vs := by
  obtain ⟨fuel, h⟩ := h
  obtain ⟨vs, h1, h2⟩ := ho H enc base sp held fuel _ _ h
  have h1 : RepCs (ZA w) w vs cs.toList := h1
  exact ⟨vs, by have := RepV.agg h1; simpa using this, h2⟩
/-- A law's contract over pure values, for the machine. -/
theorem law_walk {f : Nat} {args : List V} {us : List Value} (law : FnZ P f args (.bool true)) (hgl : Gl P (ZA w) w) (hr : RepVs (ZA w) w args us) :
    Calls P f us.toArray w fun e w' => e = .returned (.bool true) ∧ Below w.heap.size w w' := by
  have hc := law.2 (ZA w) w us ⟨fun _ _ h => h, hgl⟩ hr
  intro c
  obtain ⟨e, w', fr, h1, h2⟩ := hc c
  refine ⟨e, w', fr, ?_, h2⟩
  obtain ⟨v, rfl, hb, hv⟩ := h1
  cases hv
  exact ⟨rfl, hb⟩
end
end TL
