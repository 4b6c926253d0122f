/- TL: parts TlOpen, FnsN14, FnsNR9, FnsNE1, FnsNL1, FnsNE2, FnsNE4, FnsNE7, FnsNL2, FnsNE8, FnsNJ5, FnsNJ6, FnsNE9, FnsNE10, FnsNE11, FnsNJ7, FnsN16, TlOwn, TlLend, FnsNJ8, FnsNJ9, FnsN18, FnsNJA, FnsNGI. -/
import Derived.Test.YtlcgghbbjfeehabGc
import Derived.ChangeArms
import Derived.WideShapes
import Derived.Test.YtlcgghbbjfeehabGd
import Derived.KernelRfl
import Derived.Lib.ItoaNum
import Derived.Test.YtlcgghbbjfeehabShelfA
import Derived.Shelf.Strings.OnBuilder
import Derived.Shelf.Strconv.Itoa3
import Derived.Lib.Split
import Derived.Lib.SplitLaws
import Derived.Test.YtlcgghbbjfeehabShelfB
/- TL, part 21: what the reading of an argument says: the pure value that it is. -/
set_option linter.unusedVariables false
set_option linter.unusedSimpArgs false
namespace TL
open Go Go.RowKit
/-- All that lies in memory. -/
def ZA (w : World) : Zs := fun k _ => k < w.heap.size
/-- Whatever is read at a type is a row of pure cells of a kind. -/
def Opens (P : Program) (w : World) (t : TypeId) (R : List V → Prop) : Prop :=
  ∀ (H : Type) (enc : TypeId × Value → H) (base : Nat) (sp : Nat → Bool) (held : Bool) (fuel : Nat) (cs : List Value) (x : DataW H × List MemPlace), DataW.trod enc P w base sp held fuel t cs = some x → ∃ vs, RepCs (ZA w) w vs cs ∧ R vs
section
variable {P : Program} {w : World} {t : TypeId}
theorem RepCs.append {Z : Zs} {a b : List V} {us vs : List Value} (h : RepCs Z w a us) (g : RepCs Z w b vs) : RepCs Z w (a ++ b) (us ++ vs) := by
  induction a generalizing us with
  | nil => cases h; exact g
  | cons x xs ih => cases h with | cons hc h t => exact .cons hc h (ih t)
theorem Opens.mono {R R' : List V → Prop} (h : Opens P w t R) (hr : ∀ vs, R vs → R' vs) : Opens P w t R' := fun H enc base sp held fuel cs x hx => by
  obtain ⟨vs, h1, h2⟩ := h H enc base sp held fuel cs x hx
  exact ⟨vs, h1, hr vs h2⟩
theorem opens_int {k : IntKind} (ht : P.underlying t = some (.int k)) : Opens P w t fun vs => ∃ n, vs = [.int k n] ∧ (Lit.int k n).wf = true := fun H enc base sp held fuel cs x hx => by
  obtain ⟨n, rfl, _, hw⟩ := DataW.trod_int ht hx
  exact ⟨_, .cons rfl (.int _ _) .nil, n, rfl, hw⟩
theorem opens_bool (ht : P.underlying t = some .bool) : Opens P w t fun vs => ∃ b, vs = [.bool b] := fun H enc base sp held fuel cs x hx => by
  obtain ⟨b, rfl, _⟩ := DataW.trod_bool ht hx
  exact ⟨_, .cons rfl (.bool _) .nil, b, rfl⟩
theorem opens_string (ht : P.underlying t = some .string) : Opens P w t fun vs => ∃ s : List UInt8, vs = [.str s] ∧ s.length ≤ maxLen := fun H enc base sp held fuel cs x hx => by
  obtain ⟨s, rfl, _, hs⟩ := DataW.trod_string ht hx
  exact ⟨_, .cons rfl (.str rfl) .nil, _, rfl, by simpa using hs⟩
theorem opens_slice {e : TypeId} {z : Nat} {α : Type} {v : α → V} {Q : α → Prop} (ht : P.underlying t = some (.slice e)) (hc : P.cellsOf e = z) (hz : 0 < z)
    (ho : Opens P w e fun vs => ∃ a, Q a ∧ (v a = .agg vs ∨ (z = 1 ∧ vs = [v a]))) : Opens P w t fun vs => ∃ l : List α, vs = [.sl (l.map v)] ∧ l.length ≤ maxLen ∧ ∀ a ∈ l, Q a := fun H enc base sp held fuel cs x hx => by
  rcases DataW.trod_slice ht hx with ⟨rfl, _⟩ | ⟨a, len, cap, elems, rest, n, _, rfl, rfl, hb, hl, hm, hlen, hel, _⟩
  · exact ⟨_, .cons rfl (.nil _ _) .nil, [], rfl, by simp, by simp⟩
  · have key : ∀ m k, k + m = len → ∃ (l : List α) (us : List Value), l.length = m ∧ RepEs (ZA w) w z (l.map v) us ∧ (∀ a ∈ l, Q a) ∧ ∀ i u, us[i]? = some u → w.cell? (a.add (k * z + i)) = some u := by
      intro m
      induction m with
      | zero => intro k _; exact ⟨[], [], rfl, .nil z, by simp, by simp⟩
      | succ m ih =>
        intro k hk
        obtain ⟨l, us, h1, h2, h3, h4⟩ := ih (k + 1) (by omega)
        have he := hel k (by omega)
        have : k < elems.length := by omega
        rw [List.getElem?_eq_getElem this, Option.bind_eq_some_iff] at he
        obtain ⟨ci, hci, htr⟩ := he
        obtain ⟨_, hcl, hcell⟩ := World.cells?_some hci
        obtain ⟨vs, hrep, y, hQ, hv⟩ := ho H enc base sp held n ci _ htr
        have hlz : ci.length = z := by rw [hcl, hc]
        refine ⟨y :: l, ci ++ us, by simp [h1], ?_, ?_, ?_⟩
        · rcases hv with hv | ⟨rfl, rfl⟩
          · show RepEs (ZA w) w z (v y :: l.map v) (ci ++ us)
            rw [hv]; exact .agg hrep hlz h2
          · cases hrep with | cons hcc hx' t => cases t; exact .one hcc hx' h2
        · intro b hb; rcases List.mem_cons.1 hb with rfl | hb
          · exact hQ
          · exact h3 b hb
        · intro i u hu
          by_cases hi : i < z
          · rw [List.getElem?_append_left (by omega)] at hu
            have := hcell i (by omega)
            rw [hc, add_add, hu] at this
            exact this
          · rw [List.getElem?_append_right (by omega)] at hu
            have := h4 _ u hu
            rw [hlz, show (k + 1) * z + (i - z) = k * z + i by rw [Nat.succ_mul]; omega] at this
            exact this
    obtain ⟨l, us, h1, h2, h3, h4⟩ := key len 0 (by omega)
    refine ⟨_, .cons rfl (.sl h2 (by simp [h1]) hl hm fun i u hu => ?_) .nil, l, rfl, by omega, h3⟩
    have := h4 i u hu
    rw [Nat.zero_mul, Nat.zero_add] at this
    exact ⟨this, World.block_lt_of_cell? w _ this⟩
theorem opens_struct2 {f0 f1 : Field} {R0 R1 : List V → Prop} (ht : P.underlying t = some (.struct #[f0, f1])) (o0 : f0.offset = 0) (o1 : f1.offset = P.cellsOf f0.type) (hz : P.cellsOf t = P.cellsOf f0.type + P.cellsOf f1.type)
    (h0 : Opens P w f0.type R0) (h1 : Opens P w f1.type R1) : Opens P w t fun vs => ∃ v0 v1, vs = v0 ++ v1 ∧ R0 v0 ∧ R1 v1 := fun H enc base sp held fuel cs x hx => by
  obtain ⟨xs, n, _, _, hcl, hxl, hf⟩ := DataW.trod_struct ht hx
  have e0 := hf 0 f0 rfl
  have e1 := hf 1 f1 rfl
  have hxl : xs.length = 2 := hxl
  rw [List.getElem?_eq_getElem (by omega)] at e0 e1
  obtain ⟨v0, r0, q0⟩ := h0 H enc base sp held n _ _ e0
  obtain ⟨v1, r1, q1⟩ := h1 H enc base sp held n _ _ e1
  refine ⟨v0 ++ v1, ?_, v0, v1, rfl, q0, q1⟩
  have := r0.append r1
  rw [o0, o1, List.drop_zero, List.take_of_length_le (l := cs.drop _) (by simp; omega), List.take_append_drop] at this
  exact this
theorem opens_struct3 {f0 f1 f2 : Field} {R0 R1 R2 : List V → Prop} (ht : P.underlying t = some (.struct #[f0, f1, f2])) (o0 : f0.offset = 0) (o1 : f1.offset = P.cellsOf f0.type) (o2 : f2.offset = P.cellsOf f0.type + P.cellsOf f1.type)
    (hz : P.cellsOf t = P.cellsOf f0.type + P.cellsOf f1.type + P.cellsOf f2.type)
    (h0 : Opens P w f0.type R0) (h1 : Opens P w f1.type R1) (h2 : Opens P w f2.type R2) : Opens P w t fun vs => ∃ v0 v1 v2, vs = v0 ++ v1 ++ v2 ∧ R0 v0 ∧ R1 v1 ∧ R2 v2 := fun H enc base sp held fuel cs x hx => by
  obtain ⟨xs, n, _, _, hcl, hxl, hf⟩ := DataW.trod_struct ht hx
  have e0 := hf 0 f0 rfl
  have e1 := hf 1 f1 rfl
  have e2 := hf 2 f2 rfl
  have hxl : xs.length = 3 := hxl
  rw [List.getElem?_eq_getElem (by omega)] at e0 e1 e2
  obtain ⟨v0, r0, q0⟩ := h0 H enc base sp held n _ _ e0
  obtain ⟨v1, r1, q1⟩ := h1 H enc base sp held n _ _ e1
  obtain ⟨v2, r2, q2⟩ := h2 H enc base sp held n _ _ e2
  refine ⟨v0 ++ v1 ++ v2, ?_, v0, v1, v2, rfl, q0, q1, q2⟩
  have := (r0.append r1).append r2
  rw [o0, o1, o2, List.drop_zero, List.take_of_length_le (l := cs.drop (_ + _)) (by simp; omega)] at this
  have e : cs.take (P.cellsOf f0.type) ++ (cs.drop (P.cellsOf f0.type)).take (P.cellsOf f1.type) ++ cs.drop (P.cellsOf f0.type + P.cellsOf f1.type) = cs := by
    rw [List.append_assoc, ← List.drop_drop, List.take_append_drop, List.take_append_drop]
  rw [e] at this
  exact this
theorem rep_one {R : List V → Prop} {H : Type} {enc : TypeId × Value → H} {base : Nat} {sp : Nat → Bool} {held : Bool} {v : Value} {d : DataW H} {p : List MemPlace} (ho : Opens P w t R) (h : DataW.Trod enc P w base sp held t v d p) (hv : v.cells = #[v]) : ∃ x, RepV (ZA w) w x v ∧ R [x] := by
  obtain ⟨fuel, h⟩ := h
  obtain ⟨vs, h1, h2⟩ := ho H enc base sp held fuel _ _ h
  rw [hv] at h1
  cases h1 with | cons hc hx t => cases t; exact ⟨_, hx, h2⟩
theorem rep_agg {R : List V → Prop} {H : Type} {enc : TypeId × Value → H} {base : Nat} {sp : Nat → Bool} {held : Bool} {cs : Array Value} {d : DataW H} {p : List MemPlace} (ho : Opens P w t R) (h : DataW.Trod enc P w base sp held t (.agg cs) d p) : ∃ vs, RepV (ZA w) w (.agg vs) (.agg cs) ∧ R vs := by
  obtain ⟨fuel, h⟩ := h
  obtain ⟨vs, h1, h2⟩ := ho H enc base sp held fuel _ _ h
  have h1 : RepCs (ZA w) w vs cs.toList := h1
  exact ⟨vs, by have := RepV.agg h1; simpa using this, h2⟩
/-- A law's contract over pure values, for the machine. -/
theorem law_walk {f : Nat} {args : List V} {us : List Value} (law : FnZ P f args (.bool true)) (hgl : Gl P (ZA w) w) (hr : RepVs (ZA w) w args us) :
    Calls P f us.toArray w fun e w' => e = .returned (.bool true) ∧ Below w.heap.size w w' := by
  have hc := law.2 (ZA w) w us ⟨fun _ _ h => h, hgl⟩ hr
  intro c
  obtain ⟨e, w', fr, h1, h2⟩ := hc c
  refine ⟨e, w', fr, ?_, h2⟩
  obtain ⟨v, rfl, hb, hv⟩ := h1
  cases hv
  exact ⟨rfl, hb⟩
end
end TL

/- What the arguments of the exact laws are. -/
set_option linter.unusedVariables false
set_option linter.unusedSimpArgs false
namespace TL
open Go Go.Proofs
theorem fit_wf {n : Int} (h : (Lit.int .i64 n).wf = true) : fit n := by
  simp [Lit.wf, IntKind.min, IntKind.max, IntKind.signed, IntKind.bits] at h
  unfold fit; omega
theorem opens_mark (w : World) : Opens Try.prog w 71 fun vs => ∃ a : Mark, a.fit ∧ a.v = .agg vs :=
  (opens_struct2 Try.underlying71 rfl (by kernel_rfl) (by kernel_rfl) (opens_int Try.underlying3) (opens_int Try.underlying3)).mono fun vs h => by
    obtain ⟨v0, v1, rfl, ⟨n0, rfl, w0⟩, ⟨n1, rfl, w1⟩⟩ := h
    exact ⟨⟨n0, n1⟩, ⟨fit_wf w0, fit_wf w1⟩, rfl⟩
theorem opens_marks (w : World) : Opens Try.prog w 49 fun vs => ∃ l : List Mark, vs = [.sl (l.map Mark.v)] ∧ l.length ≤ maxLen ∧ ∀ a ∈ l, a.fit :=
  opens_slice Try.underlying49 (z := 2) (by kernel_rfl) (by omega) ((opens_mark w).mono fun vs h => by obtain ⟨a, h1, h2⟩ := h; exact ⟨a, h1, .inl h2⟩)
theorem opens_claim (w : World) : Opens Try.prog w 51 fun vs => ∃ a : Claim, (a.fit ∧ a.mid) ∧ a.v = .agg vs :=
  (opens_struct2 Try.underlying51 rfl (by kernel_rfl) (by kernel_rfl) (opens_int Try.underlying3) (opens_marks w)).mono fun vs h => by
    obtain ⟨v0, v1, rfl, ⟨n0, rfl, w0⟩, ⟨l, rfl, hl, hf⟩⟩ := h
    exact ⟨⟨n0, l⟩, ⟨⟨fit_wf w0, hf⟩, by simpa [Claim.mid, mid, maxLen] using hl⟩, rfl⟩
theorem opens_claims (w : World) : Opens Try.prog w 22 fun vs => ∃ l : List Claim, vs = [.sl (l.map Claim.v)] ∧ l.length ≤ maxLen ∧ ∀ a ∈ l, a.fit ∧ a.mid :=
  opens_slice Try.underlying22 (z := 2) (by kernel_rfl) (by omega) ((opens_claim w).mono fun vs h => by obtain ⟨a, h1, h2⟩ := h; exact ⟨a, h1, .inl h2⟩)
theorem opens_place (w : World) : Opens Try.prog w 24 fun vs => ∃ a : Place, (a.fit ∧ a.mid) ∧ a.v = .agg vs :=
  (opens_struct2 Try.underlying24 rfl (by kernel_rfl) (by kernel_rfl) (opens_int Try.underlying3) (opens_claims w)).mono fun vs h => by
    obtain ⟨v0, v1, rfl, ⟨n0, rfl, w0⟩, ⟨l, rfl, hl, hf⟩⟩ := h
    exact ⟨⟨n0, l⟩, ⟨⟨fit_wf w0, fun c hc => (hf c hc).1⟩, by simpa [mid, maxLen] using hl, fun c hc => (hf c hc).2⟩, rfl⟩
theorem opens_int' (w : World) : Opens Try.prog w 3 fun vs => ∃ n : Int, fit n ∧ vs = [.int .i64 n] :=
  (opens_int Try.underlying3).mono fun vs h => by obtain ⟨n, rfl, hw⟩ := h; exact ⟨n, fit_wf hw, rfl⟩
end TL

/- Claims that are read, in memory of the caller's own; the exact law of reading claims. -/
set_option linter.unusedSimpArgs false
set_option linter.unusedVariables false
set_option maxRecDepth 100000
set_option maxHeartbeats 4000000
set_option pp.maxSteps 1500
namespace TL
open Go Go.Proofs
attribute [local simp] marksV storyV codeV Claim.v Place.v
theorem mkT_flat (l : List Mark) : (l.map Mark.v).flatMap (fun x => x.cells.map T.v) = mkT l := by
  induction l with
  | nil => rfl
  | cons a l ih => rw [List.map_cons, List.flatMap_cons, ih]; rfl
theorem mkT_kind (k : Int) : ∀ (l : List Mark) (i : Nat), (h : i < l.length) → (mkT l).set (i * 2) (.v (.int .i64 k)) = mkT (l.set i ⟨k, l[i].num⟩)
  | [], i, h => by simp at h
  | a :: l, 0, h => rfl
  | a :: l, i + 1, h => by
    have e : (i + 1) * 2 = i * 2 + 1 + 1 := by omega
    rw [e]
    show T.v _ :: T.v _ :: (mkT l).set (i * 2) _ = T.v _ :: T.v _ :: mkT (l.set i _)
    rw [mkT_kind k l i (by simpa using h)]; rfl
theorem mkT_num (k : Int) : ∀ (l : List Mark) (i : Nat), (h : i < l.length) → (mkT l).set (i * 2 + 1) (.v (.int .i64 k)) = mkT (l.set i ⟨l[i].kind, k⟩)
  | [], i, h => by simp at h
  | a :: l, 0, h => rfl
  | a :: l, i + 1, h => by
    have e : (i + 1) * 2 + 1 = (i * 2 + 1) + 1 + 1 := by omega
    rw [e]
    show T.v _ :: T.v _ :: (mkT l).set (i * 2 + 1) _ = T.v _ :: T.v _ :: mkT (l.set i _)
    rw [mkT_num k l i (by simpa using h)]; rfl
/-- Marks that count on from k. -/
def cnts (k : Int) : Nat → List Mark
  | 0 => []
  | n + 1 => cnts k n ++ [⟨k + 2 * n, k + 2 * n + 1⟩]
@[simp] theorem cnts_length (k : Int) (n : Nat) : (cnts k n).length = n := by
  induction n with
  | zero => rfl
  | succ n ih => simp [cnts, ih]
theorem cnts_get (k : Int) : ∀ (n i : Nat) (h : i < n), (cnts k n)[i]? = some ⟨k + 2 * i, k + 2 * i + 1⟩
  | n + 1, i, h => by
    unfold cnts
    by_cases hi : i < n
    · rw [List.getElem?_append_left (by simpa using hi)]; exact cnts_get k n i hi
    · have : i = n := by omega
      subst this
      rw [List.getElem?_append_right (by simp)]; simp
theorem cnts_step (k : Int) (l : List Mark) (i : Nat) (h : i < l.length) (a : Int) : ((cnts k i ++ l.drop i).set i ⟨k + 2 * i, a⟩).set i ⟨k + 2 * i, k + 2 * i + 1⟩ = cnts k (i + 1) ++ l.drop (i + 1) := by
  rw [List.set_set, List.set_append_right _ _ (by simp), cnts_length, Nat.sub_self, drop_cons h, List.set_cons_zero]
  simp [cnts]
def Imk (id : Nat) (l : List Mark) (k : Int) (m0 : Mem) (n0 : Nat) (e : Nat) (s : S) : Prop := ∃ i : Nat, s.tm 0 = .sv id 0 l.length ∧ s.tm 1 = .v (.int .i64 (k + 2 * i)) ∧ s.tm 5 = .v (.int .i64 i) ∧ i ≤ l.length ∧ n0 ≤ s.n ∧ s.m = updM m0 id (some (.box 67 2 (mkT (cnts k i ++ l.drop i)))) ∧ (e = 1 → i = l.length)
theorem markMarkS_fn (l : List Mark) (k : Int) (hl : l.length ≤ 1000000000) (hk0 : 0 ≤ k) (hk : k ≤ 100000000000000) (m : Mem) (n id : Nat) (hm : m id = some (.box 67 2 (mkT l))) :
    FnS Try.prog 31 m n [.sv id 0 l.length, .v (.int .i64 k)] (fun t m' n' => t = .v (.int .i64 (k + 2 * l.length)) ∧ n ≤ n' ∧ m' = updM m id (some (.box 67 2 (mkT (cnts k l.length))))) := by
  refine FnS_of (rs := [.tmp 4]) false Try.func31 rfl rfl rfl rfl (Nat.le_of_ble_eq_true rfl) ?_
  simp -dsimp
  refine twp_loopC (Imk id l k m n 0) (fun s => l.length - natOf (s.tm 5)) (Imk id l k m n 1) ?_ ?_ ?_
  · exact ⟨0, by simp -dsimp, by simp -dsimp, by simp -dsimp, by omega, by simp -dsimp, by simp -dsimp [cnts]; exact (updM_self hm).symm, by simp⟩
  · rintro s ⟨i, t0, t1, t5, hi, hn, hmm, hend⟩
    by_cases hlt : i < l.length
    case neg =>
      simp -dsimp [t0, t5, hlt]
      exact ⟨i, by simp -dsimp [t0], by simp -dsimp [t1], by simp -dsimp [t5], hi, by simp -dsimp [hn], by simp -dsimp [hmm], fun _ => by omega⟩
    have hL : (cnts k i ++ l.drop i).length = l.length := by simp; omega
    have e1 := mkT_kind (k + 2 * i) (cnts k i ++ l.drop i) i (by omega)
    generalize hnum : ((cnts k i ++ l.drop i)[i]'(by omega)).num = nu at *
    have e2 := mkT_num (k + 2 * i + 1) ((cnts k i ++ l.drop i).set i ⟨k + 2 * i, nu⟩) i (by simp; omega)
    have e3 : (((cnts k i ++ l.drop i).set i ⟨k + 2 * i, nu⟩)[i]'(by simp; omega)).kind = k + 2 * i := by simp
    rw [e3, cnts_step k l i hlt] at e2
    have hmi : s.m id = some (.box 67 2 (mkT (cnts k i ++ l.drop i))) := by rw [hmm, updM_same]
    have hlen1 : (mkT (cnts k i ++ l.drop i)).length = l.length * 2 := by rw [mkT_length, hL]
    have hlen2 : (mkT ((cnts k i ++ l.drop i).set i ⟨k + 2 * i, nu⟩)).length = l.length * 2 := by rw [mkT_length, List.length_set, hL]
    have wi : IntKind.wrap .i64 ((i : Int) + 1) = ((i + 1 : Nat) : Int) := by rw [w64 (by omega) (by omega)]; omega
    have w1 : IntKind.wrap .i64 (k + 2 * i + 1) = k + 2 * i + 1 := w64 (by omega) (by omega)
    have w2 : IntKind.wrap .i64 (k + 2 * i + 1 + 1) = k + 2 * ((i + 1 : Nat) : Int) := by rw [w64 (by omega) (by omega)]; omega
    have hmu : l.length - (i + 1) < l.length - i := by omega
    have hlt' : (i : Int) < (l.length : Int) := by omega
    have o1 : i * 2 + 1 ≤ l.length * 2 := by omega
    have o2 : i * 2 + 1 + 1 ≤ l.length * 2 := by omega
    have o3 : i * 2 < l.length * 2 := by omega
    have o4 : i * 2 + 1 < l.length * 2 := by omega
    generalize mkT (cnts k i ++ l.drop i) = c1 at *
    generalize mkT ((cnts k i ++ l.drop i).set i ⟨k + 2 * i, nu⟩) = c2 at *
    generalize hc3 : mkT (cnts k (i + 1) ++ l.drop (i + 1)) = c3 at *
    simp -dsimp [t0, t1, t5, hlt, hlt', hmi, hlen1, hlen2, setAt, e1, e2, w1, w2, wi, hmu, o1, o2, o3, o4]
    refine st_out fun s' ht hm' hn' hu' => ?_
    have a0 := ht 0
    have a1 := ht 1
    have a5 := ht 5
    simp -dsimp [t0] at a0 a1 a5 hm' hn' hu'
    clear ht
    refine ⟨i + 1, a0, by rw [a1]; congr 3, a5, by omega, by omega, ?_, by simp⟩
    rw [hm', hmm, hc3]; simp
  · rintro s ⟨i, t0, t1, t5, hi, hn, hmm, hend⟩
    have hil := hend rfl
    rw [hil, List.drop_length, List.append_nil] at hmm
    rw [hil] at t1
    simp -dsimp [t1]
    exact ⟨hn, hmm⟩
def IhdM (k : Int) (l : Nat) (e : Nat) (s : S) : Prop := ∃ i : Nat, s.tm 0 = .v (.sl ((cnts k l).map Mark.v)) ∧ s.tm 1 = .v (.int .i64 (k + 2 * i)) ∧ s.tm 5 = .v (.int .i64 i) ∧ i ≤ l ∧ (e = 1 → i = l)
theorem heldMarkS_fn (l : Nat) (k : Int) (hl : l ≤ 1000000000) (hk0 : 0 ≤ k) (hk : k ≤ 100000000000000) : FnZ Try.prog 41 [.sl ((cnts k l).map Mark.v), .int .i64 k] (.int .i64 (k + 2 * l)) := by
  refine FnZ_of (rs := [.tmp 4]) false Try.func41 rfl rfl rfl rfl (Nat.le_of_ble_eq_true rfl) ?_
  simp -dsimp
  refine twp_loopC (IhdM k l 0) (fun s => l - natOf (s.tm 5)) (IhdM k l 1) ?_ ?_ ?_
  · exact ⟨0, by simp -dsimp, by simp -dsimp, by simp -dsimp, by omega, by simp⟩
  · rintro s ⟨i, t0, t1, t5, hi, hend⟩
    by_cases hlt : i < l
    case neg =>
      simp -dsimp [t0, t5, hlt]
      exact ⟨i, by simp -dsimp [t0], by simp -dsimp [t1], by simp -dsimp [t5], hi, fun _ => by omega⟩
    have hget : ((cnts k l).map Mark.v)[i]? = some (Mark.v ⟨k + 2 * i, k + 2 * i + 1⟩) := by rw [List.getElem?_map, cnts_get k l i hlt]; rfl
    have hcl : ((cnts k l).map Mark.v).length = l := by simp
    have wi : IntKind.wrap .i64 ((i : Int) + 1) = ((i + 1 : Nat) : Int) := by rw [w64 (by omega) (by omega)]; omega
    have w1 : IntKind.wrap .i64 (k + 2 * i + 1) = k + 2 * i + 1 := w64 (by omega) (by omega)
    have w2 : IntKind.wrap .i64 (k + 2 * i + 1 + 1) = k + 2 * ((i + 1 : Nat) : Int) := by rw [w64 (by omega) (by omega)]; omega
    have hmu : l - (i + 1) < l - i := by omega
    generalize hrow : (cnts k l).map Mark.v = row at *
    have hlt2 : i < row.length := by omega
    have hget2 : row[i] = Mark.v ⟨k + 2 * i, k + 2 * i + 1⟩ := by rw [List.getElem?_eq_getElem hlt2] at hget; exact Option.some.inj hget
    simp -dsimp [t0, t1, t5, hlt, hlt2, hcl, hget2, w1, w2, wi, hmu]
    refine st_out fun s' ht hm' hn' hu' => ?_
    have a0 := ht 0
    have a1 := ht 1
    have a5 := ht 5
    simp -dsimp [t0] at a0 a1 a5 hm' hn' hu'
    clear ht
    exact ⟨i + 1, by rw [a0, hrow], by rw [a1]; congr 3, a5, by omega, by simp⟩
  · rintro s ⟨i, t0, t1, t5, hi, hend⟩
    have hil := hend rfl
    rw [hil] at t1
    simp -dsimp [t1]
/-- A row of marks in memory of one's own. -/
def OwnRow (m' : Mem) (n n' : Nat) (st : T) (l : List Mark) : Prop := ∃ id, st = .sv id 0 l.length ∧ n ≤ id ∧ id < n' ∧ m' id = some (.box 67 2 (mkT l))
theorem cloneMarks_own (l : List Mark) (h0 : l ≠ []) (hl : l.length ≤ 1048576) (m : Mem) (n : Nat) : FnS Try.prog 39 m n [.v (marksV l)] (fun t m' n' => n ≤ n' ∧ (∀ j, j < n → m' j = m j) ∧ OwnRow m' n n' t l) := by
  have b1 : l.length * 16 ≤ 140737488355328 := by omega
  have hfl := mkT_flat l
  refine FnS_of (rs := [.tmp 2]) true Try.func39 rfl rfl rfl rfl (Nat.le_of_ble_eq_true rfl) ?_
  simp -dsimp [b1, h0, hfl]
  exact ⟨by omega, fun j hj => by simp [far hj], n + 1, rfl, by omega, by omega, by simp⟩
theorem readC_len' {people : Int} {s : List UInt8} {c : Claim} (h : readC people s = some c) : 3 ≤ s.length ∧ s.length ≤ 27 := by
  obtain ⟨h1, h2⟩ := readC_is h
  rw [← h2]; exact ⟨(claimTx_len h1).1, (claimTx_len h1).2.1⟩
theorem opens_str (w : World) : Opens Try.prog w 9 fun vs => ∃ s : List UInt8, s.length ≤ maxLen ∧ vs = [.str s] :=
  (opens_string Try.underlying9).mono fun vs h => by obtain ⟨s, rfl, hl⟩ := h; exact ⟨s, hl, rfl⟩
end TL

/- Deeds and their texts: what they are. -/
set_option linter.unusedSimpArgs false
set_option linter.unusedVariables false
set_option maxRecDepth 100000
set_option maxHeartbeats 4000000
set_option pp.maxSteps 1500
namespace TL
open Go Go.Proofs
structure Deed where
  kind : Int
  num : Int
  words : List UInt8
  deriving DecidableEq
def Deed.v (a : Deed) : V := .agg [.int .i64 a.kind, .int .i64 a.num, .str a.words]
theorem deed_cells (a : Deed) : a.v.cells = [.int .i64 a.kind, .int .i64 a.num, .str a.words] := rfl
attribute [local simp] marksV storyV codeV Claim.v Place.v Deed.v
/-- The decimal text of a small number. -/
def dec (n : Int) : List UInt8 := Go.Lib.decDigits n.toNat
theorem dec_len {n : Int} (h0 : 0 ≤ n) (h : n ≤ 99) : (dec n).length ≤ 2 := by
  unfold dec
  by_cases h1 : n.toNat < 10
  · rw [Go.Lib.decDigits_one h1]; simp
  · rw [Go.Lib.decDigits_two h1 (by omega)]; simp
def txSay : List UInt8 := [115, 97, 121, 32]
def txDrop : List UInt8 := [100, 114, 111, 112, 32]
def txPeople : List UInt8 := [112, 101, 111, 112, 108, 101, 32]
def txLeast : List UInt8 := [108, 101, 97, 115, 116]
def txBack : List UInt8 := [98, 97, 99, 107]
noncomputable def deedTx (a : Deed) : List UInt8 :=
  if a.kind = 0 ∧ a.num = 0 ∧ (readC 4 a.words).isSome = true then txSay ++ a.words
  else if a.words ≠ [] ∨ a.num < 0 ∨ 99 < a.num then []
  else if a.kind = 1 then txDrop ++ dec a.num
  else if a.kind = 2 then txPeople ++ dec a.num
  else if a.kind = 3 ∧ a.num = 0 then txLeast
  else if a.kind = 4 ∧ a.num = 0 then txBack
  else []
theorem readC_len {people : Int} {s : List UInt8} {c : Claim} (h : readC people s = some c) : 3 ≤ s.length ∧ s.length ≤ 27 := by
  obtain ⟨h1, h2⟩ := readC_is h
  rw [← h2]; exact ⟨(claimTx_len h1).1, (claimTx_len h1).2.1⟩
theorem readC_nil (people : Int) : readC people [] = none := rfl
theorem deedTx_len (a : Deed) : (deedTx a).length ≤ 40 := by
  unfold deedTx
  split
  · rename_i h
    cases e : readC 4 a.words with
    | none => rw [e] at h; simp at h
    | some c => have := readC_len e; simp [txSay]; omega
  split
  · simp
  rename_i h
  have h0 : 0 ≤ a.num ∧ a.num ≤ 99 := by
    constructor
    · rcases Int.lt_or_le a.num 0 with h1 | h1
      · exact absurd (.inr (.inl h1)) h
      · exact h1
    · rcases Int.lt_or_le 99 a.num with h1 | h1
      · exact absurd (.inr (.inr h1)) h
      · exact h1
  have := dec_len h0.1 h0.2
  split
  · simp [txDrop]; omega
  split
  · simp [txPeople]; omega
  split
  · simp [txLeast]
  split
  · simp [txBack]
  · simp
theorem l1In_z (n a b : Int) : FnZ Try.prog 35 [.int .i64 n, .int .i64 a, .int .i64 b] (.bool (decide (a ≤ n) && decide (n ≤ b))) := l1In_fn n a b
theorem deedTx_out {a : Deed} (h : a.num < 0 ∨ 99 < a.num) : deedTx a = [] := by
  unfold deedTx; rw [if_neg (by omega), if_pos (.inr h)]
theorem deedTx_say {a : Deed} (h : a.kind = 0 ∧ a.num = 0 ∧ (readC 4 a.words).isSome = true) : deedTx a = txSay ++ a.words := by
  unfold deedTx; rw [if_pos h]
theorem deedTx_words {a : Deed} (h : ¬ (a.kind = 0 ∧ a.num = 0 ∧ (readC 4 a.words).isSome = true)) (hw : a.words ≠ []) : deedTx a = [] := by
  unfold deedTx; rw [if_neg h, if_pos (.inl hw)]
theorem deedTx_none {a : Deed} (h0 : 0 ≤ a.num) (h1 : a.num ≤ 99) (hw : a.words = []) : deedTx a = if a.kind = 1 then txDrop ++ dec a.num else if a.kind = 2 then txPeople ++ dec a.num else if a.kind = 3 ∧ a.num = 0 then txLeast else if a.kind = 4 ∧ a.num = 0 then txBack else [] := by
  unfold deedTx
  rw [if_neg (by rw [hw, readC_nil]; simp), if_neg (by rw [hw]; simp; omega)]
theorem readC_words {s : List UInt8} (h : (readC 4 s).isSome = true) : s ≠ [] := by
  rintro rfl; rw [readC_nil] at h; cases h
/-- The five ways of a deed. -/
theorem deed_ways (a : Deed) : (a.num < 0 ∨ 99 < a.num) ∨ (0 ≤ a.num ∧ a.num ≤ 99 ∧ ((a.words ≠ []) ∨ (a.words = [] ∧ (a.kind = 1 ∨ a.kind = 2 ∨ (a.kind = 3 ∧ a.num = 0) ∨ (a.kind = 4 ∧ a.num = 0) ∨ (¬ a.kind = 1 ∧ ¬ a.kind = 2 ∧ (¬ a.kind = 3 ∨ ¬ a.num = 0) ∧ (¬ a.kind = 4 ∨ ¬ a.num = 0)))))) := by
  by_cases h : a.num < 0 ∨ 99 < a.num
  · exact .inl h
  · refine .inr ⟨by omega, by omega, ?_⟩
    by_cases hw : a.words = []
    · refine .inr ⟨hw, by omega⟩
    · exact .inl hw
end TL

/- The library's functions, off the shelf: texts joined, numbers written, prefixes cut. -/
set_option linter.unusedSimpArgs false
set_option linter.unusedVariables false
set_option maxRecDepth 100000
namespace TL
open Go Go.Proofs Go.RowKit
section
variable {P : Program}
theorem FnZ_calls {f : Nat} {args : List V} {r : V} (hf : ∃ fn, P.funcs[f]? = some fn ∧ (fn.name == "runtime.NumGoroutine") = false ∧ fn.body.isNone = false)
    (h : ∀ (Z : Zs) (w : World) (vs : List Value), ZOk P Z w → RepVs Z w args vs → Calls P f vs.toArray w fun e w' => ∃ v, e = .returned v ∧ Below w.heap.size w w' ∧ RepV (freshZ Z w.heap.size w'.heap.size) w' r v) : FnZ P f args r := ⟨hf, h⟩
theorem calls_mono {f : Nat} {args : Array Value} {w : World} {R R' : Ending → World → Prop} (h : Calls P f args w R) (hR : ∀ e w', R e w' → R' e w') : Calls P f args w R' := h.mono hR
/-- Rows of texts. -/
theorem strs_rep {Z : Zs} {w : World} {z : Nat} : ∀ (xs : List (List UInt8)) (us : List Value), RepEs Z w z (xs.map V.str) us → ∃ bs : List ByteArray, us = bs.map Value.string ∧ bs.map (·.data.toList) = xs
  | [], us, h => by cases h; exact ⟨[], rfl, rfl⟩
  | x :: xs, us, h => by
    cases h with
    | one hc h t =>
      cases h with
      | str hb =>
        obtain ⟨bs, h1, h2⟩ := strs_rep xs _ t
        exact ⟨_ :: bs, by rw [h1]; rfl, by simp [hb, h2]⟩
theorem strs_row {Z : Zs} {w : World} {xs : List (List UInt8)} {u : Value} (h : RepV Z w (.sl (xs.map V.str)) u) : (xs = [] ∧ ∃ A c, u = .slice A 0 c) ∨
    ∃ k o c, ∃ bs : List ByteArray, u = .slice (some ⟨k, o, none⟩) bs.length c ∧ bs.map (·.data.toList) = xs ∧ bs.length ≤ c ∧ bs ≠ [] ∧ (∀ (j : Nat) x, bs[j]? = some x → w.cell? ⟨k, o + j, none⟩ = some (.string x)) ∧ k < w.heap.size := by
  generalize hv : V.sl (xs.map V.str) = v at h
  cases h with
  | nil A c => left; injection hv with hv; exact ⟨by simpa using hv, A, c, rfl⟩
  | @sl z ys us ad n c h hn hc hm hz =>
    injection hv with hv
    subst hv
    obtain ⟨bs, rfl, h2⟩ := strs_rep xs us h
    have hlen : bs.length = n := by rw [← hn, ← h2]; simp
    cases bs with
    | nil => left; exact ⟨by simpa using h2.symm, some ad, c, by rw [← hlen]; rfl⟩
    | cons b bs =>
      right
      have h0 := (hz 0 (.string b) rfl).1
      obtain ⟨k, o, sp⟩ := ad
      obtain rfl : sp = none := spot_of_cell h0
      refine ⟨k, o, c, b :: bs, by rw [hlen], h2, by omega, by simp, fun j x hx => ?_, ?_⟩
      · have := (hz j (.string x) (by rw [List.getElem?_map, hx]; rfl)).1
        rw [add_lit] at this; exact this
      · unfold World.cell? at h0
        split at h0
        · rename_i hb; exact (Array.getElem?_eq_some_iff.1 hb).1
        · cases h0
  | _ => cases hv
theorem join_FnZ {ρ : Go.Shelf.Ren} (L : Go.Proofs.Lays.n156 P ρ) (X : Go.Proofs.Builder.Extra P ρ) (hf : ∃ fn, P.funcs[ρ.f 156]? = some fn ∧ (fn.name == "runtime.NumGoroutine") = false ∧ fn.body.isNone = false) (xs : List (List UInt8)) (sep : List UInt8)
    (hN : xs.length ≤ 140737488355328) (hlen : (Go.Lib.join xs sep).length ≤ 140737488355328) : FnZ P (ρ.f 156) [.sl (xs.map V.str), .str sep] (.str (Go.Lib.join xs sep)) := by
  refine FnZ_calls hf fun Z w vs hz hv => ?_
  cases hv with | cons h1 hv => cases hv with | cons h2 hv => cases hv with | nil =>
    cases h2 with
    | @str _ bsep hb =>
      rcases strs_row h1 with ⟨rfl, A, c, rfl⟩ | ⟨k, o, c, bs, rfl, h2, h3, h4, h5, h6⟩
      · refine calls_mono (Any.strings_Join_none L X A c bsep w) ?_
        rintro e w' ⟨rfl, rfl⟩
        exact ⟨_, rfl, Below.refl _ _, .str rfl⟩
      · have e : bs.map (fun x => x.data.toList) = xs := h2
        refine calls_mono (Any.strings_Join L X k o c bs bsep w h5 h6 (by rw [← e] at hN; simpa using hN) h3 (by rw [e, hb]; exact hlen)) ?_
        rintro e' w' ⟨rfl, hw⟩
        refine ⟨_, rfl, hw, .str ?_⟩
        rw [e, hb]
theorem itoa_FnZ {ρ : Go.Shelf.Ren} (L : Go.Proofs.Lays.n171 P ρ) (hf : ∃ fn, P.funcs[ρ.f 171]? = some fn ∧ (fn.name == "runtime.NumGoroutine") = false ∧ fn.body.isNone = false) (i : Nat) (hi : i < 100) : FnZ P (ρ.f 171) [.int .i64 i] (.str (Go.Lib.decDigits i)) := by
  refine FnZ_calls hf fun Z w vs hz hv => ?_
  cases hv with | cons h1 hv => cases hv with | nil =>
    cases h1
    refine calls_mono (Any.strconv_Itoa_small L i hi w) ?_
    rintro e w' ⟨rfl, rfl⟩
    exact ⟨_, rfl, Below.refl _ _, .str rfl⟩
end
end TL

/- The program's texts of deeds. -/
set_option linter.unusedSimpArgs false
set_option linter.unusedVariables false
set_option maxRecDepth 100000
set_option maxHeartbeats 4000000
set_option pp.maxSteps 1500
namespace TL
open Go Go.Proofs
attribute [local simp] marksV storyV codeV Claim.v Place.v Deed.v
end TL

/- The texts of places. -/
set_option linter.unusedSimpArgs false
set_option linter.unusedVariables false
set_option maxRecDepth 100000
set_option maxHeartbeats 4000000
set_option pp.maxSteps 1500
namespace TL
open Go Go.Proofs
attribute [local simp] marksV storyV codeV Claim.v Place.v Deed.v
/-- The texts of claims with commas between them. -/
noncomputable def storyTx (people : Int) (l : List Claim) : List UInt8 := Go.Lib.join (l.map (claimTx people)) [44]
noncomputable def placeTx (p : Place) : List UInt8 := if placeOk p = true then dec p.people ++ 32 :: (if p.story = [] then [46] else storyTx p.people p.story) else []
theorem claim_cellsE (c : Claim) : c.v.cells = [.int .i64 c.who, marksV c.says] := rfl
theorem claimTx_short (people : Int) (c : Claim) : (claimTx people c).length ≤ 27 := by
  have hk := ft (claimOk people c)
  rcases hk with hk | hk
  · unfold claimTx; rw [if_neg (by simp [hk])]; simp
  · exact (claimTx_len hk).2.1
theorem joinTail_len (xs : List (List UInt8)) (h : ∀ x ∈ xs, x.length ≤ 27) : (Go.Lib.joinTail [44] xs).length ≤ 28 * xs.length := by
  induction xs with
  | nil => simp [Go.Lib.joinTail]
  | cons x xs ih =>
    have h1 := h x (List.mem_cons_self ..)
    have h2 := ih fun y hy => h y (List.mem_cons_of_mem _ hy)
    simp only [Go.Lib.joinTail, List.map_cons, List.flatten_cons, List.length_append, List.length_cons, List.length_nil] at h2 ⊢
    omega
theorem join_len (xs : List (List UInt8)) (h : ∀ x ∈ xs, x.length ≤ 27) : (Go.Lib.join xs [44]).length ≤ 28 * xs.length + 27 := by
  cases xs with
  | nil => simp [Go.Lib.join_nil]
  | cons x xs =>
    rw [Go.Lib.join_cons]
    have h1 := h x (List.mem_cons_self ..)
    have h2 := joinTail_len xs fun y hy => h y (List.mem_cons_of_mem _ hy)
    simp only [List.length_append, List.length_cons]; omega
theorem storyTx_len (people : Int) (l : List Claim) : (storyTx people l).length ≤ 28 * l.length + 27 := by
  have := join_len (l.map (claimTx people)) (fun x hx => by obtain ⟨c, _, rfl⟩ := List.mem_map.1 hx; exact claimTx_short people c)
  simpa [storyTx] using this
theorem placeOk_all {p : Place} (h : placeOk p = true) : 1 ≤ p.people ∧ p.people ≤ 4 ∧ p.story.length ≤ 6 ∧ ∀ c ∈ p.story, claimOk p.people c = true := by
  simp only [placeOk, storyOk, peopleOk, Bool.and_eq_true, decide_eq_true_eq, List.all_eq_true] at h
  exact ⟨by omega, by omega, by omega, h.1.1⟩
theorem placeTx_no {p : Place} (h : placeOk p = false) : placeTx p = [] := by unfold placeTx; rw [if_neg (by simp [h])]
/-- The program. -/
def Ipt (p : Place) (e : Nat) (s : S) : Prop := ∃ i id : Nat, s.tm 1 = .ptr 0 0 ∧ s.m 0 = some (.box 28 2 [.v (.int .i64 p.people), .v (storyV p.story)]) ∧ s.tm 3 = .loc id ∧ 0 < id ∧ id < s.n ∧ s.m id = some (.arr 9 (((p.story.take i).map (claimTx p.people)).map V.str)) ∧
  s.tm 11 = .v (.sl (p.story.map Claim.v)) ∧ s.tm 12 = .v (.int .i64 p.story.length) ∧ s.tm 13 = .v (.int .i64 i) ∧ s.mu = false ∧ i ≤ p.story.length ∧ (e = 1 → i = p.story.length)
/-- The reference. -/
def Ispt (p : Place) (e : Nat) (s : S) : Prop := ∃ i : Nat, s.tm 1 = .ptr 0 0 ∧ s.m 0 = some (.box 28 2 [.v (.int .i64 p.people), .v (storyV p.story)]) ∧ s.tm 3 = .v (.str (storyTx p.people (p.story.take i))) ∧
  s.tm 4 = .v (.int .i64 i) ∧ s.mu = false ∧ i ≤ p.story.length ∧ (e = 1 → i = p.story.length)
@[simp] theorem storyTx_nil (people : Int) : storyTx people [] = [] := rfl
theorem storyTx_zero (people : Int) (l : List Claim) : storyTx people (l.take 0) = [] := rfl
theorem storyTx_first (people : Int) (l : List Claim) (h : 0 < l.length) : storyTx people (l.take 1) = claimTx people l[0] := by
  cases l with
  | nil => simp at h
  | cons c l => simp [storyTx, Go.Lib.join_one]
theorem join_snoc (x : List UInt8) (xs : List (List UInt8)) (y : List UInt8) : Go.Lib.join ((x :: xs) ++ [y]) [44] = Go.Lib.join (x :: xs) [44] ++ [44] ++ y := by
  rw [List.cons_append, Go.Lib.join_cons, Go.Lib.join_cons]
  simp [Go.Lib.joinTail]
theorem storyTx_next (people : Int) (l : List Claim) (i : Nat) (h0 : 0 < i) (h : i < l.length) : storyTx people (l.take (i + 1)) = storyTx people (l.take i) ++ [44] ++ claimTx people l[i] := by
  unfold storyTx
  rw [List.take_succ_eq_append_getElem h, List.map_append]
  cases l with
  | nil => simp at h
  | cons c l =>
    cases i with
    | zero => omega
    | succ i => simp only [List.take_succ_cons, List.map_cons, List.map_nil]; exact join_snoc _ _ _
end TL

/- Reading places: the plain part. -/
set_option linter.unusedSimpArgs false
set_option linter.unusedVariables false
set_option maxRecDepth 100000
namespace TL
/-- Cut at every such sign. -/
def cutGo (c : UInt8) : List UInt8 → List UInt8 → List (List UInt8)
  | acc, [] => [acc]
  | acc, x :: xs => if x = c then acc :: cutGo c [] xs else cutGo c (acc ++ [x]) xs
def cutAt (c : UInt8) (s : List UInt8) : List (List UInt8) := cutGo c [] s
theorem cutGo_clean {c : UInt8} : ∀ (x acc r : List UInt8), (∀ y ∈ x, y ≠ c) → cutGo c acc (x ++ r) = cutGo c (acc ++ x) r
  | [], acc, r, _ => by simp
  | y :: x, acc, r, h => by
    have h1 : y ≠ c := h y (List.mem_cons_self ..)
    rw [List.cons_append]
    show (if y = c then _ else _) = _
    rw [if_neg h1, cutGo_clean x _ r fun z hz => h z (List.mem_cons_of_mem _ hz)]
    simp
theorem cutAt_app {c : UInt8} {x r : List UInt8} (h : ∀ y ∈ x, y ≠ c) : cutAt c (x ++ c :: r) = x :: cutAt c r := by
  unfold cutAt
  rw [cutGo_clean x [] _ h]
  show (if c = c then _ else _) = _
  rw [if_pos rfl]; rfl
theorem cutAt_none {c : UInt8} {x : List UInt8} (h : ∀ y ∈ x, y ≠ c) : cutAt c x = [x] := by
  have := cutGo_clean x [] [] h
  rw [List.append_nil] at this
  unfold cutAt; rw [this]; rfl
theorem cut_first (c : UInt8) : ∀ s : List UInt8, (∀ y ∈ s, y ≠ c) ∨ ∃ x r, s = x ++ c :: r ∧ ∀ y ∈ x, y ≠ c
  | [] => .inl (by simp)
  | y :: s => by
    by_cases h : y = c
    · exact .inr ⟨[], s, by rw [h]; rfl, by simp⟩
    · rcases cut_first c s with h1 | ⟨x, r, h1, h2⟩
      · exact .inl fun z hz => by
          rcases List.mem_cons.1 hz with rfl | hz
          · exact h
          · exact h1 z hz
      · exact .inr ⟨y :: x, r, by rw [h1]; rfl, fun z hz => by
          rcases List.mem_cons.1 hz with rfl | hz
          · exact h
          · exact h2 z hz⟩
theorem cutGo_len (c : UInt8) : ∀ s acc, (cutGo c acc s).length ≤ s.length + 1
  | [], acc => by simp [cutGo]
  | x :: s, acc => by
    show (if x = c then acc :: cutGo c [] s else cutGo c (acc ++ [x]) s).length ≤ _
    have h1 := cutGo_len c s []
    have h2 := cutGo_len c s (acc ++ [x])
    split
    · simp only [List.length_cons]; omega
    · simp only [List.length_cons]; omega
theorem cutAt_len (c : UInt8) (s : List UInt8) : (cutAt c s).length ≤ s.length + 1 := cutGo_len c s []
theorem cutGo_piece (c : UInt8) : ∀ s acc, ∀ x ∈ cutGo c acc s, x.length ≤ acc.length + s.length
  | [], acc, x, h => by
    cases List.mem_singleton.1 h; simp
  | y :: s, acc, x, h => by
    have h : x ∈ (if y = c then acc :: cutGo c [] s else cutGo c (acc ++ [y]) s) := h
    split at h
    · rcases List.mem_cons.1 h with rfl | h
      · simp
      · have := cutGo_piece c s [] x h; simp at this ⊢; omega
    · have := cutGo_piece c s _ x h; simp at this ⊢; omega
theorem cutAt_piece {c : UInt8} {s x : List UInt8} (h : x ∈ cutAt c s) : x.length ≤ s.length := by
  have := cutGo_piece c s [] x h; simpa using this
theorem occ_head {c : UInt8} {s : List UInt8} {j : Nat} : Go.Lib.occAt s [c] j = (s[j]? == some c) := by
  unfold Go.Lib.occAt
  have e : (s.drop j).head? = s[j]? := by simp
  cases h : s.drop j with
  | nil => rw [h] at e; rw [← e]; rfl
  | cons y r =>
    rw [h] at e; rw [← e]
    simp only [List.isPrefixOf, List.head?_cons, Bool.and_true]
    by_cases hy : c = y
    · simp [hy]
    · have hy2 : ¬ y = c := fun h => hy h.symm
      have e1 : (c == y) = false := by simp [hy]
      rw [e1]; simp [hy2]
theorem index_clean {c : UInt8} {s : List UInt8} (h : ∀ y ∈ s, y ≠ c) : Go.Lib.index s [c] = -1 := by
  refine Go.Lib.index_none fun j _ => ?_
  rw [occ_head]
  cases e : s[j]? with
  | none => rfl
  | some y => have := h y (List.mem_of_getElem? e); simpa using this
theorem index_at {c : UInt8} {x r : List UInt8} (h : ∀ y ∈ x, y ≠ c) : Go.Lib.index (x ++ c :: r) [c] = (x.length : Nat) := by
  refine Go.Lib.index_first (by simp) ?_ fun j hj => ?_
  · rw [occ_head]; simp
  · rw [occ_head, List.getElem?_append_left hj]
    have := h x[j] (List.getElem_mem hj)
    simpa [hj] using this
theorem splitK_cut (c : UInt8) : ∀ (n : Nat) (s : List UInt8), s.length ≤ n → Go.Lib.splitK [c] 0 (Go.Lib.count s [c]) s = cutAt c s
  | n, s, hn => by
    rcases cut_first c s with h | ⟨x, r, rfl, h⟩
    · rw [cutAt_none h, Go.Lib.count_miss (index_clean h)]; rfl
    · have hi := index_at (r := r) h
      have hne : ([c] : List UInt8) ≠ [] := by simp
      have hd : (x ++ c :: r).drop (x.length + [c].length) = r := by
        rw [List.drop_append, List.drop_of_length_le (by simp)]; simp
      rw [cutAt_app h, Go.Lib.count_hit hne hi, hd, Nat.add_comm, Go.Lib.splitK, hi]
      rw [if_neg (by simp)]
      have e1 : ((x.length : Nat) : Int).toNat = x.length := by omega
      rw [e1, hd, Nat.add_zero]
      cases n with
      | zero => simp at hn
      | succ n =>
        rw [splitK_cut c n r (by simp at hn; omega)]
        congr 1
        rw [List.take_append_of_le_length (Nat.le_refl _), List.take_length]
theorem split_is_cut (c : UInt8) (s : List UInt8) : Go.Lib.splitK [c] 0 (Go.Lib.count s [c]) s = cutAt c s := splitK_cut c s.length s (Nat.le_refl _)
theorem cut_join {c : UInt8} : ∀ (xs : List (List UInt8)) (x : List UInt8), (∀ y ∈ x, y ≠ c) → (∀ z ∈ xs, ∀ y ∈ z, y ≠ c) → cutAt c (Go.Lib.join (x :: xs) [c]) = x :: xs
  | [], x, h, _ => by rw [Go.Lib.join_one]; exact cutAt_none h
  | z :: xs, x, h, hs => by
    have e : Go.Lib.join (x :: z :: xs) [c] = x ++ c :: Go.Lib.join (z :: xs) [c] := by
      rw [Go.Lib.join_cons, Go.Lib.join_cons]
      simp [Go.Lib.joinTail]
    rw [e, cutAt_app h, cut_join xs z (hs z (List.mem_cons_self ..)) fun w hw => hs w (List.mem_cons_of_mem _ hw)]
/-! Claims' texts. -/
theorem ofNat_plain {w : Int} (h0 : 0 ≤ w) (h4 : w < 4) : plain (UInt8.ofNat (97 + w.toNat)) := by
  rcases (by omega : w = 0 ∨ w = 1 ∨ w = 2 ∨ w = 3) with rfl | rfl | rfl | rfl <;> exact ⟨by decide, by decide, by decide, by decide, by decide⟩
theorem claimTx_clean {people : Int} {c : Claim} (h : claimOk people c = true) : ∀ y ∈ claimTx people c, y ≠ 44 ∧ y ≠ 32 ∧ y ≠ 10 ∧ y ≠ 46 := by
  obtain ⟨h1, h2, h3, h4, h5, h6⟩ := claimOk_all h
  intro y hy
  unfold claimTx at hy
  rw [if_pos h] at hy
  rcases List.mem_cons.1 hy with rfl | hy
  · have := ofNat_plain h3 (by omega); exact ⟨this.2.2.1, this.1, this.2.1, this.2.2.2.1⟩
  rcases List.mem_cons.1 hy with rfl | hy
  · exact ⟨by decide, by decide, by decide, by decide⟩
  · have := termText_plain h5 y hy; exact ⟨this.2.2.1, this.1, this.2.1, this.2.2.2.1⟩
theorem join_mem {y c : UInt8} : ∀ (xs : List (List UInt8)), y ∈ Go.Lib.join xs [c] → y = c ∨ ∃ x ∈ xs, y ∈ x
  | [], h => by rw [Go.Lib.join_nil] at h; simp at h
  | [x], h => by rw [Go.Lib.join_one] at h; exact .inr ⟨x, by simp, h⟩
  | x :: z :: xs, h => by
    have e : Go.Lib.join (x :: z :: xs) [c] = x ++ c :: Go.Lib.join (z :: xs) [c] := by
      rw [Go.Lib.join_cons, Go.Lib.join_cons]
      simp [Go.Lib.joinTail]
    rw [e] at h
    rcases List.mem_append.1 h with h | h
    · exact .inr ⟨x, by simp, h⟩
    rcases List.mem_cons.1 h with h | h
    · exact .inl h
    · rcases join_mem _ h with h | ⟨w, hw, h⟩
      · exact .inl h
      · exact .inr ⟨w, List.mem_cons_of_mem _ hw, h⟩
theorem story_cut {people : Int} {l : List Claim} (hl : l ≠ []) (h : ∀ c ∈ l, claimOk people c = true) : cutAt 44 (storyTx people l) = l.map (claimTx people) := by
  cases l with
  | nil => exact absurd rfl hl
  | cons c l =>
    unfold storyTx
    rw [List.map_cons]
    refine cut_join _ _ (fun y hy => (claimTx_clean (h c (List.mem_cons_self ..)) y hy).1) fun z hz y hy => ?_
    obtain ⟨d, hd, rfl⟩ := List.mem_map.1 hz
    exact (claimTx_clean (h d (List.mem_cons_of_mem _ hd)) y hy).1
theorem story_plain {people : Int} {l : List Claim} (h : ∀ c ∈ l, claimOk people c = true) : ∀ y ∈ storyTx people l, y ≠ 32 ∧ y ≠ 10 ∧ y ≠ 46 := fun y hy => by
  rcases join_mem _ hy with rfl | ⟨x, hx, hy⟩
  · exact ⟨by decide, by decide, by decide⟩
  · obtain ⟨d, hd, rfl⟩ := List.mem_map.1 hx
    have := claimTx_clean (h d hd) y hy
    exact ⟨this.2.1, this.2.2.1, this.2.2.2⟩
theorem story_reads {people : Int} {l : List Claim} (hl : l ≠ []) (h : ∀ c ∈ l, claimOk people c = true) : (cutAt 44 (storyTx people l)).map (readC people) = l.map some := by
  rw [story_cut hl h, List.map_map]
  exact List.map_congr_left fun c hc => readC_text (h c hc)
/-- What stands behind the blank. -/
noncomputable def restTx (p : Place) : List UInt8 := if p.story = [] then [46] else storyTx p.people p.story
theorem dec_digit {n : Int} (h0 : 1 ≤ n) (h4 : n ≤ 4) : dec n = [UInt8.ofNat (48 + n.toNat)] := by
  unfold dec Go.Lib.decDigits; rcases (by omega : n = 1 ∨ n = 2 ∨ n = 3 ∨ n = 4) with rfl | rfl | rfl | rfl <;> rfl
theorem placeTx_shape {p : Place} (h : placeOk p = true) : placeTx p = UInt8.ofNat (48 + p.people.toNat) :: 32 :: restTx p := by
  obtain ⟨h1, h2, _, _⟩ := placeOk_all h
  unfold placeTx restTx
  rw [if_pos h, dec_digit h1 h2]; rfl
theorem story_pos {p : Place} (h : placeOk p = true) (hs : p.story ≠ []) : 3 ≤ (storyTx p.people p.story).length := by
  obtain ⟨h1, h2, _, h4⟩ := placeOk_all h
  obtain ⟨people, story⟩ := p
  cases story with
  | nil => exact absurd rfl hs
  | cons c l =>
    have := (claimTx_len (h4 c (List.mem_cons_self ..))).1
    unfold storyTx
    rw [List.map_cons, Go.Lib.join_cons]
    simp only [List.length_append]; simp only at this ⊢; omega
theorem restTx_dot {p : Place} (h : placeOk p = true) : restTx p = [46] ↔ p.story = [] := by
  unfold restTx
  constructor
  · intro e
    by_cases hs : p.story = []
    · exact hs
    · rw [if_neg hs] at e
      have := story_pos h hs; rw [e] at this; simp at this
  · intro e; rw [if_pos e]
theorem restTx_pos {p : Place} (h : placeOk p = true) : restTx p ≠ [] := by
  unfold restTx
  split
  · simp
  · rename_i hs; intro e; have := story_pos h hs; rw [e] at this; simp at this
theorem restTx_plain {p : Place} (h : placeOk p = true) : ∀ y ∈ restTx p, y ≠ 32 ∧ y ≠ 10 := by
  obtain ⟨_, _, _, h4⟩ := placeOk_all h
  unfold restTx
  split
  · intro y hy; cases List.mem_singleton.1 hy; exact ⟨by decide, by decide⟩
  · intro y hy; have := story_plain h4 y hy; exact ⟨this.1, this.2.1⟩
theorem rest_reads {p : Place} (h : placeOk p = true) (hd : restTx p ≠ [46]) : (cutAt 44 (restTx p)).map (readC p.people) = p.story.map some := by
  obtain ⟨_, _, _, h4⟩ := placeOk_all h
  have hs : p.story ≠ [] := fun e => hd ((restTx_dot h).2 e)
  unfold restTx
  rw [if_neg hs]
  exact story_reads hs h4
theorem digit_inj {a b : Int} (ha : 1 ≤ a) (ha4 : a ≤ 4) (hb : 1 ≤ b) (hb4 : b ≤ 4) (h : UInt8.ofNat (48 + a.toNat) = UInt8.ofNat (48 + b.toNat)) : a = b := by
  have := congrArg UInt8.toNat h
  rw [UInt8.toNat_ofNat', UInt8.toNat_ofNat'] at this; omega
theorem map_some_inj {l m : List Claim} (h : l.map some = m.map some) : l = m := by
  have := congrArg (List.filterMap id) h
  simpa [List.filterMap_map] using this
theorem placeTx_inj {p q : Place} (hp : placeOk p = true) (hq : placeOk q = true) (h : placeTx p = placeTx q) : p = q := by
  rw [placeTx_shape hp, placeTx_shape hq] at h
  obtain ⟨a1, a2, _, _⟩ := placeOk_all hp
  obtain ⟨b1, b2, _, _⟩ := placeOk_all hq
  have h1 := (List.cons.inj h).1
  have h2 := (List.cons.inj (List.cons.inj h).2).2
  have e1 := digit_inj a1 a2 b1 b2 h1
  have e2 : p.story = q.story := by
    by_cases hd : restTx p = [46]
    · rw [(restTx_dot hp).1 hd, (restTx_dot hq).1 (by rw [← h2]; exact hd)]
    · have r1 := rest_reads hp hd
      have r2 := rest_reads hq (by rw [← h2]; exact hd)
      rw [← h2, ← e1, r1] at r2
      exact map_some_inj r2
  obtain ⟨pp, ps⟩ := p
  obtain ⟨qp, qs⟩ := q
  simp only at e1 e2
  rw [e1, e2]
theorem placeTx_pos {p : Place} (h : placeOk p = true) : placeTx p ≠ [] := by rw [placeTx_shape h]; simp
theorem placeTx_ok {p : Place} (h : placeTx p ≠ []) : placeOk p = true := by
  have hk := ft (placeOk p)
  rcases hk with hk | hk
  · exact absurd (placeTx_no hk) h
  · exact hk
/-- What ReadPlace finds. -/
noncomputable def readP (s : List UInt8) : Option Place := by
  classical exact if h : ∃ p, placeOk p = true ∧ placeTx p = s then some (Classical.choose h) else none
theorem readP_some {s : List UInt8} {p : Place} (h : placeOk p = true) (hs : placeTx p = s) : readP s = some p := by
  have hx : ∃ p, placeOk p = true ∧ placeTx p = s := ⟨p, h, hs⟩
  unfold readP; rw [dif_pos hx]
  have := Classical.choose_spec hx
  exact congrArg some (placeTx_inj this.1 h (by rw [this.2, hs]))
theorem readP_is {s : List UInt8} {p : Place} (h : readP s = some p) : placeOk p = true ∧ placeTx p = s := by
  unfold readP at h
  split at h
  · rename_i hx; cases h; exact Classical.choose_spec hx
  · cases h
theorem readP_none {s : List UInt8} (h : ∀ p, placeOk p = true → placeTx p ≠ s) : readP s = none := by
  unfold readP; rw [dif_neg]; rintro ⟨p, h1, h2⟩; exact h p h1 h2
/-- How a text falls apart. -/
def parts (s : List UInt8) (D : Int) (rest : List UInt8) : Prop := s ≠ [] ∧ ∀ p, placeOk p = true → placeTx p = s → D = p.people ∧ rest = restTx p
theorem readP_piece {s rest : List UInt8} {D : Int} (h : parts s D rest) (hd : rest ≠ [46]) (x : List UInt8) (hx : x ∈ cutAt 44 rest) (hn : readC D x = none) : readP s = none := by
  refine readP_none fun p hp hs => ?_
  obtain ⟨rfl, rfl⟩ := h.2 p hp hs
  have := rest_reads hp hd
  have hm : readC p.people x ∈ (cutAt 44 (restTx p)).map (readC p.people) := List.mem_map_of_mem hx
  rw [this, hn] at hm
  simp at hm
theorem readP_end {s rest : List UInt8} {D : Int} {l : List Claim} (h : parts s D rest) (hl : rest = [46] ∧ l = [] ∨ rest ≠ [46] ∧ (cutAt 44 rest).map (readC D) = l.map some) :
    readP s = if placeTx ⟨D, l⟩ = s then some ⟨D, l⟩ else none := by
  split
  · rename_i hs
    exact readP_some (placeTx_ok (by rw [hs]; exact h.1)) hs
  · rename_i hne
    refine readP_none fun p hp hs => hne ?_
    obtain ⟨rfl, rfl⟩ := h.2 p hp hs
    have e : p.story = l := by
      rcases hl with ⟨h1, h2⟩ | ⟨h1, h2⟩
      · rw [h2]; exact (restTx_dot hp).1 h1
      · rw [rest_reads hp h1] at h2; exact map_some_inj h2
    rw [← e]; exact hs
theorem parts_one {a : UInt8} {rest : List UInt8} : parts (a :: 32 :: rest) ((a.toNat : Int) - 48) rest := ⟨by simp, fun p hp hs => by
  obtain ⟨h1, h2, _, _⟩ := placeOk_all hp
  rw [placeTx_shape hp] at hs
  have e1 := (List.cons.inj hs).1
  have e2 := (List.cons.inj (List.cons.inj hs).2).2
  refine ⟨?_, e2.symm⟩
  have := congrArg UInt8.toNat e1
  rw [UInt8.toNat_ofNat'] at this; omega⟩
theorem last_in {p w s : List UInt8} {c : UInt8} (hw : w ≠ []) (h : p ++ w = s ++ [c]) : c ∈ w := by
  have h1 := congrArg List.getLast? h
  rw [List.getLast?_append, List.getLast?_append] at h1
  cases e : w.getLast? with
  | none => exact absurd (List.getLast?_eq_none_iff.1 e) hw
  | some y =>
    rw [e] at h1
    simp at h1
    rw [← h1]; exact List.mem_of_getLast? e
/-- With a further sign behind it, that no place has at its end. -/
theorem readP_more {s : List UInt8} {c : UInt8} (hc : c = 32 ∨ c = 10) : readP (s ++ [c]) = none := readP_none fun p hp hs => by
  rw [placeTx_shape hp] at hs
  have h1 : [UInt8.ofNat (48 + p.people.toNat), 32] ++ restTx p = s ++ [c] := hs
  have := restTx_plain hp c (last_in (restTx_pos hp) h1)
  rcases hc with rfl | rfl
  · exact this.1 rfl
  · exact this.2 rfl
end TL

/- The library's functions, off the shelf: texts split. -/
set_option linter.unusedSimpArgs false
set_option linter.unusedVariables false
set_option maxRecDepth 100000
namespace TL
open Go Go.Proofs Go.RowKit
section
variable {P : Program}
theorem strs_new {Z : Zs} {w : World} : ∀ (bs : List ByteArray), RepEs Z w 1 ((bs.map (·.data.toList)).map V.str) (bs.map Value.string)
  | [] => .nil 1
  | b :: bs => .one rfl (.str rfl) (strs_new bs)
theorem strs_alloc {Z : Zs} {w : World} (bs : List ByteArray) (t : TypeId) (hl : bs.length ≤ maxLen) :
    RepV (freshZ Z w.heap.size (w.alloc (.cells (bs.map Value.string).toArray t)).heap.size) (w.alloc (.cells (bs.map Value.string).toArray t)) (.sl ((bs.map (·.data.toList)).map V.str)) (.slice (some ⟨w.heap.size, 0, none⟩) bs.length bs.length) := by
  refine .sl (strs_new bs) (by simp) (Nat.le_refl _) hl fun i u hu => ?_
  rw [add_lit]
  refine ⟨?_, .inr ⟨Nat.le_refl _, ?_⟩⟩
  · rw [World.cell?_alloc_new]
    simpa using hu
  · show w.heap.size < (w.heap.push _).size
    simp
theorem split_FnZ {ρ : Go.Shelf.Ren} (L : Go.Proofs.Lays.n146 P ρ) (hi9 : (P.info? (ρ.t 9)).map (fun i => (i.zero, i.size, i.bytes)) = some (some (.string ByteArray.empty), 1, 16)) (hf : ∃ fn, P.funcs[ρ.f 146]? = some fn ∧ (fn.name == "runtime.NumGoroutine") = false ∧ fn.body.isNone = false)
    (hg : P.globalNamed "internal/bytealg.MaxLen" = some (ρ.g 1)) (s : List UInt8) (c : UInt8) (hs : s.length < 4294967281) : FnZ P (ρ.f 146) [.str s, .str [c]] (.sl ((cutAt c s).map V.str)) := by
  refine FnZ_calls hf fun Z w vs hz hv => ?_
  cases hv with | cons h1 hv => cases hv with | cons h2 hv => cases hv with | nil =>
    cases h1 with
    | @str _ b hb =>
      cases h2 with
      | @str _ bsep hb2 =>
        have hq : GQ P (ρ.g 1) (fun v => ∃ m, v = .int .i64 m) := GQ.maxLen hg
        obtain ⟨_, v, hc, m, rfl⟩ := hz.gl _ _ hq
        have hsz : b.size = s.length := by rw [← hb]; rfl
        have hsz2 : bsep.size = 1 := by have := congrArg List.length hb2; simpa using this
        have e1 : (Go.Lib.splitB bsep 0 (Go.Lib.countB b bsep) b).map (·.data.toList) = cutAt c s := by
          rw [Go.Lib.splitB_data]
          show Go.Lib.splitK bsep.data.toList 0 (Go.Lib.count b.data.toList bsep.data.toList) b.data.toList = _
          rw [hb, hb2]; exact split_is_cut c s
        have hlen := Go.Lib.splitB_all bsep (by omega) 0 _ b rfl
        have hle := cutAt_len c s
        have hlen2 : (Go.Lib.splitB bsep 0 (Go.Lib.countB b bsep) b).length = (cutAt c s).length := by rw [← e1, List.length_map]
        refine calls_mono (Any.strings_Split L hi9 b bsep m w (by omega) hc (by omega)) ?_
        rintro e w' ⟨rfl, rfl⟩
        refine ⟨_, rfl, (Below.refl _ _).alloc (Nat.le_refl _) _, ?_⟩
        rw [← hlen, ← e1]
        exact strs_alloc _ _ (by rw [hlen2]; simp only [maxLen]; omega)
end
end TL

/- Reading places: the program. -/
set_option linter.unusedSimpArgs false
set_option linter.unusedVariables false
set_option maxRecDepth 100000
set_option maxHeartbeats 4000000
set_option pp.maxSteps 1500
namespace TL
open Go Go.Proofs
attribute [local simp] marksV storyV codeV Claim.v Place.v
def optP (o : Option Place) : V := .tup [(o.getD ⟨0, []⟩).v, .bool o.isSome]
theorem readP_short {s : List UInt8} (h : s.length < 3) : readP s = none := readP_none fun p hp hs => by
  rw [placeTx_shape hp] at hs
  have := restTx_pos hp
  have h1 := List.length_pos_iff.2 this
  rw [← hs] at h; simp only [List.length_cons] at h; omega
theorem readP_blank {a b : UInt8} {s : List UInt8} (h : b ≠ 32) : readP (a :: b :: s) = none := readP_none fun p hp hs => by
  rw [placeTx_shape hp] at hs
  exact h (List.cons.inj (List.cons.inj hs).2).1.symm
theorem reads_next {D : Int} {ps : List (List UInt8)} {i : Nat} {l : List Claim} {c : Claim} (hi : i < ps.length) (h : (ps.take i).map (readC D) = l.map some) (hc : readC D ps[i] = some c) : (ps.take (i + 1)).map (readC D) = (l ++ [c]).map some := by
  rw [List.take_succ_eq_append_getElem hi, List.map_append, List.map_append, h]
  simp [hc]
theorem reads_len {D : Int} {ps : List (List UInt8)} {i : Nat} {l : List Claim} (h : (ps.take i).map (readC D) = l.map some) : l.length ≤ i := by
  have := congrArg List.length h
  rw [List.length_map, List.length_map, List.length_take] at this; omega
def Irp (s rest : List UInt8) (D : Int) (e : Nat) (x : S) : Prop := ∃ (i : Nat) (l : List Claim) (row : T), x.tm 0 = .v (.str s) ∧ x.tm 2 = .ptr 0 0 ∧ x.m 0 = some (.box 28 2 [.v (.int .i64 0), .nil]) ∧ x.tm 4 = .ptr 1 0 ∧
  x.m 1 = some (.box 28 2 [.v (.int .i64 D), row]) ∧ (row = .nil ∧ l = [] ∨ ∃ id, row = .loc id ∧ 1 < id ∧ id < x.n ∧ x.m id = some (.arr 55 (l.map Claim.v))) ∧
  x.tm 28 = .v (.sl ((cutAt 44 rest).map V.str)) ∧ x.tm 29 = .v (.int .i64 (cutAt 44 rest).length) ∧ x.tm 30 = .v (.int .i64 i) ∧ x.mu = false ∧ 1 < x.n ∧ i ≤ (cutAt 44 rest).length ∧ ((cutAt 44 rest).take i).map (readC D) = l.map some ∧ (e = 1 → i = (cutAt 44 rest).length)
end TL

/- Rows of claims whose rows of marks are the caller's own: marked, and held. -/
set_option linter.unusedSimpArgs false
set_option linter.unusedVariables false
set_option maxRecDepth 100000
set_option maxHeartbeats 4000000
set_option pp.maxSteps 1500
namespace TL
open Go Go.Proofs
attribute [local simp] marksV storyV codeV Claim.v Place.v
def clT : List Claim → List Nat → List T
  | c :: l, j :: js => .v (.int .i64 c.who) :: .sv j 0 c.says.length :: clT l js
  | _, _ => []
@[simp] theorem clT_nil (js : List Nat) : clT [] js = [] := by cases js <;> rfl
@[simp] theorem clT_cons (c : Claim) (l : List Claim) (j : Nat) (js : List Nat) : clT (c :: l) (j :: js) = .v (.int .i64 c.who) :: .sv j 0 c.says.length :: clT l js := rfl
theorem clT_app : ∀ (A B : List Claim) (ja jb : List Nat), A.length = ja.length → clT (A ++ B) (ja ++ jb) = clT A ja ++ clT B jb
  | [], B, [], jb, h => rfl
  | c :: A, B, j :: ja, jb, h => by simp [clT_app A B ja jb (by simpa using h)]
  | [], B, j :: ja, jb, h => by simp at h
  | c :: A, B, [], jb, h => by simp at h
theorem clT_len : ∀ (A : List Claim) (ja : List Nat), A.length = ja.length → (clT A ja).length = A.length * 2
  | [], [], h => rfl
  | c :: A, j :: ja, h => by simp [clT_len A ja (by simpa using h)]; omega
  | [], j :: ja, h => by simp at h
  | c :: A, [], h => by simp at h
theorem clT_cells : ∀ (A : List Claim) (ja : List Nat), allC (clT A ja)
  | [], ja => by simp
  | c :: A, [] => by simp [clT]
  | c :: A, j :: ja => by simp; exact clT_cells A ja
/-- The rows of marks lie where the ids say. -/
def Says (m : Mem) : List Claim → List Nat → Prop
  | [], [] => True
  | c :: l, j :: js => m j = some (.box 67 2 (mkT c.says)) ∧ Says m l js
  | _, _ => False
theorem Says.len {m : Mem} : ∀ {l : List Claim} {js : List Nat}, Says m l js → l.length = js.length
  | [], [], _ => rfl
  | c :: l, j :: js, h => by simp [Says.len h.2]
  | [], j :: js, h => h.elim
  | c :: l, [], h => h.elim
theorem Says.keep {m m' : Mem} : ∀ {l : List Claim} {js : List Nat}, Says m l js → (∀ j ∈ js, m' j = m j) → Says m' l js
  | [], [], _, _ => trivial
  | c :: l, j :: js, h, hk => ⟨by rw [hk j (by simp)]; exact h.1, h.2.keep fun x hx => hk x (by simp [hx])⟩
  | [], j :: js, h, _ => h.elim
  | c :: l, [], h, _ => h.elim
theorem Says.app {m : Mem} : ∀ {A B : List Claim} {ja jb : List Nat}, A.length = ja.length → (Says m (A ++ B) (ja ++ jb) ↔ Says m A ja ∧ Says m B jb)
  | [], B, [], jb, h => by simp [Says]
  | c :: A, B, j :: ja, jb, h => by
    have := Says.app (m := m) (A := A) (B := B) (ja := ja) (jb := jb) (by simpa using h)
    simp only [List.cons_append, Says, this, and_assoc]
  | [], B, j :: ja, jb, h => by simp at h
  | c :: A, B, [], jb, h => by simp at h
theorem clT_bor {m : Mem} (d : Nat) : ∀ {l : List Claim} {js : List Nat}, Says m l js → mapO (bor true m (d + 1)) (clT l js) = some (l.flatMap fun c => c.v.cells)
  | [], [], _ => rfl
  | c :: l, j :: js, h => by
    have e := bor_marks (m := m) (i := j) (e := 67) (ms := c.says) d h.1
    have e2 := clT_bor d h.2
    simp only [marksV] at e
    simp [mapO, e, e2, V.cells]
  | [], j :: js, h => h.elim
  | c :: l, [], h => h.elim
theorem clV_cell (l : List Claim) : ∀ x ∈ (l.flatMap fun c => c.v.cells), x.cell = true := by
  intro x hx
  obtain ⟨p, _, hp⟩ := List.mem_flatMap.1 hx
  simp [V.cells] at hp
  rcases hp with rfl | rfl <;> rfl
theorem clV_chunk (l : List Claim) : chunk 2 l.length (l.flatMap fun c => c.v.cells) = l.map Claim.v := by
  induction l with
  | nil => rfl
  | cons x xs ih => simp [chunk, V.cells]; simpa [V.cells] using ih
theorem bor_claims {m : Mem} {i e : Nat} {l : List Claim} {js : List Nat} (d : Nat) (h : m i = some (.box e 2 (clT l js))) (hs : Says m l js) : bor true m (d + 2) (.sv i 0 l.length) = some (.sl (l.map Claim.v)) := by
  have hl := clT_len l js hs.len
  have c1 : 0 + l.length * 2 ≤ (clT l js).length := by omega
  show (match m i with | some (.box _ z cs) => tst (0 + l.length * z ≤ cs.length) (obind (mapO (TL.bor true m (d + 1)) ((cs.drop 0).take (l.length * z))) fun xs => tst (∀ x ∈ xs, x.cell = true) (some (V.sl (chunk z l.length xs)))) | _ => none) = _
  rw [h]
  show tst (0 + l.length * 2 ≤ (clT l js).length) (obind (mapO (TL.bor true m (d + 1)) (((clT l js).drop 0).take (l.length * 2))) fun xs => tst (∀ x ∈ xs, x.cell = true) (some (V.sl (chunk 2 l.length xs)))) = _
  rw [tst_pos c1, List.drop_zero, List.take_of_length_le (by omega), clT_bor d hs, obind_some, tst_pos (clV_cell l), clV_chunk]
/-! Marks. -/
def mkc (k : Int) : List Claim → List Claim
  | [] => []
  | c :: l => ⟨k, cnts (k + 1) c.says.length⟩ :: mkc (k + 1 + 2 * c.says.length) l
def mkn (k : Int) : List Claim → Int
  | [] => k
  | c :: l => mkn (k + 1 + 2 * c.says.length) l
theorem mkn_ge : ∀ (l : List Claim) (k : Int), k + l.length ≤ mkn k l
  | [], k => by simp [mkn]
  | c :: l, k => by have := mkn_ge l (k + 1 + 2 * c.says.length); simp only [mkn, List.length_cons]; omega
@[simp] theorem mkc_length : ∀ (l : List Claim) (k : Int), (mkc k l).length = l.length
  | [], k => rfl
  | c :: l, k => by simp [mkc, mkc_length l]
def Imc (id : Nat) (l : List Claim) (js : List Nat) (k : Int) (m0 : Mem) (n0 : Nat) (e : Nat) (s : S) : Prop := ∃ (i : Nat) (A B : List Claim) (ja jb : List Nat) (kk : Int), s.tm 0 = .sv id 0 l.length ∧ s.tm 1 = .v (.int .i64 kk) ∧ s.tm 5 = .v (.int .i64 i) ∧ A.length = i ∧ ja.length = i ∧ i + B.length = l.length ∧ ja ++ jb = js ∧
  n0 ≤ s.n ∧ s.m id = some (.box 55 2 (clT (A ++ B) js)) ∧ Says s.m (A ++ B) js ∧ mkc k l = A ++ mkc kk B ∧ mkn k l = mkn kk B ∧ 0 ≤ kk ∧ (∀ j, j < n0 → j ≠ id → j ∉ js → s.m j = m0 j) ∧ (∀ c ∈ B, c.says.length ≤ 1000000000) ∧ (e = 1 → B = [])
theorem cell_set (A : List T) (x y : T) (B : List T) (i : Nat) (h : A.length = i) : (A ++ x :: B).set i y = A ++ y :: B := by
  rw [List.set_append_right _ _ (by omega), h, Nat.sub_self]; rfl
theorem markClaimS_fn (l : List Claim) (js : List Nat) (k : Int) (hk0 : 0 ≤ k) (hk : mkn k l ≤ 100000000000000) (m : Mem) (n id : Nat) (hid : id < n) (hjs : ∀ j ∈ js, j < n) (hnd : js.Nodup) (hin : id ∉ js) (hm : m id = some (.box 55 2 (clT l js))) (hs : Says m l js) (hl : ∀ c ∈ l, c.says.length ≤ 1000000000) :
    FnS Try.prog 21 m n [.sv id 0 l.length, .v (.int .i64 k)] (fun t m' n' => t = .v (.int .i64 (mkn k l)) ∧ n ≤ n' ∧ m' id = some (.box 55 2 (clT (mkc k l) js)) ∧ Says m' (mkc k l) js ∧ ∀ j, j < n → j ≠ id → j ∉ js → m' j = m j) := by
  refine FnS_of (rs := [.tmp 4]) false Try.func21 rfl rfl rfl rfl (Nat.le_of_ble_eq_true rfl) ?_
  have hge := mkn_ge l k
  simp -dsimp
  refine twp_loopC (Imc id l js k m n 0) (fun s => l.length - natOf (s.tm 5)) (Imc id l js k m n 1) ?_ ?_ ?_
  · exact ⟨0, [], l, [], js, k, by simp -dsimp, by simp -dsimp, by simp -dsimp, rfl, rfl, by omega, rfl, by simp -dsimp, by simpa -dsimp using hm, by simpa -dsimp using hs, rfl, rfl, hk0, fun j _ _ _ => by simp -dsimp, hl, by simp⟩
  · rintro s ⟨i, A, B, ja, jb, kk, t0, t1, t5, hA, hja, hB, hjj, hn, hmm, hss, hmk, hmn, hk1, hout, hbl, hend⟩
    cases B with
    | nil =>
      have hlt : ¬ i < l.length := by simp at hB; omega
      simp -dsimp [t0, t5, hlt]
      exact ⟨i, A, [], ja, jb, kk, by simp -dsimp [t0], by simp -dsimp [t1], by simp -dsimp [t5], hA, hja, hB, hjj, by simp -dsimp [hn], by simp -dsimp [hmm], hss, hmk, hmn, hk1, fun j j1 j2 j3 => by simp -dsimp [hout j j1 j2 j3], hbl, fun _ => rfl⟩
    | cons c B =>
      have hlt : i < l.length := by simp at hB; omega
      have hlen := hss.len
      cases jb with
      | nil => exfalso; rw [← hjj] at hlen; simp at hlen; omega
      | cons j jb =>
        subst hjj
        have hAj : A.length = ja.length := by omega
        have hjm : j ∈ ja ++ j :: jb := by simp
        have hsA := (Says.app hAj).1 hss
        have hjj := hsA.2.1
        have hji : ¬ j = id := fun e => hin (e ▸ hjm)
        have hij : ¬ id = j := fun e => hji e.symm
        have hjn := hjs j hjm
        have ecl : clT (A ++ c :: B) (ja ++ j :: jb) = clT A ja ++ .v (.int .i64 c.who) :: .sv j 0 c.says.length :: clT B jb := by rw [clT_app _ _ _ _ hAj]; rfl
        have hAl : (clT A ja).length = i * 2 := by rw [clT_len _ _ hAj, hA]
        have hset := cell_set (clT A ja) (.v (.int .i64 c.who)) (.v (.int .i64 kk)) (.sv j 0 c.says.length :: clT B jb) (i * 2) hAl
        have hll : (clT A ja ++ T.v (.int .i64 c.who) :: .sv j 0 c.says.length :: clT B jb).length = i * 2 + 2 + (clT B jb).length := by simp [hAl]; omega
        have hg1 : (clT A ja ++ T.v (.int .i64 kk) :: .sv j 0 c.says.length :: clT B jb)[i * 2 + 1]? = some (.sv j 0 c.says.length) := by
          rw [List.getElem?_append_right (by omega), hAl]; simp
        have hcl := hbl c (by simp)
        have hmnl := mkn_ge B (kk + 1 + 2 * c.says.length)
        have hmn2 : mkn k l = mkn (kk + 1 + 2 * c.says.length) B := hmn
        rw [hmn2] at hk
        have wi : IntKind.wrap .i64 ((i : Int) + 1) = ((i + 1 : Nat) : Int) := by rw [w64 (by omega) (by omega)]; omega
        have w1 : IntKind.wrap .i64 (kk + 1) = kk + 1 := w64 (by omega) (by omega)
        have hmu : l.length - (i + 1) < l.length - i := by omega
        have hlt' : (i : Int) < (l.length : Int) := by omega
        have f1 := far (show id < s.n by omega)
        have f2 := far (show j < s.n by omega)
        rw [ecl] at hmm
        have o1 : i * 2 + 1 ≤ i * 2 + 2 + (clT B jb).length := by omega
        have o2 : i * 2 + 1 + 1 ≤ i * 2 + 2 + (clT B jb).length := by omega
        have o3 : i * 2 < i * 2 + 2 + (clT B jb).length := by omega
        generalize hc1 : clT A ja ++ T.v (.int .i64 c.who) :: .sv j 0 c.says.length :: clT B jb = c1 at *
        generalize hc2 : clT A ja ++ T.v (.int .i64 kk) :: .sv j 0 c.says.length :: clT B jb = c2 at *
        simp -dsimp [t0, t1, t5, hlt, hlt', hmm, hll, setAt, hset, hg1, w1, wi, hmu, o1, o2, o3]
        refine callS_ (markMarkS_fn c.says (kk + 1) hcl (by omega) (by omega) _ _ j (by simp [hji, hjj])) ?_
        rintro t m2 n2 ⟨rfl, hn2, rfl⟩
        have g1 := far (show id < n2 by omega)
        simp -dsimp [t0, t1, t5, wi, hmu]
        refine st_out fun s' ht hm' hn' hu' => ?_
        have a0 := ht 0
        have a1 := ht 1
        have a5 := ht 5
        simp -dsimp [t0, wi] at a0 a1 a5 hm' hn' hu'
        clear ht
        have nj : j ∉ ja ∧ j ∉ jb := by
          rw [List.nodup_append] at hnd
          exact ⟨fun h => hnd.2.2 j h j (by simp) rfl, (List.nodup_cons.1 hnd.2.1).1⟩
        refine ⟨i + 1, A ++ [⟨kk, cnts (kk + 1) c.says.length⟩], B, ja ++ [j], jb, kk + 1 + 2 * c.says.length, a0, by rw [a1], a5, by simp [hA], by simp [hja], by simp at hB ⊢; omega, by simp, by omega, ?_, ?_, ?_, hmn, by omega, fun x x1 x2 x3 => ?_, fun x hx => hbl x (by simp [hx]), by simp⟩
        · have e : A ++ [(⟨kk, cnts (kk + 1) c.says.length⟩ : Claim)] ++ B = A ++ ⟨kk, cnts (kk + 1) c.says.length⟩ :: B := by simp
          rw [e, clT_app _ _ _ _ hAj, clT_cons, cnts_length, hc2]
          simp [hm', hij]
        · have e : A ++ [(⟨kk, cnts (kk + 1) c.says.length⟩ : Claim)] ++ B = A ++ ⟨kk, cnts (kk + 1) c.says.length⟩ :: B := by simp
          rw [e]
          refine (Says.app hAj).2 ⟨hsA.1.keep fun x hx => ?_, by simp [hm'], hsA.2.2.keep fun x hx => ?_⟩
          · have y1 : ¬ x = j := fun h => nj.1 (h ▸ hx)
            have y2 : ¬ x = id := fun h => hin (h ▸ by simp [hx])
            simp [hm', y1, y2]
          · have y1 : ¬ x = j := fun h => nj.2 (h ▸ hx)
            have y2 : ¬ x = id := fun h => hin (h ▸ by simp [hx])
            simp [hm', y1, y2]
        · rw [hmk]; simp [mkc]
        · have y1 : ¬ x = j := fun h => x3 (h ▸ hjm)
          simp [hm', y1, x2, hout x x1 x2 x3]
  · rintro s ⟨i, A, B, ja, jb, kk, t0, t1, t5, hA, hja, hB, hjj, hn, hmm, hss, hmk, hmn, hk1, hout, hbl, hend⟩
    have hb := hend rfl
    subst hb
    rw [List.append_nil] at hmm hss
    have e1 : mkc k l = A := by rw [hmk]; simp [mkc]
    have e2 : mkn k l = kk := hmn
    rw [e1, e2]
    simp -dsimp [t1]
    exact ⟨hn, hmm, hss, hout⟩
def Ihc (l : List Claim) (k : Int) (e : Nat) (s : S) : Prop := ∃ (i : Nat) (A B : List Claim) (kk : Int), s.tm 0 = .v (.sl ((mkc k l).map Claim.v)) ∧ s.tm 1 = .v (.int .i64 kk) ∧ s.tm 5 = .v (.int .i64 i) ∧ A.length = i ∧ i + B.length = l.length ∧ mkc k l = A ++ mkc kk B ∧ mkn k l = mkn kk B ∧ 0 ≤ kk ∧ (∀ c ∈ B, c.says.length ≤ 1000000000) ∧ (e = 1 → B = [])
theorem heldClaimS_fn (l : List Claim) (k : Int) (hk0 : 0 ≤ k) (hk : mkn k l ≤ 100000000000000) (hl : ∀ c ∈ l, c.says.length ≤ 1000000000) : FnZ Try.prog 32 [.sl ((mkc k l).map Claim.v), .int .i64 k] (.int .i64 (mkn k l)) := by
  refine FnZ_of (rs := [.tmp 4]) false Try.func32 rfl rfl rfl rfl (Nat.le_of_ble_eq_true rfl) ?_
  have hge := mkn_ge l k
  simp -dsimp
  refine twp_loopC (Ihc l k 0) (fun s => l.length - natOf (s.tm 5)) (Ihc l k 1) ?_ ?_ ?_
  · exact ⟨0, [], l, k, by simp -dsimp, by simp -dsimp, by simp -dsimp, rfl, by omega, rfl, rfl, hk0, hl, by simp⟩
  · rintro s ⟨i, A, B, kk, t0, t1, t5, hA, hB, hmk, hmn, hk1, hbl, hend⟩
    have hcl : ((mkc k l).map Claim.v).length = l.length := by simp
    cases B with
    | nil =>
      have hlt : ¬ i < l.length := by simp at hB; omega
      simp -dsimp [t0, t5, hlt]
      exact ⟨i, A, [], kk, by simp -dsimp [t0], by simp -dsimp [t1], by simp -dsimp [t5], hA, hB, hmk, hmn, hk1, hbl, fun _ => rfl⟩
    | cons c B =>
      have hlt : i < l.length := by simp at hB; omega
      have hget : ((mkc k l).map Claim.v)[i]? = some (Claim.v ⟨kk, cnts (kk + 1) c.says.length⟩) := by
        rw [hmk, List.getElem?_map, List.getElem?_append_right (by omega), hA, Nat.sub_self]; rfl
      have hcc := hbl c (by simp)
      have hmnl := mkn_ge B (kk + 1 + 2 * c.says.length)
      have hmn2 : mkn k l = mkn (kk + 1 + 2 * c.says.length) B := hmn
      have hmk2 : mkc k l = (A ++ [⟨kk, cnts (kk + 1) c.says.length⟩]) ++ mkc (kk + 1 + 2 * c.says.length) B := by rw [hmk]; simp [mkc]
      rw [hmn2] at hk
      have wi : IntKind.wrap .i64 ((i : Int) + 1) = ((i + 1 : Nat) : Int) := by rw [w64 (by omega) (by omega)]; omega
      have w1 : IntKind.wrap .i64 (kk + 1) = kk + 1 := w64 (by omega) (by omega)
      have hmu : l.length - (i + 1) < l.length - i := by omega
      have hneg : ¬ kk + 1 + 2 * (c.says.length : Int) < 0 := by omega
      have hheld := heldMarkS_fn c.says.length (kk + 1) hcc (by omega) (by omega)
      generalize hrow : (mkc k l).map Claim.v = row at *
      have hlt2 : i < row.length := by omega
      have hget2 : row[i] = Claim.v ⟨kk, cnts (kk + 1) c.says.length⟩ := by rw [List.getElem?_eq_getElem hlt2] at hget; exact Option.some.inj hget
      simp -dsimp [t0, t1, t5, hlt, hlt2, hcl, hget2, w1, wi, hmu]
      refine call_ hheld (by simp -dsimp) ?_
      simp -dsimp [t0, t1, t5, hlt, hlt2, hcl, hget2, w1, wi, hmu, hneg]
      refine st_out fun s' ht hm' hn' hu' => ?_
      have a0 := ht 0
      have a1 := ht 1
      have a5 := ht 5
      simp -dsimp [t0, wi] at a0 a1 a5 hm' hn' hu'
      clear ht
      exact ⟨i + 1, A ++ [⟨kk, cnts (kk + 1) c.says.length⟩], B, kk + 1 + 2 * c.says.length, by rw [a0, hrow], by rw [a1], a5, by simp [hA], by simp at hB ⊢; omega, hmk2, hmn2, by omega, fun x hx => hbl x (by simp [hx]), by simp⟩
  · rintro s ⟨i, A, B, kk, t0, t1, t5, hA, hB, hmk, hmn, hk1, hbl, hend⟩
    have hb := hend rfl
    subst hb
    have e2 : mkn k l = kk := hmn
    rw [e2]
    simp -dsimp [t1]
end TL

/- Places that are read, in memory of the caller's own. -/
set_option linter.unusedSimpArgs false
set_option linter.unusedVariables false
set_option maxRecDepth 100000
set_option maxHeartbeats 4000000
set_option pp.maxSteps 1500
namespace TL
open Go Go.Proofs
attribute [local simp] marksV storyV codeV Claim.v Place.v
def OwnRowC (m : Mem) (lo hi : Nat) (st : T) (l : List Claim) (js : List Nat) : Prop := (∀ j ∈ js, lo ≤ j ∧ j < hi) ∧ js.Nodup ∧ Says m l js ∧ ((st = .nil ∧ l = [] ∧ js = []) ∨ ∃ id, st = .sv id 0 l.length ∧ lo ≤ id ∧ id < hi ∧ id ∉ js ∧ m id = some (.box 55 2 (clT l js)))
def OwnP (p : Place) (m : Mem) (n : Nat) (t : T) (m' : Mem) (n' : Nat) : Prop := n ≤ n' ∧ (∀ j, j < n → m' j = m j) ∧ ∃ st js, t = .tup [.agg [.v (.int .i64 p.people), st], .v (.bool true)] ∧ OwnRowC m' n n' st p.story js
def Irpo (s rest : List UInt8) (D : Int) (m : Mem) (n : Nat) (e : Nat) (x : S) : Prop := ∃ (i : Nat) (l : List Claim) (js : List Nat) (row : T), x.tm 0 = .v (.str s) ∧ x.tm 2 = .ptr n 0 ∧ x.m n = some (.box 28 2 [.v (.int .i64 0), .nil]) ∧ x.tm 4 = .ptr (n + 1) 0 ∧
  x.m (n + 1) = some (.box 28 2 [.v (.int .i64 D), row]) ∧ OwnRowC x.m (n + 1 + 1) x.n row l js ∧
  x.tm 28 = .v (.sl ((cutAt 44 rest).map V.str)) ∧ x.tm 29 = .v (.int .i64 (cutAt 44 rest).length) ∧ x.tm 30 = .v (.int .i64 i) ∧ x.mu = true ∧ n + 1 + 1 ≤ x.n ∧ i ≤ (cutAt 44 rest).length ∧ ((cutAt 44 rest).take i).map (readC D) = l.map some ∧ (∀ j, j < n → x.m j = m j) ∧ (e = 1 → i = (cutAt 44 rest).length)
end TL

/- Reading places: the reference. -/
set_option linter.unusedSimpArgs false
set_option linter.unusedVariables false
set_option maxRecDepth 100000
set_option maxHeartbeats 4000000
set_option pp.maxSteps 1500
namespace TL
open Go Go.Proofs
attribute [local simp] marksV storyV codeV Claim.v Place.v
/-! Cutting. -/
def Icut (c : UInt8) (w : List UInt8) (e : Nat) (s : S) : Prop := ∃ (i f id : Nat) (ps : List (List UInt8)), s.tm 0 = .v (.str w) ∧ s.tm 1 = .v (.int .u8 c.toNat) ∧ s.tm 5 = .loc id ∧ id < s.n ∧ s.m id = some (.arr 9 (ps.map V.str)) ∧
  s.tm 6 = .v (.int .i64 f) ∧ s.tm 7 = .v (.int .i64 i) ∧ s.mu = false ∧ f ≤ i ∧ i ≤ w.length ∧ ps.length ≤ i ∧ ps ++ cutGo c ((w.take i).drop f) (w.drop i) = cutAt c w ∧ (e = 1 → i = w.length)
end TL

/- Numbers read: the reference. -/
set_option linter.unusedSimpArgs false
set_option linter.unusedVariables false
set_option maxRecDepth 100000
set_option maxHeartbeats 4000000
set_option pp.maxSteps 1500
namespace TL
open Go Go.Proofs
attribute [local simp] marksV storyV codeV Claim.v Place.v
/-! Numbers. -/
def digGo : Nat → List UInt8 → Int
  | acc, [] => acc
  | acc, c :: r => if c.toNat < 48 ∨ 57 < c.toNat then -1 else digGo (10 * acc + (c.toNat - 48)) r
def digS (s : List UInt8) : Int := if (1 ≤ s.length ∧ s.length ≤ 6) ∧ ¬ (1 < s.length ∧ s.head? = some 48) then digGo 0 s else -1
def Idig (w : List UInt8) (e : Nat) (s : S) : Prop := ∃ i acc : Nat, s.tm 0 = .v (.str w) ∧ s.tm 3 = .v (.int .i64 acc) ∧ s.tm 4 = .v (.int .i64 i) ∧ i ≤ w.length ∧ acc < 10 ^ i ∧ digGo acc (w.drop i) = digGo 0 w ∧ (e = 1 → i = w.length)
end TL

/- Places read: the reference. -/
set_option linter.unusedSimpArgs false
set_option linter.unusedVariables false
set_option maxRecDepth 100000
set_option maxHeartbeats 4000000
set_option pp.maxSteps 1500
namespace TL
open Go Go.Proofs
attribute [local simp] marksV storyV codeV Claim.v Place.v
/-! Places. -/
theorem cut32_text {p : Place} (h : placeOk p = true) : cutAt 32 (placeTx p) = [[UInt8.ofNat (48 + p.people.toNat)], restTx p] := by
  obtain ⟨h1, h2, _, _⟩ := placeOk_all h
  rw [placeTx_shape h]
  have hd : ∀ y ∈ [UInt8.ofNat (48 + p.people.toNat)], y ≠ 32 := fun y hy => by
    rw [List.mem_singleton.1 hy]
    rcases (by omega : p.people = 1 ∨ p.people = 2 ∨ p.people = 3 ∨ p.people = 4) with e | e | e | e <;> rw [e] <;> decide
  have := cutAt_app (r := restTx p) hd
  rw [cutAt_none fun y hy => (restTx_plain h y hy).1] at this
  exact this
theorem digS_digit {n : Int} (h0 : 1 ≤ n) (h4 : n ≤ 4) : digS [UInt8.ofNat (48 + n.toNat)] = n := by
  rcases (by omega : n = 1 ∨ n = 2 ∨ n = 3 ∨ n = 4) with rfl | rfl | rfl | rfl <;> rfl
theorem parts_two {s x rest : List UInt8} (h : cutAt 32 s = [x, rest]) : parts s (digS x) rest := ⟨(fun e => by rw [e] at h; cases h), fun p hp hs => by
  obtain ⟨h1, h2, _, _⟩ := placeOk_all hp
  rw [← hs, cut32_text hp] at h
  injection h with h3 h4
  injection h4 with h5 _
  rw [← h3, digS_digit h1 h2]
  exact ⟨rfl, h5.symm⟩⟩
theorem readP_parts {s : List UInt8} (h : (cutAt 32 s).length ≠ 2) : readP s = none := readP_none fun p hp hs => by
  rw [← hs, cut32_text hp] at h; exact h rfl
theorem reads_ok {D : Int} {ps : List (List UInt8)} {l : List Claim} (h : ps.map (readC D) = l.map some) : ∀ c ∈ l, claimOk D c = true := fun c hc => by
  have : some c ∈ ps.map (readC D) := by rw [h]; exact List.mem_map_of_mem hc
  obtain ⟨x, _, hx⟩ := List.mem_map.1 this
  exact (readC_is hx).1
theorem claimOk_fine {D : Int} {c : Claim} (h : claimOk D c = true) : c.fine := by
  obtain ⟨_, _, _, _, h5, h6⟩ := claimOk_all h
  exact ⟨termOk_fits h5, by omega⟩
def Isrp (s x rest : List UInt8) (D : Int) (e : Nat) (y : S) : Prop := ∃ (i : Nat) (l : List Claim) (row : T), y.tm 0 = .v (.str s) ∧ y.tm 2 = .ptr 0 0 ∧ y.m 0 = some (.box 28 2 [.v (.int .i64 0), .nil]) ∧ y.tm 5 = .ptr 1 0 ∧
  y.m 1 = some (.box 28 2 [.v (.int .i64 D), row]) ∧ (row = .nil ∧ l = [] ∨ ∃ id, row = .loc id ∧ 1 < id ∧ id < y.n ∧ y.m id = some (.arr 55 (l.map Claim.v))) ∧
  y.tm 4 = .v (.sl [.str x, .str rest]) ∧ y.tm 6 = .v (.sl ((cutAt 44 rest).map V.str)) ∧ y.tm 7 = .v (.int .i64 i) ∧ y.mu = false ∧ 1 < y.n ∧ i ≤ (cutAt 44 rest).length ∧ ((cutAt 44 rest).take i).map (readC D) = l.map some ∧ (rest = [46] → l = []) ∧ (e = 1 → rest = [46] ∨ i = (cutAt 44 rest).length)
end TL

/- The exact law of reading places. -/
set_option linter.unusedSimpArgs false
set_option linter.unusedVariables false
set_option maxRecDepth 100000
set_option maxHeartbeats 4000000
set_option pp.maxSteps 1500
namespace TL
open Go Go.Proofs
attribute [local simp] marksV storyV codeV Claim.v Place.v
theorem OwnRowC.cell {m : Mem} {lo hi : Nat} {st : T} {l : List Claim} {js : List Nat} (h : OwnRowC m lo hi st l js) : st.cell = true := by
  rcases h.2.2.2 with ⟨rfl, _⟩ | ⟨id, rfl, _⟩ <;> rfl
theorem OwnRowC.cells {m : Mem} {lo hi : Nat} {st : T} {l : List Claim} {js : List Nat} (h : OwnRowC m lo hi st l js) : st.cells = [st] := by
  rcases h.2.2.2 with ⟨rfl, _⟩ | ⟨id, rfl, _⟩ <;> rfl
theorem OwnRowC.keep {m m' : Mem} {lo hi : Nat} {st : T} {l : List Claim} {js : List Nat} (h : OwnRowC m lo hi st l js) (hk : ∀ j, lo ≤ j → j < hi → m' j = m j) : OwnRowC m' lo hi st l js := by
  obtain ⟨h1, h2, h3, h4⟩ := h
  refine ⟨h1, h2, h3.keep fun j hj => hk j (h1 j hj).1 (h1 j hj).2, ?_⟩
  rcases h4 with h4 | ⟨id, e, i0, i1, i2, i3⟩
  · exact .inl h4
  · exact .inr ⟨id, e, i0, i1, i2, by rw [hk id i0 i1, i3]⟩
theorem OwnRowC.bor {m : Mem} {lo hi : Nat} {st : T} {l : List Claim} {js : List Nat} (h : OwnRowC m lo hi st l js) (d : Nat) : TL.bor true m (d + 2) st = some (.sl (l.map Claim.v)) := by
  obtain ⟨h1, h2, h3, h4⟩ := h
  rcases h4 with ⟨rfl, rfl, rfl⟩ | ⟨id, rfl, i0, i1, i2, i3⟩
  · rfl
  · exact bor_claims d i3 h3
theorem markClaimS_nil (m : Mem) (n : Nat) (k : Int) : FnS Try.prog 21 m n [.nil, .v (.int .i64 k)] (fun t m' n' => t = .v (.int .i64 k) ∧ n ≤ n' ∧ m' = m) := by
  refine FnS_of (rs := [.tmp 4]) false Try.func21 rfl rfl rfl rfl (Nat.le_of_ble_eq_true rfl) ?_
  simp -dsimp
  refine twp_loopC (fun s => s.tm 0 = .nil ∧ s.tm 1 = .v (.int .i64 k) ∧ s.tm 5 = .v (.int .i64 0) ∧ s.m = m ∧ n ≤ s.n) (fun s => 0) (fun s => s.tm 1 = .v (.int .i64 k) ∧ s.m = m ∧ n ≤ s.n) ?_ ?_ ?_
  · simp -dsimp
  · rintro s ⟨t0, t1, t5, hm, hn⟩
    simp -dsimp [t0, t1, t5, hm, hn]
  · rintro s ⟨t1, hm, hn⟩
    simp -dsimp [t1, hm, hn]
theorem markPlace_own (p : Place) (k : Int) (hk0 : 0 ≤ k) (hk : mkn k p.story ≤ 100000000000000) (hl : ∀ c ∈ p.story, c.says.length ≤ 1000000000) (m : Mem) (lo hi n : Nat) (hlo : hi ≤ n) (st : T) (js : List Nat) (h : OwnRowC m lo hi st p.story js) :
    FnS Try.prog 10 m n [.agg [.v (.int .i64 p.people), st], .v (.int .i64 k)] (fun t m' n' => t = .v (.int .i64 (mkn k p.story)) ∧ n ≤ n' ∧ OwnRowC m' lo hi st (mkc k p.story) js ∧ ∀ j, j < n → j < lo ∨ hi ≤ j → m' j = m j) := by
  have hc := h.cell
  have hcs := h.cells
  refine FnS_of (rs := [.tmp 4]) false Try.func10 rfl rfl rfl rfl (Nat.le_of_ble_eq_true rfl) ?_
  obtain ⟨h1, h2, h3, h4⟩ := h
  rcases h4 with ⟨rfl, e, rfl⟩ | ⟨id, rfl, i0, i1, i2, i3⟩
  · simp -dsimp [nes]
    refine callS_ (markClaimS_nil _ _ k) ?_
    rintro t m2 n2 ⟨rfl, hn2, rfl⟩
    simp -dsimp [e, mkn, mkc]
    exact ⟨by omega, ⟨by simp, List.nodup_nil, trivial, .inl ⟨rfl, rfl, rfl⟩⟩, fun j j1 _ => by simp [show ¬ j = n by omega]⟩
  · simp -dsimp [nes, hc, hcs]
    refine callS_ (markClaimS_fn p.story js k hk0 hk _ _ id (by omega) (fun j hj => by have := (h1 j hj).2; omega) h2 i2 (by simp [show ¬ id = n by omega, i3]) (h3.keep fun j hj => by have := (h1 j hj).2; simp [show ¬ j = n by omega]) hl) ?_
    rintro t m2 n2 ⟨rfl, hn2, e1, e2, e3⟩
    simp -dsimp
    refine ⟨by omega, ⟨h1, h2, e2, .inr ⟨id, by simp, i0, i1, i2, e1⟩⟩, fun j j1 j2 => ?_⟩
    have q1 : j ∉ js := fun hj => by have := h1 j hj; omega
    rw [e3 j (by omega) (by omega) q1]; simp [show ¬ j = n by omega]
theorem heldPlace_fn (q : Int) (l : List Claim) (k : Int) (hk0 : 0 ≤ k) (hk : mkn k l ≤ 100000000000000) (hl : ∀ c ∈ l, c.says.length ≤ 1000000000) : FnZ Try.prog 23 [(⟨q, mkc k l⟩ : Place).v, .int .i64 k] (.int .i64 (mkn k l)) := by
  have h := heldClaimS_fn l k hk0 hk hl
  have hge := mkn_ge l k
  have h0 : ¬ mkn k l < 0 := by omega
  refine FnZ_of (rs := [.tmp 4]) false Try.func23 rfl rfl rfl rfl (Nat.le_of_ble_eq_true rfl) ?_
  simp -dsimp
  refine call_ h (by simp -dsimp) ?_
  simp -dsimp [h0]
theorem markPlace_no (q k : Int) : FnZ Try.prog 10 [(⟨q, []⟩ : Place).v, .int .i64 k] (.int .i64 k) := by
  have h : FnZ Try.prog 21 [.sl [], .int .i64 k] (.int .i64 k) := by
    refine FnZ_of (rs := [.tmp 4]) false Try.func21 rfl rfl rfl rfl (Nat.le_of_ble_eq_true rfl) ?_
    simp -dsimp
    refine twp_loopC (fun s => s.tm 0 = .v (.sl []) ∧ s.tm 1 = .v (.int .i64 k) ∧ s.tm 5 = .v (.int .i64 0)) (fun s => 0) (fun s => s.tm 1 = .v (.int .i64 k)) ?_ ?_ ?_
    · simp -dsimp
    · rintro s ⟨t0, t1, t5⟩
      simp -dsimp [t0, t1, t5]
    · rintro s t1
      simp -dsimp [t1]
  refine FnZ_of (rs := [.tmp 4]) false Try.func10 rfl rfl rfl rfl (Nat.le_of_ble_eq_true rfl) ?_
  simp -dsimp
  refine call_ h (by simp -dsimp) ?_
  simp -dsimp
theorem mkn_le (M : Nat) : ∀ (l : List Claim) (k : Int), (∀ c ∈ l, c.says.length ≤ M) → mkn k l ≤ k + l.length * (1 + 2 * M)
  | [], k, _ => by simp [mkn]
  | c :: l, k, h => by
    have h1 := h c (by simp)
    have h2 := mkn_le M l (k + 1 + 2 * c.says.length) (fun x hx => h x (by simp [hx]))
    simp only [mkn, List.length_cons]
    have e : ((l.length + 1 : Nat) : Int) * (1 + 2 * (M : Int)) = (l.length : Int) * (1 + 2 * M) + (1 + 2 * M) := by rw [Int.natCast_add, Int.add_mul]; simp
    rw [e]; omega
end TL

/- Desks. -/
set_option linter.unusedSimpArgs false
set_option linter.unusedVariables false
set_option maxRecDepth 100000
set_option maxHeartbeats 4000000
set_option pp.maxSteps 1500
namespace TL
open Go Go.Proofs
attribute [local simp] marksV storyV codeV Claim.v Place.v Desk.v
def Il15 (p : Place) (e : Nat) (s : S) : Prop := ∃ (i : Nat) (st : T) (z : List T), s.tm 1 = .ptr 0 0 ∧ s.tm 2 = .ptr 1 0 ∧ s.tm 3 = .ptr 2 0 ∧ s.tm 4 = .v (.int .i64 i) ∧ s.mu = false ∧ i ≤ p.story.length ∧ 3 ≤ s.n ∧
  s.m 0 = some (.box 28 2 [.v (.int .i64 p.people), .v (storyV p.story)]) ∧ s.m 1 = some (.box 28 2 z) ∧ z.length = 2 ∧ s.m 2 = some (.box 28 2 [.v (.int .i64 p.people), st]) ∧ IsRow s.m 3 s.n 55 st ((p.story.take i).map Claim.v) ∧ (e = 1 → i = p.story.length)
theorem l15Place_fn (p : Place) (hp : p.small) : FnZ Try.prog 15 [p.v] p.v := by
  have hl := hp.1
  refine FnZ_of (rs := [.cell 2 28]) false Try.func15 rfl rfl rfl rfl (Nat.le_of_ble_eq_true rfl) ?_
  simp -dsimp
  refine twp_loopC (Il15 p 0) (fun s => p.story.length - natOf (s.tm 4)) (Il15 p 1) ?_ ?_ ?_
  · exact ⟨0, .nil, [.v (.int .i64 0), .nil], by simp -dsimp, by simp -dsimp, by simp -dsimp, by simp -dsimp, by simp -dsimp, by omega, by simp -dsimp, by simp -dsimp, by simp -dsimp, rfl, by simp -dsimp, .inl ⟨rfl, by simp⟩, by simp⟩
  · rintro s ⟨i, st, z, t1, t2, t3, t4, hmu, hi, hn, m0, m1, hz, m2, hst, hend⟩
    by_cases hlt : i < p.story.length
    case neg =>
      simp -dsimp [t1, t4, m0, hlt]
      exact ⟨i, st, z, by simp -dsimp [t1], by simp -dsimp [t2], by simp -dsimp [t3], by simp -dsimp [t4], by simp -dsimp [hmu], hi, by simp -dsimp; omega, by simp -dsimp [m0], by simp -dsimp [m1], hz, by simp -dsimp [m2], hst, fun _ => by omega⟩
    have hget : (p.story.map Claim.v)[i]? = some (p.story[i].v) := by simp [hlt]
    have wi : IntKind.wrap .i64 ((i : Int) + 1) = ((i + 1 : Nat) : Int) := by rw [w64 (by omega) (by omega)]; omega
    have hmu1 : p.story.length - (i + 1) < p.story.length - i := by omega
    have f0 := far (show 0 < s.n by omega)
    have f1 := far (show 1 < s.n by omega)
    have f2 := far (show 2 < s.n by omega)
    have hsm := hp.2 p.story[i] (List.getElem_mem _)
    unfold Claim.small at hsm
    have b0 : p.story[i].says.length * 16 ≤ 140737488355328 := by omega
    have b1 : (min i p.story.length + 1) * 32 ≤ 140737488355328 := by omega
    have htk : (p.story.take (i + 1)).map Claim.v = (p.story.take i).map Claim.v ++ [p.story[i].v] := by rw [List.take_succ_eq_append_getElem hlt, List.map_append]; rfl
    simp -dsimp [t1, t4, m0, hlt]
    refine twp_draw [0, 1, 2, 3, 4, 5, 6, 7, 9, 10, 11, 12, 13, 14, 8, 15, 16, 17, 18, 19, 20] [0, 2] (List.replicate 21 [0, 1]) (List.replicate 20 [0, 1] ++ [[0]]) (by kernel_rfl) (by kernel_rfl) (by kernel_rfl) (by kernel_rfl) ?_
    rcases hst with ⟨rfl, hs0⟩ | ⟨id, rfl, hi0, hi1, him⟩
    · simp -dsimp [t1, t3, t4, m0, m2, hlt, hget, hmu, nes, f0, f1, f2, b0, wi, hmu1]
      have hi00 : i = 0 := by
        simp at hs0; rcases hs0 with h | h
        · exact h
        · rw [h] at hlt; simp at hlt
      subst hi00
      refine st_out fun s' ht hm' hn' hu' => ?_
      have q1 := ht 1
      have q2 := ht 2
      have q3 := ht 3
      have q4 := ht 4
      simp -dsimp [t1, t2, t3] at q1 q2 q3 q4 hm' hn' hu'
      clear ht
      have hn0 : ¬ s.n = 0 := by omega
      have hn1 : ¬ s.n = 1 := by omega
      refine ⟨1, .loc (s.n + 1 + 1 + 1), z, q1, q2, q3, q4, by rw [hu', hmu], by omega, by omega, by simp [hm', hn0, hn1, f0, m0], by simp [hm', hn0, hn1, f1, m1], hz, by simp [hm', hn0, hn1], .inr ⟨s.n + 1 + 1 + 1, rfl, by omega, by omega, ?_⟩, by simp⟩
      rw [htk]; simp [hm', hn0, hn1, f2]
    · have g1 := far hi1
      have g2 : ¬ id = 2 := by omega
      have g0 : ¬ id = 0 := by omega
      have g3 : ¬ id = 1 := by omega
      simp -dsimp [t1, t3, t4, m0, m2, hlt, hget, hmu, nes, f0, f1, f2, b0, b1, g1, g2, g0, g3, Ne.symm g0, Ne.symm g2, Ne.symm g3, him, wi, hmu1]
      refine st_out fun s' ht hm' hn' hu' => ?_
      have q1 := ht 1
      have q2 := ht 2
      have q3 := ht 3
      have q4 := ht 4
      simp -dsimp [t1, t2, t3] at q1 q2 q3 q4 hm' hn' hu'
      clear ht
      have hn0 : ¬ s.n = 0 := by omega
      have hn1 : ¬ s.n = 1 := by omega
      refine ⟨i + 1, .loc (s.n + 1 + 1 + 1), z, q1, q2, q3, q4, by rw [hu', hmu], by omega, by omega, by simp [hm', hn0, hn1, f0, m0, Ne.symm g0], by simp [hm', hn0, hn1, f1, m1, Ne.symm g3], hz, by simp [hm', hn0, hn1], .inr ⟨s.n + 1 + 1 + 1, rfl, by omega, by omega, ?_⟩, by simp⟩
      rw [htk]; simp [hm', hn0, hn1, f2, nes]
  · rintro s ⟨i, st, z, t1, t2, t3, t4, hmu, hi, hn, m0, m1, hz, m2, hst, hend⟩
    have := hend rfl
    subst this
    rw [List.take_length] at hst
    obtain ⟨z0, z1, rfl⟩ : ∃ a b, z = [a, b] := by
      match z, hz with
      | [a, b], _ => exact ⟨a, b, rfl⟩
    rcases hst with ⟨rfl, hs0⟩ | ⟨id, rfl, hi0, hi1, him⟩
    · simp -dsimp [t2, t3, m1, m2, hs0]
    · have g3 : ¬ id = 1 := by omega
      simp -dsimp [t2, t3, m1, m2, him, g3]
def deskNew (p : Place) : Desk := if placeOk p then ⟨p, []⟩ else noDeskV
theorem deskNew_fn (p : Place) (hp : p.small) : FnZ Try.prog 7 [p.v] (.tup [(deskNew p).v, .bool (placeOk p)]) := by
  refine FnZ_of (rs := [.cell 2 31, .tmp 3]) false Try.func7 rfl rfl rfl rfl (Nat.le_of_ble_eq_true rfl) ?_
  simp -dsimp
  refine call_ (placeOk_fn p (by have := hp.1; omega)) (by simp -dsimp) ?_
  have hk := ft (placeOk p)
  rcases hk with hk | hk
  · simp -dsimp [hk, deskNew, noDeskV]
  · simp -dsimp [hk]
    refine call_ (copyPlace_fn p hp) (by simp -dsimp) ?_
    simp -dsimp [deskNew, hk]
theorem deskNewS_fn (p : Place) (hp : p.small) (hf : p.fit) : FnZ Try.prog 5 [p.v] (.tup [(deskNew p).v, .bool (placeOk p)]) := by
  have fine : p.fine := ⟨by have := hp.1; omega, fun c hc => ⟨(hf.2 c hc).2, by have := hp.2 c hc; unfold Claim.small at this; omega⟩⟩
  refine FnZ_of (rs := [.cell 2 31, .tmp 3]) false Try.func5 rfl rfl rfl rfl (Nat.le_of_ble_eq_true rfl) ?_
  simp -dsimp
  refine call_ (placeOkS_fn p fine) (by simp -dsimp) ?_
  have hk := ft (placeOk p)
  rcases hk with hk | hk
  · simp -dsimp [hk, deskNew, noDeskV]
  · simp -dsimp [hk]
    refine call_ (l15Place_fn p hp) (by simp -dsimp) ?_
    simp -dsimp [deskNew, hk]
end TL

/- TL, part 25: a call whose arguments are lent and whose result is the caller's own. -/
set_option linter.unusedVariables false
set_option linter.unusedSimpArgs false
namespace TL
open Go Go.RowKit
variable {P : Program}
mutual
/-- Values of a frame that name nothing but its own memory. -/
def T.fl : T → Bool
  | .v x => x.flat
  | .nil => true
  | .sv _ _ _ => true
  | .ptr _ _ => true
  | .agg cs => flT cs
  | .tup cs => flT cs
  | _ => false
def flT : List T → Bool
  | [] => true
  | x :: xs => x.fl && flT xs
end
@[simp] theorem flT_nil : flT [] = true := rfl
@[simp] theorem flT_cons (x : T) (xs : List T) : flT (x :: xs) = (x.fl && flT xs) := rfl
@[simp] theorem fl_v (x : V) : (T.v x).fl = x.flat := rfl
@[simp] theorem fl_nil : T.nil.fl = true := rfl
@[simp] theorem fl_sv (i j k : Nat) : (T.sv i j k).fl = true := rfl
@[simp] theorem fl_ptr (i j : Nat) : (T.ptr i j).fl = true := rfl
@[simp] theorem fl_agg (cs : List T) : (T.agg cs).fl = flT cs := rfl
@[simp] theorem fl_tup (cs : List T) : (T.tup cs).fl = flT cs := rfl
theorem flT_append (a b : List T) : flT (a ++ b) = (flT a && flT b) := by
  induction a with
  | nil => simp
  | cons x xs ih => simp [ih, Bool.and_assoc]
def Blk.fl : Blk → Bool
  | .box _ _ cs => flT cs
  | _ => false
section
variable {φ : Phi} {Z Z' : Zs} {w w' : World}
mutual
theorem fl_rep {x : T} {u : Value} (h : x.fl = true) : RepT φ Z w x u → RepT φ Z' w' x u
  | .v g => .v (flat_rep h g)
  | .nil => .nil
  | .sv g hl hm ha h0 => .sv g hl hm ha h0
  | .ptr g => .ptr g
  | .ptrs g => .ptrs g
  | .agg g => .agg (flT_rep (by simpa using h) g)
  | .tup g => .tup (flT_rep (by simpa using h) g)
theorem flT_rep {x : List T} {u : List Value} (h : flT x = true) : RepTs φ Z w x u → RepTs φ Z' w' x u
  | .nil => .nil
  | .cons g t => .cons (fl_rep (by simp at h; exact h.1) g) (flT_rep (by simp at h; exact h.2) t)
end
end
def joinM (n : Nat) (m m' : Mem) : Mem := fun i => if i < n then m i else m' i
theorem FnS.own {f : Nat} {m : Mem} {n : Nat} {args : List T} {vs : List V} {post Q : T → Mem → Nat → Prop} (h : FnS P f (fun _ => none) n (vs.map .v) post) (ha : mapO (bor true m 4) args = some vs)
    (hp : ∀ t m' n', post t m' n' → ∃ m2, LeM m2 m' ∧ t.fl = true ∧ n ≤ n' ∧ (∀ i b, m2 i = some b → n ≤ i ∧ b.fl = true) ∧ Q t m2 n') :
    FnS P f m n args (fun t mm n' => ∃ m', Q t m' n' ∧ mm = joinM n m m') := by
  refine ⟨h.1, fun φ Z w us hm hr => ?_⟩
  let Zb : Zs := fun k o => Z k o ∨ Owned φ m k
  have hZ : SubZ Z Zb := fun k o h => .inl h
  have hvs := bors_sound hm (k := true) (Zb := Zb) hZ (fun _ g hg o => .inr hg) args us vs hr ha
  have no : ∀ k, ¬ Owned φ (fun _ => none) k := fun k ⟨i, b, v, h1, _⟩ => by cases h1
  have hm0 : RelM P φ Zb (fun _ => none) n w := by
    refine ⟨hm.ok, hm.fresh, fun i b hb => (by cases hb), fun i j a b u v k h1 => (by cases h1), ⟨fun k o hz => ?_, hm.zlt.gl.keep hZ fun _ _ _ => rfl⟩⟩
    rcases hz with hz | hz
    · exact hm.zlt.lt k o hz
    · exact hm.owned_lt hz
  refine (h.2 φ Zb w us hm0 hvs.toTs).mono fun e w' hh => ?_
  obtain ⟨v, φ', Z', m1, n', t, rfl, h1, h2, h3, h4⟩ := hh
  obtain ⟨m', hle, ht, hn, hb, h4⟩ := hp t m1 n' h4
  have h1 := h1.le hle
  have lift : ∀ k, Owned φ' m' k → Owned φ' m1 k := fun k ⟨i, b, v, c1, c2⟩ => ⟨i, b, v, hle _ _ c1, c2⟩
  have old : ∀ (i : Nat) (b : Blk) (v : Value), m i = some b → φ' i = some v → φ i = some v := fun i b v h5 h6 => by
    obtain ⟨u, h7, _⟩ := hm.blk i b h5
    rw [h3.ext i u h7] at h6; cases h6; exact h7
  have lt : ∀ (i : Nat) (b : Blk) (v : Value), m i = some b → i < n := fun i b v h5 => by
    obtain ⟨u, h7, _⟩ := hm.blk i b h5
    rcases Nat.lt_or_ge i n with h | h
    · exact h
    · rw [hm.fresh i h] at h7; cases h7
  have new : ∀ (i : Nat) (b : Blk) (v : Value) (k : Nat), m' i = some b → isRo b = false → φ' i = some v → blkOf v = some k → w.heap.size ≤ k := fun i b v k h5 h6 h7 h8 => by
    rcases Nat.lt_or_ge k w.heap.size with h | h
    · exact absurd (h3.own k h (lift k ⟨i, b, v, h5, h6, h7, h8⟩)) (no k)
    · exact h
  have kz : KeepZ Z w w' := fun k o hz => h3.keep k o (.inl hz)
  refine ⟨v, φ', Z, joinM n m m', n', t, rfl, ⟨h1.ok, h1.fresh, fun i b hi => ?_, fun i j a b u v k hi hj hu hv hku hkv ra rb => ?_, ⟨fun k o hz => Nat.lt_of_lt_of_le (hm.zlt.lt k o hz) h3.size, hm.zlt.gl.keep (fun _ _ h => h) kz⟩⟩, fl_rep ht h2,
    ⟨h3.ext, fun k o hz => hz, kz, h3.os, h3.tape, h3.output, h3.size, fun k hk ho => h3.out k hk (no k), fun k hk ho => ?_, fun k o hz => .inl hz⟩, m', h4, rfl⟩
  · unfold joinM at hi
    split at hi
    · obtain ⟨v, h5, h6⟩ := hm.blk i b hi
      refine ⟨v, h3.ext _ _ h5, h6.keep h3.ext (fun _ _ h => h) kz fun hro k hk => ⟨h3.out k (h6.lt hro hk) (no k), fun o ho => ho⟩⟩
    · obtain ⟨v, h5, h6⟩ := h1.blk i b hi
      refine ⟨v, h5, ?_⟩
      have hf := (hb i b hi).2
      cases b with
      | ro xs => cases hf
      | arr e xs => cases hf
      | box e z cs =>
        obtain ⟨a1, a2, k, cur, a3, a4, a5, a6, a7, a8, a9⟩ := h6
        exact ⟨a1, a2, k, cur, a3, a4, a5, flT_rep hf a6, a7, fun o ho => a8 o (h3.sub k o (.inl ho)), a9⟩
  · unfold joinM at hi hj
    split at hi <;> split at hj
    · exact hm.ne i j a b u v k hi hj (old _ _ _ hi hu) (old _ _ _ hj hv) hku hkv ra rb
    · have l1 := hm.owned_lt ⟨i, a, u, hi, ra, old _ _ _ hi hu, hku⟩
      have l2 := new j b v k hj rb hv hkv
      omega
    · have l1 := hm.owned_lt ⟨j, b, v, hj, rb, old _ _ _ hj hv, hkv⟩
      have l2 := new i a u k hi ra hu hku
      omega
    · exact h1.ne i j a b u v k hi hj hu hv hku hkv ra rb
  · obtain ⟨i, b, v, h5, h6, h7, h8⟩ := ho
    unfold joinM at h5
    split at h5
    · exact ⟨i, b, v, h5, h6, old _ _ _ h5 h7, h8⟩
    · have := new i b v k h5 h6 h7 h8
      omega
theorem callO_ {f : Nat} {m : Mem} {n : Nat} {args : List T} {vs : List V} {k : T → Mem → Nat → Prop} {post Q : T → Mem → Nat → Prop} (h : FnS P f (fun _ => none) n (vs.map .v) post) (ha : mapO (bor true m 4) args = some vs)
    (hp : ∀ t m' n', post t m' n' → ∃ m2, LeM m2 m' ∧ t.fl = true ∧ n ≤ n' ∧ (∀ i b, m2 i = some b → n ≤ i ∧ b.fl = true) ∧ Q t m2 n') (hk : ∀ t m' n', Q t m' n' → k t (joinM n m m') n') : callP P f m n args k :=
  callS_ (h.own ha hp) fun t mm n' ⟨m', h1, h2⟩ => by rw [h2]; exact hk t m' n' h1
end TL

/- TL, part 22: contracts over abstract memory, called with rows of the caller's own. -/
set_option linter.unusedVariables false
set_option linter.unusedSimpArgs false
namespace TL
open Go Go.RowKit
variable {P : Program}
/-- A contract for pure arguments serves for rows that nobody changes, too. -/
theorem FnS.lend {f : Nat} {m : Mem} {n : Nat} {args : List T} {vs : List V} {post : T → Mem → Nat → Prop} (h : FnS P f m n (vs.map .v) post) (ha : mapO (bor false m 4) args = some vs) : FnS P f m n args post :=
  ⟨h.1, fun φ Z w us hm hr => h.2 φ Z w us hm (bors_sound hm (k := false) (Zb := Z) (fun _ _ h => h) (by simp) args us vs hr ha).toTs⟩
theorem callL_ {f : Nat} {m : Mem} {n : Nat} {args : List T} {vs : List V} {k : T → Mem → Nat → Prop} {post : T → Mem → Nat → Prop} (h : FnS P f m n (vs.map .v) post) (ha : mapO (bor false m 4) args = some vs) (hk : ∀ t m' n', post t m' n' → k t m' n') : callP P f m n args k := callS_ (h.lend ha) hk
end TL

/- Places made for the laws, and copies of places, in memory of the caller's own. -/
set_option linter.unusedSimpArgs false
set_option linter.unusedVariables false
set_option maxRecDepth 100000
set_option maxHeartbeats 4000000
set_option pp.maxSteps 1500
namespace TL
open Go Go.Proofs
attribute [local simp] marksV storyV codeV Claim.v Place.v Desk.v
theorem marks_filled (l : List Mark) : (filled Mark.v [T.v (.int .i64 0), T.v (.int .i64 0)] l l.length).flatten = mkT l := by
  rw [filled_end]
  induction l with
  | nil => rfl
  | cons x xs ih => rw [List.map_cons, List.flatten_cons, ih]; rfl
def ItmO (l : List Mark) (m : Mem) (n : Nat) (a : Nat) (s : S) : Prop := ∃ i : Nat, s.tm 0 = .v (.sl (l.map Mark.v)) ∧ s.tm 3 = .sv n 0 l.length ∧ s.tm 4 = .v (.int .i64 i) ∧ i ≤ l.length ∧ n < s.n ∧ s.m n = some (.box 67 2 (filled Mark.v [T.v (.int .i64 0), T.v (.int .i64 0)] l i).flatten) ∧ (∀ j, j < n → s.m j = m j) ∧ (a = 1 → i = l.length)
theorem toMarkS_own (l : List Mark) (hl : l.length ≤ 1048576) (m : Mem) (n : Nat) : FnS Try.prog 36 m n [.v (.sl (l.map Mark.v))] (fun t m' n' => n ≤ n' ∧ (∀ j, j < n → m' j = m j) ∧ OwnRow m' n n' t l) := by
  have b1 : (16 : Int) * l.length ≤ 281474976710656 := by omega
  have b2 : (l.length : Int) ≤ 9223372036854775807 := by omega
  have b3 : (0 : Int) ≤ l.length := by omega
  refine FnS_of (rs := [.tmp 2]) true Try.func36 rfl rfl rfl rfl (Nat.le_of_ble_eq_true rfl) ?_
  simp -dsimp [b1, b2, b3]
  refine twp_loopC (ItmO l m n 0) (fun s => l.length - natOf (s.tm 4)) (ItmO l m n 1) ?_ ?_ ?_
  · exact ⟨0, by simp -dsimp, by simp -dsimp, by simp -dsimp, by omega, by simp -dsimp <;> omega, by rw [filled_zero]; simp -dsimp, fun j j1 => by simp -dsimp [far j1], by simp⟩
  · rintro s ⟨i, h0, h3, h4, hi, hn, hm, hout, hend⟩
    by_cases hlt : i < l.length
    case neg =>
      simp -dsimp [h0, h4, hlt]
      exact ⟨i, by simp -dsimp [h0], by simp -dsimp [h3], by simp -dsimp [h4], hi, by simp -dsimp; omega, by simp -dsimp [hm], fun j j1 => by simp -dsimp [hout j j1], fun _ => by omega⟩
    have hget : (l.map Mark.v)[i]? = some (l[i].v) := by simp [hlt]
    have wi : IntKind.wrap .i64 ((i : Int) + 1) = ((i + 1 : Nat) : Int) := by rw [w64 (by omega) (by omega)]; omega
    have hmu : l.length - (i + 1) < l.length - i := by omega
    have hfl : (filled Mark.v [T.v (.int .i64 0), T.v (.int .i64 0)] l i).flatten.length = l.length * 2 := filled_flat_len (k := 2) elemOk_mark rfl hi
    have hst := filled_set (v := Mark.v) (zs := [T.v (.int .i64 0), T.v (.int .i64 0)]) (k := 2) elemOk_mark rfl hlt
    have hoff : i * 2 + 2 ≤ l.length * 2 := by omega
    have hlt' : (i : Int) < l.length := by omega
    rw [cellsT_mark] at hst
    simp -dsimp [h0, h3, h4, hlt, hget]
    refine call_ (toMark_fn l[i]) (by simp -dsimp [Mark.v]) ?_
    simp -dsimp [Mark.v, h0, h3, h4, hlt, hlt', hm, hfl, hoff, hst, wi, hmu, filled_len]
    exact ⟨i + 1, by simp -dsimp [h0], by simp -dsimp [h3], by simp -dsimp, by omega, by simp -dsimp; omega, by simp -dsimp, fun j j1 => by simp -dsimp [show ¬ j = n by omega, hout j j1], by simp⟩
  · rintro s ⟨i, h0, h3, h4, hi, hn, hm, hout, hend⟩
    have := hend rfl
    subst this
    rw [marks_filled] at hm
    simp -dsimp [h3]
    exact ⟨by omega, hout, n, rfl, Nat.le_refl _, by omega, hm⟩
theorem toClaim_own (c : Claim) (hc : c.small) (m : Mem) (n : Nat) : FnS Try.prog 27 m n [.v c.v] (fun t m' n' => n ≤ n' ∧ (∀ j, j < n → m' j = m j) ∧ ∃ st, t = .agg [.v (.int .i64 c.who), st] ∧ OwnRow m' n n' st c.says) := by
  refine FnS_of (rs := [.cell 2 55]) true Try.func27 rfl rfl rfl rfl (Nat.le_of_ble_eq_true rfl) ?_
  have e0 : ¬ n = n + 1 := by omega
  have e5 : ¬ n + 1 = n := by omega
  simp -dsimp [Mark.v, nes, e0, e5]
  refine callS_ (toMarkS_own c.says hc _ _) ?_
  rintro t m1 n1 ⟨hn1, hout, id, rfl, i0, i1, him⟩
  have k0 := hout n (by omega)
  have k1 := hout (n + 1) (by omega)
  have k2 := hout (n + 1 + 1) (by omega)
  simp -dsimp [nes, e0, e5] at k0 k1 k2
  simp -dsimp [nes, e0, e5, k0, k1, k2]
  have ho : ∀ j, j < n → m1 j = m j := fun j j1 => by have hj := hout j (by omega); simp [far j1] at hj; exact hj
  exact ⟨by omega, fun j j1 => by simp [show ¬ j = n + 1 by omega, show ¬ j = n + 1 + 1 by omega, ho j j1], id, rfl, by omega, by omega, by simp [show ¬ id = n + 1 by omega, show ¬ id = n + 1 + 1 by omega, him]⟩
def IcsO (l : List Claim) (m0 : Mem) (n0 : Nat) (e : Nat) (s : S) : Prop := ∃ (i id : Nat) (js : List Nat), s.tm 7 = .v (.sl (l.map Claim.v)) ∧ s.tm 8 = .v (.int .i64 l.length) ∧ s.tm 9 = .v (.int .i64 i) ∧ s.mu = true ∧ i ≤ l.length ∧ s.tm 3 = .sv id 0 i ∧ n0 ≤ id ∧ id < s.n ∧ id ∉ js ∧ s.m id = some (.box 55 2 (clT (l.take i) js)) ∧
  (∀ j ∈ js, n0 ≤ j ∧ j < s.n) ∧ js.Nodup ∧ Says s.m (l.take i) js ∧ (∀ j, j < n0 → s.m j = m0 j) ∧ (e = 1 → i = l.length)
theorem copyStory_deep (l : List Claim) (hl : l.length ≤ 1048576) (hs : ∀ c ∈ l, c.small) (hne : ∀ c ∈ l, c.says ≠ []) (m : Mem) (n : Nat) : FnS Try.prog 29 m n [.v (storyV l)] (fun t m' n' => n ≤ n' ∧ (∀ j, j < n → m' j = m j) ∧ ∃ js, OwnRowC m' n n' t l js) := by
  refine FnS_of (rs := [.tmp 2]) true Try.func29 rfl rfl rfl rfl (Nat.le_of_ble_eq_true rfl) ?_
  simp -dsimp
  refine twp_loopC (IcsO l m n 0) (fun s => l.length - natOf (s.tm 9)) (IcsO l m n 1) ?_ ?_ ?_
  · exact ⟨0, n, [], by simp -dsimp, by simp -dsimp, by simp -dsimp, by simp -dsimp, by omega, by simp -dsimp, Nat.le_refl _, by simp -dsimp, by simp, by simp -dsimp, by simp, List.nodup_nil, trivial, fun j j1 => by simp -dsimp [far j1], by simp⟩
  · rintro s ⟨i, id, js, t7, t8, t9, hmu, hi, t3, hid0, hid, hin, hm, hjs, hnd, hsy, hout, hend⟩
    by_cases hlt : i < l.length
    case neg =>
      simp -dsimp [t8, t9, hlt]
      exact ⟨i, id, js, by simp -dsimp [t7], by simp -dsimp [t8], by simp -dsimp [t9], by simp -dsimp [hmu], hi, by simp -dsimp [t3], hid0, by simp -dsimp [hid], hin, by simp -dsimp [hm], fun j hj => by have := hjs j hj; simp -dsimp; omega, hnd, hsy, fun j j1 => by simp -dsimp [hout j j1], fun _ => by omega⟩
    have hget : (l.map Claim.v)[i]? = some (l[i].v) := by simp [hlt]
    have wi : IntKind.wrap .i64 ((i : Int) + 1) = ((i + 1 : Nat) : Int) := by rw [w64 (by omega) (by omega)]; omega
    have hmu1 : l.length - (i + 1) < l.length - i := by omega
    have f1 := far hid
    have b1 : (i + 1) * 32 ≤ 140737488355328 := by omega
    have htk : l.take (i + 1) = l.take i ++ [l[i]] := List.take_succ_eq_append_getElem hlt
    have htl : (l.take i).length = i := by simp; omega
    have r5 := clT_len (l.take i) js hsy.len
    have r6 := clT_cells (l.take i) js
    have hcm := List.getElem_mem hlt
    have hclone := fun m n => cloneMarks_own l[i].says (hne _ hcm) (hs _ hcm) m n
    rw [htl] at r5
    generalize hc : l[i] = c at *
    obtain ⟨c1, c2⟩ := c
    simp -dsimp [t7, t8, t9, hlt, hget, hc]
    refine twp_draw (List.range 10) [s.n] (List.replicate 10 [0]) (List.replicate 10 [0]) (by kernel_rfl) (by kernel_rfl) (by kernel_rfl) (by kernel_rfl) ?_
    simp -dsimp [List.range_succ, t3]
    refine callS_ (hclone _ _) ?_
    rintro t m2 n2 ⟨hn2, hout2, id2, rfl, i0, i1, him2⟩
    have k0 := hout2 s.n (by omega)
    have k1 := hout2 id (by omega)
    have g0 := far (show s.n < n2 by omega)
    have g1 := far (show id < n2 by omega)
    have g2 := far i1
    simp -dsimp [f1, hm] at k0 k1
    simp -dsimp [List.range_succ, t3, t9, hmu, f1, hm, hc, k0, k1, g0, g1, g2, r5, r6, b1, wi, hmu1, nes]
    refine st_out fun s' ht hm' hn' hu' => ?_
    have a3 := ht 3
    have a7 := ht 7
    have a8 := ht 8
    have a9 := ht 9
    simp -dsimp [t7, t8, wi] at a3 a7 a8 a9 hm' hn' hu'
    clear ht
    have hjk : ∀ j ∈ js, s'.m j = s.m j := fun j hj => by
      have q1 := hjs j hj
      have q2 : ¬ j = id := fun e => hin (e ▸ hj)
      have q3 := hout2 j (by omega)
      simp [far q1.2] at q3
      simp [hm', far (show j < n2 by omega), q2, q3]
    have hsl : (l.take i).length = js.length := hsy.len
    refine ⟨i + 1, n2 + 1, js ++ [id2], a7, a8, a9, by rw [hu', hmu], by omega, a3, by omega, by omega, ?_, ?_, fun j hj => ?_, ?_, ?_, fun j j1 => ?_, by simp⟩
    · intro hj
      rcases List.mem_append.1 hj with hj | hj
      · have := hjs _ hj; omega
      · have := List.mem_singleton.1 hj; omega
    · rw [htk, clT_app _ _ _ _ hsl]
      simp [hm', nes, List.take_of_length_le (show (clT (l.take i) js).length ≤ i * 2 by omega)]
    · rcases List.mem_append.1 hj with hj | hj
      · have := hjs j hj; omega
      · rw [List.mem_singleton.1 hj]; omega
    · rw [List.nodup_append]
      refine ⟨hnd, by simp, fun y hy z hz => ?_⟩
      rw [List.mem_singleton.1 hz]
      have := hjs y hy
      omega
    · rw [htk]
      exact (Says.app hsl).2 ⟨hsy.keep hjk, ⟨by simp [hm', g2, show ¬ id2 = id by omega, him2], trivial⟩⟩
    · have q3 := hout2 j (by omega)
      simp [far (show j < s.n by omega)] at q3
      simp [hm', far (show j < n2 by omega), show ¬ j = id by omega, q3, hout j j1]
  · rintro s ⟨i, id, js, t7, t8, t9, hmu, hi, t3, hid0, hid, hin, hm, hjs, hnd, hsy, hout, hend⟩
    have := hend rfl
    subst this
    rw [List.take_length] at hm hsy
    simp -dsimp [t3]
    exact ⟨by omega, hout, js, hjs, hnd, hsy, .inr ⟨id, rfl, hid0, hid, hin, hm⟩⟩
/-- A place of the caller's own. -/
def DeepP (p : Place) (m : Mem) (n : Nat) (t : T) (m' : Mem) (n' : Nat) : Prop := n ≤ n' ∧ (∀ j, j < n → m' j = m j) ∧ ∃ st js, t = .agg [.v (.int .i64 p.people), st] ∧ OwnRowC m' n n' st p.story js
theorem OwnRowC.wide {m m' : Mem} {lo hi lo' hi' : Nat} {st : T} {l : List Claim} {js : List Nat} (h : OwnRowC m lo hi st l js) (h1 : lo' ≤ lo) (h2 : hi ≤ hi') (hk : ∀ j, lo ≤ j → j < hi → m' j = m j) : OwnRowC m' lo' hi' st l js := by
  obtain ⟨a1, a2, a3, a4⟩ := h.keep hk
  refine ⟨fun j hj => by have := a1 j hj; omega, a2, a3, ?_⟩
  rcases a4 with a4 | ⟨id, e, i0, i1, i2, i3⟩
  · exact .inl a4
  · exact .inr ⟨id, e, by omega, by omega, i2, i3⟩
theorem copyPlace_deep (p : Place) (hp : p.small) (hne : ∀ c ∈ p.story, c.says ≠ []) (m : Mem) (n : Nat) : FnS Try.prog 18 m n [.v p.v] (DeepP p m n) := by
  refine FnS_of (rs := [.cell 2 28]) true Try.func18 rfl rfl rfl rfl (Nat.le_of_ble_eq_true rfl) ?_
  have e0 : ¬ n = n + 1 := by omega
  have e5 : ¬ n + 1 = n := by omega
  simp -dsimp
  refine twp_draw (List.range 7) [n] (List.replicate 7 [0]) (List.replicate 7 [0]) (by kernel_rfl) (by kernel_rfl) (by kernel_rfl) (by kernel_rfl) ?_
  simp -dsimp [List.range_succ, e0, e5, nes]
  refine callS_ (copyStory_deep p.story hp.1 hp.2 hne _ _) ?_
  rintro t m1 n1 ⟨hn1, hout1, js, hrow⟩
  have k0 := hout1 n (by omega)
  have k1 := hout1 (n + 1) (by omega)
  simp -dsimp [nes, e0, e5] at k0 k1
  have hc := hrow.cell
  have hcs := hrow.cells
  simp -dsimp [List.range_succ, k0, k1, nes, e0, e5, hc, hcs]
  refine ⟨by omega, fun j j1 => ?_, t, js, rfl, hrow.wide (by omega) (by omega) fun j j1 j2 => by simp [show ¬ j = n + 1 by omega]⟩
  have := hout1 j (by omega)
  simp [far j1, show ¬ j = n + 1 by omega] at this ⊢
  exact this
def DeepN (p : Place) (m : Mem) (n : Nat) (t : T) (m' : Mem) (n' : Nat) : Prop := n ≤ n' ∧ (∀ j, j < n → m' j = m j) ∧ ∃ st js, t = .tup [.agg [.v (.int .i64 (deskNew p).now.people), st, .nil], .v (.bool (placeOk p))] ∧ OwnRowC m' n n' st (deskNew p).now.story js
theorem deskNew_deep (p : Place) (hp : p.small) (m : Mem) (n : Nat) : FnS Try.prog 7 m n [.v p.v] (DeepN p m n) := by
  have hok := placeOk_fn p (by have := hp.1; omega)
  have hk := ft (placeOk p)
  unfold DeepN
  refine FnS_of (rs := [.cell 2 31, .tmp 3]) true Try.func7 rfl rfl rfl rfl (Nat.le_of_ble_eq_true rfl) ?_
  have e0 : ¬ n = n + 1 := by omega
  have e5 : ¬ n + 1 = n := by omega
  rcases hk with hk | hk
  · have e : deskNew p = noDeskV := if_neg (by simp [hk])
    rw [hk] at hok ⊢
    rw [e]
    simp -dsimp [e0, e5, nes]
    refine call_ hok (by simp -dsimp) ?_
    simp -dsimp [e0, e5, nes, noDeskV]
    exact ⟨by omega, fun j j1 => by simp [far j1], [], by simp, List.nodup_nil, trivial, .inl ⟨rfl, rfl, rfl⟩⟩
  · have e : deskNew p = ⟨p, []⟩ := if_pos hk
    have hne : ∀ c ∈ p.story, c.says ≠ [] := fun c hc h0 => by
      have := termOk_pos (claimOk_all ((placeOk_all hk).2.2.2 c hc)).2.2.2.2.1
      rw [h0] at this; simp at this
    rw [hk] at hok ⊢
    rw [e]
    simp -dsimp [e0, e5, nes]
    refine call_ hok (by simp -dsimp) ?_
    simp -dsimp [e0, e5, nes]
    refine callL_ (vs := [p.v]) (copyPlace_deep p hp hne _ _) (by simp -dsimp) ?_
    rintro t m1 n1 ⟨hn1, hout1, st, js, rfl, hrow⟩
    have k0 := hout1 n (by omega)
    have k1 := hout1 (n + 1) (by omega)
    simp -dsimp [nes, e0, e5] at k0 k1
    have hc := hrow.cell
    have hcs := hrow.cells
    simp -dsimp [k0, k1, nes, e0, e5, hc, hcs]
    refine ⟨by omega, fun j j1 => ?_, js, hrow.wide (by omega) (by omega) fun j j1 j2 => by simp [show ¬ j = n + 1 by omega]⟩
    have := hout1 j (by omega)
    simp [far j1, show ¬ j = n + 1 by omega] at this ⊢
    exact this
end TL

/- Places made for the laws in memory of the caller's own; marked and held desks. -/
set_option linter.unusedSimpArgs false
set_option linter.unusedVariables false
set_option maxRecDepth 100000
set_option maxHeartbeats 4000000
set_option pp.maxSteps 1500
namespace TL
open Go Go.Proofs
attribute [local simp] marksV storyV codeV Claim.v Place.v Desk.v
def zc (k : Nat) : List T := (List.replicate k [T.v (.int .i64 0), T.nil]).flatten
theorem zc_succ (k : Nat) : zc (k + 1) = .v (.int .i64 0) :: .nil :: zc k := rfl
theorem zc_len (k : Nat) : (zc k).length = k * 2 := by
  induction k with
  | zero => rfl
  | succ k ih => rw [zc_succ]; simp [ih]; omega
theorem cell_set2 (A : List T) (x y x' y' : T) (B : List T) (i : Nat) (h : A.length = i) : ((A ++ x :: y :: B).set i x').set (i + 1) y' = A ++ x' :: y' :: B := by
  rw [cell_set A x x' (y :: B) i h]
  have e : A ++ x' :: y :: B = (A ++ [x']) ++ y :: B := by simp
  rw [e, cell_set (A ++ [x']) y y' B (i + 1) (by simp [h])]
  simp
def ItcO (l : List Claim) (m : Mem) (n : Nat) (a : Nat) (s : S) : Prop := ∃ (i : Nat) (js : List Nat), s.tm 0 = .v (.sl (l.map Claim.v)) ∧ s.tm 3 = .sv n 0 l.length ∧ s.tm 4 = .v (.int .i64 i) ∧ i ≤ l.length ∧ n < s.n ∧ s.m n = some (.box 55 2 (clT (l.take i) js ++ zc (l.length - i))) ∧
  (∀ j ∈ js, n < j ∧ j < s.n) ∧ js.Nodup ∧ Says s.m (l.take i) js ∧ (∀ j, j < n → s.m j = m j) ∧ (a = 1 → i = l.length)
theorem toClaimS_own (l : List Claim) (hl : l.length ≤ 1048576) (hs : ∀ a ∈ l, a.small) (m : Mem) (n : Nat) : FnS Try.prog 16 m n [.v (.sl (l.map Claim.v))] (fun t m' n' => n ≤ n' ∧ (∀ j, j < n → m' j = m j) ∧ ∃ js, OwnRowC m' n n' t l js) := by
  have b1 : (32 : Int) * l.length ≤ 281474976710656 := by omega
  have b2 : (l.length : Int) ≤ 9223372036854775807 := by omega
  have b3 : (0 : Int) ≤ l.length := by omega
  refine FnS_of (rs := [.tmp 2]) true Try.func16 rfl rfl rfl rfl (Nat.le_of_ble_eq_true rfl) ?_
  simp -dsimp [b1, b2, b3]
  refine twp_loopC (ItcO l m n 0) (fun s => l.length - natOf (s.tm 4)) (ItcO l m n 1) ?_ ?_ ?_
  · exact ⟨0, [], by simp -dsimp, by simp -dsimp, by simp -dsimp, by omega, by simp -dsimp <;> omega, by simp -dsimp [zc], by simp, List.nodup_nil, trivial, fun j j1 => by simp -dsimp [far j1], by simp⟩
  · rintro s ⟨i, js, h0, h3, h4, hi, hn, hm, hjs, hnd, hsy, hout, hend⟩
    by_cases hlt : i < l.length
    case neg =>
      simp -dsimp [h0, h4, hlt]
      exact ⟨i, js, by simp -dsimp [h0], by simp -dsimp [h3], by simp -dsimp [h4], hi, by simp -dsimp; omega, by simp -dsimp [hm], fun j hj => by have := hjs j hj; simp -dsimp; omega, hnd, hsy, fun j j1 => by simp -dsimp [hout j j1], fun _ => by omega⟩
    have hget : (l.map Claim.v)[i]? = some (l[i].v) := by simp [hlt]
    have wi : IntKind.wrap .i64 ((i : Int) + 1) = ((i + 1 : Nat) : Int) := by rw [w64 (by omega) (by omega)]; omega
    have hmu : l.length - (i + 1) < l.length - i := by omega
    have hlt' : (i : Int) < l.length := by omega
    have htk : l.take (i + 1) = l.take i ++ [l[i]] := List.take_succ_eq_append_getElem hlt
    have htl : (l.take i).length = i := by simp; omega
    have r5 := clT_len (l.take i) js hsy.len
    rw [htl] at r5
    have ezc : l.length - i = (l.length - (i + 1)) + 1 := by omega
    rw [ezc, zc_succ] at hm
    have zl := zc_len (l.length - (i + 1))
    have hown := fun m n => toClaim_own l[i] (hs _ (List.getElem_mem hlt)) m n
    generalize hc : l[i] = c at *
    have hset := fun id2 => cell_set2 (clT (l.take i) js) (.v (.int .i64 0)) .nil (.v (.int .i64 c.who)) (.sv id2 0 c.says.length) (zc (l.length - (i + 1))) (i * 2) r5
    have hll : (clT (l.take i) js ++ T.v (.int .i64 0) :: T.nil :: zc (l.length - (i + 1))).length = l.length * 2 := by simp [r5, zl]; omega
    have hoff : i * 2 + 2 ≤ l.length * 2 := by omega
    have f1 := far hn
    generalize hcells : clT (l.take i) js ++ T.v (.int .i64 0) :: T.nil :: zc (l.length - (i + 1)) = cells at *
    obtain ⟨c1, c2⟩ := c
    simp -dsimp [h0, h3, h4, hlt, hget, hc]
    refine callL_ (vs := [(⟨c1, c2⟩ : Claim).v]) (hown _ _) (by simp -dsimp) ?_
    rintro t m2 n2 ⟨hn2, hout2, st, rfl, id2, rfl, i0, i1, him2⟩
    have k1 := hout2 n (by omega)
    have g1 := far (show n < n2 by omega)
    have hset2 := hset id2
    simp -dsimp [f1, hm] at k1
    simp only at hset2
    simp -dsimp [h0, h3, h4, hlt', k1, hll, hoff, setAt, hset2, wi, hmu, nes]
    refine st_out fun s' ht hm' hn' hu' => ?_
    have a0 := ht 0
    have a3 := ht 3
    have a4 := ht 4
    simp -dsimp [h0, h3, wi] at a0 a3 a4 hm' hn' hu'
    clear ht
    have hjk : ∀ j ∈ js, s'.m j = s.m j := fun j hj => by
      have q1 := hjs j hj
      have q3 := hout2 j (by omega)
      simp [hm', show ¬ j = n by omega, q3]
    have hsl : (l.take i).length = js.length := hsy.len
    refine ⟨i + 1, js ++ [id2], a0, a3, a4, by omega, by omega, ?_, fun j hj => ?_, ?_, ?_, fun j j1 => ?_, by simp⟩
    · rw [htk, clT_app _ _ _ _ hsl]
      simp [hm']
    · rcases List.mem_append.1 hj with hj | hj
      · have := hjs j hj; omega
      · rw [List.mem_singleton.1 hj]; omega
    · rw [List.nodup_append]
      refine ⟨hnd, by simp, fun y hy z hz => ?_⟩
      rw [List.mem_singleton.1 hz]
      have := hjs y hy
      omega
    · rw [htk]
      exact (Says.app hsl).2 ⟨hsy.keep hjk, ⟨by simp [hm', show ¬ id2 = n by omega, him2], trivial⟩⟩
    · have q3 := hout2 j (by omega)
      simp [hm', show ¬ j = n by omega, q3, hout j j1]
  · rintro s ⟨i, js, h0, h3, h4, hi, hn, hm, hjs, hnd, hsy, hout, hend⟩
    have := hend rfl
    subst this
    rw [Nat.sub_self, List.take_length] at hm
    rw [List.take_length] at hsy
    have e : clT l js ++ zc 0 = clT l js := by simp [zc]
    rw [e] at hm
    simp -dsimp [h3]
    exact ⟨by omega, hout, js, fun j hj => by have := hjs j hj; omega, hnd, hsy, .inr ⟨n, rfl, Nat.le_refl _, by omega, fun hj => by have := hjs n hj; omega, hm⟩⟩
theorem toPlace_own (p : Place) (hp : p.small) (m : Mem) (n : Nat) : FnS Try.prog 6 m n [.v p.v] (DeepP p m n) := by
  refine FnS_of (rs := [.cell 2 28]) true Try.func6 rfl rfl rfl rfl (Nat.le_of_ble_eq_true rfl) ?_
  have e0 : ¬ n = n + 1 := by omega
  have e5 : ¬ n + 1 = n := by omega
  simp -dsimp [nes, e0, e5]
  refine callS_ (toClaimS_own p.story hp.1 hp.2 _ _) ?_
  rintro t m1 n1 ⟨hn1, hout, js, hrow⟩
  have k0 := hout n (by omega)
  have k1 := hout (n + 1) (by omega)
  have k2 := hout (n + 1 + 1) (by omega)
  simp -dsimp [nes, e0, e5] at k0 k1 k2
  have hc := hrow.cell
  have hcs := hrow.cells
  have ho : ∀ j, j < n → m1 j = m j := fun j j1 => by have hj := hout j (by omega); simp [far j1] at hj; exact hj
  simp -dsimp [nes, e0, e5, k0, k1, k2, hc, hcs]
  refine ⟨by omega, fun j j1 => ?_, t, js, rfl, hrow.wide (by omega) (by omega) fun j j1 j2 => by simp [show ¬ j = n + 1 by omega, show ¬ j = n + 1 + 1 by omega]⟩
  simp [show ¬ j = n + 1 by omega, show ¬ j = n + 1 + 1 by omega, ho j j1]
theorem markPlaceS_nil (m : Mem) (n : Nat) (k : Int) : FnS Try.prog 22 m n [.nil, .v (.int .i64 k)] (fun t m' n' => t = .v (.int .i64 k) ∧ n ≤ n' ∧ m' = m) := by
  refine FnS_of (rs := [.tmp 4]) false Try.func22 rfl rfl rfl rfl (Nat.le_of_ble_eq_true rfl) ?_
  simp -dsimp
  refine twp_loopC (fun s => s.tm 0 = .nil ∧ s.tm 1 = .v (.int .i64 k) ∧ s.tm 5 = .v (.int .i64 0) ∧ s.m = m ∧ n ≤ s.n) (fun s => 0) (fun s => s.tm 1 = .v (.int .i64 k) ∧ s.m = m ∧ n ≤ s.n) ?_ ?_ ?_
  · simp -dsimp
  · rintro s ⟨t0, t1, t5, hm, hn⟩
    simp -dsimp [t0, t1, t5, hm, hn]
  · rintro s ⟨t1, hm, hn⟩
    simp -dsimp [t1, hm, hn]
theorem markDesk_own (p : Place) (k : Int) (hk0 : 0 ≤ k) (hk : mkn k p.story ≤ 100000000000000) (hl : ∀ c ∈ p.story, c.says.length ≤ 1000000000) (m : Mem) (lo hi n : Nat) (hlo : hi ≤ n) (st : T) (js : List Nat) (h : OwnRowC m lo hi st p.story js) :
    FnS Try.prog 11 m n [.agg [.v (.int .i64 p.people), st, .nil], .v (.int .i64 k)] (fun t m' n' => t = .v (.int .i64 (mkn k p.story)) ∧ n ≤ n' ∧ OwnRowC m' lo hi st (mkc k p.story) js ∧ ∀ j, j < n → j < lo ∨ hi ≤ j → m' j = m j) := by
  have hc := h.cell
  have hcs := h.cells
  refine FnS_of (rs := [.tmp 4]) false Try.func11 rfl rfl rfl rfl (Nat.le_of_ble_eq_true rfl) ?_
  simp -dsimp [nes, hc, hcs]
  refine callS_ (markPlace_own p k hk0 hk hl _ lo hi _ (by omega) st js (h.keep fun j j1 j2 => by simp [show ¬ j = n by omega])) ?_
  rintro t m1 n1 ⟨rfl, hn1, hrow, hout⟩
  have k0 := hout n (by omega) (.inr hlo)
  simp -dsimp at k0
  simp -dsimp [nes, hc, hcs, k0]
  refine callS_ (markPlaceS_nil _ _ _) ?_
  rintro t m2 n2 ⟨rfl, hn2, rfl⟩
  simp -dsimp
  refine ⟨by omega, hrow, fun j j1 j2 => ?_⟩
  rw [hout j (by omega) j2]; simp [show ¬ j = n by omega]
theorem heldDesk_fn (q : Int) (l : List Claim) (k : Int) (hk0 : 0 ≤ k) (hk : mkn k l ≤ 100000000000000) (hl : ∀ c ∈ l, c.says.length ≤ 1000000000) : FnZ Try.prog 12 [(⟨⟨q, mkc k l⟩, []⟩ : Desk).v, .int .i64 k] (.int .i64 (mkn k l)) := by
  have h := heldPlace_fn q l k hk0 hk hl
  have hge := mkn_ge l k
  have h0 : ¬ mkn k l < 0 := by omega
  generalize mkn k l = y at *
  have hp : FnZ Try.prog 24 [.sl [], .int .i64 y] (.int .i64 y) := by
    refine FnZ_of (rs := [.tmp 4]) false Try.func24 rfl rfl rfl rfl (Nat.le_of_ble_eq_true rfl) ?_
    simp -dsimp
    refine twp_loopC (fun s => s.tm 0 = .v (.sl []) ∧ s.tm 1 = .v (.int .i64 y) ∧ s.tm 5 = .v (.int .i64 0)) (fun s => 0) (fun s => s.tm 1 = .v (.int .i64 y)) ?_ ?_ ?_
    · simp -dsimp
    · rintro s ⟨t0, t1, t5⟩
      simp -dsimp [t0, t1, t5]
    · rintro s t1
      simp -dsimp [t1]
  refine FnZ_of (rs := [.tmp 4]) false Try.func12 rfl rfl rfl rfl (Nat.le_of_ble_eq_true rfl) ?_
  simp -dsimp
  refine call_ h (by simp -dsimp) ?_
  simp -dsimp [h0]
  refine call_ hp (by simp -dsimp) ?_
  simp -dsimp [h0]
/-! What names nothing but its own memory. -/
theorem mkT_fl (l : List Mark) : flT (mkT l) = true := by
  induction l with
  | nil => rfl
  | cons x xs ih => simp [mkT, ih, V.flat]
theorem clT_fl : ∀ (l : List Claim) (js : List Nat), flT (clT l js) = true
  | [], js => by simp
  | c :: l, [] => by simp [clT]
  | c :: l, j :: js => by simp [clT_fl l js, V.flat]
theorem OwnRowC.fl {m : Mem} {lo hi : Nat} {st : T} {l : List Claim} {js : List Nat} (h : OwnRowC m lo hi st l js) : st.fl = true := by
  rcases h.2.2.2 with ⟨rfl, _⟩ | ⟨id, rfl, _⟩ <;> rfl
theorem Says.at {m : Mem} : ∀ {l : List Claim} {js : List Nat}, Says m l js → ∀ j ∈ js, ∃ x : List Mark, m j = some (.box 67 2 (mkT x))
  | [], [], _, j, hj => by simp at hj
  | c :: l, k :: js, h, j, hj => by
    rcases List.mem_cons.1 hj with rfl | hj
    · exact ⟨_, h.1⟩
    · exact h.2.at j hj
  | [], j :: js, h, _, _ => h.elim
  | c :: l, [], h, _, _ => h.elim
/-- The part of memory that a row of claims names. -/
theorem OwnRowC.part {m : Mem} {lo hi : Nat} {st : T} {l : List Claim} {js : List Nat} (h : OwnRowC m lo hi st l js) : ∃ m2 : Mem, LeM m2 m ∧ (∀ i b, m2 i = some b → lo ≤ i ∧ b.fl = true) ∧ OwnRowC m2 lo hi st l js := by
  obtain ⟨h1, h2, h3, h4⟩ := h
  rcases h4 with ⟨rfl, rfl, rfl⟩ | ⟨id, rfl, i0, i1, i2, i3⟩
  · exact ⟨fun _ => none, fun i b hb => (by cases hb), fun i b hb => (by cases hb), by simp, List.nodup_nil, trivial, .inl ⟨rfl, rfl, rfl⟩⟩
  · refine ⟨fun j => if j = id ∨ j ∈ js then m j else none, fun i b hb => ?_, fun i b hb => ?_, h1, h2, h3.keep fun j hj => by simp [hj], .inr ⟨id, rfl, i0, i1, i2, by simp [i3]⟩⟩
    · by_cases hi : i = id ∨ i ∈ js
      · simp only [if_pos hi] at hb; exact hb
      · simp only [if_neg hi] at hb; cases hb
    · by_cases hi : i = id ∨ i ∈ js
      · simp only [if_pos hi] at hb
        rcases hi with rfl | hi
        · rw [i3] at hb; cases hb; exact ⟨i0, clT_fl _ _⟩
        · obtain ⟨x, hx⟩ := h3.at i hi
          rw [hx] at hb; cases hb; exact ⟨(h1 i hi).1, mkT_fl _⟩
      · simp only [if_neg hi] at hb; cases hb
end TL

/- The exact law of DeskOk. -/
set_option linter.unusedSimpArgs false
set_option linter.unusedVariables false
set_option maxRecDepth 100000
set_option maxHeartbeats 4000000
set_option pp.maxSteps 1500
namespace TL
open Go Go.Proofs
attribute [local simp] marksV storyV codeV Claim.v Place.v Desk.v
def Desk.fit (d : Desk) : Prop := d.now.fit ∧ ∀ p ∈ d.past, p.fit
def Desk.mid (d : Desk) : Prop := d.now.mid ∧ TL.mid d.past.length ∧ ∀ p ∈ d.past, p.mid
def ItoPlaceS (l : List Place) (a : Nat) (s : S) : Prop := ∃ i : Nat, s.tm 0 = .v (.sl (l.map Place.v)) ∧ s.tm 3 = .sv 0 0 l.length ∧ s.tm 4 = .v (.int .i64 i) ∧ i ≤ l.length ∧ s.m 0 = some (.box 28 2 (filled Place.v [T.v (.int .i64 0), T.nil] l i).flatten) ∧ (a = 1 → i = l.length)
def IeqPlaceS (a b : List Place) (e : Nat) (s : S) : Prop := ∃ i : Nat, s.tm 0 = .v (.sl (a.map Place.v)) ∧ s.tm 1 = .v (.sl (b.map Place.v)) ∧ s.tm 5 = .v (.int .i64 i) ∧ i ≤ a.length ∧ a.take i = b.take i ∧ (e = 1 → i = a.length)
theorem eqPlaceS_fn (a b : List Place) (hl : a.length ≤ 1048576) (hs : ∀ x ∈ a, x.small) : FnZ Try.prog 19 [.sl (a.map Place.v), .sl (b.map Place.v)] (.bool (decide (a = b))) := by
  refine FnZ_of (rs := [.tmp 4]) false Try.func19 rfl rfl rfl rfl (Nat.le_of_ble_eq_true rfl) ?_
  by_cases hn : a.length = b.length
  case neg =>
    have e : decide (a = b) = false := by simp; rintro rfl; exact hn rfl
    have hn' : ¬ (a.length : Int) = b.length := by omega
    simp -dsimp [hn, hn', e]
  simp -dsimp [hn]
  refine twp_loopC (IeqPlaceS a b 0) (fun s => a.length - natOf (s.tm 5)) (IeqPlaceS a b 1) ?_ ?_ ?_
  · exact ⟨0, by simp -dsimp, by simp -dsimp, by simp -dsimp, by omega, by simp, by simp⟩
  · rintro s ⟨i, h0, h1, h5, hi, htk, hend⟩
    by_cases hlt : i < a.length
    case neg =>
      have hlt2 : ¬ i < b.length := by omega
      simp -dsimp [h0, h5, hlt, hlt2, hn]
      exact ⟨i, by simp -dsimp [h0], by simp -dsimp [h1], by simp -dsimp [h5], hi, htk, fun _ => by omega⟩
    have hlt2 : i < b.length := by omega
    have hgeta : (a.map Place.v)[i]? = some (a[i].v) := by simp [hlt]
    have hgetb : (b.map Place.v)[i]? = some (b[i].v) := by simp [hlt2]
    have wi : IntKind.wrap .i64 ((i : Int) + 1) = ((i + 1 : Nat) : Int) := by rw [w64 (by omega) (by omega)]; omega
    have hmu : a.length - (i + 1) < a.length - i := by omega
    simp -dsimp [h0, h5, hlt, hlt2, hn]
    refine twp_draw (List.range 10) [] (List.replicate 10 []) (List.replicate 10 []) (by kernel_rfl) (by kernel_rfl) (by kernel_rfl) (by kernel_rfl) ?_
    simp -dsimp [List.range_succ, h0, h1, h5, hlt, hlt2, hgeta, hgetb]
    refine call_ (eqPlace_fn a[i] b[i] (hs _ (List.getElem_mem _))) (by simp -dsimp [Mark.v]) ?_
    have hq := ft (decide (a[i] = b[i]))
    rcases hq with hq | hq
    · have e : decide (a = b) = false := by
        simp at hq ⊢; rintro rfl; exact hq rfl
      simp -dsimp [List.range_succ, hq, e]
    · have hq' : a[i] = b[i] := by simpa using hq
      have htk2 := take_eq_succ hlt hlt2 htk hq'
      have hmu2 : b.length - (i + 1) < b.length - i := by omega
      simp -dsimp [List.range_succ, hq, h5, wi, hmu, hmu2]
      exact ⟨i + 1, by simp -dsimp [h0], by simp -dsimp [h1], by simp -dsimp, by omega, htk2, by simp⟩
  · rintro s ⟨i, h0, h1, h5, hi, htk, hend⟩
    have := hend rfl
    subst this
    rw [List.take_length, hn, List.take_length] at htk
    have e : decide (a = b) = true := by simpa using htk
    simp -dsimp [e]
theorem eqDesk_fn (a b : Desk) (ha : a.small) : FnZ Try.prog 8 [a.v, b.v] (.bool (decide (a = b))) := by
  refine FnZ_of (rs := [.tmp 4]) false Try.func8 rfl rfl rfl rfl (Nat.le_of_ble_eq_true rfl) ?_
  simp -dsimp
  refine call_ (eqPlace_fn a.now b.now ha.1) (by simp -dsimp) ?_
  have h0 := ft (decide (a.now = b.now))
  rcases h0 with h0 | h0
  · have e : decide (a = b) = false := by cases a; cases b; simp_all
    simp -dsimp [h0, e]
  simp -dsimp [h0]
  refine call_ (eqPlaceS_fn a.past b.past ha.2.1 ha.2.2) (by simp -dsimp) ?_
  have h1 := ft (decide (a.past = b.past))
  rcases h1 with h1 | h1
  · have e : decide (a = b) = false := by cases a; cases b; simp_all
    simp -dsimp [h1, e]
  · have e : decide (a = b) = true := by cases a; cases b; simp_all
    simp -dsimp [h1, e]
def bulkSum (l : List Place) : Nat := (l.map fun p => p.bulk).sum
theorem bulkSum_take {l : List Place} {i : Nat} (h : i < l.length) : bulkSum (l.take (i + 1)) = bulkSum (l.take i) + l[i].bulk := by
  unfold bulkSum; rw [List.take_succ_eq_append_getElem h, List.map_append, List.sum_append]; rfl
theorem bulkSum_le (l : List Place) (i : Nat) : bulkSum (l.take i) ≤ bulkSum l := by
  have e : bulkSum l = bulkSum (l.take i ++ l.drop i) := by rw [List.take_append_drop]
  rw [e]; unfold bulkSum; rw [List.map_append, List.sum_append]; omega
theorem bulkSum_mem {l : List Place} {c : Place} (h : c ∈ l) : c.bulk ≤ bulkSum l := by
  induction l with
  | nil => cases h
  | cons y ys ih =>
    rcases List.mem_cons.1 h with rfl | h
    · simp [bulkSum]
    · have := ih h; simp only [bulkSum, List.map_cons, List.sum_cons] at this ⊢; omega
def SZP (l : List Place) (left : Int) (e : Nat) (s : S) : Prop := ∃ i : Nat, s.tm 0 = .v (.sl (l.map Place.v)) ∧ s.tm 1 = .v (.int .i64 (left - l.length - bulkSum (l.take i))) ∧ s.tm 5 = .v (.int .i64 i) ∧ i ≤ l.length ∧ 0 ≤ left - l.length - bulkSum (l.take i) ∧ (e = 1 → i = l.length)
def Desk.bulk (d : Desk) : Nat := d.now.bulk + (d.past.length + bulkSum d.past)
theorem Desk.small_of {d : Desk} (h : ¬ (1048576 : Int) - d.bulk < 0) : d.small := by
  unfold Desk.bulk at h
  exact ⟨Place.small_of (by omega), by omega, fun p hp => Place.small_of (by have := bulkSum_mem hp; omega)⟩
theorem Place.fine_of {p : Place} (hs : p.small) (hf : p.fit) : p.fine := ⟨by have := hs.1; omega, fun c hc => ⟨(hf.2 c hc).2, by have := hs.2 c hc; unfold Claim.small at this; omega⟩⟩
def IdeskOkS (d : Desk) (e : Nat) (s : S) : Prop := ∃ i : Nat, s.tm 1 = .ptr 0 0 ∧ s.m 0 = some (.box 31 3 [.v (.int .i64 d.now.people), .v (storyV d.now.story), .v (.sl (d.past.map Place.v))]) ∧ s.tm 3 = .v (.int .i64 i) ∧
  i ≤ d.past.length ∧ (d.past.take i).all placeOk = true ∧ (e = 1 → i = d.past.length)
end TL

/- The exact law of DeskNew. -/
set_option linter.unusedSimpArgs false
set_option linter.unusedVariables false
set_option maxRecDepth 100000
set_option maxHeartbeats 4000000
set_option pp.maxSteps 1500
namespace TL
open Go Go.Proofs
attribute [local simp] marksV storyV codeV Claim.v Place.v Desk.v
theorem joinM_hi {n j : Nat} {m m' : Mem} (h : n ≤ j) : joinM n m m' j = m' j := if_neg (by omega)
theorem joinM_lo {n j : Nat} {m m' : Mem} (h : j < n) : joinM n m m' j = m j := if_pos h
/-- DeskNew of a place of the caller's own, which is lent. -/
theorem deskNew_lent (p : Place) (hp : p.small) (m : Mem) (n lo : Nat) (hlo : lo ≤ n) (st : T) (js : List Nat) (h : OwnRowC m lo n st p.story js) {k : T → Mem → Nat → Prop}
    (hk : ∀ st2 js2 m2 n2, n ≤ n2 → (∀ j, j < n → m2 j = m j) → OwnRowC m2 n n2 st2 (deskNew p).now.story js2 → k (.tup [.agg [.v (.int .i64 (deskNew p).now.people), st2, .nil], .v (.bool (placeOk p))]) m2 n2) :
    callP Try.prog 7 m n [.agg [.v (.int .i64 p.people), st]] k := by
  have hb := h.bor 1
  refine callO_ (vs := [p.v]) (deskNew_deep p hp (fun _ => none) n) (by simp [hb]) (Q := fun t m2 n2 => n ≤ n2 ∧ ∃ st2 js2, t = .tup [.agg [.v (.int .i64 (deskNew p).now.people), st2, .nil], .v (.bool (placeOk p))] ∧ OwnRowC m2 n n2 st2 (deskNew p).now.story js2) ?_ ?_
  · rintro t m' n' ⟨hn, hout, st2, js2, rfl, hrow⟩
    obtain ⟨m2, hle, hfl, hrow2⟩ := hrow.part
    exact ⟨m2, hle, by simp [hrow.fl, V.flat], hn, hfl, hn, st2, js2, rfl, hrow2⟩
  · rintro t m' n' ⟨hn, st2, js2, rfl, hrow⟩
    exact hk st2 js2 _ n' hn (fun j j1 => joinM_lo j1) (hrow.keep fun j j1 j2 => joinM_hi j1)
theorem lawExactDeskNew (p : Place) (hp : p.mid) (hf : p.fit) : FnZ Try.prog 3 [p.v] (.bool true) := by
  by_cases h : (1048576 : Int) - p.bulk < 0
  · have e : szR 1048576 p.bulk = -1 := if_pos h
    refine FnZ_of (rs := [.tmp 2]) false Try.func3 rfl rfl rfl rfl (Nat.le_of_ble_eq_true rfl) ?_
    simp -dsimp
    refine call_ (szPlace_fn p 1048576 (by omega) (by omega) hp) (by simp -dsimp) ?_
    simp -dsimp [e]
  have e : szR 1048576 p.bulk = 1048576 - p.bulk := if_neg h
  have hs := Place.small_of h
  have hsz := szPlace_fn p 1048576 (by omega) (by omega) hp
  have h1 := toPlace_fn p hs
  have h2 := deskNewS_fn p hs hf
  have h3 := deskNew_fn p hs
  have nsm : (deskNew p).small := by
    unfold deskNew; split
    · exact ⟨hs, by simp, by simp⟩
    · exact ⟨⟨by simp [noDeskV], by simp [noDeskV]⟩, by simp [noDeskV], by simp [noDeskV]⟩
  have npast : (deskNew p).past = [] := by unfold deskNew; split <;> rfl
  have h4 := eqDesk_fn (deskNew p) (deskNew p) nsm
  have h5 := eqPlace_fn p p hs
  have hl1 : ∀ c ∈ p.story, c.says.length ≤ 1048576 := fun c hc => hs.2 c hc
  have hl2 : ∀ c ∈ (deskNew p).now.story, c.says.length ≤ 1048576 := fun c hc => nsm.1.2 c hc
  have hq1 := mkn_le 1048576 p.story 1 hl1
  have hq2 := mkn_le 1048576 (deskNew p).now.story 1 hl2
  have hs1 := hs.1
  have hs2 := nsm.1.1
  have hge1 := mkn_ge p.story 1
  have hge2 := mkn_ge (deskNew p).now.story 1
  have mb1 : mkn 1 p.story ≤ 100000000000000 := by omega
  have mb2 : mkn 1 (deskNew p).now.story ≤ 100000000000000 := by omega
  have h0 : ¬ mkn 1 p.story < 0 := by omega
  have h02 : ¬ mkn 1 (deskNew p).now.story < 0 := by omega
  have h6 := fun m lo hi n hlo st js h => markPlace_own p 1 (by omega) mb1 (fun c hc => by have := hl1 c hc; omega) m lo hi n hlo st js h
  have h7 := fun m lo hi n hlo st js h => markDesk_own (deskNew p).now 1 (by omega) mb2 (fun c hc => by have := hl2 c hc; omega) m lo hi n hlo st js h
  have h8 := heldDesk_fn (deskNew p).now.people (deskNew p).now.story 1 (by omega) mb2 (fun c hc => by have := hl2 c hc; omega)
  have h9 := fun m n lo hlo st js h k hk => deskNew_lent p hs m n lo hlo st js h (k := k) hk
  have hto := fun m n => toPlace_own p hs m n
  rw [e] at hsz
  clear hq1 hq2 hge1 hge2 e
  generalize deskNew p = D at *
  generalize placeOk p = okp at *
  obtain ⟨⟨D1, D2⟩, D3⟩ := D
  simp only at npast
  subst npast
  refine FnZ_of (rs := [.tmp 2]) false Try.func3 rfl rfl rfl rfl (Nat.le_of_ble_eq_true rfl) ?_
  simp -dsimp
  refine call_ hsz (by simp -dsimp) ?_
  simp -dsimp [h, nes]
  refine call_ h1 (by simp -dsimp) ?_
  simp -dsimp [nes]
  refine call_ h2 (by simp -dsimp) ?_
  simp -dsimp [nes]
  refine callL_ (vs := [p.v]) (hto _ _) (by simp -dsimp) ?_
  rintro t m1 n1 ⟨hn1, hout1, st, js, rfl, hrow⟩
  have k0 := hout1 0 (by omega)
  have k1 := hout1 1 (by omega)
  simp -dsimp [nes] at k0 k1
  have hc := hrow.cell
  have hcs := hrow.cells
  have f0 := far (show 0 < n1 by omega)
  have f1 := far (show 1 < n1 by omega)
  simp -dsimp [nes, k0, k1, hc, hcs, f0, f1]
  refine h9 _ _ _ ?_ st js (hrow.wide (Nat.le_refl _) (show n1 ≤ n1 + 1 + 1 by omega) fun j j1 j2 => by simp [show ¬ j = n1 by omega]) _ ?_
  · omega
  intro st2 js2 m2 n2 hn2 hout2 hrow2
  have q0 := hout2 0 (by omega)
  have q1 := hout2 1 (by omega)
  have q2 := hout2 n1 (by omega)
  simp -dsimp [k0, k1, f0, f1] at q0 q1 q2
  have hc2 := hrow2.cell
  have hcs2 := hrow2.cells
  have g0 := far (show 0 < n2 by omega)
  have g1 := far (show 1 < n2 by omega)
  have g2 := far (show n1 < n2 by omega)
  have hr0 := hrow.wide (m' := updM m2 n2 (some (.box 31 3 [.v (.int .i64 D1), st2, .nil]))) (Nat.le_refl _) (Nat.le_refl _) fun j j1 j2 => by
    have := hout2 j (by omega)
    simp [show ¬ j = n1 by omega] at this
    simp [show ¬ j = n2 by omega, this]
  have hr2 := hrow2.keep (m' := updM m2 n2 (some (.box 31 3 [.v (.int .i64 D1), st2, .nil]))) fun j j1 j2 => by simp [show ¬ j = n2 by omega]
  have hb0 := hr0.bor 1
  have hb2 := hr2.bor 1
  simp -dsimp [nes, q0, q1, q2, hc, hcs, hc2, hcs2, g0, g1, g2]
  refine callM_ h4 (by simp -dsimp [hb2]) rfl ?_
  simp -dsimp [nes, q0, q1, q2, hc, hcs, hc2, hcs2, g0, g1, g2]
  refine twp_draw (List.range 5) [n1, 0] [[0], [1], [], [], []] (List.replicate 5 [0, 1]) (by kernel_rfl) (by kernel_rfl) (by kernel_rfl) (by kernel_rfl) ?_
  simp -dsimp [List.range_succ, nes, q0, q1, q2, hc, hcs, hc2, hcs2, g0, g1, g2, f0]
  refine call_ h1 (by simp -dsimp) ?_
  simp -dsimp [List.range_succ, nes, q0, q1, q2, hc, hcs, hc2, hcs2, g0, g1, g2, f0]
  refine callM_ h5 (by simp -dsimp [hb0]) rfl ?_
  simp -dsimp [List.range_succ, nes, q0, q1, q2, hc, hcs, hc2, hcs2, g0, g1, g2, f0]
  refine callS_ (h6 _ _ _ _ (by omega) st js hr0) ?_
  rintro t m4 n4 ⟨rfl, hn4, hrow4, hout4⟩
  have u0 := hout4 0 (by omega) (.inl (by omega))
  have u1 := hout4 1 (by omega) (.inl (by omega))
  have u2 := hout4 n2 (by omega) (.inr (by omega))
  simp -dsimp [q0, q1, g0, g1] at u0 u1 u2
  have hr4 := hr2.keep (m' := m4) fun j j1 j2 => hout4 j (by omega) (.inr (by omega))
  have hb4 := hr4.bor 1
  simp -dsimp [nes, u0, u1, u2, h0, hc2, hcs2]
  refine callM_ h4 (by simp -dsimp [hb4]) rfl ?_
  simp -dsimp [nes, u0, u1, u2, h0, hc2, hcs2]
  refine callS_ (h7 _ _ _ _ (by omega) st2 js2 hr4) ?_
  rintro t m5 n5 ⟨rfl, hn5, hrow5, hout5⟩
  have v0 := hout5 0 (by omega) (.inl (by omega))
  have v1 := hout5 1 (by omega) (.inl (by omega))
  have v2 := hout5 n2 (by omega) (.inr (Nat.le_refl _))
  rw [u0] at v0
  rw [u1] at v1
  rw [u2] at v2
  have hb5 := hrow5.bor 1
  have w0 := far (show 0 < n5 by omega)
  have w1 := far (show 1 < n5 by omega)
  have w2 := far (show n2 < n5 by omega)
  simp -dsimp [nes, v0, v1, v2, hc2, hcs2]
  refine callM_ h8 (by simp -dsimp [hb5]) rfl ?_
  simp -dsimp [nes, v0, v1, v2, h02, hc2, hcs2]
  refine call_ h1 (by simp -dsimp) ?_
  simp -dsimp [nes, v0, v1, v2, h02, hc2, hcs2]
  refine call_ h3 (by simp -dsimp) ?_
  simp -dsimp [nes, v0, v1, v2, h02, hc2, hcs2, w0, w1, w2]
  refine call_ h4 (by simp -dsimp) ?_
  have hb6 := (hrow5.keep (m' := updM m5 n5 (some (.box 31 3 [.v (.int .i64 D1), .v (.sl (D2.map Claim.v)), .v (.sl [])]))) fun j j1 j2 => by simp [show ¬ j = n5 by omega]).bor 1
  simp -dsimp [nes, v0, v1, v2, h02, hc2, hcs2, w0, w1, w2]
  refine callM_ h8 (by simp -dsimp [hb6]) rfl ?_
  simp -dsimp [nes, v0, v1, v2, h02, hc2, hcs2, w0, w1, w2]
theorem exactDeskNew_row (p : Place) (h : p.fit ∧ p.mid) : FnZ Try.prog 3 [p.v] (.bool true) := lawExactDeskNew p h.2 h.1
end TL

/- The library's variables at the start: this program reads none of them. -/
set_option linter.unusedVariables false
namespace TL
open Go Go.Proofs
theorem gl_start {W : World} (h : W.ShapedOpen Try.prog) : Gl Try.prog (ZA W) W := by
  have n1 : Try.prog.globalNamed "internal/bytealg.MaxLen" = none := by kernel_rfl
  have n2 : Try.prog.globalNamed "strconv.ErrSyntax" = none := by kernel_rfl
  have n3 : Try.prog.globalNamed "strconv.ErrRange" = none := by kernel_rfl
  rintro g Q (⟨e, _⟩ | ⟨e | e, _⟩)
  · rw [n1] at e; cases e
  · rw [n2] at e; cases e
  · rw [n3] at e; cases e
end TL
