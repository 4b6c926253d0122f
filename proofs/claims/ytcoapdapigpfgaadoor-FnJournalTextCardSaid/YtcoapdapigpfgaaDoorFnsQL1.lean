/- The library's functions, off the shelf: texts joined, numbers written, prefixes cut. -/
import Derived.Test.YtcoapdapigpfgaaDoorFnsQE1
import Derived.Test.YtcoapdapigpfgaaDoorShelfA
import Derived.Shelf.Strings.OnBuilder
import Derived.Shelf.Strconv.Itoa3
set_option linter.unusedSimpArgs false
set_option linter.unusedVariables false
set_option maxRecDepth 100000
namespace TL
open Go Go.Proofs Go.RowKit
section
variable {P : Program}
theorem FnZ_calls {f : Nat} {args : List V} {r : V} (hf : ∃ fn, P.funcs[f]? = some fn ∧ (fn.name == "runtime.NumGoroutine") = false ∧ fn.body.isNone = false)
    (h : ∀ (Z : Zs) (w : World) (vs : List Value), ZOk P Z w → RepVs Z w args vs → Calls P f vs.toArray w fun e w' => ∃ v, e = .returned v ∧ Below w.heap.size w w' ∧ RepV (freshZ Z w.heap.size w'.heap.size) w' r v) : FnZ P f args r := ⟨hf, h⟩
theorem calls_mono {f : Nat} {args : Array Value} {w : World} {R R' : Ending → World → Prop} (h : Calls P f args w R) (hR : ∀ e w', R e w' → R' e w') : Calls P f args w R' := h.mono hR
/-- Rows of texts. -/
theorem strs_rep {Z : Zs} {w : World} {z : Nat} : ∀ (xs : List (List UInt8)) (us : List Value), RepEs Z w z (xs.map V.str) us → ∃ bs : List ByteArray, us = bs.map Value.string ∧ bs.map (·.data.toList) = xs
  | [], us, h => by cases h; exact ⟨[], rfl, rfl⟩
  | x :: xs, us, h => by
    cases h with
    | one hc h t =>
      cases h with
      | str hb =>
        obtain ⟨bs, h1, h2⟩ := strs_rep xs _ t
        exact ⟨_ :: bs, by rw [h1]; rfl, by simp [hb, h2]⟩
theorem strs_row {Z : Zs} {w : World} {xs : List (List UInt8)} {u : Value} (h : RepV Z w (.sl (xs.map V.str)) u) : (xs = [] ∧ ∃ A c, u = .slice A 0 c) ∨
    ∃ k o c, ∃ bs : List ByteArray, u = .slice (some ⟨k, o, none⟩) bs.length c ∧ bs.map (·.data.toList) = xs ∧ bs.length ≤ c ∧ bs ≠ [] ∧ (∀ (j : Nat) x, bs[j]? = some x → w.cell? ⟨k, o + j, none⟩ = some (.string x)) ∧ k < w.heap.size := by
  generalize hv : V.sl (xs.map V.str) = v at h
  cases h with
  | nil A c => left; injection hv with hv; exact ⟨by simpa using hv, A, c, rfl⟩
  | @sl z ys us ad n c h hn hc hm hz =>
    injection hv with hv
    subst hv
    obtain ⟨bs, rfl, h2⟩ := strs_rep xs us h
    have hlen : bs.length = n := by rw [← hn, ← h2]; simp
    cases bs with
    | nil => left; exact ⟨by simpa using h2.symm, some ad, c, by rw [← hlen]; rfl⟩
    | cons b bs =>
      right
      have h0 := (hz 0 (.string b) rfl).1
      obtain ⟨k, o, sp⟩ := ad
      obtain rfl : sp = none := spot_of_cell h0
      refine ⟨k, o, c, b :: bs, by rw [hlen], h2, by omega, by simp, fun j x hx => ?_, ?_⟩
      · have := (hz j (.string x) (by rw [List.getElem?_map, hx]; rfl)).1
        rw [add_lit] at this; exact this
      · unfold World.cell? at h0
        split at h0
        · rename_i hb; exact (Array.getElem?_eq_some_iff.1 hb).1
        · cases h0
  | _ => cases hv
theorem join_FnZ {ρ : Go.Shelf.Ren} (L : Go.Proofs.Lays.n156 P ρ) (X : Go.Proofs.Builder.Extra P ρ) (hf : ∃ fn, P.funcs[ρ.f 156]? = some fn ∧ (fn.name == "runtime.NumGoroutine") = false ∧ fn.body.isNone = false) (xs : List (List UInt8)) (sep : List UInt8)
    (hN : xs.length ≤ 140737488355328) (hlen : (Go.Lib.join xs sep).length ≤ 140737488355328) : FnZ P (ρ.f 156) [.sl (xs.map V.str), .str sep] (.str (Go.Lib.join xs sep)) := by
  refine FnZ_calls hf fun Z w vs hz hv => ?_
  cases hv with | cons h1 hv => cases hv with | cons h2 hv => cases hv with | nil =>
    cases h2 with
    | @str _ bsep hb =>
      rcases strs_row h1 with ⟨rfl, A, c, rfl⟩ | ⟨k, o, c, bs, rfl, h2, h3, h4, h5, h6⟩
      · refine calls_mono (Any.strings_Join_none L X A c bsep w) ?_
        rintro e w' ⟨rfl, rfl⟩
        exact ⟨_, rfl, Below.refl _ _, .str rfl⟩
      · have e : bs.map (fun x => x.data.toList) = xs := h2
        refine calls_mono (Any.strings_Join L X k o c bs bsep w h5 h6 (by rw [← e] at hN; simpa using hN) h3 (by rw [e, hb]; exact hlen)) ?_
        rintro e' w' ⟨rfl, hw⟩
        refine ⟨_, rfl, hw, .str ?_⟩
        rw [e, hb]
theorem itoa_FnZ {ρ : Go.Shelf.Ren} (L : Go.Proofs.Lays.n171 P ρ) (hf : ∃ fn, P.funcs[ρ.f 171]? = some fn ∧ (fn.name == "runtime.NumGoroutine") = false ∧ fn.body.isNone = false) (i : Nat) (hi : i < 100) : FnZ P (ρ.f 171) [.int .i64 i] (.str (Go.Lib.decDigits i)) := by
  refine FnZ_calls hf fun Z w vs hz hv => ?_
  cases hv with | cons h1 hv => cases hv with | nil =>
    cases h1
    refine calls_mono (Any.strconv_Itoa_small L i hi w) ?_
    rintro e w' ⟨rfl, rfl⟩
    exact ⟨_, rfl, Below.refl _ _, .str rfl⟩
end
theorem itoa_fn (n : Int) (h0 : 0 ≤ n) (h : n ≤ 99) : FnZ Tryd.prog 57 [.int .i64 n] (.str (dec n)) := by
  have := itoa_FnZ Tryd.lays171 ⟨_, Tryd.func57, rfl, rfl⟩ n.toNat (by omega)
  have e : ((n.toNat : Nat) : Int) = n := by omega
  rw [e] at this
  exact this
theorem join_fn (xs : List (List UInt8)) (sep : List UInt8) (hN : xs.length ≤ 140737488355328) (hlen : (Go.Lib.join xs sep).length ≤ 140737488355328) : FnZ Tryd.prog 63 [.sl (xs.map V.str), .str sep] (.str (Go.Lib.join xs sep)) :=
  join_FnZ Tryd.lays156 Tryd.Builder_Extra_156 ⟨_, Tryd.func63, rfl, rfl⟩ xs sep hN hlen
end TL
