/- What the arguments of the exact laws are. -/
import Derived.Test.YtcoapdapigpfgaaDoorFnsQ13
import Derived.Test.YtcoapdapigpfgaaDoorTlOpen
import Derived.KernelRfl
set_option linter.unusedVariables false
set_option linter.unusedSimpArgs false
namespace TL
open Go Go.Proofs
theorem fit_wf {n : Int} (h : (Lit.int .i64 n).wf = true) : fit n := by
  simp [Lit.wf, IntKind.min, IntKind.max, IntKind.signed, IntKind.bits] at h
  unfold fit; omega
theorem opens_mark (w : World) : Opens Tryd.prog w 167 fun vs => ∃ a : Mark, a.fit ∧ a.v = .agg vs :=
  (opens_struct2 Tryd.underlying167 rfl (by kernel_rfl) (by kernel_rfl) (opens_int Tryd.underlying3) (opens_int Tryd.underlying3)).mono fun vs h => by
    obtain ⟨v0, v1, rfl, ⟨n0, rfl, w0⟩, ⟨n1, rfl, w1⟩⟩ := h
    exact ⟨⟨n0, n1⟩, ⟨fit_wf w0, fit_wf w1⟩, rfl⟩
theorem opens_marks (w : World) : Opens Tryd.prog w 112 fun vs => ∃ l : List Mark, vs = [.sl (l.map Mark.v)] ∧ l.length ≤ maxLen ∧ ∀ a ∈ l, a.fit :=
  opens_slice Tryd.underlying112 (z := 2) (by kernel_rfl) (by omega) ((opens_mark w).mono fun vs h => by obtain ⟨a, h1, h2⟩ := h; exact ⟨a, h1, .inl h2⟩)
theorem opens_claim (w : World) : Opens Tryd.prog w 114 fun vs => ∃ a : Claim, (a.fit ∧ a.mid) ∧ a.v = .agg vs :=
  (opens_struct2 Tryd.underlying114 rfl (by kernel_rfl) (by kernel_rfl) (opens_int Tryd.underlying3) (opens_marks w)).mono fun vs h => by
    obtain ⟨v0, v1, rfl, ⟨n0, rfl, w0⟩, ⟨l, rfl, hl, hf⟩⟩ := h
    exact ⟨⟨n0, l⟩, ⟨⟨fit_wf w0, hf⟩, by simpa [Claim.mid, mid, maxLen] using hl⟩, rfl⟩
theorem opens_claims (w : World) : Opens Tryd.prog w 29 fun vs => ∃ l : List Claim, vs = [.sl (l.map Claim.v)] ∧ l.length ≤ maxLen ∧ ∀ a ∈ l, a.fit ∧ a.mid :=
  opens_slice Tryd.underlying29 (z := 2) (by kernel_rfl) (by omega) ((opens_claim w).mono fun vs h => by obtain ⟨a, h1, h2⟩ := h; exact ⟨a, h1, .inl h2⟩)
theorem opens_place (w : World) : Opens Tryd.prog w 31 fun vs => ∃ a : Place, (a.fit ∧ a.mid) ∧ a.v = .agg vs :=
  (opens_struct2 Tryd.underlying31 rfl (by kernel_rfl) (by kernel_rfl) (opens_int Tryd.underlying3) (opens_claims w)).mono fun vs h => by
    obtain ⟨v0, v1, rfl, ⟨n0, rfl, w0⟩, ⟨l, rfl, hl, hf⟩⟩ := h
    exact ⟨⟨n0, l⟩, ⟨⟨fit_wf w0, fun c hc => (hf c hc).1⟩, by simpa [mid, maxLen] using hl, fun c hc => (hf c hc).2⟩, rfl⟩
theorem opens_int' (w : World) : Opens Tryd.prog w 3 fun vs => ∃ n : Int, fit n ∧ vs = [.int .i64 n] :=
  (opens_int Tryd.underlying3).mono fun vs h => by obtain ⟨n, rfl, hw⟩ := h; exact ⟨n, fit_wf hw, rfl⟩
theorem opens_code (w : World) : Opens Tryd.prog w 52 fun vs => ∃ bs : List UInt8, vs = [codeV bs] :=
  (opens_slice (α := UInt8) (v := fun b => V.int .u8 b.toNat) (Q := fun _ => True) Tryd.underlying52 (z := 1) (by kernel_rfl) (by omega) ((opens_int Tryd.underlying5).mono fun vs h => by
    obtain ⟨n, rfl, hw⟩ := h
    refine ⟨UInt8.ofNat n.toNat, trivial, .inr ⟨rfl, ?_⟩⟩
    have e : ((UInt8.ofNat n.toNat).toNat : Int) = n := by
      simp [Lit.wf, IntKind.min, IntKind.max, IntKind.signed, IntKind.bits] at hw
      rw [UInt8.toNat_ofNat']; omega
    rw [e])).mono fun vs h => by obtain ⟨l, rfl, _, _⟩ := h; exact ⟨l, rfl⟩
end TL
