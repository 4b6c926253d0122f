/- What the arguments of the exact laws are. -/
import Derived.Test.YtcoapdapigpfgaaFns13
import Derived.Test.YtcoapdapigpfgaaTlOpen
import Derived.KernelRfl
set_option linter.unusedVariables false
set_option linter.unusedSimpArgs false
namespace TL
open Go Go.Proofs
theorem fit_wf {n : Int} (h : (Lit.int .i64 n).wf = true) : fit n := by
  simp [Lit.wf, IntKind.min, IntKind.max, IntKind.signed, IntKind.bits] at h
  unfold fit; omega
theorem opens_int' (w : World) : Opens Try.prog w 3 fun vs => ∃ n : Int, fit n ∧ vs = [.int .i64 n] :=
  (opens_int Try.underlying3).mono fun vs h => by obtain ⟨n, rfl, hw⟩ := h; exact ⟨n, fit_wf hw, rfl⟩
theorem opens_code (w : World) : Opens Try.prog w 22 fun vs => ∃ bs : List UInt8, vs = [codeV bs] :=
  (opens_slice (α := UInt8) (v := fun b => V.int .u8 b.toNat) (Q := fun _ => True) Try.underlying22 (z := 1) (by kernel_rfl) (by omega) ((opens_int Try.underlying5).mono fun vs h => by
    obtain ⟨n, rfl, hw⟩ := h
    refine ⟨UInt8.ofNat n.toNat, trivial, .inr ⟨rfl, ?_⟩⟩
    have e : ((UInt8.ofNat n.toNat).toNat : Int) = n := by
      simp [Lit.wf, IntKind.min, IntKind.max, IntKind.signed, IntKind.bits] at hw
      rw [UInt8.toNat_ofNat']; omega
    rw [e])).mono fun vs h => by obtain ⟨l, rfl, _, _⟩ := h; exact ⟨l, rfl⟩
end TL
