/- The library's variables at the start: this program reads none of them. -/
import Derived.Test.YtcoapdapigpfgaaTlFacts
import Derived.Test.YtcoapdapigpfgaaTlOpen
import Derived.KernelRfl
set_option linter.unusedVariables false
namespace TL
open Go Go.Proofs
theorem gl_start {W : World} (h : W.ShapedOpen Try.prog) : Gl Try.prog (ZA W) W := by
  have n1 : Try.prog.globalNamed "internal/bytealg.MaxLen" = none := by kernel_rfl
  rintro g Q ⟨e, _⟩
  rw [n1] at e; cases e
end TL
