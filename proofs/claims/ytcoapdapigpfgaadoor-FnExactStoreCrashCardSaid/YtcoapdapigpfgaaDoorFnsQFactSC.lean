/- Closed facts of the row of FnExactStoreCrash. -/
import Derived.Test.YtcoapdapigpfgaaDoorRows
import Derived.Test.YtcoapdapigpfgaaDoorFnsQFWa
import Derived.Test.YtcoapdapigpfgaaDoorFnsQFWb
import Derived.Test.YtcoapdapigpfgaaDoorFnsQFWc
import Derived.JoinedOf
import Derived.SevenTiedAt
import Derived.KernelRfl
set_option maxRecDepth 100000
namespace Go.Proofs.YtcoapdapigpfgaaDoor.fnExactStoreCrash
open Go
theorem facts : joinedFacts Tryd.pinned.checked.prog 9 Tryd.f9 Rows.fnExactStoreCrashSpec Rows.fnExactStoreCrashRow = true := by
  unfold joinedFacts
  rw [wide.may_enter, wide.lifts_are, wide.make_is]
  kernel_rfl
theorem wf : Rows.fnExactStoreCrashRow.wfByText (OpenSpec.ofChange Rows.fnExactStoreCrashSpec) = true := by kernel_rfl
theorem goes : false = Rows.fnExactStoreCrashRow.goesBy Tryd.pinned.checked.prog := by kernel_rfl
theorem named : Tryd.pinned.checked.prog.funcNamed Rows.fnExactStoreCrashRow.func = some 9 := by kernel_rfl
end Go.Proofs.YtcoapdapigpfgaaDoor.fnExactStoreCrash
