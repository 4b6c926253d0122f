/- Closed facts of the row of FnExactStoreOk. -/
import Derived.Test.YtcoapdapigpfgaaDoorRows
import Derived.Test.YtcoapdapigpfgaaDoorFnsQFWa
import Derived.Test.YtcoapdapigpfgaaDoorFnsQFWb
import Derived.Test.YtcoapdapigpfgaaDoorFnsQFWc
import Derived.JoinedOf
import Derived.SevenTiedAt
import Derived.KernelRfl
set_option maxRecDepth 100000
namespace Go.Proofs.YtcoapdapigpfgaaDoor.fnExactStoreOk
open Go
theorem facts : joinedFacts Tryd.pinned.checked.prog 8 Tryd.f8 Rows.fnExactStoreOkSpec Rows.fnExactStoreOkRow = true := by
  unfold joinedFacts
  rw [wide.may_enter, wide.lifts_are, wide.make_is]
  kernel_rfl
theorem wf : Rows.fnExactStoreOkRow.wfByText (OpenSpec.ofChange Rows.fnExactStoreOkSpec) = true := by kernel_rfl
theorem goes : false = Rows.fnExactStoreOkRow.goesBy Tryd.pinned.checked.prog := by kernel_rfl
theorem named : Tryd.pinned.checked.prog.funcNamed Rows.fnExactStoreOkRow.func = some 8 := by kernel_rfl
end Go.Proofs.YtcoapdapigpfgaaDoor.fnExactStoreOk
