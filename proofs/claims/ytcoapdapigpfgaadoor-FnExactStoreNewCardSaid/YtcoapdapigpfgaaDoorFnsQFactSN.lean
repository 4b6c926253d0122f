/- Closed facts of the row of FnExactStoreNew. -/
import Derived.Test.YtcoapdapigpfgaaDoorRows
import Derived.Test.YtcoapdapigpfgaaDoorFnsQFWa
import Derived.Test.YtcoapdapigpfgaaDoorFnsQFWb
import Derived.Test.YtcoapdapigpfgaaDoorFnsQFWc
import Derived.JoinedOf
import Derived.SevenTiedAt
import Derived.KernelRfl
set_option maxRecDepth 100000
namespace Go.Proofs.YtcoapdapigpfgaaDoor.fnExactStoreNew
open Go
theorem facts : joinedFacts Tryd.pinned.checked.prog 6 Tryd.f6 Rows.fnExactStoreNewSpec Rows.fnExactStoreNewRow = true := by
  unfold joinedFacts
  rw [wide.may_enter, wide.lifts_are, wide.make_is]
  kernel_rfl
theorem wf : Rows.fnExactStoreNewRow.wfByText (OpenSpec.ofChange Rows.fnExactStoreNewSpec) = true := by kernel_rfl
theorem goes : false = Rows.fnExactStoreNewRow.goesBy Tryd.pinned.checked.prog := by kernel_rfl
theorem named : Tryd.pinned.checked.prog.funcNamed Rows.fnExactStoreNewRow.func = some 6 := by kernel_rfl
end Go.Proofs.YtcoapdapigpfgaaDoor.fnExactStoreNew
