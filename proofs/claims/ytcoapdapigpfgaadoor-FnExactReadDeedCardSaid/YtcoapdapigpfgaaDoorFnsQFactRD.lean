/- Closed facts of the row of FnExactReadDeed. -/
import Derived.Test.YtcoapdapigpfgaaDoorRows
import Derived.Test.YtcoapdapigpfgaaDoorFnsQFWa
import Derived.Test.YtcoapdapigpfgaaDoorFnsQFWb
import Derived.Test.YtcoapdapigpfgaaDoorFnsQFWc
import Derived.JoinedOf
import Derived.SevenTiedAt
import Derived.KernelRfl
set_option maxRecDepth 100000
namespace Go.Proofs.YtcoapdapigpfgaaDoor.fnExactReadDeed
open Go
theorem facts : joinedFacts Tryd.pinned.checked.prog 11 Tryd.f11 Rows.fnExactReadDeedSpec Rows.fnExactReadDeedRow = true := by
  unfold joinedFacts
  rw [wide.may_enter, wide.lifts_are, wide.make_is]
  kernel_rfl
theorem wf : Rows.fnExactReadDeedRow.wfByText (OpenSpec.ofChange Rows.fnExactReadDeedSpec) = true := by kernel_rfl
theorem goes : false = Rows.fnExactReadDeedRow.goesBy Tryd.pinned.checked.prog := by kernel_rfl
theorem named : Tryd.pinned.checked.prog.funcNamed Rows.fnExactReadDeedRow.func = some 11 := by kernel_rfl
end Go.Proofs.YtcoapdapigpfgaaDoor.fnExactReadDeed
