/- Closed facts of the row of FnReadDeed. -/
import Derived.Test.YtcoapdapigpfgaaDoorRows
import Derived.Test.YtcoapdapigpfgaaDoorFnsQFWa
import Derived.Test.YtcoapdapigpfgaaDoorFnsQFWb
import Derived.Test.YtcoapdapigpfgaaDoorFnsQFWc
import Derived.JoinedOf
import Derived.SevenTiedAt
import Derived.KernelRfl
set_option maxRecDepth 100000
namespace Go.Proofs.YtcoapdapigpfgaaDoor.fnReadDeed
open Go
theorem facts : joinedFacts Tryd.pinned.checked.prog 13 Tryd.f13 Rows.fnReadDeedSpec Rows.fnReadDeedRow = true := by
  unfold joinedFacts
  rw [wide.may_enter, wide.lifts_are, wide.make_is]
  kernel_rfl
theorem wf : Rows.fnReadDeedRow.wfByText (OpenSpec.ofChange Rows.fnReadDeedSpec) = true := by kernel_rfl
theorem goes : false = Rows.fnReadDeedRow.goesBy Tryd.pinned.checked.prog := by kernel_rfl
theorem named : Tryd.pinned.checked.prog.funcNamed Rows.fnReadDeedRow.func = some 13 := by kernel_rfl
end Go.Proofs.YtcoapdapigpfgaaDoor.fnReadDeed
