/- Closed facts of the row of FnExactStoreSync. -/
import Derived.Test.YtcoapdapigpfgaaDoorRows
import Derived.Test.YtcoapdapigpfgaaDoorFnsQFWa
import Derived.Test.YtcoapdapigpfgaaDoorFnsQFWb
import Derived.Test.YtcoapdapigpfgaaDoorFnsQFWc
import Derived.JoinedOf
import Derived.SevenTiedAt
import Derived.KernelRfl
set_option maxRecDepth 100000
namespace Go.Proofs.YtcoapdapigpfgaaDoor.fnExactStoreSync
open Go
theorem facts : joinedFacts Tryd.pinned.checked.prog 10 Tryd.f10 Rows.fnExactStoreSyncSpec Rows.fnExactStoreSyncRow = true := by
  unfold joinedFacts
  rw [wide.may_enter, wide.lifts_are, wide.make_is]
  kernel_rfl
theorem wf : Rows.fnExactStoreSyncRow.wfByText (OpenSpec.ofChange Rows.fnExactStoreSyncSpec) = true := by kernel_rfl
theorem goes : false = Rows.fnExactStoreSyncRow.goesBy Tryd.pinned.checked.prog := by kernel_rfl
theorem named : Tryd.pinned.checked.prog.funcNamed Rows.fnExactStoreSyncRow.func = some 10 := by kernel_rfl
end Go.Proofs.YtcoapdapigpfgaaDoor.fnExactStoreSync
