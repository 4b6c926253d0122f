/- Closed facts of the row of FnDeedText. -/
import Derived.Test.YtcoapdapigpfgaaDoorRows
import Derived.Test.YtcoapdapigpfgaaDoorFnsQFWa
import Derived.Test.YtcoapdapigpfgaaDoorFnsQFWb
import Derived.Test.YtcoapdapigpfgaaDoorFnsQFWc
import Derived.JoinedOf
import Derived.SevenTiedAt
import Derived.KernelRfl
set_option maxRecDepth 100000
namespace Go.Proofs.YtcoapdapigpfgaaDoor.fnDeedText
open Go
theorem facts : joinedFacts Tryd.pinned.checked.prog 12 Tryd.f12 Rows.fnDeedTextSpec Rows.fnDeedTextRow = true := by
  unfold joinedFacts
  rw [wide.may_enter, wide.lifts_are, wide.make_is]
  kernel_rfl
theorem wf : Rows.fnDeedTextRow.wfByText (OpenSpec.ofChange Rows.fnDeedTextSpec) = true := by kernel_rfl
theorem goes : false = Rows.fnDeedTextRow.goesBy Tryd.pinned.checked.prog := by kernel_rfl
theorem named : Tryd.pinned.checked.prog.funcNamed Rows.fnDeedTextRow.func = some 12 := by kernel_rfl
end Go.Proofs.YtcoapdapigpfgaaDoor.fnDeedText
