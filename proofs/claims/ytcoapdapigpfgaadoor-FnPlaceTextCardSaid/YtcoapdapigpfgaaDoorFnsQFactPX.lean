/- Closed facts of the row of FnPlaceText. -/
import Derived.Test.YtcoapdapigpfgaaDoorRows
import Derived.Test.YtcoapdapigpfgaaDoorFnsQFWa
import Derived.Test.YtcoapdapigpfgaaDoorFnsQFWb
import Derived.Test.YtcoapdapigpfgaaDoorFnsQFWc
import Derived.JoinedOf
import Derived.SevenTiedAt
import Derived.KernelRfl
set_option maxRecDepth 100000
namespace Go.Proofs.YtcoapdapigpfgaaDoor.fnPlaceText
open Go
theorem facts : joinedFacts Tryd.pinned.checked.prog 7 Tryd.f7 Rows.fnPlaceTextSpec Rows.fnPlaceTextRow = true := by
  unfold joinedFacts
  rw [wide.may_enter, wide.lifts_are, wide.make_is]
  kernel_rfl
theorem wf : Rows.fnPlaceTextRow.wfByText (OpenSpec.ofChange Rows.fnPlaceTextSpec) = true := by kernel_rfl
theorem goes : false = Rows.fnPlaceTextRow.goesBy Tryd.pinned.checked.prog := by kernel_rfl
theorem named : Tryd.pinned.checked.prog.funcNamed Rows.fnPlaceTextRow.func = some 7 := by kernel_rfl
end Go.Proofs.YtcoapdapigpfgaaDoor.fnPlaceText
