/- Closed facts of the row of FnExactReadPlace. -/
import Derived.Test.YtlcgghbbjfeehabDoorRows
import Derived.Test.YtlcgghbbjfeehabDoorHf
import Derived.JoinedOf
import Derived.SevenTiedAt
import Derived.KernelRfl
set_option maxRecDepth 100000
namespace Go.Proofs.YtlcgghbbjfeehabDoor.fnExactReadPlace
open Go
theorem facts : joinedFacts Tryd.pinned.checked.prog 4 Tryd.f4 Rows.fnExactReadPlaceSpec Rows.fnExactReadPlaceRow = true := by
  unfold joinedFacts
  rw [wide.may_enter, wide.lifts_are, wide.make_is]
  kernel_rfl
theorem wf : Rows.fnExactReadPlaceRow.wfByText (OpenSpec.ofChange Rows.fnExactReadPlaceSpec) = true := by kernel_rfl
theorem goes : false = Rows.fnExactReadPlaceRow.goesBy Tryd.pinned.checked.prog := by kernel_rfl
theorem named : Tryd.pinned.checked.prog.funcNamed Rows.fnExactReadPlaceRow.func = some 4 := by kernel_rfl
end Go.Proofs.YtlcgghbbjfeehabDoor.fnExactReadPlace
