/- Closed facts of the row of FnExactDeskLine. -/
import Derived.Test.YtnimfdpinpggdaaGreatDoorRows
import Derived.Test.YtnimfdpinpggdaaGreatDoorGl
import Derived.JoinedOf
import Derived.SevenTiedAt
import Derived.KernelRfl
set_option maxRecDepth 100000
namespace Go.Proofs.YtnimfdpinpggdaaGreatDoor.fnExactDeskLine
open Go
theorem facts : joinedFacts Tryz.pinned.checked.prog 3 Tryz.f3 Rows.fnExactDeskLineSpec Rows.fnExactDeskLineRow = true := by
  unfold joinedFacts
  rw [wide.may_enter, wide.lifts_are, wide.make_is]
  kernel_rfl
theorem wf : Rows.fnExactDeskLineRow.wfByText (OpenSpec.ofChange Rows.fnExactDeskLineSpec) = true := by kernel_rfl
theorem goes : false = Rows.fnExactDeskLineRow.goesBy Tryz.pinned.checked.prog := by kernel_rfl
theorem named : Tryz.pinned.checked.prog.funcNamed Rows.fnExactDeskLineRow.func = some 3 := by kernel_rfl
end Go.Proofs.YtnimfdpinpggdaaGreatDoor.fnExactDeskLine
