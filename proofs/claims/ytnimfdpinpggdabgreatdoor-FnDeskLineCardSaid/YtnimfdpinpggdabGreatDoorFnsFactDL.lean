/- Closed facts of the row of FnDeskLine. -/
import Derived.Test.YtnimfdpinpggdabGreatDoorRows
import Derived.Test.YtnimfdpinpggdabGreatDoorGm
import Derived.JoinedOf
import Derived.SevenTiedAt
import Derived.KernelRfl
set_option maxRecDepth 100000
namespace Go.Proofs.YtnimfdpinpggdabGreatDoor.fnDeskLine
open Go
theorem facts : joinedFacts Tryz.pinned.checked.prog 3 Tryz.f3 Rows.fnDeskLineSpec Rows.fnDeskLineRow = true := by
  unfold joinedFacts
  rw [wide.may_enter, wide.lifts_are, wide.make_is]
  kernel_rfl
theorem wf : Rows.fnDeskLineRow.wfByText (OpenSpec.ofChange Rows.fnDeskLineSpec) = true := by kernel_rfl
theorem goes : false = Rows.fnDeskLineRow.goesBy Tryz.pinned.checked.prog := by kernel_rfl
theorem named : Tryz.pinned.checked.prog.funcNamed Rows.fnDeskLineRow.func = some 3 := by kernel_rfl
end Go.Proofs.YtnimfdpinpggdabGreatDoor.fnDeskLine
