/- Closed facts of the row of FnDeskSay. -/
import Derived.Test.YtnimfdpinpggdabGreatDoorRows
import Derived.Test.YtnimfdpinpggdabGreatDoorGm
import Derived.JoinedOf
import Derived.SevenTiedAt
import Derived.KernelRfl
set_option maxRecDepth 100000
namespace Go.Proofs.YtnimfdpinpggdabGreatDoor.fnDeskSay
open Go
theorem facts : joinedFacts Tryz.pinned.checked.prog 4 Tryz.f4 Rows.fnDeskSaySpec Rows.fnDeskSayRow = true := by
  unfold joinedFacts
  rw [wide.may_enter, wide.lifts_are, wide.make_is]
  kernel_rfl
theorem wf : Rows.fnDeskSayRow.wfByText (OpenSpec.ofChange Rows.fnDeskSaySpec) = true := by kernel_rfl
theorem goes : false = Rows.fnDeskSayRow.goesBy Tryz.pinned.checked.prog := by kernel_rfl
theorem named : Tryz.pinned.checked.prog.funcNamed Rows.fnDeskSayRow.func = some 4 := by kernel_rfl
end Go.Proofs.YtnimfdpinpggdabGreatDoor.fnDeskSay
