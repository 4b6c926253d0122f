/- Closed facts of the row of FnExactDeskSay. -/
import Derived.Test.YtnimfdpinpggdaaGreatDoorRows
import Derived.Test.YtnimfdpinpggdaaGreatDoorHl
import Derived.JoinedOf
import Derived.SevenTiedAt
import Derived.KernelRfl
set_option maxRecDepth 100000
namespace Go.Proofs.YtnimfdpinpggdaaGreatDoor.fnExactDeskSay
open Go
theorem facts : joinedFacts Tryz.pinned.checked.prog 4 Tryz.f4 Rows.fnExactDeskSaySpec Rows.fnExactDeskSayRow = true := by
  unfold joinedFacts
  rw [wide.may_enter, wide.lifts_are, wide.make_is]
  kernel_rfl
theorem wf : Rows.fnExactDeskSayRow.wfByText (OpenSpec.ofChange Rows.fnExactDeskSaySpec) = true := by kernel_rfl
theorem goes : false = Rows.fnExactDeskSayRow.goesBy Tryz.pinned.checked.prog := by kernel_rfl
theorem named : Tryz.pinned.checked.prog.funcNamed Rows.fnExactDeskSayRow.func = some 4 := by kernel_rfl
end Go.Proofs.YtnimfdpinpggdaaGreatDoor.fnExactDeskSay
