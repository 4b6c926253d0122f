/- Closed facts of the row of FnExactDeskRun. -/
import Derived.Test.YtibdhpnjjgppgaaGreatDoorRows
import Derived.Test.YtibdhpnjjgppgaaGreatDoorHk
import Derived.JoinedOf
import Derived.SevenTiedAt
import Derived.KernelRfl
set_option maxRecDepth 100000
namespace Go.Proofs.YtibdhpnjjgppgaaGreatDoor.fnExactDeskRun
open Go
theorem facts : joinedFacts Tryz.pinned.checked.prog 4 Tryz.f4 Rows.fnExactDeskRunSpec Rows.fnExactDeskRunRow = true := by
  unfold joinedFacts
  rw [wide.may_enter, wide.lifts_are, wide.make_is]
  kernel_rfl
theorem wf : Rows.fnExactDeskRunRow.wfByText (OpenSpec.ofChange Rows.fnExactDeskRunSpec) = true := by kernel_rfl
theorem goes : false = Rows.fnExactDeskRunRow.goesBy Tryz.pinned.checked.prog := by kernel_rfl
theorem named : Tryz.pinned.checked.prog.funcNamed Rows.fnExactDeskRunRow.func = some 4 := by kernel_rfl
end Go.Proofs.YtibdhpnjjgppgaaGreatDoor.fnExactDeskRun
