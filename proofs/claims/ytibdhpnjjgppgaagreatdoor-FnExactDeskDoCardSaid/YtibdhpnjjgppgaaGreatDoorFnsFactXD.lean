/- Closed facts of the row of FnExactDeskDo. -/
import Derived.Test.YtibdhpnjjgppgaaGreatDoorRows
import Derived.Test.YtibdhpnjjgppgaaGreatDoorHk
import Derived.JoinedOf
import Derived.SevenTiedAt
import Derived.KernelRfl
set_option maxRecDepth 100000
namespace Go.Proofs.YtibdhpnjjgppgaaGreatDoor.fnExactDeskDo
open Go
theorem facts : joinedFacts Tryz.pinned.checked.prog 3 Tryz.f3 Rows.fnExactDeskDoSpec Rows.fnExactDeskDoRow = true := by
  unfold joinedFacts
  rw [wide.may_enter, wide.lifts_are, wide.make_is]
  kernel_rfl
theorem wf : Rows.fnExactDeskDoRow.wfByText (OpenSpec.ofChange Rows.fnExactDeskDoSpec) = true := by kernel_rfl
theorem goes : false = Rows.fnExactDeskDoRow.goesBy Tryz.pinned.checked.prog := by kernel_rfl
theorem named : Tryz.pinned.checked.prog.funcNamed Rows.fnExactDeskDoRow.func = some 3 := by kernel_rfl
end Go.Proofs.YtibdhpnjjgppgaaGreatDoor.fnExactDeskDo
