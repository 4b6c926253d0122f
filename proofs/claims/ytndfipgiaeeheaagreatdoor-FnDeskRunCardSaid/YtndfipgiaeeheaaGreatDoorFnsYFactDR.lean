/- Closed facts of the row of FnDeskRun. -/
import Derived.Test.YtndfipgiaeeheaaGreatDoorRows
import Derived.Test.YtndfipgiaeeheaaGreatDoorGj
import Derived.JoinedOf
import Derived.SevenTiedAt
import Derived.KernelRfl
set_option maxRecDepth 100000
namespace Go.Proofs.YtndfipgiaeeheaaGreatDoor.fnDeskRun
open Go
theorem facts : joinedFacts Tryz.pinned.checked.prog 4 Tryz.f4 Rows.fnDeskRunSpec Rows.fnDeskRunRow = true := by
  unfold joinedFacts
  rw [wide.may_enter, wide.lifts_are, wide.make_is]
  kernel_rfl
theorem wf : Rows.fnDeskRunRow.wfByText (OpenSpec.ofChange Rows.fnDeskRunSpec) = true := by kernel_rfl
theorem goes : false = Rows.fnDeskRunRow.goesBy Tryz.pinned.checked.prog := by kernel_rfl
theorem named : Tryz.pinned.checked.prog.funcNamed Rows.fnDeskRunRow.func = some 4 := by kernel_rfl
end Go.Proofs.YtndfipgiaeeheaaGreatDoor.fnDeskRun
