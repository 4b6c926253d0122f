/- Closed facts of the row of FnDeskDo. -/
import Derived.Test.YtndfipgiaeeheaaGreatDoorRows
import Derived.Test.YtndfipgiaeeheaaGreatDoorGj
import Derived.JoinedOf
import Derived.SevenTiedAt
import Derived.KernelRfl
set_option maxRecDepth 100000
namespace Go.Proofs.YtndfipgiaeeheaaGreatDoor.fnDeskDo
open Go
theorem facts : joinedFacts Tryz.pinned.checked.prog 3 Tryz.f3 Rows.fnDeskDoSpec Rows.fnDeskDoRow = true := by
  unfold joinedFacts
  rw [wide.may_enter, wide.lifts_are, wide.make_is]
  kernel_rfl
theorem wf : Rows.fnDeskDoRow.wfByText (OpenSpec.ofChange Rows.fnDeskDoSpec) = true := by kernel_rfl
theorem goes : false = Rows.fnDeskDoRow.goesBy Tryz.pinned.checked.prog := by kernel_rfl
theorem named : Tryz.pinned.checked.prog.funcNamed Rows.fnDeskDoRow.func = some 3 := by kernel_rfl
end Go.Proofs.YtndfipgiaeeheaaGreatDoor.fnDeskDo
