/- Closed facts of the row of FnExactStoreSave. -/
import Derived.Test.YtlcgghbbjfeehaaGreatDoorRows
import Derived.Test.YtlcgghbbjfeehaaGreatDoorGk
import Derived.JoinedOf
import Derived.SevenTiedAt
import Derived.KernelRfl
set_option maxRecDepth 100000
namespace Go.Proofs.YtlcgghbbjfeehaaGreatDoor.fnExactStoreSave
open Go
theorem facts : joinedFacts Tryz.pinned.checked.prog 3 Tryz.f3 Rows.fnExactStoreSaveSpec Rows.fnExactStoreSaveRow = true := by
  unfold joinedFacts
  rw [wide.may_enter, wide.lifts_are, wide.make_is]
  kernel_rfl
theorem wf : Rows.fnExactStoreSaveRow.wfByText (OpenSpec.ofChange Rows.fnExactStoreSaveSpec) = true := by kernel_rfl
theorem goes : false = Rows.fnExactStoreSaveRow.goesBy Tryz.pinned.checked.prog := by kernel_rfl
theorem named : Tryz.pinned.checked.prog.funcNamed Rows.fnExactStoreSaveRow.func = some 3 := by kernel_rfl
end Go.Proofs.YtlcgghbbjfeehaaGreatDoor.fnExactStoreSave
