/- Closed facts of the row of FnStoreSave. -/
import Derived.Test.YtlcgghbbjfeehaaGreatDoorRows
import Derived.Test.YtlcgghbbjfeehaaGreatDoorGk
import Derived.JoinedOf
import Derived.SevenTiedAt
import Derived.KernelRfl
set_option maxRecDepth 100000
namespace Go.Proofs.YtlcgghbbjfeehaaGreatDoor.fnStoreSave
open Go
theorem facts : joinedFacts Tryz.pinned.checked.prog 4 Tryz.f4 Rows.fnStoreSaveSpec Rows.fnStoreSaveRow = true := by
  unfold joinedFacts
  rw [wide.may_enter, wide.lifts_are, wide.make_is]
  kernel_rfl
theorem wf : Rows.fnStoreSaveRow.wfByText (OpenSpec.ofChange Rows.fnStoreSaveSpec) = true := by kernel_rfl
theorem goes : false = Rows.fnStoreSaveRow.goesBy Tryz.pinned.checked.prog := by kernel_rfl
theorem named : Tryz.pinned.checked.prog.funcNamed Rows.fnStoreSaveRow.func = some 4 := by kernel_rfl
end Go.Proofs.YtlcgghbbjfeehaaGreatDoor.fnStoreSave
