/- Closed facts of the row of FnStoreSameWay. -/
import Derived.Test.YtlcgghbbjfeehaaGreatDoorRows
import Derived.Test.YtlcgghbbjfeehaaGreatDoorGk
import Derived.JoinedOf
import Derived.SevenTiedAt
import Derived.KernelRfl
set_option maxRecDepth 100000
namespace Go.Proofs.YtlcgghbbjfeehaaGreatDoor.fnStoreSameWay
open Go
theorem facts : joinedFacts Tryz.pinned.checked.prog 7 Tryz.f7 Rows.fnStoreSameWaySpec Rows.fnStoreSameWayRow = true := by
  unfold joinedFacts
  rw [wide.may_enter, wide.lifts_are, wide.make_is]
  kernel_rfl
theorem wf : Rows.fnStoreSameWayRow.wfByText (OpenSpec.ofChange Rows.fnStoreSameWaySpec) = true := by kernel_rfl
theorem goes : false = Rows.fnStoreSameWayRow.goesBy Tryz.pinned.checked.prog := by kernel_rfl
theorem named : Tryz.pinned.checked.prog.funcNamed Rows.fnStoreSameWayRow.func = some 7 := by kernel_rfl
end Go.Proofs.YtlcgghbbjfeehaaGreatDoor.fnStoreSameWay
