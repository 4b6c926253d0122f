/- Closed facts of the row of FnStoreEnd. -/
import Derived.Test.YtlcgghbbjfeehaaGreatDoorRows
import Derived.Test.YtlcgghbbjfeehaaGreatDoorGk
import Derived.JoinedOf
import Derived.SevenTiedAt
import Derived.KernelRfl
set_option maxRecDepth 100000
namespace Go.Proofs.YtlcgghbbjfeehaaGreatDoor.fnStoreEnd
open Go
theorem facts : joinedFacts Tryz.pinned.checked.prog 5 Tryz.f5 Rows.fnStoreEndSpec Rows.fnStoreEndRow = true := by
  unfold joinedFacts
  rw [wide.may_enter, wide.lifts_are, wide.make_is]
  kernel_rfl
theorem wf : Rows.fnStoreEndRow.wfByText (OpenSpec.ofChange Rows.fnStoreEndSpec) = true := by kernel_rfl
theorem goes : false = Rows.fnStoreEndRow.goesBy Tryz.pinned.checked.prog := by kernel_rfl
theorem named : Tryz.pinned.checked.prog.funcNamed Rows.fnStoreEndRow.func = some 5 := by kernel_rfl
end Go.Proofs.YtlcgghbbjfeehaaGreatDoor.fnStoreEnd
