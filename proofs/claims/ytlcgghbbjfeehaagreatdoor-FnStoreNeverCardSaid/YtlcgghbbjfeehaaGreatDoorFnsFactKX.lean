/- Closed facts of the row of FnStoreNever. -/
import Derived.Test.YtlcgghbbjfeehaaGreatDoorRows
import Derived.Test.YtlcgghbbjfeehaaGreatDoorGk
import Derived.JoinedOf
import Derived.SevenTiedAt
import Derived.KernelRfl
set_option maxRecDepth 100000
namespace Go.Proofs.YtlcgghbbjfeehaaGreatDoor.fnStoreNever
open Go
theorem facts : joinedFacts Tryz.pinned.checked.prog 6 Tryz.f6 Rows.fnStoreNeverSpec Rows.fnStoreNeverRow = true := by
  unfold joinedFacts
  rw [wide.may_enter, wide.lifts_are, wide.make_is]
  kernel_rfl
theorem wf : Rows.fnStoreNeverRow.wfByText (OpenSpec.ofChange Rows.fnStoreNeverSpec) = true := by kernel_rfl
theorem goes : false = Rows.fnStoreNeverRow.goesBy Tryz.pinned.checked.prog := by kernel_rfl
theorem named : Tryz.pinned.checked.prog.funcNamed Rows.fnStoreNeverRow.func = some 6 := by kernel_rfl
end Go.Proofs.YtlcgghbbjfeehaaGreatDoor.fnStoreNever
