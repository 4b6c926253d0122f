/- Closed facts of the row of FnStoreSync. -/
import Derived.Test.YtjcmndkbepamhaaGreatDoorRows
import Derived.Test.YtjcmndkbepamhaaGreatDoorHj
import Derived.JoinedOf
import Derived.SevenTiedAt
import Derived.KernelRfl
set_option maxRecDepth 100000
namespace Go.Proofs.YtjcmndkbepamhaaGreatDoor.fnStoreSync
open Go
theorem facts : joinedFacts Tryz.pinned.checked.prog 7 Tryz.f7 Rows.fnStoreSyncSpec Rows.fnStoreSyncRow = true := by
  unfold joinedFacts
  rw [wide.may_enter, wide.lifts_are, wide.make_is]
  kernel_rfl
theorem wf : Rows.fnStoreSyncRow.wfByText (OpenSpec.ofChange Rows.fnStoreSyncSpec) = true := by kernel_rfl
theorem goes : false = Rows.fnStoreSyncRow.goesBy Tryz.pinned.checked.prog := by kernel_rfl
theorem named : Tryz.pinned.checked.prog.funcNamed Rows.fnStoreSyncRow.func = some 7 := by kernel_rfl
end Go.Proofs.YtjcmndkbepamhaaGreatDoor.fnStoreSync
