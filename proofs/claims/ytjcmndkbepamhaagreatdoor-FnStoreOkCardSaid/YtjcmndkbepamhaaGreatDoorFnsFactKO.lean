/- Closed facts of the row of FnStoreOk. -/
import Derived.Test.YtjcmndkbepamhaaGreatDoorRows
import Derived.Test.YtjcmndkbepamhaaGreatDoorHj
import Derived.JoinedOf
import Derived.SevenTiedAt
import Derived.KernelRfl
set_option maxRecDepth 100000
namespace Go.Proofs.YtjcmndkbepamhaaGreatDoor.fnStoreOk
open Go
theorem facts : joinedFacts Tryz.pinned.checked.prog 5 Tryz.f5 Rows.fnStoreOkSpec Rows.fnStoreOkRow = true := by
  unfold joinedFacts
  rw [wide.may_enter, wide.lifts_are, wide.make_is]
  kernel_rfl
theorem wf : Rows.fnStoreOkRow.wfByText (OpenSpec.ofChange Rows.fnStoreOkSpec) = true := by kernel_rfl
theorem goes : false = Rows.fnStoreOkRow.goesBy Tryz.pinned.checked.prog := by kernel_rfl
theorem named : Tryz.pinned.checked.prog.funcNamed Rows.fnStoreOkRow.func = some 5 := by kernel_rfl
end Go.Proofs.YtjcmndkbepamhaaGreatDoor.fnStoreOk
