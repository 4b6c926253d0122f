/- Closed facts of the row of FnStoreNew. -/
import Derived.Test.YtjcmndkbepamhaaGreatDoorRows
import Derived.Test.YtjcmndkbepamhaaGreatDoorGj
import Derived.JoinedOf
import Derived.SevenTiedAt
import Derived.KernelRfl
set_option maxRecDepth 100000
namespace Go.Proofs.YtjcmndkbepamhaaGreatDoor.fnStoreNew
open Go
theorem facts : joinedFacts Tryz.pinned.checked.prog 8 Tryz.f8 Rows.fnStoreNewSpec Rows.fnStoreNewRow = true := by
  unfold joinedFacts
  rw [wide.may_enter, wide.lifts_are, wide.make_is]
  kernel_rfl
theorem wf : Rows.fnStoreNewRow.wfByText (OpenSpec.ofChange Rows.fnStoreNewSpec) = true := by kernel_rfl
theorem goes : false = Rows.fnStoreNewRow.goesBy Tryz.pinned.checked.prog := by kernel_rfl
theorem named : Tryz.pinned.checked.prog.funcNamed Rows.fnStoreNewRow.func = some 8 := by kernel_rfl
end Go.Proofs.YtjcmndkbepamhaaGreatDoor.fnStoreNew
