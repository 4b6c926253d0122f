/- Closed facts of the row of FnStoreOpen. -/
import Derived.Test.YtjcmndkbepamhaaGreatDoorRows
import Derived.Test.YtjcmndkbepamhaaGreatDoorGj
import Derived.JoinedOf
import Derived.SevenTiedAt
import Derived.KernelRfl
set_option maxRecDepth 100000
namespace Go.Proofs.YtjcmndkbepamhaaGreatDoor.fnStoreOpen
open Go
theorem facts : joinedFacts Tryz.pinned.checked.prog 11 Tryz.f11 Rows.fnStoreOpenSpec Rows.fnStoreOpenRow = true := by
  unfold joinedFacts
  rw [wide.may_enter, wide.lifts_are, wide.make_is]
  kernel_rfl
theorem wf : Rows.fnStoreOpenRow.wfByText (OpenSpec.ofChange Rows.fnStoreOpenSpec) = true := by kernel_rfl
theorem goes : false = Rows.fnStoreOpenRow.goesBy Tryz.pinned.checked.prog := by kernel_rfl
theorem named : Tryz.pinned.checked.prog.funcNamed Rows.fnStoreOpenRow.func = some 11 := by kernel_rfl
end Go.Proofs.YtjcmndkbepamhaaGreatDoor.fnStoreOpen
