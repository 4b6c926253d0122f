/- Closed facts of the row of FnStoreAct. -/
import Derived.Test.YtjcmndkbepamhaaGreatDoorRows
import Derived.Test.YtjcmndkbepamhaaGreatDoorGj
import Derived.JoinedOf
import Derived.SevenTiedAt
import Derived.KernelRfl
set_option maxRecDepth 100000
namespace Go.Proofs.YtjcmndkbepamhaaGreatDoor.fnStoreAct
open Go
theorem facts : joinedFacts Tryz.pinned.checked.prog 10 Tryz.f10 Rows.fnStoreActSpec Rows.fnStoreActRow = true := by
  unfold joinedFacts
  rw [wide.may_enter, wide.lifts_are, wide.make_is]
  kernel_rfl
theorem wf : Rows.fnStoreActRow.wfByText (OpenSpec.ofChange Rows.fnStoreActSpec) = true := by kernel_rfl
theorem goes : false = Rows.fnStoreActRow.goesBy Tryz.pinned.checked.prog := by kernel_rfl
theorem named : Tryz.pinned.checked.prog.funcNamed Rows.fnStoreActRow.func = some 10 := by kernel_rfl
end Go.Proofs.YtjcmndkbepamhaaGreatDoor.fnStoreAct
