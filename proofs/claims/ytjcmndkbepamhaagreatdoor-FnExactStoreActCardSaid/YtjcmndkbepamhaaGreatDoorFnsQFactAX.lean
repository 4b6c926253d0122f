/- Closed facts of the row of FnExactStoreAct. -/
import Derived.Test.YtjcmndkbepamhaaGreatDoorRows
import Derived.Test.YtjcmndkbepamhaaGreatDoorGj
import Derived.JoinedOf
import Derived.SevenTiedAt
import Derived.KernelRfl
set_option maxRecDepth 100000
namespace Go.Proofs.YtjcmndkbepamhaaGreatDoor.fnExactStoreAct
open Go
theorem facts : joinedFacts Tryz.pinned.checked.prog 4 Tryz.f4 Rows.fnExactStoreActSpec Rows.fnExactStoreActRow = true := by
  unfold joinedFacts
  rw [wide.may_enter, wide.lifts_are, wide.make_is]
  kernel_rfl
theorem wf : Rows.fnExactStoreActRow.wfByText (OpenSpec.ofChange Rows.fnExactStoreActSpec) = true := by kernel_rfl
theorem goes : false = Rows.fnExactStoreActRow.goesBy Tryz.pinned.checked.prog := by kernel_rfl
theorem named : Tryz.pinned.checked.prog.funcNamed Rows.fnExactStoreActRow.func = some 4 := by kernel_rfl
end Go.Proofs.YtjcmndkbepamhaaGreatDoor.fnExactStoreAct
