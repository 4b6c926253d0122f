/- Closed facts of the row of FnExactStoreMend. -/
import Derived.Test.YtjcmndkbepamhaaGreatDoorRows
import Derived.Test.YtjcmndkbepamhaaGreatDoorGj
import Derived.JoinedOf
import Derived.SevenTiedAt
import Derived.KernelRfl
set_option maxRecDepth 100000
namespace Go.Proofs.YtjcmndkbepamhaaGreatDoor.fnExactStoreMend
open Go
theorem facts : joinedFacts Tryz.pinned.checked.prog 3 Tryz.f3 Rows.fnExactStoreMendSpec Rows.fnExactStoreMendRow = true := by
  unfold joinedFacts
  rw [wide.may_enter, wide.lifts_are, wide.make_is]
  kernel_rfl
theorem wf : Rows.fnExactStoreMendRow.wfByText (OpenSpec.ofChange Rows.fnExactStoreMendSpec) = true := by kernel_rfl
theorem goes : false = Rows.fnExactStoreMendRow.goesBy Tryz.pinned.checked.prog := by kernel_rfl
theorem named : Tryz.pinned.checked.prog.funcNamed Rows.fnExactStoreMendRow.func = some 3 := by kernel_rfl
end Go.Proofs.YtjcmndkbepamhaaGreatDoor.fnExactStoreMend
