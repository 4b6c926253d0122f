/- Closed facts of the row of FnStoreMend. -/
import Derived.Test.YtjcmndkbepamhaaGreatDoorRows
import Derived.Test.YtjcmndkbepamhaaGreatDoorGj
import Derived.JoinedOf
import Derived.SevenTiedAt
import Derived.KernelRfl
set_option maxRecDepth 100000
namespace Go.Proofs.YtjcmndkbepamhaaGreatDoor.fnStoreMend
open Go
theorem facts : joinedFacts Tryz.pinned.checked.prog 9 Tryz.f9 Rows.fnStoreMendSpec Rows.fnStoreMendRow = true := by
  unfold joinedFacts
  rw [wide.may_enter, wide.lifts_are, wide.make_is]
  kernel_rfl
theorem wf : Rows.fnStoreMendRow.wfByText (OpenSpec.ofChange Rows.fnStoreMendSpec) = true := by kernel_rfl
theorem goes : false = Rows.fnStoreMendRow.goesBy Tryz.pinned.checked.prog := by kernel_rfl
theorem named : Tryz.pinned.checked.prog.funcNamed Rows.fnStoreMendRow.func = some 9 := by kernel_rfl
end Go.Proofs.YtjcmndkbepamhaaGreatDoor.fnStoreMend
