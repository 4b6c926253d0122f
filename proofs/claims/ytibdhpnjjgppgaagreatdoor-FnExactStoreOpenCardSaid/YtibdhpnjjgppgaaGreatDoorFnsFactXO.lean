/- Closed facts of the row of FnExactStoreOpen. -/
import Derived.Test.YtibdhpnjjgppgaaGreatDoorRows
import Derived.Test.YtibdhpnjjgppgaaGreatDoorGk
import Derived.JoinedOf
import Derived.SevenTiedAt
import Derived.KernelRfl
set_option maxRecDepth 100000
namespace Go.Proofs.YtibdhpnjjgppgaaGreatDoor.fnExactStoreOpen
open Go
theorem facts : joinedFacts Tryz.pinned.checked.prog 5 Tryz.f5 Rows.fnExactStoreOpenSpec Rows.fnExactStoreOpenRow = true := by
  unfold joinedFacts
  rw [wide.may_enter, wide.lifts_are, wide.make_is]
  kernel_rfl
theorem wf : Rows.fnExactStoreOpenRow.wfByText (OpenSpec.ofChange Rows.fnExactStoreOpenSpec) = true := by kernel_rfl
theorem goes : false = Rows.fnExactStoreOpenRow.goesBy Tryz.pinned.checked.prog := by kernel_rfl
theorem named : Tryz.pinned.checked.prog.funcNamed Rows.fnExactStoreOpenRow.func = some 5 := by kernel_rfl
end Go.Proofs.YtibdhpnjjgppgaaGreatDoor.fnExactStoreOpen
