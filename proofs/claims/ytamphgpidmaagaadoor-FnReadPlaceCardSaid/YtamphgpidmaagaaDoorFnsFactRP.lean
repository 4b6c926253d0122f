/- Closed facts of the row of FnReadPlace. -/
import Derived.Test.YtamphgpidmaagaaDoorRows
import Derived.Test.YtamphgpidmaagaaDoorGf
import Derived.JoinedOf
import Derived.SevenTiedAt
import Derived.KernelRfl
set_option maxRecDepth 100000
namespace Go.Proofs.YtamphgpidmaagaaDoor.fnReadPlace
open Go
theorem facts : joinedFacts Tryd.pinned.checked.prog 3 Tryd.f3 Rows.fnReadPlaceSpec Rows.fnReadPlaceRow = true := by
  unfold joinedFacts
  rw [wide.may_enter, wide.lifts_are, wide.make_is]
  kernel_rfl
theorem wf : Rows.fnReadPlaceRow.wfByText (OpenSpec.ofChange Rows.fnReadPlaceSpec) = true := by kernel_rfl
theorem goes : false = Rows.fnReadPlaceRow.goesBy Tryd.pinned.checked.prog := by kernel_rfl
theorem named : Tryd.pinned.checked.prog.funcNamed Rows.fnReadPlaceRow.func = some 3 := by kernel_rfl
end Go.Proofs.YtamphgpidmaagaaDoor.fnReadPlace
