/- Closed facts of the row of FnExactReadJournal. -/
import Derived.Test.YtlcgghbbjfeehabDoorRows
import Derived.Test.YtlcgghbbjfeehabDoorGg
import Derived.JoinedOf
import Derived.SevenTiedAt
import Derived.KernelRfl
set_option maxRecDepth 100000
namespace Go.Proofs.YtlcgghbbjfeehabDoor.fnExactReadJournal
open Go
theorem facts : joinedFacts Tryd.pinned.checked.prog 3 Tryd.f3 Rows.fnExactReadJournalSpec Rows.fnExactReadJournalRow = true := by
  unfold joinedFacts
  rw [wide.may_enter, wide.lifts_are, wide.make_is]
  kernel_rfl
theorem wf : Rows.fnExactReadJournalRow.wfByText (OpenSpec.ofChange Rows.fnExactReadJournalSpec) = true := by kernel_rfl
theorem goes : false = Rows.fnExactReadJournalRow.goesBy Tryd.pinned.checked.prog := by kernel_rfl
theorem named : Tryd.pinned.checked.prog.funcNamed Rows.fnExactReadJournalRow.func = some 3 := by kernel_rfl
end Go.Proofs.YtlcgghbbjfeehabDoor.fnExactReadJournal
