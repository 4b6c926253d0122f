/- Closed facts of the row of FnReadJournal. -/
import Derived.Test.YtibdhpnjjgppgabGreatDoorRows
import Derived.Test.YtibdhpnjjgppgabGreatDoorHj
import Derived.JoinedOf
import Derived.SevenTiedAt
import Derived.KernelRfl
set_option maxRecDepth 100000
namespace Go.Proofs.YtibdhpnjjgppgabGreatDoor.fnReadJournal
open Go
theorem facts : joinedFacts Tryz.pinned.checked.prog 3 Tryz.f3 Rows.fnReadJournalSpec Rows.fnReadJournalRow = true := by
  unfold joinedFacts
  rw [wide.may_enter, wide.lifts_are, wide.make_is]
  kernel_rfl
theorem wf : Rows.fnReadJournalRow.wfByText (OpenSpec.ofChange Rows.fnReadJournalSpec) = true := by kernel_rfl
theorem goes : false = Rows.fnReadJournalRow.goesBy Tryz.pinned.checked.prog := by kernel_rfl
theorem named : Tryz.pinned.checked.prog.funcNamed Rows.fnReadJournalRow.func = some 3 := by kernel_rfl
end Go.Proofs.YtibdhpnjjgppgabGreatDoor.fnReadJournal
