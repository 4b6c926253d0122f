/- Closed facts of the row of FnJournalText. -/
import Derived.Test.YtcoapdapigpfgaaDoorRows
import Derived.Test.YtcoapdapigpfgaaDoorFnsQFWa
import Derived.Test.YtcoapdapigpfgaaDoorFnsQFWb
import Derived.Test.YtcoapdapigpfgaaDoorFnsQFWc
import Derived.JoinedOf
import Derived.SevenTiedAt
import Derived.KernelRfl
set_option maxRecDepth 100000
namespace Go.Proofs.YtcoapdapigpfgaaDoor.fnJournalText
open Go
theorem facts : joinedFacts Tryd.pinned.checked.prog 14 Tryd.f14 Rows.fnJournalTextSpec Rows.fnJournalTextRow = true := by
  unfold joinedFacts
  rw [wide.may_enter, wide.lifts_are, wide.make_is]
  kernel_rfl
theorem wf : Rows.fnJournalTextRow.wfByText (OpenSpec.ofChange Rows.fnJournalTextSpec) = true := by kernel_rfl
theorem goes : false = Rows.fnJournalTextRow.goesBy Tryd.pinned.checked.prog := by kernel_rfl
theorem named : Tryd.pinned.checked.prog.funcNamed Rows.fnJournalTextRow.func = some 14 := by kernel_rfl
end Go.Proofs.YtcoapdapigpfgaaDoor.fnJournalText
