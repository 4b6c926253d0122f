/- Closed facts of the row of FnExactJournalText. -/
import Derived.Test.YtcoapdapigpfgaaDoorRows
import Derived.JoinedOf
import Derived.SevenTiedAt
import Derived.KernelRfl
set_option maxRecDepth 100000
namespace Go.Proofs.YtcoapdapigpfgaaDoor.fnExactJournalText
open Go
theorem facts : joinedFacts Tryd.pinned.checked.prog 5 Tryd.f5 Rows.fnExactJournalTextSpec Rows.fnExactJournalTextRow = true := by kernel_rfl
theorem wf : Rows.fnExactJournalTextRow.wfByText (OpenSpec.ofChange Rows.fnExactJournalTextSpec) = true := by kernel_rfl
theorem main_is : Tryd.pinned.checked.prog.mainIs = some (true, "a7e324ce972313b51271abb1017dbc30725d373e2271c7e929be0dcee893207a".toList) := by kernel_rfl
theorem looks_are : true = Tryd.pinned.checked.prog.looks [] := by kernel_rfl
theorem goes : false = Rows.fnExactJournalTextRow.goesBy Tryd.pinned.checked.prog := by kernel_rfl
theorem named : Tryd.pinned.checked.prog.funcNamed Rows.fnExactJournalTextRow.func = some 5 := by kernel_rfl
end Go.Proofs.YtcoapdapigpfgaaDoor.fnExactJournalText
