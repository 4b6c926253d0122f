/- Closed facts of the row of FnExactPlaceText. -/
import Derived.Test.YtcoapdapigpfgaaDoorRows
import Derived.JoinedOf
import Derived.SevenTiedAt
import Derived.KernelRfl
set_option maxRecDepth 100000
namespace Go.Proofs.YtcoapdapigpfgaaDoor.fnExactPlaceText
open Go
theorem facts : joinedFacts Tryd.pinned.checked.prog 4 Tryd.f4 Rows.fnExactPlaceTextSpec Rows.fnExactPlaceTextRow = true := by kernel_rfl
theorem wf : Rows.fnExactPlaceTextRow.wfByText (OpenSpec.ofChange Rows.fnExactPlaceTextSpec) = true := by kernel_rfl
theorem main_is : Tryd.pinned.checked.prog.mainIs = some (true, "a7e324ce972313b51271abb1017dbc30725d373e2271c7e929be0dcee893207a".toList) := by kernel_rfl
theorem looks_are : true = Tryd.pinned.checked.prog.looks [] := by kernel_rfl
theorem goes : false = Rows.fnExactPlaceTextRow.goesBy Tryd.pinned.checked.prog := by kernel_rfl
theorem named : Tryd.pinned.checked.prog.funcNamed Rows.fnExactPlaceTextRow.func = some 4 := by kernel_rfl
end Go.Proofs.YtcoapdapigpfgaaDoor.fnExactPlaceText
