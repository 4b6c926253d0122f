/- A closed fact of the program. -/
import Derived.Test.YtcoapdapigpfgaaDoorRows
import Derived.JoinedOf
import Derived.SevenTiedAt
import Derived.KernelRfl
set_option maxRecDepth 100000
namespace Go.Proofs.YtcoapdapigpfgaaDoor.wide
open Go
theorem main_is : Tryd.pinned.checked.prog.mainIs = some (true, "a7e324ce972313b51271abb1017dbc30725d373e2271c7e929be0dcee893207a".toList) := by kernel_rfl
theorem looks_are : true = Tryd.pinned.checked.prog.looks [] := by kernel_rfl
end Go.Proofs.YtcoapdapigpfgaaDoor.wide
