/- A closed fact of the program. -/
import Derived.Test.YtcoapdapigpfgaaDoorRows
import Derived.JoinedOf
import Derived.SevenTiedAt
import Derived.KernelRfl
set_option maxRecDepth 100000
namespace Go.Proofs.YtcoapdapigpfgaaDoor.wide
open Go
theorem make_is : Tryd.pinned.checked.prog.make = some Rows.fnExactStoreNewRow.make := by kernel_rfl
end Go.Proofs.YtcoapdapigpfgaaDoor.wide
