/- A closed fact of the program. -/
import Derived.Test.YtcoapdapigpfgaaDoorRows
import Derived.JoinedOf
import Derived.SevenTiedAt
import Derived.KernelRfl
set_option maxRecDepth 100000
namespace Go.Proofs.YtcoapdapigpfgaaDoor.wide
open Go
theorem may_enter : Tryd.pinned.checked.prog.mayEnter = true := by kernel_rfl
end Go.Proofs.YtcoapdapigpfgaaDoor.wide
