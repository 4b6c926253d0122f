/- Closed facts of the row of FnStoreCrash. -/
import Derived.Test.YtjcmndkbepamhaaGreatDoorRows
import Derived.Test.YtjcmndkbepamhaaGreatDoorHj
import Derived.JoinedOf
import Derived.SevenTiedAt
import Derived.KernelRfl
set_option maxRecDepth 100000
namespace Go.Proofs.YtjcmndkbepamhaaGreatDoor.fnStoreCrash
open Go
theorem facts : joinedFacts Tryz.pinned.checked.prog 6 Tryz.f6 Rows.fnStoreCrashSpec Rows.fnStoreCrashRow = true := by
  unfold joinedFacts
  rw [wide.may_enter, wide.lifts_are, wide.make_is]
  kernel_rfl
theorem wf : Rows.fnStoreCrashRow.wfByText (OpenSpec.ofChange Rows.fnStoreCrashSpec) = true := by kernel_rfl
theorem goes : false = Rows.fnStoreCrashRow.goesBy Tryz.pinned.checked.prog := by kernel_rfl
theorem named : Tryz.pinned.checked.prog.funcNamed Rows.fnStoreCrashRow.func = some 6 := by kernel_rfl
end Go.Proofs.YtjcmndkbepamhaaGreatDoor.fnStoreCrash
