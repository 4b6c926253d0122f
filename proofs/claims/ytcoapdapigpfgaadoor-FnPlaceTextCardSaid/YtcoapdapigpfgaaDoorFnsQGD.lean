/- The library's variables at the start: what the world's shape gives. -/
import Derived.Test.YtcoapdapigpfgaaDoorTlFactsQ
import Derived.Test.YtcoapdapigpfgaaDoorTlOpen
import Derived.Test.YtcoapdapigpfgaaDoorShelfB
import Derived.KernelRfl
namespace TL
open Go Go.Proofs
theorem gl_start {W : World} (h : W.ShapedOpen Tryd.prog) : Gl Tryd.prog (ZA W) W := by
  have n1 : Tryd.prog.globalNamed "internal/bytealg.MaxLen" = some 0 := by kernel_rfl
  have hm : ∃ m, W.cell? ⟨0, 0, none⟩ = some (.int .i64 m) := Tryd.laysM145.s1_3 W h
  rintro g Q ⟨e, rfl⟩
  rw [n1] at e; cases e
  obtain ⟨m, hm⟩ := hm
  refine ⟨?_, _, hm, m, rfl⟩
  show 0 < W.heap.size
  unfold World.cell? at hm
  split at hm
  · rename_i hb; exact (Array.getElem?_eq_some_iff.1 hb).1
  · cases hm
end TL
