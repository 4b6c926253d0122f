/- The library's variables at the start: what the world's shape and the row's listed data give. -/
import Derived.Test.YtcoapdapigpfgaaDoorTlFactsQ
import Derived.Test.YtcoapdapigpfgaaDoorTlOpen
import Derived.Test.YtcoapdapigpfgaaDoorShelfB
import Derived.Test.YtcoapdapigpfgaaDoorShelfC
import Derived.Stop.LaidErr
import Derived.LaidLaws
import Derived.KernelRfl
namespace TL
open Go Go.Proofs
/-- A listed sentinel is an interface value. -/
theorem laid_iface {P : Program} {n nm : String} {d : DataW Unit} {r : List (String × DataW Unit)} {W : World} {g : Nat} {ti : TypeId} {ms : Array (String × TypeId)}
    (h : laidMet P ((n, .iface nm d) :: r) W) (hg : P.globalNamed n = some g) (ht : (P.globals[g]?).map (·.type) = some ti) (hi : P.underlying ti = some (.interface ms)) : ∃ u v, W.cell? ⟨g, 0, none⟩ = some (.iface u v) := by
  obtain ⟨ps, ⟨g0, t0, cs0, f0, p0, q0, hg0, ht0, hv0, hd0, _, e0⟩, _, hrows⟩ := h
  obtain rfl := Option.some.inj (hg.symm.trans hg0)
  obtain rfl := Option.some.inj (ht.symm.trans ht0)
  obtain ⟨l0⟩ := cs0
  obtain ⟨f1, u, v, hl, _, _⟩ := iface_of_trod hi hd0
  have hl : l0 = [.iface u v] := hl
  subst hl
  exact ⟨u, v, by simpa using World.var?_cell hg0 hv0 0⟩
theorem lt_of_cell {W : World} {g : Nat} {v : Value} (h : W.cell? ⟨g, 0, none⟩ = some v) : g < W.heap.size := by
  unfold World.cell? at h
  split at h
  · rename_i hb; exact (Array.getElem?_eq_some_iff.1 hb).1
  · cases h
theorem gl_start {W : World} (h : W.ShapedOpen Tryd.prog) (hr : ∃ u v, W.cell? ⟨Tryd.laysC172_ren.g 16, 0, none⟩ = some (.iface u v)) (hs : ∃ u v, W.cell? ⟨Tryd.laysC172_ren.g 15, 0, none⟩ = some (.iface u v)) : Gl Tryd.prog (ZA W) W := by
  have n1 : Tryd.prog.globalNamed "internal/bytealg.MaxLen" = some 0 := by kernel_rfl
  have n2 : Tryd.prog.globalNamed "strconv.ErrSyntax" = some (Tryd.laysC172_ren.g 15) := Tryd.laysC172.m15
  have n3 : Tryd.prog.globalNamed "strconv.ErrRange" = some (Tryd.laysC172_ren.g 16) := Tryd.laysC172.m16
  have hm : ∃ m, W.cell? ⟨0, 0, none⟩ = some (.int .i64 m) := Tryd.laysM145.s1_3 W h
  rintro g Q (⟨e, rfl⟩ | ⟨e | e, rfl⟩)
  · rw [n1] at e; cases e
    obtain ⟨m, hm⟩ := hm
    exact ⟨lt_of_cell hm, _, hm, m, rfl⟩
  · rw [n2] at e
    obtain rfl := Option.some.inj e
    obtain ⟨u, v, hs⟩ := hs
    exact ⟨lt_of_cell hs, _, hs, .inr ⟨u, v, rfl⟩⟩
  · rw [n3] at e
    obtain rfl := Option.some.inj e
    obtain ⟨u, v, hr⟩ := hr
    exact ⟨lt_of_cell hr, _, hr, .inr ⟨u, v, rfl⟩⟩
end TL
