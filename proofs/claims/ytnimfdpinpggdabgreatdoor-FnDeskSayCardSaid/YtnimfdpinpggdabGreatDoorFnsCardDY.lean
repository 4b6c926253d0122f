/- For every input the law FnDeskSay returns true and leaves its arguments as they were. Conditions: none. -/
import Derived.Test.YtnimfdpinpggdabGreatDoorGm
import Derived.Test.YtnimfdpinpggdabGreatDoorGg
import Derived.Test.YtnimfdpinpggdabGreatDoorGe
import Derived.Test.YtnimfdpinpggdabGreatDoorFnsFactDY
import Derived.Test.YtnimfdpinpggdabGreatDoorRows
import Derived.Test.YtnimfdpinpggdabGreatDoorCards
import Derived.Test.YtnimfdpinpggdabGreatDoorTie
import Derived.WalkKit
import Derived.ProofKit
import Derived.OpenShut
import Derived.ShutString
import Derived.ChangeOld
import Derived.Below
import Derived.SizedLaws
import Derived.HandedShaped
import Derived.LaidMore
import Derived.Lay
import Derived.SevenTiedAt
import Derived.Stop.Joined
set_option linter.unusedVariables false
set_option linter.unusedSimpArgs false
namespace Go.Proofs.YtnimfdpinpggdabGreatDoor.fnDeskSay
open Go.ChangeShapes Go.WideShapes Go.ChangeAt Go.RowKit
open Go.ChangeMaps (open_string shut_string)
theorem own : ownKnob Tryz.prog.godebug = none := by kernel_rfl
theorem laidOut : laidOutB Tryz.prog = true := by kernel_rfl
/-- The listed variables, laid by a law, meet the condition. -/
theorem laid_met (os : Os) (args : Array Value) : laidMetH Tryz.prog Rows.fnDeskSayRow.laid ((World.laidAll Tryz.prog os Rows.fnDeskSayRow.laid).forCall (fun _ _ => 0) ⟨#[], args, []⟩).memory := by
  rw [MakeChecks.laidMetH_plain _ _ _ (by kernel_rfl)]; exact laidMet_laidAll _ (by kernel_rfl) (by kernel_rfl)
theorem laid_shaped (os : Os) : (World.laidAll Tryz.prog os Rows.fnDeskSayRow.laid).Shaped Tryz.prog := World.shaped_of_ZipB (by kernel_rfl) (by kernel_rfl)
set_option maxRecDepth 100000 in
theorem lifted (os : Os) (started : os.Started) (H : Type) (enc : TypeId × Value → H) :
    ReturnsInHanded {} Tryz.checked os 4 .any (fun w args => (Rows.fnDeskSaySpec.pre enc Tryz.prog Tryz.f4 [] false w args ∧ laidMetH Tryz.prog Rows.fnDeskSayRow.laid w) ∧ sizedMet enc Tryz.prog Tryz.f4 (OpenSpec.ofChange Rows.fnDeskSaySpec) false w args)
      (Rows.fnDeskSaySpec.post enc Tryz.prog Tryz.f4 false true false false) := by
  refine TL.wrapLS (C := Tryz.checked) (X := fun w _ => laidMetH Tryz.prog Rows.fnDeskSayRow.laid w) (fun _ _ _ hh h => h.of_heap hh) own started (by kernel_rfl) Tryz.func4
    (ChangeSpec.witness_shaped (enc := enc) (C := Tryz.checked) (os := os) (X := fun w _ => laidMetH Tryz.prog Rows.fnDeskSayRow.laid w) false (World.laidAll Tryz.prog os Rows.fnDeskSayRow.laid) #[.slice none 0 0] 8 (World.laidAll_os _ _ _) (laid_shaped os) (by kernel_rfl) (by kernel_rfl) (by kernel_rfl) (laid_met os _)) ?_
  intro W base args ds gs before hval0 hW hL hsh
  have hval : ∀ (j : Nat) t v, Tryz.f4.params[j]? = some t → args[j]? = some v → Value.okWide Tryz.prog W .any base t v := hval0
  have hW' := hW
  obtain ⟨p, q, hA0, hV, rfl, hfz, hnd⟩ := hW
  have hA : DataW.TrodAll enc Tryz.prog W 0 (fun _ => true) true Tryz.f4.params.toList args.toList ds p := hA0
  rw [Tryz.params4] at hA hval
  obtain ⟨v0, vs0, d0, ds0, p0, q0, hargs, rfl, rfl, h0, r0⟩ := trodAll_cons hA
  obtain ⟨rfl, rfl, rfl⟩ := trodAll_nil r0
  obtain rfl : args = #[v0] := by cases args; simp_all
  obtain ⟨rfl, rfl⟩ := trodVars_none hV
  have k0 := h0
  have lt0 : ∀ x ∈ p0, x.block < W.heap.size := by obtain ⟨m, hm⟩ := k0; exact DataW.trod_lt m _ _ _ hm
  obtain ⟨s0, l0, c0, rfl⟩ := okWide_slice Tryz.underlying22 (hval 0 22 v0 rfl rfl)
  obtain ⟨x0, g0, b0, e0⟩ := TL.rep_one (TL.opens_code W) h0 rfl
  cases e0
  clear hA0 hval0
  have hL2 : laidMet Tryz.prog Rows.fnDeskSayRow.laid W := by rw [MakeChecks.laidMetH_plain _ _ _ (by kernel_rfl)] at hL; exact hL
  have hL3 := laidMet.tail (laidMet.tail (laidMet.tail (laidMet.tail (hL2))))
  have hR := TL.laid_iface hL3 Tryz.laysC172.m16 (by kernel_rfl) Tryz.underlying79
  have hS := TL.laid_iface (laidMet.tail hL3) Tryz.laysC172.m15 (by kernel_rfl) Tryz.underlying79
  refine (TL.law_walk (P := Tryz.prog) (f := 4) (TL.lawDeskSay b0) (TL.gl_start hsh hR hS) (.cons g0 .nil)).mono fun e W' ⟨he, bel⟩ => ?_
  subst he
  exact ⟨_, rfl, _, _, _, [], _, [], hW', trodAll_mk1 (shut_bool Tryz.underlying4 _), (trodAll_cons_mk (Below.trod laidOut (by kernel_rfl) (of_decide_eq_true (by kernel_rfl)) k0 bel lt0) trodAll_mk0), rfl, bel.frame _, fun h => by cases h⟩
theorem over : Rows.fnDeskSayRow.holds Tryz.pinned (OpenSpec.ofChange Rows.fnDeskSaySpec) :=
  OpenClaim.holds_of_wide 4 Tryz.f4 rfl rfl rfl rfl rfl rfl rfl ⟨rfl, rfl, rfl, rfl, rfl⟩ rfl rfl rfl rfl rfl named Tryz.func4 facts
    (of_decide_eq_true (by kernel_rfl)) (by unfold Func.isWrapper; first | (rw [if_pos (by decide +kernel)]; kernel_rfl) | (rw [if_neg (by decide +kernel)]; exact ⟨rfl, rfl⟩))
    (fun os started H enc _ => lifted os started H enc)
theorem proved : Rows.FnDeskSayCardSaid :=
  Claim7.holds_tied_plain_at .later [] [.data, .data, .data, .data, .sentinel, .sentinel, .pinned] true (true, "aad06b1229ffa933cf94380fe42312d841d5ca68ad6e6a8bd7923a659e37bab5") true
    over (fun _ h => by cases h) wf (fun _ h => by cases h) fnDeskSay_row_tie rfl ⟨rfl, rfl⟩ wide.main_is rfl
    (fun f fn hf hfn => by
      obtain rfl : f = 4 := Option.some.inj (named.symm.trans hf) |>.symm
      obtain rfl : fn = Tryz.f4 := (Option.some.inj (Tryz.func4.symm.trans hfn)).symm
      exact ⟨wide.looks_are, fun j t ht => by
        have hm : t ∈ Tryz.f4.params.toList := by simpa using Array.mem_of_getElem? ht
        have hall : (Tryz.f4.params.toList.all fun u => !Tryz.prog.wantsStandIn u) = true := by kernel_rfl
        have := List.all_eq_true.1 hall t hm
        exact (show Tryz.prog.wantsStandIn t = false by simpa using this)⟩)
    goes
#print axioms proved
end Go.Proofs.YtnimfdpinpggdabGreatDoor.fnDeskSay
namespace Go.Proofs.YtnimfdpinpggdabGreatDoor
/-- The card, under a short name, for the claim. -/
theorem fnDeskSay_holds : Rows.FnDeskSayCardSaid := fnDeskSay.proved
end Go.Proofs.YtnimfdpinpggdabGreatDoor
