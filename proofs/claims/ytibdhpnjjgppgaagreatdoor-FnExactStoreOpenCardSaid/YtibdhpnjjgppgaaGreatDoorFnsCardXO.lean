/- For every input the law FnExactStoreOpen returns true and leaves its arguments as they were. Conditions: none. -/
import Derived.Test.YtibdhpnjjgppgaaGreatDoorGk
import Derived.Test.YtibdhpnjjgppgaaGreatDoorGf
import Derived.Test.YtibdhpnjjgppgaaGreatDoorFnsFactXO
import Derived.Test.YtibdhpnjjgppgaaGreatDoorRows
import Derived.Test.YtibdhpnjjgppgaaGreatDoorCards
import Derived.Test.YtibdhpnjjgppgaaGreatDoorTie
import Derived.WalkKit
import Derived.ProofKit
import Derived.OpenShut
import Derived.ShutString
import Derived.ChangeOld
import Derived.Below
import Derived.SizedLaws
import Derived.HandedShaped
import Derived.LaidMore
import Derived.Lay
import Derived.SevenTiedAt
import Derived.Stop.Joined
set_option linter.unusedVariables false
set_option linter.unusedSimpArgs false
namespace Go.Proofs.YtibdhpnjjgppgaaGreatDoor.fnExactStoreOpen
open Go.ChangeShapes Go.WideShapes Go.ChangeAt Go.RowKit
open Go.ChangeMaps (open_string shut_string)
theorem own : ownKnob Tryz.prog.godebug = none := by kernel_rfl
theorem laidOut : laidOutB Tryz.prog = true := by kernel_rfl
/-- The listed variables, laid by a law, meet the condition. -/
theorem laid_met (os : Os) (args : Array Value) : laidMetH Tryz.prog Rows.fnExactStoreOpenRow.laid ((World.laidAll Tryz.prog os Rows.fnExactStoreOpenRow.laid).forCall (fun _ _ => 0) ⟨#[], args, []⟩).memory := by
  rw [MakeChecks.laidMetH_plain _ _ _ (by kernel_rfl)]; exact laidMet_laidAll _ (by kernel_rfl) (by kernel_rfl)
theorem laid_shaped (os : Os) : (World.laidAll Tryz.prog os Rows.fnExactStoreOpenRow.laid).Shaped Tryz.prog := World.shaped_of_ZipB (by kernel_rfl) (by kernel_rfl)
set_option maxRecDepth 100000 in
theorem lifted (os : Os) (started : os.Started) (H : Type) (enc : TypeId × Value → H) :
    ReturnsInHanded {} Tryz.checked os 5 .any (fun w args => (Rows.fnExactStoreOpenSpec.pre enc Tryz.prog Tryz.f5 [] false w args ∧ laidMetH Tryz.prog Rows.fnExactStoreOpenRow.laid w) ∧ sizedMet enc Tryz.prog Tryz.f5 (OpenSpec.ofChange Rows.fnExactStoreOpenSpec) false w args)
      (Rows.fnExactStoreOpenSpec.post enc Tryz.prog Tryz.f5 false true false false) := by
  refine TL.wrapLS (C := Tryz.checked) (X := fun w _ => laidMetH Tryz.prog Rows.fnExactStoreOpenRow.laid w) (fun _ _ _ hh h => h.of_heap hh) own started (by kernel_rfl) Tryz.func5
    (ChangeSpec.witness_shaped (enc := enc) (C := Tryz.checked) (os := os) (X := fun w _ => laidMetH Tryz.prog Rows.fnExactStoreOpenRow.laid w) false (World.laidAll Tryz.prog os Rows.fnExactStoreOpenRow.laid) #[.agg #[.string ByteArray.empty, .string ByteArray.empty, .int .i64 0]] 8 (World.laidAll_os _ _ _) (laid_shaped os) (by kernel_rfl) (by kernel_rfl) (by kernel_rfl) (laid_met os _)) ?_
  intro W base args ds gs before hval0 hW hL hsh
  have hval : ∀ (j : Nat) t v, Tryz.f5.params[j]? = some t → args[j]? = some v → Value.okWide Tryz.prog W .any base t v := hval0
  have hW' := hW
  obtain ⟨p, q, hA0, hV, rfl, hfz, hnd⟩ := hW
  have hA : DataW.TrodAll enc Tryz.prog W 0 (fun _ => true) true Tryz.f5.params.toList args.toList ds p := hA0
  rw [Tryz.params5] at hA hval
  obtain ⟨v0, vs0, d0, ds0, p0, q0, hargs, rfl, rfl, h0, r0⟩ := trodAll_cons hA
  obtain ⟨rfl, rfl, rfl⟩ := trodAll_nil r0
  obtain rfl : args = #[v0] := by cases args; simp_all
  obtain ⟨rfl, rfl⟩ := trodVars_none hV
  have k0 := h0
  have lt0 : ∀ x ∈ p0, x.block < W.heap.size := by obtain ⟨m, hm⟩ := k0; exact DataW.trod_lt m _ _ _ hm
  obtain ⟨cs0, rfl, _⟩ := okWide_struct Tryz.underlying56 (hval 0 56 v0 rfl rfl)
  obtain ⟨x0, g0, a0, c0, e0⟩ := TL.rep_agg (TL.opens_store W) h0
  rw [← e0] at g0
  clear hA0 hval0
  have hL2 : laidMet Tryz.prog Rows.fnExactStoreOpenRow.laid W := by rw [MakeChecks.laidMetH_plain _ _ _ (by kernel_rfl)] at hL; exact hL
  have hL3 := laidMet.tail (laidMet.tail (laidMet.tail (laidMet.tail (hL2))))
  have hR := TL.laid_iface hL3 Tryz.laysC172.m16 (by kernel_rfl) Tryz.underlying134
  have hS := TL.laid_iface (laidMet.tail hL3) Tryz.laysC172.m15 (by kernel_rfl) Tryz.underlying134
  refine (TL.law_walk (P := Tryz.prog) (f := 5) (TL.exactStoreOpen_row a0 c0) (TL.gl_start hsh hR hS) (.cons g0 .nil)).mono fun e W' ⟨he, bel⟩ => ?_
  subst he
  exact ⟨_, rfl, _, _, _, [], _, [], hW', trodAll_mk1 (shut_bool Tryz.underlying4 _), (trodAll_cons_mk (Below.trod laidOut (by kernel_rfl) (of_decide_eq_true (by kernel_rfl)) k0 bel lt0) trodAll_mk0), rfl, bel.frame _, fun h => by cases h⟩
theorem over : Rows.fnExactStoreOpenRow.holds Tryz.pinned (OpenSpec.ofChange Rows.fnExactStoreOpenSpec) :=
  OpenClaim.holds_of_wide 5 Tryz.f5 rfl rfl rfl rfl rfl rfl rfl ⟨rfl, rfl, rfl, rfl, rfl⟩ rfl rfl rfl rfl rfl named Tryz.func5 facts
    (of_decide_eq_true (by kernel_rfl)) (by unfold Func.isWrapper; first | (rw [if_pos (by decide +kernel)]; kernel_rfl) | (rw [if_neg (by decide +kernel)]; exact ⟨rfl, rfl⟩))
    (fun os started H enc _ => lifted os started H enc)
theorem proved : Rows.FnExactStoreOpenCardSaid :=
  Claim7.holds_tied_plain_at .later [] [.data, .data, .data, .data, .sentinel, .sentinel, .pinned] true (true, "3688ab8a5d1ca3ed2f59c4c82d432bcf3985d80a9aba60d5311af45dcaee694c") true
    over (fun _ h => by cases h) wf (fun _ h => by cases h) fnExactStoreOpen_row_tie rfl ⟨rfl, rfl⟩ wide.main_is rfl
    (fun f fn hf hfn => by
      obtain rfl : f = 5 := Option.some.inj (named.symm.trans hf) |>.symm
      obtain rfl : fn = Tryz.f5 := (Option.some.inj (Tryz.func5.symm.trans hfn)).symm
      exact ⟨wide.looks_are, fun j t ht => by
        have hm : t ∈ Tryz.f5.params.toList := by simpa using Array.mem_of_getElem? ht
        have hall : (Tryz.f5.params.toList.all fun u => !Tryz.prog.wantsStandIn u) = true := by kernel_rfl
        have := List.all_eq_true.1 hall t hm
        exact (show Tryz.prog.wantsStandIn t = false by simpa using this)⟩)
    goes
#print axioms proved
end Go.Proofs.YtibdhpnjjgppgaaGreatDoor.fnExactStoreOpen
namespace Go.Proofs.YtibdhpnjjgppgaaGreatDoor
/-- The card, under a short name, for the claim. -/
theorem fnExactStoreOpen_holds : Rows.FnExactStoreOpenCardSaid := fnExactStoreOpen.proved
end Go.Proofs.YtibdhpnjjgppgaaGreatDoor
