/- For every input the law FnExactStoreSync returns true and leaves its arguments as they were. Conditions: none. -/
import Derived.Test.YtcoapdapigpfgaaDoorFnsQGE
import Derived.Test.YtcoapdapigpfgaaDoorFnsQGD
import Derived.Test.YtcoapdapigpfgaaDoorFnsQ14
import Derived.Test.YtcoapdapigpfgaaDoorTlOpen
import Derived.Test.YtcoapdapigpfgaaDoorTlWrap
import Derived.Test.YtcoapdapigpfgaaDoorFnsQFWd
import Derived.Test.YtcoapdapigpfgaaDoorFnsQFactSS
import Derived.Test.YtcoapdapigpfgaaDoorRows
import Derived.Test.YtcoapdapigpfgaaDoorCards
import Derived.Test.YtcoapdapigpfgaaDoorTie
import Derived.WalkKit
import Derived.ProofKit
import Derived.OpenShut
import Derived.ShutString
import Derived.ChangeOld
import Derived.Below
import Derived.SizedLaws
import Derived.HandedShaped
import Derived.LaidMore
import Derived.Lay
import Derived.SevenTiedAt
import Derived.Stop.Joined
set_option linter.unusedVariables false
set_option linter.unusedSimpArgs false
namespace Go.Proofs.YtcoapdapigpfgaaDoor.fnExactStoreSync
open Go.ChangeShapes Go.WideShapes Go.ChangeAt Go.RowKit
open Go.ChangeMaps (open_string shut_string)
theorem own : ownKnob Tryd.prog.godebug = none := by kernel_rfl
theorem laidOut : laidOutB Tryd.prog = true := by kernel_rfl
/-- The listed variables, laid by a law, meet the condition. -/
theorem laid_met (os : Os) (args : Array Value) : laidMetH Tryd.prog Rows.fnExactStoreSyncRow.laid ((World.laidAll Tryd.prog os Rows.fnExactStoreSyncRow.laid).forCall (fun _ _ => 0) ⟨#[], args, []⟩).memory := by
  rw [MakeChecks.laidMetH_plain _ _ _ (by kernel_rfl)]; exact laidMet_laidAll _ (by kernel_rfl) (by kernel_rfl)
theorem laid_shaped (os : Os) : (World.laidAll Tryd.prog os Rows.fnExactStoreSyncRow.laid).Shaped Tryd.prog := World.shaped_of_ZipB (by kernel_rfl) (by kernel_rfl)
set_option maxRecDepth 100000 in
theorem lifted (os : Os) (started : os.Started) (H : Type) (enc : TypeId × Value → H) :
    ReturnsInHanded {} Tryd.checked os 10 .any (fun w args => (Rows.fnExactStoreSyncSpec.pre enc Tryd.prog Tryd.f10 [] false w args ∧ laidMetH Tryd.prog Rows.fnExactStoreSyncRow.laid w) ∧ sizedMet enc Tryd.prog Tryd.f10 (OpenSpec.ofChange Rows.fnExactStoreSyncSpec) false w args)
      (Rows.fnExactStoreSyncSpec.post enc Tryd.prog Tryd.f10 false true false false) := by
  refine TL.wrapLS (C := Tryd.checked) (X := fun w _ => laidMetH Tryd.prog Rows.fnExactStoreSyncRow.laid w) (fun _ _ _ hh h => h.of_heap hh) own started (by kernel_rfl) Tryd.func10
    (ChangeSpec.witness_shaped (enc := enc) (C := Tryd.checked) (os := os) (X := fun w _ => laidMetH Tryd.prog Rows.fnExactStoreSyncRow.laid w) false (World.laidAll Tryd.prog os Rows.fnExactStoreSyncRow.laid) #[.agg #[.string ByteArray.empty, .string ByteArray.empty, .int .i64 0]] 8 (World.laidAll_os _ _ _) (laid_shaped os) (by kernel_rfl) (by kernel_rfl) (by kernel_rfl) (laid_met os _)) ?_
  intro W base args ds gs before hval0 hW _ hsh
  have hval : ∀ (j : Nat) t v, Tryd.f10.params[j]? = some t → args[j]? = some v → Value.okWide Tryd.prog W .any base t v := hval0
  have hW' := hW
  obtain ⟨p, q, hA0, hV, rfl, hfz, hnd⟩ := hW
  have hA : DataW.TrodAll enc Tryd.prog W 0 (fun _ => true) true Tryd.f10.params.toList args.toList ds p := hA0
  rw [Tryd.params10] at hA hval
  obtain ⟨v0, vs0, d0, ds0, p0, q0, hargs, rfl, rfl, h0, r0⟩ := trodAll_cons hA
  obtain ⟨rfl, rfl, rfl⟩ := trodAll_nil r0
  obtain rfl : args = #[v0] := by cases args; simp_all
  obtain ⟨rfl, rfl⟩ := trodVars_none hV
  have k0 := h0
  have lt0 : ∀ x ∈ p0, x.block < W.heap.size := by obtain ⟨m, hm⟩ := k0; exact DataW.trod_lt m _ _ _ hm
  obtain ⟨cs0, rfl, _⟩ := okWide_struct Tryd.underlying59 (hval 0 59 v0 rfl rfl)
  obtain ⟨x0, g0, a0, c0, e0⟩ := TL.rep_agg (TL.opens_store W) h0
  rw [← e0] at g0
  clear hA0 hval0
  refine (TL.law_walk (P := Tryd.prog) (f := 10) (TL.exactStoreSync_row a0 c0) (TL.gl_start hsh) (.cons g0 .nil)).mono fun e W' ⟨he, bel⟩ => ?_
  subst he
  exact ⟨_, rfl, _, _, _, [], _, [], hW', trodAll_mk1 (shut_bool Tryd.underlying4 _), (trodAll_cons_mk (Below.trod laidOut (by kernel_rfl) (of_decide_eq_true (by kernel_rfl)) k0 bel lt0) trodAll_mk0), rfl, bel.frame _, fun h => by cases h⟩
theorem over : Rows.fnExactStoreSyncRow.holds Tryd.pinned (OpenSpec.ofChange Rows.fnExactStoreSyncSpec) :=
  OpenClaim.holds_of_wide 10 Tryd.f10 rfl rfl rfl rfl rfl rfl rfl ⟨rfl, rfl, rfl, rfl, rfl⟩ rfl rfl rfl rfl rfl named Tryd.func10 facts
    (of_decide_eq_true (by kernel_rfl)) (by unfold Func.isWrapper; first | (rw [if_pos (by decide +kernel)]; kernel_rfl) | (rw [if_neg (by decide +kernel)]; exact ⟨rfl, rfl⟩))
    (fun os started H enc _ => lifted os started H enc)
theorem proved : Rows.FnExactStoreSyncCardSaid :=
  Claim7.holds_tied_plain_at .later [] [.data, .data, .data, .data, .pinned] true (true, "a7e324ce972313b51271abb1017dbc30725d373e2271c7e929be0dcee893207a") true
    over (fun _ h => by cases h) wf (fun _ h => by cases h) fnExactStoreSync_row_tie rfl ⟨rfl, rfl⟩ wide.main_is rfl
    (fun f fn hf hfn => by
      obtain rfl : f = 10 := Option.some.inj (named.symm.trans hf) |>.symm
      obtain rfl : fn = Tryd.f10 := (Option.some.inj (Tryd.func10.symm.trans hfn)).symm
      exact ⟨wide.looks_are, fun j t ht => by
        have hm : t ∈ Tryd.f10.params.toList := by simpa using Array.mem_of_getElem? ht
        have hall : (Tryd.f10.params.toList.all fun u => !Tryd.prog.wantsStandIn u) = true := by kernel_rfl
        have := List.all_eq_true.1 hall t hm
        exact (show Tryd.prog.wantsStandIn t = false by simpa using this)⟩)
    goes
#print axioms proved
end Go.Proofs.YtcoapdapigpfgaaDoor.fnExactStoreSync
namespace Go.Proofs.YtcoapdapigpfgaaDoor
/-- The card, under a short name, for the claim. -/
theorem fnExactStoreSync_holds : Rows.FnExactStoreSyncCardSaid := fnExactStoreSync.proved
end Go.Proofs.YtcoapdapigpfgaaDoor
