/- For every input the law FnPlaceOk returns true and leaves its argument as it was. Conditions: none. -/
import Derived.Test.YtheoggobfpgpnaaFns10
import Derived.Test.YtheoggobfpgpnaaRows
import Derived.WalkKit
import Derived.ProofKit
import Derived.OpenShut
import Derived.ShutString
import Derived.ChangeOld
import Derived.Below
import Derived.SizedLaws
set_option linter.unusedVariables false
set_option linter.unusedSimpArgs false
namespace TL
open Go Go.RowKit
theorem repEs_ints {Z : Zs} {w : World} : ∀ (zs : List Int), (∀ n ∈ zs, (Lit.int .u8 n).wf = true) → RepEs Z w 1 ((zs.map fun n => UInt8.ofNat n.toNat).map fun b => V.int .u8 b.toNat) (zs.map fun n => Value.int .u8 n)
  | [], _ => .nil 1
  | n :: zs, h => by
    have hn := h n (List.mem_cons_self ..)
    have e : ((UInt8.ofNat n.toNat).toNat : Int) = n := by
      simp [Lit.wf, IntKind.min, IntKind.max, IntKind.signed, IntKind.bits] at hn
      rw [UInt8.toNat_ofNat']; omega
    refine .one rfl ?_ (repEs_ints zs fun x hx => h x (List.mem_cons_of_mem _ hx))
    show RepV Z w (.int .u8 ((UInt8.ofNat n.toNat).toNat : Int)) (.int .u8 n)
    rw [e]; exact .int _ _
theorem code_rep {w : World} {a : Option Addr} {len cap : Nat} {zs : List Int}
    (h : (a = none ∧ len = 0 ∧ cap = 0 ∧ zs = []) ∨ ∃ x, a = some x ∧ len ≤ cap ∧ cap ≤ maxLen ∧ zs.length = cap ∧ (∀ i, i < zs.length → w.cell? (x.add i) = some (.int .u8 (zs.getD i 0))) ∧ ∀ n ∈ zs, (Lit.int .u8 n).wf = true) :
    ∃ bs : List UInt8, RepV (fun k _ => k < w.heap.size) w (codeV bs) (.slice a len cap) := by
  rcases h with ⟨rfl, rfl, rfl, rfl⟩ | ⟨x, rfl, h1, h2, h3, h4, h5⟩
  · exact ⟨[], .nil _ _⟩
  · refine ⟨(zs.take len).map fun n => UInt8.ofNat n.toNat, .sl (repEs_ints (zs.take len) fun n hn => h5 n (List.mem_of_mem_take hn)) (by simp; omega) h1 h2 fun i u hu => ?_⟩
    rw [List.getElem?_map] at hu
    obtain ⟨n, hn, rfl⟩ := Option.map_eq_some_iff.1 hu
    have hi : i < (zs.take len).length := (List.getElem?_eq_some_iff.1 hn).1
    have hi2 : i < zs.length := by simp at hi; omega
    have e : zs.getD i 0 = n := by
      rw [List.getElem?_take] at hn
      split at hn
      · rw [List.getD_eq_getElem?_getD, hn]; rfl
      · cases hn
    have hc := h4 i hi2
    rw [e] at hc
    exact ⟨hc, (by
      exact World.block_lt_of_cell? w _ hc)⟩
/-- From a law's contract to its walk. -/
theorem code_walk {P : Program} {f : Nat} (law : ∀ bs : List UInt8, FnZ P f [codeV bs] (.bool true)) {w : World} {a : Option Addr} {len cap : Nat} {zs : List Int}
    (h : (a = none ∧ len = 0 ∧ cap = 0 ∧ zs = []) ∨ ∃ x, a = some x ∧ len ≤ cap ∧ cap ≤ maxLen ∧ zs.length = cap ∧ (∀ i, i < zs.length → w.cell? (x.add i) = some (.int .u8 (zs.getD i 0))) ∧ ∀ n ∈ zs, (Lit.int .u8 n).wf = true) :
    Calls P f #[.slice a len cap] w fun e w' => e = .returned (.bool true) ∧ Below w.heap.size w w' := by
  obtain ⟨bs, hr⟩ := code_rep h
  have hc := (law bs).2 (fun k _ => k < w.heap.size) w [.slice a len cap] (fun _ _ h => h) (.cons hr .nil)
  intro c
  obtain ⟨e, w', fr, h1, h2⟩ := hc c
  refine ⟨e, w', fr, ?_, h2⟩
  obtain ⟨v, rfl, hb, hv⟩ := h1
  cases hv
  exact ⟨rfl, hb⟩
end TL
namespace Go.Proofs.Ytheoggobfpgpnaa.fnPlaceOk
open Go.ChangeShapes Go.WideShapes Go.ChangeAt Go.RowKit
open Go.ChangeMaps (open_string shut_string)
theorem own : ownKnob Try.prog.godebug = none := by kernel_rfl
theorem laidOut : laidOutB Try.prog = true := by kernel_rfl
def IsRow (k : IntKind) (w : World) (a : Option Addr) (len cap : Nat) (zs : List Int) : Prop :=
  (a = none ∧ len = 0 ∧ cap = 0 ∧ zs = []) ∨
  ∃ x, a = some x ∧ len ≤ cap ∧ cap ≤ maxLen ∧ zs.length = cap ∧ (∀ i, i < zs.length → w.cell? (x.add i) = some (.int k (zs.getD i 0))) ∧ ∀ n ∈ zs, (Lit.int k n).wf = true
set_option maxRecDepth 100000 in
theorem lifted (os : Os) (started : os.Started) (H : Type) (enc : TypeId × Value → H) :
    ReturnsInHanded {} Try.checked os 3 .any (Rows.fnPlaceOkSpec.pre6 enc Try.prog Try.f3 Rows.fnPlaceOkRow.domain false) (Rows.fnPlaceOkSpec.post enc Try.prog Try.f3 false true false false) := by
  refine returnsInHanded_of_change_sized (C := Try.checked) own started (by kernel_rfl) Try.func3
    (ChangeSpec.witness6 (enc := enc) (C := Try.checked) false ⟨#[], #[.slice none 0 0], []⟩ 8 (by kernel_rfl) (by kernel_rfl) (by kernel_rfl) (by kernel_rfl)) ?_
  intro W base args ds gs before hval0 hW hcnd hsz0 _
  have hval : ∀ (j : Nat) t v, Try.f3.params[j]? = some t → args[j]? = some v → Value.okWide Try.prog W .any base t v := hval0
  have hW' := hW
  obtain ⟨p, q, hA0, hV, rfl, hfz, hnd⟩ := hW
  have hA : DataW.TrodAll enc Try.prog W 0 (fun _ => true) true Try.f3.params.toList args.toList ds p := hA0
  rw [Try.params3] at hA hval
  obtain ⟨v0, vs0, d0, ds0, p0, q0, hargs, rfl, rfl, h0, r0⟩ := trodAll_cons hA
  obtain ⟨rfl, rfl, rfl⟩ := trodAll_nil r0
  obtain rfl : args = #[v0] := by cases args; simp_all
  obtain ⟨rfl, rfl⟩ := trodVars_none hV
  obtain ⟨a0, len0, cap0, rfl⟩ := okWide_slice Try.underlying22 (hval 0 22 v0 rfl rfl)
  have k0 := h0
  have lt0 : ∀ x ∈ p0, x.block < W.heap.size := by obtain ⟨m, hm⟩ := k0; exact DataW.trod_lt m _ _ _ hm
  obtain ⟨z0, w0⟩ : ∃ zs, IsRow .u8 W a0 len0 cap0 zs := by
    obtain ⟨fuel, hf⟩ := h0
    rcases open_ints Try.underlying22 Try.underlying5 (by kernel_rfl) hf with ⟨hcs, _⟩ | ⟨x, l, c, zs, hcs, _, hl, hm, hz, _, hcell, hwz⟩
    · simp [Value.cells] at hcs
      obtain ⟨rfl, rfl, rfl⟩ := hcs
      exact ⟨[], .inl ⟨rfl, rfl, rfl, rfl⟩⟩
    · simp [Value.cells] at hcs
      obtain ⟨rfl, rfl, rfl⟩ := hcs
      exact ⟨zs, .inr ⟨_, rfl, hl, hm, by simpa using hz, hcell, hwz⟩⟩
  clear hA0 hval0 hsz0
  refine (TL.code_walk (P := Try.prog) (f := 3) (w := W) TL.lawPlaceOk w0).mono fun e W' ⟨he, bel⟩ => ?_
  subst he
  exact ⟨_, rfl, _, _, _, [], _, [], hW', trodAll_mk1 (shut_bool Try.underlying4 _), (trodAll_cons_mk (Below.trod laidOut (by kernel_rfl) (of_decide_eq_true (by kernel_rfl)) k0 bel lt0) trodAll_mk0), rfl, bel.frame _, fun h => by cases h⟩
theorem over : Rows.fnPlaceOkRow.holds Try.pinned (OpenSpec.ofChange Rows.fnPlaceOkSpec) :=
  OpenClaim.holds_of_wide 3 Try.f3 rfl rfl rfl rfl rfl rfl rfl ⟨rfl, rfl, rfl, rfl, rfl⟩ rfl rfl rfl rfl rfl (by kernel_rfl) Try.func3 (by kernel_rfl)
    (of_decide_eq_true (by kernel_rfl)) (by unfold Func.isWrapper; first | (rw [if_pos (by decide +kernel)]; kernel_rfl) | (rw [if_neg (by decide +kernel)]; exact ⟨rfl, rfl⟩))
    (fun os started H enc _ => lifted os started H enc)
theorem proved : Rows.FnPlaceOkSaid := over
#print axioms proved
end Go.Proofs.Ytheoggobfpgpnaa.fnPlaceOk
namespace Go.Proofs.Ytheoggobfpgpnaa
/-- The row, under a short name, for the claim. -/
theorem fnPlaceOk_holds : Rows.FnPlaceOkSaid := fnPlaceOk.proved
end Go.Proofs.Ytheoggobfpgpnaa
