/- TL: parts FnsQE4, FnsQE7, FnsQL2, FnsQE8, FnsQE9, FnsQE10, FnsQE14, FnsQ13, FnsQ14, FnsQE3, FnsQE6, FnsQE18p, FnsQE11, FnsQE5, FnsQE12, FnsQ3, FnsQ4. -/
import Derived.Test.YtjcmndkbepamhaaGreatDoorGe
import Derived.Lib.Split
import Derived.Lib.SplitLaws
import Derived.Lib.ItoaNum
import Derived.Lib.AtoiAll
import Derived.KernelRfl
import Derived.Test.YtjcmndkbepamhaaGreatDoorGd
/- The texts of places. -/
set_option linter.unusedSimpArgs false
set_option linter.unusedVariables false
set_option maxRecDepth 100000
set_option maxHeartbeats 4000000
set_option pp.maxSteps 1500
namespace TL
open Go Go.Proofs
attribute [local simp] marksV storyV codeV Claim.v Place.v Deed.v
/-- The texts of claims with commas between them. -/
noncomputable def storyTx (people : Int) (l : List Claim) : List UInt8 := Go.Lib.join (l.map (claimTx people)) [44]
noncomputable def placeTx (p : Place) : List UInt8 := if placeOk p = true then dec p.people ++ 32 :: (if p.story = [] then [46] else storyTx p.people p.story) else []
theorem claim_cellsE (c : Claim) : c.v.cells = [.int .i64 c.who, marksV c.says] := rfl
theorem claimTx_short (people : Int) (c : Claim) : (claimTx people c).length ≤ 27 := by
  have hk := ft (claimOk people c)
  rcases hk with hk | hk
  · unfold claimTx; rw [if_neg (by simp [hk])]; simp
  · exact (claimTx_len hk).2.1
theorem joinTail_len (xs : List (List UInt8)) (h : ∀ x ∈ xs, x.length ≤ 27) : (Go.Lib.joinTail [44] xs).length ≤ 28 * xs.length := by
  induction xs with
  | nil => simp [Go.Lib.joinTail]
  | cons x xs ih =>
    have h1 := h x (List.mem_cons_self ..)
    have h2 := ih fun y hy => h y (List.mem_cons_of_mem _ hy)
    simp only [Go.Lib.joinTail, List.map_cons, List.flatten_cons, List.length_append, List.length_cons, List.length_nil] at h2 ⊢
    omega
theorem join_len (xs : List (List UInt8)) (h : ∀ x ∈ xs, x.length ≤ 27) : (Go.Lib.join xs [44]).length ≤ 28 * xs.length + 27 := by
  cases xs with
  | nil => simp [Go.Lib.join_nil]
  | cons x xs =>
    rw [Go.Lib.join_cons]
    have h1 := h x (List.mem_cons_self ..)
    have h2 := joinTail_len xs fun y hy => h y (List.mem_cons_of_mem _ hy)
    simp only [List.length_append, List.length_cons]; omega
theorem storyTx_len (people : Int) (l : List Claim) : (storyTx people l).length ≤ 28 * l.length + 27 := by
  have := join_len (l.map (claimTx people)) (fun x hx => by obtain ⟨c, _, rfl⟩ := List.mem_map.1 hx; exact claimTx_short people c)
  simpa [storyTx] using this
theorem placeOk_all {p : Place} (h : placeOk p = true) : 1 ≤ p.people ∧ p.people ≤ 4 ∧ p.story.length ≤ 6 ∧ ∀ c ∈ p.story, claimOk p.people c = true := by
  simp only [placeOk, storyOk, peopleOk, Bool.and_eq_true, decide_eq_true_eq, List.all_eq_true] at h
  exact ⟨by omega, by omega, by omega, h.1.1⟩
theorem placeTx_no {p : Place} (h : placeOk p = false) : placeTx p = [] := by unfold placeTx; rw [if_neg (by simp [h])]
/-- The program. -/
def Ipt (p : Place) (e : Nat) (s : S) : Prop := ∃ i id : Nat, s.tm 1 = .ptr 0 0 ∧ s.m 0 = some (.box 48 2 [.v (.int .i64 p.people), .v (storyV p.story)]) ∧ s.tm 3 = .loc id ∧ 0 < id ∧ id < s.n ∧ s.m id = some (.arr 9 (((p.story.take i).map (claimTx p.people)).map V.str)) ∧
  s.tm 11 = .v (.sl (p.story.map Claim.v)) ∧ s.tm 12 = .v (.int .i64 p.story.length) ∧ s.tm 13 = .v (.int .i64 i) ∧ s.mu = false ∧ i ≤ p.story.length ∧ (e = 1 → i = p.story.length)
theorem placeText_fn (p : Place) (hl : p.story.length < 1000000000000) : FnZ Tryz.prog 59 [p.v] (.str (placeTx p)) := by
  have hok := placeOk_fn p hl
  have hk := ft (placeOk p)
  rcases hk with hk | hk
  · rw [placeTx_no hk]
    refine FnZ_of (rs := [.tmp 2]) false Tryz.func59 rfl rfl rfl rfl (Nat.le_of_ble_eq_true rfl) ?_
    simp -dsimp
    refine call_ hok (by simp -dsimp) ?_
    simp -dsimp [hk]
  obtain ⟨hp1, hp4, hl6, hcl⟩ := placeOk_all hk
  have hit := itoa_fn p.people (by omega) (by omega)
  have hdl := dec_len (n := p.people) (by omega) (by omega)
  have hst := storyTx_len p.people p.story
  have e0 : placeTx p = dec p.people ++ 32 :: (if p.story = [] then [46] else storyTx p.people p.story) := by unfold placeTx; rw [if_pos hk]
  rw [e0]
  refine FnZ_of (rs := [.tmp 2]) false Tryz.func59 rfl rfl rfl rfl (Nat.le_of_ble_eq_true rfl) ?_
  simp -dsimp
  refine call_ hok (by simp -dsimp) ?_
  simp -dsimp [hk]
  refine twp_loopC (Ipt p 0) (fun s => p.story.length - natOf (s.tm 13)) (Ipt p 1) ?_ ?_ ?_
  · exact ⟨0, 1, by simp -dsimp, by simp -dsimp, by simp -dsimp, by omega, by simp -dsimp, by simp -dsimp, by simp -dsimp, by simp -dsimp, by simp -dsimp, by simp -dsimp, by omega, by simp⟩
  · rintro s ⟨i, id, t1, m0, t3, hid0, hid, hm, t11, t12, t13, hmu, hi, hend⟩
    by_cases hlt : i < p.story.length
    case neg =>
      simp -dsimp [t12, t13, hlt]
      exact ⟨i, id, by simp -dsimp [t1], by simp -dsimp [m0], by simp -dsimp [t3], hid0, by simp -dsimp [hid], by simp -dsimp [hm], by simp -dsimp [t11], by simp -dsimp [t12], by simp -dsimp [t13], by simp -dsimp [hmu], hi, fun _ => by omega⟩
    have hget : (p.story.map Claim.v)[i]? = some (p.story[i].v) := by simp [hlt]
    have wi : IntKind.wrap .i64 ((i : Int) + 1) = ((i + 1 : Nat) : Int) := by rw [w64 (by omega) (by omega)]; omega
    have hmu1 : p.story.length - (i + 1) < p.story.length - i := by omega
    have f1 := far hid
    have f0 := far (show 0 < s.n by omega)
    have g0 : ¬ id = 0 := by omega
    have b1 : (min i p.story.length + 1) * 16 ≤ 140737488355328 := by omega
    have hct := claimTx_fn p.people p.story[i]
    have hnx : ((p.story.take (i + 1)).map (claimTx p.people)).map V.str = ((p.story.take i).map (claimTx p.people)).map V.str ++ [.str (claimTx p.people p.story[i])] := by
      rw [List.take_succ_eq_append_getElem hlt, List.map_append, List.map_append]; rfl
    simp -dsimp [t1, t3, t11, t12, t13, hlt, hget, m0, hmu, f0, f1, claim_cellsE]
    refine call_ hct (by simp -dsimp) ?_
    simp -dsimp [t1, t3, t11, t12, t13, m0, hm, hmu, f0, f1, b1, wi, hmu1, nes, g0, Ne.symm g0]
    refine st_out fun s' ht hm' hn' hu' => ?_
    have a1 := ht 1
    have a3 := ht 3
    have a11 := ht 11
    have a12 := ht 12
    have a13 := ht 13
    simp -dsimp [t1, t11, t12] at a1 a3 a11 a12 a13 hm' hn' hu'
    clear ht
    refine ⟨i + 1, _, a1, by simp [hm', f0, g0, Ne.symm g0, m0], a3, by omega, by omega, ?_, a11, a12, a13, by rw [hu', hmu], by omega, by simp⟩
    rw [hnx]; simp [hm', nes]
  · rintro s ⟨i, id, t1, m0, t3, hid0, hid, hm, t11, t12, t13, hmu, hi, hend⟩
    have hil := hend rfl
    rw [hil, List.take_length] at hm
    have f1 := far hid
    have f0 := far (show 0 < s.n by omega)
    have g0 : ¬ id = 0 := by omega
    by_cases hs : p.story = []
    · have hm2 : s.m id = some (.arr 9 []) := by rw [hm, hs]; rfl
      have hj := join_fn [[46]] [44] (by simp) (by rw [Go.Lib.join_one]; simp)
      rw [Go.Lib.join_one] at hj
      have e1 : (if p.story = [] then [46] else storyTx p.people p.story) = ([46] : List UInt8) := if_pos hs
      have b1 : ((dec p.people).length : Int) + 1 ≤ 9223372036854775807 := by omega
      have b2 : ((dec p.people).length : Int) + 1 + 1 ≤ 9223372036854775807 := by omega
      have b3 : ((dec p.people).length : Int) + (1 + 1) ≤ 9223372036854775807 := by omega
      rw [e1]
      generalize dec p.people = d at *
      simp -dsimp [t1, t3, m0, hm2, hmu, f0, f1, nes, g0, Ne.symm g0]
      refine call_ hit (by simp -dsimp) ?_
      simp -dsimp [t1, t3, m0, hm2, hmu, f0, f1, nes, g0, Ne.symm g0, b1]
      refine call_ hj (by simp -dsimp [f0, f1, nes, g0]) ?_
      simp -dsimp [b1, b2, b3]
    · have hlen : ¬ ((p.story.map (claimTx p.people)).map V.str) = [] := by simpa using hs
      have hlen2 : ¬ (((p.story.map (claimTx p.people)).map V.str).length : Int) = 0 := fun h => hlen (List.length_eq_zero_iff.1 (by omega))
      have hj := join_fn (p.story.map (claimTx p.people)) [44] (by simp; omega) (Nat.le_trans hst (by omega))
      have hj : FnZ Tryz.prog 90 [.sl ((p.story.map (claimTx p.people)).map V.str), .str [44]] (.str (storyTx p.people p.story)) := hj
      have e1 : (if p.story = [] then [46] else storyTx p.people p.story) = storyTx p.people p.story := if_neg hs
      have b1 : ((dec p.people).length : Int) + 1 ≤ 9223372036854775807 := by omega
      have b2 : ((dec p.people).length : Int) + 1 + (storyTx p.people p.story).length ≤ 9223372036854775807 := by omega
      have b3 : ((dec p.people).length : Int) + (1 + (storyTx p.people p.story).length) ≤ 9223372036854775807 := by omega
      rw [e1]
      generalize dec p.people = d at *
      generalize storyTx p.people p.story = st at *
      generalize (p.story.map (claimTx p.people)).map V.str = row at *
      simp -dsimp [t1, t3, m0, hm, hmu, f0, f1, nes, g0, Ne.symm g0, hlen, hlen2]
      refine call_ hit (by simp -dsimp) ?_
      simp -dsimp [t1, t3, m0, hm, hmu, f0, f1, nes, g0, Ne.symm g0, b1]
      refine call_ hj (by simp -dsimp [hm]) ?_
      simp -dsimp [b1, b2, b3]
/-- The reference. -/
def Ispt (p : Place) (e : Nat) (s : S) : Prop := ∃ i : Nat, s.tm 1 = .ptr 0 0 ∧ s.m 0 = some (.box 48 2 [.v (.int .i64 p.people), .v (storyV p.story)]) ∧ s.tm 3 = .v (.str (storyTx p.people (p.story.take i))) ∧
  s.tm 4 = .v (.int .i64 i) ∧ s.mu = false ∧ i ≤ p.story.length ∧ (e = 1 → i = p.story.length)
@[simp] theorem storyTx_nil (people : Int) : storyTx people [] = [] := rfl
theorem storyTx_zero (people : Int) (l : List Claim) : storyTx people (l.take 0) = [] := rfl
theorem storyTx_first (people : Int) (l : List Claim) (h : 0 < l.length) : storyTx people (l.take 1) = claimTx people l[0] := by
  cases l with
  | nil => simp at h
  | cons c l => simp [storyTx, Go.Lib.join_one]
theorem join_snoc (x : List UInt8) (xs : List (List UInt8)) (y : List UInt8) : Go.Lib.join ((x :: xs) ++ [y]) [44] = Go.Lib.join (x :: xs) [44] ++ [44] ++ y := by
  rw [List.cons_append, Go.Lib.join_cons, Go.Lib.join_cons]
  simp [Go.Lib.joinTail]
theorem storyTx_next (people : Int) (l : List Claim) (i : Nat) (h0 : 0 < i) (h : i < l.length) : storyTx people (l.take (i + 1)) = storyTx people (l.take i) ++ [44] ++ claimTx people l[i] := by
  unfold storyTx
  rw [List.take_succ_eq_append_getElem h, List.map_append]
  cases l with
  | nil => simp at h
  | cons c l =>
    cases i with
    | zero => omega
    | succ i => simp only [List.take_succ_cons, List.map_cons, List.map_nil]; exact join_snoc _ _ _
theorem placeTextS_fn (p : Place) (hf : p.fine) : FnZ Tryz.prog 61 [p.v] (.str (placeTx p)) := by
  have hok := placeOkS_fn p hf
  have hk := ft (placeOk p)
  rcases hk with hk | hk
  · rw [placeTx_no hk]
    refine FnZ_of (rs := [.tmp 2]) false Tryz.func61 rfl rfl rfl rfl (Nat.le_of_ble_eq_true rfl) ?_
    simp -dsimp
    refine call_ hok (by simp -dsimp) ?_
    simp -dsimp [hk]
  obtain ⟨hp1, hp4, hl6, hcl⟩ := placeOk_all hk
  have hit := l1Number2_fn p.people (by omega) (by omega)
  have hdl := dec_len (n := p.people) (by omega) (by omega)
  have hst := storyTx_len p.people p.story
  have e0 : placeTx p = dec p.people ++ 32 :: (if p.story = [] then [46] else storyTx p.people p.story) := by unfold placeTx; rw [if_pos hk]
  rw [e0]
  refine FnZ_of (rs := [.tmp 2]) false Tryz.func61 rfl rfl rfl rfl (Nat.le_of_ble_eq_true rfl) ?_
  simp -dsimp
  refine call_ hok (by simp -dsimp) ?_
  simp -dsimp [hk]
  refine twp_loopC (Ispt p 0) (fun s => p.story.length - natOf (s.tm 4)) (Ispt p 1) ?_ ?_ ?_
  · exact ⟨0, by simp -dsimp, by simp -dsimp, by simp -dsimp [storyTx_zero], by simp -dsimp, by simp -dsimp, by omega, by simp⟩
  · rintro s ⟨i, t1, m0, t3, t4, hmu, hi, hend⟩
    by_cases hlt : i < p.story.length
    case neg =>
      simp -dsimp [t1, t4, m0, hlt]
      exact ⟨i, by simp -dsimp [t1], by simp -dsimp [m0], by simp -dsimp [t3], by simp -dsimp [t4], by simp -dsimp [hmu], hi, fun _ => by omega⟩
    have hget : (p.story.map Claim.v)[i]? = some (p.story[i].v) := by simp [hlt]
    have wi : IntKind.wrap .i64 ((i : Int) + 1) = ((i + 1 : Nat) : Int) := by rw [w64 (by omega) (by omega)]; omega
    have hmu1 : p.story.length - (i + 1) < p.story.length - i := by omega
    have hct := claimTxS_fn p.people p.story[i] (hf.2 _ (List.getElem_mem _))
    have hcl2 := claimTx_short p.people p.story[i]
    have hst2 := storyTx_len p.people (p.story.take i)
    rw [List.length_take] at hst2
    by_cases hi0 : i = 0
    · have hnx : storyTx p.people (p.story.take (i + 1)) = claimTx p.people p.story[i] := by
        subst hi0; exact storyTx_first p.people p.story hlt
      have t3' : s.tm 3 = .v (.str []) := by rw [t3, hi0]; rfl
      have hi1 : ¬ 0 < i := by omega
      have hi1' : ¬ (0 : Int) < (i : Int) := by omega
      have b2 : ((claimTx p.people p.story[i]).length : Int) ≤ 9223372036854775807 := by omega
      simp -dsimp [t1, t3', t4, m0, hlt, hi1, hi1']
      refine twp_draw (List.range 11) [0] (List.replicate 11 [0]) (List.replicate 11 [0]) (by kernel_rfl) (by kernel_rfl) (by kernel_rfl) (by kernel_rfl) ?_
      simp -dsimp [List.range_succ, t1, t3', t4, m0, hget, hlt, claim_cellsE]
      refine call_ hct (by simp -dsimp) ?_
      simp -dsimp [List.range_succ, t1, t3', t4, m0, hget, b2, wi, hmu1]
      exact ⟨i + 1, by simp -dsimp [t1], by simp -dsimp [m0], by simp -dsimp [hnx], by simp -dsimp, by simp -dsimp [hmu], by omega, by simp⟩
    · have hi1 : 0 < i := by omega
      have hi1' : (0 : Int) < (i : Int) := by omega
      have hnx := storyTx_next p.people p.story i hi1 hlt
      generalize hX : storyTx p.people (p.story.take i) = X at *
      have b0 : (X.length : Int) + 1 ≤ 9223372036854775807 := by omega
      have b1 : (X.length : Int) + 1 + (claimTx p.people p.story[i]).length ≤ 9223372036854775807 := by omega
      have b2 : (X.length : Int) + (1 + (claimTx p.people p.story[i]).length) ≤ 9223372036854775807 := by omega
      simp -dsimp [t1, t3, t4, m0, hlt, hi1, hi1', b0]
      refine twp_draw (List.range 11) [0] (List.replicate 11 [0]) (List.replicate 11 [0]) (by kernel_rfl) (by kernel_rfl) (by kernel_rfl) (by kernel_rfl) ?_
      simp -dsimp [List.range_succ, t1, t3, t4, m0, hget, hlt, claim_cellsE, b0]
      refine call_ hct (by simp -dsimp) ?_
      simp -dsimp [List.range_succ, t1, t3, t4, m0, hget, b0, b1, b2, wi, hmu1]
      exact ⟨i + 1, by simp -dsimp [t1], by simp -dsimp [m0], by simp -dsimp [hnx], by simp -dsimp, by simp -dsimp [hmu], by omega, by simp⟩
  · rintro s ⟨i, t1, m0, t3, t4, hmu, hi, hend⟩
    have hil := hend rfl
    rw [hil, List.take_length] at t3
    by_cases hs : p.story = []
    · have e1 : (if p.story = [] then [46] else storyTx p.people p.story) = ([46] : List UInt8) := if_pos hs
      have b1 : ((dec p.people).length : Int) + 1 ≤ 9223372036854775807 := by omega
      have b2 : ((dec p.people).length : Int) + 1 + 1 ≤ 9223372036854775807 := by omega
      have b3 : ((dec p.people).length : Int) + (1 + 1) ≤ 9223372036854775807 := by omega
      have hl0 : (p.story.length : Int) = 0 := by rw [hs]; rfl
      rw [e1]
      generalize dec p.people = d at *
      simp -dsimp [t1, t3, m0, hs, hl0]
      refine call_ hit (by simp -dsimp) ?_
      simp -dsimp [b1, b2, b3]
    · have e1 : (if p.story = [] then [46] else storyTx p.people p.story) = storyTx p.people p.story := if_neg hs
      have b1 : ((dec p.people).length : Int) + 1 ≤ 9223372036854775807 := by omega
      have b2 : ((dec p.people).length : Int) + 1 + (storyTx p.people p.story).length ≤ 9223372036854775807 := by omega
      have b3 : ((dec p.people).length : Int) + (1 + (storyTx p.people p.story).length) ≤ 9223372036854775807 := by omega
      rw [e1]
      generalize dec p.people = d at *
      generalize storyTx p.people p.story = st at *
      simp -dsimp [t1, t3, m0, hs]
      refine call_ hit (by simp -dsimp) ?_
      simp -dsimp [t1, t3, m0, b1, b2, b3]
end TL

/- Reading places: the plain part. -/
set_option linter.unusedSimpArgs false
set_option linter.unusedVariables false
set_option maxRecDepth 100000
namespace TL
/-- Cut at every such sign. -/
def cutGo (c : UInt8) : List UInt8 → List UInt8 → List (List UInt8)
  | acc, [] => [acc]
  | acc, x :: xs => if x = c then acc :: cutGo c [] xs else cutGo c (acc ++ [x]) xs
def cutAt (c : UInt8) (s : List UInt8) : List (List UInt8) := cutGo c [] s
theorem cutGo_clean {c : UInt8} : ∀ (x acc r : List UInt8), (∀ y ∈ x, y ≠ c) → cutGo c acc (x ++ r) = cutGo c (acc ++ x) r
  | [], acc, r, _ => by simp
  | y :: x, acc, r, h => by
    have h1 : y ≠ c := h y (List.mem_cons_self ..)
    rw [List.cons_append]
    show (if y = c then _ else _) = _
    rw [if_neg h1, cutGo_clean x _ r fun z hz => h z (List.mem_cons_of_mem _ hz)]
    simp
theorem cutAt_app {c : UInt8} {x r : List UInt8} (h : ∀ y ∈ x, y ≠ c) : cutAt c (x ++ c :: r) = x :: cutAt c r := by
  unfold cutAt
  rw [cutGo_clean x [] _ h]
  show (if c = c then _ else _) = _
  rw [if_pos rfl]; rfl
theorem cutAt_none {c : UInt8} {x : List UInt8} (h : ∀ y ∈ x, y ≠ c) : cutAt c x = [x] := by
  have := cutGo_clean x [] [] h
  rw [List.append_nil] at this
  unfold cutAt; rw [this]; rfl
theorem cut_first (c : UInt8) : ∀ s : List UInt8, (∀ y ∈ s, y ≠ c) ∨ ∃ x r, s = x ++ c :: r ∧ ∀ y ∈ x, y ≠ c
  | [] => .inl (by simp)
  | y :: s => by
    by_cases h : y = c
    · exact .inr ⟨[], s, by rw [h]; rfl, by simp⟩
    · rcases cut_first c s with h1 | ⟨x, r, h1, h2⟩
      · exact .inl fun z hz => by
          rcases List.mem_cons.1 hz with rfl | hz
          · exact h
          · exact h1 z hz
      · exact .inr ⟨y :: x, r, by rw [h1]; rfl, fun z hz => by
          rcases List.mem_cons.1 hz with rfl | hz
          · exact h
          · exact h2 z hz⟩
theorem cutGo_len (c : UInt8) : ∀ s acc, (cutGo c acc s).length ≤ s.length + 1
  | [], acc => by simp [cutGo]
  | x :: s, acc => by
    show (if x = c then acc :: cutGo c [] s else cutGo c (acc ++ [x]) s).length ≤ _
    have h1 := cutGo_len c s []
    have h2 := cutGo_len c s (acc ++ [x])
    split
    · simp only [List.length_cons]; omega
    · simp only [List.length_cons]; omega
theorem cutAt_len (c : UInt8) (s : List UInt8) : (cutAt c s).length ≤ s.length + 1 := cutGo_len c s []
theorem cutGo_piece (c : UInt8) : ∀ s acc, ∀ x ∈ cutGo c acc s, x.length ≤ acc.length + s.length
  | [], acc, x, h => by
    cases List.mem_singleton.1 h; simp
  | y :: s, acc, x, h => by
    have h : x ∈ (if y = c then acc :: cutGo c [] s else cutGo c (acc ++ [y]) s) := h
    split at h
    · rcases List.mem_cons.1 h with rfl | h
      · simp
      · have := cutGo_piece c s [] x h; simp at this ⊢; omega
    · have := cutGo_piece c s _ x h; simp at this ⊢; omega
theorem cutAt_piece {c : UInt8} {s x : List UInt8} (h : x ∈ cutAt c s) : x.length ≤ s.length := by
  have := cutGo_piece c s [] x h; simpa using this
theorem occ_head {c : UInt8} {s : List UInt8} {j : Nat} : Go.Lib.occAt s [c] j = (s[j]? == some c) := by
  unfold Go.Lib.occAt
  have e : (s.drop j).head? = s[j]? := by simp
  cases h : s.drop j with
  | nil => rw [h] at e; rw [← e]; rfl
  | cons y r =>
    rw [h] at e; rw [← e]
    simp only [List.isPrefixOf, List.head?_cons, Bool.and_true]
    by_cases hy : c = y
    · simp [hy]
    · have hy2 : ¬ y = c := fun h => hy h.symm
      have e1 : (c == y) = false := by simp [hy]
      rw [e1]; simp [hy2]
theorem index_clean {c : UInt8} {s : List UInt8} (h : ∀ y ∈ s, y ≠ c) : Go.Lib.index s [c] = -1 := by
  refine Go.Lib.index_none fun j _ => ?_
  rw [occ_head]
  cases e : s[j]? with
  | none => rfl
  | some y => have := h y (List.mem_of_getElem? e); simpa using this
theorem index_at {c : UInt8} {x r : List UInt8} (h : ∀ y ∈ x, y ≠ c) : Go.Lib.index (x ++ c :: r) [c] = (x.length : Nat) := by
  refine Go.Lib.index_first (by simp) ?_ fun j hj => ?_
  · rw [occ_head]; simp
  · rw [occ_head, List.getElem?_append_left hj]
    have := h x[j] (List.getElem_mem hj)
    simpa [hj] using this
theorem splitK_cut (c : UInt8) : ∀ (n : Nat) (s : List UInt8), s.length ≤ n → Go.Lib.splitK [c] 0 (Go.Lib.count s [c]) s = cutAt c s
  | n, s, hn => by
    rcases cut_first c s with h | ⟨x, r, rfl, h⟩
    · rw [cutAt_none h, Go.Lib.count_miss (index_clean h)]; rfl
    · have hi := index_at (r := r) h
      have hne : ([c] : List UInt8) ≠ [] := by simp
      have hd : (x ++ c :: r).drop (x.length + [c].length) = r := by
        rw [List.drop_append, List.drop_of_length_le (by simp)]; simp
      rw [cutAt_app h, Go.Lib.count_hit hne hi, hd, Nat.add_comm, Go.Lib.splitK, hi]
      rw [if_neg (by simp)]
      have e1 : ((x.length : Nat) : Int).toNat = x.length := by omega
      rw [e1, hd, Nat.add_zero]
      cases n with
      | zero => simp at hn
      | succ n =>
        rw [splitK_cut c n r (by simp at hn; omega)]
        congr 1
        rw [List.take_append_of_le_length (Nat.le_refl _), List.take_length]
theorem split_is_cut (c : UInt8) (s : List UInt8) : Go.Lib.splitK [c] 0 (Go.Lib.count s [c]) s = cutAt c s := splitK_cut c s.length s (Nat.le_refl _)
theorem cut_join {c : UInt8} : ∀ (xs : List (List UInt8)) (x : List UInt8), (∀ y ∈ x, y ≠ c) → (∀ z ∈ xs, ∀ y ∈ z, y ≠ c) → cutAt c (Go.Lib.join (x :: xs) [c]) = x :: xs
  | [], x, h, _ => by rw [Go.Lib.join_one]; exact cutAt_none h
  | z :: xs, x, h, hs => by
    have e : Go.Lib.join (x :: z :: xs) [c] = x ++ c :: Go.Lib.join (z :: xs) [c] := by
      rw [Go.Lib.join_cons, Go.Lib.join_cons]
      simp [Go.Lib.joinTail]
    rw [e, cutAt_app h, cut_join xs z (hs z (List.mem_cons_self ..)) fun w hw => hs w (List.mem_cons_of_mem _ hw)]
/-! Claims' texts. -/
theorem ofNat_plain {w : Int} (h0 : 0 ≤ w) (h4 : w < 4) : plain (UInt8.ofNat (97 + w.toNat)) := by
  rcases (by omega : w = 0 ∨ w = 1 ∨ w = 2 ∨ w = 3) with rfl | rfl | rfl | rfl <;> exact ⟨by decide, by decide, by decide, by decide, by decide⟩
theorem claimTx_clean {people : Int} {c : Claim} (h : claimOk people c = true) : ∀ y ∈ claimTx people c, y ≠ 44 ∧ y ≠ 32 ∧ y ≠ 10 ∧ y ≠ 46 := by
  obtain ⟨h1, h2, h3, h4, h5, h6⟩ := claimOk_all h
  intro y hy
  unfold claimTx at hy
  rw [if_pos h] at hy
  rcases List.mem_cons.1 hy with rfl | hy
  · have := ofNat_plain h3 (by omega); exact ⟨this.2.2.1, this.1, this.2.1, this.2.2.2.1⟩
  rcases List.mem_cons.1 hy with rfl | hy
  · exact ⟨by decide, by decide, by decide, by decide⟩
  · have := termText_plain h5 y hy; exact ⟨this.2.2.1, this.1, this.2.1, this.2.2.2.1⟩
theorem join_mem {y c : UInt8} : ∀ (xs : List (List UInt8)), y ∈ Go.Lib.join xs [c] → y = c ∨ ∃ x ∈ xs, y ∈ x
  | [], h => by rw [Go.Lib.join_nil] at h; simp at h
  | [x], h => by rw [Go.Lib.join_one] at h; exact .inr ⟨x, by simp, h⟩
  | x :: z :: xs, h => by
    have e : Go.Lib.join (x :: z :: xs) [c] = x ++ c :: Go.Lib.join (z :: xs) [c] := by
      rw [Go.Lib.join_cons, Go.Lib.join_cons]
      simp [Go.Lib.joinTail]
    rw [e] at h
    rcases List.mem_append.1 h with h | h
    · exact .inr ⟨x, by simp, h⟩
    rcases List.mem_cons.1 h with h | h
    · exact .inl h
    · rcases join_mem _ h with h | ⟨w, hw, h⟩
      · exact .inl h
      · exact .inr ⟨w, List.mem_cons_of_mem _ hw, h⟩
theorem story_cut {people : Int} {l : List Claim} (hl : l ≠ []) (h : ∀ c ∈ l, claimOk people c = true) : cutAt 44 (storyTx people l) = l.map (claimTx people) := by
  cases l with
  | nil => exact absurd rfl hl
  | cons c l =>
    unfold storyTx
    rw [List.map_cons]
    refine cut_join _ _ (fun y hy => (claimTx_clean (h c (List.mem_cons_self ..)) y hy).1) fun z hz y hy => ?_
    obtain ⟨d, hd, rfl⟩ := List.mem_map.1 hz
    exact (claimTx_clean (h d (List.mem_cons_of_mem _ hd)) y hy).1
theorem story_plain {people : Int} {l : List Claim} (h : ∀ c ∈ l, claimOk people c = true) : ∀ y ∈ storyTx people l, y ≠ 32 ∧ y ≠ 10 ∧ y ≠ 46 := fun y hy => by
  rcases join_mem _ hy with rfl | ⟨x, hx, hy⟩
  · exact ⟨by decide, by decide, by decide⟩
  · obtain ⟨d, hd, rfl⟩ := List.mem_map.1 hx
    have := claimTx_clean (h d hd) y hy
    exact ⟨this.2.1, this.2.2.1, this.2.2.2⟩
theorem story_reads {people : Int} {l : List Claim} (hl : l ≠ []) (h : ∀ c ∈ l, claimOk people c = true) : (cutAt 44 (storyTx people l)).map (readC people) = l.map some := by
  rw [story_cut hl h, List.map_map]
  exact List.map_congr_left fun c hc => readC_text (h c hc)
/-- What stands behind the blank. -/
noncomputable def restTx (p : Place) : List UInt8 := if p.story = [] then [46] else storyTx p.people p.story
theorem dec_digit {n : Int} (h0 : 1 ≤ n) (h4 : n ≤ 4) : dec n = [UInt8.ofNat (48 + n.toNat)] := by
  unfold dec Go.Lib.decDigits; rcases (by omega : n = 1 ∨ n = 2 ∨ n = 3 ∨ n = 4) with rfl | rfl | rfl | rfl <;> rfl
theorem placeTx_shape {p : Place} (h : placeOk p = true) : placeTx p = UInt8.ofNat (48 + p.people.toNat) :: 32 :: restTx p := by
  obtain ⟨h1, h2, _, _⟩ := placeOk_all h
  unfold placeTx restTx
  rw [if_pos h, dec_digit h1 h2]; rfl
theorem story_pos {p : Place} (h : placeOk p = true) (hs : p.story ≠ []) : 3 ≤ (storyTx p.people p.story).length := by
  obtain ⟨h1, h2, _, h4⟩ := placeOk_all h
  obtain ⟨people, story⟩ := p
  cases story with
  | nil => exact absurd rfl hs
  | cons c l =>
    have := (claimTx_len (h4 c (List.mem_cons_self ..))).1
    unfold storyTx
    rw [List.map_cons, Go.Lib.join_cons]
    simp only [List.length_append]; simp only at this ⊢; omega
theorem restTx_dot {p : Place} (h : placeOk p = true) : restTx p = [46] ↔ p.story = [] := by
  unfold restTx
  constructor
  · intro e
    by_cases hs : p.story = []
    · exact hs
    · rw [if_neg hs] at e
      have := story_pos h hs; rw [e] at this; simp at this
  · intro e; rw [if_pos e]
theorem restTx_pos {p : Place} (h : placeOk p = true) : restTx p ≠ [] := by
  unfold restTx
  split
  · simp
  · rename_i hs; intro e; have := story_pos h hs; rw [e] at this; simp at this
theorem restTx_plain {p : Place} (h : placeOk p = true) : ∀ y ∈ restTx p, y ≠ 32 ∧ y ≠ 10 := by
  obtain ⟨_, _, _, h4⟩ := placeOk_all h
  unfold restTx
  split
  · intro y hy; cases List.mem_singleton.1 hy; exact ⟨by decide, by decide⟩
  · intro y hy; have := story_plain h4 y hy; exact ⟨this.1, this.2.1⟩
theorem rest_reads {p : Place} (h : placeOk p = true) (hd : restTx p ≠ [46]) : (cutAt 44 (restTx p)).map (readC p.people) = p.story.map some := by
  obtain ⟨_, _, _, h4⟩ := placeOk_all h
  have hs : p.story ≠ [] := fun e => hd ((restTx_dot h).2 e)
  unfold restTx
  rw [if_neg hs]
  exact story_reads hs h4
theorem digit_inj {a b : Int} (ha : 1 ≤ a) (ha4 : a ≤ 4) (hb : 1 ≤ b) (hb4 : b ≤ 4) (h : UInt8.ofNat (48 + a.toNat) = UInt8.ofNat (48 + b.toNat)) : a = b := by
  have := congrArg UInt8.toNat h
  rw [UInt8.toNat_ofNat', UInt8.toNat_ofNat'] at this; omega
theorem map_some_inj {l m : List Claim} (h : l.map some = m.map some) : l = m := by
  have := congrArg (List.filterMap id) h
  simpa [List.filterMap_map] using this
theorem placeTx_inj {p q : Place} (hp : placeOk p = true) (hq : placeOk q = true) (h : placeTx p = placeTx q) : p = q := by
  rw [placeTx_shape hp, placeTx_shape hq] at h
  obtain ⟨a1, a2, _, _⟩ := placeOk_all hp
  obtain ⟨b1, b2, _, _⟩ := placeOk_all hq
  have h1 := (List.cons.inj h).1
  have h2 := (List.cons.inj (List.cons.inj h).2).2
  have e1 := digit_inj a1 a2 b1 b2 h1
  have e2 : p.story = q.story := by
    by_cases hd : restTx p = [46]
    · rw [(restTx_dot hp).1 hd, (restTx_dot hq).1 (by rw [← h2]; exact hd)]
    · have r1 := rest_reads hp hd
      have r2 := rest_reads hq (by rw [← h2]; exact hd)
      rw [← h2, ← e1, r1] at r2
      exact map_some_inj r2
  obtain ⟨pp, ps⟩ := p
  obtain ⟨qp, qs⟩ := q
  simp only at e1 e2
  rw [e1, e2]
theorem placeTx_pos {p : Place} (h : placeOk p = true) : placeTx p ≠ [] := by rw [placeTx_shape h]; simp
theorem placeTx_ok {p : Place} (h : placeTx p ≠ []) : placeOk p = true := by
  have hk := ft (placeOk p)
  rcases hk with hk | hk
  · exact absurd (placeTx_no hk) h
  · exact hk
/-- What ReadPlace finds. -/
noncomputable def readP (s : List UInt8) : Option Place := by
  classical exact if h : ∃ p, placeOk p = true ∧ placeTx p = s then some (Classical.choose h) else none
theorem readP_some {s : List UInt8} {p : Place} (h : placeOk p = true) (hs : placeTx p = s) : readP s = some p := by
  have hx : ∃ p, placeOk p = true ∧ placeTx p = s := ⟨p, h, hs⟩
  unfold readP; rw [dif_pos hx]
  have := Classical.choose_spec hx
  exact congrArg some (placeTx_inj this.1 h (by rw [this.2, hs]))
theorem readP_is {s : List UInt8} {p : Place} (h : readP s = some p) : placeOk p = true ∧ placeTx p = s := by
  unfold readP at h
  split at h
  · rename_i hx; cases h; exact Classical.choose_spec hx
  · cases h
theorem readP_none {s : List UInt8} (h : ∀ p, placeOk p = true → placeTx p ≠ s) : readP s = none := by
  unfold readP; rw [dif_neg]; rintro ⟨p, h1, h2⟩; exact h p h1 h2
/-- How a text falls apart. -/
def parts (s : List UInt8) (D : Int) (rest : List UInt8) : Prop := s ≠ [] ∧ ∀ p, placeOk p = true → placeTx p = s → D = p.people ∧ rest = restTx p
theorem readP_piece {s rest : List UInt8} {D : Int} (h : parts s D rest) (hd : rest ≠ [46]) (x : List UInt8) (hx : x ∈ cutAt 44 rest) (hn : readC D x = none) : readP s = none := by
  refine readP_none fun p hp hs => ?_
  obtain ⟨rfl, rfl⟩ := h.2 p hp hs
  have := rest_reads hp hd
  have hm : readC p.people x ∈ (cutAt 44 (restTx p)).map (readC p.people) := List.mem_map_of_mem hx
  rw [this, hn] at hm
  simp at hm
theorem readP_end {s rest : List UInt8} {D : Int} {l : List Claim} (h : parts s D rest) (hl : rest = [46] ∧ l = [] ∨ rest ≠ [46] ∧ (cutAt 44 rest).map (readC D) = l.map some) :
    readP s = if placeTx ⟨D, l⟩ = s then some ⟨D, l⟩ else none := by
  split
  · rename_i hs
    exact readP_some (placeTx_ok (by rw [hs]; exact h.1)) hs
  · rename_i hne
    refine readP_none fun p hp hs => hne ?_
    obtain ⟨rfl, rfl⟩ := h.2 p hp hs
    have e : p.story = l := by
      rcases hl with ⟨h1, h2⟩ | ⟨h1, h2⟩
      · rw [h2]; exact (restTx_dot hp).1 h1
      · rw [rest_reads hp h1] at h2; exact map_some_inj h2
    rw [← e]; exact hs
theorem parts_one {a : UInt8} {rest : List UInt8} : parts (a :: 32 :: rest) ((a.toNat : Int) - 48) rest := ⟨by simp, fun p hp hs => by
  obtain ⟨h1, h2, _, _⟩ := placeOk_all hp
  rw [placeTx_shape hp] at hs
  have e1 := (List.cons.inj hs).1
  have e2 := (List.cons.inj (List.cons.inj hs).2).2
  refine ⟨?_, e2.symm⟩
  have := congrArg UInt8.toNat e1
  rw [UInt8.toNat_ofNat'] at this; omega⟩
theorem last_in {p w s : List UInt8} {c : UInt8} (hw : w ≠ []) (h : p ++ w = s ++ [c]) : c ∈ w := by
  have h1 := congrArg List.getLast? h
  rw [List.getLast?_append, List.getLast?_append] at h1
  cases e : w.getLast? with
  | none => exact absurd (List.getLast?_eq_none_iff.1 e) hw
  | some y =>
    rw [e] at h1
    simp at h1
    rw [← h1]; exact List.mem_of_getLast? e
/-- With a further sign behind it, that no place has at its end. -/
theorem readP_more {s : List UInt8} {c : UInt8} (hc : c = 32 ∨ c = 10) : readP (s ++ [c]) = none := readP_none fun p hp hs => by
  rw [placeTx_shape hp] at hs
  have h1 : [UInt8.ofNat (48 + p.people.toNat), 32] ++ restTx p = s ++ [c] := hs
  have := restTx_plain hp c (last_in (restTx_pos hp) h1)
  rcases hc with rfl | rfl
  · exact this.1 rfl
  · exact this.2 rfl
end TL

/- The library's functions, off the shelf: texts split. -/
set_option linter.unusedSimpArgs false
set_option linter.unusedVariables false
set_option maxRecDepth 100000
namespace TL
open Go Go.Proofs Go.RowKit
section
variable {P : Program}
theorem strs_new {Z : Zs} {w : World} : ∀ (bs : List ByteArray), RepEs Z w 1 ((bs.map (·.data.toList)).map V.str) (bs.map Value.string)
  | [] => .nil 1
  | b :: bs => .one rfl (.str rfl) (strs_new bs)
theorem strs_alloc {Z : Zs} {w : World} (bs : List ByteArray) (t : TypeId) (hl : bs.length ≤ maxLen) :
    RepV (freshZ Z w.heap.size (w.alloc (.cells (bs.map Value.string).toArray t)).heap.size) (w.alloc (.cells (bs.map Value.string).toArray t)) (.sl ((bs.map (·.data.toList)).map V.str)) (.slice (some ⟨w.heap.size, 0, none⟩) bs.length bs.length) := by
  refine .sl (strs_new bs) (by simp) (Nat.le_refl _) hl fun i u hu => ?_
  rw [add_lit]
  refine ⟨?_, .inr ⟨Nat.le_refl _, ?_⟩⟩
  · rw [World.cell?_alloc_new]
    simpa using hu
  · show w.heap.size < (w.heap.push _).size
    simp
theorem split_FnZ {ρ : Go.Shelf.Ren} (L : Go.Proofs.Lays.n146 P ρ) (hi9 : (P.info? (ρ.t 9)).map (fun i => (i.zero, i.size, i.bytes)) = some (some (.string ByteArray.empty), 1, 16)) (hf : ∃ fn, P.funcs[ρ.f 146]? = some fn ∧ (fn.name == "runtime.NumGoroutine") = false ∧ fn.body.isNone = false)
    (hg : P.globalNamed "internal/bytealg.MaxLen" = some (ρ.g 1)) (s : List UInt8) (c : UInt8) (hs : s.length < 4294967281) : FnZ P (ρ.f 146) [.str s, .str [c]] (.sl ((cutAt c s).map V.str)) := by
  refine FnZ_calls hf fun Z w vs hz hv => ?_
  cases hv with | cons h1 hv => cases hv with | cons h2 hv => cases hv with | nil =>
    cases h1 with
    | @str _ b hb =>
      cases h2 with
      | @str _ bsep hb2 =>
        have hq : GQ P (ρ.g 1) (fun v => ∃ m, v = .int .i64 m) := GQ.maxLen hg
        obtain ⟨_, v, hc, m, rfl⟩ := hz.gl _ _ hq
        have hsz : b.size = s.length := by rw [← hb]; rfl
        have hsz2 : bsep.size = 1 := by have := congrArg List.length hb2; simpa using this
        have e1 : (Go.Lib.splitB bsep 0 (Go.Lib.countB b bsep) b).map (·.data.toList) = cutAt c s := by
          rw [Go.Lib.splitB_data]
          show Go.Lib.splitK bsep.data.toList 0 (Go.Lib.count b.data.toList bsep.data.toList) b.data.toList = _
          rw [hb, hb2]; exact split_is_cut c s
        have hlen := Go.Lib.splitB_all bsep (by omega) 0 _ b rfl
        have hle := cutAt_len c s
        have hlen2 : (Go.Lib.splitB bsep 0 (Go.Lib.countB b bsep) b).length = (cutAt c s).length := by rw [← e1, List.length_map]
        refine calls_mono (Any.strings_Split L hi9 b bsep m w (by omega) hc (by omega)) ?_
        rintro e w' ⟨rfl, rfl⟩
        refine ⟨_, rfl, (Below.refl _ _).alloc (Nat.le_refl _) _, ?_⟩
        rw [← hlen, ← e1]
        exact strs_alloc _ _ (by rw [hlen2]; simp only [maxLen]; omega)
end
theorem split_fn (s : List UInt8) (c : UInt8) (hs : s.length < 4294967281) : FnZ Tryz.prog 83 [.str s, .str [c]] (.sl ((cutAt c s).map V.str)) :=
  split_FnZ Tryz.lays146 (by kernel_rfl) ⟨_, Tryz.func83, rfl, rfl⟩ (by kernel_rfl) s c hs
end TL

/- Reading places: the program. -/
set_option linter.unusedSimpArgs false
set_option linter.unusedVariables false
set_option maxRecDepth 100000
set_option maxHeartbeats 4000000
set_option pp.maxSteps 1500
namespace TL
open Go Go.Proofs
attribute [local simp] marksV storyV codeV Claim.v Place.v
def optP (o : Option Place) : V := .tup [(o.getD ⟨0, []⟩).v, .bool o.isSome]
theorem readP_short {s : List UInt8} (h : s.length < 3) : readP s = none := readP_none fun p hp hs => by
  rw [placeTx_shape hp] at hs
  have := restTx_pos hp
  have h1 := List.length_pos_iff.2 this
  rw [← hs] at h; simp only [List.length_cons] at h; omega
theorem readP_blank {a b : UInt8} {s : List UInt8} (h : b ≠ 32) : readP (a :: b :: s) = none := readP_none fun p hp hs => by
  rw [placeTx_shape hp] at hs
  exact h (List.cons.inj (List.cons.inj hs).2).1.symm
theorem reads_next {D : Int} {ps : List (List UInt8)} {i : Nat} {l : List Claim} {c : Claim} (hi : i < ps.length) (h : (ps.take i).map (readC D) = l.map some) (hc : readC D ps[i] = some c) : (ps.take (i + 1)).map (readC D) = (l ++ [c]).map some := by
  rw [List.take_succ_eq_append_getElem hi, List.map_append, List.map_append, h]
  simp [hc]
theorem reads_len {D : Int} {ps : List (List UInt8)} {i : Nat} {l : List Claim} (h : (ps.take i).map (readC D) = l.map some) : l.length ≤ i := by
  have := congrArg List.length h
  rw [List.length_map, List.length_map, List.length_take] at this; omega
def Irp (s rest : List UInt8) (D : Int) (e : Nat) (x : S) : Prop := ∃ (i : Nat) (l : List Claim) (row : T), x.tm 0 = .v (.str s) ∧ x.tm 2 = .ptr 0 0 ∧ x.m 0 = some (.box 48 2 [.v (.int .i64 0), .nil]) ∧ x.tm 4 = .ptr 1 0 ∧
  x.m 1 = some (.box 48 2 [.v (.int .i64 D), row]) ∧ (row = .nil ∧ l = [] ∨ ∃ id, row = .loc id ∧ 1 < id ∧ id < x.n ∧ x.m id = some (.arr 89 (l.map Claim.v))) ∧
  x.tm 28 = .v (.sl ((cutAt 44 rest).map V.str)) ∧ x.tm 29 = .v (.int .i64 (cutAt 44 rest).length) ∧ x.tm 30 = .v (.int .i64 i) ∧ x.mu = false ∧ 1 < x.n ∧ i ≤ (cutAt 44 rest).length ∧ ((cutAt 44 rest).take i).map (readC D) = l.map some ∧ (e = 1 → i = (cutAt 44 rest).length)
theorem readPlace_fn (s : List UInt8) (hl : s.length ≤ 2000000000) : FnZ Tryz.prog 52 [.str s] (optP (readP s)) := by
  by_cases h3 : s.length < 3
  · have h3' : (s.length : Int) < 3 := by omega
    rw [readP_short h3]
    refine FnZ_of (rs := [.cell 2 48, .tmp 3]) false Tryz.func52 rfl rfl rfl rfl (Nat.le_of_ble_eq_true rfl) ?_
    simp -dsimp [h3, h3', optP]
  match s, h3, hl with
  | [], h3, hl => simp at h3
  | [a], h3, hl => simp at h3
  | a :: b :: rest, h3, hl =>
    have h3' : ¬ ((rest.length : Int) + 1 + 1 < 3) := by simp at h3; omega
    have hls : rest.length ≤ 2000000000 := by simp at hl; omega
    have l2 : (2 : Int) ≤ (rest.length : Int) + 1 + 1 := by omega
    have l3 : ((rest.length : Int) + 1 + 1).toNat = rest.length + 1 + 1 := by omega
    have l4 : (0 : Int) < (rest.length : Int) + 1 + 1 := by omega
    have l5 : (1 : Int) < (rest.length : Int) + 1 + 1 := by omega
    by_cases hb : b = 32
    case neg =>
      have hb' : ¬ (b.toNat : Int) = 32 := fun h => hb (UInt8.toNat.inj (by show b.toNat = 32; omega))
      rw [readP_blank hb]
      refine FnZ_of (rs := [.cell 2 48, .tmp 3]) false Tryz.func52 rfl rfl rfl rfl (Nat.le_of_ble_eq_true rfl) ?_
      simp -dsimp [h3', l4, l5, hb', optP]
    subst hb
    have hlt := UInt8.toNat_lt a
    have w1 : IntKind.wrap .i64 ((a.toNat : Int) - 48) = (a.toNat : Int) - 48 := w64 (by omega) (by omega)
    have w2 : IntKind.wrap .i64 (a.toNat : Int) = (a.toNat : Int) := w64 (by omega) (by omega)
    have hpt := parts_one (a := a) (rest := rest)
    have hsl : (a :: 32 :: rest).length = rest.length + 1 + 1 := rfl
    generalize hD : (a.toNat : Int) - 48 = D at *
    by_cases hd : rest = [46]
    · have he := readP_end (l := []) hpt (.inl ⟨hd, rfl⟩)
      have hT := placeText_fn ⟨D, []⟩ (by simp)
      rw [he]
      subst hd
      clear he hpt
      generalize placeTx ⟨D, []⟩ = tx at *
      refine FnZ_of (rs := [.cell 2 48, .tmp 3]) false Tryz.func52 rfl rfl rfl rfl (Nat.le_of_ble_eq_true rfl) ?_
      by_cases hx : tx = [a, 32, 46]
      · simp -dsimp [w1, w2, hD]
        refine call_ hT (by simp -dsimp) ?_
        simp -dsimp [hx, optP]
      · simp -dsimp [w1, w2, hD]
        refine call_ hT (by simp -dsimp) ?_
        simp -dsimp [hx, optP]
    have hsp := split_fn rest 44 (by omega)
    refine FnZ_of (rs := [.cell 2 48, .tmp 3]) false Tryz.func52 rfl rfl rfl rfl (Nat.le_of_ble_eq_true rfl) ?_
    simp -dsimp [h3', l2, l3, l4, l5, w1, w2, hD, hd]
    refine call_ hsp (by simp -dsimp) ?_
    simp -dsimp [h3', l2, l3, l4, l5, w1, w2, hD, hd]
    refine twp_loopC (Irp (a :: 32 :: rest) rest D 0) (fun x => (cutAt 44 rest).length - natOf (x.tm 30)) (Irp (a :: 32 :: rest) rest D 1) ?_ ?_ ?_
    · exact ⟨0, [], .nil, by simp -dsimp, by simp -dsimp, by simp -dsimp, by simp -dsimp, by simp -dsimp, .inl ⟨rfl, rfl⟩, by simp -dsimp, by simp -dsimp, by simp -dsimp, by simp -dsimp, by simp -dsimp, by omega, by simp, by simp⟩
    · rintro x ⟨i, l, row, t0, t2, m0, t4, m1, hrow, t28, t29, t30, hmu, hn, hi, hrd, hend⟩
      by_cases hlt : i < (cutAt 44 rest).length
      case neg =>
        simp -dsimp [t29, t30, hlt]
        exact ⟨i, l, row, by simp -dsimp [t0], by simp -dsimp [t2], by simp -dsimp [m0], by simp -dsimp [t4], by simp -dsimp [m1], by simpa -dsimp using hrow, by simp -dsimp [t28], by simp -dsimp [t29], by simp -dsimp [t30], by simp -dsimp [hmu], by simp -dsimp [hn], hi, hrd, fun _ => by omega⟩
      have hget : ((cutAt 44 rest).map V.str)[i]? = some (.str (cutAt 44 rest)[i]) := by simp [hlt]
      have wi : IntKind.wrap .i64 ((i : Int) + 1) = ((i + 1 : Nat) : Int) := by
        have := cutAt_len 44 rest
        rw [w64 (by omega) (by omega)]; omega
      have hmu1 : (cutAt 44 rest).length - (i + 1) < (cutAt 44 rest).length - i := by omega
      have hpl := cutAt_piece (List.getElem_mem hlt)
      have hrc := readClaim_fn D (cutAt 44 rest)[i] (by omega)
      have hmem := List.getElem_mem hlt
      have hnx : ∀ c, readC D (cutAt 44 rest)[i] = some c → _ := fun c => reads_next (c := c) hlt hrd
      have hno := readP_piece hpt hd _ hmem
      have hll := reads_len hrd
      have hcl := cutAt_len 44 rest
      have f0 := far (show 0 < x.n by omega)
      have f1 := far hn
      generalize readC D (cutAt 44 rest)[i] = o at *
      cases o with
      | none =>
        rw [hno rfl]
        simp -dsimp [t28, t29, t30, t4, m1, hlt, hget, f1]
        refine call_ hrc (by simp -dsimp) ?_
        simp -dsimp [optC, optP, t2, m0, f0, f1]
      | some c =>
        have hn1 := hnx c rfl
        clear hnx hno
        rcases hrow with ⟨rfl, rfl⟩ | ⟨id, rfl, hid1, hid, hm⟩
        · simp -dsimp [t28, t29, t30, t4, m1, hlt, hget, f1]
          refine call_ hrc (by simp -dsimp) ?_
          simp -dsimp [optC, optP, t2, t4, t30, m0, m1, hmu, f0, f1, wi, hmu1, nes]
          refine st_out fun s' ht hm' hn' hu' => ?_
          have a0 := ht 0
          have a2 := ht 2
          have a4 := ht 4
          have a28 := ht 28
          have a29 := ht 29
          have a30 := ht 30
          simp -dsimp [t0, t2, t4, t28, t29, wi] at a0 a2 a4 a28 a29 a30 hm' hn' hu'
          clear ht
          refine ⟨i + 1, _, .loc (x.n + 1 + 1 + 1), a0, a2, by simp [hm', f0, nes, m0], a4, by simp [hm', f1, nes, m1], .inr ⟨_, rfl, by omega, by omega, ?_⟩, a28, a29, a30, by rw [hu', hmu], by omega, by omega, hn1, by simp⟩
          simp [hm', nes]
        · have f2 := far hid
          have g0 : ¬ id = 0 := by omega
          have g1 : ¬ id = 1 := by omega
          have b1 : (l.length + 1) * 32 ≤ 140737488355328 := by omega
          simp -dsimp [t28, t29, t30, t4, m1, hlt, hget, f1]
          refine call_ hrc (by simp -dsimp) ?_
          simp -dsimp [optC, optP, t2, t4, t30, m0, m1, hm, hmu, f0, f1, f2, b1, wi, hmu1, nes, g0, g1, Ne.symm g0, Ne.symm g1]
          refine st_out fun s' ht hm' hn' hu' => ?_
          have a0 := ht 0
          have a2 := ht 2
          have a4 := ht 4
          have a28 := ht 28
          have a29 := ht 29
          have a30 := ht 30
          simp -dsimp [t0, t2, t4, t28, t29, wi] at a0 a2 a4 a28 a29 a30 hm' hn' hu'
          clear ht
          refine ⟨i + 1, _, .loc (x.n + 1 + 1 + 1), a0, a2, by simp [hm', f0, nes, Ne.symm g0, Ne.symm g1, f0, m0], a4, by simp [hm', f1, nes, Ne.symm g1, f1, m1], .inr ⟨_, rfl, by omega, by omega, ?_⟩, a28, a29, a30, by rw [hu', hmu], by omega, by omega, hn1, by simp⟩
          simp [hm', nes]
    · rintro x ⟨i, l, row, t0, t2, m0, t4, m1, hrow, t28, t29, t30, hmu, hn, hi, hrd, hend⟩
      have hil := hend rfl
      have hll := reads_len hrd
      have hcl := cutAt_len 44 rest
      rw [hil, List.take_length] at hrd
      have he := readP_end hpt (.inr ⟨hd, hrd⟩)
      have hT := placeText_fn ⟨D, l⟩ (by simp only; omega)
      rw [he]
      clear he hpt
      generalize placeTx ⟨D, l⟩ = tx at *
      have f0 := far (show 0 < x.n by omega)
      have f1 := far hn
      rcases hrow with ⟨rfl, rfl⟩ | ⟨id, rfl, hid1, hid, hm⟩
      · by_cases hx : tx = a :: 32 :: rest
        · simp -dsimp [t4, m1, f1]
          refine call_ hT (by simp -dsimp) ?_
          simp -dsimp [t0, t2, t4, m0, m1, hx, optP]
        · simp -dsimp [t4, m1, f1]
          refine call_ hT (by simp -dsimp) ?_
          simp -dsimp [t0, t2, t4, m0, m1, hx, optP]
      · have f2 := far hid
        have g0 : ¬ id = 0 := by omega
        have g1 : ¬ id = 1 := by omega
        by_cases hx : tx = a :: 32 :: rest
        · simp -dsimp [t4, m1, f1]
          refine call_ hT (by simp -dsimp [hm]) ?_
          simp -dsimp [t0, t2, t4, m0, m1, hm, hx, optP, g0, g1, f0, f1, f2]
        · simp -dsimp [t4, m1, f1]
          refine call_ hT (by simp -dsimp [hm]) ?_
          simp -dsimp [t0, t2, t4, m0, m1, hm, hx, optP, g0, g1, f0, f1, f2]
end TL

/- Reading places: the reference. -/
set_option linter.unusedSimpArgs false
set_option linter.unusedVariables false
set_option maxRecDepth 100000
set_option maxHeartbeats 4000000
set_option pp.maxSteps 1500
namespace TL
open Go Go.Proofs
attribute [local simp] marksV storyV codeV Claim.v Place.v
/-! Cutting. -/
def Icut (c : UInt8) (w : List UInt8) (e : Nat) (s : S) : Prop := ∃ (i f id : Nat) (ps : List (List UInt8)), s.tm 0 = .v (.str w) ∧ s.tm 1 = .v (.int .u8 c.toNat) ∧ s.tm 5 = .loc id ∧ id < s.n ∧ s.m id = some (.arr 9 (ps.map V.str)) ∧
  s.tm 6 = .v (.int .i64 f) ∧ s.tm 7 = .v (.int .i64 i) ∧ s.mu = false ∧ f ≤ i ∧ i ≤ w.length ∧ ps.length ≤ i ∧ ps ++ cutGo c ((w.take i).drop f) (w.drop i) = cutAt c w ∧ (e = 1 → i = w.length)
theorem l1Cut_fn (w : List UInt8) (c : UInt8) (hl : w.length ≤ 2000000000) : FnZ Tryz.prog 84 [.str w, .int .u8 c.toNat] (.sl ((cutAt c w).map V.str)) := by
  refine FnZ_of (rs := [.tmp 4]) false Tryz.func84 rfl rfl rfl rfl (Nat.le_of_ble_eq_true rfl) ?_
  simp -dsimp
  refine twp_loopC (Icut c w 0) (fun s => w.length - natOf (s.tm 7)) (Icut c w 1) ?_ ?_ ?_
  · exact ⟨0, 0, 0, [], by simp -dsimp, by simp -dsimp, by simp -dsimp, by simp -dsimp, by simp -dsimp, by simp -dsimp, by simp -dsimp, by simp -dsimp, by omega, by omega, by simp, by simp [cutAt], by simp⟩
  · rintro s ⟨i, f, id, ps, t0, t1, t5, hid, hm, t6, t7, hmu, hf, hi, hps, hcut, hend⟩
    by_cases hlt : i < w.length
    case neg =>
      simp -dsimp [t0, t7, hlt]
      exact ⟨i, f, id, ps, by simp -dsimp [t0], by simp -dsimp [t1], by simp -dsimp [t5], by simp -dsimp [hid], by simp -dsimp [hm], by simp -dsimp [t6], by simp -dsimp [t7], by simp -dsimp [hmu], hf, hi, hps, hcut, fun _ => by omega⟩
    have hget : w[i]? = some w[i] := by simp [hlt]
    have wi : IntKind.wrap .i64 ((i : Int) + 1) = ((i + 1 : Nat) : Int) := by rw [w64 (by omega) (by omega)]; omega
    have hmu1 : w.length - (i + 1) < w.length - i := by omega
    have f1 := far hid
    have b1 : (ps.length + 1) * 16 ≤ 140737488355328 := by omega
    have b2 : (f : Int) ≤ i := by omega
    have b3 : (i : Int) ≤ w.length := by omega
    rw [List.drop_eq_getElem_cons hlt] at hcut
    by_cases hc : w[i] = c
    · have hn : (ps ++ [(w.take i).drop f]) ++ cutGo c ((w.take (i + 1)).drop (i + 1)) (w.drop (i + 1)) = cutAt c w := by
        rw [← hcut]
        have e1 : cutGo c ((w.take i).drop f) (w[i] :: w.drop (i + 1)) = (w.take i).drop f :: cutGo c [] (w.drop (i + 1)) := by
          show (if w[i] = c then _ else _) = _
          rw [if_pos hc]
        have e2 : (w.take (i + 1)).drop (i + 1) = [] := List.drop_eq_nil_of_le (by rw [List.length_take]; omega)
        rw [e1, e2]; simp
      have f0 : ¬ id = s.n + 1 := by omega
      simp -dsimp [t0, t1, t5, t6, t7, hlt, hget, hc, hf, hi, hm, hmu, b1, wi, hmu1, f1, nes]
      refine st_out fun s' ht hm' hn' hu' => ?_
      have a0 := ht 0
      have a1 := ht 1
      have a5 := ht 5
      have a6 := ht 6
      have a7 := ht 7
      simp -dsimp [t0, t1, t5, t7, wi, hc] at a0 a1 a5 a6 a7 hm' hn' hu'
      clear ht
      refine ⟨i + 1, i + 1, _, ps ++ [(w.take i).drop f], a0, a1, a5, by omega, ?_, a6, a7, by rw [hu', hmu], by omega, by omega, by simp; omega, hn, by simp⟩
      simp [hm', nes]
    · have hc' : ¬ (w[i].toNat : Int) = c.toNat := fun h => hc (UInt8.toNat.inj (by omega))
      have hn : ps ++ cutGo c ((w.take (i + 1)).drop f) (w.drop (i + 1)) = cutAt c w := by
        rw [← hcut]
        have e1 : cutGo c ((w.take i).drop f) (w[i] :: w.drop (i + 1)) = cutGo c ((w.take i).drop f ++ [w[i]]) (w.drop (i + 1)) := by
          show (if w[i] = c then _ else _) = _
          rw [if_neg hc]
        have e2 : (w.take (i + 1)).drop f = (w.take i).drop f ++ [w[i]] := by
          rw [List.take_succ_eq_append_getElem hlt, List.drop_append_of_le_length (by rw [List.length_take]; omega)]
        rw [e1, e2]
      simp -dsimp [t0, t1, t5, t6, t7, hlt, hget, hc, hc', wi, hmu1]
      exact ⟨i + 1, f, id, ps, by simp -dsimp [t0], by simp -dsimp [t1], by simp -dsimp [t5], by simp -dsimp [hid], by simp -dsimp [hm], by simp -dsimp [t6], by simp -dsimp, by simp -dsimp [hmu], by omega, by omega, by omega, hn, by simp⟩
  · rintro s ⟨i, f, id, ps, t0, t1, t5, hid, hm, t6, t7, hmu, hf, hi, hps, hcut, hend⟩
    have hil := hend rfl
    subst hil
    have f1 := far hid
    have b1 : (ps.length + 1) * 16 ≤ 140737488355328 := by omega
    have b2 : (f : Int) ≤ w.length := by omega
    rw [List.take_length, List.drop_length] at hcut
    have hcut : ps ++ [w.drop f] = cutAt c w := hcut
    rw [← hcut]
    simp -dsimp [t0, t5, t6, b1, b2, hm, hmu, f1, nes]
end TL

/- Numbers read: the reference. -/
set_option linter.unusedSimpArgs false
set_option linter.unusedVariables false
set_option maxRecDepth 100000
set_option maxHeartbeats 4000000
set_option pp.maxSteps 1500
namespace TL
open Go Go.Proofs
attribute [local simp] marksV storyV codeV Claim.v Place.v
/-! Numbers. -/
def digGo : Nat → List UInt8 → Int
  | acc, [] => acc
  | acc, c :: r => if c.toNat < 48 ∨ 57 < c.toNat then -1 else digGo (10 * acc + (c.toNat - 48)) r
def digS (s : List UInt8) : Int := if (1 ≤ s.length ∧ s.length ≤ 6) ∧ ¬ (1 < s.length ∧ s.head? = some 48) then digGo 0 s else -1
def Idig (w : List UInt8) (e : Nat) (s : S) : Prop := ∃ i acc : Nat, s.tm 0 = .v (.str w) ∧ s.tm 3 = .v (.int .i64 acc) ∧ s.tm 4 = .v (.int .i64 i) ∧ i ≤ w.length ∧ acc < 10 ^ i ∧ digGo acc (w.drop i) = digGo 0 w ∧ (e = 1 → i = w.length)
theorem l1Digits_fn (w : List UInt8) (hl : w.length ≤ 2000000000) : FnZ Tryz.prog 85 [.str w] (.int .i64 (digS w)) := by
  have hin := l1In_z w.length 1 6
  by_cases h1 : 1 ≤ w.length ∧ w.length ≤ 6
  case neg =>
    have e : digS w = -1 := by unfold digS; rw [if_neg fun h => h1 h.1]
    have e2 : (decide ((1 : Int) ≤ w.length) && decide ((w.length : Int) ≤ 6)) = false := by
      rw [Bool.and_eq_false_iff]; simp only [decide_eq_false_iff_not]; omega
    rw [e2] at hin
    rw [e]
    refine FnZ_of (rs := [.tmp 2]) false Tryz.func85 rfl rfl rfl rfl (Nat.le_of_ble_eq_true rfl) ?_
    simp -dsimp
    refine call_ hin (by simp -dsimp) ?_
    simp -dsimp
  have e2 : (decide ((1 : Int) ≤ w.length) && decide ((w.length : Int) ≤ 6)) = true := by
    rw [Bool.and_eq_true, decide_eq_true_eq, decide_eq_true_eq]; omega
  rw [e2] at hin
  by_cases h2 : 1 < w.length ∧ w.head? = some 48
  · have e : digS w = -1 := by unfold digS; rw [if_neg fun h => h.2 h2]
    match w, h2 with
    | c :: r, h2 =>
      have hc : c = 48 := by simpa using h2.2
      subst hc
      have l1 : (1 : Int) < (r.length : Int) + 1 := by have := h2.1; simp only [List.length_cons] at this; omega
      have l2 : 0 < r.length := by omega
      rw [e]
      refine FnZ_of (rs := [.tmp 2]) false Tryz.func85 rfl rfl rfl rfl (Nat.le_of_ble_eq_true rfl) ?_
      simp -dsimp
      refine call_ hin (by simp -dsimp) ?_
      simp -dsimp [l1, l2]
  have e : digS w = digGo 0 w := by unfold digS; rw [if_pos ⟨h1, h2⟩]
  rw [e]
  have h6 : w.length ≤ 6 := h1.2
  refine FnZ_of (rs := [.tmp 2]) false Tryz.func85 rfl rfl rfl rfl (Nat.le_of_ble_eq_true rfl) ?_
  simp -dsimp
  refine call_ hin (by simp -dsimp) ?_
  by_cases hl1 : 1 < w.length
  case' pos =>
    have l1 : (1 : Int) < w.length := by omega
    have l0 : 0 < w.length := by omega
    have hc : ¬ w[0] = 48 := fun h => h2 ⟨hl1, by rw [List.head?_eq_getElem?, List.getElem?_eq_getElem l0, h]⟩
    have hc2 : ¬ (w[0].toNat : Int) = 48 := fun h => hc (UInt8.toNat.inj (by show w[0].toNat = 48; omega))
    simp -dsimp [l1, l0, hc2, hl1]
  case' neg =>
    have l1 : ¬ (1 : Int) < w.length := by omega
    simp -dsimp [l1, hl1]
  all_goals
      clear l1 h1 h2 hin hl hl1 e e2
      refine twp_loopC (Idig w 0) (fun s => w.length - natOf (s.tm 4)) (Idig w 1) ?_ ?_ ?_
      · exact ⟨0, 0, by simp -dsimp, by simp -dsimp, by simp -dsimp, by omega, by simp, by simp, by simp⟩
      · rintro s ⟨i, acc, t0, t3, t4, hi, hac, hd, hend⟩
        by_cases hlt : i < w.length
        case neg =>
          simp -dsimp [t0, t4, hlt]
          exact ⟨i, acc, by simp -dsimp [t0], by simp -dsimp [t3], by simp -dsimp [t4], hi, hac, hd, fun _ => by omega⟩
        have hget : w[i]? = some w[i] := by simp [hlt]
        have wi : IntKind.wrap .i64 ((i : Int) + 1) = ((i + 1 : Nat) : Int) := by rw [w64 (by omega) (by omega)]; omega
        have hmu1 : w.length - (i + 1) < w.length - i := by omega
        have hp : 10 ^ i ≤ 10 ^ 6 := Nat.pow_le_pow_right (by omega) (by omega)
        have hp6 : (10 : Nat) ^ 6 = 1000000 := rfl
        have hps : 10 ^ (i + 1) = 10 * 10 ^ i := by rw [Nat.pow_succ]; omega
        have hb := UInt8.toNat_lt w[i]
        rw [List.drop_eq_getElem_cons hlt] at hd
        have hd : (if w[i].toNat < 48 ∨ 57 < w[i].toNat then -1 else digGo (10 * acc + (w[i].toNat - 48)) (w.drop (i + 1))) = digGo 0 w := hd
        by_cases hlo : w[i].toNat < 48
        · have hlo' : (w[i].toNat : Int) < 48 := by omega
          rw [if_pos (.inl hlo)] at hd
          rw [← hd]
          simp -dsimp [t0, t4, hlt, hget, hlo, hlo']
        by_cases hhi : 57 < w[i].toNat
        · have hlo' : ¬ (w[i].toNat : Int) < 48 := by omega
          have hhi' : (57 : Int) < (w[i].toNat : Int) := by omega
          rw [if_pos (.inr hhi)] at hd
          rw [← hd]
          simp -dsimp [t0, t4, hlt, hget, hlo, hlo', hhi, hhi']
        · have hlo' : ¬ (w[i].toNat : Int) < 48 := by omega
          have hhi' : ¬ (57 : Int) < (w[i].toNat : Int) := by omega
          rw [if_neg (by omega)] at hd
          have w1 : IntKind.wrap .i64 (10 * (acc : Int)) = 10 * (acc : Int) := w64 (by omega) (by omega)
          have w2 : IntKind.wrap .u8 ((w[i].toNat : Int) - 48) = (w[i].toNat : Int) - 48 := by rw [IntKind.wrap_u8]; omega
          have w3 : IntKind.wrap .i64 ((w[i].toNat : Int) - 48) = (w[i].toNat : Int) - 48 := w64 (by omega) (by omega)
          have w4 : IntKind.wrap .i64 (10 * (acc : Int) + ((w[i].toNat : Int) - 48)) = ((10 * acc + (w[i].toNat - 48) : Nat) : Int) := by rw [w64 (by omega) (by omega)]; omega
          simp -dsimp [t0, t3, t4, hlt, hget, hlo, hlo', hhi, hhi', w1, w2, w3, w4, wi, hmu1]
          exact ⟨i + 1, 10 * acc + (w[i].toNat - 48), by simp -dsimp [t0], by simp -dsimp, by simp -dsimp, by omega, by omega, hd, by simp⟩
      · rintro s ⟨i, acc, t0, t3, t4, hi, hac, hd, hend⟩
        have hil := hend rfl
        rw [hil, List.drop_length] at hd
        rw [← hd]
        simp -dsimp [t3, digGo]
end TL

/- Deeds read: the plain part. -/
set_option linter.unusedSimpArgs false
set_option linter.unusedVariables false
set_option maxRecDepth 100000
namespace TL
open Go Go.Proofs
/-! Small numbers in figures. -/
open Go.Lib in
def atoiV (s : List UInt8) : Int := match atoiAll s with
  | .ok v => v
  | .range => atoiSat s
  | _ => 0
def goodDec (n : Nat) (l : List UInt8) : Bool := decide (digS l = (n : Int)) && decide (Go.Lib.atoiAll l = .ok (n : Int)) && l.all fun y => decide (y ≠ 32) && decide (y ≠ 10)
theorem good_one : ∀ n : Fin 10, goodDec n.val [UInt8.ofNat (48 + n.val)] = true := by decide +kernel
theorem good_two : ∀ n : Fin 100, ¬ n.val < 10 → goodDec n.val [UInt8.ofNat (48 + n.val / 10), UInt8.ofNat (48 + n.val % 10)] = true := by decide +kernel
theorem good_dec {n : Int} (h0 : 0 ≤ n) (h : n ≤ 99) : digS (dec n) = n ∧ Go.Lib.atoiAll (dec n) = .ok n ∧ ∀ y ∈ dec n, y ≠ 32 ∧ y ≠ 10 := by
  have e : ((n.toNat : Nat) : Int) = n := by omega
  have hg : goodDec n.toNat (dec n) = true := by
    unfold dec
    by_cases h1 : n.toNat < 10
    · rw [Go.Lib.decDigits_one h1]; exact good_one ⟨n.toNat, h1⟩
    · rw [Go.Lib.decDigits_two h1 (by omega)]; exact good_two ⟨n.toNat, by omega⟩ h1
  simp only [goodDec, Bool.and_eq_true, decide_eq_true_eq, List.all_eq_true, e] at hg
  exact ⟨hg.1.1, hg.1.2, hg.2⟩
theorem atoiV_dec {n : Int} (h0 : 0 ≤ n) (h : n ≤ 99) : atoiV (dec n) = n := by
  unfold atoiV; rw [(good_dec h0 h).2.1]
theorem dec_inj {a b : Int} (ha : 0 ≤ a) (ha9 : a ≤ 99) (hb : 0 ≤ b) (hb9 : b ≤ 99) (h : dec a = dec b) : a = b := by
  rw [← atoiV_dec ha ha9, ← atoiV_dec hb hb9, h]
/-! What deeds have a text. -/
theorem deed_cases {a : Deed} (h : deedTx a ≠ []) :
    (∃ w, a = ⟨0, 0, w⟩ ∧ (∃ c, readC 4 w = some c) ∧ deedTx a = txSay ++ w) ∨ (∃ n, 0 ≤ n ∧ n ≤ 99 ∧ a = ⟨1, n, []⟩ ∧ deedTx a = txDrop ++ dec n) ∨ (∃ n, 0 ≤ n ∧ n ≤ 99 ∧ a = ⟨2, n, []⟩ ∧ deedTx a = txPeople ++ dec n) ∨
    (a = ⟨3, 0, []⟩ ∧ deedTx a = txLeast) ∨ (a = ⟨4, 0, []⟩ ∧ deedTx a = txBack) := by
  obtain ⟨k, n, w⟩ := a
  unfold deedTx at h ⊢
  simp only at h ⊢
  split at h
  · rename_i h1
    obtain ⟨rfl, rfl, h3⟩ := h1
    refine .inl ⟨w, rfl, ?_, by rw [if_pos ⟨rfl, rfl, h3⟩]⟩
    cases e : readC 4 w with
    | none => rw [e] at h3; cases h3
    | some c => exact ⟨c, rfl⟩
  rename_i h1
  rw [if_neg h1]
  split at h
  · exact absurd rfl h
  rename_i h2
  rw [if_neg h2]
  have hw : w = [] := by
    cases w with
    | nil => rfl
    | cons x w => exact absurd (.inl (by simp)) h2
  have h0 : 0 ≤ n := by
    rcases Int.lt_or_le n 0 with h | h
    · exact absurd (.inr (.inl h)) h2
    · exact h
  have h9 : n ≤ 99 := by
    rcases Int.lt_or_le 99 n with h | h
    · exact absurd (.inr (.inr h)) h2
    · exact h
  subst hw
  split at h
  · rename_i h3; subst h3; exact .inr (.inl ⟨n, h0, h9, rfl, if_pos rfl⟩)
  rename_i h3
  split at h
  · rename_i h4; subst h4; exact .inr (.inr (.inl ⟨n, h0, h9, rfl, by rw [if_neg h3, if_pos rfl]⟩))
  rename_i h4
  split at h
  · rename_i h5; obtain ⟨rfl, rfl⟩ := h5; exact .inr (.inr (.inr (.inl ⟨rfl, by rw [if_neg h3, if_neg h4, if_pos ⟨rfl, rfl⟩]⟩)))
  rename_i h5
  split at h
  · rename_i h6; obtain ⟨rfl, rfl⟩ := h6; exact .inr (.inr (.inr (.inr ⟨rfl, by rw [if_neg h3, if_neg h4, if_neg h5, if_pos ⟨rfl, rfl⟩]⟩)))
  · exact absurd rfl h
theorem readC_clean {people : Int} {w : List UInt8} {c : Claim} (h : readC people w = some c) : ∀ y ∈ w, y ≠ 32 ∧ y ≠ 10 := by
  obtain ⟨h1, h2⟩ := readC_is h
  intro y hy
  rw [← h2] at hy
  have := claimTx_clean h1 y hy
  exact ⟨this.2.1, this.2.2.1⟩
/-! A text's first word, and what stands behind it. -/
theorem cut_clean {c : UInt8} {s : List UInt8} (h : ∀ y ∈ s, y ≠ c) : Go.Lib.cut s [c] = (s, [], false) := by
  unfold Go.Lib.cut; rw [index_clean h]; rfl
theorem cut_at {c : UInt8} {x r : List UInt8} (h : ∀ y ∈ x, y ≠ c) : Go.Lib.cut (x ++ c :: r) [c] = (x, r, true) := by
  unfold Go.Lib.cut
  rw [index_at h, if_pos (by omega)]
  have e1 : ((x.length : Nat) : Int).toNat = x.length := by omega
  rw [e1, List.take_left]
  congr 2
  rw [List.drop_append, List.drop_of_length_le (by simp)]; simp
def deedW (w r : List UInt8) : Option Deed :=
  if w = [115, 97, 121] then some ⟨0, 0, r⟩ else if w = [100, 114, 111, 112] then some ⟨1, atoiV r, []⟩ else if w = [112, 101, 111, 112, 108, 101] then some ⟨2, atoiV r, []⟩
  else if w = [108, 101, 97, 115, 116] then some ⟨3, 0, []⟩ else if w = [98, 97, 99, 107] then some ⟨4, 0, []⟩ else none
def deedI (s : List UInt8) : Option Deed := deedW (Go.Lib.cut s [32]).1 (Go.Lib.cut s [32]).2.1
theorem deedI_of {a : Deed} (h : deedTx a ≠ []) : deedI (deedTx a) = some a := by
  unfold deedI
  rcases deed_cases h with ⟨w, rfl, ⟨c, hc⟩, e⟩ | ⟨n, h0, h9, rfl, e⟩ | ⟨n, h0, h9, rfl, e⟩ | ⟨rfl, e⟩ | ⟨rfl, e⟩
  · have := cut_at (c := 32) (x := [115, 97, 121]) (r := w) (by decide)
    rw [e]
    show deedW (Go.Lib.cut ([115, 97, 121] ++ 32 :: w) [32]).1 _ = _
    have e2 : txSay ++ w = [115, 97, 121] ++ 32 :: w := rfl
    rw [e2, this]; rfl
  · have := cut_at (c := 32) (x := [100, 114, 111, 112]) (r := dec n) (by decide)
    have e2 : txDrop ++ dec n = [100, 114, 111, 112] ++ 32 :: dec n := rfl
    rw [e, e2, this]
    show some (⟨1, atoiV (dec n), []⟩ : Deed) = _
    rw [atoiV_dec h0 h9]
  · have := cut_at (c := 32) (x := [112, 101, 111, 112, 108, 101]) (r := dec n) (by decide)
    have e2 : txPeople ++ dec n = [112, 101, 111, 112, 108, 101] ++ 32 :: dec n := rfl
    rw [e, e2, this]
    show some (⟨2, atoiV (dec n), []⟩ : Deed) = _
    rw [atoiV_dec h0 h9]
  · rw [e, cut_clean (by decide)]; rfl
  · rw [e, cut_clean (by decide)]; rfl
theorem deedTx_inj {a b : Deed} (h : deedTx a ≠ []) (e : deedTx a = deedTx b) : a = b := by
  have h1 := deedI_of h
  rw [e, deedI_of (by rw [← e]; exact h)] at h1
  exact (Option.some.inj h1).symm
/-- What ReadDeed finds. -/
noncomputable def readD (s : List UInt8) : Option Deed := by
  classical exact if h : ∃ a, s ≠ [] ∧ deedTx a = s then some (Classical.choose h) else none
theorem readD_some {s : List UInt8} {a : Deed} (h : s ≠ []) (e : deedTx a = s) : readD s = some a := by
  have hx : ∃ a, s ≠ [] ∧ deedTx a = s := ⟨a, h, e⟩
  unfold readD; rw [dif_pos hx]
  have := Classical.choose_spec hx
  exact congrArg some (deedTx_inj (by rw [this.2]; exact h) (by rw [this.2, e]))
theorem readD_is {s : List UInt8} {a : Deed} (h : readD s = some a) : s ≠ [] ∧ deedTx a = s := by
  unfold readD at h
  split at h
  · rename_i hx; cases h; exact Classical.choose_spec hx
  · cases h
theorem readD_none {s : List UInt8} (h : ∀ a, s ≠ [] → deedTx a ≠ s) : readD s = none := by
  unfold readD; rw [dif_neg]; rintro ⟨a, h1, h2⟩; exact h a h1 h2
theorem readD_off {s : List UInt8} (h : deedI s = none) : readD s = none := readD_none fun a h1 h2 => by
  have := deedI_of (a := a) (by rw [h2]; exact h1)
  rw [h2, h] at this; cases this
theorem readD_on {s : List UInt8} {a : Deed} (h : deedI s = some a) (hs : s ≠ []) : readD s = if deedTx a = s then some a else none := by
  split
  · rename_i h1; exact readD_some hs h1
  · rename_i h1
    refine readD_none fun b h2 h3 => h1 ?_
    have := deedI_of (a := b) (by rw [h3]; exact h2)
    rw [h3, h] at this
    rw [Option.some.inj this]; exact h3
/-! The reference's candidates. -/
def deedS (s : List UInt8) : List Deed := [⟨3, 0, []⟩, ⟨4, 0, []⟩] ++ match cutAt 32 s with
  | [_, r] => [⟨0, 0, r⟩, ⟨1, digS r, []⟩, ⟨2, digS r, []⟩]
  | _ => []
theorem cut_word {x r : List UInt8} (hx : ∀ y ∈ x, y ≠ (32 : UInt8)) (hr : ∀ y ∈ r, y ≠ (32 : UInt8)) : cutAt 32 (x ++ 32 :: r) = [x, r] := by
  rw [cutAt_app hx, cutAt_none hr]
theorem deedS_of {a : Deed} (h : deedTx a ≠ []) : a ∈ deedS (deedTx a) := by
  unfold deedS
  rcases deed_cases h with ⟨w, rfl, ⟨c, hc⟩, e⟩ | ⟨n, h0, h9, rfl, e⟩ | ⟨n, h0, h9, rfl, e⟩ | ⟨rfl, e⟩ | ⟨rfl, e⟩
  · have e2 : txSay ++ w = [115, 97, 121] ++ 32 :: w := rfl
    rw [e, e2, cut_word (by decide) fun y hy => (readC_clean hc y hy).1]; simp
  · have e2 : txDrop ++ dec n = [100, 114, 111, 112] ++ 32 :: dec n := rfl
    rw [e, e2, cut_word (by decide) fun y hy => ((good_dec h0 h9).2.2 y hy).1]; simp [(good_dec h0 h9).1]
  · have e2 : txPeople ++ dec n = [112, 101, 111, 112, 108, 101] ++ 32 :: dec n := rfl
    rw [e, e2, cut_word (by decide) fun y hy => ((good_dec h0 h9).2.2 y hy).1]; simp [(good_dec h0 h9).1]
  · simp
  · simp
theorem readD_none' {s : List UInt8} (h : ∀ a ∈ deedS s, s ≠ [] → deedTx a ≠ s) : readD s = none := readD_none fun a h1 h2 => by
  have := deedS_of (a := a) (by rw [h2]; exact h1)
  rw [h2] at this
  exact h a this h1 h2
theorem cutR_len (s : List UInt8) (c : List UInt8) : (Go.Lib.cut s c).2.1.length ≤ s.length := by
  unfold Go.Lib.cut
  split
  · simp
  · simp
theorem cutW_nil {s : List UInt8} (h : (Go.Lib.cut s [32]).1 ≠ []) : s ≠ [] := fun e => by
  rw [e, cut_clean (by simp)] at h; exact h rfl
end TL

/- Measures; the exact law of PlaceOk. -/
set_option linter.unusedSimpArgs false
set_option linter.unusedVariables false
set_option maxRecDepth 100000
set_option maxHeartbeats 4000000
set_option pp.maxSteps 1500
namespace TL
open Go Go.Proofs
attribute [local simp] marksV storyV codeV Claim.v Place.v
def mid (n : Nat) : Prop := n ≤ 9223372036854775807
def Claim.mid (c : Claim) : Prop := TL.mid c.says.length
def Place.mid (p : Place) : Prop := TL.mid p.story.length ∧ ∀ c ∈ p.story, c.mid
def saysSum (l : List Claim) : Nat := (l.map fun c => c.says.length).sum
theorem saysSum_take {l : List Claim} {i : Nat} (h : i < l.length) : saysSum (l.take (i + 1)) = saysSum (l.take i) + l[i].says.length := by
  unfold saysSum; rw [List.take_succ_eq_append_getElem h, List.map_append, List.sum_append]; rfl
theorem saysSum_le (l : List Claim) (i : Nat) : saysSum (l.take i) ≤ saysSum l := by
  have e : saysSum l = saysSum (l.take i ++ l.drop i) := by rw [List.take_append_drop]
  rw [e]; unfold saysSum; rw [List.map_append, List.sum_append]; omega
def SZC (l : List Claim) (left : Int) (e : Nat) (s : S) : Prop := ∃ i : Nat, s.tm 0 = .v (.sl (l.map Claim.v)) ∧ s.tm 1 = .v (.int .i64 (left - l.length - saysSum (l.take i))) ∧ s.tm 5 = .v (.int .i64 i) ∧ i ≤ l.length ∧ 0 ≤ left - l.length - saysSum (l.take i) ∧ (e = 1 → i = l.length)
def Place.bulk (p : Place) : Nat := p.story.length + saysSum p.story
theorem saysSum_mem {l : List Claim} {c : Claim} (h : c ∈ l) : c.says.length ≤ saysSum l := by
  induction l with
  | nil => cases h
  | cons y ys ih =>
    rcases List.mem_cons.1 h with rfl | h
    · simp [saysSum]
    · have := ih h; simp only [saysSum, List.map_cons, List.sum_cons] at this ⊢; omega
theorem Place.small_of {p : Place} (h : ¬ (1048576 : Int) - p.bulk < 0) : p.small := by
  unfold Place.bulk at h
  exact ⟨by omega, fun c hc => by have := saysSum_mem hc; unfold Claim.small; omega⟩
end TL

/- What the arguments of the exact laws are. -/
set_option linter.unusedVariables false
set_option linter.unusedSimpArgs false
namespace TL
open Go Go.Proofs
theorem fit_wf {n : Int} (h : (Lit.int .i64 n).wf = true) : fit n := by
  simp [Lit.wf, IntKind.min, IntKind.max, IntKind.signed, IntKind.bits] at h
  unfold fit; omega
theorem opens_int' (w : World) : Opens Tryz.prog w 3 fun vs => ∃ n : Int, fit n ∧ vs = [.int .i64 n] :=
  (opens_int Tryz.underlying3).mono fun vs h => by obtain ⟨n, rfl, hw⟩ := h; exact ⟨n, fit_wf hw, rfl⟩
theorem opens_code (w : World) : Opens Tryz.prog w 38 fun vs => ∃ bs : List UInt8, vs = [codeV bs] :=
  (opens_slice (α := UInt8) (v := fun b => V.int .u8 b.toNat) (Q := fun _ => True) Tryz.underlying38 (z := 1) (by kernel_rfl) (by omega) ((opens_int Tryz.underlying5).mono fun vs h => by
    obtain ⟨n, rfl, hw⟩ := h
    refine ⟨UInt8.ofNat n.toNat, trivial, .inr ⟨rfl, ?_⟩⟩
    have e : ((UInt8.ofNat n.toNat).toNat : Int) = n := by
      simp [Lit.wf, IntKind.min, IntKind.max, IntKind.signed, IntKind.bits] at hw
      rw [UInt8.toNat_ofNat']; omega
    rw [e])).mono fun vs h => by obtain ⟨l, rfl, _, _⟩ := h; exact ⟨l, rfl⟩
end TL

/- The exact law of the texts of deeds. -/
set_option linter.unusedSimpArgs false
set_option linter.unusedVariables false
set_option maxRecDepth 100000
set_option maxHeartbeats 4000000
set_option pp.maxSteps 1500
namespace TL
open Go Go.Proofs
attribute [local simp] marksV storyV codeV Claim.v Place.v Deed.v
def Deed.fit (a : Deed) : Prop := TL.fit a.kind ∧ TL.fit a.num ∧ a.words.length ≤ 9223372036854775807
theorem szDeed_fn (a : Deed) (left : Int) (h0 : 0 ≤ left) (h1 : left ≤ 1048576) (hl : a.words.length ≤ 9223372036854775807) : FnZ Tryz.prog 17 [a.v, .int .i64 left] (.int .i64 (szR left a.words.length)) := by
  obtain ⟨kind, num, words⟩ := a
  simp only at hl
  have w1 : IntKind.wrap .i64 (left - words.length) = left - words.length := w64 (by omega) (by omega)
  unfold szR
  refine FnZ_of (rs := [.tmp 4]) false Tryz.func17 rfl rfl rfl rfl (Nat.le_of_ble_eq_true rfl) ?_
  by_cases h : left - words.length < 0
  · simp -dsimp [w1, h]
  · simp -dsimp [w1, h]
theorem toDeed_fn (a : Deed) : FnZ Tryz.prog 19 [a.v] a.v := by
  refine FnZ_of (rs := [.cell 2 35]) false Tryz.func19 rfl rfl rfl rfl (Nat.le_of_ble_eq_true rfl) ?_
  simp -dsimp
theorem opens_deed (w : World) : Opens Tryz.prog w 32 fun vs => ∃ a : Deed, a.fit ∧ a.v = .agg vs :=
  (opens_struct3 Tryz.underlying32 rfl (by kernel_rfl) (by kernel_rfl) (by kernel_rfl) (opens_int Tryz.underlying3) (opens_int Tryz.underlying3) (opens_string Tryz.underlying9)).mono fun vs h => by
    obtain ⟨v0, v1, v2, rfl, ⟨n0, rfl, w0⟩, ⟨n1, rfl, w1⟩, ⟨s, rfl, hl⟩⟩ := h
    exact ⟨⟨n0, n1, s⟩, ⟨fit_wf w0, fit_wf w1, by simpa [maxLen] using hl⟩, rfl⟩
end TL

/- Journals. -/
set_option linter.unusedSimpArgs false
set_option linter.unusedVariables false
set_option maxRecDepth 100000
set_option maxHeartbeats 4000000
set_option pp.maxSteps 1500
namespace TL
open Go Go.Proofs
attribute [local simp] marksV storyV codeV Claim.v Place.v Deed.v
def jr (l : List Deed) (f : Deed → List UInt8) : List UInt8 := (l.map fun a => f a ++ [10]).flatten
noncomputable def journalTx (l : List Deed) : List UInt8 := by
  classical exact if ∃ a ∈ l, deedTx a = [] then [] else jr l deedTx
theorem jr_take {l : List Deed} {f : Deed → List UInt8} {i : Nat} (h : i < l.length) : jr (l.take (i + 1)) f = jr (l.take i) f ++ f l[i] ++ [10] := by
  unfold jr; rw [List.take_succ_eq_append_getElem h, List.map_append, List.flatten_append]; simp
theorem jr_len (l : List Deed) : (jr l deedTx).length ≤ 41 * l.length := by
  induction l with
  | nil => simp [jr]
  | cons a l ih =>
    have := deedTx_len a
    simp only [jr, List.map_cons, List.flatten_cons, List.length_append, List.length_cons, List.length_nil] at ih ⊢; omega
theorem journalTx_none {l : List Deed} {a : Deed} (h : a ∈ l) (h0 : deedTx a = []) : journalTx l = [] := by
  unfold journalTx; exact if_pos ⟨a, h, h0⟩
theorem journalTx_all {l : List Deed} (h : ∀ a ∈ l, deedTx a ≠ []) : journalTx l = jr l deedTx := by
  unfold journalTx; exact if_neg fun ⟨a, ha, h0⟩ => h a ha h0
def Ijt (l : List Deed) (e : Nat) (s : S) : Prop := ∃ i : Nat, s.tm 7 = .v (.sl (l.map Deed.v)) ∧ s.tm 8 = .v (.int .i64 l.length) ∧ s.tm 9 = .v (.int .i64 i) ∧ s.tm 3 = .v (.str (jr (l.take i) deedTx)) ∧ i ≤ l.length ∧ (∀ a ∈ l.take i, deedTx a ≠ []) ∧ (e = 1 → i = l.length)
theorem take_next {l : List Deed} {i : Nat} (h : i < l.length) (ha : ∀ a ∈ l.take i, deedTx a ≠ []) (h0 : deedTx l[i] ≠ []) : ∀ a ∈ l.take (i + 1), deedTx a ≠ [] := fun a hx => by
  rw [List.take_succ_eq_append_getElem h] at hx
  rcases List.mem_append.1 hx with hx | hx
  · exact ha a hx
  · cases List.mem_singleton.1 hx; exact h0
def Isjt (l : List Deed) (e : Nat) (s : S) : Prop := ∃ i : Nat, s.tm 0 = .v (.sl (l.map Deed.v)) ∧ s.tm 4 = .v (.int .i64 i) ∧ s.tm 3 = .v (.str (jr (l.take i) deedTx)) ∧ i ≤ l.length ∧ (∀ a ∈ l.take i, deedTx a ≠ []) ∧ (e = 1 → i = l.length)
/-! Rows of deeds. -/
theorem elemOk_deed : ElemOk Deed.v 3 := fun a => ⟨rfl, by simp, by simp⟩
theorem cellsT_deed (a : Deed) : cellsT a.v = [.v (.int .i64 a.kind), .v (.int .i64 a.num), .v (.str a.words)] := rfl
def ItoDeedS (l : List Deed) (a : Nat) (s : S) : Prop := ∃ i : Nat, s.tm 0 = .v (.sl (l.map Deed.v)) ∧ s.tm 3 = .sv 0 0 l.length ∧ s.tm 4 = .v (.int .i64 i) ∧ i ≤ l.length ∧ s.m 0 = some (.box 35 3 (filled Deed.v [T.v (.int .i64 0), T.v (.int .i64 0), T.v (.str [])] l i).flatten) ∧ (a = 1 → i = l.length)
def IeqDeedS (a b : List Deed) (e : Nat) (s : S) : Prop := ∃ i : Nat, s.tm 0 = .v (.sl (a.map Deed.v)) ∧ s.tm 1 = .v (.sl (b.map Deed.v)) ∧ s.tm 5 = .v (.int .i64 i) ∧ i ≤ a.length ∧ a.take i = b.take i ∧ (e = 1 → i = a.length)
def wordsSum (l : List Deed) : Nat := (l.map fun c => c.words.length).sum
theorem wordsSum_take {l : List Deed} {i : Nat} (h : i < l.length) : wordsSum (l.take (i + 1)) = wordsSum (l.take i) + l[i].words.length := by
  unfold wordsSum; rw [List.take_succ_eq_append_getElem h, List.map_append, List.sum_append]; rfl
theorem wordsSum_le (l : List Deed) (i : Nat) : wordsSum (l.take i) ≤ wordsSum l := by
  have e : wordsSum l = wordsSum (l.take i ++ l.drop i) := by rw [List.take_append_drop]
  rw [e]; unfold wordsSum; rw [List.map_append, List.sum_append]; omega
theorem wordsSum_mem {l : List Deed} {c : Deed} (h : c ∈ l) : c.words.length ≤ wordsSum l := by
  induction l with
  | nil => cases h
  | cons y ys ih =>
    rcases List.mem_cons.1 h with rfl | h
    · simp [wordsSum]
    · have := ih h; simp only [wordsSum, List.map_cons, List.sum_cons] at this ⊢; omega
def SZD (l : List Deed) (left : Int) (e : Nat) (s : S) : Prop := ∃ i : Nat, s.tm 0 = .v (.sl (l.map Deed.v)) ∧ s.tm 1 = .v (.int .i64 (left - l.length - wordsSum (l.take i))) ∧ s.tm 5 = .v (.int .i64 i) ∧ i ≤ l.length ∧ 0 ≤ left - l.length - wordsSum (l.take i) ∧ (e = 1 → i = l.length)
end TL

/- What is read of a journal, in plain words. -/
set_option linter.unusedSimpArgs false
set_option linter.unusedVariables false
set_option maxRecDepth 100000
set_option maxHeartbeats 4000000
set_option pp.maxSteps 1500
namespace TL
open Go Go.Proofs
theorem cut_found {s : List UInt8} {c : UInt8} (h : (Go.Lib.cut s [c]).2.2 = true) : s = (Go.Lib.cut s [c]).1 ++ c :: (Go.Lib.cut s [c]).2.1 ∧ ∀ y ∈ (Go.Lib.cut s [c]).1, y ≠ c := by
  rcases cut_first c s with h1 | ⟨x, r, rfl, h1⟩
  · rw [cut_clean h1] at h; cases h
  · rw [cut_at h1]; exact ⟨rfl, h1⟩
/-- What ReadJournal reads, and how far. -/
noncomputable def readJF : Nat → List UInt8 → List Deed × Nat
  | 0, _ => ([], 0)
  | f + 1, s => if (Go.Lib.cut s [10]).2.2 = true then match readD (Go.Lib.cut s [10]).1 with
    | some a => (a :: (readJF f (Go.Lib.cut s [10]).2.1).1, (Go.Lib.cut s [10]).1.length + 1 + (readJF f (Go.Lib.cut s [10]).2.1).2)
    | none => ([], 0) else ([], 0)
noncomputable def readJ (s : List UInt8) : List Deed × Nat := readJF (s.length + 1) s
theorem readJF_step {f : Nat} {s : List UInt8} {a : Deed} (h : (Go.Lib.cut s [10]).2.2 = true) (ha : readD (Go.Lib.cut s [10]).1 = some a) :
    readJF (f + 1) s = (a :: (readJF f (Go.Lib.cut s [10]).2.1).1, (Go.Lib.cut s [10]).1.length + 1 + (readJF f (Go.Lib.cut s [10]).2.1).2) := by
  show (if _ then _ else _) = _
  rw [if_pos h, ha]
theorem readJF_stop {f : Nat} {s : List UInt8} (h : (Go.Lib.cut s [10]).2.2 = false ∨ readD (Go.Lib.cut s [10]).1 = none) : readJF (f + 1) s = ([], 0) := by
  show (if _ then _ else _) = _
  rcases h with h | h
  · rw [if_neg (by simp [h])]
  · rw [h]; split <;> rfl
theorem readJF_jr : ∀ (l : List Deed) (f : Nat), l.length < f → (∀ a ∈ l, deedTx a ≠ []) → readJF f (jr l deedTx) = (l, (jr l deedTx).length)
  | [], f + 1, _, _ => by
    have e : jr ([] : List Deed) deedTx = [] := rfl
    rw [e, readJF_stop (.inl (by rw [cut_clean (by simp)]))]; rfl
  | a :: l, f + 1, hf, h => by
    have h1 := h a (List.mem_cons_self ..)
    have e : jr (a :: l) deedTx = deedTx a ++ 10 :: jr l deedTx := by simp [jr]
    have hc : ∀ y ∈ deedTx a, y ≠ 10 := by
      rcases deed_cases h1 with ⟨w, rfl, ⟨d, hd⟩, e⟩ | ⟨n, h0, h9, rfl, e⟩ | ⟨n, h0, h9, rfl, e⟩ | ⟨rfl, e⟩ | ⟨rfl, e⟩ <;> rw [e]
      · intro y hy
        rcases List.mem_append.1 hy with hy | hy
        · have h10 : ∀ y ∈ txSay, y ≠ (10 : UInt8) := by decide
          exact h10 y hy
        · exact (readC_clean hd y hy).2
      · intro y hy
        rcases List.mem_append.1 hy with hy | hy
        · have h10 : ∀ y ∈ txDrop, y ≠ (10 : UInt8) := by decide
          exact h10 y hy
        · exact ((good_dec h0 h9).2.2 y hy).2
      · intro y hy
        rcases List.mem_append.1 hy with hy | hy
        · have h10 : ∀ y ∈ txPeople, y ≠ (10 : UInt8) := by decide
          exact h10 y hy
        · exact ((good_dec h0 h9).2.2 y hy).2
      · decide
      · decide
    have ih := readJF_jr l f (by simp at hf; omega) fun b hb => h b (List.mem_cons_of_mem _ hb)
    have hcut := cut_at (r := jr l deedTx) hc
    rw [e, readJF_step (a := a) (by rw [hcut]) (by rw [hcut]; exact readD_some h1 rfl), hcut]
    simp only
    rw [ih]
    simp only [List.length_append, List.length_cons]
    congr 1; omega
theorem jr_long : ∀ (l : List Deed), l.length ≤ (jr l deedTx).length
  | [] => by simp
  | a :: l => by
    have := jr_long l
    have e : jr (a :: l) deedTx = deedTx a ++ 10 :: jr l deedTx := by simp [jr]
    rw [e]; simp only [List.length_append, List.length_cons]; omega
theorem readJ_jr {l : List Deed} (h : ∀ a ∈ l, deedTx a ≠ []) : readJ (jr l deedTx) = (l, (jr l deedTx).length) := readJF_jr l _ (by have := jr_long l; omega) h
end TL

/- Places read: the reference. -/
set_option linter.unusedSimpArgs false
set_option linter.unusedVariables false
set_option maxRecDepth 100000
set_option maxHeartbeats 4000000
set_option pp.maxSteps 1500
namespace TL
open Go Go.Proofs
attribute [local simp] marksV storyV codeV Claim.v Place.v
/-! Places. -/
theorem cut32_text {p : Place} (h : placeOk p = true) : cutAt 32 (placeTx p) = [[UInt8.ofNat (48 + p.people.toNat)], restTx p] := by
  obtain ⟨h1, h2, _, _⟩ := placeOk_all h
  rw [placeTx_shape h]
  have hd : ∀ y ∈ [UInt8.ofNat (48 + p.people.toNat)], y ≠ 32 := fun y hy => by
    rw [List.mem_singleton.1 hy]
    rcases (by omega : p.people = 1 ∨ p.people = 2 ∨ p.people = 3 ∨ p.people = 4) with e | e | e | e <;> rw [e] <;> decide
  have := cutAt_app (r := restTx p) hd
  rw [cutAt_none fun y hy => (restTx_plain h y hy).1] at this
  exact this
theorem digS_digit {n : Int} (h0 : 1 ≤ n) (h4 : n ≤ 4) : digS [UInt8.ofNat (48 + n.toNat)] = n := by
  rcases (by omega : n = 1 ∨ n = 2 ∨ n = 3 ∨ n = 4) with rfl | rfl | rfl | rfl <;> rfl
theorem parts_two {s x rest : List UInt8} (h : cutAt 32 s = [x, rest]) : parts s (digS x) rest := ⟨(fun e => by rw [e] at h; cases h), fun p hp hs => by
  obtain ⟨h1, h2, _, _⟩ := placeOk_all hp
  rw [← hs, cut32_text hp] at h
  injection h with h3 h4
  injection h4 with h5 _
  rw [← h3, digS_digit h1 h2]
  exact ⟨rfl, h5.symm⟩⟩
theorem readP_parts {s : List UInt8} (h : (cutAt 32 s).length ≠ 2) : readP s = none := readP_none fun p hp hs => by
  rw [← hs, cut32_text hp] at h; exact h rfl
theorem reads_ok {D : Int} {ps : List (List UInt8)} {l : List Claim} (h : ps.map (readC D) = l.map some) : ∀ c ∈ l, claimOk D c = true := fun c hc => by
  have : some c ∈ ps.map (readC D) := by rw [h]; exact List.mem_map_of_mem hc
  obtain ⟨x, _, hx⟩ := List.mem_map.1 this
  exact (readC_is hx).1
theorem claimOk_fine {D : Int} {c : Claim} (h : claimOk D c = true) : c.fine := by
  obtain ⟨_, _, _, _, h5, h6⟩ := claimOk_all h
  exact ⟨termOk_fits h5, by omega⟩
def Isrp (s x rest : List UInt8) (D : Int) (e : Nat) (y : S) : Prop := ∃ (i : Nat) (l : List Claim) (row : T), y.tm 0 = .v (.str s) ∧ y.tm 2 = .ptr 0 0 ∧ y.m 0 = some (.box 48 2 [.v (.int .i64 0), .nil]) ∧ y.tm 5 = .ptr 1 0 ∧
  y.m 1 = some (.box 48 2 [.v (.int .i64 D), row]) ∧ (row = .nil ∧ l = [] ∨ ∃ id, row = .loc id ∧ 1 < id ∧ id < y.n ∧ y.m id = some (.arr 89 (l.map Claim.v))) ∧
  y.tm 4 = .v (.sl [.str x, .str rest]) ∧ y.tm 6 = .v (.sl ((cutAt 44 rest).map V.str)) ∧ y.tm 7 = .v (.int .i64 i) ∧ y.mu = false ∧ 1 < y.n ∧ i ≤ (cutAt 44 rest).length ∧ ((cutAt 44 rest).take i).map (readC D) = l.map some ∧ (rest = [46] → l = []) ∧ (e = 1 → rest = [46] ∨ i = (cutAt 44 rest).length)
theorem readPlaceS_fn (s : List UInt8) (hl : s.length ≤ 2000000000) : FnZ Tryz.prog 53 [.str s] (optP (readP s)) := by
  have hcut := l1Cut_fn s 32 hl
  have e32 : (((32 : UInt8).toNat : Nat) : Int) = 32 := rfl
  have e44 : (((44 : UInt8).toNat : Nat) : Int) = 44 := rfl
  rw [e32] at hcut
  by_cases h2 : (cutAt 32 s).length = 2
  case neg =>
    rw [readP_parts h2]
    have h2' : ¬ ((cutAt 32 s).length : Int) = 2 := by omega
    refine FnZ_of (rs := [.cell 2 48, .tmp 3]) false Tryz.func53 rfl rfl rfl rfl (Nat.le_of_ble_eq_true rfl) ?_
    simp -dsimp
    refine call_ hcut (by simp -dsimp) ?_
    simp -dsimp [h2, h2', optP]
  have h3 : ∃ x rest, cutAt 32 s = [x, rest] := by
    generalize cutAt 32 s = ps at h2
    match ps, h2 with
    | [x, r], _ => exact ⟨x, r, rfl⟩
  refine h3.elim fun x h4 => h4.elim fun rest h5 => ?_
  clear h3 h4 h2
  have hxl : x.length ≤ s.length := cutAt_piece (c := 32) (by rw [h5]; simp)
  have hrl : rest.length ≤ s.length := cutAt_piece (c := 32) (by rw [h5]; simp)
  have hpt := parts_two h5
  rw [h5] at hcut
  clear h5
  have hdg := l1Digits_fn x (by omega)
  have hct2 := l1Cut_fn rest 44 (by omega)
  rw [e44] at hct2
  generalize digS x = D at *
  refine FnZ_of (rs := [.cell 2 48, .tmp 3]) false Tryz.func53 rfl rfl rfl rfl (Nat.le_of_ble_eq_true rfl) ?_
  simp -dsimp
  refine call_ hcut (by simp -dsimp) ?_
  simp -dsimp
  refine call_ hdg (by simp -dsimp) ?_
  simp -dsimp
  refine call_ hct2 (by simp -dsimp) ?_
  simp -dsimp
  refine twp_loopC (Isrp s x rest D 0) (fun y => (cutAt 44 rest).length - natOf (y.tm 7)) (Isrp s x rest D 1) ?_ ?_ ?_
  · exact ⟨0, [], .nil, by simp -dsimp, by simp -dsimp, by simp -dsimp, by simp -dsimp, by simp -dsimp, .inl ⟨rfl, rfl⟩, by simp -dsimp, by simp -dsimp, by simp -dsimp, by simp -dsimp, by simp -dsimp, by omega, by simp, by simp, by simp⟩
  · rintro y ⟨i, l, row, t0, t2, m0, t5, m1, hrow, t4, t6, t7, hmu, hn, hi, hrd, hdot, hend⟩
    by_cases hlt : i < (cutAt 44 rest).length
    case neg =>
      simp -dsimp [t4, t6, t7, hlt]
      exact ⟨i, l, row, by simp -dsimp [t0], by simp -dsimp [t2], by simp -dsimp [m0], by simp -dsimp [t5], by simp -dsimp [m1], by simpa -dsimp using hrow, by simp -dsimp [t4], by simp -dsimp [t6], by simp -dsimp [t7], by simp -dsimp [hmu], by simp -dsimp [hn], hi, hrd, hdot, fun _ => .inr (by omega)⟩
    by_cases hd : rest = [46]
    · have hlt2 : i < (cutAt 44 [46]).length := by rw [← hd]; exact hlt
      simp -dsimp [t4, t6, t7, hlt, hlt2, hd]
      exact ⟨i, l, row, by simp -dsimp [t0], by simp -dsimp [t2], by simp -dsimp [m0], by simp -dsimp [t5], by simp -dsimp [m1], by simpa -dsimp using hrow, by simp -dsimp [t4, hd], by simp -dsimp [t6, hd], by simp -dsimp [t7], by simp -dsimp [hmu], by simp -dsimp [hn], by rw [← hd]; exact hi, by rw [← hd]; exact hrd, fun _ => hdot hd, fun _ => .inl rfl⟩
    have hget : ((cutAt 44 rest).map V.str)[i]? = some (.str (cutAt 44 rest)[i]) := by simp [hlt]
    have hcl := cutAt_len 44 rest
    have wi : IntKind.wrap .i64 ((i : Int) + 1) = ((i + 1 : Nat) : Int) := by rw [w64 (by omega) (by omega)]; omega
    have hmu1 : (cutAt 44 rest).length - (i + 1) < (cutAt 44 rest).length - i := by omega
    have hmem := List.getElem_mem hlt
    have hpl := cutAt_piece hmem
    have hrc := readClaimS_fn D (cutAt 44 rest)[i] (by omega)
    have hnx : ∀ c, readC D (cutAt 44 rest)[i] = some c → _ := fun c => reads_next (c := c) hlt hrd
    have hno := readP_piece hpt hd _ hmem
    have hll := reads_len hrd
    have f0 := far (show 0 < y.n by omega)
    have f1 := far hn
    generalize readC D (cutAt 44 rest)[i] = o at *
    cases o with
    | none =>
      rw [hno rfl]
      simp -dsimp [t4, t6, t7, hlt, hget, hd]
      refine twp_draw [0, 1, 2, 3, 4, 5, 1006, 7, 8, 9, 10, 11, 12] [1] (List.replicate 13 [0]) (List.replicate 13 [0]) (by kernel_rfl) (by kernel_rfl) (by kernel_rfl) (by kernel_rfl) ?_
      simp -dsimp [t4, t5, t6, t7, hlt, hget, m1, f0, f1, nes]
      refine pure_ hrc (by simp -dsimp) ?_
      simp -dsimp [optC, optP, t2, m0, f0, f1, nes]
    | some c =>
      have hn1 := hnx c rfl
      clear hnx hno
      rcases hrow with ⟨rfl, rfl⟩ | ⟨id, rfl, hid1, hid, hm⟩
      · simp -dsimp [t4, t6, t7, hlt, hget, hd]
        refine twp_draw [0, 1, 2, 3, 4, 5, 1006, 7, 8, 9, 10, 11, 12] [1] (List.replicate 13 [0]) (List.replicate 13 [0]) (by kernel_rfl) (by kernel_rfl) (by kernel_rfl) (by kernel_rfl) ?_
        simp -dsimp [t4, t5, t6, t7, hlt, hget, m1, f0, f1, nes]
        refine pure_ hrc (by simp -dsimp) ?_
        simp -dsimp [optC, optP, t2, t5, t7, m0, m1, hmu, f0, f1, wi, hmu1, nes]
        refine st_out fun s' ht hm' hn' hu' => ?_
        have a0 := ht 0
        have a2 := ht 2
        have a4 := ht 4
        have a5 := ht 5
        have a6 := ht 6
        have a7 := ht 7
        simp -dsimp [t0, t2, t4, t5, t6, wi] at a0 a2 a4 a5 a6 a7 hm' hn' hu'
        clear ht
        refine ⟨i + 1, _, .loc (y.n + 1 + 1 + 1), a0, a2, by simp [hm', f0, nes, m0], a5, by simp [hm', f1, nes, m1], .inr ⟨_, rfl, by omega, by omega, ?_⟩, a4, a6, a7, by rw [hu', hmu], by omega, by omega, hn1, fun h => absurd h hd, by simp⟩
        simp [hm', nes]
      · have f2 := far hid
        have g0 : ¬ id = 0 := by omega
        have g1 : ¬ id = 1 := by omega
        have b1 : (l.length + 1) * 32 ≤ 140737488355328 := by omega
        simp -dsimp [t4, t6, t7, hlt, hget, hd]
        refine twp_draw [0, 1, 2, 3, 4, 5, 1006, 7, 8, 9, 10, 11, 12] [1] (List.replicate 13 [0]) (List.replicate 13 [0]) (by kernel_rfl) (by kernel_rfl) (by kernel_rfl) (by kernel_rfl) ?_
        simp -dsimp [t4, t5, t6, t7, hlt, hget, m1, f0, f1, nes]
        refine pure_ hrc (by simp -dsimp) ?_
        simp -dsimp [optC, optP, t2, t5, t7, m0, m1, hm, hmu, f0, f1, f2, b1, wi, hmu1, nes, g0, g1, Ne.symm g0, Ne.symm g1]
        refine st_out fun s' ht hm' hn' hu' => ?_
        have a0 := ht 0
        have a2 := ht 2
        have a4 := ht 4
        have a5 := ht 5
        have a6 := ht 6
        have a7 := ht 7
        simp -dsimp [t0, t2, t4, t5, t6, wi] at a0 a2 a4 a5 a6 a7 hm' hn' hu'
        clear ht
        refine ⟨i + 1, _, .loc (y.n + 1 + 1 + 1), a0, a2, by simp [hm', f0, nes, Ne.symm g0, m0], a5, by simp [hm', f1, nes, Ne.symm g1, m1], .inr ⟨_, rfl, by omega, by omega, ?_⟩, a4, a6, a7, by rw [hu', hmu], by omega, by omega, hn1, fun h => absurd h hd, by simp⟩
        simp [hm', nes]
  · rintro y ⟨i, l, row, t0, t2, m0, t5, m1, hrow, t4, t6, t7, hmu, hn, hi, hrd, hdot, hend⟩
    have hll := reads_len hrd
    have hcl := cutAt_len 44 rest
    have hcase : rest = [46] ∧ l = [] ∨ rest ≠ [46] ∧ (cutAt 44 rest).map (readC D) = l.map some := by
      by_cases hd : rest = [46]
      · exact .inl ⟨hd, hdot hd⟩
      · have := (hend rfl).resolve_left hd
        rw [this, List.take_length] at hrd
        exact .inr ⟨hd, hrd⟩
    have hfine : (⟨D, l⟩ : Place).fine := ⟨by simp only; omega, fun c hc => claimOk_fine (reads_ok hrd c hc)⟩
    have he := readP_end hpt hcase
    have hT := placeTextS_fn ⟨D, l⟩ hfine
    rw [he]
    clear he hpt
    generalize placeTx ⟨D, l⟩ = tx at *
    have f0 := far (show 0 < y.n by omega)
    have f1 := far hn
    rcases hrow with ⟨rfl, rfl⟩ | ⟨id, rfl, hid1, hid, hm⟩
    · by_cases hx : tx = s
      · simp -dsimp [t5, m1, f1]
        refine call_ hT (by simp -dsimp) ?_
        simp -dsimp [t0, t2, t5, m0, m1, hx, optP]
      · simp -dsimp [t5, m1, f1]
        refine call_ hT (by simp -dsimp) ?_
        simp -dsimp [t0, t2, t5, m0, m1, hx, optP]
    · have f2 := far hid
      have g0 : ¬ id = 0 := by omega
      have g1 : ¬ id = 1 := by omega
      by_cases hx : tx = s
      · simp -dsimp [t5, m1, f1]
        refine call_ hT (by simp -dsimp [hm]) ?_
        simp -dsimp [t0, t2, t5, m0, m1, hm, hx, optP, g0, g1, f0, f1, f2]
      · simp -dsimp [t5, m1, f1]
        refine call_ hT (by simp -dsimp [hm]) ?_
        simp -dsimp [t0, t2, t5, m0, m1, hm, hx, optP, g0, g1, f0, f1, f2]
end TL

/- The exact laws of the texts of places, and of new stores. -/
set_option linter.unusedSimpArgs false
set_option linter.unusedVariables false
set_option maxRecDepth 100000
set_option maxHeartbeats 4000000
set_option pp.maxSteps 1500
namespace TL
open Go Go.Proofs
attribute [local simp] marksV storyV codeV Claim.v Place.v Deed.v
structure Store where
  saved : List UInt8
  log : List UInt8
  sure : Int
  deriving DecidableEq
def Store.v (s : Store) : V := .agg [.str s.saved, .str s.log, .int .i64 s.sure]
theorem eqStore_fn (a b : Store) : FnZ Tryz.prog 16 [a.v, b.v] (.bool (decide (a = b))) := by
  obtain ⟨a1, a2, a3⟩ := a
  obtain ⟨b1, b2, b3⟩ := b
  refine FnZ_of (rs := [.tmp 4]) false Tryz.func16 rfl rfl rfl rfl (Nat.le_of_ble_eq_true rfl) ?_
  by_cases h1 : a1 = b1
  · by_cases h2 : a2 = b2
    · by_cases h3 : a3 = b3
      · simp -dsimp [Store.v, h1, h2, h3]
      · simp -dsimp [Store.v, h1, h2, h3]
    · simp -dsimp [Store.v, h1, h2]
  · simp -dsimp [Store.v, h1]
def noStore : Store := ⟨[], [], 0⟩
noncomputable def storeNew (p : Place) : Store := if placeOk p = true then ⟨placeTx p, [], 0⟩ else noStore
theorem storeNew_fn (p : Place) (hl : p.story.length < 1000000000000) : FnZ Tryz.prog 32 [p.v] (.tup [(storeNew p).v, .bool (placeOk p)]) := by
  have hok := placeOk_fn p hl
  have ht := placeText_fn p hl
  unfold storeNew
  generalize placeTx p = tx at *
  have hk := ft (placeOk p)
  refine FnZ_of (rs := [.cell 2 25, .tmp 3]) false Tryz.func32 rfl rfl rfl rfl (Nat.le_of_ble_eq_true rfl) ?_
  simp -dsimp
  refine call_ hok (by simp -dsimp) ?_
  rcases hk with hk | hk
  · simp -dsimp [hk, Store.v, noStore]
  · simp -dsimp [hk]
    refine call_ ht (by simp -dsimp) ?_
    simp -dsimp [Store.v, hk]
theorem storeNewS_fn (p : Place) (hf : p.fine) : FnZ Tryz.prog 33 [p.v] (.tup [(storeNew p).v, .bool (placeOk p)]) := by
  have hok := placeOkS_fn p hf
  have ht := placeTextS_fn p hf
  unfold storeNew
  generalize placeTx p = tx at *
  have hk := ft (placeOk p)
  refine FnZ_of (rs := [.cell 2 25, .tmp 3]) false Tryz.func33 rfl rfl rfl rfl (Nat.le_of_ble_eq_true rfl) ?_
  simp -dsimp
  refine call_ hok (by simp -dsimp) ?_
  rcases hk with hk | hk
  · simp -dsimp [hk, Store.v, noStore]
  · simp -dsimp [hk]
    refine call_ ht (by simp -dsimp) ?_
    simp -dsimp [Store.v, hk]
theorem place_ready {p : Place} (h : p.fit ∧ p.mid) (hz : ¬ (1048576 : Int) - p.bulk < 0) : p.small ∧ p.fine := by
  have hs := Place.small_of hz
  exact ⟨hs, by have := hs.1; omega, fun c hc => ⟨(h.1.2 c hc).2, by have := hs.2 c hc; unfold Claim.small at this; omega⟩⟩
end TL

/- Stores: whether they are sound, what a crash leaves, what a sync makes. -/
set_option linter.unusedSimpArgs false
set_option linter.unusedVariables false
set_option maxRecDepth 100000
set_option maxHeartbeats 4000000
set_option pp.maxSteps 1500
namespace TL
open Go Go.Proofs
attribute [local simp] marksV storyV codeV Claim.v Place.v Store.v
noncomputable def storeOk (s : Store) : Bool := (readP s.saved).isSome && decide (s.log.length ≤ 1000) && decide (0 ≤ s.sure) && decide (s.sure ≤ s.log.length)
def Store.small (s : Store) : Prop := s.saved.length ≤ 2000000000 ∧ s.log.length ≤ 2000000000
theorem storeOk_fn (s : Store) (h : s.small) : FnZ Tryz.prog 22 [s.v] (.bool (storeOk s)) := by
  have hr := readPlace_fn s.saved h.1
  have e : storeOk s = ((readP s.saved).isSome && decide ((s.log.length : Int) ≤ 1000) && decide (0 ≤ s.sure) && decide (s.sure ≤ s.log.length)) := by
    unfold storeOk; congr 3; rw [decide_eq_decide]; omega
  rw [e]
  clear e
  obtain ⟨s1, s2, s3⟩ := s
  simp only at hr ⊢
  generalize readP s1 = o at *
  refine FnZ_of (rs := [.tmp 2]) false Tryz.func22 rfl rfl rfl rfl (Nat.le_of_ble_eq_true rfl) ?_
  simp -dsimp
  refine call_ hr (by simp -dsimp) ?_
  cases o with
  | none => simp -dsimp [optP]
  | some p =>
    by_cases h1 : (s2.length : Int) ≤ 1000
    case neg => simp -dsimp [optP, h1]
    by_cases h2 : 0 ≤ s3
    case neg => simp -dsimp [optP, h1, h2]
    by_cases h3 : s3 ≤ (s2.length : Int)
    · simp -dsimp [optP, h1, h2, h3]
    · simp -dsimp [optP, h1, h2, h3]
theorem storeOkS_fn (s : Store) (h : s.small) : FnZ Tryz.prog 23 [s.v] (.bool (storeOk s)) := by
  have hr := readPlaceS_fn s.saved h.1
  have hin := l1In_z s.sure 0 s.log.length
  have e : storeOk s = ((readP s.saved).isSome && decide ((s.log.length : Int) ≤ 1000) && (decide (0 ≤ s.sure) && decide (s.sure ≤ s.log.length))) := by
    unfold storeOk; rw [Bool.and_assoc]; congr 2; rw [decide_eq_decide]; omega
  rw [e]
  clear e
  obtain ⟨s1, s2, s3⟩ := s
  simp only at hr hin ⊢
  generalize readP s1 = o at *
  generalize (decide (0 ≤ s3) && decide (s3 ≤ (s2.length : Int))) = b at *
  refine FnZ_of (rs := [.tmp 2]) false Tryz.func23 rfl rfl rfl rfl (Nat.le_of_ble_eq_true rfl) ?_
  simp -dsimp
  refine call_ hr (by simp -dsimp) ?_
  cases o with
  | none => simp -dsimp [optP]
  | some p =>
    by_cases h1 : (s2.length : Int) ≤ 1000
    case neg => simp -dsimp [optP, h1]
    simp -dsimp [optP, h1]
    refine call_ hin (by simp -dsimp) ?_
    simp -dsimp [optP, h1]
noncomputable def crashOk (s : Store) (k : Int) : Bool := storeOk s && (decide (s.sure ≤ k) && decide (k ≤ s.log.length))
noncomputable def storeCrash (s : Store) (k : Int) : Store := if crashOk s k = true then ⟨s.saved, s.log.take k.toNat, s.sure⟩ else noStore
theorem storeOk_sure {s : Store} (h : storeOk s = true) : 0 ≤ s.sure := by
  simp only [storeOk, Bool.and_eq_true, decide_eq_true_eq] at h; exact h.1.2
theorem storeCrash_fn (s : Store) (k : Int) (h : s.small) : FnZ Tryz.prog 26 [s.v, .int .i64 k] (.tup [(storeCrash s k).v, .bool (crashOk s k)]) := by
  have ho := storeOk_fn s h
  have hk := ft (storeOk s)
  have hsu := storeOk_sure (s := s)
  unfold storeCrash crashOk
  generalize storeOk s = o at *
  obtain ⟨s1, s2, s3⟩ := s
  simp only at hsu ⊢
  refine FnZ_of (rs := [.cell 4 25, .tmp 5]) false Tryz.func26 rfl rfl rfl rfl (Nat.le_of_ble_eq_true rfl) ?_
  simp -dsimp
  refine call_ ho (by simp -dsimp) ?_
  rcases hk with rfl | rfl
  · simp -dsimp [noStore]
  have h0 := hsu rfl
  by_cases h1 : s3 ≤ k
  case neg =>
    have h1' : k < s3 := by omega
    simp -dsimp [noStore, h1, h1']
  have h1' : ¬ k < s3 := by omega
  by_cases h2 : k ≤ (s2.length : Int)
  case neg =>
    have h2' : (s2.length : Int) < k := by omega
    simp -dsimp [noStore, h1, h1', h2, h2']
  have h2' : ¬ (s2.length : Int) < k := by omega
  have h3 : 0 ≤ k := by omega
  have h4 : k.toNat ≤ s2.length := by omega
  simp -dsimp [h1, h1', h2, h2', h3, h4]
theorem storeCrashS_fn (s : Store) (k : Int) (h : s.small) : FnZ Tryz.prog 27 [s.v, .int .i64 k] (.tup [(storeCrash s k).v, .bool (crashOk s k)]) := by
  have ho := storeOkS_fn s h
  have hin := l1In_z k s.sure s.log.length
  have hk := ft (storeOk s)
  have hsu := storeOk_sure (s := s)
  have hx : (decide (s.sure ≤ k) && decide (k ≤ s.log.length)) = true → s.sure ≤ k ∧ k ≤ s.log.length := by simp
  unfold storeCrash crashOk
  generalize storeOk s = o at *
  generalize (decide (s.sure ≤ k) && decide (k ≤ (s.log.length : Int))) = b at *
  obtain ⟨s1, s2, s3⟩ := s
  simp only at hsu hx hin ⊢
  refine FnZ_of (rs := [.cell 4 25, .tmp 5]) false Tryz.func27 rfl rfl rfl rfl (Nat.le_of_ble_eq_true rfl) ?_
  simp -dsimp
  refine call_ ho (by simp -dsimp) ?_
  rcases hk with rfl | rfl
  · simp -dsimp [noStore]
  have h0 := hsu rfl
  have hb := ft b
  simp -dsimp
  refine call_ hin (by simp -dsimp) ?_
  rcases hb with rfl | rfl
  · simp -dsimp [noStore]
  obtain ⟨h1, h2⟩ := hx rfl
  have h3 : 0 ≤ k := by omega
  have h4 : k.toNat ≤ s2.length := by omega
  simp -dsimp
  refine twp_draw (List.range 11) [0, 1] (List.replicate 11 [0]) (List.replicate 9 [0, 1] ++ [[0], [0, 1]]) (by kernel_rfl) (by kernel_rfl) (by kernel_rfl) (by kernel_rfl) ?_
  simp -dsimp [List.range_succ, h1, h2, h3, h4]
noncomputable def storeSync (s : Store) : Store := if storeOk s = true then ⟨s.saved, s.log, s.log.length⟩ else noStore
theorem storeSync_fn (s : Store) (h : s.small) : FnZ Tryz.prog 29 [s.v] (.tup [(storeSync s).v, .bool (storeOk s)]) := by
  have ho := storeOk_fn s h
  have hk := ft (storeOk s)
  unfold storeSync
  generalize storeOk s = o at *
  obtain ⟨s1, s2, s3⟩ := s
  simp only
  refine FnZ_of (rs := [.cell 2 25, .tmp 3]) false Tryz.func29 rfl rfl rfl rfl (Nat.le_of_ble_eq_true rfl) ?_
  simp -dsimp
  refine call_ ho (by simp -dsimp) ?_
  rcases hk with rfl | rfl
  · simp -dsimp [noStore]
  · simp -dsimp
theorem storeSyncS_fn (s : Store) (h : s.small) : FnZ Tryz.prog 30 [s.v] (.tup [(storeSync s).v, .bool (storeOk s)]) := by
  have ho := storeOkS_fn s h
  have hk := ft (storeOk s)
  unfold storeSync
  generalize storeOk s = o at *
  obtain ⟨s1, s2, s3⟩ := s
  simp only
  refine FnZ_of (rs := [.cell 2 25, .tmp 3]) false Tryz.func30 rfl rfl rfl rfl (Nat.le_of_ble_eq_true rfl) ?_
  simp -dsimp
  refine call_ ho (by simp -dsimp) ?_
  rcases hk with rfl | rfl
  · simp -dsimp [noStore]
  · simp -dsimp
/-! The exact laws. -/
def Store.bulk (s : Store) : Nat := s.saved.length + s.log.length
def Store.mid (s : Store) : Prop := s.saved.length ≤ 9223372036854775807 ∧ s.log.length ≤ 9223372036854775807
theorem szStore_fn (s : Store) (h : s.mid) : FnZ Tryz.prog 12 [s.v, .int .i64 1048576] (.int .i64 (szR 1048576 s.bulk)) := by
  obtain ⟨s1, s2, s3⟩ := s
  obtain ⟨m1, m2⟩ := h
  simp only at m1 m2
  unfold szR Store.bulk
  simp only
  have w1 : IntKind.wrap .i64 (1048576 - (s1.length : Int)) = 1048576 - (s1.length : Int) := w64 (by omega) (by omega)
  by_cases h1 : (1048576 : Int) - s1.length < 0
  · have e : (if (1048576 : Int) - ((s1.length + s2.length : Nat) : Int) < 0 then (-1 : Int) else 1048576 - ((s1.length + s2.length : Nat) : Int)) = -1 := if_pos (by omega)
    rw [e]
    refine FnZ_of (rs := [.tmp 4]) false Tryz.func12 rfl rfl rfl rfl (Nat.le_of_ble_eq_true rfl) ?_
    simp -dsimp [w1, h1]
  have w2 : IntKind.wrap .i64 (1048576 - (s1.length : Int) - (s2.length : Int)) = 1048576 - (s1.length : Int) - (s2.length : Int) := w64 (by omega) (by omega)
  by_cases h2 : (1048576 : Int) - s1.length - s2.length < 0
  · have e : (if (1048576 : Int) - ((s1.length + s2.length : Nat) : Int) < 0 then (-1 : Int) else 1048576 - ((s1.length + s2.length : Nat) : Int)) = -1 := if_pos (by omega)
    rw [e]
    refine FnZ_of (rs := [.tmp 4]) false Tryz.func12 rfl rfl rfl rfl (Nat.le_of_ble_eq_true rfl) ?_
    simp -dsimp [w1, w2, h1, h2]
  · have e : (if (1048576 : Int) - ((s1.length + s2.length : Nat) : Int) < 0 then (-1 : Int) else 1048576 - ((s1.length + s2.length : Nat) : Int)) = 1048576 - (s1.length : Int) - (s2.length : Int) := by rw [if_neg (by omega)]; omega
    rw [e]
    refine FnZ_of (rs := [.tmp 4]) false Tryz.func12 rfl rfl rfl rfl (Nat.le_of_ble_eq_true rfl) ?_
    simp -dsimp [w1, w2, h1, h2]
theorem toStore_fn (s : Store) : FnZ Tryz.prog 14 [s.v] s.v := by
  obtain ⟨s1, s2, s3⟩ := s
  refine FnZ_of (rs := [.cell 2 25]) false Tryz.func14 rfl rfl rfl rfl (Nat.le_of_ble_eq_true rfl) ?_
  simp -dsimp
theorem store_ready {s : Store} (hz : ¬ szR 1048576 s.bulk < 0) : s.small := by
  unfold szR Store.bulk at hz
  split at hz
  · omega
  · exact ⟨by omega, by omega⟩
theorem opens_store (w : World) : Opens Tryz.prog w 23 fun vs => ∃ s : Store, s.mid ∧ s.v = .agg vs :=
  (opens_struct3 Tryz.underlying23 rfl (by kernel_rfl) (by kernel_rfl) (by kernel_rfl) (opens_string Tryz.underlying9) (opens_string Tryz.underlying9) (opens_int Tryz.underlying3)).mono fun vs h => by
    obtain ⟨v0, v1, v2, rfl, ⟨s, rfl, hs⟩, ⟨t, rfl, ht⟩, ⟨n, rfl, wn⟩⟩ := h
    exact ⟨⟨s, t, n⟩, ⟨by simpa [maxLen] using hs, by simpa [maxLen] using ht⟩, rfl⟩
end TL

/- A drawn term: some row of marks. -/
set_option linter.unusedSimpArgs false
set_option linter.unusedVariables false
set_option maxRecDepth 100000
set_option maxHeartbeats 4000000
set_option pp.maxSteps 1500
namespace TL
open Go Go.Proofs
/-- Marks as cells. -/
def mkT : List Mark → List T
  | [] => []
  | m :: ms => .v (.int .i64 m.kind) :: .v (.int .i64 m.num) :: mkT ms
@[simp] theorem mkT_nil : mkT [] = [] := rfl
theorem mkT_append (a b : List Mark) : mkT (a ++ b) = mkT a ++ mkT b := by
  induction a with
  | nil => rfl
  | cons x xs ih => simp [mkT, ih]
@[simp] theorem mkT_length (a : List Mark) : (mkT a).length = a.length * 2 := by
  induction a with
  | nil => rfl
  | cons x xs ih => simp [mkT, ih]; omega
@[simp] theorem mkT_take (a : List Mark) : (mkT a).take (a.length * 2) = mkT a := List.take_of_length_le (by simp)
@[simp] theorem mkT_cells (a : List Mark) : allC (mkT a) := by
  induction a with
  | nil => simp
  | cons x xs ih => simp [mkT]; exact ih
theorem mkT_one (k a : Int) : [T.v (.int .i64 k), T.v (.int .i64 a)] = mkT [⟨k, a⟩] := rfl
/-- Parts as cells of a row. -/
def partsT (l : List (Nat × List Mark)) : List T := l.map fun q => .sv q.1 0 q.2.length
@[simp] theorem partsT_length (a : List (Nat × List Mark)) : (partsT a).length = a.length := by simp [partsT]
@[simp] theorem partsT_take (a : List (Nat × List Mark)) : (partsT a).take a.length = partsT a := List.take_of_length_le (by simp)
@[simp] theorem partsT_cells (a : List (Nat × List Mark)) : allC (partsT a) := by
  intro x hx; simp only [partsT, List.mem_map] at hx; obtain ⟨q, _, rfl⟩ := hx; rfl
@[simp] theorem partsT_cells_take (a : List (Nat × List Mark)) (k : Nat) : allC ((partsT a).take k) := allC_take (partsT_cells a) k
@[simp] theorem partsT_cells_drop (a : List (Nat × List Mark)) (k : Nat) : allC ((partsT a).drop k) := allC_drop (partsT_cells a) k
structure TEnv (m0 : Mem) (n0 rid : Nat) (bs : List UInt8) (s : S) (pid : Nat) (parts : List (Nat × List Mark)) (p : Nat) : Prop where
  mu : s.mu = true
  n : n0 ≤ s.n
  pid0 : n0 ≤ pid
  pid1 : pid < s.n
  row : s.m pid = some (.box 87 1 (partsT parts))
  each : ∀ q ∈ parts, n0 ≤ q.1 ∧ q.1 < s.n ∧ q.1 ≠ pid ∧ s.m q.1 = some (.box 110 2 (mkT q.2)) ∧ 1 ≤ q.2.length ∧ fits q.2
  rd : s.m rid = some (rdB bs p)
  out : ∀ j, j < n0 → j ≠ rid → s.m j = m0 j
theorem TEnv.push {m0 : Mem} {n0 rid : Nat} {bs : List UInt8} {s s' : S} {pid p q n1 : Nat} {parts : List (Nat × List Mark)} (h : TEnv m0 n0 rid bs s pid parts p) (hn : s.n ≤ n1) (hr : rid < n0) (mk : Mark) (hmk : mk.fit) (x : Option Blk)
    (hmu : s'.mu = true) (hn' : s'.n = n1 + 1 + 1 + 1) (hm : ∀ j, s'.m j = if j = n1 + 1 + 1 then some (.box 87 1 (partsT parts ++ [.sv n1 0 1])) else if j = pid then none else if j = n1 + 1 then x else if j = n1 then some (.box 110 2 [.v (.int .i64 mk.kind), .v (.int .i64 mk.num)])
      else if j = rid then some (rdB bs q) else s.m j) : TEnv m0 n0 rid bs s' (n1 + 1 + 1) (parts ++ [(n1, [mk])]) q := by
  have hp0 := h.pid0
  have hp1 := h.pid1
  have hnn := h.n
  refine ⟨hmu, by omega, by omega, by omega, ?_, ?_, ?_, ?_⟩
  · rw [hm, if_pos rfl]; simp [partsT]
  · intro y hy
    rcases List.mem_append.1 hy with hy | hy
    · obtain ⟨e1, e2, e3, e4, e5⟩ := h.each y hy
      refine ⟨e1, by omega, by omega, ?_, e5⟩
      rw [hm, if_neg (by omega), if_neg e3, if_neg (by omega), if_neg (by omega), if_neg (by omega), e4]
    · cases List.mem_singleton.1 hy
      refine ⟨by omega, by omega, by omega, ?_, by simpa using hmk⟩
      rw [hm, if_neg (by omega), if_neg (by omega), if_neg (by omega), if_pos rfl]; rfl
  · rw [hm, if_neg (by omega), if_neg (by omega), if_neg (by omega), if_neg (by omega), if_pos rfl]
  · intro j h1 h2
    rw [hm, if_neg (by omega), if_neg (by omega), if_neg (by omega), if_neg (by omega), if_neg (by omega), h.out j h1 h2]
theorem TEnv.read {m0 : Mem} {n0 rid : Nat} {bs : List UInt8} {s s' : S} {pid p q : Nat} {parts : List (Nat × List Mark)} (h : TEnv m0 n0 rid bs s pid parts p) (hr : rid < n0)
    (hmu : s'.mu = true) (hn : s.n ≤ s'.n) (hm : s'.m = updM s.m rid (some (rdB bs q))) : TEnv m0 n0 rid bs s' pid parts q := by
  have hp0 := h.pid0
  have hp1 := h.pid1
  have hnn := h.n
  refine ⟨hmu, by omega, by omega, by omega, ?_, ?_, ?_, ?_⟩
  · rw [hm, updM_ne _ _ (by omega), h.row]
  · intro y hy
    obtain ⟨e1, e2, e3, e4, e5⟩ := h.each y hy
    exact ⟨e1, by omega, e3, by rw [hm, updM_ne _ _ (by omega), e4], e5⟩
  · rw [hm, updM_same]
  · intro j h1 h2
    rw [hm, updM_ne _ _ h2, h.out j h1 h2]
theorem TEnv.next {m0 : Mem} {n0 rid : Nat} {bs : List UInt8} {s s' : S} {pid pid' p q n1 : Nat} {parts parts' : List (Nat × List Mark)} (h : TEnv m0 n0 rid bs s pid parts p) (hr : rid < n0)
    (hmu : s'.mu = true) (hn1 : s.n ≤ n1) (hn : n1 ≤ s'.n) (hpid : pid' = pid ∨ n1 ≤ pid') (hpl : pid' < s'.n) (hrow : s'.m pid' = some (.box 87 1 (partsT parts'))) (hrd : s'.m rid = some (rdB bs q))
    (hout : ∀ j, j < n1 → j ≠ rid → j ≠ pid → s'.m j = s.m j)
    (hall : ∀ y ∈ parts', y ∈ parts ∨ (n1 ≤ y.1 ∧ y.1 < s'.n ∧ y.1 ≠ pid' ∧ s'.m y.1 = some (.box 110 2 (mkT y.2)) ∧ 1 ≤ y.2.length ∧ fits y.2)) : TEnv m0 n0 rid bs s' pid' parts' q := by
  have hp0 := h.pid0
  have hp1 := h.pid1
  have hnn := h.n
  refine ⟨hmu, by omega, by omega, hpl, hrow, ?_, hrd, ?_⟩
  · intro y hy
    rcases hall y hy with hy | ⟨e1, e2, e3, e4, e5⟩
    · obtain ⟨e1, e2, e3, e4, e5⟩ := h.each y hy
      exact ⟨e1, by omega, by omega, by rw [hout _ (by omega) (by omega) e3, e4], e5⟩
    · exact ⟨by omega, e2, e3, e4, e5⟩
  · intro j h1 h2
    rw [hout j (by omega) h2 (by omega), h.out j h1 h2]
def TI1 (m0 : Mem) (n0 rid : Nat) (bs : List UInt8) (p : Nat) (people k : Int) (s : S) : Prop := ∃ (parts : List (Nat × List Mark)) (pid c p' : Nat),
  s.tm 0 = .ptr rid 0 ∧ s.tm 1 = .v (.int .i64 people) ∧ s.tm 2 = .v (.int .i64 k) ∧ s.tm 7 = .sv pid 0 parts.length ∧ s.tm 8 = .v (.int .i64 c) ∧ parts.length + c ≤ 4 ∧ 1 ≤ parts.length + c ∧ p ≤ p' ∧ p' + 2 * c ≤ p + 9 ∧
  TEnv m0 n0 rid bs s pid parts p' ∧ ∀ q ∈ parts, q.2.length = 1
def TI2 (m0 : Mem) (n0 rid : Nat) (bs : List UInt8) (p : Nat) (people k : Int) (s : S) : Prop := ∃ (parts : List (Nat × List Mark)) (pid p' : Nat),
  s.tm 0 = .ptr rid 0 ∧ s.tm 1 = .v (.int .i64 people) ∧ s.tm 2 = .v (.int .i64 k) ∧ s.tm 7 = .sv pid 0 parts.length ∧ 1 ≤ parts.length ∧ parts.length ≤ 4 ∧ p ≤ p' ∧ p' ≤ p + 9 ∧
  TEnv m0 n0 rid bs s pid parts p' ∧ ∀ q ∈ parts, q.2.length = 1
def sumLen (l : List (Nat × List Mark)) : Nat := (l.map fun q => q.2.length).sum
theorem sumLen_one {l : List (Nat × List Mark)} (h : ∀ q ∈ l, q.2.length = 1) : sumLen l = l.length := by
  induction l with
  | nil => rfl
  | cons x xs ih =>
    have := ih fun q hq => h q (List.mem_cons_of_mem _ hq)
    have h1 := h x (List.mem_cons_self ..)
    simp only [sumLen, List.map_cons, List.sum_cons, List.length_cons] at this ⊢; omega
theorem sumLen_append (a b : List (Nat × List Mark)) : sumLen (a ++ b) = sumLen a + sumLen b := by simp [sumLen]
theorem sumLen_set {l : List (Nat × List Mark)} {i : Nat} {q x : Nat × List Mark} (h : l[i]? = some q) : sumLen (l.set i x) + q.2.length = sumLen l + x.2.length := by
  induction l generalizing i with
  | nil => cases h
  | cons y ys ih =>
    cases i with
    | zero => cases h; simp [sumLen]; omega
    | succ i => have := ih (i := i) (by simpa using h); simp only [sumLen, List.set_cons_succ, List.map_cons, List.sum_cons] at this ⊢; omega
theorem two_split {α : Type} {l : List α} {i : Nat} (h : i + 1 < l.length) : ∃ a b, l[i]? = some a ∧ l[i + 1]? = some b ∧ l = l.take i ++ [a, b] ++ l.drop (i + 2) := by
  refine ⟨l[i], l[i + 1], List.getElem?_eq_getElem _, List.getElem?_eq_getElem _, ?_⟩
  have h1 : l.drop i = l[i] :: l.drop (i + 1) := List.drop_eq_getElem_cons (by omega)
  have h2 : l.drop (i + 1) = l[i + 1] :: l.drop (i + 2) := List.drop_eq_getElem_cons (by omega)
  rw [List.append_assoc]
  conv => lhs; rw [← List.take_append_drop i l, h1, h2]
  rfl
theorem sumLen_mem {l : List (Nat × List Mark)} {q : Nat × List Mark} (h : q ∈ l) : q.2.length ≤ sumLen l := by
  induction l with
  | nil => cases h
  | cons y ys ih =>
    rcases List.mem_cons.1 h with rfl | h
    · simp [sumLen]
    · have := ih h; simp only [sumLen, List.map_cons, List.sum_cons] at this ⊢; omega
def TI3 (m0 : Mem) (n0 rid : Nat) (bs : List UInt8) (p : Nat) (k : Int) (s : S) : Prop := ∃ (parts : List (Nat × List Mark)) (pid left p' : Nat),
  s.tm 0 = .ptr rid 0 ∧ s.tm 2 = .v (.int .i64 k) ∧ s.tm 7 = .sv pid 0 parts.length ∧ s.tm 9 = .v (.int .i64 left) ∧ 1 ≤ parts.length ∧ sumLen parts + left + parts.length ≤ 11 ∧ p ≤ p' ∧ p' + 3 * (left + parts.length) ≤ p + 30 ∧
  TEnv m0 n0 rid bs s pid parts p'
def TIC (m0 : Mem) (n0 rid : Nat) (bs : List UInt8) (p : Nat) (k : Int) (c M : Nat) (s : S) : Prop := ∃ (parts : List (Nat × List Mark)) (pid left ap p' : Nat),
  s.tm 0 = .ptr rid 0 ∧ s.tm 2 = .v (.int .i64 k) ∧ s.tm 7 = .sv pid 0 parts.length ∧ s.tm 9 = .v (.int .i64 left) ∧ s.tm 10 = .v (.int .i64 ap) ∧ ap + 1 < parts.length ∧ left + parts.length = M ∧ sumLen parts + left + parts.length ≤ 11 ∧ p ≤ p' ∧ p' + 3 * (left + parts.length) ≤ p + 30 + c ∧
  TEnv m0 n0 rid bs s pid parts p'
def TI4 (m0 : Mem) (n0 rid : Nat) (bs : List UInt8) (p : Nat) (k : Int) (s : S) : Prop := ∃ (x : Nat × List Mark) (pid p' : Nat),
  s.tm 0 = .ptr rid 0 ∧ s.tm 2 = .v (.int .i64 k) ∧ s.tm 7 = .sv pid 0 1 ∧ x.2.length ≤ 10 ∧ p ≤ p' ∧ p' ≤ p + 30 ∧
  TEnv m0 n0 rid bs s pid [x] p'
def TI5 (m0 : Mem) (n0 rid : Nat) (bs : List UInt8) (p : Nat) (k : Int) (c : Nat) (s : S) : Prop := ∃ (i : Nat) (ms : List Mark) (p' : Nat),
  s.tm 0 = .ptr rid 0 ∧ s.tm 2 = .v (.int .i64 k) ∧ s.tm 13 = .sv i 0 ms.length ∧ fits ms ∧ 1 ≤ ms.length ∧ ms.length ≤ 10 + c ∧ p ≤ p' ∧ p' ≤ p + 31 ∧ s.mu = true ∧ n0 ≤ i ∧ i < s.n ∧ n0 ≤ s.n ∧
  s.m i = some (.box 110 2 (mkT ms)) ∧ s.m rid = some (rdB bs p') ∧ (∀ j, j < n0 → j ≠ rid → s.m j = m0 j)
def TermPost (m0 : Mem) (n0 rid : Nat) (bs : List UInt8) (p : Nat) (t : T) (m' : Mem) (n' : Nat) : Prop := n0 ≤ n' ∧ ∃ i ms, t = .sv i 0 ms.length ∧ n0 ≤ i ∧ i < n' ∧ m' i = some (.box 110 2 (mkT ms)) ∧ ms.length ≤ 20 ∧ fits ms ∧
      (∀ j, j < n0 → j ≠ rid → m' j = m0 j) ∧ ∃ p', p ≤ p' ∧ p' ≤ p + 40 ∧ m' rid = some (rdB bs p')
theorem term_at (bs : List UInt8) (p : Nat) (hp : p < 900000000) (people k : Int) (hk : k < 1000000) (m : Mem) (n rid : Nat) (hr : rid < n) (hm : m rid = some (rdB bs p)) :
    FnS Tryz.prog 107 m n [.ptr rid 0, .v (.int .i64 people), .v (.int .i64 k)] (TermPost m n rid bs p) := by
  refine FnS_fresh ⟨_, Tryz.func107, rfl, rfl⟩ fun hfr => ?_
  refine FnS_of (rs := [.tmp 6]) true Tryz.func107 rfl rfl rfl rfl (Nat.le_of_ble_eq_true rfl) ?_
  simp -dsimp
  refine callS_ (pick_at bs p (by omega) _ _ _ rid (by simp [hm]; omega)) ?_
  rintro t m' n' ⟨hn', ⟨r, rfl, hr0, hr1⟩, rfl⟩
  simp -dsimp
  refine twp_loopC (TI1 m n rid bs p (min (max people 1) 4) k) (fun s => natOf (s.tm 8)) (TI2 m n rid bs p (min (max people 1) 4) k) ?_ ?_ ?_
  · refine ⟨[], n, (1 + r).toNat, p + 1, by simp, by simp, by simp, by simp, ?_, by simp; omega, by simp; omega, by omega, by omega, ⟨by simp, by simp; omega, by simp, by simp; omega, ?_, by simp, ?_, ?_⟩, by simp⟩
    · simp; rw [w64 (by omega) (by omega)]; omega
    · have a1 : ¬ n = rid := by omega
      simp [a1, partsT]
    · simp
    · intro j j1 j2
      have j3 : ¬ j = n := by omega
      simp [j2, j3]
  · rintro s ⟨parts, pid, c, p', h0, h1, h2, h7, h8, hc, hpc, hp0, hpp, h, hone⟩
    have hrow := h.row
    have hrd := h.rd
    have hmu := h.mu
    have hpid := h.pid1
    have hnn := h.n
    by_cases hc0 : c = 0
    · subst hc0
      simp -dsimp [h8]
      exact ⟨parts, pid, p', by simp [h0], by simp [h1], by simp [h2], by simp [h7], by omega, by omega, by omega, by omega, ⟨h.mu, h.n, h.pid0, h.pid1, h.row, h.each, h.rd, h.out⟩, hone⟩
    · have hc1 : 0 < c := by omega
      simp -dsimp [h0, h1, h2, h7, h8, hc1]
      refine callS_ (pick_at bs p' (by omega) _ _ _ rid hrd) ?_
      rintro t m' n' ⟨hn', ⟨r, rfl, hr0, hr1⟩, rfl⟩
      simp -dsimp [h0, h1, h2, h7, h8, hc1]
      have a5 : ¬ pid = rid := by have := h.pid0; omega
      have a6 : ¬ rid = pid := by have := h.pid0; omega
      have hpw : IntKind.wrap .i64 (min (max people 1) 4 + 2) = min (max people 1) 4 + 2 := w64 (by omega) (by omega)
      have wc : IntKind.wrap .i64 ((c : Int) - 1) = ((c - 1 : Nat) : Int) := by rw [w64 (by omega) (by omega)]; omega
      have f3 : (parts.length + 1) * 24 ≤ 140737488355328 := by omega
      have f4 : c - 1 < c := by omega
      refine iteP_intro (fun hb => ?_) (fun hb => ?_)
      · simp -dsimp [h0, h1, h2, h7, h8, hc1]
        refine callS_ (pick_at bs (p' + 1) (by omega) _ _ _ rid (by simp)) ?_
        rintro t m'' n'' ⟨hn'', ⟨r2, rfl, hr2, hr3⟩, rfl⟩
        rw [hpw] at hr3
        have f1 := far (show pid < n'' by omega)
        have f2 := far (show rid < n'' by omega)
        simp -dsimp [h0, h1, h2, h7, h8, hc1, hmu, hrow, f1, f2, f3, a5, wc, f4]
        refine ⟨parts ++ [(n'', [⟨1, r2⟩])], n'' + 1 + 1, c - 1, p' + 1 + 1, by simp [h0], by simp [h1], by simp [h2], by simp, by simp, by simp; omega, by simp; omega, by omega, by omega, ?_, ?_⟩
        · exact h.push (by omega) hr ⟨1, r2⟩ (fit_mk (by omega) (by omega) hr2 (by omega)) _ (by simp [hmu]) (by simp) (fun j => by simp; rfl)
        · intro q hq; rcases List.mem_append.1 hq with hq | hq
          · exact hone q hq
          · cases List.mem_singleton.1 hq; rfl
      · simp -dsimp [h0, h1, h2, h7, h8, hc1]
        refine callS_ (pick_at bs (p' + 1) (by omega) _ _ _ rid (by simp)) ?_
        rintro t m'' n'' ⟨hn'', ⟨r2, rfl, hr2, hr3⟩, rfl⟩
        have f1 := far (show pid < n'' by omega)
        have f2 := far (show rid < n'' by omega)
        simp -dsimp [h0, h1, h2, h7, h8, hc1, hmu, hrow, f1, f2, f3, a5, wc, f4]
        refine ⟨parts ++ [(n'', [⟨0, r2⟩])], n'' + 1 + 1, c - 1, p' + 1 + 1, by simp [h0], by simp [h1], by simp [h2], by simp, by simp, by simp; omega, by simp; omega, by omega, by omega, ?_, ?_⟩
        · exact h.push (by omega) hr ⟨0, r2⟩ (fit_mk (by omega) (by omega) hr2 (by omega)) _ (by simp [hmu]) (by simp) (fun j => by simp; rfl)
        · intro q hq; rcases List.mem_append.1 hq with hq | hq
          · exact hone q hq
          · cases List.mem_singleton.1 hq; rfl
  · rintro s ⟨parts, pid, p', h0, h1, h2, h7, hc, hpc, hp0, hpp, h, hone⟩
    simp -dsimp
    refine twp_loopC (TI3 m n rid bs p k) (fun s => natOf (s.tm 9) + natOf (s.tm 7)) (TI4 m n rid bs p k) ?_ ?_ ?_
    · refine ⟨parts, pid, 3, p', by simp [h0], by simp [h2], by simp [h7], by simp, by omega, ?_, by omega, by omega, ⟨h.mu, h.n, h.pid0, h.pid1, h.row, h.each, h.rd, h.out⟩⟩
      rw [sumLen_one hone]; omega
    · rintro s ⟨parts, pid, left, p', h0, h2, h7, h9, hl, hs, hp0, hpp, h⟩
      have hrow := h.row
      have hrd := h.rd
      have hmu := h.mu
      have hpid := h.pid1
      have hnn := h.n
      by_cases hl1 : parts.length = 1
      · simp -dsimp [h7, hl1]
        obtain ⟨x, rfl⟩ := List.length_eq_one_iff.1 hl1
        have : sumLen [x] = x.2.length := by simp [sumLen]
        exact ⟨x, pid, p', by simp [h0], by simp [h2], by simp [h7], by omega, by omega, by omega, ⟨h.mu, h.n, h.pid0, h.pid1, h.row, h.each, h.rd, h.out⟩⟩
      · have hl2 : 1 < parts.length := by omega
        have hl3 : (1 : Int) < parts.length := by omega
        have wl : IntKind.wrap .i64 ((parts.length : Int) - 1) = ((parts.length - 1 : Nat) : Int) := by rw [w64 (by omega) (by omega)]; omega
        simp -dsimp [h0, h7, hl3, wl]
        refine callS_ (pick_at bs p' (by omega) _ _ _ rid hrd) ?_
        rintro t m' n' ⟨hn', ⟨r, rfl, hr0, hr1⟩, rfl⟩
        obtain ⟨r, rfl⟩ := Int.eq_ofNat_of_zero_le hr0
        have hμ : natOf (s.tm 9) + natOf (s.tm 7) = left + parts.length := by simp [h7, h9]
        refine opsP_mono (Q := TIC m n rid bs p k 1 (left + parts.length)) ?_ _ _ ?_
        · intro s5 hs5
          simp only [thenP_normal]
          refine twp_cut (TIC m n rid bs p k 2 (left + parts.length)) ?_ ?_
          · obtain ⟨parts, pid, left, ap, p', h0, h2, h7, h9, h10, hat, hM, hs, hp0, hpp, h⟩ := hs5
            have hrow := h.row
            have hrd := h.rd
            have hmu := h.mu
            have hpid := h.pid1
            have hpid0 := h.pid0
            have hnn := h.n
            by_cases hl0 : left = 0
            · subst hl0
              simp -dsimp [h9]
              exact ⟨parts, pid, 0, ap, p', by simp [h0], by simp [h2], by simp [h7], by simp [h9], by simp [h10], by omega, by omega, by omega, by omega, by omega, ⟨h.mu, h.n, h.pid0, h.pid1, h.row, h.each, h.rd, h.out⟩⟩
            · have hl1 : 0 < left := by omega
              simp -dsimp [h0, h9, hl1]
              refine callS_ (pick_at bs p' (by omega) _ _ _ rid hrd) ?_
              rintro t m' n1 ⟨hn1, ⟨r, rfl, hr0, hr1⟩, rfl⟩
              by_cases hr2 : r = 0
              · obtain ⟨q, hq⟩ : ∃ q, parts[ap]? = some q := ⟨parts[ap], List.getElem?_eq_getElem _⟩
                have hg : (partsT parts)[ap]? = some (.sv q.1 0 q.2.length) := by simp [partsT, hq]
                have hg2 : (partsT parts)[ap]'(by simp; omega) = .sv q.1 0 q.2.length := Option.some_inj.1 ((List.getElem?_eq_getElem _).symm.trans hg)
                obtain ⟨e1, e2, e3, e4, e5⟩ := h.each q (List.mem_of_getElem? hq)
                have hsum := sumLen_set (x := (n1 + 1 + 1 + 1, q.2 ++ [⟨2, 0⟩])) hq
                have hqs : q.2.length ≤ sumLen parts := sumLen_mem (List.mem_of_getElem? hq)
                have f1 := far (show pid < n1 by omega)
                have f2 := far (show rid < n1 by omega)
                have f3 := far (show q.1 < n1 by omega)
                have a1 : ¬ pid = rid := by omega
                have a2 : ¬ q.1 = rid := by omega
                have wl : IntKind.wrap .i64 ((left : Int) - 1) = ((left - 1 : Nat) : Int) := by rw [w64 (by omega) (by omega)]; omega
                have b1 : (q.2.length) * 16 ≤ 140737488355328 := by omega
                have b2 : (q.2.length + 1) * 16 ≤ 140737488355328 := by omega
                have hat1 : ap < parts.length := by omega
                have hat2 : ap + 1 ≤ parts.length := by omega
                simp -dsimp [h0, h7, h9, h10, hr2, hl1, hmu, hrow, hg, hg2, e4, f1, f2, f3, a1, a2, e3, wl, b1, b2, hat, hat1, hat2]
                refine ⟨?_, by omega⟩
                refine st_out fun s' ht hm' hn' hu' => ?_
                have t0 := ht 0
                have t2 := ht 2
                have t7 := ht 7
                have t9 := ht 9
                simp -dsimp [h0, h2, h7] at t0 t2 t7 t9 hm' hn' hu'
                clear ht
                refine ⟨parts.set ap (n1 + 1 + 1 + 1, q.2 ++ [⟨2, 0⟩]), pid, left - 1, p' + 1, t0, t2, by simp [t7], t9, by simp; omega, by simp at hsum ⊢; omega, by omega, by simp; omega, ?_⟩
                refine h.next hr (by rw [hu', hmu]) hn1 (by omega) (.inl rfl) (by omega) ?_ ?_ ?_ ?_
                · simp [hm', partsT, List.map_set]
                · simp [hm', f1, f2, a1, Ne.symm a1]
                · intro j j1 j2 j3
                  simp [hm', far j1, j2, j3]
                · intro y hy
                  rcases List.mem_or_eq_of_mem_set hy with hy | rfl
                  · exact .inl hy
                  · right; have := fit_mk (k := 2) (a := 0) (by omega) (by omega) (by omega) (by omega); simp [hm', f1, mkT_append, mkT, e5.2, this]; omega
              · simp -dsimp [hr2]
                exact ⟨parts, pid, left, ap, p' + 1, by simp [h0], by simp [h2], by simp [h7], by simp [h9], by simp [h10], by omega, by omega, by omega, by omega, by omega, h.read hr (by simp [hmu]) (by simp; omega) (by simp)⟩
          · rintro s6 ⟨parts, pid, left, ap, p', h0, h2, h7, h9, h10, hat, hM, hs, hp0, hpp, h⟩
            have hrow := h.row
            have hrd := h.rd
            have hmu := h.mu
            have hpid := h.pid1
            have hpid0 := h.pid0
            have hnn := h.n
            obtain ⟨q1, q2, hq1, hq2, hsplit⟩ := two_split hat
            have hg1 : (partsT parts)[ap]? = some (.sv q1.1 0 q1.2.length) := by simp [partsT, hq1]
            have hg1' : (partsT parts)[ap]'(by simp; omega) = .sv q1.1 0 q1.2.length := Option.some_inj.1 ((List.getElem?_eq_getElem _).symm.trans hg1)
            have hg2 : (partsT parts)[ap + 1]? = some (.sv q2.1 0 q2.2.length) := by simp [partsT, hq2]
            have hg2' : (partsT parts)[ap + 1]'(by simp; omega) = .sv q2.1 0 q2.2.length := Option.some_inj.1 ((List.getElem?_eq_getElem _).symm.trans hg2)
            obtain ⟨e1, e2, e3, e4, e5⟩ := h.each q1 (List.mem_of_getElem? hq1)
            obtain ⟨d1, d2, d3, d4, d5⟩ := h.each q2 (List.mem_of_getElem? hq2)
            have hsum : sumLen (parts.take ap) + (q1.2.length + q2.2.length) + sumLen (parts.drop (ap + 2)) = sumLen parts := by
              conv => rhs; rw [hsplit]
              simp [sumLen]; omega
            have f1 := far hpid
            have f2 := far (show rid < s6.n by omega)
            have f3 := far e2
            have f4 := far d2
            have a1 : ¬ pid = rid := by omega
            have a2 : ¬ q1.1 = rid := by omega
            have a3 : ¬ q2.1 = rid := by omega
            have w1 : IntKind.wrap .i64 ((ap : Int) + 1) = ((ap + 1 : Nat) : Int) := by rw [w64 (by omega) (by omega)]; omega
            have w2 : (0 : Int) ≤ (ap : Int) + 1 := by omega
            have w3 : (ap : Int) + 1 < parts.length := by omega
            have w4 : ((ap : Int) + 1).toNat = ap + 1 := by omega
            have b1 : (q1.2.length) * 16 ≤ 140737488355328 := by omega
            have b2 : (q1.2.length + q2.2.length) * 16 ≤ 140737488355328 := by omega
            have hat1 : ap < parts.length := by omega
            have hat2 : ap + 1 ≤ parts.length := by omega
            have hat3 : ap + 1 + 1 ≤ parts.length := by omega
            simp only [twp_seq]
            refine twp_draw [1, 2, 3, 4, 6, 7, 8, 9, 10, 12, 0, 5, 11, 13, 14, 15, 16, 17, 18] [pid] (List.replicate 19 [0]) (List.replicate 19 [0]) (by kernel_rfl) (by kernel_rfl) (by kernel_rfl) (by kernel_rfl) ?_
            simp -dsimp [List.range_succ, h0, h7, h10, hmu, hrow, hg1, hg1', hg2, hg2', e4, d4, f1, f2, f3, f4, a1, a2, a3, e3, d3, w1, w2, w3, w4, b1, b2, hat, hat1, hat2, hat3]
            refine callS_ (pick_at bs p' (by omega) _ _ _ rid (by simp [f1, f2, hrd])) ?_
            rintro t m' n1 ⟨hn1, ⟨r, rfl, hr0, hr1⟩, rfl⟩
            have g1 := far (show pid < n1 by omega)
            have g2 := far (show rid < n1 by omega)
            have g5 := far (show s6.n + 1 + 1 < n1 by omega)
            have hr9 := hr1 (by omega)
            have w9 : IntKind.wrap .i64 (3 + r) = 3 + r := w64 (by omega) (by omega)
            have c1 : (q1.2.length + q2.2.length) * 2 ≤ q1.2.length * 2 + q2.2.length * 2 := by omega
            have c2 : (q1.2.length + q2.2.length + 1) * 16 ≤ 140737488355328 := by omega
            have c3 : List.take ((q1.2.length + q2.2.length) * 2) (mkT q1.2 ++ mkT q2.2) = mkT q1.2 ++ mkT q2.2 := List.take_of_length_le (by simp; omega)
            have c4 : ap * 24 ≤ 140737488355328 := by omega
            have c5 : (ap + 1) * 24 ≤ 140737488355328 := by omega
            have c6 : (ap + 1 + (parts.length - (ap + 2))) * 24 ≤ 140737488355328 := by omega
            have c7 : ap ≤ parts.length := by omega
            have c8 : (0 : Int) ≤ ap := by omega
            have c9 : (ap : Int) ≤ parts.length := by omega
            have w5 : IntKind.wrap .i64 ((ap : Int) + 2) = ((ap + 2 : Nat) : Int) := by rw [w64 (by omega) (by omega)]; omega
            have w6 : (0 : Int) ≤ (ap : Int) + 2 := by omega
            have w7 : (ap : Int) + 2 ≤ parts.length := by omega
            have w8 : ((ap : Int) + 2).toNat = ap + 2 := by omega
            have c10 : ap + 2 + (parts.length - (ap + 2)) ≤ parts.length := by omega
            have c11 : List.take (parts.length - (ap + 2)) (List.drop (ap + 2) (partsT parts)) = List.drop (ap + 2) (partsT parts) := List.take_of_length_le (by simp)
            simp -dsimp [List.range_succ, h0, h7, h10, hmu, hrow, f1, f2, f3, f4, g1, g2, g5, a1, c11, c1, c2, c3, c4, c5, c6, c7, c8, c9, c10, w5, w6, w7, w8]
            refine ⟨?_, by first | omega | (simp [h9]; omega)⟩
            refine st_out fun s' ht hm' hn' hu' => ?_
            have t0 := ht 0
            have t2 := ht 2
            have t7 := ht 7
            have t9 := ht 9
            simp -dsimp [h0, h2, h9] at t0 t2 t7 t9 hm' hn' hu'
            clear ht
            have hlen : (parts.take ap ++ [(n1 + 1, q1.2 ++ q2.2 ++ [(⟨IntKind.wrap .i64 (3 + r), 0⟩ : Mark)])] ++ parts.drop (ap + 2)).length = ap + 1 + (parts.length - (ap + 2)) := by
              simp; omega
            refine ⟨parts.take ap ++ [(n1 + 1, q1.2 ++ q2.2 ++ [(⟨IntKind.wrap .i64 (3 + r), 0⟩ : Mark)])] ++ parts.drop (ap + 2), n1 + 1 + 1 + 1 + 1 + 1 + 1, left, p' + 1, t0, t2, by rw [t7, hlen], t9, by omega, ?_, by omega, by omega, ?_⟩
            · have : sumLen [(n1 + 1, q1.2 ++ q2.2 ++ [(⟨IntKind.wrap .i64 (3 + r), 0⟩ : Mark)])] = q1.2.length + q2.2.length + 1 := by simp [sumLen]; omega
              rw [hlen, sumLen_append, sumLen_append, this]; omega
            refine h.next hr (by rw [hu', hmu]) (Nat.le_refl _) (by omega) (.inr (by omega)) (by omega) ?_ ?_ ?_ ?_
            · have e1 : List.take (ap + 1) (List.take ap (List.take ap (partsT parts)) ++ [T.sv (n1 + 1) 0 (q1.2.length + q2.2.length + 1)]) = List.take ap (partsT parts) ++ [T.sv (n1 + 1) 0 (q1.2.length + q2.2.length + 1)] := by
                rw [List.take_take, Nat.min_self]; exact List.take_of_length_le (by simp; omega)
              have e2 : partsT (parts.take ap ++ [(n1 + 1, q1.2 ++ q2.2 ++ [⟨IntKind.wrap .i64 (3 + r), 0⟩])] ++ parts.drop (ap + 2)) = List.take ap (partsT parts) ++ [T.sv (n1 + 1) 0 (q1.2.length + q2.2.length + 1)] ++ List.drop (ap + 2) (partsT parts) := by
                simp [partsT, List.map_take, List.map_drop]; omega
              rw [e2, hm']; simp [e1]
            · simp [hm', f2, g2, Ne.symm a1]
            · intro j j1 j2 j3
              have j4 := far (show j < n1 by omega)
              simp [hm', far j1, j2, j3, j4]
            · intro y hy
              rcases List.mem_append.1 hy with hy | hy
              · rcases List.mem_append.1 hy with hy | hy
                · exact .inl (List.mem_of_mem_take hy)
                · cases List.mem_singleton.1 hy
                  right; have := fit_mk (k := IntKind.wrap .i64 (3 + r)) (a := 0) (by rw [w9]; omega) (by rw [w9]; omega) (by omega) (by omega); simp [hm', f1, g1, mkT_append, mkT, e5.2, d5.2, this]; omega
              · exact .inl (List.mem_of_mem_drop hy)
        · simp -dsimp
          exact ⟨parts, pid, left, r, p' + 1, by simp [h0], by simp [h2], by simp [h7], by simp [h9], by simp, by omega, rfl, by omega, by omega, by omega, h.read hr (by simp [hmu]) (by simp; omega) (by simp)⟩
    · rintro s ⟨x, pid, p', h0, h2, h7, hx, hp0, hpp, h⟩
      have hrow := h.row
      have hrd := h.rd
      have hmu := h.mu
      have hpid := h.pid1
      have hpid0 := h.pid0
      have hnn := h.n
      obtain ⟨e1, e2, e3, e4, e5⟩ := h.each x (List.mem_singleton.2 rfl)
      simp -dsimp [h0, h7, hrow, partsT]
      refine callS_ (pick_at bs p' (by omega) _ _ _ rid hrd) ?_
      rintro t m' n1 ⟨hn1, ⟨r, rfl, hr0, hr1⟩, rfl⟩
      refine opsP_mono (Q := fun s => (∃ b : Bool, s.tm 112 = .v (.bool b)) ∧ TI5 m n rid bs p k 0 s) ?_ _ _ ?_
      · rintro s7 ⟨⟨b, h112⟩, hs7⟩
        simp only [thenP_normal]
        refine twp_cutQ (TI5 m n rid bs p k 1) ?_ ?_
        · obtain ⟨i, ms, p', h0, h2, h13, hfit, hl1, hl2, hp0, hpp, hmu, hi0, hi, hnn, hrow, hrd, hout⟩ := hs7
          cases b with
          | false =>
            simp -dsimp [h112]
            exact ⟨i, ms, p', h0, h2, h13, hfit, hl1, by omega, hp0, hpp, hmu, hi0, hi, hnn, hrow, hrd, hout⟩
          | true =>
            have f1 := far hi
            have f2 := far (show rid < s7.n by omega)
            have b1 : (ms.length + 1) * 16 ≤ 140737488355328 := by omega
            simp -dsimp [h112, h13, hmu, hrow, f1, f2, b1]
            refine st_out fun s' ht hm' hn' hu' => ?_
            have t0 := ht 0
            have t2 := ht 2
            have t13 := ht 13
            simp -dsimp [h0, h2] at t0 t2 t13 hm' hn' hu'
            clear ht
            refine ⟨s7.n + 1, ms ++ [⟨2, 0⟩], p', t0, t2, by simp [t13], by simp [hfit]; exact fit_mk (by omega) (by omega) (by omega) (by omega), by simp, by simp; omega, hp0, hpp, by rw [hu', hmu], by omega, by omega, by omega, ?_, ?_, ?_⟩
            · simp [hm', mkT_append, mkT]
            · simp [hm', f2, hrd]; omega
            · intro j j1 j2
              have j4 := far (show j < s7.n by omega)
              simp [hm', j4, hout j j1 j2]; omega
        · clear hs7 h112
          rintro s8 ⟨i, ms, p', h0, h2, h13, hfit, hl1, hl2, hp0, hpp, hmu, hi0, hi, hnn, hrow, hrd, hout⟩
          simp -dsimp [h0, h2]
          refine callS_ (odd_at bs p' (by omega) k hk _ _ rid hrd) ?_
          rintro t m' n2 ⟨hn2, ⟨b, rfl, hb0⟩, p2, hp1, hp2, rfl⟩
          cases b with
          | false =>
            simp -dsimp [h13]
            have a1 : ¬ i = rid := by omega
            refine ⟨by omega, i, ms, rfl, hi0, by omega, by simp [a1, hrow], by omega, hfit, fun j j1 j2 => by simp [j2, hout j j1 j2], p2, by omega, by omega, by simp⟩
          | true =>
            simp -dsimp [h0, h13]
            refine callS_ (pick_at bs p2 (by omega) _ _ _ rid (by simp)) ?_
            rintro t m' n3 ⟨hn3, ⟨r, rfl, hr0, hr1⟩, rfl⟩
            by_cases hr00 : r = 0
            · have f2 := far (show rid < n3 by omega)
              simp -dsimp [hr00, hmu]
              refine ⟨by omega, n3, [], rfl, by omega, by omega, by simp, by simp, by simp, fun j j1 j2 => ?_, p2 + 1, by omega, by omega, by simp [f2]⟩
              have j4 := far (show j < n3 by omega)
              simp [j2, j4, hout j j1 j2]
            · by_cases hr01 : r = 1
              · have f1 := far (show i < n3 by omega)
                have f2 := far (show rid < n3 by omega)
                have b1 : (ms.length + 1) * 16 ≤ 140737488355328 := by omega
                have a1 : ¬ i = rid := by omega
                have a2 : ¬ rid = i := by omega
                simp -dsimp [hr01, hmu, h13, hrow, f1, f2, a1, b1]
                refine ⟨by omega, n3 + 1, ms ++ [⟨5, 0⟩], by simp, by omega, by omega, by simp [mkT_append, mkT], by simp; omega, by simp [hfit]; exact fit_mk (by omega) (by omega) (by omega) (by omega), fun j j1 j2 => ?_, p2 + 1, by omega, by omega, by simp [f2, a2]⟩
                have j4 := far (show j < n3 by omega)
                have j5 : ¬ j = i := by omega
                simp [j2, j4, j5, hout j j1 j2]
              · have a1 : ¬ i = rid := by omega
                have b1 : 0 < ms.length := by omega
                have b2 : 2 ≤ ms.length * 2 := by omega
                simp -dsimp [hr00, hr01, h13, h0, hrow, a1, b1]
                refine callS_ (pick_at bs (p2 + 1) (by omega) _ _ _ rid (by simp)) ?_
                rintro t m' n4 ⟨hn4, ⟨r2, rfl, hr2, hr3⟩, rfl⟩
                have f1 := far (show i < n4 by omega)
                have f2 := far (show rid < n4 by omega)
                simp -dsimp [hmu, h13, hrow, f1, f2, a1, b1, b2]
                obtain ⟨x0, rest, rfl⟩ : ∃ x0 rest, ms = x0 :: rest := by
                  cases ms with
                  | nil => simp at hl1
                  | cons a b => exact ⟨a, b, rfl⟩
                refine ⟨by omega, i, ⟨r2, 6⟩ :: rest, rfl, hi0, by omega, by simp [mkT], by simp at hl2 ⊢; omega, by simp at hfit ⊢; exact ⟨fit_mk hr2 (by have := hr3 (by omega); omega) (by omega) (by omega), hfit.2⟩, fun j j1 j2 => ?_, p2 + 1 + 1, by omega, by omega, by simp [f2]; omega⟩
                have j5 : ¬ j = i := by omega
                simp [j2, j5, hout j j1 j2]
      · simp -dsimp
        refine ⟨x.1, x.2, p' + 1, by simp [h0], by simp [h2], by simp, e5.2, e5.1, by omega, by omega, by omega, by simp [hmu], by omega, by simp; omega, by simp; omega, ?_, by simp, ?_⟩
        · have a1 : ¬ x.1 = rid := by omega
          simp [a1, e4]
        · intro j j1 j2
          simp [j2, h.out j j1 j2]
end TL

/- Drawn claims and places. -/
set_option linter.unusedSimpArgs false
set_option linter.unusedVariables false
set_option maxRecDepth 100000
set_option maxHeartbeats 4000000
set_option pp.maxSteps 1500
namespace TL
open Go Go.Proofs
theorem mapO_mkT (k : Bool) (m : Mem) (d : Nat) (l : List Mark) : mapO (bor k m d) (mkT l) = some (l.flatMap fun x => [V.int .i64 x.kind, V.int .i64 x.num]) := by
  induction l with
  | nil => rfl
  | cons x xs ih => simp [mkT, mapO, ih]
theorem chunk_marks (l : List Mark) : chunk 2 l.length (l.flatMap fun x => [V.int .i64 x.kind, V.int .i64 x.num]) = l.map Mark.v := by
  induction l with
  | nil => rfl
  | cons x xs ih => simp [chunk, ih, Mark.v]
theorem bor_marks {m : Mem} {i e : Nat} {ms : List Mark} (d : Nat) (h : m i = some (.box e 2 (mkT ms))) : bor true m (d + 1) (.sv i 0 ms.length) = some (marksV ms) := by
  unfold bor
  simp -dsimp [h, mapO_mkT, marksV, chunk_marks]
  rw [tst_pos]
  · rw [chunk_marks]
  · intro x hx
    obtain ⟨y, _, hy⟩ := List.mem_flatMap.1 hx
    simp at hy; rcases hy with rfl | rfl <;> rfl
/-- What a drawing function leaves. -/
def DrawPost (R : V → Prop) (K : Nat) (m0 : Mem) (n0 rid : Nat) (bs : List UInt8) (p : Nat) (t : T) (m' : Mem) (n' : Nat) : Prop := n0 ≤ n' ∧ (∃ x, bor true (upper n0 m') 4 t = some x ∧ R x) ∧
  (∀ j, j < n0 → j ≠ rid → m' j = m0 j) ∧ ∃ p', p ≤ p' ∧ p' ≤ p + K ∧ m' rid = some (rdB bs p')
/-- A drawing function's contract: some value of a kind. -/
def Draws (R : V → Prop) (K : Nat) (m : Mem) (n rid : Nat) (bs : List UInt8) (p : Nat) (t : T) (m' : Mem) (n' : Nat) : Prop := n ≤ n' ∧ (∃ x, R x ∧ t = .v x) ∧ RdTo K m rid bs p m'
theorem Draws_of {f : Nat} {args : List T} {R : V → Prop} {K : Nat} {m : Mem} {n rid : Nat} {bs : List UInt8} {p : Nat} (hr : rid < n) (hf : ∃ fn, Tryz.prog.funcs[f]? = some fn ∧ (fn.name == "runtime.NumGoroutine") = false ∧ fn.body.isNone = false)
    (h : (∀ j, n ≤ j → m j = none) → FnS Tryz.prog f m n args (DrawPost R K m n rid bs p)) : FnS Tryz.prog f m n args (Draws R K m n rid bs p) := by
  refine FnS_fresh hf fun hfr => ?_
  refine (h hfr).frz ?_
  rintro t m' n' ⟨hn, ⟨x, hx, hR⟩, hout, p', hp1, hp2, hrd⟩
  refine ⟨x, updM m rid (some (rdB bs p')), upper n m', ?_, ?_, ?_, hx, hn, ⟨x, hR, rfl⟩, p', hp1, hp2, rfl⟩
  · intro j b hb
    by_cases hj : j = rid
    · subst hj; simp at hb; rw [hrd, hb]
    · rw [updM_ne _ _ hj] at hb
      have : j < n := by
        by_cases h : j < n
        · exact h
        · rw [hfr j (by omega)] at hb; cases hb
      rw [hout j this hj, hb]
  · intro j b hb
    by_cases h : n ≤ j
    · simpa [h] using hb
    · simp [h] at hb
  · intro j
    by_cases h : n ≤ j
    · left; rw [updM_ne _ _ (by omega), hfr j h]
    · right; simp [h]
/-- A drawn term: pure. -/
def SomeTerm (x : V) : Prop := ∃ ms : List Mark, ms.length ≤ 20 ∧ fits ms ∧ x = marksV ms
theorem term_z (bs : List UInt8) (p : Nat) (hp : p < 900000000) (people k : Int) (hk : k < 1000000) (m : Mem) (n rid : Nat) (hr : rid < n) (hm : m rid = some (rdB bs p)) :
    FnS Tryz.prog 107 m n [.ptr rid 0, .v (.int .i64 people), .v (.int .i64 k)] (Draws SomeTerm 40 m n rid bs p) := by
  refine Draws_of hr ⟨_, Tryz.func107, rfl, rfl⟩ fun hfr => (term_at bs p hp people k hk m n rid hr hm).weak ?_
  rintro t m' n' ⟨hn, i, ms, rfl, hi, hi', hrow, hl, hfit, hout, p', hp1, hp2, hrd⟩
  exact ⟨hn, ⟨marksV ms, bor_marks (e := 110) 3 (by simp [hi, hrow]), ms, hl, hfit, rfl⟩, hout, p', hp1, hp2, hrd⟩
/-- A drawn claim. -/
def SomeClaim (x : V) : Prop := ∃ c : Claim, c.says.length ≤ 20 ∧ c.fit ∧ x = c.v
theorem claim_z (bs : List UInt8) (p : Nat) (hp : p < 800000000) (people k : Int) (hpe : people < 1000000) (hk0 : 0 ≤ k) (hk : k < 100000) (m : Mem) (n rid : Nat) (hr : rid < n) (hm : m rid = some (rdB bs p)) :
    FnS Tryz.prog 87 m n [.ptr rid 0, .v (.int .i64 people), .v (.int .i64 k)] (Draws SomeClaim 50 m n rid bs p) := by
  refine Draws_of hr ⟨_, Tryz.func87, rfl, rfl⟩ fun hfr => ?_
  refine FnS_of (rs := [.cell 6 89]) false Tryz.func87 rfl rfl rfl rfl (Nat.le_of_ble_eq_true rfl) ?_
  have f1 := far hr
  have wk : IntKind.wrap .i64 (k * 2) = k * 2 := w64 (by omega) (by omega)
  simp -dsimp [wk]
  refine callS_ (pick_at bs p (by omega) _ _ _ rid (by simp [hm]; omega)) ?_
  rintro t m1 n1 ⟨hn1, ⟨r, rfl, hr0, hr1⟩, rfl⟩
  have hr1 := hr1 (by omega)
  simp -dsimp [wk]
  refine callS_ (term_z bs (p + 1) (by omega) _ _ (by omega) _ _ rid (by omega) (by simp)) ?_
  rintro t m2 n2 ⟨hn2, ⟨x, ⟨ms, hl, hfit, rfl⟩, rfl⟩, p2, hp1, hp2, rfl⟩
  have f2 := far (show rid < n2 by omega)
  have f3 := far (show n < n2 by omega)
  simp -dsimp [f1, f2, f3, marksV]
  refine callS_ (odd_at bs p2 (by omega) k (by omega) _ _ rid (by simp [f1, f2, f3])) ?_
  rintro t m3 n3 ⟨hn3, ⟨b, rfl, hb0⟩, p3, hp3, hp4, rfl⟩
  cases b with
  | false =>
    simp -dsimp [f1, f2, f3]
    refine ⟨by omega, ⟨_, by simp; rfl, ⟨r, ms⟩, hl, ⟨⟨by simp only; omega, by simp only; omega⟩, hfit⟩, rfl⟩, fun j j1 j2 => ?_, p3, by omega, by omega, by simp [f1]⟩
    simp [far j1, far (show j < n2 by omega), j2]
  | true => 
    have f4 := far (show n2 < n3 by omega)
    have f5 := far (show n < n3 by omega)
    have f6 := far (show rid < n3 by omega)
    simp -dsimp [f1, f2, f3, f4, f5, f6]
    refine callS_ (pick_at bs p3 (by omega) _ _ _ rid (by simp [f1, f2, f3, f4, f5, f6])) ?_
    rintro t m4 n4 ⟨hn4, ⟨r2, rfl, hr2, hr3⟩, rfl⟩
    have f7 := far (show n3 < n4 by omega)
    have hr4 : r2 = 0 ∨ r2 = 1 := by have := hr3 (by decide); omega
    rcases hr4 with rfl | rfl
    · simp -dsimp [f1, f2, f3, f4, f5, f6, f7]
      refine ⟨by omega, ⟨_, by simp; rfl, ⟨-1, ms⟩, hl, ⟨⟨by simp, by simp⟩, hfit⟩, rfl⟩, fun j j1 j2 => ?_, p3 + 1, by omega, by omega, by simp [f1, f2, f3, f4, f5, f6]⟩
      simp [far j1, far (show j < n2 by omega), far (show j < n3 by omega), j2]
    · simp -dsimp [f1, f2, f3, f4, f5, f6, f7]
      refine ⟨by omega, ⟨_, by simp; rfl, ⟨4, ms⟩, hl, ⟨⟨by simp, by simp⟩, hfit⟩, rfl⟩, fun j j1 j2 => ?_, p3 + 1, by omega, by omega, by simp [f1, f2, f3, f4, f5, f6]⟩
      simp [far j1, far (show j < n2 by omega), far (show j < n3 by omega), j2]
end TL
