/- The texts of places. -/
import Derived.Test.YtcoapdapigpfgaaDoorFnsQE2
import Derived.Test.YtcoapdapigpfgaaDoorFnsQD
set_option linter.unusedSimpArgs false
set_option linter.unusedVariables false
set_option maxRecDepth 100000
set_option maxHeartbeats 4000000
set_option pp.maxSteps 1500
namespace TL
open Go Go.Proofs
attribute [local simp] marksV storyV codeV Claim.v Place.v Deed.v
/-- The texts of claims with commas between them. -/
noncomputable def storyTx (people : Int) (l : List Claim) : List UInt8 := Go.Lib.join (l.map (claimTx people)) [44]
noncomputable def placeTx (p : Place) : List UInt8 := if placeOk p = true then dec p.people ++ 32 :: (if p.story = [] then [46] else storyTx p.people p.story) else []
theorem claim_cellsE (c : Claim) : c.v.cells = [.int .i64 c.who, marksV c.says] := rfl
theorem claimTx_short (people : Int) (c : Claim) : (claimTx people c).length ≤ 27 := by
  have hk := ft (claimOk people c)
  rcases hk with hk | hk
  · unfold claimTx; rw [if_neg (by simp [hk])]; simp
  · exact (claimTx_len hk).2.1
theorem joinTail_len (xs : List (List UInt8)) (h : ∀ x ∈ xs, x.length ≤ 27) : (Go.Lib.joinTail [44] xs).length ≤ 28 * xs.length := by
  induction xs with
  | nil => simp [Go.Lib.joinTail]
  | cons x xs ih =>
    have h1 := h x (List.mem_cons_self ..)
    have h2 := ih fun y hy => h y (List.mem_cons_of_mem _ hy)
    simp only [Go.Lib.joinTail, List.map_cons, List.flatten_cons, List.length_append, List.length_cons, List.length_nil] at h2 ⊢
    omega
theorem join_len (xs : List (List UInt8)) (h : ∀ x ∈ xs, x.length ≤ 27) : (Go.Lib.join xs [44]).length ≤ 28 * xs.length + 27 := by
  cases xs with
  | nil => simp [Go.Lib.join_nil]
  | cons x xs =>
    rw [Go.Lib.join_cons]
    have h1 := h x (List.mem_cons_self ..)
    have h2 := joinTail_len xs fun y hy => h y (List.mem_cons_of_mem _ hy)
    simp only [List.length_append, List.length_cons]; omega
theorem storyTx_len (people : Int) (l : List Claim) : (storyTx people l).length ≤ 28 * l.length + 27 := by
  have := join_len (l.map (claimTx people)) (fun x hx => by obtain ⟨c, _, rfl⟩ := List.mem_map.1 hx; exact claimTx_short people c)
  simpa [storyTx] using this
theorem placeOk_all {p : Place} (h : placeOk p = true) : 1 ≤ p.people ∧ p.people ≤ 4 ∧ p.story.length ≤ 6 ∧ ∀ c ∈ p.story, claimOk p.people c = true := by
  simp only [placeOk, storyOk, peopleOk, Bool.and_eq_true, decide_eq_true_eq, List.all_eq_true] at h
  exact ⟨by omega, by omega, by omega, h.1.1⟩
theorem placeTx_no {p : Place} (h : placeOk p = false) : placeTx p = [] := by unfold placeTx; rw [if_neg (by simp [h])]
/-- The program. -/
def Ipt (p : Place) (e : Nat) (s : S) : Prop := ∃ i id : Nat, s.tm 1 = .ptr 0 0 ∧ s.m 0 = some (.box 36 2 [.v (.int .i64 p.people), .v (storyV p.story)]) ∧ s.tm 3 = .loc id ∧ 0 < id ∧ id < s.n ∧ s.m id = some (.arr 9 (((p.story.take i).map (claimTx p.people)).map V.str)) ∧
  s.tm 11 = .v (.sl (p.story.map Claim.v)) ∧ s.tm 12 = .v (.int .i64 p.story.length) ∧ s.tm 13 = .v (.int .i64 i) ∧ s.mu = false ∧ i ≤ p.story.length ∧ (e = 1 → i = p.story.length)
theorem placeText_fn (p : Place) (hl : p.story.length < 1000000000000) : FnZ Tryd.prog 22 [p.v] (.str (placeTx p)) := by
  have hok := placeOk_fn p hl
  have hk := ft (placeOk p)
  rcases hk with hk | hk
  · rw [placeTx_no hk]
    refine FnZ_of (rs := [.tmp 2]) false Tryd.func22 rfl rfl rfl rfl (Nat.le_of_ble_eq_true rfl) ?_
    simp -dsimp
    refine call_ hok (by simp -dsimp) ?_
    simp -dsimp [hk]
  obtain ⟨hp1, hp4, hl6, hcl⟩ := placeOk_all hk
  have hit := itoa_fn p.people (by omega) (by omega)
  have hdl := dec_len (n := p.people) (by omega) (by omega)
  have hst := storyTx_len p.people p.story
  have e0 : placeTx p = dec p.people ++ 32 :: (if p.story = [] then [46] else storyTx p.people p.story) := by unfold placeTx; rw [if_pos hk]
  rw [e0]
  refine FnZ_of (rs := [.tmp 2]) false Tryd.func22 rfl rfl rfl rfl (Nat.le_of_ble_eq_true rfl) ?_
  simp -dsimp
  refine call_ hok (by simp -dsimp) ?_
  simp -dsimp [hk]
  refine twp_loopC (Ipt p 0) (fun s => p.story.length - natOf (s.tm 13)) (Ipt p 1) ?_ ?_ ?_
  · exact ⟨0, 1, by simp -dsimp, by simp -dsimp, by simp -dsimp, by omega, by simp -dsimp, by simp -dsimp, by simp -dsimp, by simp -dsimp, by simp -dsimp, by simp -dsimp, by omega, by simp⟩
  · rintro s ⟨i, id, t1, m0, t3, hid0, hid, hm, t11, t12, t13, hmu, hi, hend⟩
    by_cases hlt : i < p.story.length
    case neg =>
      simp -dsimp [t12, t13, hlt]
      exact ⟨i, id, by simp -dsimp [t1], by simp -dsimp [m0], by simp -dsimp [t3], hid0, by simp -dsimp [hid], by simp -dsimp [hm], by simp -dsimp [t11], by simp -dsimp [t12], by simp -dsimp [t13], by simp -dsimp [hmu], hi, fun _ => by omega⟩
    have hget : (p.story.map Claim.v)[i]? = some (p.story[i].v) := by simp [hlt]
    have wi : IntKind.wrap .i64 ((i : Int) + 1) = ((i + 1 : Nat) : Int) := by rw [w64 (by omega) (by omega)]; omega
    have hmu1 : p.story.length - (i + 1) < p.story.length - i := by omega
    have f1 := far hid
    have f0 := far (show 0 < s.n by omega)
    have g0 : ¬ id = 0 := by omega
    have b1 : (min i p.story.length + 1) * 16 ≤ 140737488355328 := by omega
    have hct := claimTx_fn p.people p.story[i]
    have hnx : ((p.story.take (i + 1)).map (claimTx p.people)).map V.str = ((p.story.take i).map (claimTx p.people)).map V.str ++ [.str (claimTx p.people p.story[i])] := by
      rw [List.take_succ_eq_append_getElem hlt, List.map_append, List.map_append]; rfl
    simp -dsimp [t1, t3, t11, t12, t13, hlt, hget, m0, hmu, f0, f1, claim_cellsE]
    refine call_ hct (by simp -dsimp) ?_
    simp -dsimp [t1, t3, t11, t12, t13, m0, hm, hmu, f0, f1, b1, wi, hmu1, nes, g0, Ne.symm g0]
    refine st_out fun s' ht hm' hn' hu' => ?_
    have a1 := ht 1
    have a3 := ht 3
    have a11 := ht 11
    have a12 := ht 12
    have a13 := ht 13
    simp -dsimp [t1, t11, t12] at a1 a3 a11 a12 a13 hm' hn' hu'
    clear ht
    refine ⟨i + 1, _, a1, by simp [hm', f0, g0, Ne.symm g0, m0], a3, by omega, by omega, ?_, a11, a12, a13, by rw [hu', hmu], by omega, by simp⟩
    rw [hnx]; simp [hm', nes]
  · rintro s ⟨i, id, t1, m0, t3, hid0, hid, hm, t11, t12, t13, hmu, hi, hend⟩
    have hil := hend rfl
    rw [hil, List.take_length] at hm
    have f1 := far hid
    have f0 := far (show 0 < s.n by omega)
    have g0 : ¬ id = 0 := by omega
    by_cases hs : p.story = []
    · have hm2 : s.m id = some (.arr 9 []) := by rw [hm, hs]; rfl
      have hj := join_fn [[46]] [44] (by simp) (by rw [Go.Lib.join_one]; simp)
      rw [Go.Lib.join_one] at hj
      have e1 : (if p.story = [] then [46] else storyTx p.people p.story) = ([46] : List UInt8) := if_pos hs
      have b1 : ((dec p.people).length : Int) + 1 ≤ 9223372036854775807 := by omega
      have b2 : ((dec p.people).length : Int) + 1 + 1 ≤ 9223372036854775807 := by omega
      have b3 : ((dec p.people).length : Int) + (1 + 1) ≤ 9223372036854775807 := by omega
      rw [e1]
      generalize dec p.people = d at *
      simp -dsimp [t1, t3, m0, hm2, hmu, f0, f1, nes, g0, Ne.symm g0]
      refine call_ hit (by simp -dsimp) ?_
      simp -dsimp [t1, t3, m0, hm2, hmu, f0, f1, nes, g0, Ne.symm g0, b1]
      refine call_ hj (by simp -dsimp [f0, f1, nes, g0]) ?_
      simp -dsimp [b1, b2, b3]
    · have hlen : ¬ ((p.story.map (claimTx p.people)).map V.str) = [] := by simpa using hs
      have hlen2 : ¬ (((p.story.map (claimTx p.people)).map V.str).length : Int) = 0 := fun h => hlen (List.length_eq_zero_iff.1 (by omega))
      have hj := join_fn (p.story.map (claimTx p.people)) [44] (by simp; omega) (Nat.le_trans hst (by omega))
      have hj : FnZ Tryd.prog 63 [.sl ((p.story.map (claimTx p.people)).map V.str), .str [44]] (.str (storyTx p.people p.story)) := hj
      have e1 : (if p.story = [] then [46] else storyTx p.people p.story) = storyTx p.people p.story := if_neg hs
      have b1 : ((dec p.people).length : Int) + 1 ≤ 9223372036854775807 := by omega
      have b2 : ((dec p.people).length : Int) + 1 + (storyTx p.people p.story).length ≤ 9223372036854775807 := by omega
      have b3 : ((dec p.people).length : Int) + (1 + (storyTx p.people p.story).length) ≤ 9223372036854775807 := by omega
      rw [e1]
      generalize dec p.people = d at *
      generalize storyTx p.people p.story = st at *
      generalize (p.story.map (claimTx p.people)).map V.str = row at *
      simp -dsimp [t1, t3, m0, hm, hmu, f0, f1, nes, g0, Ne.symm g0, hlen, hlen2]
      refine call_ hit (by simp -dsimp) ?_
      simp -dsimp [t1, t3, m0, hm, hmu, f0, f1, nes, g0, Ne.symm g0, b1]
      refine call_ hj (by simp -dsimp [hm]) ?_
      simp -dsimp [b1, b2, b3]
/-- The reference. -/
def Ispt (p : Place) (e : Nat) (s : S) : Prop := ∃ i : Nat, s.tm 1 = .ptr 0 0 ∧ s.m 0 = some (.box 36 2 [.v (.int .i64 p.people), .v (storyV p.story)]) ∧ s.tm 3 = .v (.str (storyTx p.people (p.story.take i))) ∧
  s.tm 4 = .v (.int .i64 i) ∧ s.mu = false ∧ i ≤ p.story.length ∧ (e = 1 → i = p.story.length)
@[simp] theorem storyTx_nil (people : Int) : storyTx people [] = [] := rfl
theorem storyTx_zero (people : Int) (l : List Claim) : storyTx people (l.take 0) = [] := rfl
theorem storyTx_first (people : Int) (l : List Claim) (h : 0 < l.length) : storyTx people (l.take 1) = claimTx people l[0] := by
  cases l with
  | nil => simp at h
  | cons c l => simp [storyTx, Go.Lib.join_one]
theorem join_snoc (x : List UInt8) (xs : List (List UInt8)) (y : List UInt8) : Go.Lib.join ((x :: xs) ++ [y]) [44] = Go.Lib.join (x :: xs) [44] ++ [44] ++ y := by
  rw [List.cons_append, Go.Lib.join_cons, Go.Lib.join_cons]
  simp [Go.Lib.joinTail]
theorem storyTx_next (people : Int) (l : List Claim) (i : Nat) (h0 : 0 < i) (h : i < l.length) : storyTx people (l.take (i + 1)) = storyTx people (l.take i) ++ [44] ++ claimTx people l[i] := by
  unfold storyTx
  rw [List.take_succ_eq_append_getElem h, List.map_append]
  cases l with
  | nil => simp at h
  | cons c l =>
    cases i with
    | zero => omega
    | succ i => simp only [List.take_succ_cons, List.map_cons, List.map_nil]; exact join_snoc _ _ _
theorem placeTextS_fn (p : Place) (hf : p.fine) : FnZ Tryd.prog 20 [p.v] (.str (placeTx p)) := by
  have hok := placeOkS_fn p hf
  have hk := ft (placeOk p)
  rcases hk with hk | hk
  · rw [placeTx_no hk]
    refine FnZ_of (rs := [.tmp 2]) false Tryd.func20 rfl rfl rfl rfl (Nat.le_of_ble_eq_true rfl) ?_
    simp -dsimp
    refine call_ hok (by simp -dsimp) ?_
    simp -dsimp [hk]
  obtain ⟨hp1, hp4, hl6, hcl⟩ := placeOk_all hk
  have hit := l1Number2_fn p.people (by omega) (by omega)
  have hdl := dec_len (n := p.people) (by omega) (by omega)
  have hst := storyTx_len p.people p.story
  have e0 : placeTx p = dec p.people ++ 32 :: (if p.story = [] then [46] else storyTx p.people p.story) := by unfold placeTx; rw [if_pos hk]
  rw [e0]
  refine FnZ_of (rs := [.tmp 2]) false Tryd.func20 rfl rfl rfl rfl (Nat.le_of_ble_eq_true rfl) ?_
  simp -dsimp
  refine call_ hok (by simp -dsimp) ?_
  simp -dsimp [hk]
  refine twp_loopC (Ispt p 0) (fun s => p.story.length - natOf (s.tm 4)) (Ispt p 1) ?_ ?_ ?_
  · exact ⟨0, by simp -dsimp, by simp -dsimp, by simp -dsimp [storyTx_zero], by simp -dsimp, by simp -dsimp, by omega, by simp⟩
  · rintro s ⟨i, t1, m0, t3, t4, hmu, hi, hend⟩
    by_cases hlt : i < p.story.length
    case neg =>
      simp -dsimp [t1, t4, m0, hlt]
      exact ⟨i, by simp -dsimp [t1], by simp -dsimp [m0], by simp -dsimp [t3], by simp -dsimp [t4], by simp -dsimp [hmu], hi, fun _ => by omega⟩
    have hget : (p.story.map Claim.v)[i]? = some (p.story[i].v) := by simp [hlt]
    have wi : IntKind.wrap .i64 ((i : Int) + 1) = ((i + 1 : Nat) : Int) := by rw [w64 (by omega) (by omega)]; omega
    have hmu1 : p.story.length - (i + 1) < p.story.length - i := by omega
    have hct := claimTxS_fn p.people p.story[i] (hf.2 _ (List.getElem_mem _))
    have hcl2 := claimTx_short p.people p.story[i]
    have hst2 := storyTx_len p.people (p.story.take i)
    rw [List.length_take] at hst2
    by_cases hi0 : i = 0
    · have hnx : storyTx p.people (p.story.take (i + 1)) = claimTx p.people p.story[i] := by
        subst hi0; exact storyTx_first p.people p.story hlt
      have t3' : s.tm 3 = .v (.str []) := by rw [t3, hi0]; rfl
      have hi1 : ¬ 0 < i := by omega
      have hi1' : ¬ (0 : Int) < (i : Int) := by omega
      have b2 : ((claimTx p.people p.story[i]).length : Int) ≤ 9223372036854775807 := by omega
      simp -dsimp [t1, t3', t4, m0, hlt, hi1, hi1']
      refine twp_draw (List.range 11) [0] (List.replicate 11 [0]) (List.replicate 11 [0]) (by kernel_rfl) (by kernel_rfl) (by kernel_rfl) (by kernel_rfl) ?_
      simp -dsimp [List.range_succ, t1, t3', t4, m0, hget, hlt, claim_cellsE]
      refine call_ hct (by simp -dsimp) ?_
      simp -dsimp [List.range_succ, t1, t3', t4, m0, hget, b2, wi, hmu1]
      exact ⟨i + 1, by simp -dsimp [t1], by simp -dsimp [m0], by simp -dsimp [hnx], by simp -dsimp, by simp -dsimp [hmu], by omega, by simp⟩
    · have hi1 : 0 < i := by omega
      have hi1' : (0 : Int) < (i : Int) := by omega
      have hnx := storyTx_next p.people p.story i hi1 hlt
      generalize hX : storyTx p.people (p.story.take i) = X at *
      have b0 : (X.length : Int) + 1 ≤ 9223372036854775807 := by omega
      have b1 : (X.length : Int) + 1 + (claimTx p.people p.story[i]).length ≤ 9223372036854775807 := by omega
      have b2 : (X.length : Int) + (1 + (claimTx p.people p.story[i]).length) ≤ 9223372036854775807 := by omega
      simp -dsimp [t1, t3, t4, m0, hlt, hi1, hi1', b0]
      refine twp_draw (List.range 11) [0] (List.replicate 11 [0]) (List.replicate 11 [0]) (by kernel_rfl) (by kernel_rfl) (by kernel_rfl) (by kernel_rfl) ?_
      simp -dsimp [List.range_succ, t1, t3, t4, m0, hget, hlt, claim_cellsE, b0]
      refine call_ hct (by simp -dsimp) ?_
      simp -dsimp [List.range_succ, t1, t3, t4, m0, hget, b0, b1, b2, wi, hmu1]
      exact ⟨i + 1, by simp -dsimp [t1], by simp -dsimp [m0], by simp -dsimp [hnx], by simp -dsimp, by simp -dsimp [hmu], by omega, by simp⟩
  · rintro s ⟨i, t1, m0, t3, t4, hmu, hi, hend⟩
    have hil := hend rfl
    rw [hil, List.take_length] at t3
    by_cases hs : p.story = []
    · have e1 : (if p.story = [] then [46] else storyTx p.people p.story) = ([46] : List UInt8) := if_pos hs
      have b1 : ((dec p.people).length : Int) + 1 ≤ 9223372036854775807 := by omega
      have b2 : ((dec p.people).length : Int) + 1 + 1 ≤ 9223372036854775807 := by omega
      have b3 : ((dec p.people).length : Int) + (1 + 1) ≤ 9223372036854775807 := by omega
      have hl0 : (p.story.length : Int) = 0 := by rw [hs]; rfl
      rw [e1]
      generalize dec p.people = d at *
      simp -dsimp [t1, t3, m0, hs, hl0]
      refine call_ hit (by simp -dsimp) ?_
      simp -dsimp [b1, b2, b3]
    · have e1 : (if p.story = [] then [46] else storyTx p.people p.story) = storyTx p.people p.story := if_neg hs
      have b1 : ((dec p.people).length : Int) + 1 ≤ 9223372036854775807 := by omega
      have b2 : ((dec p.people).length : Int) + 1 + (storyTx p.people p.story).length ≤ 9223372036854775807 := by omega
      have b3 : ((dec p.people).length : Int) + (1 + (storyTx p.people p.story).length) ≤ 9223372036854775807 := by omega
      rw [e1]
      generalize dec p.people = d at *
      generalize storyTx p.people p.story = st at *
      simp -dsimp [t1, t3, m0, hs]
      refine call_ hit (by simp -dsimp) ?_
      simp -dsimp [t1, t3, m0, b1, b2, b3]
end TL
