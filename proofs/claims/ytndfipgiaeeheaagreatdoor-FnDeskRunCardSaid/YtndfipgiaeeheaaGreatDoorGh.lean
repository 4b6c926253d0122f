/- TL: parts FnsYC2, FnsYC4, FnsYE11, FnsYD1, FnsYD2, FnsYM2, FnsYE16, FnsYE3, FnsYE6, FnsYE18p, FnsYE5, FnsYE12, FnsYP2. -/
import Derived.Test.YtndfipgiaeeheaaGreatDoorGg
import Derived.Test.YtndfipgiaeeheaaGreatDoorGe
import Derived.Test.YtndfipgiaeeheaaGreatDoorGd
import Derived.Test.YtndfipgiaeeheaaGreatDoorGf
/- Tables of stories, least stories: the program. -/
set_option linter.unusedSimpArgs false
set_option linter.unusedVariables false
set_option maxRecDepth 100000
set_option maxHeartbeats 4000000
set_option pp.maxSteps 1500
namespace TL
open Go Go.Proofs
attribute [local simp] marksV storyV codeV Claim.v Place.v
theorem full_table {p : Nat} (h1 : 1 ≤ p) (h4 : p ≤ 4) : (2 ^ 2 ^ p - 1 : Nat) < 65536 ∧ IntKind.wrap .i64 (IntKind.wrap .i64 (2 ^ min (IntKind.wrap .u64 (2 ^ min p IntKind.u64.bits)).toNat IntKind.i64.bits) - 1) = ((2 ^ 2 ^ p - 1 : Nat) : Int) := by
  have : p = 1 ∨ p = 2 ∨ p = 3 ∨ p = 4 := by omega
  rcases this with rfl | rfl | rfl | rfl <;> exact ⟨by decide, by rfl⟩
def Ist (p : Nat) (l : List Claim) (e : Nat) (s : S) : Prop := ∃ i : Nat, s.tm 0 = .v (.int .i64 p) ∧ s.tm 5 = .v (.int .i64 (storyTab p (l.take i))) ∧ s.tm 12 = .v (.sl (l.map Claim.v)) ∧ s.tm 13 = .v (.int .i64 l.length) ∧ s.tm 14 = .v (.int .i64 i) ∧ i ≤ l.length ∧ (e = 1 → i = l.length)
theorem storyTab_succ {p i : Nat} {l : List Claim} (h : i < l.length) : storyTab p (l.take (i + 1)) = storyTab p (l.take i) &&& claimTab p l[i] := by
  unfold storyTab
  rw [List.take_succ_eq_append_getElem h, List.foldl_append]; rfl
theorem storyTab_small {p : Nat} (h4 : p ≤ 4) (l : List Claim) : storyTab p l < 65536 := table_small h4 (storyTab_le p l)
theorem storyTable_fn (p : Nat) (l : List Claim) (hp1 : 1 ≤ p) (hp4 : p ≤ 4) (hl : l.length ≤ 1048576) (h : ∀ c ∈ l, claimOk p c = true) : FnZ Tryz.prog 35 [.int .i64 p, storyV l] (.int .i64 (storyTab p l)) := by
  obtain ⟨hf1, hf2⟩ := full_table hp1 hp4
  have hp0 : ¬ (p : Int) < 0 := by omega
  refine FnZ_of (rs := [.tmp 4]) false Tryz.func35 rfl rfl rfl rfl (Nat.le_of_ble_eq_true rfl) ?_
  have hsh : ¬ IntKind.wrap .u64 (2 ^ min p IntKind.u64.bits) < 0 := by
    have : p = 1 ∨ p = 2 ∨ p = 3 ∨ p = 4 := by omega
    rcases this with rfl | rfl | rfl | rfl <;> decide
  simp -dsimp [hp0, hsh, hf2]
  refine twp_loopC (Ist p l 0) (fun s => l.length - natOf (s.tm 14)) (Ist p l 1) ?_ ?_ ?_
  · exact ⟨0, by simp -dsimp, by simp -dsimp [storyTab], by simp -dsimp, by simp -dsimp, by simp -dsimp, by omega, by simp⟩
  · rintro s ⟨i, t0, t5, t12, t13, t14, hi, hend⟩
    by_cases hlt : i < l.length
    case neg =>
      simp -dsimp [t13, t14, hlt]
      exact ⟨i, by simp -dsimp [t0], by simp -dsimp [t5], by simp -dsimp [t12], by simp -dsimp [t13], by simp -dsimp [t14], hi, fun _ => by omega⟩
    have hget : (l.map Claim.v)[i]? = some (l[i].v) := by simp [hlt]
    have wi : IntKind.wrap .i64 ((i : Int) + 1) = ((i + 1 : Nat) : Int) := by rw [w64 (by omega) (by omega)]; omega
    have hmu1 : l.length - (i + 1) < l.length - i := by omega
    have hct := claimTable_fn p l[i] (h _ (List.getElem_mem _))
    rw [Int.toNat_natCast] at hct
    have ha := storyTab_small hp4 (l.take i)
    have hb : claimTab p l[i] < 65536 := table_small hp4 (tabN_lt _ _)
    have hs := storyTab_succ (p := p) hlt
    have hand := and_nn (a := storyTab p (l.take i)) (b := claimTab p l[i]) (by omega) (by omega)
    generalize claimTab p l[i] = b at *
    generalize storyTab p (l.take i) = a at *
    simp -dsimp [t0, t5, t12, t13, t14, hlt, hget, nes]
    refine call_ hct (by simp -dsimp) ?_
    simp -dsimp [t0, t5, t12, t13, t14, hand, wi, hmu1]
    exact ⟨i + 1, by simp -dsimp [t0], by simp -dsimp [hs], by simp -dsimp [t12], by simp -dsimp [t13], by simp -dsimp, by omega, by simp⟩
  · rintro s ⟨i, t0, t5, t12, t13, t14, hi, hend⟩
    have := hend rfl
    subst this
    rw [List.take_length] at t5
    simp -dsimp [t5]
theorem allOk_of {people : Int} {l : List Claim} (h : storyOk people l = true) : 1 ≤ people ∧ people ≤ 4 ∧ (∀ c ∈ l, claimOk people c = true) ∧ l.length ≤ 6 := by
  simp only [storyOk, peopleOk, Bool.and_eq_true, decide_eq_true_eq, List.all_eq_true] at h
  exact ⟨h.1.2.1, h.1.2.2, h.1.1, h.2⟩
def storyTableV (people : Int) (l : List Claim) : Int := if storyOk people l = true then (storyTab people.toNat l : Int) else -1
theorem storyTable_v (people : Int) (l : List Claim) (hl : l.length ≤ 1048576) : FnZ Tryz.prog 11 [.int .i64 people, storyV l] (.int .i64 (storyTableV people l)) := by
  have hok := storyOk_fn people l (by omega)
  have hk := ft (storyOk people l)
  rcases hk with hk | hk
  · have e : storyTableV people l = -1 := if_neg (by simp [hk])
    rw [e]
    refine FnZ_of (rs := [.tmp 4]) false Tryz.func11 rfl rfl rfl rfl (Nat.le_of_ble_eq_true rfl) ?_
    simp -dsimp
    refine call_ hok (by simp -dsimp) ?_
    simp -dsimp [hk]
  · have e : storyTableV people l = (storyTab people.toNat l : Int) := if_pos hk
    rw [e]
    obtain ⟨h1, h4, hc, h6⟩ := allOk_of hk
    obtain ⟨p, rfl⟩ := Int.eq_ofNat_of_zero_le (show 0 ≤ people by omega)
    have ht := storyTable_fn p l (by omega) (by omega) hl hc
    refine FnZ_of (rs := [.tmp 4]) false Tryz.func11 rfl rfl rfl rfl (Nat.le_of_ble_eq_true rfl) ?_
    simp -dsimp
    refine call_ hok (by simp -dsimp) ?_
    simp -dsimp [hk]
    refine call_ ht (by simp -dsimp) ?_
    simp -dsimp
theorem cloneClaims_own (l : List Claim) (hl : l.length ≤ 1048576) (m : Mem) (n : Nat) : FnS Tryz.prog 47 m n [.v (storyV l)] (fun t m' n' => n ≤ n' ∧ (∀ j, j < n → m' j = m j) ∧ IsRow m' n n' 53 t (l.map Claim.v)) := by
  have b1 : l.length * 32 ≤ 140737488355328 := by omega
  refine FnS_of (rs := [.tmp 2]) false Tryz.func47 rfl rfl rfl rfl (Nat.le_of_ble_eq_true rfl) ?_
  simp -dsimp [b1]
  refine ⟨⟨by omega, fun j hj => by simp [show ¬ j = n + 1 by omega, show ¬ j = n by omega], .inr ⟨n + 1, rfl, by omega, by omega, by simp⟩⟩, fun h => .inl ⟨rfl, by simp [h]⟩⟩
theorem without_fn (l : List Claim) (k : Nat) (hk : k < l.length) (hl : l.length ≤ 1048576) : FnZ Tryz.prog 22 [storyV l, .int .i64 k] (storyV (l.eraseIdx k)) := by
  have e : l.eraseIdx k = l.take k ++ l.drop (k + 1) := List.eraseIdx_eq_take_drop_succ ..
  have h1 : (k : Int) ≤ l.length := by omega
  have h2 : k ≤ l.length := by omega
  have h3 : k + 1 ≤ l.length := by omega
  have h4 : (k : Int) + 1 ≤ l.length := by omega
  have w1 : IntKind.wrap .i64 ((k : Int) + 1) = (k : Int) + 1 := w64 (by omega) (by omega)
  have b3 : k * 32 ≤ 140737488355328 := by omega
  have b4 : (k + (l.length - (k + 1))) * 32 ≤ 140737488355328 := by omega
  have b2 : (min k l.length + (l.length - (k + 1))) * 32 ≤ 140737488355328 := by omega
  have h5 : ((k : Int) + 1).toNat = k + 1 := by omega
  have h6 : (0 : Int) ≤ (k : Int) + 1 := by omega
  have z2 : allZ 2 (List.drop (k + 1) (List.map Claim.v l)) := by rw [← List.map_drop]; exact allZ_claims _
  have tk : List.take l.length (List.map Claim.v l) = List.map Claim.v l := List.take_of_length_le (by simp)
  have hcl := fun m n => cloneClaims_own (l.take k) (by simp; omega) m n
  rw [e]
  refine FnZ_of (rs := [.tmp 4]) false Tryz.func22 rfl rfl rfl rfl (Nat.le_of_ble_eq_true rfl) ?_
  simp -dsimp
  refine twp_draw [0, 1, 2, 4, 5, 6, 7, 3, 8, 9] [] (List.replicate 10 []) (List.replicate 10 []) (by kernel_rfl) (by kernel_rfl) (by kernel_rfl) (by kernel_rfl) ?_
  simp -dsimp [h1, h2, h3, h4, h5, h6, w1, b2, b3, b4, z2, tk, nes]
  refine callL_ (vs := [storyV (l.take k)]) (hcl _ _) (by simp -dsimp) ?_
  rintro t m1 n1 ⟨hn1, hout, hrow⟩
  rcases hrow with ⟨rfl, hz⟩ | ⟨id, rfl, hi0, hi1, him⟩
  · have hz' : l.take k = [] := by simpa using hz
    have b5 : (l.length - (k + 1)) * 32 ≤ 140737488355328 := by omega
    simp -dsimp [h1, h2, h3, h4, h5, h6, w1, b2, b3, b4, b5, z2, tk, nes, hz']
  · have f1 := far hi1
    simp -dsimp [h1, h2, h3, h4, h5, h6, w1, b2, b3, b4, z2, tk, nes, him, f1]
def Ils5 (p : Nat) (R : List Claim) (e : Nat) (s : S) : Prop := ∃ (i : Nat) (l : List Claim), s.tm 0 = .v (.int .i64 p) ∧ s.tm 6 = .v (.sl (l.map Claim.v)) ∧ s.tm 7 = .v (.int .i64 i) ∧ i ≤ l.length ∧ l.length ≤ 6 ∧ (∀ c ∈ l, claimOk p c = true) ∧ leastGo p (l.length - i) i l = R ∧ (e = 1 → i = l.length)
theorem leastStory_fn (people : Int) (l : List Claim) (h : storyOk people l = true) : FnZ Tryz.prog 23 [.int .i64 people, storyV l] (.tup [storyV (least people.toNat l), .bool true]) := by
  obtain ⟨h1, h4, hc, h6⟩ := allOk_of h
  obtain ⟨p, rfl⟩ := Int.eq_ofNat_of_zero_le (show 0 ≤ people by omega)
  rw [Int.toNat_natCast]
  have hok := storyOk_fn p l (by omega)
  have hsub := least_sub p l
  have hcp := copyStory_fn l (by omega) fun c hx => (claim_fine (hc c hx)).2.2.1
  have hcp2 := copyStory_fn (least p l) (by have := hsub.length_le; omega) fun c hx => (claim_fine (hc c (hsub.subset hx))).2.2.1
  have hR : leastGo p (l.length - 0) 0 l = least p l := rfl
  generalize least p l = R at *
  refine FnZ_of (rs := [.tmp 4, .tmp 5]) false Tryz.func23 rfl rfl rfl rfl (Nat.le_of_ble_eq_true rfl) ?_
  simp -dsimp
  refine call_ hok (by simp -dsimp) ?_
  simp -dsimp [h]
  refine call_ hcp (by simp -dsimp) ?_
  simp -dsimp
  refine twp_loopC (Ils5 p R 0) (fun s => (match s.tm 6 with | .v (.sl xs) => xs.length | _ => 0) - natOf (s.tm 7)) (Ils5 p R 1) ?_ ?_ ?_
  · exact ⟨0, l, by simp -dsimp, by simp -dsimp, by simp -dsimp, by omega, h6, hc, hR, by simp⟩
  · rintro s ⟨i, k, t0, t6, t7, hi, hk6, hkc, hgo, hend⟩
    by_cases hlt : i < k.length
    case neg =>
      simp -dsimp [t6, t7, hlt]
      exact ⟨i, k, by simp -dsimp [t0], by simp -dsimp [t6], by simp -dsimp [t7], hi, hk6, hkc, hgo, fun _ => by omega⟩
    have hw := without_fn k i hlt (by omega)
    have hel : (k.eraseIdx i).length = k.length - 1 := by rw [List.length_eraseIdx]; simp [hlt]
    have hec : ∀ c ∈ k.eraseIdx i, claimOk p c = true := fun c hx => hkc c ((List.eraseIdx_sublist _ _).subset hx)
    have hs1 := storyTable_fn p (k.eraseIdx i) (by omega) (by omega) (by omega) hec
    have hs2 := storyTable_fn p k (by omega) (by omega) (by omega) hkc
    have wi : IntKind.wrap .i64 ((i : Int) + 1) = ((i + 1 : Nat) : Int) := by rw [w64 (by omega) (by omega)]; omega
    have hmu1 : k.length - (i + 1) < k.length - i := by omega
    have hmu2 : k.length - 1 - i < k.length - i := by omega
    simp -dsimp [t0, t6, t7, hlt]
    refine call_ hw (by simp -dsimp) ?_
    simp -dsimp [t0, t6, t7]
    refine call_ hs1 (by simp -dsimp) ?_
    simp -dsimp [t0, t6, t7]
    refine call_ hs2 (by simp -dsimp) ?_
    by_cases hq : storyTab p (k.eraseIdx i) = storyTab p k
    · have hgo2 := leastGo_out hlt hq
      rw [hgo2] at hgo
      have hq' : (storyTab p (k.eraseIdx i) : Int) = storyTab p k := by rw [hq]
      simp -dsimp [t0, t6, t7, hq, hq', hel, hmu2]
      exact ⟨i, k.eraseIdx i, by simp -dsimp [t0], by simp -dsimp, by simp -dsimp [t7], by omega, by omega, hec, hgo, by simp⟩
    · have hgo2 := leastGo_keep hlt hq
      rw [hgo2] at hgo
      have hq' : ¬ (storyTab p (k.eraseIdx i) : Int) = storyTab p k := by omega
      simp -dsimp [t0, t6, t7, hq, hq', wi, hmu1]
      exact ⟨i + 1, k, by simp -dsimp [t0], by simp -dsimp [t6], by simp -dsimp, by omega, hk6, hkc, hgo, by simp⟩
  · rintro s ⟨i, k, t0, t6, t7, hi, hk6, hkc, hgo, hend⟩
    have := hend rfl
    subst this
    rw [leastGo_end rfl (by omega)] at hgo
    subst hgo
    simp -dsimp [t6]
    refine call_ hcp2 (by simp -dsimp) ?_
    simp -dsimp
end TL

/- Tables of stories, least stories: the reference. -/
set_option linter.unusedSimpArgs false
set_option linter.unusedVariables false
set_option maxRecDepth 100000
set_option maxHeartbeats 4000000
set_option pp.maxSteps 1500
namespace TL
open Go Go.Proofs
attribute [local simp] marksV storyV codeV Claim.v Place.v
theorem l4May_fn (people : Int) (c : Claim) (h : claimOk people c = true) (w : Nat) (hw : w < 16) : FnZ Tryz.prog 105 [c.v, .int .i64 w] (.bool (mayB c w)) := by
  obtain ⟨hp1, hp4, h0, h1, ht, hl, hr⟩ := claim_facts h
  obtain ⟨T, hT, eT⟩ := termOk_tree ht
  have hh := l3Holds_fn w hw T hT (by rw [eT]; omega)
  have etr := truth_tm w hT
  rw [eT] at hh etr
  rw [← etr] at hh
  obtain ⟨who, says⟩ := c
  simp only at h0 h1 hl hr hh
  obtain ⟨k, rfl⟩ := Int.eq_ofNat_of_zero_le h0
  have hb := bit2 w k (by omega)
  have z1 : ¬ (k : Int) < 0 := by omega
  have e : mayB ⟨(k : Int), says⟩ w = (truth says w == w.testBit k) := rfl
  rw [e]
  clear etr
  generalize truth says w = tr at *
  have c0 := ft (w.testBit k)
  refine FnZ_of (rs := [.tmp 4]) false Tryz.func105 rfl rfl rfl rfl (Nat.le_of_ble_eq_true rfl) ?_
  simp -dsimp
  refine twp_draw [0, 1, 2, 3, 4, 5, 6, 7, 8, 9, 10, 11] [0] (List.replicate 12 [0]) (List.replicate 12 [0]) (by kernel_rfl) (by kernel_rfl) (by kernel_rfl) (by kernel_rfl) ?_
  rcases c0 with c0 | c0
  · rw [c0] at hb ⊢
    simp -dsimp [z1, hb]
    refine call_ hh (by simp -dsimp) ?_
    cases tr <;> simp -dsimp [z1, hb]
  · rw [c0] at hb ⊢
    simp -dsimp [z1, hb]
    refine call_ hh (by simp -dsimp) ?_
    cases tr <;> simp -dsimp [z1, hb]
def Il4 (N : Nat) (p : Nat) (c : Claim) (e : Nat) (s : S) : Prop := ∃ w : Nat, s.tm 0 = .v (.int .i64 p) ∧ s.tm 3 = .ptr 0 0 ∧ s.m 0 = some (.box 53 2 [.v (.int .i64 c.who), .v (marksV c.says)]) ∧ s.tm 6 = .v (.int .i64 w) ∧ s.tm 5 = .v (.int .i64 (tabN w (mayB c))) ∧ w ≤ N ∧ (e = 1 → w = N)
theorem shl_pow {p : Nat} (h : p ≤ 16) : IntKind.wrap .i64 (2 ^ min p IntKind.i64.bits) = ((2 ^ p : Nat) : Int) ∧ (2 : Nat) ^ p < 4611686018427387904 := by
  have hp : 2 ^ p ≤ 2 ^ 16 := Nat.pow_le_pow_right (by omega) h
  have h2 : (2 : Nat) ^ p < 4611686018427387904 := by omega
  refine ⟨?_, h2⟩
  rw [Nat.min_eq_left (by simp [IntKind.bits]; omega), w64]
  · simp
  · have : (0 : Int) ≤ 2 ^ p := Int.pow_nonneg (by omega)
    omega
  · have : ((2 ^ p : Nat) : Int) = (2 : Int) ^ p := by simp
    omega
theorem l4Table_fn (people : Int) (c : Claim) (h : claimOk people c = true) : FnZ Tryz.prog 93 [.int .i64 people, c.v] (.int .i64 (claimTab people.toNat c)) := by
  obtain ⟨hp1, hp4, h0, h1, ht, hl, hr⟩ := claim_facts h
  obtain ⟨p, rfl⟩ := Int.eq_ofNat_of_zero_le (show 0 ≤ people by omega)
  have e : claimTab (p : Int).toNat c = tabN (2 ^ p) (mayB c) := rfl
  rw [e]
  have hN := pow_small (p := p) (by omega)
  have ws := (shl_pow (p := p) (by omega)).1
  have hm : ∀ w : Nat, w < 2 ^ p → FnZ Tryz.prog 105 [c.v, .int .i64 w] (.bool (mayB c w)) := fun w hw => l4May_fn p c h w (by omega)
  generalize hNN : 2 ^ p = N at *
  have hp0 : ¬ (p : Int) < 0 := by omega
  refine FnZ_of (rs := [.tmp 4]) false Tryz.func93 rfl rfl rfl rfl (Nat.le_of_ble_eq_true rfl) ?_
  simp -dsimp
  refine twp_loopC (Il4 N p c 0) (fun s => N - natOf (s.tm 6)) (Il4 N p c 1) ?_ ?_ ?_
  · exact ⟨0, by simp -dsimp, by simp -dsimp, by simp -dsimp, by simp -dsimp, by simp -dsimp [tabN], by omega, by simp⟩
  · rintro s ⟨w, t0, t3, m0, t6, t5, hw, hend⟩
    by_cases hlt : w < N
    case neg =>
      simp -dsimp [t0, t6, hp0, ws, hlt]
      exact ⟨w, by simp -dsimp [t0], by simp -dsimp [t3], by simp -dsimp [m0], by simp -dsimp [t6], by simp -dsimp [t5], hw, fun _ => by omega⟩
    have wi : IntKind.wrap .i64 ((w : Int) + 1) = ((w + 1 : Nat) : Int) := by rw [w64 (by omega) (by omega)]; omega
    have hmu : N - (w + 1) < N - w := by omega
    have hb := tabN_lt (mayB c) w
    have h2 := (shl_pow (p := w) (by omega)).2
    have wsh := (shl_pow (p := w) (by omega)).1
    have hp : 2 ^ w ≤ 2 ^ 16 := Nat.pow_le_pow_right (by omega) (by omega)
    have hor := or_ni (a := tabN w (mayB c)) (b := 2 ^ w) (x := (2 : Int) ^ w) (by simp) (by omega) h2
    have hgw := ft (mayB c w)
    have hz : ¬ (w : Int) < 0 := by omega
    simp -dsimp [t0, t3, m0, t6, hp0, ws, hlt]
    refine call_ (hm w hlt) (by simp -dsimp) ?_
    rcases hgw with hgw | hgw
    · have ht : tabN (w + 1) (mayB c) = tabN w (mayB c) := by simp [tabN, hgw]
      simp -dsimp [hgw, t5, t6, wi, hmu]
      exact ⟨w + 1, by simp -dsimp [t0], by simp -dsimp [t3], by simp -dsimp [m0], by simp -dsimp, by simp -dsimp [t5, ht], by omega, by simp⟩
    · have ht : tabN (w + 1) (mayB c) = tabN w (mayB c) ||| 2 ^ w := by simp [tabN, hgw]
      simp -dsimp [hgw, t5, t6, wi, hmu, wsh, hor, hz]
      exact ⟨w + 1, by simp -dsimp [t0], by simp -dsimp [t3], by simp -dsimp [m0], by simp -dsimp, by simp -dsimp [ht], by omega, by simp⟩
  · rintro s ⟨w, t0, t3, m0, t6, t5, hw, hend⟩
    have := hend rfl
    subst this
    simp -dsimp [t5]
def Is4 (p : Nat) (l : List Claim) (e : Nat) (s : S) : Prop := ∃ i : Nat, s.tm 0 = .v (.int .i64 p) ∧ s.tm 1 = .v (.sl (l.map Claim.v)) ∧ s.tm 5 = .v (.int .i64 (storyTab p (l.take i))) ∧ s.tm 6 = .v (.int .i64 i) ∧ i ≤ l.length ∧ (e = 1 → i = l.length)
theorem l4Story_fn (p : Nat) (l : List Claim) (hp1 : 1 ≤ p) (hp4 : p ≤ 4) (hl : l.length ≤ 1048576) (h : ∀ c ∈ l, claimOk p c = true) : FnZ Tryz.prog 75 [.int .i64 p, storyV l] (.int .i64 (storyTab p l)) := by
  obtain ⟨hf1, hf2⟩ := full_table hp1 hp4
  have hp0 : ¬ (p : Int) < 0 := by omega
  refine FnZ_of (rs := [.tmp 4]) false Tryz.func75 rfl rfl rfl rfl (Nat.le_of_ble_eq_true rfl) ?_
  have hsh : ¬ IntKind.wrap .u64 (2 ^ min p IntKind.u64.bits) < 0 := by
    have : p = 1 ∨ p = 2 ∨ p = 3 ∨ p = 4 := by omega
    rcases this with rfl | rfl | rfl | rfl <;> decide
  simp -dsimp [hp0, hsh, hf2]
  refine twp_loopC (Is4 p l 0) (fun s => l.length - natOf (s.tm 6)) (Is4 p l 1) ?_ ?_ ?_
  · exact ⟨0, by simp -dsimp, by simp -dsimp, by simp -dsimp [storyTab], by simp -dsimp, by omega, by simp⟩
  · rintro s ⟨i, t0, t1, t5, t6, hi, hend⟩
    by_cases hlt : i < l.length
    case neg =>
      simp -dsimp [t1, t6, hlt]
      exact ⟨i, by simp -dsimp [t0], by simp -dsimp [t1], by simp -dsimp [t5], by simp -dsimp [t6], hi, fun _ => by omega⟩
    have hget : (l.map Claim.v)[i]? = some (l[i].v) := by simp [hlt]
    have wi : IntKind.wrap .i64 ((i : Int) + 1) = ((i + 1 : Nat) : Int) := by rw [w64 (by omega) (by omega)]; omega
    have hmu1 : l.length - (i + 1) < l.length - i := by omega
    have hct := l4Table_fn p l[i] (h _ (List.getElem_mem _))
    rw [Int.toNat_natCast] at hct
    have ha := storyTab_small hp4 (l.take i)
    have hb : claimTab p l[i] < 65536 := table_small hp4 (tabN_lt _ _)
    have hs := storyTab_succ (p := p) hlt
    have hand := and_nn (a := storyTab p (l.take i)) (b := claimTab p l[i]) (by omega) (by omega)
    generalize claimTab p l[i] = b at *
    generalize storyTab p (l.take i) = a at *
    simp -dsimp [t0, t1, t5, t6, hlt, hget]
    refine call_ hct (by simp -dsimp) ?_
    simp -dsimp [t0, t1, t5, t6, hand, wi, hmu1]
    exact ⟨i + 1, by simp -dsimp [t0], by simp -dsimp [t1], by simp -dsimp [hs], by simp -dsimp, by omega, by simp⟩
  · rintro s ⟨i, t0, t1, t5, t6, hi, hend⟩
    have := hend rfl
    subst this
    rw [List.take_length] at t5
    simp -dsimp [t5]
def IlsA (p : Nat) (l : List Claim) (e : Nat) (s : S) : Prop := ∃ i id : Nat, s.tm 0 = .v (.int .i64 p) ∧ s.tm 1 = .v (.sl (l.map Claim.v)) ∧ s.tm 6 = .loc id ∧ id < s.n ∧ s.m id = some (.arr 53 ((l.take i).map Claim.v)) ∧ s.tm 7 = .v (.int .i64 i) ∧ s.mu = false ∧ i ≤ l.length ∧ (e = 1 → i = l.length)
def IlsB (p : Nat) (R : List Claim) (e : Nat) (s : S) : Prop := ∃ (i : Nat) (l : List Claim), s.tm 0 = .v (.int .i64 p) ∧ (s.tm 6 = .v (.sl (l.map Claim.v)) ∨ ∃ id, s.tm 6 = .loc id ∧ s.m id = some (.arr 53 (l.map Claim.v))) ∧ s.tm 8 = .v (.int .i64 i) ∧ i ≤ l.length ∧ l.length ≤ 6 ∧ (∀ c ∈ l, claimOk p c = true) ∧ leastGo p (l.length - i) i l = R ∧ (e = 1 → i = l.length)
theorem leastStoryS_fn (people : Int) (l : List Claim) (h : storyOk people l = true) : FnZ Tryz.prog 56 [.int .i64 people, storyV l] (.tup [storyV (least people.toNat l), .bool true]) := by
  obtain ⟨h1, h4, hc, h6⟩ := allOk_of h
  obtain ⟨p, rfl⟩ := Int.eq_ofNat_of_zero_le (show 0 ≤ people by omega)
  rw [Int.toNat_natCast]
  have hok := storyOkS_fn p l (by omega) fun c hx => (claim_fine (hc c hx)).1
  have hR : leastGo p (l.length - 0) 0 l = least p l := rfl
  generalize least p l = R at *
  refine FnZ_of (rs := [.tmp 4, .tmp 5]) false Tryz.func56 rfl rfl rfl rfl (Nat.le_of_ble_eq_true rfl) ?_
  simp -dsimp
  refine call_ hok (by simp -dsimp) ?_
  simp -dsimp [h]
  refine twp_loopC (IlsA p l 0) (fun s => l.length - natOf (s.tm 7)) (IlsA p l 1) ?_ ?_ ?_
  · exact ⟨0, 0, by simp -dsimp, by simp -dsimp, by simp -dsimp, by simp -dsimp, by simp -dsimp, by simp -dsimp, by simp -dsimp, by omega, by simp⟩
  · rintro s ⟨i, id, t0, t1, t6, hid, hm, t7, hmu, hi, hend⟩
    by_cases hlt : i < l.length
    case neg =>
      simp -dsimp [t1, t7, hlt]
      exact ⟨i, id, by simp -dsimp [t0], by simp -dsimp [t1], by simp -dsimp [t6], by simp -dsimp; omega, by simp -dsimp [hm], by simp -dsimp [t7], by simp -dsimp [hmu], hi, fun _ => by omega⟩
    have hget : (l.map Claim.v)[i]? = some (l[i].v) := by simp [hlt]
    have wi : IntKind.wrap .i64 ((i : Int) + 1) = ((i + 1 : Nat) : Int) := by rw [w64 (by omega) (by omega)]; omega
    have hmu1 : l.length - (i + 1) < l.length - i := by omega
    have f1 := far hid
    have hsm := (claim_fine (hc l[i] (List.getElem_mem _))).2.2.2
    have b0 : l[i].says.length * 16 ≤ 140737488355328 := by omega
    have b1 : (min i l.length + 1) * 32 ≤ 140737488355328 := by omega
    have htk : (l.take (i + 1)).map Claim.v = (l.take i).map Claim.v ++ [l[i].v] := by rw [List.take_succ_eq_append_getElem hlt, List.map_append]; rfl
    simp -dsimp [t1, t7, hlt]
    refine twp_draw [0, 1, 2, 3, 4, 5, 7, 8, 9, 10, 11, 6, 12, 13, 14, 15, 16] [] (List.replicate 17 []) (List.replicate 17 []) (by kernel_rfl) (by kernel_rfl) (by kernel_rfl) (by kernel_rfl) ?_
    simp -dsimp [t1, t6, t7, hlt, hget, hmu, f1, hm, b0, b1, nes, wi, hmu1]
    refine st_out fun s' ht hm' hn' hu' => ?_
    have q0 := ht 0
    have q1 := ht 1
    have q6 := ht 6
    have q7 := ht 7
    simp -dsimp [t0, t1] at q0 q1 q6 q7 hm' hn' hu'
    clear ht
    refine ⟨i + 1, _, q0, q1, q6, by omega, ?_, q7, by rw [hu', hmu], by omega, by simp⟩
    rw [htk]; simp [hm', nes, f1]
  · rintro s ⟨i, id, t0, t1, t6, hid, hm, t7, hmu, hi, hend⟩
    have := hend rfl
    subst this
    rw [List.take_length] at hm
    simp -dsimp
    refine twp_loopC (IlsB p R 0) (fun s => (match s.tm 6 with | .v (.sl xs) => xs.length | .loc _ => 7 | _ => 0) - natOf (s.tm 8)) (IlsB p R 1) ?_ ?_ ?_
    · exact ⟨0, l, by simp -dsimp [t0], .inr ⟨id, by simp -dsimp [t6], by simp -dsimp [hm]⟩, by simp -dsimp, by omega, h6, hc, hR, by simp⟩
    · rintro s ⟨i, k, t0, t6, t8, hi, hk6, hkc, hgo, hend⟩
      by_cases hlt : i < k.length
      case neg =>
        rcases t6 with t6 | ⟨id, t6, hm⟩
        · simp -dsimp [t6, t8, hlt]
          exact ⟨i, k, by simp -dsimp [t0], .inl (by simp -dsimp [t6]), by simp -dsimp [t8], hi, hk6, hkc, hgo, fun _ => by omega⟩
        · simp -dsimp [t6, t8, hlt, hm]
          exact ⟨i, k, by simp -dsimp [t0], .inr ⟨id, by simp -dsimp [t6], by simp -dsimp [hm]⟩, by simp -dsimp [t8], hi, hk6, hkc, hgo, fun _ => by omega⟩
      have hw := l5Without_fn k i hlt (by omega)
      have hel : (k.eraseIdx i).length = k.length - 1 := by rw [List.length_eraseIdx]; simp [hlt]
      have hec : ∀ c ∈ k.eraseIdx i, claimOk p c = true := fun c hx => hkc c ((List.eraseIdx_sublist _ _).subset hx)
      have hs1 := l4Story_fn p (k.eraseIdx i) (by omega) (by omega) (by omega) hec
      have hs2 := l4Story_fn p k (by omega) (by omega) (by omega) hkc
      have wi : IntKind.wrap .i64 ((i : Int) + 1) = ((i + 1 : Nat) : Int) := by rw [w64 (by omega) (by omega)]; omega
      have hmu1 : k.length - (i + 1) < k.length - i := by omega
      have hmu2 : k.length - 1 - i < k.length - i := by omega
      have hmu3 : k.length - 1 - i < 7 - i := by omega
      have hmu4 : 6 - i < 7 - i := by omega
      by_cases hq : storyTab p (k.eraseIdx i) = storyTab p k
      · have hgo2 := leastGo_out hlt hq
        rw [hgo2] at hgo
        have hq' : (storyTab p (k.eraseIdx i) : Int) = storyTab p k := by rw [hq]
        rcases t6 with t6 | ⟨id, t6, hm⟩
        · simp -dsimp [t0, t6, t8, hlt]
          refine call_ hw (by simp -dsimp) ?_
          simp -dsimp [t0, t6, t8]
          refine call_ hs1 (by simp -dsimp) ?_
          simp -dsimp [t0, t6, t8]
          refine call_ hs2 (by simp -dsimp) ?_
          simp -dsimp [t0, t6, t8, hq, hq', hel, hmu2]
          exact ⟨i, k.eraseIdx i, by simp -dsimp [t0], .inl (by simp -dsimp), by simp -dsimp [t8], by omega, by omega, hec, hgo, by simp⟩
        · simp -dsimp [t0, t6, t8, hlt, hm]
          refine call_ hw (by simp -dsimp [hm]) ?_
          simp -dsimp [t0, t6, t8]
          refine call_ hs1 (by simp -dsimp) ?_
          simp -dsimp [t0, t6, t8]
          refine call_ hs2 (by simp -dsimp [hm]) ?_
          simp -dsimp [t0, t6, t8, hq, hq', hel, hmu3]
          exact ⟨i, k.eraseIdx i, by simp -dsimp [t0], .inl (by simp -dsimp), by simp -dsimp [t8], by omega, by omega, hec, hgo, by simp⟩
      · have hgo2 := leastGo_keep hlt hq
        rw [hgo2] at hgo
        have hq' : ¬ (storyTab p (k.eraseIdx i) : Int) = storyTab p k := by omega
        rcases t6 with t6 | ⟨id, t6, hm⟩
        · simp -dsimp [t0, t6, t8, hlt]
          refine call_ hw (by simp -dsimp) ?_
          simp -dsimp [t0, t6, t8]
          refine call_ hs1 (by simp -dsimp) ?_
          simp -dsimp [t0, t6, t8]
          refine call_ hs2 (by simp -dsimp) ?_
          simp -dsimp [t0, t6, t8, hq, hq', wi, hmu1]
          exact ⟨i + 1, k, by simp -dsimp [t0], .inl (by simp -dsimp [t6]), by simp -dsimp, by omega, hk6, hkc, hgo, by simp⟩
        · simp -dsimp [t0, t6, t8, hlt, hm]
          refine call_ hw (by simp -dsimp [hm]) ?_
          simp -dsimp [t0, t6, t8]
          refine call_ hs1 (by simp -dsimp) ?_
          simp -dsimp [t0, t6, t8]
          refine call_ hs2 (by simp -dsimp [hm]) ?_
          simp -dsimp [t0, t6, t8, hq, hq', wi, hmu4]
          exact ⟨i + 1, k, by simp -dsimp [t0], .inr ⟨id, by simp -dsimp [t6], by simp -dsimp [hm]⟩, by simp -dsimp, by omega, hk6, hkc, hgo, by simp⟩
    · rintro s ⟨i, k, t0, t6, t8, hi, hk6, hkc, hgo, hend⟩
      have := hend rfl
      subst this
      rw [leastGo_end rfl (by omega)] at hgo
      subst hgo
      rcases t6 with t6 | ⟨id, t6, hm⟩
      · simp -dsimp [t6]
      · simp -dsimp [t6, hm]
end TL

/- Places read: the reference. -/
set_option linter.unusedSimpArgs false
set_option linter.unusedVariables false
set_option maxRecDepth 100000
set_option maxHeartbeats 4000000
set_option pp.maxSteps 1500
namespace TL
open Go Go.Proofs
attribute [local simp] marksV storyV codeV Claim.v Place.v
/-! Places. -/
theorem cut32_text {p : Place} (h : placeOk p = true) : cutAt 32 (placeTx p) = [[UInt8.ofNat (48 + p.people.toNat)], restTx p] := by
  obtain ⟨h1, h2, _, _⟩ := placeOk_all h
  rw [placeTx_shape h]
  have hd : ∀ y ∈ [UInt8.ofNat (48 + p.people.toNat)], y ≠ 32 := fun y hy => by
    rw [List.mem_singleton.1 hy]
    rcases (by omega : p.people = 1 ∨ p.people = 2 ∨ p.people = 3 ∨ p.people = 4) with e | e | e | e <;> rw [e] <;> decide
  have := cutAt_app (r := restTx p) hd
  rw [cutAt_none fun y hy => (restTx_plain h y hy).1] at this
  exact this
theorem digS_digit {n : Int} (h0 : 1 ≤ n) (h4 : n ≤ 4) : digS [UInt8.ofNat (48 + n.toNat)] = n := by
  rcases (by omega : n = 1 ∨ n = 2 ∨ n = 3 ∨ n = 4) with rfl | rfl | rfl | rfl <;> rfl
theorem parts_two {s x rest : List UInt8} (h : cutAt 32 s = [x, rest]) : parts s (digS x) rest := ⟨(fun e => by rw [e] at h; cases h), fun p hp hs => by
  obtain ⟨h1, h2, _, _⟩ := placeOk_all hp
  rw [← hs, cut32_text hp] at h
  injection h with h3 h4
  injection h4 with h5 _
  rw [← h3, digS_digit h1 h2]
  exact ⟨rfl, h5.symm⟩⟩
theorem readP_parts {s : List UInt8} (h : (cutAt 32 s).length ≠ 2) : readP s = none := readP_none fun p hp hs => by
  rw [← hs, cut32_text hp] at h; exact h rfl
theorem reads_ok {D : Int} {ps : List (List UInt8)} {l : List Claim} (h : ps.map (readC D) = l.map some) : ∀ c ∈ l, claimOk D c = true := fun c hc => by
  have : some c ∈ ps.map (readC D) := by rw [h]; exact List.mem_map_of_mem hc
  obtain ⟨x, _, hx⟩ := List.mem_map.1 this
  exact (readC_is hx).1
theorem claimOk_fine {D : Int} {c : Claim} (h : claimOk D c = true) : c.fine := by
  obtain ⟨_, _, _, _, h5, h6⟩ := claimOk_all h
  exact ⟨termOk_fits h5, by omega⟩
def Isrp (s x rest : List UInt8) (D : Int) (e : Nat) (y : S) : Prop := ∃ (i : Nat) (l : List Claim) (row : T), y.tm 0 = .v (.str s) ∧ y.tm 2 = .ptr 0 0 ∧ y.m 0 = some (.box 25 2 [.v (.int .i64 0), .nil]) ∧ y.tm 5 = .ptr 1 0 ∧
  y.m 1 = some (.box 25 2 [.v (.int .i64 D), row]) ∧ (row = .nil ∧ l = [] ∨ ∃ id, row = .loc id ∧ 1 < id ∧ id < y.n ∧ y.m id = some (.arr 53 (l.map Claim.v))) ∧
  y.tm 4 = .v (.sl [.str x, .str rest]) ∧ y.tm 6 = .v (.sl ((cutAt 44 rest).map V.str)) ∧ y.tm 7 = .v (.int .i64 i) ∧ y.mu = false ∧ 1 < y.n ∧ i ≤ (cutAt 44 rest).length ∧ ((cutAt 44 rest).take i).map (readC D) = l.map some ∧ (rest = [46] → l = []) ∧ (e = 1 → rest = [46] ∨ i = (cutAt 44 rest).length)
end TL

/- What a deed makes of a place: the reference. -/
set_option linter.unusedSimpArgs false
set_option linter.unusedVariables false
set_option maxRecDepth 100000
set_option maxHeartbeats 4000000
set_option pp.maxSteps 1500
namespace TL
open Go Go.Proofs
attribute [local simp] marksV storyV codeV Claim.v Place.v Deed.v
theorem l15Made_fn (p : Place) (a : Deed) (hp : placeOk p = true) (ha : a.words.length ≤ 1000000000) : FnZ Tryz.prog 29 [p.v, a.v] (made p a).v := by
  obtain ⟨hfine, hfit, hsm, hl6⟩ := place_fine hp
  have hpl := fun m n => l15Place_own p hsm m n
  have hrc := readClaimS_fn p.people a.words (by omega)
  have hleast := leastStoryS_fn p.people p.story hp
  have hwo : ∀ k : Nat, k < p.story.length → FnZ Tryz.prog 55 [storyV p.story, .int .i64 k] (storyV (p.story.eraseIdx k)) := fun k hk => l5Without_fn p.story k hk (by omega)
  have hin := l1In_z a.num 0 ((p.story.length : Int) - 1)
  have w1 : IntKind.wrap .i64 ((p.story.length : Int) - 1) = (p.story.length : Int) - 1 := w64 (by omega) (by omega)
  obtain ⟨people, story⟩ := p
  obtain ⟨kind, num, words⟩ := a
  simp only at hrc hleast hwo hin w1 hl6
  have b1 : (story.length + 1) * 32 ≤ 140737488355328 := by omega
  unfold made
  simp only
  by_cases c0 : kind = 0 ∧ num = 0
  · obtain ⟨rfl, rfl⟩ := c0
    rw [if_pos ⟨rfl, rfl⟩]
    refine FnZ_of (rs := [.cell 4 25]) false Tryz.func29 rfl rfl rfl rfl (Nat.le_of_ble_eq_true rfl) ?_
    simp -dsimp
    refine callL_ (vs := [(⟨people, story⟩ : Place).v]) (hpl _ _) (by simp -dsimp) ?_
    rintro t m1 n1 ⟨hn1, hout, st, rfl, hst⟩
    have k0 := hout 0 (by omega)
    have k1 := hout 1 (by omega)
    have k2 := hout 2 (by omega)
    simp -dsimp at k0 k1 k2
    have f0 := far (show 0 < n1 by omega)
    have f1 := far (show 1 < n1 by omega)
    have f2 := far (show 2 < n1 by omega)
    have hc := hst.cell
    have z1 : ¬ n1 = 0 := by omega
    have z2 : ¬ n1 = 1 := by omega
    have z3 : ¬ n1 = 2 := by omega
    simp -dsimp [k0, k1, k2, f0, f1, f2, hc, z1, z2, z3]
    refine call_ hrc (by simp -dsimp) ?_
    cases hr : readC people words with
    | none => simp -dsimp [optC, k0, k1, k2, f0, f1, f2, hc, z1, z2, z3, nes]
    | some c =>
      rcases hst with ⟨rfl, hs0⟩ | ⟨id, rfl, hi0, hi1, him⟩
      · have hs0' : story = [] := by simpa using hs0
        subst hs0'
        simp -dsimp [optC, k0, k1, k2, f0, f1, f2, hc, z1, z2, z3, nes]
      · have g1 := far hi1
        have y1 : ¬ id = 0 := by omega
        have y2 : ¬ id = 1 := by omega
        have y3 : ¬ id = 2 := by omega
        simp -dsimp [optC, k0, k1, k2, f0, f1, f2, g1, hc, z1, z2, z3, y1, y2, y3, Ne.symm y1, Ne.symm y2, Ne.symm y3, nes, him, b1]
  rw [if_neg c0]
  by_cases c1 : kind = 1 ∧ words = [] ∧ 0 ≤ num ∧ num < story.length
  · rw [if_pos c1]
    obtain ⟨rfl, rfl, h2, h3⟩ := c1
    obtain ⟨k, rfl⟩ := Int.eq_ofNat_of_zero_le h2
    have hw := hwo k (by omega)
    have hb : (decide (0 ≤ (k : Int)) && decide ((k : Int) ≤ (story.length : Int) - 1)) = true := by simp; omega
    rw [hb] at hin
    simp only [Int.toNat_natCast]
    refine FnZ_of (rs := [.cell 4 25]) false Tryz.func29 rfl rfl rfl rfl (Nat.le_of_ble_eq_true rfl) ?_
    simp -dsimp
    refine callL_ (vs := [(⟨people, story⟩ : Place).v]) (hpl _ _) (by simp -dsimp) ?_
    rintro t m1 n1 ⟨hn1, hout, st, rfl, hst⟩
    have k0 := hout 0 (by omega)
    have k1 := hout 1 (by omega)
    have k2 := hout 2 (by omega)
    simp -dsimp at k0 k1 k2
    have f0 := far (show 0 < n1 by omega)
    have f1 := far (show 1 < n1 by omega)
    have f2 := far (show 2 < n1 by omega)
    have hc := hst.cell
    have z1 : ¬ n1 = 0 := by omega
    have z2 : ¬ n1 = 1 := by omega
    have z3 : ¬ n1 = 2 := by omega
    simp -dsimp [k0, k1, k2, f0, f1, f2, hc, z1, z2, z3, w1]
    refine call_ hin (by simp -dsimp) ?_
    simp -dsimp [k0, k1, k2, f0, f1, f2, hc, z1, z2, z3, w1]
    refine twp_draw (List.range 9) [0, 1, n1] (List.replicate 9 [0, 1, 2]) (List.replicate 9 [0, 1, 2]) (by kernel_rfl) (by kernel_rfl) (by kernel_rfl) (by kernel_rfl) ?_
    rcases hst with ⟨rfl, hs0⟩ | ⟨id, rfl, hi0, hi1, him⟩
    · have hs0' : story = [] := by simpa using hs0
      rw [hs0'] at h3; simp at h3; omega
    · have g1 := far hi1
      simp -dsimp [List.range_succ, k0, k1, k2, f0, f1, f2, hc, z1, z2, z3, w1]
      refine call_ hw (by simp -dsimp [g1, him]) ?_
      simp -dsimp [List.range_succ, k0, k1, k2, f0, f1, f2, hc, z1, z2, z3, w1]
  rw [if_neg c1]
  have g1 : ¬ (kind = 1 ∧ words = [] ∧ (decide (0 ≤ num) && decide (num ≤ (story.length : Int) - 1)) = true) := fun h => c1 ⟨h.1, h.2.1, by have := h.2.2; simp at this; omega, by have := h.2.2; simp at this; omega⟩
  generalize (decide (0 ≤ num) && decide (num ≤ (story.length : Int) - 1)) = bin at *
  by_cases c2 : kind = 2 ∧ words = []
  · rw [if_pos c2]
    obtain ⟨rfl, rfl⟩ := c2
    refine FnZ_of (rs := [.cell 4 25]) false Tryz.func29 rfl rfl rfl rfl (Nat.le_of_ble_eq_true rfl) ?_
    simp -dsimp
    refine callL_ (vs := [(⟨people, story⟩ : Place).v]) (hpl _ _) (by simp -dsimp) ?_
    rintro t m1 n1 ⟨hn1, hout, st, rfl, hst⟩
    have k0 := hout 0 (by omega)
    have k1 := hout 1 (by omega)
    have k2 := hout 2 (by omega)
    simp -dsimp at k0 k1 k2
    have f0 := far (show 0 < n1 by omega)
    have f1 := far (show 1 < n1 by omega)
    have f2 := far (show 2 < n1 by omega)
    have hc := hst.cell
    have z1 : ¬ n1 = 0 := by omega
    have z2 : ¬ n1 = 1 := by omega
    have z3 : ¬ n1 = 2 := by omega
    rcases hst with ⟨rfl, hs0⟩ | ⟨id, rfl, hi0, hi1, him⟩
    · have hs0' : story = [] := by simpa using hs0
      subst hs0'
      by_cases d0 : num = 0
      · simp -dsimp [k0, k1, k2, f0, f1, f2, hc, z1, z2, z3, w1, d0, nes]
      · simp -dsimp [k0, k1, k2, f0, f1, f2, hc, z1, z2, z3, w1, d0, nes]
    · have g1 := far hi1
      have y1 : ¬ id = 0 := by omega
      have y2 : ¬ id = 1 := by omega
      have y3 : ¬ id = 2 := by omega
      by_cases d0 : num = 0
      · simp -dsimp [k0, k1, k2, f0, f1, f2, hc, z1, z2, z3, w1, d0, nes, g1, y1, y2, y3, him]
      · simp -dsimp [k0, k1, k2, f0, f1, f2, hc, z1, z2, z3, w1, d0, nes, g1, y1, y2, y3, him]
  rw [if_neg c2]
  by_cases c3 : kind = 3 ∧ num = 0 ∧ words = []
  · rw [if_pos c3]
    obtain ⟨rfl, rfl, rfl⟩ := c3
    refine FnZ_of (rs := [.cell 4 25]) false Tryz.func29 rfl rfl rfl rfl (Nat.le_of_ble_eq_true rfl) ?_
    simp -dsimp
    refine callL_ (vs := [(⟨people, story⟩ : Place).v]) (hpl _ _) (by simp -dsimp) ?_
    rintro t m1 n1 ⟨hn1, hout, st, rfl, hst⟩
    have k0 := hout 0 (by omega)
    have k1 := hout 1 (by omega)
    have k2 := hout 2 (by omega)
    simp -dsimp at k0 k1 k2
    have f0 := far (show 0 < n1 by omega)
    have f1 := far (show 1 < n1 by omega)
    have f2 := far (show 2 < n1 by omega)
    have hc := hst.cell
    have z1 : ¬ n1 = 0 := by omega
    have z2 : ¬ n1 = 1 := by omega
    have z3 : ¬ n1 = 2 := by omega
    simp -dsimp [k0, k1, k2, f0, f1, f2, hc, z1, z2, z3, w1, nes]
    refine call_ hleast (by simp -dsimp) ?_
    simp -dsimp [k0, k1, k2, f0, f1, f2, hc, z1, z2, z3, w1, nes]
  rw [if_neg c3]
  by_cases e0 : kind = 0
  · subst e0
    have d0 : ¬ num = 0 := fun h => c0 ⟨rfl, h⟩
    refine FnZ_of (rs := [.cell 4 25]) false Tryz.func29 rfl rfl rfl rfl (Nat.le_of_ble_eq_true rfl) ?_
    simp -dsimp
    refine callL_ (vs := [(⟨people, story⟩ : Place).v]) (hpl _ _) (by simp -dsimp) ?_
    rintro t m1 n1 ⟨hn1, hout, st, rfl, hst⟩
    have k0 := hout 0 (by omega)
    have k1 := hout 1 (by omega)
    have k2 := hout 2 (by omega)
    simp -dsimp at k0 k1 k2
    have f0 := far (show 0 < n1 by omega)
    have f1 := far (show 1 < n1 by omega)
    have f2 := far (show 2 < n1 by omega)
    have hc := hst.cell
    have z1 : ¬ n1 = 0 := by omega
    have z2 : ¬ n1 = 1 := by omega
    have z3 : ¬ n1 = 2 := by omega
    simp -dsimp [k0, k1, k2, f0, f1, f2, hc, z1, z2, z3, w1, nes, d0]
  by_cases e1 : kind = 1
  · subst e1
    by_cases dw : words = []
    · subst dw
      have hbf : bin = false := by
        cases bin
        · rfl
        · exact absurd ⟨rfl, rfl, rfl⟩ g1
      subst hbf
      refine FnZ_of (rs := [.cell 4 25]) false Tryz.func29 rfl rfl rfl rfl (Nat.le_of_ble_eq_true rfl) ?_
      simp -dsimp
      refine callL_ (vs := [(⟨people, story⟩ : Place).v]) (hpl _ _) (by simp -dsimp) ?_
      rintro t m1 n1 ⟨hn1, hout, st, rfl, hst⟩
      have k0 := hout 0 (by omega)
      have k1 := hout 1 (by omega)
      have k2 := hout 2 (by omega)
      simp -dsimp at k0 k1 k2
      have f0 := far (show 0 < n1 by omega)
      have f1 := far (show 1 < n1 by omega)
      have f2 := far (show 2 < n1 by omega)
      have hc := hst.cell
      have z1 : ¬ n1 = 0 := by omega
      have z2 : ¬ n1 = 1 := by omega
      have z3 : ¬ n1 = 2 := by omega

      simp -dsimp [k0, k1, k2, f0, f1, f2, hc, z1, z2, z3, w1, nes]
      refine call_ hin (by simp -dsimp) ?_
      simp -dsimp [k0, k1, k2, f0, f1, f2, hc, z1, z2, z3, w1, nes]
    · refine FnZ_of (rs := [.cell 4 25]) false Tryz.func29 rfl rfl rfl rfl (Nat.le_of_ble_eq_true rfl) ?_
      simp -dsimp
      refine callL_ (vs := [(⟨people, story⟩ : Place).v]) (hpl _ _) (by simp -dsimp) ?_
      rintro t m1 n1 ⟨hn1, hout, st, rfl, hst⟩
      have k0 := hout 0 (by omega)
      have k1 := hout 1 (by omega)
      have k2 := hout 2 (by omega)
      simp -dsimp at k0 k1 k2
      have f0 := far (show 0 < n1 by omega)
      have f1 := far (show 1 < n1 by omega)
      have f2 := far (show 2 < n1 by omega)
      have hc := hst.cell
      have z1 : ¬ n1 = 0 := by omega
      have z2 : ¬ n1 = 1 := by omega
      have z3 : ¬ n1 = 2 := by omega

      simp -dsimp [k0, k1, k2, f0, f1, f2, hc, z1, z2, z3, w1, nes, dw]
  by_cases e2 : kind = 2
  · subst e2
    have dw : ¬ words = [] := fun h => c2 ⟨rfl, h⟩
    refine FnZ_of (rs := [.cell 4 25]) false Tryz.func29 rfl rfl rfl rfl (Nat.le_of_ble_eq_true rfl) ?_
    simp -dsimp
    refine callL_ (vs := [(⟨people, story⟩ : Place).v]) (hpl _ _) (by simp -dsimp) ?_
    rintro t m1 n1 ⟨hn1, hout, st, rfl, hst⟩
    have k0 := hout 0 (by omega)
    have k1 := hout 1 (by omega)
    have k2 := hout 2 (by omega)
    simp -dsimp at k0 k1 k2
    have f0 := far (show 0 < n1 by omega)
    have f1 := far (show 1 < n1 by omega)
    have f2 := far (show 2 < n1 by omega)
    have hc := hst.cell
    have z1 : ¬ n1 = 0 := by omega
    have z2 : ¬ n1 = 1 := by omega
    have z3 : ¬ n1 = 2 := by omega
    by_cases d0 : num = 0
    · simp -dsimp [k0, k1, k2, f0, f1, f2, hc, z1, z2, z3, w1, nes, d0, dw]
    · simp -dsimp [k0, k1, k2, f0, f1, f2, hc, z1, z2, z3, w1, nes, d0, dw]
  by_cases e3 : kind = 3
  · subst e3
    refine FnZ_of (rs := [.cell 4 25]) false Tryz.func29 rfl rfl rfl rfl (Nat.le_of_ble_eq_true rfl) ?_
    simp -dsimp
    refine callL_ (vs := [(⟨people, story⟩ : Place).v]) (hpl _ _) (by simp -dsimp) ?_
    rintro t m1 n1 ⟨hn1, hout, st, rfl, hst⟩
    have k0 := hout 0 (by omega)
    have k1 := hout 1 (by omega)
    have k2 := hout 2 (by omega)
    simp -dsimp at k0 k1 k2
    have f0 := far (show 0 < n1 by omega)
    have f1 := far (show 1 < n1 by omega)
    have f2 := far (show 2 < n1 by omega)
    have hc := hst.cell
    have z1 : ¬ n1 = 0 := by omega
    have z2 : ¬ n1 = 1 := by omega
    have z3 : ¬ n1 = 2 := by omega
    by_cases d0 : num = 0
    · have dw : ¬ words = [] := fun h => c3 ⟨rfl, d0, h⟩
      simp -dsimp [k0, k1, k2, f0, f1, f2, hc, z1, z2, z3, w1, nes, d0, dw]
    · simp -dsimp [k0, k1, k2, f0, f1, f2, hc, z1, z2, z3, w1, nes, d0]
  refine FnZ_of (rs := [.cell 4 25]) false Tryz.func29 rfl rfl rfl rfl (Nat.le_of_ble_eq_true rfl) ?_
  simp -dsimp
  refine callL_ (vs := [(⟨people, story⟩ : Place).v]) (hpl _ _) (by simp -dsimp) ?_
  rintro t m1 n1 ⟨hn1, hout, st, rfl, hst⟩
  have k0 := hout 0 (by omega)
  have k1 := hout 1 (by omega)
  have k2 := hout 2 (by omega)
  simp -dsimp at k0 k1 k2
  have f0 := far (show 0 < n1 by omega)
  have f1 := far (show 1 < n1 by omega)
  have f2 := far (show 2 < n1 by omega)
  have hc := hst.cell
  have z1 : ¬ n1 = 0 := by omega
  have z2 : ¬ n1 = 1 := by omega
  have z3 : ¬ n1 = 2 := by omega

  simp -dsimp [k0, k1, k2, f0, f1, f2, hc, z1, z2, z3, w1, nes, e0, e1, e2, e3]
end TL

/- Deeds at a desk: the reference. -/
set_option linter.unusedSimpArgs false
set_option linter.unusedVariables false
set_option maxRecDepth 100000
set_option maxHeartbeats 4000000
set_option pp.maxSteps 1500
namespace TL
open Go Go.Proofs
attribute [local simp] marksV storyV codeV Claim.v Place.v Deed.v Desk.v
theorem made_fine (p : Place) (a : Deed) (hp : placeOk p = true) : (made p a).fine ∧ (made p a).story.length ≤ 7 ∧ (made p a).small := by
  obtain ⟨h1, h2, h3, h4⟩ := placeOk_all hp
  have hc : ∀ c ∈ p.story, c.fine ∧ c.small := fun c hc => ⟨(claim_fine (h4 c hc)).1, (claim_fine (h4 c hc)).2.2.1⟩
  have key : ∀ q : Place, q.story.length ≤ 7 → (∀ c ∈ q.story, c.fine ∧ c.small) → q.fine ∧ q.story.length ≤ 7 ∧ q.small := fun q hl hq => ⟨⟨by omega, fun c hx => (hq c hx).1⟩, hl, ⟨by omega, fun c hx => (hq c hx).2⟩⟩
  have zero := key ⟨0, []⟩ (by simp) (by simp)
  unfold made
  split
  · split
    · rename_i c hr
      have := claim_fine (readC_is hr).1
      refine key _ (by simp; omega) fun x hx => ?_
      rcases List.mem_append.1 hx with hx | hx
      · exact hc x hx
      · rw [List.mem_singleton.1 hx]; exact ⟨this.1, this.2.2.1⟩
    · exact zero
  · split
    · refine key _ ?_ fun x hx => hc x ((List.eraseIdx_sublist _ _).subset hx)
      have := (List.eraseIdx_sublist p.story a.num.toNat).length_le
      simp only; omega
    · split
      · exact key _ (by simp only; omega) hc
      · split
        · refine key _ ?_ fun x hx => hc x ((least_sub _ _).subset hx)
          have := (least_sub p.people.toNat p.story).length_le
          simp only; omega
        · exact zero
theorem last_facts {l : List Place} {q : Place} (h : l ≠ []) : ((l.length : Int) - 1).toNat = l.length - 1 ∧ (l.map Place.v)[l.length - 1]? = some (l.getLast?.getD q).v ∧ (l.map Place.v).take (l.length - 1) = l.dropLast.map Place.v ∧ (0 : Int) ≤ (l.length : Int) - 1 ∧ (l.length : Int) - 1 ≤ l.length ∧ l.length - 1 ≤ l.length := by
  have hl : 0 < l.length := List.length_pos_iff.2 h
  refine ⟨by omega, ?_, ?_, by omega, by omega, by omega⟩
  · rw [List.getLast?_eq_getElem?, List.getElem?_map, List.getElem?_eq_getElem (by omega)]; rfl
  · rw [← List.map_take, List.dropLast_eq_take]
theorem deskDoS_fn (d : Desk) (a : Deed) (hd : d.small) (hf : d.fit) (ha : a.words.length ≤ 1000000000) : FnZ Tryz.prog 7 [d.v, a.v] (.tup [(deskDo d a).1.v, .bool (deskDo d a).2]) := by
  have hok := deskOkS_fn d hd hf
  have hk := ft (deskOk d)
  rcases hk with hk | hk
  · rw [deskDo_no hk]
    rw [hk] at hok
    obtain ⟨a1, a2, a3⟩ := a
    refine FnZ_of (rs := [.cell 4 28, .tmp 5]) false Tryz.func7 rfl rfl rfl rfl (Nat.le_of_ble_eq_true rfl) ?_
    simp -dsimp
    refine call_ hok (by simp -dsimp) ?_
    simp -dsimp [noDeskV]
  rw [hk] at hok
  obtain ⟨hpast, hnow, hp8⟩ := deskOk_iff.1 hk
  have hcopy := fun m n => l15Copy_own d hd m n
  by_cases hb : isBack a = true ∧ d.past ≠ []
  · rw [deskDo_back hk hb.1 hb.2]
    have ha4 : a = ⟨4, 0, []⟩ := by have := hb.1; simp only [isBack, decide_eq_true_eq] at this; exact this
    subst ha4
    obtain ⟨l1, l2, l3, l4, l5, l6⟩ := last_facts (q := d.now) hb.2
    have hpos : 0 < d.past.length := List.length_pos_iff.2 hb.2
    have hpos' : (0 : Int) < d.past.length := by omega
    have hne := hb.2
    have p1 : (1 : Int) ≤ d.past.length := by omega
    have p2 : 1 ≤ d.past.length := by omega
    have w1 : IntKind.wrap .i64 ((d.past.length : Int) - 1) = (d.past.length : Int) - 1 := w64 (by omega) (by omega)
    clear hb
    refine FnZ_of (rs := [.cell 4 28, .tmp 5]) false Tryz.func7 rfl rfl rfl rfl (Nat.le_of_ble_eq_true rfl) ?_
    simp -dsimp
    refine call_ hok (by simp -dsimp) ?_
    simp -dsimp
    refine callL_ (vs := [d.v]) (hcopy _ _) (by simp -dsimp) ?_
    rintro t m1 n1 ⟨hn1, hout, st, rfl, hst⟩
    have k0 := hout 0 (by omega)
    have k1 := hout 1 (by omega)
    have k2 := hout 2 (by omega)
    simp -dsimp at k0 k1 k2
    have f0 := far (show 0 < n1 by omega)
    have f1 := far (show 1 < n1 by omega)
    have f2 := far (show 2 < n1 by omega)
    have z1 : ¬ n1 = 0 := by omega
    have z2 : ¬ n1 = 1 := by omega
    have z3 : ¬ n1 = 2 := by omega
    rcases hst with ⟨rfl, hs0⟩ | ⟨id, rfl, hi0, hi1, him⟩
    · exact absurd (by simpa using hs0) hne
    · have g1 := far hi1
      generalize d.past.getLast?.getD d.now = q at *
      simp -dsimp [k0, k1, k2, f0, f1, f2, z1, z2, z3, hne, hpos, hpos', p1, p2, g1, him, w1, l1, l2, l3, l4, l5, l6, nes]
  have hmade := l15Made_fn d.now a hnow ha
  obtain ⟨mf, ml, ms⟩ := made_fine d.now a hnow
  have hpo := placeOkS_fn (made d.now a) mf
  have hpt := placeTextS_fn (made d.now a) mf
  have hpn := placeTextS_fn d.now (place_fine hnow).1
  have hD : deskDo d a = if (placeOk (made d.now a) && !decide (placeTx (made d.now a) = placeTx d.now)) = true then (⟨made d.now a, keep8 (d.past ++ [d.now])⟩, true) else (d, false) := by
    unfold deskDo; rw [if_pos hk, if_neg hb]; rfl
  rw [hD]
  have hb' : (decide (a = ⟨4, 0, []⟩) = true ∧ d.past ≠ []) → False := hb
  have hba : isBack a = true → placeOk (made d.now a) = false ∧ d.past = [] := fun h => ⟨by rw [made_back h, zero_no], Classical.byContradiction fun h2 => hb' ⟨h, h2⟩⟩
  clear hb hb' hD
  generalize made d.now a = X at *
  generalize placeTx X = tX at *
  generalize placeTx d.now = tN at *
  have hkX := ft (placeOk X)
  generalize placeOk X = okX at *
  obtain ⟨kind, num, words⟩ := a
  have htx : tX = tN ∨ ¬ tX = tN := Classical.em _
  obtain ⟨Xp, Xs⟩ := X
  have fullb : (d.past.length + 1) * 32 ≤ 140737488355328 := by omega
  by_cases hq : kind = 4 ∧ num = 0 ∧ words = []
  · obtain ⟨rfl, rfl, rfl⟩ := hq
    obtain ⟨hokX, he⟩ := hba rfl
    subst hokX
    have he0 : (d.past.map Place.v) = [] := by rw [he]; rfl
    refine FnZ_of (rs := [.cell 4 28, .tmp 5]) false Tryz.func7 rfl rfl rfl rfl (Nat.le_of_ble_eq_true rfl) ?_
    simp -dsimp
    refine call_ hok (by simp -dsimp) ?_
    simp -dsimp
    refine callL_ (vs := [d.v]) (hcopy _ _) (by simp -dsimp) ?_
    rintro t m1 n1 ⟨hn1, hout, st, rfl, hst⟩
    have k0 := hout 0 (by omega)
    have k1 := hout 1 (by omega)
    have k2 := hout 2 (by omega)
    simp -dsimp at k0 k1 k2
    have f0 := far (show 0 < n1 by omega)
    have f1 := far (show 1 < n1 by omega)
    have f2 := far (show 2 < n1 by omega)
    have z1 : ¬ n1 = 0 := by omega
    have z2 : ¬ n1 = 1 := by omega
    have z3 : ¬ n1 = 2 := by omega
    have hc := hst.cell
    simp -dsimp [k0, k1, k2, f0, f1, f2, z1, z2, z3, hc, he, nes]
    refine call_ hmade (by simp -dsimp) ?_
    simp -dsimp [k0, k1, k2, f0, f1, f2, z1, z2, z3, hc, he, nes]
    refine twp_draw [0, 1, 2, 3, 4, 6, 7, 5, 8, 9, 10] [0, n1 + 1 + 1] (List.replicate 11 [0, 1]) (List.replicate 11 [0, 1]) (by kernel_rfl) (by kernel_rfl) (by kernel_rfl) (by kernel_rfl) ?_
    simp -dsimp [k0, k1, k2, f0, f1, f2, z1, z2, z3, hc, he, nes]
    refine call_ hpo (by simp -dsimp) ?_
    rcases hst with ⟨rfl, hs0⟩ | ⟨id, rfl, hi0, hi1, him⟩
    · simp -dsimp [k0, k1, k2, f0, f1, f2, z1, z2, z3, hc, he, nes]
    · have g1 := far hi1
      have y3 : ¬ id = 2 := by omega
      simp -dsimp [k0, k1, k2, f0, f1, f2, z1, z2, z3, hc, he, nes, g1, him, y3]
  · have hbb : (decide (kind = 4) && (decide (num = 0) && decide (words = []))) = false := by
      rw [Bool.eq_false_iff]; intro h; simp at h; exact hq h
    refine FnZ_of (rs := [.cell 4 28, .tmp 5]) false Tryz.func7 rfl rfl rfl rfl (Nat.le_of_ble_eq_true rfl) ?_
    simp -dsimp
    refine call_ hok (by simp -dsimp) ?_
    simp -dsimp
    refine callL_ (vs := [d.v]) (hcopy _ _) (by simp -dsimp) ?_
    rintro t m1 n1 ⟨hn1, hout, st, rfl, hst⟩
    have k0 := hout 0 (by omega)
    have k1 := hout 1 (by omega)
    have k2 := hout 2 (by omega)
    simp -dsimp at k0 k1 k2
    have f0 := far (show 0 < n1 by omega)
    have f1 := far (show 1 < n1 by omega)
    have f2 := far (show 2 < n1 by omega)
    have z1 : ¬ n1 = 0 := by omega
    have z2 : ¬ n1 = 1 := by omega
    have z3 : ¬ n1 = 2 := by omega
    have hc := hst.cell
    simp -dsimp [k0, k1, k2, f0, f1, f2, z1, z2, z3, hc, hbb, nes]
    refine call_ hmade (by simp -dsimp) ?_
    simp -dsimp [k0, k1, k2, f0, f1, f2, z1, z2, z3, hc, nes]
    refine twp_draw [0, 1, 2, 3, 4, 6, 7, 5, 8, 9, 10] [0, n1 + 1 + 1] (List.replicate 11 [0, 1]) (List.replicate 11 [0, 1]) (by kernel_rfl) (by kernel_rfl) (by kernel_rfl) (by kernel_rfl) ?_
    simp -dsimp [k0, k1, k2, f0, f1, f2, z1, z2, z3, hc, nes]
    refine call_ hpo (by simp -dsimp) ?_
    rcases hkX with rfl | rfl
    · rcases hst with ⟨rfl, hs0⟩ | ⟨id, rfl, hi0, hi1, him⟩
      · have hs0' : d.past = [] := by simpa using hs0
        simp -dsimp [k0, k1, k2, f0, f1, f2, z1, z2, z3, hc, nes, hs0']
      · have g1 := far hi1
        have y3 : ¬ id = 2 := by omega
        simp -dsimp [k0, k1, k2, f0, f1, f2, z1, z2, z3, hc, nes, g1, him, y3]
    simp -dsimp [k0, k1, k2, f0, f1, f2, z1, z2, z3, hc, nes]
    refine call_ hpt (by simp -dsimp) ?_
    simp -dsimp [k0, k1, k2, f0, f1, f2, z1, z2, z3, hc, nes]
    refine call_ hpn (by simp -dsimp) ?_
    rcases htx with rfl | htx
    · rcases hst with ⟨rfl, hs0⟩ | ⟨id, rfl, hi0, hi1, him⟩
      · have hs0' : d.past = [] := by simpa using hs0
        simp -dsimp [k0, k1, k2, f0, f1, f2, z1, z2, z3, hc, nes, hs0']
      · have g1 := far hi1
        have y3 : ¬ id = 2 := by omega
        simp -dsimp [k0, k1, k2, f0, f1, f2, z1, z2, z3, hc, nes, g1, him, y3]
    rcases hst with ⟨rfl, hs0⟩ | ⟨id, rfl, hi0, hi1, him⟩
    · have hs0' : d.past = [] := by simpa using hs0
      have hk8 : keep8 (d.past ++ [d.now]) = [d.now] := by rw [hs0']; rfl
      simp -dsimp [k0, k1, k2, f0, f1, f2, z1, z2, z3, hc, nes, htx, hs0', keep8]
    · have g1 := far hi1
      have y3 : ¬ id = 2 := by omega
      by_cases h8 : d.past.length = 8
      · have e8 : (d.past.length : Int) = 8 := by omega
        simp -dsimp [k0, k1, k2, f0, f1, f2, z1, z2, z3, hc, nes, htx, g1, him, y3, Ne.symm y3, h8, e8, keep8, fullb]
        rw [List.take_of_length_le (by simp [h8])]
      · have e8 : d.past.length < 8 := by omega
        have e8' : ¬ (8 : Int) < (d.past.length : Int) + 1 := by omega
        have e8'' : ¬ 8 < d.past.length + 1 := by omega
        simp -dsimp [k0, k1, k2, f0, f1, f2, z1, z2, z3, hc, nes, htx, g1, him, y3, Ne.symm y3, h8, e8, e8', e8'', keep8, fullb]
end TL

/- Deeds at a desk, past places as cells that may change: the reference. -/
set_option linter.unusedSimpArgs false
set_option linter.unusedVariables false
set_option maxRecDepth 100000
set_option maxHeartbeats 4000000
set_option pp.maxSteps 1500
namespace TL
open Go Go.Proofs
attribute [local simp] marksV storyV codeV Claim.v Place.v Deed.v Desk.v
theorem PastT.cell {m : Mem} {lo hi : Nat} {P : T} {l : List Place} (h : PastT m lo hi P l) : P.cell = true := by
  rcases h with ⟨rfl, _⟩ | ⟨id, ex, rfl, _⟩ <;> rfl
theorem PastT.cells {m : Mem} {lo hi : Nat} {P : T} {l : List Place} (h : PastT m lo hi P l) : P.cells = [P] := by
  rcases h with ⟨rfl, _⟩ | ⟨id, ex, rfl, _⟩ <;> rfl
theorem PastT.len {m : Mem} {lo hi : Nat} {P : T} {l : List Place} (h : PastT m lo hi P l) (mm : Mem) : evLen Tryz.prog 26 mm P = some ⟨.v (.int .i64 l.length), []⟩ := by
  rcases h with ⟨rfl, rfl⟩ | ⟨id, ex, rfl, _⟩ <;> simp <;> rfl
theorem PastT.bor {m : Mem} {lo hi : Nat} {P : T} {l : List Place} (h : PastT m lo hi P l) {mm : Mem} (hm : ∀ j, lo ≤ j → j < hi → mm j = m j) (d : Nat) : TL.bor true mm (d + 1) P = some (.sl (l.map Place.v)) := by
  rcases h with ⟨rfl, rfl⟩ | ⟨id, ex, rfl, h0, h1, h2⟩
  · rfl
  · have e : mm id = some (.box 25 2 (plT l ++ ex)) := by rw [hm id h0 h1, h2]
    have c1 : 0 + l.length * 2 ≤ (plT l ++ ex).length := by simp
    have c2 : ((plT l ++ ex).drop 0).take (l.length * 2) = plT l := by rw [List.drop_zero, plT_take_ex]
    show (match mm id with | some (.box _ z cs) => tst (0 + l.length * z ≤ cs.length) (obind (mapO (TL.bor true mm d) ((cs.drop 0).take (l.length * z))) fun xs => tst (∀ x ∈ xs, x.cell = true) (some (V.sl (chunk z l.length xs)))) | _ => none) = _
    rw [e]
    show tst (0 + l.length * 2 ≤ (plT l ++ ex).length) (obind (mapO (TL.bor true mm d) (((plT l ++ ex).drop 0).take (l.length * 2))) fun xs => tst (∀ x ∈ xs, x.cell = true) (some (V.sl (chunk 2 l.length xs)))) = _
    rw [tst_pos c1, c2, plT_bor, obind_some, tst_pos (plV_cell l), plV_chunk]
theorem PastT.keep {m m' : Mem} {lo hi lo' hi' : Nat} {P : T} {l : List Place} (h : PastT m lo hi P l) (h1 : lo' ≤ lo) (h2 : hi ≤ hi') (hm : ∀ j, lo ≤ j → j < hi → m' j = m j) : PastT m' lo' hi' P l := by
  rcases h with ⟨rfl, rfl⟩ | ⟨id, ex, rfl, g0, g1, g2⟩
  · exact .inl ⟨rfl, rfl⟩
  · exact .inr ⟨id, ex, rfl, by omega, by omega, by rw [hm id g0 g1, g2]⟩
theorem desk_arg {m : Mem} {hi : Nat} {P : T} {d : Desk} (h : PastT m 0 hi P d.past) {mm : Mem} (hm : ∀ j, j < hi → mm j = m j) : mapO (TL.bor true mm 4) [.agg [.v (.int .i64 d.now.people), .v (storyV d.now.story), P]] = some [d.v] := by
  have hb := h.bor (mm := mm) (fun j _ hj => hm j hj) 2
  simp [hb]
/-- The reference's DeskNew, its row of places of before the caller's own. -/
def NewT (p : Place) (m : Mem) (n : Nat) (t : T) (m' : Mem) (n' : Nat) : Prop := n ≤ n' ∧ (∀ j, j < n → m' j = m j) ∧
  ((placeOk p = true ∧ t = .tup [.agg [.v (.int .i64 p.people), .v (storyV p.story), .nil], .v (.bool true)]) ∨ (placeOk p = false ∧ t = .tup [.agg [.v (.int .i64 0), .nil, .nil], .v (.bool false)]))
theorem deskNewS_mut (p : Place) (hp : p.small) (hf : p.fit) (m : Mem) (n : Nat) : FnS Tryz.prog 40 m n [.v p.v] (NewT p m n) := by
  have hok := placeOkS_fn p ⟨by have := hp.1; omega, fun c hc => ⟨(hf.2 c hc).2, by have := hp.2 c hc; unfold Claim.small at this; omega⟩⟩
  have hk := ft (placeOk p)
  refine FnS_of (rs := [.cell 2 28, .tmp 3]) true Tryz.func40 rfl rfl rfl rfl (Nat.le_of_ble_eq_true rfl) ?_
  have e0 : ¬ n = n + 1 := by omega
  have e5 : ¬ n + 1 = n := by omega
  rcases hk with hk | hk
  · rw [hk] at hok
    simp -dsimp
    refine call_ hok (by simp -dsimp [e0, e5, nes]) ?_
    simp -dsimp [e0, e5, nes]
    exact ⟨by omega, fun j j1 => by simp [far j1], .inr ⟨hk, rfl⟩⟩
  · rw [hk] at hok
    simp -dsimp
    refine call_ hok (by simp -dsimp [e0, e5, nes]) ?_
    simp -dsimp [e0, e5, nes]
    refine call_ (l15Place_fn p hp) (by simp -dsimp) ?_
    simp -dsimp [e0, e5, nes]
    exact ⟨by omega, fun j j1 => by simp [far j1], .inl ⟨hk, rfl⟩⟩
/-- Nothing can be done at no desk. -/
theorem deskDoS_none (a : Deed) (m : Mem) (n : Nat) : FnS Tryz.prog 7 m n [.agg [.v (.int .i64 0), .v (.sl []), .nil], .v a.v] (fun t m' n' => n ≤ n' ∧ (∀ j, j < n → m' j = m j) ∧ t = .tup [.agg [.v (.int .i64 0), .nil, .nil], .v (.bool false)]) := by
  have hno : deskOk noDeskV = false := by decide
  have hok := deskOkS_fn noDeskV ⟨⟨by simp [noDeskV], by simp [noDeskV]⟩, by simp [noDeskV], by simp [noDeskV]⟩ ⟨⟨by simp [noDeskV, fit], by simp [noDeskV]⟩, by simp [noDeskV]⟩
  rw [hno] at hok
  obtain ⟨a1, a2, a3⟩ := a
  refine FnS_of (rs := [.cell 4 28, .tmp 5]) true Tryz.func7 rfl rfl rfl rfl (Nat.le_of_ble_eq_true rfl) ?_
  have e0 : ¬ n = n + 1 := by omega
  have e1 : ¬ n = n + 2 := by omega
  have e2 : ¬ n + 1 = n + 2 := by omega
  have e3 : ¬ n + 2 = n := by omega
  have e4 : ¬ n + 2 = n + 1 := by omega
  have e5 : ¬ n + 1 = n := by omega
  simp -dsimp [e0, e1, e2, e3, e4, e5, nes]
  refine callM_ hok (by simp -dsimp [noDeskV, e0, e1, e2, e3, e4, e5, nes]) rfl ?_
  simp -dsimp [e0, e1, e2, e3, e4, e5, nes]
  exact ⟨by omega, fun j j1 => by simp [far j1]⟩
/-- The reference's DeskDo, its row of places of before the caller's own. -/
def DoT (d : Desk) (a : Deed) (m : Mem) (n : Nat) (t : T) (m' : Mem) (n' : Nat) : Prop := n ≤ n' ∧ (∀ j, j < n → m' j = m j) ∧ ∃ st, t = .tup [.agg [.v (.int .i64 (deskDo d a).1.now.people), .v (storyV (deskDo d a).1.now.story), st], .v (.bool (deskDo d a).2)] ∧ PastT m' n n' st (deskDo d a).1.past
theorem deskDoS_mut (d : Desk) (a : Deed) (hk : deskOk d = true) (h7 : d.past.length ≤ 7) (ha : a.words.length ≤ 1000000000) (P : T) (m : Mem) (n : Nat) (hP : PastT m 0 n P d.past) :
    FnS Tryz.prog 7 m n [.agg [.v (.int .i64 d.now.people), .v (storyV d.now.story), P], .v a.v] (DoT d a m n) := by
  have hd := (desk_fine hk).1
  have hf := (desk_fine hk).2.1
  have hok := deskOkS_fn d hd hf
  rw [hk] at hok
  obtain ⟨hpast, hnow, hp8⟩ := deskOk_iff.1 hk
  have hcopy := l15Copy_mut d hd P
  have hPc := hP.cell
  have hPcs := hP.cells
  have e0 : ¬ n = n + 1 := by omega
  have e1 : ¬ n = n + 2 := by omega
  have e2 : ¬ n + 1 = n + 2 := by omega
  have e3 : ¬ n + 2 = n := by omega
  have e4 : ¬ n + 2 = n + 1 := by omega
  have e5 : ¬ n + 1 = n := by omega
  by_cases hb : isBack a = true ∧ d.past ≠ []
  · have hD := deskDo_back hk hb.1 hb.2
    unfold DoT
    rw [hD]
    have ha4 : a = ⟨4, 0, []⟩ := by have := hb.1; simp only [isBack, decide_eq_true_eq] at this; exact this
    subst ha4
    have hne := hb.2
    have hpos : 0 < d.past.length := List.length_pos_iff.2 hb.2
    have hpos' : (0 : Int) < d.past.length := by omega
    have p1 : (1 : Int) ≤ d.past.length := by omega
    have p2 : 1 ≤ d.past.length := by omega
    have w1 : IntKind.wrap .i64 ((d.past.length : Int) - 1) = (d.past.length : Int) - 1 := w64 (by omega) (by omega)
    clear hb
    have hP2 := hP
    rcases hP with ⟨rfl, hp0⟩ | ⟨pid, pex, rfl, hq0, hq1, hqm⟩
    · exact absurd hp0 hne
    refine FnS_of (rs := [.cell 4 28, .tmp 5]) true Tryz.func7 rfl rfl rfl rfl (Nat.le_of_ble_eq_true rfl) ?_
    simp -dsimp [hPc, hPcs, e0, e1, e2, e3, e4, e5, nes]
    refine callM_ hok (desk_arg hP2 (fun j hj => by simp [far hj])) rfl ?_
    simp -dsimp [hPc, hPcs, e0, e1, e2, e3, e4, e5, nes]
    refine callS_ (hcopy _ _ (hP2.keep (Nat.le_refl _) (by omega) (fun j _ hj => by simp [far hj]))) ?_
    rintro t m1 n1 ⟨hn1, hout, st, rfl, hst⟩
    have k0 := hout n (by omega)
    have k1 := hout (n + 1) (by omega)
    have k2 := hout (n + 1 + 1) (by omega)
    simp -dsimp [e0, e1, e2, e3, e4, e5, nes] at k0 k1 k2
    have f0 := far (show n < n1 by omega)
    have f1 := far (show n + 1 < n1 by omega)
    have f2 := far (show n + 1 + 1 < n1 by omega)
    have z1 : ¬ n1 = n := by omega
    have z2 : ¬ n1 = n + 1 := by omega
    have z3 : ¬ n1 = n + 1 + 1 := by omega
    rcases hst with ⟨rfl, hs0⟩ | ⟨id, ex, rfl, hi0, hi1, him⟩
    · exact absurd hs0 hne
    · have g1 := far hi1
      have hlast : d.past.length - 1 < d.past.length := by omega
      have hget := plT_get (ex := ex) hlast
      have hgl : (d.past.length - 1) * 2 + 2 ≤ (plT d.past ++ ex).length := by simp; omega
      have hgl2 : (d.past.length - 1) * 2 + 2 ≤ d.past.length * 2 + ex.length := by omega
      have l1 : ((d.past.length : Int) - 1).toNat = d.past.length - 1 := by omega
      have l3 : (0 : Int) ≤ (d.past.length : Int) - 1 := by omega
      have l4 : (d.past.length : Int) - 1 < d.past.length := by omega
      have l5 : (d.past.length : Int) - 1 ≤ d.past.length := by omega
      have l6 : d.past.length - 1 ≤ d.past.length := by omega
      have lq : d.past.getLast?.getD d.now = d.past[d.past.length - 1] := by rw [List.getLast?_eq_getElem?, List.getElem?_eq_getElem hlast]; rfl
      have y0 : ¬ id = n := by omega
      have y1 : ¬ id = n + 1 := by omega
      have y2 : ¬ id = n + 1 + 1 := by omega
      have tkd : plT d.past ++ ex = plT d.past.dropLast ++ (plT (d.past.drop (d.past.length - 1)) ++ ex) := by
        rw [List.dropLast_eq_take, ← List.append_assoc, ← plT_append, List.take_append_drop]
      rw [lq]
      generalize d.past[d.past.length - 1] = q at *
      simp -dsimp [k0, k1, k2, f0, f1, f2, z1, z2, z3, hPc, hPcs, hne, hpos, hpos', p1, p2, g1, him, w1, l1, l3, l4, l5, l6, y0, y1, y2, hget, hgl, hgl2, e0, e1, e2, e3, e4, e5, nes]
      have ho : ∀ j, j < n → m1 j = m j := fun j j1 => by have hj := hout j (by omega); simp [far j1] at hj; exact hj
      refine ⟨by omega, fun j j1 => ?_, .inr ⟨id, _, by rw [List.length_dropLast], by omega, by omega, by simp [y2, show ¬ id = n1 by omega, him]; exact tkd⟩⟩
      simp [show ¬ j = n + 1 + 1 by omega, show ¬ j = n1 by omega, ho j j1]
  have hmade := l15Made_fn d.now a hnow ha
  obtain ⟨mf, ml, ms⟩ := made_fine d.now a hnow
  have hpo := placeOkS_fn (made d.now a) mf
  have hpt := placeTextS_fn (made d.now a) mf
  have hpn := placeTextS_fn d.now (place_fine hnow).1
  have hD : deskDo d a = if (placeOk (made d.now a) && !decide (placeTx (made d.now a) = placeTx d.now)) = true then (⟨made d.now a, d.past ++ [d.now]⟩, true) else (d, false) := by
    unfold deskDo
    rw [if_pos hk, if_neg hb]
    have e : keep8 (d.past ++ [d.now]) = d.past ++ [d.now] := by unfold keep8; rw [if_neg (by simp; omega)]
    rw [e]; rfl
  unfold DoT
  rw [hD]
  have hb' : (decide (a = ⟨4, 0, []⟩) = true ∧ d.past ≠ []) → False := hb
  have hba : isBack a = true → placeOk (made d.now a) = false ∧ d.past = [] := fun h => ⟨by rw [made_back h, zero_no], Classical.byContradiction fun h2 => hb' ⟨h, h2⟩⟩
  clear hb hb' hD
  generalize made d.now a = X at *
  generalize placeTx X = tX at *
  generalize placeTx d.now = tN at *
  have hkX := ft (placeOk X)
  generalize placeOk X = okX at *
  obtain ⟨kind, num, words⟩ := a
  have htx : tX = tN ∨ ¬ tX = tN := Classical.em _
  obtain ⟨Xp, Xs⟩ := X
  have fullb : (d.past.length + 1) * 32 ≤ 140737488355328 := by omega
  by_cases hq : kind = 4 ∧ num = 0 ∧ words = []
  · obtain ⟨rfl, rfl, rfl⟩ := hq
    obtain ⟨hokX, he⟩ := hba rfl
    subst hokX
    have hP2 := hP
    have he0 : d.past.length = 0 := by rw [he]; rfl
    rcases hP with ⟨rfl, hp0⟩ | ⟨pid, pex, rfl, hq0, hq1, hqm⟩
    · refine FnS_of (rs := [.cell 4 28, .tmp 5]) true Tryz.func7 rfl rfl rfl rfl (Nat.le_of_ble_eq_true rfl) ?_
      simp -dsimp [hPc, hPcs, e0, e1, e2, e3, e4, e5, nes]
      refine callM_ hok (desk_arg hP2 (fun j hj => by simp [far hj])) rfl ?_
      simp -dsimp [hPc, hPcs, e0, e1, e2, e3, e4, e5, nes]
      refine callS_ (hcopy _ _ (hP2.keep (Nat.le_refl _) (by omega) (fun j _ hj => by simp [far hj]))) ?_
      rintro t m1 n1 ⟨hn1, hout, st, rfl, hst⟩
      have k0 := hout n (by omega)
      have k1 := hout (n + 1) (by omega)
      have k2 := hout (n + 1 + 1) (by omega)
      simp -dsimp [e0, e1, e2, e3, e4, e5, nes] at k0 k1 k2
      have f0 := far (show n < n1 by omega)
      have f1 := far (show n + 1 < n1 by omega)
      have f2 := far (show n + 1 + 1 < n1 by omega)
      have z1 : ¬ n1 = n := by omega
      have z2 : ¬ n1 = n + 1 := by omega
      have z3 : ¬ n1 = n + 1 + 1 := by omega
      have hc := hst.cell
      have hcs := hst.cells
      simp -dsimp [k0, k1, k2, f0, f1, f2, z1, z2, z3, he, he0, hPc, hPcs, hc, hcs, e0, e1, e2, e3, e4, e5, nes]
      refine call_ hmade (by simp -dsimp) ?_
      simp -dsimp [k0, k1, k2, f0, f1, f2, z1, z2, z3, he, he0, hPc, hPcs, hc, hcs, e0, e1, e2, e3, e4, e5, nes]
      refine twp_draw [0, 1, 2, 3, 4, 6, 7, 5, 8, 9, 10] [n, n1 + 1 + 1] (List.replicate 11 [0, 1]) (List.replicate 11 [0, 1]) (by kernel_rfl) (by kernel_rfl) (by kernel_rfl) (by kernel_rfl) ?_
      simp -dsimp [k0, k1, k2, f0, f1, f2, z1, z2, z3, he, he0, hPc, hPcs, hc, hcs, e0, e1, e2, e3, e4, e5, nes]
      refine call_ hpo (by simp -dsimp) ?_
      simp -dsimp [k0, k1, k2, f0, f1, f2, z1, z2, z3, he, he0, hPc, hPcs, hc, hcs, e0, e1, e2, e3, e4, e5, nes]
      have ho : ∀ j, j < n → m1 j = m j := fun j j1 => by have hj := hout j (by omega); simp [far j1] at hj; exact hj
      refine ⟨by omega, fun j j1 => ?_, PastT.keep (lo := n + 1 + 1 + 1) (hi := n1) (he ▸ hst) (by omega) (by omega) (fun j j1 j2 => by simp [show ¬ j = n + 1 + 1 by omega, show ¬ j = n1 by omega, show ¬ j = n1 + 1 + 1 by omega])⟩
      simp [show ¬ j = n + 1 + 1 by omega, show ¬ j = n1 by omega, show ¬ j = n1 + 1 + 1 by omega, ho j j1]
    · refine FnS_of (rs := [.cell 4 28, .tmp 5]) true Tryz.func7 rfl rfl rfl rfl (Nat.le_of_ble_eq_true rfl) ?_
      simp -dsimp [hPc, hPcs, e0, e1, e2, e3, e4, e5, nes]
      refine callM_ hok (desk_arg hP2 (fun j hj => by simp [far hj])) rfl ?_
      simp -dsimp [hPc, hPcs, e0, e1, e2, e3, e4, e5, nes]
      refine callS_ (hcopy _ _ (hP2.keep (Nat.le_refl _) (by omega) (fun j _ hj => by simp [far hj]))) ?_
      rintro t m1 n1 ⟨hn1, hout, st, rfl, hst⟩
      have k0 := hout n (by omega)
      have k1 := hout (n + 1) (by omega)
      have k2 := hout (n + 1 + 1) (by omega)
      simp -dsimp [e0, e1, e2, e3, e4, e5, nes] at k0 k1 k2
      have f0 := far (show n < n1 by omega)
      have f1 := far (show n + 1 < n1 by omega)
      have f2 := far (show n + 1 + 1 < n1 by omega)
      have z1 : ¬ n1 = n := by omega
      have z2 : ¬ n1 = n + 1 := by omega
      have z3 : ¬ n1 = n + 1 + 1 := by omega
      have hc := hst.cell
      have hcs := hst.cells
      simp -dsimp [k0, k1, k2, f0, f1, f2, z1, z2, z3, he, he0, hPc, hPcs, hc, hcs, e0, e1, e2, e3, e4, e5, nes]
      refine call_ hmade (by simp -dsimp) ?_
      simp -dsimp [k0, k1, k2, f0, f1, f2, z1, z2, z3, he, he0, hPc, hPcs, hc, hcs, e0, e1, e2, e3, e4, e5, nes]
      refine twp_draw [0, 1, 2, 3, 4, 6, 7, 5, 8, 9, 10] [n, n1 + 1 + 1] (List.replicate 11 [0, 1]) (List.replicate 11 [0, 1]) (by kernel_rfl) (by kernel_rfl) (by kernel_rfl) (by kernel_rfl) ?_
      simp -dsimp [k0, k1, k2, f0, f1, f2, z1, z2, z3, he, he0, hPc, hPcs, hc, hcs, e0, e1, e2, e3, e4, e5, nes]
      refine call_ hpo (by simp -dsimp) ?_
      simp -dsimp [k0, k1, k2, f0, f1, f2, z1, z2, z3, he, he0, hPc, hPcs, hc, hcs, e0, e1, e2, e3, e4, e5, nes]
      have ho : ∀ j, j < n → m1 j = m j := fun j j1 => by have hj := hout j (by omega); simp [far j1] at hj; exact hj
      refine ⟨by omega, fun j j1 => ?_, PastT.keep (lo := n + 1 + 1 + 1) (hi := n1) (he ▸ hst) (by omega) (by omega) (fun j j1 j2 => by simp [show ¬ j = n + 1 + 1 by omega, show ¬ j = n1 by omega, show ¬ j = n1 + 1 + 1 by omega])⟩
      simp [show ¬ j = n + 1 + 1 by omega, show ¬ j = n1 by omega, show ¬ j = n1 + 1 + 1 by omega, ho j j1]
  · have hbb : (decide (kind = 4) && (decide (num = 0) && decide (words = []))) = false := by
      rw [Bool.eq_false_iff]; intro h; simp at h; exact hq h
    refine FnS_of (rs := [.cell 4 28, .tmp 5]) true Tryz.func7 rfl rfl rfl rfl (Nat.le_of_ble_eq_true rfl) ?_
    simp -dsimp [hPc, hPcs, e0, e1, e2, e3, e4, e5, nes]
    refine callM_ hok (desk_arg hP (fun j hj => by simp [far hj])) rfl ?_
    simp -dsimp [hPc, hPcs, e0, e1, e2, e3, e4, e5, nes]
    refine callS_ (hcopy _ _ (hP.keep (Nat.le_refl _) (by omega) (fun j _ hj => by simp [far hj]))) ?_
    rintro t m1 n1 ⟨hn1, hout, st, rfl, hst⟩
    have k0 := hout n (by omega)
    have k1 := hout (n + 1) (by omega)
    have k2 := hout (n + 1 + 1) (by omega)
    simp -dsimp [e0, e1, e2, e3, e4, e5, nes] at k0 k1 k2
    have f0 := far (show n < n1 by omega)
    have f1 := far (show n + 1 < n1 by omega)
    have f2 := far (show n + 1 + 1 < n1 by omega)
    have z1 : ¬ n1 = n := by omega
    have z2 : ¬ n1 = n + 1 := by omega
    have z3 : ¬ n1 = n + 1 + 1 := by omega
    have hc := hst.cell
    have hcs := hst.cells
    simp -dsimp [k0, k1, k2, f0, f1, f2, z1, z2, z3, hbb, hPc, hPcs, hc, hcs, e0, e1, e2, e3, e4, e5, nes]
    refine call_ hmade (by simp -dsimp) ?_
    simp -dsimp [k0, k1, k2, f0, f1, f2, z1, z2, z3, hPc, hPcs, hc, hcs, e0, e1, e2, e3, e4, e5, nes]
    refine twp_draw [0, 1, 2, 3, 4, 6, 7, 5, 8, 9, 10] [n, n1 + 1 + 1] (List.replicate 11 [0, 1]) (List.replicate 11 [0, 1]) (by kernel_rfl) (by kernel_rfl) (by kernel_rfl) (by kernel_rfl) ?_
    simp -dsimp [k0, k1, k2, f0, f1, f2, z1, z2, z3, hPc, hPcs, hc, hcs, e0, e1, e2, e3, e4, e5, nes]
    refine call_ hpo (by simp -dsimp) ?_
    rcases hkX with rfl | rfl
    · simp -dsimp [k0, k1, k2, f0, f1, f2, z1, z2, z3, hPc, hPcs, hc, hcs, e0, e1, e2, e3, e4, e5, nes]
      have ho : ∀ j, j < n → m1 j = m j := fun j j1 => by have hj := hout j (by omega); simp [far j1] at hj; exact hj
      refine ⟨by omega, fun j j1 => ?_, PastT.keep (lo := n + 1 + 1 + 1) (hi := n1) hst (by omega) (by omega) (fun j j1 j2 => by simp [show ¬ j = n + 1 + 1 by omega, show ¬ j = n1 by omega, show ¬ j = n1 + 1 + 1 by omega])⟩
      simp [show ¬ j = n + 1 + 1 by omega, show ¬ j = n1 by omega, show ¬ j = n1 + 1 + 1 by omega, ho j j1]
    simp -dsimp [k0, k1, k2, f0, f1, f2, z1, z2, z3, hPc, hPcs, hc, hcs, e0, e1, e2, e3, e4, e5, nes]
    refine call_ hpt (by simp -dsimp) ?_
    simp -dsimp [k0, k1, k2, f0, f1, f2, z1, z2, z3, hPc, hPcs, hc, hcs, e0, e1, e2, e3, e4, e5, nes]
    refine call_ hpn (by simp -dsimp) ?_
    rcases htx with rfl | htx
    · simp -dsimp [k0, k1, k2, f0, f1, f2, z1, z2, z3, hPc, hPcs, hc, hcs, e0, e1, e2, e3, e4, e5, nes]
      have ho : ∀ j, j < n → m1 j = m j := fun j j1 => by have hj := hout j (by omega); simp [far j1] at hj; exact hj
      refine ⟨by omega, fun j j1 => ?_, PastT.keep (lo := n + 1 + 1 + 1) (hi := n1) hst (by omega) (by omega) (fun j j1 j2 => by simp [show ¬ j = n + 1 + 1 by omega, show ¬ j = n1 by omega, show ¬ j = n1 + 1 + 1 by omega])⟩
      simp [show ¬ j = n + 1 + 1 by omega, show ¬ j = n1 by omega, show ¬ j = n1 + 1 + 1 by omega, ho j j1]
    rcases hst with ⟨rfl, hs0⟩ | ⟨id, ex, rfl, hi0, hi1, him⟩
    · simp -dsimp [k0, k1, k2, f0, f1, f2, z1, z2, z3, htx, hPc, hPcs, hc, hcs, e0, e1, e2, e3, e4, e5, nes]
      have ho : ∀ j, j < n → m1 j = m j := fun j j1 => by have hj := hout j (by omega); simp [far j1] at hj; exact hj
      refine ⟨by omega, fun j j1 => ?_, .inr ⟨n1 + 1 + 1 + 1 + 1 + 1, [], by simp [hs0], by omega, by omega, ?_⟩⟩
      · simp [show ¬ j = n + 1 + 1 by omega, show ¬ j = n1 by omega, far (show j < n1 by omega), ho j j1]
      · simp [hs0, plT, storyV, nes, f2, show ¬ n1 + 1 + 1 + 1 + 1 + 1 = n + 1 + 1 by omega, show ¬ n1 + 1 + 1 + 1 = n by omega]
    · have g1 := far hi1
      have y0 : ¬ id = n := by omega
      have y1 : ¬ id = n + 1 := by omega
      have y2 : ¬ id = n + 1 + 1 := by omega
      have e8 : ¬ (8 : Int) < (d.past.length : Int) + 1 := by omega
      have e8' : ¬ 8 < d.past.length + 1 := by omega
      simp -dsimp [k0, k1, k2, f0, f1, f2, z1, z2, z3, htx, g1, him, y0, y1, y2, Ne.symm y0, Ne.symm y1, Ne.symm y2, e8, e8', fullb, hPc, hPcs, hc, hcs, e0, e1, e2, e3, e4, e5, nes]
      have ho : ∀ j, j < n → m1 j = m j := fun j j1 => by have hj := hout j (by omega); simp [far j1] at hj; exact hj
      refine ⟨by omega, fun j j1 => ?_, .inr ⟨n1 + 1 + 1 + 1 + 1 + 1, [], by simp, by omega, by omega, ?_⟩⟩
      · simp [show ¬ j = n + 1 + 1 by omega, show ¬ j = n1 by omega, show ¬ j = id by omega, far (show j < n1 by omega), ho j j1]
      · rw [plT_append]; simp [plT, storyV, nes, f2, show ¬ n1 + 1 + 1 + 1 + 1 + 1 = n + 1 + 1 by omega, show ¬ n1 + 1 + 1 + 1 = n by omega]
end TL

/- Drawn deeds. -/
set_option linter.unusedSimpArgs false
set_option linter.unusedVariables false
set_option maxRecDepth 100000
set_option maxHeartbeats 4000000
set_option pp.maxSteps 1500
namespace TL
open Go Go.Proofs
attribute [local simp] marksV storyV codeV Claim.v Place.v Deed.v
def SomeDeed (x : V) : Prop := ∃ a : Deed, a.words.length ≤ 200 ∧ x = a.v
theorem deed_kinds : ∃ vs : List V, vs = [.int .i64 0, .int .i64 0, .int .i64 0, .int .i64 1, .int .i64 2, .int .i64 3, .int .i64 4] ∧ ∀ r : Int, 0 ≤ r → r < 7 → ∃ k : Int, 0 ≤ k ∧ k ≤ 4 ∧ vs[r.toNat]? = some (.int .i64 k) := by
  refine ⟨_, rfl, fun r h0 h6 => ?_⟩
  have : r = 0 ∨ r = 1 ∨ r = 2 ∨ r = 3 ∨ r = 4 ∨ r = 5 ∨ r = 6 := by omega
  rcases this with rfl | rfl | rfl | rfl | rfl | rfl | rfl
  · exact ⟨0, by omega, by omega, rfl⟩
  · exact ⟨0, by omega, by omega, rfl⟩
  · exact ⟨0, by omega, by omega, rfl⟩
  · exact ⟨1, by omega, by omega, rfl⟩
  · exact ⟨2, by omega, by omega, rfl⟩
  · exact ⟨3, by omega, by omega, rfl⟩
  · exact ⟨4, by omega, by omega, rfl⟩
def DI (m0 : Mem) (n0 rid : Nat) (bs : List UInt8) (p : Nat) (q : Place) (s : S) : Prop := ∃ (kind : Int) (id p' : Nat), s.tm 0 = .ptr rid 0 ∧ s.tm 3 = .ptr n0 0 ∧ s.tm 4 = .ptr (n0 + 1) 0 ∧ s.tm 5 = .ptr id 0 ∧ s.mu = false ∧ n0 + 1 < id ∧ id < s.n ∧
  s.m n0 = some (.box 25 2 [.v (.int .i64 q.people), .v (storyV q.story)]) ∧ s.m (n0 + 1) = some (.box 30 3 [.v (.int .i64 0), .v (.int .i64 0), .v (.str [])]) ∧
  s.m id = some (.box 30 3 [.v (.int .i64 kind), .v (.int .i64 0), .v (.str [])]) ∧ s.m rid = some (rdB bs p') ∧ p ≤ p' ∧ p' ≤ p + 2 ∧ (∀ j, j < n0 → j ≠ rid → s.m j = m0 j)
def DI2 (m0 : Mem) (n0 rid : Nat) (bs : List UInt8) (p : Nat) (s : S) : Prop := ∃ (kind num : Int) (words : List UInt8) (id p' : Nat), s.tm 0 = .ptr rid 0 ∧ s.tm 4 = .ptr (n0 + 1) 0 ∧ s.tm 5 = .ptr id 0 ∧ s.mu = false ∧ n0 + 1 < id ∧ id < s.n ∧
  s.m (n0 + 1) = some (.box 30 3 [.v (.int .i64 0), .v (.int .i64 0), .v (.str [])]) ∧
  s.m id = some (.box 30 3 [.v (.int .i64 kind), .v (.int .i64 num), .v (.str words)]) ∧ words.length ≤ 100 ∧ s.m rid = some (rdB bs p') ∧ p ≤ p' ∧ p' ≤ p + 60 ∧ (∀ j, j < n0 → j ≠ rid → s.m j = m0 j)
theorem sixty {r : Int} (h0 : 0 ≤ r) (h : r < 60) : ∃ k : Int, r.tdiv 59 = k ∧ 0 ≤ k ∧ k ≤ 1 := ⟨_, rfl, by rw [Int.tdiv_eq_ediv_of_nonneg h0]; omega, by rw [Int.tdiv_eq_ediv_of_nonneg h0]; omega⟩
theorem deed_zX (bs : List UInt8) (p : Nat) (hp : p < 600000000) (q : Place) (hq : q.story.length ≤ 1000) (X : T) (hX : X.cells = [.v (.int .i64 q.people), .v (storyV q.story)]) (m : Mem) (n rid : Nat) (hr : rid < n) (hm : m rid = some (rdB bs p)) :
    FnS Tryz.prog 19 m n [.ptr rid 0, X] (Draws SomeDeed 100 m n rid bs p) := by
  refine Draws_of hr ⟨_, Tryz.func19, rfl, rfl⟩ fun hfr => ?_
  obtain ⟨vs, hvs, hel⟩ := deed_kinds
  refine FnS_of (rs := [.cell 4 30]) false Tryz.func19 rfl rfl rfl rfl (Nat.le_of_ble_eq_true rfl) ?_
  have f1 := far hr
  simp -dsimp [hX]
  refine twp_cutQ (DI m n rid bs p q) ?_ ?_
  · refine twp_drawT (.run [1, 5, 1000] (.alt (.run [11, 2, 3, 4, 6, 7, 8, 9, 10, 12] .done) (.run [2, 3, 4] (.alt (.run [11, 6, 7, 8, 9, 10, 12] .done) (.run [6, 7, 8, 9, 10, 11, 12] .done))))) [] (List.replicate 13 []) (List.replicate 13 []) (by kernel_rfl) (by kernel_rfl) (by kernel_rfl) (by kernel_rfl) ?_
    simp -dsimp [List.range_succ, f1]
    refine bld_ [(0, .int .i64 0), (1, .int .i64 0), (2, .int .i64 0), (3, .int .i64 1), (4, .int .i64 2), (5, .int .i64 3), (6, .int .i64 4)] 3 vs (by simp -dsimp) (by rw [hvs]; simp -dsimp) ?_
    clear hvs
    simp -dsimp [List.range_succ, f1]
    refine ordT_both ?_ ?_
    · simp -dsimp [List.range_succ, f1]
      refine callS_ (pick_at bs p (by omega) _ _ _ rid (by simp [hm, f1])) ?_
      rintro t m1 n1 ⟨hn1, ⟨r, rfl, hr0, hr1⟩, rfl⟩
      have hr1 := hr1 (by decide)
      refine (hel r hr0 hr1).elim fun k hk => ?_
      have k0 := hk.1
      have k4 := hk.2.1
      have kg := hk.2.2
      have g1 := far (show rid < n1 by omega)
      simp -dsimp [List.range_succ, f1, hr0, kg]
      refine callS_ (pick_at bs (p + 1) (by omega) _ _ _ rid (by simp [f1, g1])) ?_
      rintro t m2 n2 ⟨hn2, ⟨r2, rfl, hr20, hr21⟩, rfl⟩
      have hr21 := hr21 (by decide)
      refine (sixty hr20 hr21).elim fun k2 hk2 => ?_
      have e2 := hk2.1
      have e20 := hk2.2.1
      have e21 := hk2.2.2
      have w1 : IntKind.wrap .i64 k2 = k2 := w64 (by omega) (by omega)
      have w2 : IntKind.wrap .i64 (k2 * 5) = k2 * 5 := w64 (by omega) (by omega)
      have w3 : IntKind.wrap .i64 (k + k2 * 5) = k + k2 * 5 := w64 (by omega) (by omega)
      have g2 := far (show rid < n2 by omega)
      have g3 := far (show n < n2 by omega)
      have g4 := far (show n + 1 < n2 by omega)
      have g5 := far (show n < n1 by omega)
      have g6 := far (show n + 1 < n1 by omega)
      have g7 := far (show n < n + 1 + 1 by omega)
      have g8 := far (show n + 1 < n + 1 + 1 by omega)
      simp -dsimp [List.range_succ, f1, g1, g2, g3, g4, e2, w1, w2, w3]
      refine ⟨k + k2 * 5, n + 1 + 1, p + 1 + 1, by simp -dsimp, by simp -dsimp, by simp -dsimp, by simp -dsimp, by simp -dsimp, by omega, by simp -dsimp <;> omega, by simp -dsimp [f1, g1, g2, g3, g4, g5, g6, g7, g8], by simp -dsimp [f1, g1, g2, g3, g4, g5, g6, g7, g8], by simp -dsimp [f1, g1, g2, g3, g4, g5, g6, g7, g8], by simp -dsimp [f1, g1, g2, g3, g4, g5, g6, g7, g8], by omega, by omega, fun j j1 j2 => ?_⟩
      simp -dsimp [far j1, far (show j < n1 by omega), far (show j < n2 by omega), j2, Ne.symm j2]
    · simp -dsimp [List.range_succ, f1]
      refine callS_ (pick_at bs p (by omega) _ _ _ rid (by simp [hm, f1])) ?_
      rintro t m1 n1 ⟨hn1, ⟨r, rfl, hr0, hr1⟩, rfl⟩
      have hr1 := hr1 (by decide)
      refine (hel r hr0 hr1).elim fun k hk => ?_
      have k0 := hk.1
      have k4 := hk.2.1
      have kg := hk.2.2
      have g1 := far (show rid < n1 by omega)
      simp -dsimp [List.range_succ, f1, hr0, kg]
      refine ordT_both ?_ ?_
      · simp -dsimp [List.range_succ, f1, g1]
        refine callS_ (pick_at bs (p + 1) (by omega) _ _ _ rid (by simp [f1, g1])) ?_
        rintro t m2 n2 ⟨hn2, ⟨r2, rfl, hr20, hr21⟩, rfl⟩
        have hr21 := hr21 (by decide)
        refine (sixty hr20 hr21).elim fun k2 hk2 => ?_
        have e2 := hk2.1
        have e20 := hk2.2.1
        have e21 := hk2.2.2
        have w1 : IntKind.wrap .i64 k2 = k2 := w64 (by omega) (by omega)
        have w2 : IntKind.wrap .i64 (k2 * 5) = k2 * 5 := w64 (by omega) (by omega)
        have w3 : IntKind.wrap .i64 (k + k2 * 5) = k + k2 * 5 := w64 (by omega) (by omega)
        have g2 := far (show rid < n2 by omega)
        have g3 := far (show n < n2 by omega)
        have g4 := far (show n + 1 < n2 by omega)
        have g5 := far (show n < n1 by omega)
        have g6 := far (show n + 1 < n1 by omega)
        have g7 := far (show n < n + 1 + 1 by omega)
        have g8 := far (show n + 1 < n + 1 + 1 by omega)
        simp -dsimp [List.range_succ, f1, g1, g2, g3, g4, e2, w1, w2, w3]
        refine ⟨k + k2 * 5, n1, p + 1 + 1, by simp -dsimp, by simp -dsimp, by simp -dsimp, by simp -dsimp, by simp -dsimp, by omega, by simp -dsimp <;> omega, by simp -dsimp [f1, g1, g2, g3, g4, g5, g6, g7, g8], by simp -dsimp [f1, g1, g2, g3, g4, g5, g6, g7, g8], by simp -dsimp [f1, g1, g2, g3, g4, g5, g6, g7, g8], by simp -dsimp [f1, g1, g2, g3, g4, g5, g6, g7, g8], by omega, by omega, fun j j1 j2 => ?_⟩
        simp -dsimp [far j1, far (show j < n1 by omega), far (show j < n2 by omega), j2, Ne.symm j2]
      · simp -dsimp [List.range_succ, f1, g1]
        refine callS_ (pick_at bs (p + 1) (by omega) _ _ _ rid (by simp [f1, g1])) ?_
        rintro t m2 n2 ⟨hn2, ⟨r2, rfl, hr20, hr21⟩, rfl⟩
        have hr21 := hr21 (by decide)
        refine (sixty hr20 hr21).elim fun k2 hk2 => ?_
        have e2 := hk2.1
        have e20 := hk2.2.1
        have e21 := hk2.2.2
        have w1 : IntKind.wrap .i64 k2 = k2 := w64 (by omega) (by omega)
        have w2 : IntKind.wrap .i64 (k2 * 5) = k2 * 5 := w64 (by omega) (by omega)
        have w3 : IntKind.wrap .i64 (k + k2 * 5) = k + k2 * 5 := w64 (by omega) (by omega)
        have g2 := far (show rid < n2 by omega)
        have g3 := far (show n < n2 by omega)
        have g4 := far (show n + 1 < n2 by omega)
        have g5 := far (show n < n1 by omega)
        have g6 := far (show n + 1 < n1 by omega)
        have g7 := far (show n < n + 1 + 1 by omega)
        have g8 := far (show n + 1 < n + 1 + 1 by omega)
        simp -dsimp [List.range_succ, f1, g1, g2, g3, g4, e2, w1, w2, w3]
        refine ⟨k + k2 * 5, n2, p + 1 + 1, by simp -dsimp, by simp -dsimp, by simp -dsimp, by simp -dsimp, by simp -dsimp, by omega, by simp -dsimp <;> omega, by simp -dsimp [f1, g1, g2, g3, g4, g5, g6, g7, g8], by simp -dsimp [f1, g1, g2, g3, g4, g5, g6, g7, g8], by simp -dsimp [f1, g1, g2, g3, g4, g5, g6, g7, g8], by simp -dsimp [f1, g1, g2, g3, g4, g5, g6, g7, g8], by omega, by omega, fun j j1 j2 => ?_⟩
        simp -dsimp [far j1, far (show j < n1 by omega), far (show j < n2 by omega), j2, Ne.symm j2]
  · intro s hs
    refine twp_cut (DI2 m n rid bs p) ?_ ?_
    · obtain ⟨kind, id, p', t0, t3, t4, t5, hmu, hid0, hid, m0, m1, mid, mrd, hp0, hp2, hout⟩ := hs
      have d0 : ¬ rid = id := by omega
      have d1 : ¬ n = id := by omega
      have d2 : ¬ n + 1 = id := by omega
      have d3 : ¬ id = rid := by omega
      have e1 : ¬ n + 1 = rid := by omega
      have e2 : ¬ rid = n + 1 := by omega
      have h1 := far hid
      have h2 := far (show rid < s.n by omega)
      have h3 := far (show n < s.n by omega)
      have h4 := far (show n + 1 < s.n by omega)
      by_cases k0 : kind = 0
      · have hpe : ∃ w : Int, max q.people 1 = w ∧ 1 ≤ w := ⟨_, rfl, by omega⟩
        have hpe2 : ∃ w : Int, min (max q.people 1) 4 = w ∧ 1 ≤ w ∧ w ≤ 4 := ⟨_, rfl, by omega, by omega⟩
        refine hpe2.elim fun w hw => ?_
        have hw1 := hw.1
        have hw2 := hw.2.1
        have hw3 := hw.2.2
        simp -dsimp [t0, t3, t4, t5, mid, m0, k0, hw1, h1, h2, h3]
        refine callS_ (claim_z bs p' (by omega) w 0 (by omega) (by omega) (by omega) _ _ rid (by omega) (by simp [mrd])) ?_
        rintro t m2 n2 ⟨hn2, ⟨x, ⟨c, cl, cf, rfl⟩, rfl⟩, p3, hp3, hp4, rfl⟩
        have hct := claimTxS_fn w c ⟨cf.2, by omega⟩
        have hcl := claimTx_short w c
        have h5 := far (show id < n2 by omega)
        generalize claimTx w c = cx at *
        simp -dsimp [t0, t3, t4, t5, mid, m0, h1, h2, h3, h5, d3]
        refine call_ hct (by simp -dsimp) ?_
        simp -dsimp [t0, t3, t4, t5, mid, m0, h1, h2, h3, h5, d3]
        refine ⟨0, 0, cx, id, p3, by simp -dsimp [t0], by simp -dsimp [t4], by simp -dsimp [t5], by simp -dsimp [hmu], hid0, by simp -dsimp <;> omega, by simp -dsimp [d2, e1, e2, m1], by simp -dsimp [k0], by omega, by simp -dsimp [d0, d3], by omega, by omega, fun j j1 j2 => ?_⟩
        simp -dsimp [show ¬ j = id by omega, j2, hout j j1 j2]
      by_cases k1 : kind = 1
      · have hl1 : ∃ w : Int, max (q.story.length : Int) 1 = w ∧ 1 ≤ w ∧ w ≤ 1000 := ⟨_, rfl, by omega, by omega⟩
        refine hl1.elim fun w hw => ?_
        have hw1 := hw.1
        have hw2 := hw.2.1
        have hw3 := hw.2.2
        simp -dsimp [t0, t3, t4, t5, mid, m0, k0, k1, hw1, h1, h2, h3]
        refine callS_ (pick_at bs p' (by omega) _ _ _ rid (by simp [mrd])) ?_
        rintro t m2 n2 ⟨hn2, ⟨r, rfl, hr0, hr1⟩, rfl⟩
        simp -dsimp [t0, t3, t4, t5, mid, m0, h1, h2, h3, d3]
        refine ⟨1, r, [], id, p' + 1, by simp -dsimp [t0], by simp -dsimp [t4], by simp -dsimp [t5], by simp -dsimp [hmu], hid0, by simp -dsimp <;> omega, by simp -dsimp [d2, e1, e2, m1], by simp -dsimp [k1], by simp, by simp -dsimp [d0, d3], by omega, by omega, fun j j1 j2 => ?_⟩
        simp -dsimp [show ¬ j = id by omega, j2, hout j j1 j2]
      by_cases k2 : kind = 2
      · simp -dsimp [t0, t3, t4, t5, mid, m0, k0, k1, k2, h1, h2, h3]
        refine callS_ (pick_at bs p' (by omega) _ _ _ rid (by simp [mrd])) ?_
        rintro t m2 n2 ⟨hn2, ⟨r, rfl, hr0, hr1⟩, rfl⟩
        have hr1 := hr1 (by decide)
        have wr : IntKind.wrap .i64 (1 + r) = 1 + r := w64 (by omega) (by omega)
        simp -dsimp [t0, t3, t4, t5, mid, m0, h1, h2, h3, d3, wr]
        refine ⟨2, 1 + r, [], id, p' + 1, by simp -dsimp [t0], by simp -dsimp [t4], by simp -dsimp [t5], by simp -dsimp [hmu], hid0, by simp -dsimp <;> omega, by simp -dsimp [d2, e1, e2, m1], by simp -dsimp [k2], by simp, by simp -dsimp [d0, d3], by omega, by omega, fun j j1 j2 => ?_⟩
        simp -dsimp [show ¬ j = id by omega, j2, hout j j1 j2]
      · simp -dsimp [t0, t3, t4, t5, mid, m0, k0, k1, k2, h1, h2, h3]
        exact ⟨kind, 0, [], id, p', by simp -dsimp [t0], by simp -dsimp [t4], by simp -dsimp [t5], by simp -dsimp [hmu], hid0, by simp -dsimp [hid], by simp -dsimp [m1], by simp -dsimp [mid], by simp, by simp -dsimp [mrd], by omega, by omega, fun j j1 j2 => by simp -dsimp [hout j j1 j2]⟩
    · rintro s ⟨kind, num, words, id, p', t0, t4, t5, hmu, hid0, hid, m1, mid, hwl, mrd, hp0, hp2, hout⟩
      have d0 : ¬ rid = id := by omega
      have d1 : ¬ n + 1 = id := by omega
      have d2 : ¬ n + 1 = rid := by omega
      have d3 : ¬ id = rid := by omega
      have d4 : ¬ id = n + 1 := by omega
      have e2 : ¬ rid = n + 1 := by omega
      have h1 := far hid
      have h2 := far (show rid < s.n by omega)
      have h4 := far (show n + 1 < s.n by omega)
      simp -dsimp [t0]
      refine callS_ (odd_at bs p' (by omega) _ (by omega) _ _ rid (by simp [mrd])) ?_
      rintro t m2 n2 ⟨hn2, ⟨b, rfl, _⟩, p3, hp3, hp4, rfl⟩
      cases b with
      | false =>
        simp -dsimp [t0, t4, t5, mid, m1, d0, d1, d2, d3, d4]
        refine ⟨by omega, ⟨_, by simp, ⟨kind, num, words⟩, by simp only; omega, rfl⟩, fun j j1 j2 => ?_, p3, by omega, by omega, by simp [d0, d1, d2, d3, d4, e2, h1, h2, h4]⟩
        simp [far j1, far (show j < s.n by omega), far (show j < n2 by omega), show ¬ j = id by omega, show ¬ j = n + 1 by omega, j2, hout j j1 j2]
      | true =>
        have h5 := far (show id < n2 by omega)
        have h6 := far (show rid < n2 by omega)
        have h7 := far (show n + 1 < n2 by omega)
        simp -dsimp [t0, t4, t5, mid, m1, d0, d1, d2, d3, d4]
        refine callS_ (pick_at bs p3 (by omega) _ _ _ rid (by simp)) ?_
        rintro t m3 n3 ⟨hn3, ⟨r, rfl, hr0, hr1⟩, rfl⟩
        have hr1 := hr1 (by decide)
        have g5 := far (show id < n3 by omega)
        have g6 := far (show rid < n3 by omega)
        have g7 := far (show n + 1 < n3 by omega)
        have hr4 : r = 0 ∨ r = 1 := by omega
        rcases hr4 with rfl | rfl
        · simp -dsimp [t0, t4, t5, mid, m1, hmu, d0, d1, d2, d3, d4, g5, g6, g7]
          refine callS_ (pick_at bs (p3 + 1) (by omega) _ _ _ rid (by simp [g6])) ?_
          rintro t m4 n4 ⟨hn4, ⟨r2, rfl, hr20, hr21⟩, rfl⟩
          have hr21 := hr21 (by decide)
          have hr5 : r2 = 0 ∨ r2 = 1 := by omega
          have g8 := far (show n3 < n4 by omega)
          rcases hr5 with rfl | rfl
          · simp -dsimp [t0, t4, t5, mid, m1, hmu, d0, d1, d2, d3, d4, g5, g6, g7, g8]
            refine ⟨by omega, ⟨_, by simp, ⟨kind, -1, words⟩, by simp only; omega, rfl⟩, fun j j1 j2 => ?_, p3 + 1 + 1, by omega, by omega, by simp [d0, d1, d2, d3, d4, e2, h1, h2, h4, g6]⟩
            simp [far j1, far (show j < s.n by omega), far (show j < n2 by omega), far (show j < n3 by omega), show ¬ j = id by omega, show ¬ j = n + 1 by omega, j2, hout j j1 j2]
          · simp -dsimp [t0, t4, t5, mid, m1, hmu, d0, d1, d2, d3, d4, g5, g6, g7, g8]
            refine ⟨by omega, ⟨_, by simp, ⟨kind, 100, words⟩, by simp only; omega, rfl⟩, fun j j1 j2 => ?_, p3 + 1 + 1, by omega, by omega, by simp [d0, d1, d2, d3, d4, e2, h1, h2, h4, g6]⟩
            simp [far j1, far (show j < s.n by omega), far (show j < n2 by omega), far (show j < n3 by omega), show ¬ j = id by omega, show ¬ j = n + 1 by omega, j2, hout j j1 j2]
        · simp -dsimp [t0, t4, t5, mid, m1, hmu, d0, d1, d2, d3, d4, g5, g6, g7]
          refine callS_ (pick_at bs (p3 + 1) (by omega) _ _ _ rid (by simp [g6])) ?_
          rintro t m4 n4 ⟨hn4, ⟨r2, rfl, hr20, hr21⟩, rfl⟩
          have hr21 := hr21 (by decide)
          have hr5 : r2 = 0 ∨ r2 = 1 ∨ r2 = 2 ∨ r2 = 3 := by omega
          have g8 := far (show n3 < n4 by omega)
          rcases hr5 with rfl | rfl | rfl | rfl
          · simp -dsimp [t0, t4, t5, mid, m1, hmu, d0, d1, d2, d3, d4, g5, g6, g7, g8]
            refine ⟨by omega, ⟨_, by simp, ⟨kind, num, [97, 58, 40, 98, 41]⟩, by simp, rfl⟩, fun j j1 j2 => ?_, p3 + 1 + 1, by omega, by omega, by simp [d0, d1, d2, d3, d4, e2, h1, h2, h4, g6]⟩
            simp [far j1, far (show j < s.n by omega), far (show j < n2 by omega), far (show j < n3 by omega), show ¬ j = id by omega, show ¬ j = n + 1 by omega, j2, hout j j1 j2]
          · simp -dsimp [t0, t4, t5, mid, m1, hmu, d0, d1, d2, d3, d4, g5, g6, g7, g8]
            refine ⟨by omega, ⟨_, by simp, ⟨kind, num, [101, 58, 97]⟩, by simp, rfl⟩, fun j j1 j2 => ?_, p3 + 1 + 1, by omega, by omega, by simp [d0, d1, d2, d3, d4, e2, h1, h2, h4, g6]⟩
            simp [far j1, far (show j < s.n by omega), far (show j < n2 by omega), far (show j < n3 by omega), show ¬ j = id by omega, show ¬ j = n + 1 by omega, j2, hout j j1 j2]
          · simp -dsimp [t0, t4, t5, mid, m1, hmu, d0, d1, d2, d3, d4, g5, g6, g7, g8]
            refine ⟨by omega, ⟨_, by simp, ⟨kind, num, [97, 32, 97]⟩, by simp, rfl⟩, fun j j1 j2 => ?_, p3 + 1 + 1, by omega, by omega, by simp [d0, d1, d2, d3, d4, e2, h1, h2, h4, g6]⟩
            simp [far j1, far (show j < s.n by omega), far (show j < n2 by omega), far (show j < n3 by omega), show ¬ j = id by omega, show ¬ j = n + 1 by omega, j2, hout j j1 j2]
          · simp -dsimp [t0, t4, t5, mid, m1, hmu, d0, d1, d2, d3, d4, g5, g6, g7, g8]
            refine ⟨by omega, ⟨_, by simp, ⟨kind, num, [97, 58]⟩, by simp, rfl⟩, fun j j1 j2 => ?_, p3 + 1 + 1, by omega, by omega, by simp [d0, d1, d2, d3, d4, e2, h1, h2, h4, g6]⟩
            simp [far j1, far (show j < s.n by omega), far (show j < n2 by omega), far (show j < n3 by omega), show ¬ j = id by omega, show ¬ j = n + 1 by omega, j2, hout j j1 j2]
theorem deed_z (bs : List UInt8) (p : Nat) (hp : p < 600000000) (q : Place) (hq : q.story.length ≤ 1000) (m : Mem) (n rid : Nat) (hr : rid < n) (hm : m rid = some (rdB bs p)) :
    FnS Tryz.prog 19 m n [.ptr rid 0, .v q.v] (Draws SomeDeed 100 m n rid bs p) := deed_zX bs p hp q hq _ rfl m n rid hr hm
theorem deed_zA (bs : List UInt8) (p : Nat) (hp : p < 600000000) (q : Place) (hq : q.story.length ≤ 1000) (m : Mem) (n rid : Nat) (hr : rid < n) (hm : m rid = some (rdB bs p)) :
    FnS Tryz.prog 19 m n [.ptr rid 0, .agg [.v (.int .i64 q.people), .v (storyV q.story)]] (Draws SomeDeed 100 m n rid bs p) := deed_zX bs p hp q hq _ rfl m n rid hr hm
end TL

/- The exact law of the texts of deeds. -/
set_option linter.unusedSimpArgs false
set_option linter.unusedVariables false
set_option maxRecDepth 100000
set_option maxHeartbeats 4000000
set_option pp.maxSteps 1500
namespace TL
open Go Go.Proofs
attribute [local simp] marksV storyV codeV Claim.v Place.v Deed.v
def Deed.fit (a : Deed) : Prop := TL.fit a.kind ∧ TL.fit a.num ∧ a.words.length ≤ 9223372036854775807
end TL

/- Journals. -/
set_option linter.unusedSimpArgs false
set_option linter.unusedVariables false
set_option maxRecDepth 100000
set_option maxHeartbeats 4000000
set_option pp.maxSteps 1500
namespace TL
open Go Go.Proofs
attribute [local simp] marksV storyV codeV Claim.v Place.v Deed.v
def jr (l : List Deed) (f : Deed → List UInt8) : List UInt8 := (l.map fun a => f a ++ [10]).flatten
noncomputable def journalTx (l : List Deed) : List UInt8 := by
  classical exact if ∃ a ∈ l, deedTx a = [] then [] else jr l deedTx
theorem jr_take {l : List Deed} {f : Deed → List UInt8} {i : Nat} (h : i < l.length) : jr (l.take (i + 1)) f = jr (l.take i) f ++ f l[i] ++ [10] := by
  unfold jr; rw [List.take_succ_eq_append_getElem h, List.map_append, List.flatten_append]; simp
theorem jr_len (l : List Deed) : (jr l deedTx).length ≤ 41 * l.length := by
  induction l with
  | nil => simp [jr]
  | cons a l ih =>
    have := deedTx_len a
    simp only [jr, List.map_cons, List.flatten_cons, List.length_append, List.length_cons, List.length_nil] at ih ⊢; omega
theorem journalTx_none {l : List Deed} {a : Deed} (h : a ∈ l) (h0 : deedTx a = []) : journalTx l = [] := by
  unfold journalTx; exact if_pos ⟨a, h, h0⟩
theorem journalTx_all {l : List Deed} (h : ∀ a ∈ l, deedTx a ≠ []) : journalTx l = jr l deedTx := by
  unfold journalTx; exact if_neg fun ⟨a, ha, h0⟩ => h a ha h0
def Ijt (l : List Deed) (e : Nat) (s : S) : Prop := ∃ i : Nat, s.tm 7 = .v (.sl (l.map Deed.v)) ∧ s.tm 8 = .v (.int .i64 l.length) ∧ s.tm 9 = .v (.int .i64 i) ∧ s.tm 3 = .v (.str (jr (l.take i) deedTx)) ∧ i ≤ l.length ∧ (∀ a ∈ l.take i, deedTx a ≠ []) ∧ (e = 1 → i = l.length)
theorem take_next {l : List Deed} {i : Nat} (h : i < l.length) (ha : ∀ a ∈ l.take i, deedTx a ≠ []) (h0 : deedTx l[i] ≠ []) : ∀ a ∈ l.take (i + 1), deedTx a ≠ [] := fun a hx => by
  rw [List.take_succ_eq_append_getElem h] at hx
  rcases List.mem_append.1 hx with hx | hx
  · exact ha a hx
  · cases List.mem_singleton.1 hx; exact h0
def Isjt (l : List Deed) (e : Nat) (s : S) : Prop := ∃ i : Nat, s.tm 0 = .v (.sl (l.map Deed.v)) ∧ s.tm 4 = .v (.int .i64 i) ∧ s.tm 3 = .v (.str (jr (l.take i) deedTx)) ∧ i ≤ l.length ∧ (∀ a ∈ l.take i, deedTx a ≠ []) ∧ (e = 1 → i = l.length)
/-! Rows of deeds. -/
theorem elemOk_deed : ElemOk Deed.v 3 := fun a => ⟨rfl, by simp, by simp⟩
theorem cellsT_deed (a : Deed) : cellsT a.v = [.v (.int .i64 a.kind), .v (.int .i64 a.num), .v (.str a.words)] := rfl
def ItoDeedS (l : List Deed) (a : Nat) (s : S) : Prop := ∃ i : Nat, s.tm 0 = .v (.sl (l.map Deed.v)) ∧ s.tm 3 = .sv 0 0 l.length ∧ s.tm 4 = .v (.int .i64 i) ∧ i ≤ l.length ∧ s.m 0 = some (.box 30 3 (filled Deed.v [T.v (.int .i64 0), T.v (.int .i64 0), T.v (.str [])] l i).flatten) ∧ (a = 1 → i = l.length)
def IeqDeedS (a b : List Deed) (e : Nat) (s : S) : Prop := ∃ i : Nat, s.tm 0 = .v (.sl (a.map Deed.v)) ∧ s.tm 1 = .v (.sl (b.map Deed.v)) ∧ s.tm 5 = .v (.int .i64 i) ∧ i ≤ a.length ∧ a.take i = b.take i ∧ (e = 1 → i = a.length)
def wordsSum (l : List Deed) : Nat := (l.map fun c => c.words.length).sum
theorem wordsSum_take {l : List Deed} {i : Nat} (h : i < l.length) : wordsSum (l.take (i + 1)) = wordsSum (l.take i) + l[i].words.length := by
  unfold wordsSum; rw [List.take_succ_eq_append_getElem h, List.map_append, List.sum_append]; rfl
theorem wordsSum_le (l : List Deed) (i : Nat) : wordsSum (l.take i) ≤ wordsSum l := by
  have e : wordsSum l = wordsSum (l.take i ++ l.drop i) := by rw [List.take_append_drop]
  rw [e]; unfold wordsSum; rw [List.map_append, List.sum_append]; omega
theorem wordsSum_mem {l : List Deed} {c : Deed} (h : c ∈ l) : c.words.length ≤ wordsSum l := by
  induction l with
  | nil => cases h
  | cons y ys ih =>
    rcases List.mem_cons.1 h with rfl | h
    · simp [wordsSum]
    · have := ih h; simp only [wordsSum, List.map_cons, List.sum_cons] at this ⊢; omega
def SZD (l : List Deed) (left : Int) (e : Nat) (s : S) : Prop := ∃ i : Nat, s.tm 0 = .v (.sl (l.map Deed.v)) ∧ s.tm 1 = .v (.int .i64 (left - l.length - wordsSum (l.take i))) ∧ s.tm 5 = .v (.int .i64 i) ∧ i ≤ l.length ∧ 0 ≤ left - l.length - wordsSum (l.take i) ∧ (e = 1 → i = l.length)
end TL

/- What is read of a journal, in plain words. -/
set_option linter.unusedSimpArgs false
set_option linter.unusedVariables false
set_option maxRecDepth 100000
set_option maxHeartbeats 4000000
set_option pp.maxSteps 1500
namespace TL
open Go Go.Proofs
theorem cut_found {s : List UInt8} {c : UInt8} (h : (Go.Lib.cut s [c]).2.2 = true) : s = (Go.Lib.cut s [c]).1 ++ c :: (Go.Lib.cut s [c]).2.1 ∧ ∀ y ∈ (Go.Lib.cut s [c]).1, y ≠ c := by
  rcases cut_first c s with h1 | ⟨x, r, rfl, h1⟩
  · rw [cut_clean h1] at h; cases h
  · rw [cut_at h1]; exact ⟨rfl, h1⟩
/-- What ReadJournal reads, and how far. -/
noncomputable def readJF : Nat → List UInt8 → List Deed × Nat
  | 0, _ => ([], 0)
  | f + 1, s => if (Go.Lib.cut s [10]).2.2 = true then match readD (Go.Lib.cut s [10]).1 with
    | some a => (a :: (readJF f (Go.Lib.cut s [10]).2.1).1, (Go.Lib.cut s [10]).1.length + 1 + (readJF f (Go.Lib.cut s [10]).2.1).2)
    | none => ([], 0) else ([], 0)
noncomputable def readJ (s : List UInt8) : List Deed × Nat := readJF (s.length + 1) s
theorem readJF_step {f : Nat} {s : List UInt8} {a : Deed} (h : (Go.Lib.cut s [10]).2.2 = true) (ha : readD (Go.Lib.cut s [10]).1 = some a) :
    readJF (f + 1) s = (a :: (readJF f (Go.Lib.cut s [10]).2.1).1, (Go.Lib.cut s [10]).1.length + 1 + (readJF f (Go.Lib.cut s [10]).2.1).2) := by
  show (if _ then _ else _) = _
  rw [if_pos h, ha]
theorem readJF_stop {f : Nat} {s : List UInt8} (h : (Go.Lib.cut s [10]).2.2 = false ∨ readD (Go.Lib.cut s [10]).1 = none) : readJF (f + 1) s = ([], 0) := by
  show (if _ then _ else _) = _
  rcases h with h | h
  · rw [if_neg (by simp [h])]
  · rw [h]; split <;> rfl
theorem readJF_jr : ∀ (l : List Deed) (f : Nat), l.length < f → (∀ a ∈ l, deedTx a ≠ []) → readJF f (jr l deedTx) = (l, (jr l deedTx).length)
  | [], f + 1, _, _ => by
    have e : jr ([] : List Deed) deedTx = [] := rfl
    rw [e, readJF_stop (.inl (by rw [cut_clean (by simp)]))]; rfl
  | a :: l, f + 1, hf, h => by
    have h1 := h a (List.mem_cons_self ..)
    have e : jr (a :: l) deedTx = deedTx a ++ 10 :: jr l deedTx := by simp [jr]
    have hc : ∀ y ∈ deedTx a, y ≠ 10 := by
      rcases deed_cases h1 with ⟨w, rfl, ⟨d, hd⟩, e⟩ | ⟨n, h0, h9, rfl, e⟩ | ⟨n, h0, h9, rfl, e⟩ | ⟨rfl, e⟩ | ⟨rfl, e⟩ <;> rw [e]
      · intro y hy
        rcases List.mem_append.1 hy with hy | hy
        · have h10 : ∀ y ∈ txSay, y ≠ (10 : UInt8) := by decide
          exact h10 y hy
        · exact (readC_clean hd y hy).2
      · intro y hy
        rcases List.mem_append.1 hy with hy | hy
        · have h10 : ∀ y ∈ txDrop, y ≠ (10 : UInt8) := by decide
          exact h10 y hy
        · exact ((good_dec h0 h9).2.2 y hy).2
      · intro y hy
        rcases List.mem_append.1 hy with hy | hy
        · have h10 : ∀ y ∈ txPeople, y ≠ (10 : UInt8) := by decide
          exact h10 y hy
        · exact ((good_dec h0 h9).2.2 y hy).2
      · decide
      · decide
    have ih := readJF_jr l f (by simp at hf; omega) fun b hb => h b (List.mem_cons_of_mem _ hb)
    have hcut := cut_at (r := jr l deedTx) hc
    rw [e, readJF_step (a := a) (by rw [hcut]) (by rw [hcut]; exact readD_some h1 rfl), hcut]
    simp only
    rw [ih]
    simp only [List.length_append, List.length_cons]
    congr 1; omega
theorem jr_long : ∀ (l : List Deed), l.length ≤ (jr l deedTx).length
  | [] => by simp
  | a :: l => by
    have := jr_long l
    have e : jr (a :: l) deedTx = deedTx a ++ 10 :: jr l deedTx := by simp [jr]
    rw [e]; simp only [List.length_append, List.length_cons]; omega
theorem readJ_jr {l : List Deed} (h : ∀ a ∈ l, deedTx a ≠ []) : readJ (jr l deedTx) = (l, (jr l deedTx).length) := readJF_jr l _ (by have := jr_long l; omega) h
end TL

/- The exact laws of the texts of places, and of new stores. -/
set_option linter.unusedSimpArgs false
set_option linter.unusedVariables false
set_option maxRecDepth 100000
set_option maxHeartbeats 4000000
set_option pp.maxSteps 1500
namespace TL
open Go Go.Proofs
attribute [local simp] marksV storyV codeV Claim.v Place.v Deed.v
structure Store where
  saved : List UInt8
  log : List UInt8
  sure : Int
  deriving DecidableEq
def Store.v (s : Store) : V := .agg [.str s.saved, .str s.log, .int .i64 s.sure]
def noStore : Store := ⟨[], [], 0⟩
noncomputable def storeNew (p : Place) : Store := if placeOk p = true then ⟨placeTx p, [], 0⟩ else noStore
theorem place_ready {p : Place} (h : p.fit ∧ p.mid) (hz : ¬ (1048576 : Int) - p.bulk < 0) : p.small ∧ p.fine := by
  have hs := Place.small_of hz
  exact ⟨hs, by have := hs.1; omega, fun c hc => ⟨(h.1.2 c hc).2, by have := hs.2 c hc; unfold Claim.small at this; omega⟩⟩
end TL

/- Stores: whether they are sound, what a crash leaves, what a sync makes. -/
set_option linter.unusedSimpArgs false
set_option linter.unusedVariables false
set_option maxRecDepth 100000
set_option maxHeartbeats 4000000
set_option pp.maxSteps 1500
namespace TL
open Go Go.Proofs
attribute [local simp] marksV storyV codeV Claim.v Place.v Store.v
noncomputable def storeOk (s : Store) : Bool := (readP s.saved).isSome && decide (s.log.length ≤ 1000) && decide (0 ≤ s.sure) && decide (s.sure ≤ s.log.length)
def Store.small (s : Store) : Prop := s.saved.length ≤ 2000000000 ∧ s.log.length ≤ 2000000000
noncomputable def crashOk (s : Store) (k : Int) : Bool := storeOk s && (decide (s.sure ≤ k) && decide (k ≤ s.log.length))
noncomputable def storeCrash (s : Store) (k : Int) : Store := if crashOk s k = true then ⟨s.saved, s.log.take k.toNat, s.sure⟩ else noStore
theorem storeOk_sure {s : Store} (h : storeOk s = true) : 0 ≤ s.sure := by
  simp only [storeOk, Bool.and_eq_true, decide_eq_true_eq] at h; exact h.1.2
noncomputable def storeSync (s : Store) : Store := if storeOk s = true then ⟨s.saved, s.log, s.log.length⟩ else noStore
/-! The exact laws. -/
def Store.bulk (s : Store) : Nat := s.saved.length + s.log.length
def Store.mid (s : Store) : Prop := s.saved.length ≤ 9223372036854775807 ∧ s.log.length ≤ 9223372036854775807
theorem store_ready {s : Store} (hz : ¬ szR 1048576 s.bulk < 0) : s.small := by
  unfold szR Store.bulk at hz
  split at hz
  · omega
  · exact ⟨by omega, by omega⟩
end TL

/- Journals and stores, in plain words. -/
set_option linter.unusedSimpArgs false
set_option linter.unusedVariables false
set_option maxRecDepth 100000
set_option maxHeartbeats 4000000
set_option pp.maxSteps 1500
namespace TL
open Go Go.Proofs
theorem deed_line {a : Deed} (h1 : deedTx a ≠ []) : ∀ y ∈ deedTx a, y ≠ 10 := by
  rcases deed_cases h1 with ⟨w, rfl, ⟨d, hd⟩, e⟩ | ⟨n, h0, h9, rfl, e⟩ | ⟨n, h0, h9, rfl, e⟩ | ⟨rfl, e⟩ | ⟨rfl, e⟩ <;> rw [e]
  · intro y hy
    rcases List.mem_append.1 hy with hy | hy
    · have h10 : ∀ y ∈ txSay, y ≠ (10 : UInt8) := by decide
      exact h10 y hy
    · exact (readC_clean hd y hy).2
  · intro y hy
    rcases List.mem_append.1 hy with hy | hy
    · have h10 : ∀ y ∈ txDrop, y ≠ (10 : UInt8) := by decide
      exact h10 y hy
    · exact ((good_dec h0 h9).2.2 y hy).2
  · intro y hy
    rcases List.mem_append.1 hy with hy | hy
    · have h10 : ∀ y ∈ txPeople, y ≠ (10 : UInt8) := by decide
      exact h10 y hy
    · exact ((good_dec h0 h9).2.2 y hy).2
  · decide
  · decide
theorem readJF_fuel : ∀ (f g : Nat) (s : List UInt8), s.length < f → s.length < g → readJF f s = readJF g s
  | 0, _, _, h, _ => absurd h (by omega)
  | f + 1, 0, _, _, h => absurd h (by omega)
  | f + 1, g + 1, s, hf, hg => by
    cases hc : (Go.Lib.cut s [10]).2.2
    · rw [readJF_stop (.inl hc), readJF_stop (.inl hc)]
    · cases hr : readD (Go.Lib.cut s [10]).1 with
      | none => rw [readJF_stop (.inr hr), readJF_stop (.inr hr)]
      | some a =>
        have hs := congrArg List.length (cut_found hc).1
        simp only [List.length_append, List.length_cons] at hs
        rw [readJF_step hc hr, readJF_step hc hr, readJF_fuel f g _ (by omega) (by omega)]
theorem readJ_clean {s : List UInt8} (h : ∀ y ∈ s, y ≠ 10) : readJ s = ([], 0) := readJF_stop (.inl (by rw [cut_clean h]))
theorem readJ_halt {x r : List UInt8} (h : ∀ y ∈ x, y ≠ 10) (ha : readD x = none) : readJ (x ++ 10 :: r) = ([], 0) := readJF_stop (.inr (by rw [cut_at h]; exact ha))
theorem readJ_step {x r : List UInt8} {a : Deed} (h : ∀ y ∈ x, y ≠ 10) (ha : readD x = some a) : readJ (x ++ 10 :: r) = (a :: (readJ r).1, x.length + 1 + (readJ r).2) := by
  have hc := cut_at (r := r) h
  unfold readJ
  rw [readJF_step (a := a) (by rw [hc]) (by rw [hc]; exact ha), hc]
  simp only
  rw [readJF_fuel _ (r.length + 1) r (by simp only [List.length_append, List.length_cons]; omega) (by omega)]
theorem jr_cons (a : Deed) (l : List Deed) : jr (a :: l) deedTx = deedTx a ++ 10 :: jr l deedTx := by simp [jr]
theorem jr_append (l k : List Deed) : jr (l ++ k) deedTx = jr l deedTx ++ jr k deedTx := by simp [jr]
theorem readJ_app {l : List Deed} (h : ∀ a ∈ l, deedTx a ≠ []) (r : List UInt8) : readJ (jr l deedTx ++ r) = (l ++ (readJ r).1, (jr l deedTx).length + (readJ r).2) := by
  induction l with
  | nil => simp [jr]
  | cons a l ih =>
    have h1 := h a (List.mem_cons_self ..)
    have ih := ih fun b hb => h b (List.mem_cons_of_mem _ hb)
    rw [jr_cons, List.append_assoc, List.cons_append, readJ_step (deed_line h1) (readD_some h1 rfl), ih]
    simp only [List.cons_append, List.length_append, List.length_cons, Prod.mk.injEq, true_and]; omega
theorem readJ_split : ∀ (n : Nat) (s : List UInt8), s.length ≤ n → (∀ a ∈ (readJ s).1, deedTx a ≠ []) ∧ ∃ r, s = jr (readJ s).1 deedTx ++ r ∧ (readJ s).2 = (jr (readJ s).1 deedTx).length := by
  intro n
  induction n with
  | zero =>
    intro s hs
    have : s = [] := List.length_eq_zero_iff.1 (by omega)
    subst this
    rw [readJ_clean (by simp)]
    exact ⟨by simp, [], by simp [jr], by simp [jr]⟩
  | succ n ih =>
    intro s hs
    rcases cut_first 10 s with h | ⟨x, r, rfl, h⟩
    · rw [readJ_clean h]; exact ⟨by simp, s, by simp [jr], by simp [jr]⟩
    · cases hr : readD x with
      | none => rw [readJ_halt h hr]; exact ⟨by simp, _, by simp [jr]; rfl, by simp [jr]⟩
      | some a =>
        obtain ⟨h1, r', h2, h3⟩ := ih r (by simp only [List.length_append, List.length_cons] at hs; omega)
        obtain ⟨hx, ha⟩ := readD_is hr
        rw [readJ_step h hr]
        refine ⟨fun b hb => ?_, r', ?_, ?_⟩
        · rcases List.mem_cons.1 hb with rfl | hb
          · rw [ha]; exact hx
          · exact h1 b hb
        · simp only
          rw [jr_cons, ha, List.append_assoc, List.cons_append, ← h2]
        · simp only
          rw [jr_cons, ha, h3]
          simp only [List.length_append, List.length_cons]; omega
theorem readJ_all (s : List UInt8) : ∀ a ∈ (readJ s).1, deedTx a ≠ [] := (readJ_split _ s (Nat.le_refl _)).1
theorem readJ_len (s : List UInt8) : (readJ s).2 = (jr (readJ s).1 deedTx).length := by
  obtain ⟨_, r, h1, h2⟩ := readJ_split _ s (Nat.le_refl _); exact h2
theorem readJ_take (s : List UInt8) : s.take (readJ s).2 = jr (readJ s).1 deedTx := by
  obtain ⟨_, r, h1, h2⟩ := readJ_split _ s (Nat.le_refl _)
  generalize readJ s = J at *
  rw [h2, h1, List.take_left]
theorem readJ_le (s : List UInt8) : (readJ s).2 ≤ s.length := by
  obtain ⟨_, r, h1, h2⟩ := readJ_split _ s (Nat.le_refl _)
  generalize readJ s = J at *
  rw [h2, h1]
  simp
theorem readJ_many (s : List UInt8) : (readJ s).1.length ≤ s.length := by
  have h1 := readJ_le s
  have h2 := readJ_len s
  have h3 := jr_long (readJ s).1
  omega
theorem readJ_full {s : List UInt8} (h : (readJ s).2 = s.length) : s = jr (readJ s).1 deedTx := by
  have := readJ_take s
  rw [h, List.take_length] at this
  exact this
theorem readJ_mend (s : List UInt8) : readJ (s.take (readJ s).2) = readJ s := by
  rw [readJ_take, readJ_jr (readJ_all s), ← readJ_len]
theorem readJ_pre : ∀ (n : Nat) (s : List UInt8), s.length ≤ n → ∀ k, (readJ (s.take k)).1 <+: (readJ s).1 := by
  intro n
  induction n with
  | zero =>
    intro s hs k
    have : s = [] := List.length_eq_zero_iff.1 (by omega)
    subst this
    simp
  | succ n ih =>
    intro s hs k
    rcases cut_first 10 s with h | ⟨x, r, rfl, h⟩
    · rw [readJ_clean (s := s.take k) fun y hy => h y (List.mem_of_mem_take hy)]; exact List.nil_prefix
    · by_cases hk : k ≤ x.length
      · rw [List.take_append_of_le_length hk, readJ_clean fun y hy => h y (List.mem_of_mem_take hy)]; exact List.nil_prefix
      · have e : (x ++ 10 :: r).take k = x ++ 10 :: r.take (k - x.length - 1) := by
          rw [List.take_append, List.take_of_length_le (by omega)]
          obtain ⟨j, hj⟩ : ∃ j, k - x.length = j + 1 := ⟨k - x.length - 1, by omega⟩
          rw [hj, List.take_succ_cons]; rfl
        rw [e]
        cases hr : readD x with
        | none => rw [readJ_halt h hr]; exact List.nil_prefix
        | some a =>
          rw [readJ_step h hr, readJ_step h hr]
          exact List.cons_prefix_cons.2 ⟨rfl, ih r (by simp only [List.length_append, List.length_cons] at hs; omega) _⟩
theorem readJ_prefix (s : List UInt8) (k : Nat) : (readJ (s.take k)).1 <+: (readJ s).1 := readJ_pre _ s (Nat.le_refl _) k
theorem readJ_mono (s : List UInt8) {k j : Nat} (h : k ≤ j) : (readJ (s.take k)).1 <+: (readJ (s.take j)).1 := by
  have e : s.take k = (s.take j).take k := by rw [List.take_take, Nat.min_eq_left h]
  rw [e]; exact readJ_prefix _ k
theorem readJ_snoc {s : List UInt8} (h : (readJ s).2 = s.length) {a : Deed} (ha : deedTx a ≠ []) : readJ (s ++ deedTx a ++ [10]) = ((readJ s).1 ++ [a], (s ++ deedTx a ++ [10]).length) := by
  have hs := readJ_full h
  have hall := readJ_all s
  generalize (readJ s).1 = l at *
  subst hs
  have e : jr l deedTx ++ deedTx a ++ [10] = jr (l ++ [a]) deedTx := by rw [jr_append, jr_cons]; simp [jr]
  rw [e]
  exact readJ_jr fun b hb => by
    rcases List.mem_append.1 hb with hb | hb
    · exact hall b hb
    · rw [List.mem_singleton.1 hb]; exact ha
/-! Stores. -/
noncomputable def placeOf (s : Store) : Place := (readP s.saved).getD ⟨0, []⟩
noncomputable def opened (s : Store) : Desk := (doAll ⟨placeOf s, []⟩ (readJ s.log).1).1
noncomputable def storeOpen (s : Store) : Desk := if storeOk s = true then opened s else noDeskV
theorem storeOk_iff {s : Store} : storeOk s = true ↔ (readP s.saved).isSome = true ∧ s.log.length ≤ 1000 ∧ 0 ≤ s.sure ∧ s.sure ≤ s.log.length := by
  simp only [storeOk, Bool.and_eq_true, decide_eq_true_eq, and_assoc]
theorem placeOf_ok {s : Store} (h : (readP s.saved).isSome = true) : placeOk (placeOf s) = true ∧ placeTx (placeOf s) = s.saved ∧ readP s.saved = some (placeOf s) := by
  unfold placeOf
  cases hr : readP s.saved with
  | none => rw [hr] at h; cases h
  | some p => exact ⟨(readP_is hr).1, (readP_is hr).2, rfl⟩
theorem desk_new {p : Place} (h : placeOk p = true) : deskOk ⟨p, []⟩ = true := deskOk_iff.2 ⟨by simp, h, by simp⟩
theorem opened_ok {s : Store} (h : storeOk s = true) : deskOk (opened s) = true := doAll_ok _ _ (desk_new (placeOf_ok (storeOk_iff.1 h).1).1)
noncomputable def actOk (s : Store) (a : Deed) : Bool := storeOk s && (decide ((readJ s.log).2 = s.log.length) && (deskDo (opened s) a).2 && !decide (deedTx a = []) && decide (s.log.length + (deedTx a).length + 1 ≤ 1000))
noncomputable def storeAct (s : Store) (a : Deed) : Store := if actOk s a = true then ⟨s.saved, s.log ++ deedTx a ++ [10], s.sure⟩ else if storeOk s = true then s else noStore
theorem actOk_iff {s : Store} {a : Deed} : actOk s a = true ↔ storeOk s = true ∧ (readJ s.log).2 = s.log.length ∧ (deskDo (opened s) a).2 = true ∧ deedTx a ≠ [] ∧ s.log.length + (deedTx a).length + 1 ≤ 1000 := by
  simp only [actOk, Bool.and_eq_true, decide_eq_true_eq, Bool.not_eq_true', decide_eq_false_iff_not, and_assoc, ne_eq]
theorem storeAct_yes {s : Store} {a : Deed} (h : actOk s a = true) : storeAct s a = ⟨s.saved, s.log ++ deedTx a ++ [10], s.sure⟩ := if_pos h
theorem storeAct_no {s : Store} {a : Deed} (h : actOk s a = false) (hs : storeOk s = true) : storeAct s a = s := by unfold storeAct; rw [if_neg (by simp [h]), if_pos hs]
theorem storeAct_out {s : Store} {a : Deed} (hs : storeOk s = false) : storeAct s a = noStore ∧ actOk s a = false := by
  have : actOk s a = false := by unfold actOk; rw [hs]; rfl
  exact ⟨by unfold storeAct; rw [if_neg (by simp [this]), if_neg (by simp [hs])], this⟩
theorem act_done {s : Store} {a : Deed} (h : actOk s a = true) : storeOk (storeAct s a) = true ∧ readJ (storeAct s a).log = ((readJ s.log).1 ++ [a], (storeAct s a).log.length) ∧ opened (storeAct s a) = (deskDo (opened s) a).1 ∧ (storeAct s a).log.length = s.log.length + (deedTx a).length + 1 ∧ (storeAct s a).sure = s.sure ∧ (storeAct s a).saved = s.saved := by
  obtain ⟨h1, h2, h3, h4, h5⟩ := actOk_iff.1 h
  obtain ⟨g1, g2, g3, g4⟩ := storeOk_iff.1 h1
  have hj := readJ_snoc h2 h4
  have hl : (s.log ++ deedTx a ++ [10]).length = s.log.length + (deedTx a).length + 1 := by simp; omega
  rw [storeAct_yes h]
  refine ⟨storeOk_iff.2 ⟨g1, ?_, g3, ?_⟩, hj, ?_, hl, rfl, rfl⟩
  · simp only; omega
  · simp only; omega
  · show (doAll ⟨placeOf s, []⟩ (readJ (s.log ++ deedTx a ++ [10])).1).1 = _
    rw [hj]
    simp only
    rw [doAll_snoc]
    exact if_pos h3
noncomputable def storeMend (s : Store) : Store := if storeOk s = true then ⟨s.saved, s.log.take (readJ s.log).2, min s.sure ((readJ s.log).2 : Nat)⟩ else noStore
theorem mend_done {s : Store} (h : storeOk s = true) : storeOk (storeMend s) = true ∧ readJ (storeMend s).log = ((readJ s.log).1, (storeMend s).log.length) ∧ opened (storeMend s) = opened s ∧ storeMend (storeMend s) = storeMend s ∧ (storeMend s).log.length ≤ s.log.length := by
  obtain ⟨g1, g2, g3, g4⟩ := storeOk_iff.1 h
  have hle := readJ_le s.log
  have hm := readJ_mend s.log
  have e : storeMend s = ⟨s.saved, s.log.take (readJ s.log).2, min s.sure ((readJ s.log).2 : Nat)⟩ := if_pos h
  have hlen : (s.log.take (readJ s.log).2).length = (readJ s.log).2 := by simp; omega
  have hok : storeOk (storeMend s) = true := by
    rw [e]
    exact storeOk_iff.2 ⟨g1, by simp only; omega, by simp only; omega, by simp only; omega⟩
  refine ⟨hok, ?_, ?_, ?_, ?_⟩
  · rw [e]; simp only; rw [hm, hlen]
  · rw [e]; unfold opened placeOf; simp only; rw [hm]
  · have e2 : storeMend (storeMend s) = ⟨(storeMend s).saved, (storeMend s).log.take (readJ (storeMend s).log).2, min (storeMend s).sure ((readJ (storeMend s).log).2 : Nat)⟩ := if_pos hok
    rw [e2, e]
    simp only
    rw [hm]
    congr 1
    · rw [List.take_take, Nat.min_self]
    · omega
  · rw [e]; simp only; omega
noncomputable def storeSave (s : Store) : Store := if storeOk s = true then ⟨placeTx (opened s).now, [], 0⟩ else noStore
theorem readJ_nil : readJ [] = ([], 0) := readJ_clean (by simp)
theorem new_done {p : Place} (h : placeOk p = true) : storeOk ⟨placeTx p, [], 0⟩ = true ∧ opened ⟨placeTx p, [], 0⟩ = ⟨p, []⟩ := by
  have hr := readP_some h rfl
  refine ⟨storeOk_iff.2 ⟨by simp only; rw [hr]; rfl, by simp, by simp, by simp⟩, ?_⟩
  unfold opened placeOf
  simp only
  rw [hr, readJ_nil]; rfl
theorem save_done {s : Store} (h : storeOk s = true) : storeOk (storeSave s) = true ∧ opened (storeSave s) = ⟨(opened s).now, []⟩ ∧ storeSave (storeSave s) = storeSave s ∧ storeSave s = ⟨placeTx (opened s).now, [], 0⟩ := by
  have e : storeSave s = ⟨placeTx (opened s).now, [], 0⟩ := if_pos h
  have hp := (deskOk_iff.1 (opened_ok h)).2.1
  obtain ⟨h1, h2⟩ := new_done hp
  refine ⟨by rw [e]; exact h1, by rw [e]; exact h2, ?_, e⟩
  rw [e]
  unfold storeSave
  rw [if_pos h1, h2]
/-- The first claim can be dropped, if there is one. -/
theorem drop_first {d : Desk} (h : deskOk d = true) : (deskDo d ⟨1, 0, []⟩).2 = decide (0 < d.now.story.length) := by
  obtain ⟨h1, h2, h3⟩ := deskOk_iff.1 h
  by_cases hl : 0 < d.now.story.length
  · have em : made d.now ⟨1, 0, []⟩ = ⟨d.now.people, d.now.story.eraseIdx 0⟩ := by
      unfold made
      rw [if_neg (by simp), if_pos ⟨rfl, rfl, by simp, by simp; omega⟩]; rfl
    have hg : goodDo d ⟨1, 0, []⟩ = true := by
      have hp : placeOk ⟨d.now.people, d.now.story.eraseIdx 0⟩ = true := storyOk_sub h2 (List.eraseIdx_sublist _ _)
      unfold goodDo
      rw [em, hp]
      simp only [Bool.true_and, Bool.not_eq_true', decide_eq_false_iff_not]
      intro hx
      have := congrArg (fun p => p.story.length) (placeTx_inj hp h2 hx)
      simp only [List.length_eraseIdx, hl, if_true] at this
      omega
    rw [deskDo_good h hg (by simp [isBack])]
    simp [hl]
  · have em : made d.now ⟨1, 0, []⟩ = ⟨0, []⟩ := by
      unfold made
      rw [if_neg (by simp), if_neg (fun h => by have h4 : (0 : Int) < d.now.story.length := h.2.2.2; omega), if_neg (by simp), if_neg (by simp)]
    have hg : goodDo d ⟨1, 0, []⟩ = false := by unfold goodDo; rw [em, zero_no]; rfl
    rw [deskDo_bad h hg (by simp [isBack])]
    simp [hl]
/-- What is done depends on the place alone, unless it is to be undone. -/
theorem deskDo_now {d e : Desk} (hd : deskOk d = true) (he : deskOk e = true) (hn : d.now = e.now) {a : Deed} (ha : a.kind ≠ 4) : (deskDo d a).2 = (deskDo e a).2 ∧ (deskDo d a).1.now = (deskDo e a).1.now := by
  have hb : isBack a = false := by
    simp only [isBack, decide_eq_false_iff_not]; rintro rfl; exact ha rfl
  have hg : goodDo d a = goodDo e a := by unfold goodDo; rw [hn]
  cases h : goodDo e a
  · rw [deskDo_bad hd (by rw [hg, h]) (by simp [hb]), deskDo_bad he h (by simp [hb])]; exact ⟨rfl, hn⟩
  · rw [deskDo_good hd (by rw [hg, h]) (by simp [hb]), deskDo_good he h (by simp [hb])]; exact ⟨rfl, by simp only; rw [hn]⟩
end TL
