/- TL: parts FnsC0, FnsB6, FnsC1, FnsC2, FnsC4, FnsD1, FnsD2, FnsC3, FnsD3a, FnsD3b, FnsD3c, FnsD3d. -/
import Derived.Test.YtibdhpnjjgppgaaGreatDoorGh
import Derived.Test.YtibdhpnjjgppgaaGreatDoorGg
import Derived.Test.YtibdhpnjjgppgaaGreatDoorGf
/- Claims and terms, in plain words. -/
set_option linter.unusedSimpArgs false
set_option linter.unusedVariables false
set_option maxRecDepth 100000
set_option maxHeartbeats 4000000
set_option pp.maxSteps 1500
namespace TL
open Go Go.Proofs
theorem runR_append (w : Nat) (r : List Bool) (a b : List Mark) : runR w r (a ++ b) = runR w (runR w r a) b := by simp [runR]
theorem runR_tm (w : Nat) : ∀ T : Tm, T.ok → ∀ r, runR w r T.marks = T.sat w :: r
  | .tells i, _, r => by simp [Tm.marks, runR, runStep, Tm.sat]
  | .count i, _, r => by simp [Tm.marks, runR, runStep, Tm.sat]
  | .not a, h, r => by
    have ih := runR_tm w a h r
    show runR w r (a.marks ++ [⟨2, 0⟩]) = _
    rw [runR_append, ih]
    simp [runR, runStep, Tm.sat]
  | .bin k a b, h, r => by
    obtain ⟨hk, ha, hb⟩ := h
    have e : (Tm.bin k a b).marks = a.marks ++ b.marks ++ [⟨3 + k, 0⟩] := rfl
    rw [e, runR_append, runR_append, runR_tm w a ha, runR_tm w b hb]
    have : k = 0 ∨ k = 1 ∨ k = 2 := by omega
    rcases this with rfl | rfl | rfl <;> simp [runR, runStep, Tm.sat]
theorem truth_tm (w : Nat) {T : Tm} (h : T.ok) : truth T.marks w = T.sat w := by unfold truth; rw [runR_tm w T h]; rfl
theorem tm_fits : ∀ T : Tm, T.ok → fits T.marks
  | .tells i, h => fun m hm => by
    have h : i < 4 := h
    simp [Tm.marks] at hm; subst hm; unfold Mark.fit fit; simp; omega
  | .count i, h => fun m hm => by
    have h : i < 6 := h
    simp [Tm.marks] at hm; subst hm; unfold Mark.fit fit; simp; omega
  | .not a, h => fun m hm => by
    have e : (Tm.not a).marks = a.marks ++ [⟨2, 0⟩] := rfl
    rw [e] at hm
    rcases List.mem_append.1 hm with hm | hm
    · exact tm_fits a h m hm
    · rw [List.mem_singleton.1 hm]; unfold Mark.fit fit; simp
  | .bin k a b, h => fun m hm => by
    obtain ⟨hk, ha, hb⟩ := h
    have e : (Tm.bin k a b).marks = a.marks ++ b.marks ++ [⟨3 + k, 0⟩] := rfl
    rw [e] at hm
    rcases List.mem_append.1 hm with hm | hm
    · rcases List.mem_append.1 hm with hm | hm
      · exact tm_fits a ha m hm
      · exact tm_fits b hb m hm
    · rw [List.mem_singleton.1 hm]; unfold Mark.fit fit; simp; omega
theorem claim_facts {people : Int} {c : Claim} (h : claimOk people c = true) : 1 ≤ people ∧ people ≤ 4 ∧ 0 ≤ c.who ∧ c.who < people ∧ termOk people c.says = true ∧ c.says.length ≤ 13 ∧ marksRun people 0 c.says = some 1 := by
  simp only [claimOk, peopleOk, Bool.and_eq_true, decide_eq_true_eq] at h
  have ht := h.1.2
  simp only [termOk, Bool.and_eq_true, decide_eq_true_eq] at ht
  exact ⟨h.1.1.1.1.1, h.1.1.1.1.2, h.1.1.1.2, h.1.1.2, h.1.2, h.2, ht.2⟩
theorem claim_fine {people : Int} {c : Claim} (h : claimOk people c = true) : c.fine ∧ c.fit ∧ c.small ∧ c.says.length ≤ 13 := by
  obtain ⟨h1, h2, h3, h4, h5, h6, h7⟩ := claim_facts h
  obtain ⟨T, hT, e⟩ := termOk_tree h5
  have hf : fits c.says := by rw [← e]; exact tm_fits T hT
  exact ⟨⟨hf, by omega⟩, ⟨by unfold fit; omega, hf⟩, by unfold Claim.small; omega, h6⟩
theorem place_fine {p : Place} (h : placeOk p = true) : p.fine ∧ p.fit ∧ p.small ∧ p.story.length ≤ 6 := by
  obtain ⟨h1, h2, h3, h4⟩ := placeOk_all h
  exact ⟨⟨by omega, fun c hc => (claim_fine (h4 c hc)).1⟩, ⟨by unfold fit; omega, fun c hc => (claim_fine (h4 c hc)).2.1⟩, ⟨by omega, fun c hc => (claim_fine (h4 c hc)).2.2.1⟩, h3⟩
theorem desk_fine {d : Desk} (h : deskOk d = true) : d.small ∧ d.fit ∧ d.past.length ≤ 8 ∧ d.now.fine := by
  obtain ⟨h1, h2, h3⟩ := deskOk_iff.1 h
  exact ⟨⟨(place_fine h2).2.2.1, by omega, fun p hp => (place_fine (h1 p hp)).2.2.1⟩, ⟨(place_fine h2).2.1, fun p hp => (place_fine (h1 p hp)).2.1⟩, h3, (place_fine h2).1⟩
end TL

/- Worlds of a table; answers. -/
set_option linter.unusedSimpArgs false
set_option linter.unusedVariables false
set_option maxRecDepth 100000
set_option maxHeartbeats 4000000
set_option pp.maxSteps 1500
namespace TL
open Go Go.Proofs
attribute [local simp] marksV storyV codeV Claim.v Place.v
theorem askedS_val {p n a b : Nat} (yes : Bool) (hn : n < 2 ^ 2 ^ p) : (tabN (2 ^ p) fun w => n.testBit w && sameKind a b yes w) = n &&& askMask p a b yes := by
  apply Nat.eq_of_testBit_eq
  intro i
  rw [testBit_tabN, Nat.testBit_and, askMask, testBit_tabN]
  by_cases h : i < 2 ^ p
  · simp [h]
  · have : n.testBit i = false := Nat.testBit_lt_two_pow (Nat.lt_of_lt_of_le hn (Nat.pow_le_pow_right (by omega) (by omega)))
    simp [this]
/-- The worlds of a table. -/
def worldsOf (p n : Nat) : List Nat := (List.range (2 ^ p)).filter fun w => n.testBit w
def Iwi (N n p : Nat) (e : Nat) (s : S) : Prop := ∃ w id : Nat, s.tm 1 = .v (.int .i64 n) ∧ s.tm 5 = .loc id ∧ s.tm 13 = .v (.int .i64 N) ∧ s.tm 14 = .v (.int .i64 w) ∧ w ≤ N ∧ s.mu = false ∧ id < s.n ∧
  s.m id = some (.arr 3 (((List.range w).filter fun w => n.testBit w).map fun w => V.int .i64 (w : Nat))) ∧ (e = 1 → w = N)
def answerIn (who : Nat) (t : List Mark) (w : Nat) : Int := if truth t w == w.testBit who then 1 else 0
end TL

/- Claims in a world, tables of claims: both. -/
set_option linter.unusedSimpArgs false
set_option linter.unusedVariables false
set_option maxRecDepth 100000
set_option maxHeartbeats 4000000
set_option pp.maxSteps 1500
namespace TL
open Go Go.Proofs
attribute [local simp] marksV storyV codeV Claim.v Place.v
theorem maySay_fn (people : Int) (c : Claim) (h : claimOk people c = true) (w : Nat) (hw : w < 16) : FnZ Tryz.prog 122 [c.v, .int .i64 w] (.bool (mayB c w)) := by
  obtain ⟨hp1, hp4, h0, h1, ht, hl, hr⟩ := claim_facts h
  obtain ⟨who, says⟩ := c
  simp only at h0 h1 hl hr
  obtain ⟨k, rfl⟩ := Int.eq_ofNat_of_zero_le h0
  have hh := holds_fn people hp4 says hr (by omega) w hw
  have hb := bit1 w k (by omega) (by omega)
  have z1 : ¬ (k : Int) < 0 := by omega
  have e : mayB ⟨(k : Int), says⟩ w = (truth says w == w.testBit k) := rfl
  rw [e]
  generalize truth says w = tr at *
  have c0 := ft (w.testBit k)
  refine FnZ_of (rs := [.tmp 4]) false Tryz.func122 rfl rfl rfl rfl (Nat.le_of_ble_eq_true rfl) ?_
  simp -dsimp
  refine twp_draw [0, 1, 2, 4, 5, 6, 7, 8, 9, 3, 10, 11] [0] (List.replicate 12 [0]) (List.replicate 12 [0]) (by kernel_rfl) (by kernel_rfl) (by kernel_rfl) (by kernel_rfl) ?_
  rcases c0 with c0 | c0
  · rw [c0] at hb ⊢
    simp -dsimp [z1, hb]
    refine call_ hh (by simp -dsimp) ?_
    cases tr <;> simp -dsimp [z1, hb]
  · rw [c0] at hb ⊢
    simp -dsimp [z1, hb]
    refine call_ hh (by simp -dsimp) ?_
    cases tr <;> simp -dsimp [z1, hb]
theorem claimTable1_fn (people : Int) (c : Claim) (h : claimOk people c = true) (w : Nat) (hw : w < 16) : FnZ Tryz.prog 121 [.int .i64 w, .ref [.int .i64 c.who, marksV c.says]] (.bool (mayB c w)) := by
  have hm := maySay_fn people c h w hw
  generalize mayB c w = b at *
  obtain ⟨who, says⟩ := c
  refine FnZ_of (rs := [.tmp 3]) false Tryz.func121 rfl rfl rfl rfl (Nat.le_of_ble_eq_true rfl) ?_
  simp -dsimp
  refine call_ hm (by simp -dsimp) ?_
  simp -dsimp
theorem pow_small {p : Nat} (h : p ≤ 4) : 2 ^ p ≤ 16 := by
  have : 2 ^ p ≤ 2 ^ 4 := Nat.pow_le_pow_right (by omega) h
  omega
theorem claimTable_fn (people : Int) (c : Claim) (h : claimOk people c = true) : FnZ Tryz.prog 96 [.int .i64 people, c.v] (.int .i64 (claimTab people.toNat c)) := by
  obtain ⟨hp1, hp4, h0, h1, ht, hl, hr⟩ := claim_facts h
  obtain ⟨p, rfl⟩ := Int.eq_ofNat_of_zero_le (show 0 ≤ people by omega)
  have hok := claimOk_fn p c
  rw [h] at hok
  have hN := pow_small (p := p) (by omega)
  have hc : ∀ w : Nat, w < 2 ^ p → FnZ Tryz.prog 121 [.int .i64 w, .ref [.int .i64 c.who, marksV c.says]] (.bool (mayB c w)) := fun w hw => claimTable1_fn p c h w (by omega)
  have htb := tableBy_fn p (by omega) (by omega) 121 [.ref [.int .i64 c.who, marksV c.says]] (mayB c) hc
  have e : claimTab (p : Int).toNat c = tabN (2 ^ p) (mayB c) := rfl
  rw [e]
  generalize tabN (2 ^ p) (mayB c) = tb at *
  clear h0 h1 ht hl hr hc
  obtain ⟨who, says⟩ := c
  refine FnZ_of (rs := [.tmp 4]) false Tryz.func96 rfl rfl rfl rfl (Nat.le_of_ble_eq_true rfl) ?_
  simp -dsimp
  refine call_ hok (by simp -dsimp) ?_
  simp -dsimp
  refine callM_ htb (by simp -dsimp) rfl ?_
  simp -dsimp
end TL

/- Tables of stories, least stories: the program. -/
set_option linter.unusedSimpArgs false
set_option linter.unusedVariables false
set_option maxRecDepth 100000
set_option maxHeartbeats 4000000
set_option pp.maxSteps 1500
namespace TL
open Go Go.Proofs
attribute [local simp] marksV storyV codeV Claim.v Place.v
theorem full_table {p : Nat} (h1 : 1 ≤ p) (h4 : p ≤ 4) : (2 ^ 2 ^ p - 1 : Nat) < 65536 ∧ IntKind.wrap .i64 (IntKind.wrap .i64 (2 ^ min (IntKind.wrap .u64 (2 ^ min p IntKind.u64.bits)).toNat IntKind.i64.bits) - 1) = ((2 ^ 2 ^ p - 1 : Nat) : Int) := by
  have : p = 1 ∨ p = 2 ∨ p = 3 ∨ p = 4 := by omega
  rcases this with rfl | rfl | rfl | rfl <;> exact ⟨by decide, by rfl⟩
def Ist (p : Nat) (l : List Claim) (e : Nat) (s : S) : Prop := ∃ i : Nat, s.tm 0 = .v (.int .i64 p) ∧ s.tm 5 = .v (.int .i64 (storyTab p (l.take i))) ∧ s.tm 12 = .v (.sl (l.map Claim.v)) ∧ s.tm 13 = .v (.int .i64 l.length) ∧ s.tm 14 = .v (.int .i64 i) ∧ i ≤ l.length ∧ (e = 1 → i = l.length)
theorem storyTab_succ {p i : Nat} {l : List Claim} (h : i < l.length) : storyTab p (l.take (i + 1)) = storyTab p (l.take i) &&& claimTab p l[i] := by
  unfold storyTab
  rw [List.take_succ_eq_append_getElem h, List.foldl_append]; rfl
theorem storyTab_small {p : Nat} (h4 : p ≤ 4) (l : List Claim) : storyTab p l < 65536 := table_small h4 (storyTab_le p l)
theorem storyTable_fn (p : Nat) (l : List Claim) (hp1 : 1 ≤ p) (hp4 : p ≤ 4) (hl : l.length ≤ 1048576) (h : ∀ c ∈ l, claimOk p c = true) : FnZ Tryz.prog 73 [.int .i64 p, storyV l] (.int .i64 (storyTab p l)) := by
  obtain ⟨hf1, hf2⟩ := full_table hp1 hp4
  have hp0 : ¬ (p : Int) < 0 := by omega
  refine FnZ_of (rs := [.tmp 4]) false Tryz.func73 rfl rfl rfl rfl (Nat.le_of_ble_eq_true rfl) ?_
  have hsh : ¬ IntKind.wrap .u64 (2 ^ min p IntKind.u64.bits) < 0 := by
    have : p = 1 ∨ p = 2 ∨ p = 3 ∨ p = 4 := by omega
    rcases this with rfl | rfl | rfl | rfl <;> decide
  simp -dsimp [hp0, hsh, hf2]
  refine twp_loopC (Ist p l 0) (fun s => l.length - natOf (s.tm 14)) (Ist p l 1) ?_ ?_ ?_
  · exact ⟨0, by simp -dsimp, by simp -dsimp [storyTab], by simp -dsimp, by simp -dsimp, by simp -dsimp, by omega, by simp⟩
  · rintro s ⟨i, t0, t5, t12, t13, t14, hi, hend⟩
    by_cases hlt : i < l.length
    case neg =>
      simp -dsimp [t13, t14, hlt]
      exact ⟨i, by simp -dsimp [t0], by simp -dsimp [t5], by simp -dsimp [t12], by simp -dsimp [t13], by simp -dsimp [t14], hi, fun _ => by omega⟩
    have hget : (l.map Claim.v)[i]? = some (l[i].v) := by simp [hlt]
    have wi : IntKind.wrap .i64 ((i : Int) + 1) = ((i + 1 : Nat) : Int) := by rw [w64 (by omega) (by omega)]; omega
    have hmu1 : l.length - (i + 1) < l.length - i := by omega
    have hct := claimTable_fn p l[i] (h _ (List.getElem_mem _))
    rw [Int.toNat_natCast] at hct
    have ha := storyTab_small hp4 (l.take i)
    have hb : claimTab p l[i] < 65536 := table_small hp4 (tabN_lt _ _)
    have hs := storyTab_succ (p := p) hlt
    have hand := and_nn (a := storyTab p (l.take i)) (b := claimTab p l[i]) (by omega) (by omega)
    generalize claimTab p l[i] = b at *
    generalize storyTab p (l.take i) = a at *
    simp -dsimp [t0, t5, t12, t13, t14, hlt, hget, nes]
    refine call_ hct (by simp -dsimp) ?_
    simp -dsimp [t0, t5, t12, t13, t14, hand, wi, hmu1]
    exact ⟨i + 1, by simp -dsimp [t0], by simp -dsimp [hs], by simp -dsimp [t12], by simp -dsimp [t13], by simp -dsimp, by omega, by simp⟩
  · rintro s ⟨i, t0, t5, t12, t13, t14, hi, hend⟩
    have := hend rfl
    subst this
    rw [List.take_length] at t5
    simp -dsimp [t5]
theorem allOk_of {people : Int} {l : List Claim} (h : storyOk people l = true) : 1 ≤ people ∧ people ≤ 4 ∧ (∀ c ∈ l, claimOk people c = true) ∧ l.length ≤ 6 := by
  simp only [storyOk, peopleOk, Bool.and_eq_true, decide_eq_true_eq, List.all_eq_true] at h
  exact ⟨h.1.2.1, h.1.2.2, h.1.1, h.2⟩
def storyTableV (people : Int) (l : List Claim) : Int := if storyOk people l = true then (storyTab people.toNat l : Int) else -1
theorem cloneClaims_own (l : List Claim) (hl : l.length ≤ 1048576) (m : Mem) (n : Nat) : FnS Tryz.prog 70 m n [.v (storyV l)] (fun t m' n' => n ≤ n' ∧ (∀ j, j < n → m' j = m j) ∧ IsRow m' n n' 74 t (l.map Claim.v)) := by
  have b1 : l.length * 32 ≤ 140737488355328 := by omega
  refine FnS_of (rs := [.tmp 2]) false Tryz.func70 rfl rfl rfl rfl (Nat.le_of_ble_eq_true rfl) ?_
  simp -dsimp [b1]
  refine ⟨⟨by omega, fun j hj => by simp [show ¬ j = n + 1 by omega, show ¬ j = n by omega], .inr ⟨n + 1, rfl, by omega, by omega, by simp⟩⟩, fun h => .inl ⟨rfl, by simp [h]⟩⟩
theorem without_fn (l : List Claim) (k : Nat) (hk : k < l.length) (hl : l.length ≤ 1048576) : FnZ Tryz.prog 37 [storyV l, .int .i64 k] (storyV (l.eraseIdx k)) := by
  have e : l.eraseIdx k = l.take k ++ l.drop (k + 1) := List.eraseIdx_eq_take_drop_succ ..
  have h1 : (k : Int) ≤ l.length := by omega
  have h2 : k ≤ l.length := by omega
  have h3 : k + 1 ≤ l.length := by omega
  have h4 : (k : Int) + 1 ≤ l.length := by omega
  have w1 : IntKind.wrap .i64 ((k : Int) + 1) = (k : Int) + 1 := w64 (by omega) (by omega)
  have b3 : k * 32 ≤ 140737488355328 := by omega
  have b4 : (k + (l.length - (k + 1))) * 32 ≤ 140737488355328 := by omega
  have b2 : (min k l.length + (l.length - (k + 1))) * 32 ≤ 140737488355328 := by omega
  have h5 : ((k : Int) + 1).toNat = k + 1 := by omega
  have h6 : (0 : Int) ≤ (k : Int) + 1 := by omega
  have z2 : allZ 2 (List.drop (k + 1) (List.map Claim.v l)) := by rw [← List.map_drop]; exact allZ_claims _
  have tk : List.take l.length (List.map Claim.v l) = List.map Claim.v l := List.take_of_length_le (by simp)
  have hcl := fun m n => cloneClaims_own (l.take k) (by simp; omega) m n
  rw [e]
  refine FnZ_of (rs := [.tmp 4]) false Tryz.func37 rfl rfl rfl rfl (Nat.le_of_ble_eq_true rfl) ?_
  simp -dsimp
  refine twp_draw [0, 1, 2, 4, 5, 6, 7, 3, 8, 9] [] (List.replicate 10 []) (List.replicate 10 []) (by kernel_rfl) (by kernel_rfl) (by kernel_rfl) (by kernel_rfl) ?_
  simp -dsimp [h1, h2, h3, h4, h5, h6, w1, b2, b3, b4, z2, tk, nes]
  refine callL_ (vs := [storyV (l.take k)]) (hcl _ _) (by simp -dsimp) ?_
  rintro t m1 n1 ⟨hn1, hout, hrow⟩
  rcases hrow with ⟨rfl, hz⟩ | ⟨id, rfl, hi0, hi1, him⟩
  · have hz' : l.take k = [] := by simpa using hz
    have b5 : (l.length - (k + 1)) * 32 ≤ 140737488355328 := by omega
    simp -dsimp [h1, h2, h3, h4, h5, h6, w1, b2, b3, b4, b5, z2, tk, nes, hz']
  · have f1 := far hi1
    simp -dsimp [h1, h2, h3, h4, h5, h6, w1, b2, b3, b4, z2, tk, nes, him, f1]
def Ils5 (p : Nat) (R : List Claim) (e : Nat) (s : S) : Prop := ∃ (i : Nat) (l : List Claim), s.tm 0 = .v (.int .i64 p) ∧ s.tm 6 = .v (.sl (l.map Claim.v)) ∧ s.tm 7 = .v (.int .i64 i) ∧ i ≤ l.length ∧ l.length ≤ 6 ∧ (∀ c ∈ l, claimOk p c = true) ∧ leastGo p (l.length - i) i l = R ∧ (e = 1 → i = l.length)
theorem leastStory_fn (people : Int) (l : List Claim) (h : storyOk people l = true) : FnZ Tryz.prog 38 [.int .i64 people, storyV l] (.tup [storyV (least people.toNat l), .bool true]) := by
  obtain ⟨h1, h4, hc, h6⟩ := allOk_of h
  obtain ⟨p, rfl⟩ := Int.eq_ofNat_of_zero_le (show 0 ≤ people by omega)
  rw [Int.toNat_natCast]
  have hok := storyOk_fn p l (by omega)
  have hsub := least_sub p l
  have hcp := copyStory_fn l (by omega) fun c hx => (claim_fine (hc c hx)).2.2.1
  have hcp2 := copyStory_fn (least p l) (by have := hsub.length_le; omega) fun c hx => (claim_fine (hc c (hsub.subset hx))).2.2.1
  have hR : leastGo p (l.length - 0) 0 l = least p l := rfl
  generalize least p l = R at *
  refine FnZ_of (rs := [.tmp 4, .tmp 5]) false Tryz.func38 rfl rfl rfl rfl (Nat.le_of_ble_eq_true rfl) ?_
  simp -dsimp
  refine call_ hok (by simp -dsimp) ?_
  simp -dsimp [h]
  refine call_ hcp (by simp -dsimp) ?_
  simp -dsimp
  refine twp_loopC (Ils5 p R 0) (fun s => (match s.tm 6 with | .v (.sl xs) => xs.length | _ => 0) - natOf (s.tm 7)) (Ils5 p R 1) ?_ ?_ ?_
  · exact ⟨0, l, by simp -dsimp, by simp -dsimp, by simp -dsimp, by omega, h6, hc, hR, by simp⟩
  · rintro s ⟨i, k, t0, t6, t7, hi, hk6, hkc, hgo, hend⟩
    by_cases hlt : i < k.length
    case neg =>
      simp -dsimp [t6, t7, hlt]
      exact ⟨i, k, by simp -dsimp [t0], by simp -dsimp [t6], by simp -dsimp [t7], hi, hk6, hkc, hgo, fun _ => by omega⟩
    have hw := without_fn k i hlt (by omega)
    have hel : (k.eraseIdx i).length = k.length - 1 := by rw [List.length_eraseIdx]; simp [hlt]
    have hec : ∀ c ∈ k.eraseIdx i, claimOk p c = true := fun c hx => hkc c ((List.eraseIdx_sublist _ _).subset hx)
    have hs1 := storyTable_fn p (k.eraseIdx i) (by omega) (by omega) (by omega) hec
    have hs2 := storyTable_fn p k (by omega) (by omega) (by omega) hkc
    have wi : IntKind.wrap .i64 ((i : Int) + 1) = ((i + 1 : Nat) : Int) := by rw [w64 (by omega) (by omega)]; omega
    have hmu1 : k.length - (i + 1) < k.length - i := by omega
    have hmu2 : k.length - 1 - i < k.length - i := by omega
    simp -dsimp [t0, t6, t7, hlt]
    refine call_ hw (by simp -dsimp) ?_
    simp -dsimp [t0, t6, t7]
    refine call_ hs1 (by simp -dsimp) ?_
    simp -dsimp [t0, t6, t7]
    refine call_ hs2 (by simp -dsimp) ?_
    by_cases hq : storyTab p (k.eraseIdx i) = storyTab p k
    · have hgo2 := leastGo_out hlt hq
      rw [hgo2] at hgo
      have hq' : (storyTab p (k.eraseIdx i) : Int) = storyTab p k := by rw [hq]
      simp -dsimp [t0, t6, t7, hq, hq', hel, hmu2]
      exact ⟨i, k.eraseIdx i, by simp -dsimp [t0], by simp -dsimp, by simp -dsimp [t7], by omega, by omega, hec, hgo, by simp⟩
    · have hgo2 := leastGo_keep hlt hq
      rw [hgo2] at hgo
      have hq' : ¬ (storyTab p (k.eraseIdx i) : Int) = storyTab p k := by omega
      simp -dsimp [t0, t6, t7, hq, hq', wi, hmu1]
      exact ⟨i + 1, k, by simp -dsimp [t0], by simp -dsimp [t6], by simp -dsimp, by omega, hk6, hkc, hgo, by simp⟩
  · rintro s ⟨i, k, t0, t6, t7, hi, hk6, hkc, hgo, hend⟩
    have := hend rfl
    subst this
    rw [leastGo_end rfl (by omega)] at hgo
    subst hgo
    simp -dsimp [t6]
    refine call_ hcp2 (by simp -dsimp) ?_
    simp -dsimp
end TL

/- Tables of stories, least stories: the reference. -/
set_option linter.unusedSimpArgs false
set_option linter.unusedVariables false
set_option maxRecDepth 100000
set_option maxHeartbeats 4000000
set_option pp.maxSteps 1500
namespace TL
open Go Go.Proofs
attribute [local simp] marksV storyV codeV Claim.v Place.v
theorem l4May_fn (people : Int) (c : Claim) (h : claimOk people c = true) (w : Nat) (hw : w < 16) : FnZ Tryz.prog 134 [c.v, .int .i64 w] (.bool (mayB c w)) := by
  obtain ⟨hp1, hp4, h0, h1, ht, hl, hr⟩ := claim_facts h
  obtain ⟨T, hT, eT⟩ := termOk_tree ht
  have hh := l3Holds_fn w hw T hT (by rw [eT]; omega)
  have etr := truth_tm w hT
  rw [eT] at hh etr
  rw [← etr] at hh
  obtain ⟨who, says⟩ := c
  simp only at h0 h1 hl hr hh
  obtain ⟨k, rfl⟩ := Int.eq_ofNat_of_zero_le h0
  have hb := bit2 w k (by omega)
  have z1 : ¬ (k : Int) < 0 := by omega
  have e : mayB ⟨(k : Int), says⟩ w = (truth says w == w.testBit k) := rfl
  rw [e]
  clear etr
  generalize truth says w = tr at *
  have c0 := ft (w.testBit k)
  refine FnZ_of (rs := [.tmp 4]) false Tryz.func134 rfl rfl rfl rfl (Nat.le_of_ble_eq_true rfl) ?_
  simp -dsimp
  refine twp_draw [0, 1, 2, 3, 4, 5, 6, 7, 8, 9, 10, 11] [0] (List.replicate 12 [0]) (List.replicate 12 [0]) (by kernel_rfl) (by kernel_rfl) (by kernel_rfl) (by kernel_rfl) ?_
  rcases c0 with c0 | c0
  · rw [c0] at hb ⊢
    simp -dsimp [z1, hb]
    refine call_ hh (by simp -dsimp) ?_
    cases tr <;> simp -dsimp [z1, hb]
  · rw [c0] at hb ⊢
    simp -dsimp [z1, hb]
    refine call_ hh (by simp -dsimp) ?_
    cases tr <;> simp -dsimp [z1, hb]
def Il4 (N : Nat) (p : Nat) (c : Claim) (e : Nat) (s : S) : Prop := ∃ w : Nat, s.tm 0 = .v (.int .i64 p) ∧ s.tm 3 = .ptr 0 0 ∧ s.m 0 = some (.box 74 2 [.v (.int .i64 c.who), .v (marksV c.says)]) ∧ s.tm 6 = .v (.int .i64 w) ∧ s.tm 5 = .v (.int .i64 (tabN w (mayB c))) ∧ w ≤ N ∧ (e = 1 → w = N)
theorem shl_pow {p : Nat} (h : p ≤ 16) : IntKind.wrap .i64 (2 ^ min p IntKind.i64.bits) = ((2 ^ p : Nat) : Int) ∧ (2 : Nat) ^ p < 4611686018427387904 := by
  have hp : 2 ^ p ≤ 2 ^ 16 := Nat.pow_le_pow_right (by omega) h
  have h2 : (2 : Nat) ^ p < 4611686018427387904 := by omega
  refine ⟨?_, h2⟩
  rw [Nat.min_eq_left (by simp [IntKind.bits]; omega), w64]
  · simp
  · have : (0 : Int) ≤ 2 ^ p := Int.pow_nonneg (by omega)
    omega
  · have : ((2 ^ p : Nat) : Int) = (2 : Int) ^ p := by simp
    omega
theorem l4Table_fn (people : Int) (c : Claim) (h : claimOk people c = true) : FnZ Tryz.prog 112 [.int .i64 people, c.v] (.int .i64 (claimTab people.toNat c)) := by
  obtain ⟨hp1, hp4, h0, h1, ht, hl, hr⟩ := claim_facts h
  obtain ⟨p, rfl⟩ := Int.eq_ofNat_of_zero_le (show 0 ≤ people by omega)
  have e : claimTab (p : Int).toNat c = tabN (2 ^ p) (mayB c) := rfl
  rw [e]
  have hN := pow_small (p := p) (by omega)
  have ws := (shl_pow (p := p) (by omega)).1
  have hm : ∀ w : Nat, w < 2 ^ p → FnZ Tryz.prog 134 [c.v, .int .i64 w] (.bool (mayB c w)) := fun w hw => l4May_fn p c h w (by omega)
  generalize hNN : 2 ^ p = N at *
  have hp0 : ¬ (p : Int) < 0 := by omega
  refine FnZ_of (rs := [.tmp 4]) false Tryz.func112 rfl rfl rfl rfl (Nat.le_of_ble_eq_true rfl) ?_
  simp -dsimp
  refine twp_loopC (Il4 N p c 0) (fun s => N - natOf (s.tm 6)) (Il4 N p c 1) ?_ ?_ ?_
  · exact ⟨0, by simp -dsimp, by simp -dsimp, by simp -dsimp, by simp -dsimp, by simp -dsimp [tabN], by omega, by simp⟩
  · rintro s ⟨w, t0, t3, m0, t6, t5, hw, hend⟩
    by_cases hlt : w < N
    case neg =>
      simp -dsimp [t0, t6, hp0, ws, hlt]
      exact ⟨w, by simp -dsimp [t0], by simp -dsimp [t3], by simp -dsimp [m0], by simp -dsimp [t6], by simp -dsimp [t5], hw, fun _ => by omega⟩
    have wi : IntKind.wrap .i64 ((w : Int) + 1) = ((w + 1 : Nat) : Int) := by rw [w64 (by omega) (by omega)]; omega
    have hmu : N - (w + 1) < N - w := by omega
    have hb := tabN_lt (mayB c) w
    have h2 := (shl_pow (p := w) (by omega)).2
    have wsh := (shl_pow (p := w) (by omega)).1
    have hp : 2 ^ w ≤ 2 ^ 16 := Nat.pow_le_pow_right (by omega) (by omega)
    have hor := or_ni (a := tabN w (mayB c)) (b := 2 ^ w) (x := (2 : Int) ^ w) (by simp) (by omega) h2
    have hgw := ft (mayB c w)
    have hz : ¬ (w : Int) < 0 := by omega
    simp -dsimp [t0, t3, m0, t6, hp0, ws, hlt]
    refine call_ (hm w hlt) (by simp -dsimp) ?_
    rcases hgw with hgw | hgw
    · have ht : tabN (w + 1) (mayB c) = tabN w (mayB c) := by simp [tabN, hgw]
      simp -dsimp [hgw, t5, t6, wi, hmu]
      exact ⟨w + 1, by simp -dsimp [t0], by simp -dsimp [t3], by simp -dsimp [m0], by simp -dsimp, by simp -dsimp [t5, ht], by omega, by simp⟩
    · have ht : tabN (w + 1) (mayB c) = tabN w (mayB c) ||| 2 ^ w := by simp [tabN, hgw]
      simp -dsimp [hgw, t5, t6, wi, hmu, wsh, hor, hz]
      exact ⟨w + 1, by simp -dsimp [t0], by simp -dsimp [t3], by simp -dsimp [m0], by simp -dsimp, by simp -dsimp [ht], by omega, by simp⟩
  · rintro s ⟨w, t0, t3, m0, t6, t5, hw, hend⟩
    have := hend rfl
    subst this
    simp -dsimp [t5]
def Is4 (p : Nat) (l : List Claim) (e : Nat) (s : S) : Prop := ∃ i : Nat, s.tm 0 = .v (.int .i64 p) ∧ s.tm 1 = .v (.sl (l.map Claim.v)) ∧ s.tm 5 = .v (.int .i64 (storyTab p (l.take i))) ∧ s.tm 6 = .v (.int .i64 i) ∧ i ≤ l.length ∧ (e = 1 → i = l.length)
theorem l4Story_fn (p : Nat) (l : List Claim) (hp1 : 1 ≤ p) (hp4 : p ≤ 4) (hl : l.length ≤ 1048576) (h : ∀ c ∈ l, claimOk p c = true) : FnZ Tryz.prog 87 [.int .i64 p, storyV l] (.int .i64 (storyTab p l)) := by
  obtain ⟨hf1, hf2⟩ := full_table hp1 hp4
  have hp0 : ¬ (p : Int) < 0 := by omega
  refine FnZ_of (rs := [.tmp 4]) false Tryz.func87 rfl rfl rfl rfl (Nat.le_of_ble_eq_true rfl) ?_
  have hsh : ¬ IntKind.wrap .u64 (2 ^ min p IntKind.u64.bits) < 0 := by
    have : p = 1 ∨ p = 2 ∨ p = 3 ∨ p = 4 := by omega
    rcases this with rfl | rfl | rfl | rfl <;> decide
  simp -dsimp [hp0, hsh, hf2]
  refine twp_loopC (Is4 p l 0) (fun s => l.length - natOf (s.tm 6)) (Is4 p l 1) ?_ ?_ ?_
  · exact ⟨0, by simp -dsimp, by simp -dsimp, by simp -dsimp [storyTab], by simp -dsimp, by omega, by simp⟩
  · rintro s ⟨i, t0, t1, t5, t6, hi, hend⟩
    by_cases hlt : i < l.length
    case neg =>
      simp -dsimp [t1, t6, hlt]
      exact ⟨i, by simp -dsimp [t0], by simp -dsimp [t1], by simp -dsimp [t5], by simp -dsimp [t6], hi, fun _ => by omega⟩
    have hget : (l.map Claim.v)[i]? = some (l[i].v) := by simp [hlt]
    have wi : IntKind.wrap .i64 ((i : Int) + 1) = ((i + 1 : Nat) : Int) := by rw [w64 (by omega) (by omega)]; omega
    have hmu1 : l.length - (i + 1) < l.length - i := by omega
    have hct := l4Table_fn p l[i] (h _ (List.getElem_mem _))
    rw [Int.toNat_natCast] at hct
    have ha := storyTab_small hp4 (l.take i)
    have hb : claimTab p l[i] < 65536 := table_small hp4 (tabN_lt _ _)
    have hs := storyTab_succ (p := p) hlt
    have hand := and_nn (a := storyTab p (l.take i)) (b := claimTab p l[i]) (by omega) (by omega)
    generalize claimTab p l[i] = b at *
    generalize storyTab p (l.take i) = a at *
    simp -dsimp [t0, t1, t5, t6, hlt, hget]
    refine call_ hct (by simp -dsimp) ?_
    simp -dsimp [t0, t1, t5, t6, hand, wi, hmu1]
    exact ⟨i + 1, by simp -dsimp [t0], by simp -dsimp [t1], by simp -dsimp [hs], by simp -dsimp, by omega, by simp⟩
  · rintro s ⟨i, t0, t1, t5, t6, hi, hend⟩
    have := hend rfl
    subst this
    rw [List.take_length] at t5
    simp -dsimp [t5]
def IlsA (p : Nat) (l : List Claim) (e : Nat) (s : S) : Prop := ∃ i id : Nat, s.tm 0 = .v (.int .i64 p) ∧ s.tm 1 = .v (.sl (l.map Claim.v)) ∧ s.tm 6 = .loc id ∧ id < s.n ∧ s.m id = some (.arr 74 ((l.take i).map Claim.v)) ∧ s.tm 7 = .v (.int .i64 i) ∧ s.mu = false ∧ i ≤ l.length ∧ (e = 1 → i = l.length)
def IlsB (p : Nat) (R : List Claim) (e : Nat) (s : S) : Prop := ∃ (i : Nat) (l : List Claim), s.tm 0 = .v (.int .i64 p) ∧ (s.tm 6 = .v (.sl (l.map Claim.v)) ∨ ∃ id, s.tm 6 = .loc id ∧ s.m id = some (.arr 74 (l.map Claim.v))) ∧ s.tm 8 = .v (.int .i64 i) ∧ i ≤ l.length ∧ l.length ≤ 6 ∧ (∀ c ∈ l, claimOk p c = true) ∧ leastGo p (l.length - i) i l = R ∧ (e = 1 → i = l.length)
theorem leastStoryS_fn (people : Int) (l : List Claim) (h : storyOk people l = true) : FnZ Tryz.prog 63 [.int .i64 people, storyV l] (.tup [storyV (least people.toNat l), .bool true]) := by
  obtain ⟨h1, h4, hc, h6⟩ := allOk_of h
  obtain ⟨p, rfl⟩ := Int.eq_ofNat_of_zero_le (show 0 ≤ people by omega)
  rw [Int.toNat_natCast]
  have hok := storyOkS_fn p l (by omega) fun c hx => (claim_fine (hc c hx)).1
  have hR : leastGo p (l.length - 0) 0 l = least p l := rfl
  generalize least p l = R at *
  refine FnZ_of (rs := [.tmp 4, .tmp 5]) false Tryz.func63 rfl rfl rfl rfl (Nat.le_of_ble_eq_true rfl) ?_
  simp -dsimp
  refine call_ hok (by simp -dsimp) ?_
  simp -dsimp [h]
  refine twp_loopC (IlsA p l 0) (fun s => l.length - natOf (s.tm 7)) (IlsA p l 1) ?_ ?_ ?_
  · exact ⟨0, 0, by simp -dsimp, by simp -dsimp, by simp -dsimp, by simp -dsimp, by simp -dsimp, by simp -dsimp, by simp -dsimp, by omega, by simp⟩
  · rintro s ⟨i, id, t0, t1, t6, hid, hm, t7, hmu, hi, hend⟩
    by_cases hlt : i < l.length
    case neg =>
      simp -dsimp [t1, t7, hlt]
      exact ⟨i, id, by simp -dsimp [t0], by simp -dsimp [t1], by simp -dsimp [t6], by simp -dsimp; omega, by simp -dsimp [hm], by simp -dsimp [t7], by simp -dsimp [hmu], hi, fun _ => by omega⟩
    have hget : (l.map Claim.v)[i]? = some (l[i].v) := by simp [hlt]
    have wi : IntKind.wrap .i64 ((i : Int) + 1) = ((i + 1 : Nat) : Int) := by rw [w64 (by omega) (by omega)]; omega
    have hmu1 : l.length - (i + 1) < l.length - i := by omega
    have f1 := far hid
    have hsm := (claim_fine (hc l[i] (List.getElem_mem _))).2.2.2
    have b0 : l[i].says.length * 16 ≤ 140737488355328 := by omega
    have b1 : (min i l.length + 1) * 32 ≤ 140737488355328 := by omega
    have htk : (l.take (i + 1)).map Claim.v = (l.take i).map Claim.v ++ [l[i].v] := by rw [List.take_succ_eq_append_getElem hlt, List.map_append]; rfl
    simp -dsimp [t1, t7, hlt]
    refine twp_draw [0, 1, 2, 3, 4, 5, 7, 8, 9, 10, 11, 6, 12, 13, 14, 15, 16] [] (List.replicate 17 []) (List.replicate 17 []) (by kernel_rfl) (by kernel_rfl) (by kernel_rfl) (by kernel_rfl) ?_
    simp -dsimp [t1, t6, t7, hlt, hget, hmu, f1, hm, b0, b1, nes, wi, hmu1]
    refine st_out fun s' ht hm' hn' hu' => ?_
    have q0 := ht 0
    have q1 := ht 1
    have q6 := ht 6
    have q7 := ht 7
    simp -dsimp [t0, t1] at q0 q1 q6 q7 hm' hn' hu'
    clear ht
    refine ⟨i + 1, _, q0, q1, q6, by omega, ?_, q7, by rw [hu', hmu], by omega, by simp⟩
    rw [htk]; simp [hm', nes, f1]
  · rintro s ⟨i, id, t0, t1, t6, hid, hm, t7, hmu, hi, hend⟩
    have := hend rfl
    subst this
    rw [List.take_length] at hm
    simp -dsimp
    refine twp_loopC (IlsB p R 0) (fun s => (match s.tm 6 with | .v (.sl xs) => xs.length | .loc _ => 7 | _ => 0) - natOf (s.tm 8)) (IlsB p R 1) ?_ ?_ ?_
    · exact ⟨0, l, by simp -dsimp [t0], .inr ⟨id, by simp -dsimp [t6], by simp -dsimp [hm]⟩, by simp -dsimp, by omega, h6, hc, hR, by simp⟩
    · rintro s ⟨i, k, t0, t6, t8, hi, hk6, hkc, hgo, hend⟩
      by_cases hlt : i < k.length
      case neg =>
        rcases t6 with t6 | ⟨id, t6, hm⟩
        · simp -dsimp [t6, t8, hlt]
          exact ⟨i, k, by simp -dsimp [t0], .inl (by simp -dsimp [t6]), by simp -dsimp [t8], hi, hk6, hkc, hgo, fun _ => by omega⟩
        · simp -dsimp [t6, t8, hlt, hm]
          exact ⟨i, k, by simp -dsimp [t0], .inr ⟨id, by simp -dsimp [t6], by simp -dsimp [hm]⟩, by simp -dsimp [t8], hi, hk6, hkc, hgo, fun _ => by omega⟩
      have hw := l5Without_fn k i hlt (by omega)
      have hel : (k.eraseIdx i).length = k.length - 1 := by rw [List.length_eraseIdx]; simp [hlt]
      have hec : ∀ c ∈ k.eraseIdx i, claimOk p c = true := fun c hx => hkc c ((List.eraseIdx_sublist _ _).subset hx)
      have hs1 := l4Story_fn p (k.eraseIdx i) (by omega) (by omega) (by omega) hec
      have hs2 := l4Story_fn p k (by omega) (by omega) (by omega) hkc
      have wi : IntKind.wrap .i64 ((i : Int) + 1) = ((i + 1 : Nat) : Int) := by rw [w64 (by omega) (by omega)]; omega
      have hmu1 : k.length - (i + 1) < k.length - i := by omega
      have hmu2 : k.length - 1 - i < k.length - i := by omega
      have hmu3 : k.length - 1 - i < 7 - i := by omega
      have hmu4 : 6 - i < 7 - i := by omega
      by_cases hq : storyTab p (k.eraseIdx i) = storyTab p k
      · have hgo2 := leastGo_out hlt hq
        rw [hgo2] at hgo
        have hq' : (storyTab p (k.eraseIdx i) : Int) = storyTab p k := by rw [hq]
        rcases t6 with t6 | ⟨id, t6, hm⟩
        · simp -dsimp [t0, t6, t8, hlt]
          refine call_ hw (by simp -dsimp) ?_
          simp -dsimp [t0, t6, t8]
          refine call_ hs1 (by simp -dsimp) ?_
          simp -dsimp [t0, t6, t8]
          refine call_ hs2 (by simp -dsimp) ?_
          simp -dsimp [t0, t6, t8, hq, hq', hel, hmu2]
          exact ⟨i, k.eraseIdx i, by simp -dsimp [t0], .inl (by simp -dsimp), by simp -dsimp [t8], by omega, by omega, hec, hgo, by simp⟩
        · simp -dsimp [t0, t6, t8, hlt, hm]
          refine call_ hw (by simp -dsimp [hm]) ?_
          simp -dsimp [t0, t6, t8]
          refine call_ hs1 (by simp -dsimp) ?_
          simp -dsimp [t0, t6, t8]
          refine call_ hs2 (by simp -dsimp [hm]) ?_
          simp -dsimp [t0, t6, t8, hq, hq', hel, hmu3]
          exact ⟨i, k.eraseIdx i, by simp -dsimp [t0], .inl (by simp -dsimp), by simp -dsimp [t8], by omega, by omega, hec, hgo, by simp⟩
      · have hgo2 := leastGo_keep hlt hq
        rw [hgo2] at hgo
        have hq' : ¬ (storyTab p (k.eraseIdx i) : Int) = storyTab p k := by omega
        rcases t6 with t6 | ⟨id, t6, hm⟩
        · simp -dsimp [t0, t6, t8, hlt]
          refine call_ hw (by simp -dsimp) ?_
          simp -dsimp [t0, t6, t8]
          refine call_ hs1 (by simp -dsimp) ?_
          simp -dsimp [t0, t6, t8]
          refine call_ hs2 (by simp -dsimp) ?_
          simp -dsimp [t0, t6, t8, hq, hq', wi, hmu1]
          exact ⟨i + 1, k, by simp -dsimp [t0], .inl (by simp -dsimp [t6]), by simp -dsimp, by omega, hk6, hkc, hgo, by simp⟩
        · simp -dsimp [t0, t6, t8, hlt, hm]
          refine call_ hw (by simp -dsimp [hm]) ?_
          simp -dsimp [t0, t6, t8]
          refine call_ hs1 (by simp -dsimp) ?_
          simp -dsimp [t0, t6, t8]
          refine call_ hs2 (by simp -dsimp [hm]) ?_
          simp -dsimp [t0, t6, t8, hq, hq', wi, hmu4]
          exact ⟨i + 1, k, by simp -dsimp [t0], .inr ⟨id, by simp -dsimp [t6], by simp -dsimp [hm]⟩, by simp -dsimp, by omega, hk6, hkc, hgo, by simp⟩
    · rintro s ⟨i, k, t0, t6, t8, hi, hk6, hkc, hgo, hend⟩
      have := hend rfl
      subst this
      rw [leastGo_end rfl (by omega)] at hgo
      subst hgo
      rcases t6 with t6 | ⟨id, t6, hm⟩
      · simp -dsimp [t6]
      · simp -dsimp [t6, hm]
end TL

/- What a deed makes of a place: the reference. -/
set_option linter.unusedSimpArgs false
set_option linter.unusedVariables false
set_option maxRecDepth 100000
set_option maxHeartbeats 4000000
set_option pp.maxSteps 1500
namespace TL
open Go Go.Proofs
attribute [local simp] marksV storyV codeV Claim.v Place.v Deed.v
theorem l15Made_fn (p : Place) (a : Deed) (hp : placeOk p = true) (ha : a.words.length ≤ 1000000000) : FnZ Tryz.prog 29 [p.v, a.v] (made p a).v := by
  obtain ⟨hfine, hfit, hsm, hl6⟩ := place_fine hp
  have hpl := fun m n => l15Place_own p hsm m n
  have hrc := readClaimS_fn p.people a.words (by omega)
  have hleast := leastStoryS_fn p.people p.story hp
  have hwo : ∀ k : Nat, k < p.story.length → FnZ Tryz.prog 62 [storyV p.story, .int .i64 k] (storyV (p.story.eraseIdx k)) := fun k hk => l5Without_fn p.story k hk (by omega)
  have hin := l1In_z a.num 0 ((p.story.length : Int) - 1)
  have w1 : IntKind.wrap .i64 ((p.story.length : Int) - 1) = (p.story.length : Int) - 1 := w64 (by omega) (by omega)
  obtain ⟨people, story⟩ := p
  obtain ⟨kind, num, words⟩ := a
  simp only at hrc hleast hwo hin w1 hl6
  have b1 : (story.length + 1) * 32 ≤ 140737488355328 := by omega
  unfold made
  simp only
  by_cases c0 : kind = 0 ∧ num = 0
  · obtain ⟨rfl, rfl⟩ := c0
    rw [if_pos ⟨rfl, rfl⟩]
    refine FnZ_of (rs := [.cell 4 34]) false Tryz.func29 rfl rfl rfl rfl (Nat.le_of_ble_eq_true rfl) ?_
    simp -dsimp
    refine callL_ (vs := [(⟨people, story⟩ : Place).v]) (hpl _ _) (by simp -dsimp) ?_
    rintro t m1 n1 ⟨hn1, hout, st, rfl, hst⟩
    have k0 := hout 0 (by omega)
    have k1 := hout 1 (by omega)
    have k2 := hout 2 (by omega)
    simp -dsimp at k0 k1 k2
    have f0 := far (show 0 < n1 by omega)
    have f1 := far (show 1 < n1 by omega)
    have f2 := far (show 2 < n1 by omega)
    have hc := hst.cell
    have z1 : ¬ n1 = 0 := by omega
    have z2 : ¬ n1 = 1 := by omega
    have z3 : ¬ n1 = 2 := by omega
    simp -dsimp [k0, k1, k2, f0, f1, f2, hc, z1, z2, z3]
    refine call_ hrc (by simp -dsimp) ?_
    cases hr : readC people words with
    | none => simp -dsimp [optC, k0, k1, k2, f0, f1, f2, hc, z1, z2, z3, nes]
    | some c =>
      rcases hst with ⟨rfl, hs0⟩ | ⟨id, rfl, hi0, hi1, him⟩
      · have hs0' : story = [] := by simpa using hs0
        subst hs0'
        simp -dsimp [optC, k0, k1, k2, f0, f1, f2, hc, z1, z2, z3, nes]
      · have g1 := far hi1
        have y1 : ¬ id = 0 := by omega
        have y2 : ¬ id = 1 := by omega
        have y3 : ¬ id = 2 := by omega
        simp -dsimp [optC, k0, k1, k2, f0, f1, f2, g1, hc, z1, z2, z3, y1, y2, y3, Ne.symm y1, Ne.symm y2, Ne.symm y3, nes, him, b1]
  rw [if_neg c0]
  by_cases c1 : kind = 1 ∧ words = [] ∧ 0 ≤ num ∧ num < story.length
  · rw [if_pos c1]
    obtain ⟨rfl, rfl, h2, h3⟩ := c1
    obtain ⟨k, rfl⟩ := Int.eq_ofNat_of_zero_le h2
    have hw := hwo k (by omega)
    have hb : (decide (0 ≤ (k : Int)) && decide ((k : Int) ≤ (story.length : Int) - 1)) = true := by simp; omega
    rw [hb] at hin
    simp only [Int.toNat_natCast]
    refine FnZ_of (rs := [.cell 4 34]) false Tryz.func29 rfl rfl rfl rfl (Nat.le_of_ble_eq_true rfl) ?_
    simp -dsimp
    refine callL_ (vs := [(⟨people, story⟩ : Place).v]) (hpl _ _) (by simp -dsimp) ?_
    rintro t m1 n1 ⟨hn1, hout, st, rfl, hst⟩
    have k0 := hout 0 (by omega)
    have k1 := hout 1 (by omega)
    have k2 := hout 2 (by omega)
    simp -dsimp at k0 k1 k2
    have f0 := far (show 0 < n1 by omega)
    have f1 := far (show 1 < n1 by omega)
    have f2 := far (show 2 < n1 by omega)
    have hc := hst.cell
    have z1 : ¬ n1 = 0 := by omega
    have z2 : ¬ n1 = 1 := by omega
    have z3 : ¬ n1 = 2 := by omega
    simp -dsimp [k0, k1, k2, f0, f1, f2, hc, z1, z2, z3, w1]
    refine call_ hin (by simp -dsimp) ?_
    simp -dsimp [k0, k1, k2, f0, f1, f2, hc, z1, z2, z3, w1]
    refine twp_draw (List.range 9) [0, 1, n1] (List.replicate 9 [0, 1, 2]) (List.replicate 9 [0, 1, 2]) (by kernel_rfl) (by kernel_rfl) (by kernel_rfl) (by kernel_rfl) ?_
    rcases hst with ⟨rfl, hs0⟩ | ⟨id, rfl, hi0, hi1, him⟩
    · have hs0' : story = [] := by simpa using hs0
      rw [hs0'] at h3; simp at h3; omega
    · have g1 := far hi1
      simp -dsimp [List.range_succ, k0, k1, k2, f0, f1, f2, hc, z1, z2, z3, w1]
      refine call_ hw (by simp -dsimp [g1, him]) ?_
      simp -dsimp [List.range_succ, k0, k1, k2, f0, f1, f2, hc, z1, z2, z3, w1]
  rw [if_neg c1]
  have g1 : ¬ (kind = 1 ∧ words = [] ∧ (decide (0 ≤ num) && decide (num ≤ (story.length : Int) - 1)) = true) := fun h => c1 ⟨h.1, h.2.1, by have := h.2.2; simp at this; omega, by have := h.2.2; simp at this; omega⟩
  generalize (decide (0 ≤ num) && decide (num ≤ (story.length : Int) - 1)) = bin at *
  by_cases c2 : kind = 2 ∧ words = []
  · rw [if_pos c2]
    obtain ⟨rfl, rfl⟩ := c2
    refine FnZ_of (rs := [.cell 4 34]) false Tryz.func29 rfl rfl rfl rfl (Nat.le_of_ble_eq_true rfl) ?_
    simp -dsimp
    refine callL_ (vs := [(⟨people, story⟩ : Place).v]) (hpl _ _) (by simp -dsimp) ?_
    rintro t m1 n1 ⟨hn1, hout, st, rfl, hst⟩
    have k0 := hout 0 (by omega)
    have k1 := hout 1 (by omega)
    have k2 := hout 2 (by omega)
    simp -dsimp at k0 k1 k2
    have f0 := far (show 0 < n1 by omega)
    have f1 := far (show 1 < n1 by omega)
    have f2 := far (show 2 < n1 by omega)
    have hc := hst.cell
    have z1 : ¬ n1 = 0 := by omega
    have z2 : ¬ n1 = 1 := by omega
    have z3 : ¬ n1 = 2 := by omega
    rcases hst with ⟨rfl, hs0⟩ | ⟨id, rfl, hi0, hi1, him⟩
    · have hs0' : story = [] := by simpa using hs0
      subst hs0'
      by_cases d0 : num = 0
      · simp -dsimp [k0, k1, k2, f0, f1, f2, hc, z1, z2, z3, w1, d0, nes]
      · simp -dsimp [k0, k1, k2, f0, f1, f2, hc, z1, z2, z3, w1, d0, nes]
    · have g1 := far hi1
      have y1 : ¬ id = 0 := by omega
      have y2 : ¬ id = 1 := by omega
      have y3 : ¬ id = 2 := by omega
      by_cases d0 : num = 0
      · simp -dsimp [k0, k1, k2, f0, f1, f2, hc, z1, z2, z3, w1, d0, nes, g1, y1, y2, y3, him]
      · simp -dsimp [k0, k1, k2, f0, f1, f2, hc, z1, z2, z3, w1, d0, nes, g1, y1, y2, y3, him]
  rw [if_neg c2]
  by_cases c3 : kind = 3 ∧ num = 0 ∧ words = []
  · rw [if_pos c3]
    obtain ⟨rfl, rfl, rfl⟩ := c3
    refine FnZ_of (rs := [.cell 4 34]) false Tryz.func29 rfl rfl rfl rfl (Nat.le_of_ble_eq_true rfl) ?_
    simp -dsimp
    refine callL_ (vs := [(⟨people, story⟩ : Place).v]) (hpl _ _) (by simp -dsimp) ?_
    rintro t m1 n1 ⟨hn1, hout, st, rfl, hst⟩
    have k0 := hout 0 (by omega)
    have k1 := hout 1 (by omega)
    have k2 := hout 2 (by omega)
    simp -dsimp at k0 k1 k2
    have f0 := far (show 0 < n1 by omega)
    have f1 := far (show 1 < n1 by omega)
    have f2 := far (show 2 < n1 by omega)
    have hc := hst.cell
    have z1 : ¬ n1 = 0 := by omega
    have z2 : ¬ n1 = 1 := by omega
    have z3 : ¬ n1 = 2 := by omega
    simp -dsimp [k0, k1, k2, f0, f1, f2, hc, z1, z2, z3, w1, nes]
    refine call_ hleast (by simp -dsimp) ?_
    simp -dsimp [k0, k1, k2, f0, f1, f2, hc, z1, z2, z3, w1, nes]
  rw [if_neg c3]
  by_cases e0 : kind = 0
  · subst e0
    have d0 : ¬ num = 0 := fun h => c0 ⟨rfl, h⟩
    refine FnZ_of (rs := [.cell 4 34]) false Tryz.func29 rfl rfl rfl rfl (Nat.le_of_ble_eq_true rfl) ?_
    simp -dsimp
    refine callL_ (vs := [(⟨people, story⟩ : Place).v]) (hpl _ _) (by simp -dsimp) ?_
    rintro t m1 n1 ⟨hn1, hout, st, rfl, hst⟩
    have k0 := hout 0 (by omega)
    have k1 := hout 1 (by omega)
    have k2 := hout 2 (by omega)
    simp -dsimp at k0 k1 k2
    have f0 := far (show 0 < n1 by omega)
    have f1 := far (show 1 < n1 by omega)
    have f2 := far (show 2 < n1 by omega)
    have hc := hst.cell
    have z1 : ¬ n1 = 0 := by omega
    have z2 : ¬ n1 = 1 := by omega
    have z3 : ¬ n1 = 2 := by omega
    simp -dsimp [k0, k1, k2, f0, f1, f2, hc, z1, z2, z3, w1, nes, d0]
  by_cases e1 : kind = 1
  · subst e1
    by_cases dw : words = []
    · subst dw
      have hbf : bin = false := by
        cases bin
        · rfl
        · exact absurd ⟨rfl, rfl, rfl⟩ g1
      subst hbf
      refine FnZ_of (rs := [.cell 4 34]) false Tryz.func29 rfl rfl rfl rfl (Nat.le_of_ble_eq_true rfl) ?_
      simp -dsimp
      refine callL_ (vs := [(⟨people, story⟩ : Place).v]) (hpl _ _) (by simp -dsimp) ?_
      rintro t m1 n1 ⟨hn1, hout, st, rfl, hst⟩
      have k0 := hout 0 (by omega)
      have k1 := hout 1 (by omega)
      have k2 := hout 2 (by omega)
      simp -dsimp at k0 k1 k2
      have f0 := far (show 0 < n1 by omega)
      have f1 := far (show 1 < n1 by omega)
      have f2 := far (show 2 < n1 by omega)
      have hc := hst.cell
      have z1 : ¬ n1 = 0 := by omega
      have z2 : ¬ n1 = 1 := by omega
      have z3 : ¬ n1 = 2 := by omega

      simp -dsimp [k0, k1, k2, f0, f1, f2, hc, z1, z2, z3, w1, nes]
      refine call_ hin (by simp -dsimp) ?_
      simp -dsimp [k0, k1, k2, f0, f1, f2, hc, z1, z2, z3, w1, nes]
    · refine FnZ_of (rs := [.cell 4 34]) false Tryz.func29 rfl rfl rfl rfl (Nat.le_of_ble_eq_true rfl) ?_
      simp -dsimp
      refine callL_ (vs := [(⟨people, story⟩ : Place).v]) (hpl _ _) (by simp -dsimp) ?_
      rintro t m1 n1 ⟨hn1, hout, st, rfl, hst⟩
      have k0 := hout 0 (by omega)
      have k1 := hout 1 (by omega)
      have k2 := hout 2 (by omega)
      simp -dsimp at k0 k1 k2
      have f0 := far (show 0 < n1 by omega)
      have f1 := far (show 1 < n1 by omega)
      have f2 := far (show 2 < n1 by omega)
      have hc := hst.cell
      have z1 : ¬ n1 = 0 := by omega
      have z2 : ¬ n1 = 1 := by omega
      have z3 : ¬ n1 = 2 := by omega

      simp -dsimp [k0, k1, k2, f0, f1, f2, hc, z1, z2, z3, w1, nes, dw]
  by_cases e2 : kind = 2
  · subst e2
    have dw : ¬ words = [] := fun h => c2 ⟨rfl, h⟩
    refine FnZ_of (rs := [.cell 4 34]) false Tryz.func29 rfl rfl rfl rfl (Nat.le_of_ble_eq_true rfl) ?_
    simp -dsimp
    refine callL_ (vs := [(⟨people, story⟩ : Place).v]) (hpl _ _) (by simp -dsimp) ?_
    rintro t m1 n1 ⟨hn1, hout, st, rfl, hst⟩
    have k0 := hout 0 (by omega)
    have k1 := hout 1 (by omega)
    have k2 := hout 2 (by omega)
    simp -dsimp at k0 k1 k2
    have f0 := far (show 0 < n1 by omega)
    have f1 := far (show 1 < n1 by omega)
    have f2 := far (show 2 < n1 by omega)
    have hc := hst.cell
    have z1 : ¬ n1 = 0 := by omega
    have z2 : ¬ n1 = 1 := by omega
    have z3 : ¬ n1 = 2 := by omega
    by_cases d0 : num = 0
    · simp -dsimp [k0, k1, k2, f0, f1, f2, hc, z1, z2, z3, w1, nes, d0, dw]
    · simp -dsimp [k0, k1, k2, f0, f1, f2, hc, z1, z2, z3, w1, nes, d0, dw]
  by_cases e3 : kind = 3
  · subst e3
    refine FnZ_of (rs := [.cell 4 34]) false Tryz.func29 rfl rfl rfl rfl (Nat.le_of_ble_eq_true rfl) ?_
    simp -dsimp
    refine callL_ (vs := [(⟨people, story⟩ : Place).v]) (hpl _ _) (by simp -dsimp) ?_
    rintro t m1 n1 ⟨hn1, hout, st, rfl, hst⟩
    have k0 := hout 0 (by omega)
    have k1 := hout 1 (by omega)
    have k2 := hout 2 (by omega)
    simp -dsimp at k0 k1 k2
    have f0 := far (show 0 < n1 by omega)
    have f1 := far (show 1 < n1 by omega)
    have f2 := far (show 2 < n1 by omega)
    have hc := hst.cell
    have z1 : ¬ n1 = 0 := by omega
    have z2 : ¬ n1 = 1 := by omega
    have z3 : ¬ n1 = 2 := by omega
    by_cases d0 : num = 0
    · have dw : ¬ words = [] := fun h => c3 ⟨rfl, d0, h⟩
      simp -dsimp [k0, k1, k2, f0, f1, f2, hc, z1, z2, z3, w1, nes, d0, dw]
    · simp -dsimp [k0, k1, k2, f0, f1, f2, hc, z1, z2, z3, w1, nes, d0]
  refine FnZ_of (rs := [.cell 4 34]) false Tryz.func29 rfl rfl rfl rfl (Nat.le_of_ble_eq_true rfl) ?_
  simp -dsimp
  refine callL_ (vs := [(⟨people, story⟩ : Place).v]) (hpl _ _) (by simp -dsimp) ?_
  rintro t m1 n1 ⟨hn1, hout, st, rfl, hst⟩
  have k0 := hout 0 (by omega)
  have k1 := hout 1 (by omega)
  have k2 := hout 2 (by omega)
  simp -dsimp at k0 k1 k2
  have f0 := far (show 0 < n1 by omega)
  have f1 := far (show 1 < n1 by omega)
  have f2 := far (show 2 < n1 by omega)
  have hc := hst.cell
  have z1 : ¬ n1 = 0 := by omega
  have z2 : ¬ n1 = 1 := by omega
  have z3 : ¬ n1 = 2 := by omega

  simp -dsimp [k0, k1, k2, f0, f1, f2, hc, z1, z2, z3, w1, nes, e0, e1, e2, e3]
end TL

/- Deeds at a desk: the reference. -/
set_option linter.unusedSimpArgs false
set_option linter.unusedVariables false
set_option maxRecDepth 100000
set_option maxHeartbeats 4000000
set_option pp.maxSteps 1500
namespace TL
open Go Go.Proofs
attribute [local simp] marksV storyV codeV Claim.v Place.v Deed.v Desk.v
theorem made_fine (p : Place) (a : Deed) (hp : placeOk p = true) : (made p a).fine ∧ (made p a).story.length ≤ 7 ∧ (made p a).small := by
  obtain ⟨h1, h2, h3, h4⟩ := placeOk_all hp
  have hc : ∀ c ∈ p.story, c.fine ∧ c.small := fun c hc => ⟨(claim_fine (h4 c hc)).1, (claim_fine (h4 c hc)).2.2.1⟩
  have key : ∀ q : Place, q.story.length ≤ 7 → (∀ c ∈ q.story, c.fine ∧ c.small) → q.fine ∧ q.story.length ≤ 7 ∧ q.small := fun q hl hq => ⟨⟨by omega, fun c hx => (hq c hx).1⟩, hl, ⟨by omega, fun c hx => (hq c hx).2⟩⟩
  have zero := key ⟨0, []⟩ (by simp) (by simp)
  unfold made
  split
  · split
    · rename_i c hr
      have := claim_fine (readC_is hr).1
      refine key _ (by simp; omega) fun x hx => ?_
      rcases List.mem_append.1 hx with hx | hx
      · exact hc x hx
      · rw [List.mem_singleton.1 hx]; exact ⟨this.1, this.2.2.1⟩
    · exact zero
  · split
    · refine key _ ?_ fun x hx => hc x ((List.eraseIdx_sublist _ _).subset hx)
      have := (List.eraseIdx_sublist p.story a.num.toNat).length_le
      simp only; omega
    · split
      · exact key _ (by simp only; omega) hc
      · split
        · refine key _ ?_ fun x hx => hc x ((least_sub _ _).subset hx)
          have := (least_sub p.people.toNat p.story).length_le
          simp only; omega
        · exact zero
theorem last_facts {l : List Place} {q : Place} (h : l ≠ []) : ((l.length : Int) - 1).toNat = l.length - 1 ∧ (l.map Place.v)[l.length - 1]? = some (l.getLast?.getD q).v ∧ (l.map Place.v).take (l.length - 1) = l.dropLast.map Place.v ∧ (0 : Int) ≤ (l.length : Int) - 1 ∧ (l.length : Int) - 1 ≤ l.length ∧ l.length - 1 ≤ l.length := by
  have hl : 0 < l.length := List.length_pos_iff.2 h
  refine ⟨by omega, ?_, ?_, by omega, by omega, by omega⟩
  · rw [List.getLast?_eq_getElem?, List.getElem?_map, List.getElem?_eq_getElem (by omega)]; rfl
  · rw [← List.map_take, List.dropLast_eq_take]
theorem deskDoS_fn (d : Desk) (a : Deed) (hd : d.small) (hf : d.fit) (ha : a.words.length ≤ 1000000000) : FnZ Tryz.prog 8 [d.v, a.v] (.tup [(deskDo d a).1.v, .bool (deskDo d a).2]) := by
  have hok := deskOkS_fn d hd hf
  have hk := ft (deskOk d)
  rcases hk with hk | hk
  · rw [deskDo_no hk]
    rw [hk] at hok
    obtain ⟨a1, a2, a3⟩ := a
    refine FnZ_of (rs := [.cell 4 37, .tmp 5]) false Tryz.func8 rfl rfl rfl rfl (Nat.le_of_ble_eq_true rfl) ?_
    simp -dsimp
    refine call_ hok (by simp -dsimp) ?_
    simp -dsimp [noDeskV]
  rw [hk] at hok
  obtain ⟨hpast, hnow, hp8⟩ := deskOk_iff.1 hk
  have hcopy := fun m n => l15Copy_own d hd m n
  by_cases hb : isBack a = true ∧ d.past ≠ []
  · rw [deskDo_back hk hb.1 hb.2]
    have ha4 : a = ⟨4, 0, []⟩ := by have := hb.1; simp only [isBack, decide_eq_true_eq] at this; exact this
    subst ha4
    obtain ⟨l1, l2, l3, l4, l5, l6⟩ := last_facts (q := d.now) hb.2
    have hpos : 0 < d.past.length := List.length_pos_iff.2 hb.2
    have hpos' : (0 : Int) < d.past.length := by omega
    have hne := hb.2
    have p1 : (1 : Int) ≤ d.past.length := by omega
    have p2 : 1 ≤ d.past.length := by omega
    have w1 : IntKind.wrap .i64 ((d.past.length : Int) - 1) = (d.past.length : Int) - 1 := w64 (by omega) (by omega)
    clear hb
    refine FnZ_of (rs := [.cell 4 37, .tmp 5]) false Tryz.func8 rfl rfl rfl rfl (Nat.le_of_ble_eq_true rfl) ?_
    simp -dsimp
    refine call_ hok (by simp -dsimp) ?_
    simp -dsimp
    refine callL_ (vs := [d.v]) (hcopy _ _) (by simp -dsimp) ?_
    rintro t m1 n1 ⟨hn1, hout, st, rfl, hst⟩
    have k0 := hout 0 (by omega)
    have k1 := hout 1 (by omega)
    have k2 := hout 2 (by omega)
    simp -dsimp at k0 k1 k2
    have f0 := far (show 0 < n1 by omega)
    have f1 := far (show 1 < n1 by omega)
    have f2 := far (show 2 < n1 by omega)
    have z1 : ¬ n1 = 0 := by omega
    have z2 : ¬ n1 = 1 := by omega
    have z3 : ¬ n1 = 2 := by omega
    rcases hst with ⟨rfl, hs0⟩ | ⟨id, rfl, hi0, hi1, him⟩
    · exact absurd (by simpa using hs0) hne
    · have g1 := far hi1
      generalize d.past.getLast?.getD d.now = q at *
      simp -dsimp [k0, k1, k2, f0, f1, f2, z1, z2, z3, hne, hpos, hpos', p1, p2, g1, him, w1, l1, l2, l3, l4, l5, l6, nes]
  have hmade := l15Made_fn d.now a hnow ha
  obtain ⟨mf, ml, ms⟩ := made_fine d.now a hnow
  have hpo := placeOkS_fn (made d.now a) mf
  have hpt := placeTextS_fn (made d.now a) mf
  have hpn := placeTextS_fn d.now (place_fine hnow).1
  have hD : deskDo d a = if (placeOk (made d.now a) && !decide (placeTx (made d.now a) = placeTx d.now)) = true then (⟨made d.now a, keep8 (d.past ++ [d.now])⟩, true) else (d, false) := by
    unfold deskDo; rw [if_pos hk, if_neg hb]; rfl
  rw [hD]
  have hb' : (decide (a = ⟨4, 0, []⟩) = true ∧ d.past ≠ []) → False := hb
  have hba : isBack a = true → placeOk (made d.now a) = false ∧ d.past = [] := fun h => ⟨by rw [made_back h, zero_no], Classical.byContradiction fun h2 => hb' ⟨h, h2⟩⟩
  clear hb hb' hD
  generalize made d.now a = X at *
  generalize placeTx X = tX at *
  generalize placeTx d.now = tN at *
  have hkX := ft (placeOk X)
  generalize placeOk X = okX at *
  obtain ⟨kind, num, words⟩ := a
  have htx : tX = tN ∨ ¬ tX = tN := Classical.em _
  obtain ⟨Xp, Xs⟩ := X
  have fullb : (d.past.length + 1) * 32 ≤ 140737488355328 := by omega
  by_cases hq : kind = 4 ∧ num = 0 ∧ words = []
  · obtain ⟨rfl, rfl, rfl⟩ := hq
    obtain ⟨hokX, he⟩ := hba rfl
    subst hokX
    have he0 : (d.past.map Place.v) = [] := by rw [he]; rfl
    refine FnZ_of (rs := [.cell 4 37, .tmp 5]) false Tryz.func8 rfl rfl rfl rfl (Nat.le_of_ble_eq_true rfl) ?_
    simp -dsimp
    refine call_ hok (by simp -dsimp) ?_
    simp -dsimp
    refine callL_ (vs := [d.v]) (hcopy _ _) (by simp -dsimp) ?_
    rintro t m1 n1 ⟨hn1, hout, st, rfl, hst⟩
    have k0 := hout 0 (by omega)
    have k1 := hout 1 (by omega)
    have k2 := hout 2 (by omega)
    simp -dsimp at k0 k1 k2
    have f0 := far (show 0 < n1 by omega)
    have f1 := far (show 1 < n1 by omega)
    have f2 := far (show 2 < n1 by omega)
    have z1 : ¬ n1 = 0 := by omega
    have z2 : ¬ n1 = 1 := by omega
    have z3 : ¬ n1 = 2 := by omega
    have hc := hst.cell
    simp -dsimp [k0, k1, k2, f0, f1, f2, z1, z2, z3, hc, he, nes]
    refine call_ hmade (by simp -dsimp) ?_
    simp -dsimp [k0, k1, k2, f0, f1, f2, z1, z2, z3, hc, he, nes]
    refine twp_draw [0, 1, 2, 3, 4, 6, 7, 5, 8, 9, 10] [0, n1 + 1 + 1] (List.replicate 11 [0, 1]) (List.replicate 11 [0, 1]) (by kernel_rfl) (by kernel_rfl) (by kernel_rfl) (by kernel_rfl) ?_
    simp -dsimp [k0, k1, k2, f0, f1, f2, z1, z2, z3, hc, he, nes]
    refine call_ hpo (by simp -dsimp) ?_
    rcases hst with ⟨rfl, hs0⟩ | ⟨id, rfl, hi0, hi1, him⟩
    · simp -dsimp [k0, k1, k2, f0, f1, f2, z1, z2, z3, hc, he, nes]
    · have g1 := far hi1
      have y3 : ¬ id = 2 := by omega
      simp -dsimp [k0, k1, k2, f0, f1, f2, z1, z2, z3, hc, he, nes, g1, him, y3]
  · have hbb : (decide (kind = 4) && (decide (num = 0) && decide (words = []))) = false := by
      rw [Bool.eq_false_iff]; intro h; simp at h; exact hq h
    refine FnZ_of (rs := [.cell 4 37, .tmp 5]) false Tryz.func8 rfl rfl rfl rfl (Nat.le_of_ble_eq_true rfl) ?_
    simp -dsimp
    refine call_ hok (by simp -dsimp) ?_
    simp -dsimp
    refine callL_ (vs := [d.v]) (hcopy _ _) (by simp -dsimp) ?_
    rintro t m1 n1 ⟨hn1, hout, st, rfl, hst⟩
    have k0 := hout 0 (by omega)
    have k1 := hout 1 (by omega)
    have k2 := hout 2 (by omega)
    simp -dsimp at k0 k1 k2
    have f0 := far (show 0 < n1 by omega)
    have f1 := far (show 1 < n1 by omega)
    have f2 := far (show 2 < n1 by omega)
    have z1 : ¬ n1 = 0 := by omega
    have z2 : ¬ n1 = 1 := by omega
    have z3 : ¬ n1 = 2 := by omega
    have hc := hst.cell
    simp -dsimp [k0, k1, k2, f0, f1, f2, z1, z2, z3, hc, hbb, nes]
    refine call_ hmade (by simp -dsimp) ?_
    simp -dsimp [k0, k1, k2, f0, f1, f2, z1, z2, z3, hc, nes]
    refine twp_draw [0, 1, 2, 3, 4, 6, 7, 5, 8, 9, 10] [0, n1 + 1 + 1] (List.replicate 11 [0, 1]) (List.replicate 11 [0, 1]) (by kernel_rfl) (by kernel_rfl) (by kernel_rfl) (by kernel_rfl) ?_
    simp -dsimp [k0, k1, k2, f0, f1, f2, z1, z2, z3, hc, nes]
    refine call_ hpo (by simp -dsimp) ?_
    rcases hkX with rfl | rfl
    · rcases hst with ⟨rfl, hs0⟩ | ⟨id, rfl, hi0, hi1, him⟩
      · have hs0' : d.past = [] := by simpa using hs0
        simp -dsimp [k0, k1, k2, f0, f1, f2, z1, z2, z3, hc, nes, hs0']
      · have g1 := far hi1
        have y3 : ¬ id = 2 := by omega
        simp -dsimp [k0, k1, k2, f0, f1, f2, z1, z2, z3, hc, nes, g1, him, y3]
    simp -dsimp [k0, k1, k2, f0, f1, f2, z1, z2, z3, hc, nes]
    refine call_ hpt (by simp -dsimp) ?_
    simp -dsimp [k0, k1, k2, f0, f1, f2, z1, z2, z3, hc, nes]
    refine call_ hpn (by simp -dsimp) ?_
    rcases htx with rfl | htx
    · rcases hst with ⟨rfl, hs0⟩ | ⟨id, rfl, hi0, hi1, him⟩
      · have hs0' : d.past = [] := by simpa using hs0
        simp -dsimp [k0, k1, k2, f0, f1, f2, z1, z2, z3, hc, nes, hs0']
      · have g1 := far hi1
        have y3 : ¬ id = 2 := by omega
        simp -dsimp [k0, k1, k2, f0, f1, f2, z1, z2, z3, hc, nes, g1, him, y3]
    rcases hst with ⟨rfl, hs0⟩ | ⟨id, rfl, hi0, hi1, him⟩
    · have hs0' : d.past = [] := by simpa using hs0
      have hk8 : keep8 (d.past ++ [d.now]) = [d.now] := by rw [hs0']; rfl
      simp -dsimp [k0, k1, k2, f0, f1, f2, z1, z2, z3, hc, nes, htx, hs0', keep8]
    · have g1 := far hi1
      have y3 : ¬ id = 2 := by omega
      by_cases h8 : d.past.length = 8
      · have e8 : (d.past.length : Int) = 8 := by omega
        simp -dsimp [k0, k1, k2, f0, f1, f2, z1, z2, z3, hc, nes, htx, g1, him, y3, Ne.symm y3, h8, e8, keep8, fullb]
        rw [List.take_of_length_le (by simp [h8])]
      · have e8 : d.past.length < 8 := by omega
        have e8' : ¬ (8 : Int) < (d.past.length : Int) + 1 := by omega
        have e8'' : ¬ 8 < d.past.length + 1 := by omega
        simp -dsimp [k0, k1, k2, f0, f1, f2, z1, z2, z3, hc, nes, htx, g1, him, y3, Ne.symm y3, h8, e8, e8', e8'', keep8, fullb]
end TL

/- Copies of stories, places and desks as rows of the caller's own: the program. -/
set_option linter.unusedSimpArgs false
set_option linter.unusedVariables false
set_option maxRecDepth 100000
set_option maxHeartbeats 4000000
set_option pp.maxSteps 1500
namespace TL
open Go Go.Proofs
attribute [local simp] marksV storyV codeV Claim.v Place.v Desk.v
def IcS (l : List Claim) (m0 : Mem) (n0 : Nat) (e : Nat) (s : S) : Prop := ∃ i id : Nat, s.tm 7 = .v (.sl (l.map Claim.v)) ∧ s.tm 8 = .v (.int .i64 l.length) ∧ s.tm 9 = .v (.int .i64 i) ∧ s.mu = false ∧ i ≤ l.length ∧ s.tm 3 = .loc id ∧ n0 ≤ id ∧ id < s.n ∧ s.m id = some (.arr 74 ((l.take i).map Claim.v)) ∧ (∀ j, j < n0 → s.m j = m0 j) ∧ (e = 1 → i = l.length)
theorem copyStory_own (l : List Claim) (hl : l.length ≤ 1048576) (hs : ∀ c ∈ l, c.small) (m : Mem) (n : Nat) : FnS Tryz.prog 72 m n [.v (storyV l)] (fun t m' n' => n ≤ n' ∧ (∀ j, j < n → m' j = m j) ∧ ∃ id, t = .loc id ∧ n ≤ id ∧ id < n' ∧ m' id = some (.arr 74 (l.map Claim.v))) := by
  refine FnS_of (rs := [.tmp 2]) false Tryz.func72 rfl rfl rfl rfl (Nat.le_of_ble_eq_true rfl) ?_
  simp -dsimp
  refine twp_loopC (IcS l m n 0) (fun s => l.length - natOf (s.tm 9)) (IcS l m n 1) ?_ ?_ ?_
  · exact ⟨0, n, by simp -dsimp, by simp -dsimp, by simp -dsimp, by simp -dsimp, by omega, by simp -dsimp, by omega, by simp -dsimp, by simp -dsimp, fun j j1 => by simp -dsimp [far j1], by simp⟩
  · rintro s ⟨i, id, t7, t8, t9, hmu, hi, t3, hid0, hid, hm, hout, hend⟩
    by_cases hlt : i < l.length
    case neg =>
      simp -dsimp [t8, t9, hlt]
      exact ⟨i, id, by simp -dsimp [t7], by simp -dsimp [t8], by simp -dsimp [t9], by simp -dsimp [hmu], hi, by simp -dsimp [t3], hid0, by simp -dsimp [hid], by simp -dsimp [hm], fun j j1 => by simp -dsimp [hout j j1], fun _ => by omega⟩
    have hget : (l.map Claim.v)[i]? = some (l[i].v) := by simp [hlt]
    have wi : IntKind.wrap .i64 ((i : Int) + 1) = ((i + 1 : Nat) : Int) := by rw [w64 (by omega) (by omega)]; omega
    have hmu1 : l.length - (i + 1) < l.length - i := by omega
    have f1 := far hid
    have b1 : (min i l.length + 1) * 32 ≤ 140737488355328 := by omega
    have htk : (l.take (i + 1)).map Claim.v = (l.take i).map Claim.v ++ [l[i].v] := by rw [List.take_succ_eq_append_getElem hlt, List.map_append]; rfl
    simp -dsimp [t7, t8, t9, hlt, hget]
    refine twp_draw (List.range 10) [s.n] (List.replicate 10 [0]) (List.replicate 10 [0]) (by kernel_rfl) (by kernel_rfl) (by kernel_rfl) (by kernel_rfl) ?_
    simp -dsimp [List.range_succ, t3]
    refine call_ (cloneMarks_fn l[i].says (hs _ (List.getElem_mem _))) (by simp -dsimp) ?_
    simp -dsimp [List.range_succ, t3, t9, hmu, f1, hm, b1, wi, hmu1, nes]
    refine st_out fun s' ht hm' hn' hu' => ?_
    have a3 := ht 3
    have a7 := ht 7
    have a8 := ht 8
    have a9 := ht 9
    simp -dsimp [t7, t8] at a3 a7 a8 a9 hm' hn' hu'
    clear ht
    refine ⟨i + 1, s.n + 1 + 1 + 1, a7, a8, a9, by rw [hu', hmu], by omega, a3, by omega, by omega, ?_, fun j j1 => ?_, by simp⟩
    · rw [htk]; simp [hm', nes]
    · simp [hm', far (show j < s.n by omega), show ¬ j = id by omega, hout j j1]
  · rintro s ⟨i, id, t7, t8, t9, hmu, hi, t3, hid0, hid, hm, hout, hend⟩
    have := hend rfl
    subst this
    rw [List.take_length] at hm
    simp -dsimp [t3]
    exact ⟨by omega, hout, hid0, hid, hm⟩
/-- A place whose claims are a row of the caller's own. -/
def OwnPlaceL (p : Place) (m : Mem) (n : Nat) (t : T) (m' : Mem) (n' : Nat) : Prop := n ≤ n' ∧ (∀ j, j < n → m' j = m j) ∧ ∃ id, t = .agg [.v (.int .i64 p.people), .loc id] ∧ n ≤ id ∧ id < n' ∧ m' id = some (.arr 74 (p.story.map Claim.v))
theorem copyPlace_own (p : Place) (hp : p.small) (m : Mem) (n : Nat) : FnS Tryz.prog 42 m n [.v p.v] (OwnPlaceL p m n) := by
  refine FnS_of (rs := [.cell 2 34]) false Tryz.func42 rfl rfl rfl rfl (Nat.le_of_ble_eq_true rfl) ?_
  simp -dsimp
  refine twp_draw (List.range 7) [n] (List.replicate 7 [0]) (List.replicate 7 [0]) (by kernel_rfl) (by kernel_rfl) (by kernel_rfl) (by kernel_rfl) ?_
  simp -dsimp [List.range_succ]
  refine callS_ (copyStory_own p.story hp.1 hp.2 _ _) ?_
  rintro t m1 n1 ⟨hn1, hout1, id, rfl, hid0, hid, him⟩
  have f1 := far hid
  have k0 := hout1 n (by omega)
  have k1 := hout1 (n + 1) (by omega)
  simp -dsimp [nes] at k0 k1
  have d0 : ¬ id = n + 1 := by omega
  have d1 : ¬ n + 1 = id := by omega
  simp -dsimp [List.range_succ, k0, k1, nes, f1]
  refine ⟨by omega, fun j j1 => ?_, id, ?_⟩
  · have := hout1 j (by omega)
    simp [far j1, show ¬ j = n + 1 by omega] at this ⊢
    exact this
  · exact ⟨rfl, by omega, by omega, by simp [d0, him]⟩
/-- A desk whose place's claims and whose past are rows of the caller's own. -/
def OwnDeskL (d : Desk) (m : Mem) (n : Nat) (t : T) (m' : Mem) (n' : Nat) : Prop := n ≤ n' ∧ (∀ j, j < n → m' j = m j) ∧ ∃ id st, t = .agg [.v (.int .i64 d.now.people), .loc id, st] ∧ n ≤ id ∧ id < n' ∧ m' id = some (.arr 74 (d.now.story.map Claim.v)) ∧ IsRow m' n n' 34 st (d.past.map Place.v) ∧ st ≠ .loc id
def Icd (d : Desk) (m0 : Mem) (n0 id q : Nat) (e : Nat) (s : S) : Prop := ∃ (i : Nat) (st : T), s.tm 2 = .ptr (n0 + 1) 0 ∧ s.tm 3 = .ptr q 0 ∧ s.tm 11 = .v (.sl (d.past.map Place.v)) ∧ s.tm 12 = .v (.int .i64 d.past.length) ∧ s.tm 13 = .v (.int .i64 i) ∧ s.mu = false ∧ i ≤ d.past.length ∧ q < s.n ∧
  s.m (n0 + 1) = some (.box 37 3 [.v (.int .i64 0), .nil, .nil]) ∧ s.m q = some (.box 37 3 [.v (.int .i64 d.now.people), .loc id, st]) ∧ s.m id = some (.arr 74 (d.now.story.map Claim.v)) ∧ IsRow s.m (q + 1) s.n 34 st ((d.past.take i).map Place.v) ∧ (∀ j, j < n0 → s.m j = m0 j) ∧ (e = 1 → i = d.past.length)
theorem copyDesk_own (d : Desk) (hd : d.small) (m : Mem) (n : Nat) : FnS Tryz.prog 35 m n [.v d.v] (OwnDeskL d m n) := by
  have hl := hd.2.1
  refine FnS_of (rs := [.cell 2 37]) false Tryz.func35 rfl rfl rfl rfl (Nat.le_of_ble_eq_true rfl) ?_
  simp -dsimp
  refine callL_ (vs := [d.now.v]) (copyPlace_own d.now hd.1 _ _) (by simp -dsimp) ?_
  rintro t m1 n1 ⟨hn1, hout1, id, rfl, hid0, hid, him⟩
  have f1 := far hid
  have k0 := hout1 n (by omega)
  have k1 := hout1 (n + 1) (by omega)
  simp -dsimp [nes] at k0 k1
  have g0 := far (show n < n1 by omega)
  have g1 := far (show n + 1 < n1 by omega)
  simp -dsimp [k0, k1, nes, f1, g0, g1]
  refine twp_loopC (Icd d m n id n1 0) (fun s => d.past.length - natOf (s.tm 13)) (Icd d m n id n1 1) ?_ ?_ ?_
  · refine ⟨0, .nil, by simp -dsimp, by simp -dsimp, by simp -dsimp, by simp -dsimp, by simp -dsimp, by simp -dsimp, by omega, (by simp -dsimp <;> omega), by simp -dsimp [g1, k1], by simp -dsimp [f1], by simp -dsimp [f1, him], .inl ⟨rfl, by simp⟩, fun j j1 => ?_, by simp⟩
    have := hout1 j (by omega)
    simp -dsimp [far j1] at this
    simp -dsimp [far (show j < n1 by omega), this]
  · rintro s ⟨i, st, t2, t3, t11, t12, t13, hmu, hi, hq, m1', mq, mid, hst, hout, hend⟩
    by_cases hlt : i < d.past.length
    case neg =>
      simp -dsimp [t12, t13, hlt]
      exact ⟨i, st, by simp -dsimp [t2], by simp -dsimp [t3], by simp -dsimp [t11], by simp -dsimp [t12], by simp -dsimp [t13], by simp -dsimp [hmu], hi, by simp -dsimp; omega, by simp -dsimp [m1'], by simp -dsimp [mq], by simp -dsimp [mid], hst, fun j j1 => by simp -dsimp [hout j j1], fun _ => by omega⟩
    have hget : (d.past.map Place.v)[i]? = some (d.past[i].v) := by simp [hlt]
    have wi : IntKind.wrap .i64 ((i : Int) + 1) = ((i + 1 : Nat) : Int) := by rw [w64 (by omega) (by omega)]; omega
    have hmu1 : d.past.length - (i + 1) < d.past.length - i := by omega
    have p0 := far (show n1 < s.n by omega)
    have p1 := far (show n + 1 < s.n by omega)
    have p2 := far (show id < s.n by omega)
    have p3 := far (show n < s.n by omega)
    have q0 : ¬ n + 1 = n1 := by omega
    have q1 : ¬ n1 = n + 1 := by omega
    have q2 : ¬ id = n1 := by omega
    have q3 : ¬ n1 = id := by omega
    have q4 : ¬ id = n + 1 := by omega
    have q5 : ¬ n + 1 = id := by omega
    have hsm := hd.2.2 d.past[i] (List.getElem_mem _)
    have hpl := copyPlace_fn d.past[i] hsm
    have b1 : (min i d.past.length + 1) * 32 ≤ 140737488355328 := by omega
    have htk : (d.past.take (i + 1)).map Place.v = (d.past.take i).map Place.v ++ [d.past[i].v] := by rw [List.take_succ_eq_append_getElem hlt, List.map_append]; rfl
    simp -dsimp [t11, t12, t13, hlt, hget]
    refine twp_draw (List.range 8) [s.n, n1] (List.replicate 8 [0, 1]) (List.replicate 7 [0, 1] ++ [[0]]) (by kernel_rfl) (by kernel_rfl) (by kernel_rfl) (by kernel_rfl) ?_
    rcases hst with ⟨rfl, hs0⟩ | ⟨r, rfl, hi0, hi1, him'⟩
    · have hi00 : i = 0 := by
        simp at hs0; rcases hs0 with h | h
        · exact h
        · rw [h] at hlt; simp at hlt
      subst hi00
      have hmu2 : d.past.length - 1 < d.past.length := by omega
      have wz : IntKind.wrap .i64 1 = 1 := rfl
      simp -dsimp [List.range_succ, t3, mq, p0, p1, p2, nes]
      refine call_ hpl (by simp -dsimp) ?_
      simp -dsimp [List.range_succ, t3, t13, mq, p0, p1, p2, nes, hmu, wi, hmu1, hmu2, wz, q0, q1, q2, q3, q4, q5]
      refine st_out fun s' ht hm' hn' hu' => ?_
      have a2 := ht 2
      have a3 := ht 3
      have a11 := ht 11
      have a12 := ht 12
      have a13 := ht 13
      simp -dsimp [t2, t3, t11, t12] at a2 a3 a11 a12 a13 hm' hn' hu'
      clear ht
      refine ⟨1, .loc (s.n + 1 + 1 + 1), a2, a3, a11, a12, a13, by rw [hu', hmu], by omega, by omega, by simp [hm', p0, p1, p2, p3, nes, q0, m1'], by simp [hm', p0, nes], by simp [hm', p0, p1, p2, p3, nes, q2, mid], .inr ⟨s.n + 1 + 1 + 1, rfl, by omega, by omega, ?_⟩, fun j j1 => ?_, by simp⟩
      · rw [htk]; simp [hm', p0, nes]
      · simp [hm', far (show j < s.n by omega), show ¬ j = n1 by omega, hout j j1]
    · have g1' := far hi1
      have g2 : ¬ r = n1 := by omega
      have g3 : ¬ r = n + 1 := by omega
      have g4 : ¬ r = id := by omega
      simp -dsimp [List.range_succ, t3, mq, p0, p1, p2, nes]
      refine call_ hpl (by simp -dsimp) ?_
      simp -dsimp [List.range_succ, t3, t13, mq, p0, p1, p2, nes, hmu, wi, hmu1, q0, q1, q2, q3, q4, q5, g1', g2, Ne.symm g2, him', b1]
      refine st_out fun s' ht hm' hn' hu' => ?_
      have a2 := ht 2
      have a3 := ht 3
      have a11 := ht 11
      have a12 := ht 12
      have a13 := ht 13
      simp -dsimp [t2, t3, t11, t12] at a2 a3 a11 a12 a13 hm' hn' hu'
      clear ht
      refine ⟨i + 1, .loc (s.n + 1 + 1 + 1), a2, a3, a11, a12, a13, by rw [hu', hmu], by omega, by omega, by simp [hm', p0, p1, p2, p3, nes, q0, m1', Ne.symm g3], by simp [hm', p0, nes], by simp [hm', p0, p1, p2, p3, nes, q2, mid, Ne.symm g4], .inr ⟨s.n + 1 + 1 + 1, rfl, by omega, by omega, ?_⟩, fun j j1 => ?_, by simp⟩
      · rw [htk]; simp [hm', p0, nes, g1']
      · simp [hm', far (show j < s.n by omega), show ¬ j = n1 by omega, show ¬ j = r by omega, hout j j1]
  · rintro s ⟨i, st, t2, t3, t11, t12, t13, hmu, hi, hq, m1', mq, mid, hst, hout, hend⟩
    have := hend rfl
    subst this
    rw [List.take_length] at hst
    have q0 : ¬ n1 = n + 1 := by omega
    have q1 : ¬ id = n + 1 := by omega
    have hc := hst.cell
    simp -dsimp [t2, t3, m1', mq, q0, hc]
    refine ⟨by omega, fun j j1 => by simp [show ¬ j = n + 1 by omega, hout j j1], id, st, ?_⟩
    refine ⟨rfl, by omega, by omega, by simp [q1, mid], ?_, ?_⟩
    · rcases hst with ⟨rfl, hs0⟩ | ⟨r, rfl, hi0, hi1, him'⟩
      · exact .inl ⟨rfl, hs0⟩
      · exact .inr ⟨r, rfl, by omega, by omega, by simp [show ¬ r = n + 1 by omega, him']⟩
    · rcases hst with ⟨rfl, hs0⟩ | ⟨r, rfl, hi0, hi1, him'⟩
      · simp
      · simp; omega
end TL

/- Deeds at a desk: the program. -/
set_option linter.unusedSimpArgs false
set_option linter.unusedVariables false
set_option maxRecDepth 100000
set_option maxHeartbeats 4000000
set_option pp.maxSteps 1500
namespace TL
open Go Go.Proofs
attribute [local simp] marksV storyV codeV Claim.v Place.v Deed.v Desk.v
theorem nes8 (n : Nat) : (¬ n = n + 1 + 1 + 1 + 1 + 1 + 1 + 1 + 1) ∧ (¬ n + 1 + 1 + 1 + 1 + 1 + 1 + 1 + 1 = n) ∧ (¬ n = n + 1 + 1 + 1 + 1 + 1 + 1 + 1 + 1 + 1) ∧ (¬ n + 1 + 1 + 1 + 1 + 1 + 1 + 1 + 1 + 1 = n) ∧ (¬ n = n + 1 + 1 + 1 + 1 + 1 + 1 + 1 + 1 + 1 + 1) ∧ (¬ n + 1 + 1 + 1 + 1 + 1 + 1 + 1 + 1 + 1 + 1 = n) ∧ (¬ n = n + 1 + 1 + 1 + 1 + 1 + 1 + 1 + 1 + 1 + 1 + 1) ∧ (¬ n + 1 + 1 + 1 + 1 + 1 + 1 + 1 + 1 + 1 + 1 + 1 = n) ∧ (¬ n = n + 1 + 1 + 1 + 1 + 1 + 1 + 1 + 1 + 1 + 1 + 1 + 1) ∧ (¬ n + 1 + 1 + 1 + 1 + 1 + 1 + 1 + 1 + 1 + 1 + 1 + 1 = n) ∧ (¬ n = n + 1 + 1 + 1 + 1 + 1 + 1 + 1 + 1 + 1 + 1 + 1 + 1 + 1) ∧ (¬ n + 1 + 1 + 1 + 1 + 1 + 1 + 1 + 1 + 1 + 1 + 1 + 1 + 1 = n) ∧ (¬ n = n + 1 + 1 + 1 + 1 + 1 + 1 + 1 + 1 + 1 + 1 + 1 + 1 + 1 + 1) ∧ (¬ n + 1 + 1 + 1 + 1 + 1 + 1 + 1 + 1 + 1 + 1 + 1 + 1 + 1 + 1 = n) := by
  refine ⟨?_, ?_, ?_, ?_, ?_, ?_, ?_, ?_, ?_, ?_, ?_, ?_, ?_, ?_⟩ <;> omega
theorem clip_fn (l : List Place) (hl : l.length ≤ 1048576) : FnZ Tryz.prog 39 [.sl (l.map Place.v)] (.sl (l.map Place.v)) := by
  refine FnZ_of (rs := [.tmp 2]) false Tryz.func39 rfl rfl rfl rfl (Nat.le_of_ble_eq_true rfl) ?_
  simp -dsimp [evClipM, evClip]
/-- What is done if a deed makes a place. -/
theorem deskDo_made {d : Desk} {a : Deed} (hk : deskOk d = true) (hb : isBack a = false) : deskDo d a = if (placeOk (made d.now a) && !decide (placeTx (made d.now a) = placeTx d.now)) = true then (⟨made d.now a, keep8 (d.past ++ [d.now])⟩, true) else (d, false) := by
  unfold deskDo; rw [if_pos hk, if_neg (by simp [hb])]; rfl
theorem deskDo_zero {d : Desk} {a : Deed} (hk : deskOk d = true) (hb : isBack a = false) (hm : made d.now a = ⟨0, []⟩) : deskDo d a = (d, false) := by
  rw [deskDo_made hk hb, hm, zero_no]; rfl
theorem do_people (d : Desk) (num : Int) (hd : d.small) (hk : deskOk d = true) (X : Place) (hXl : X.story.length ≤ 7) (hX : X = ⟨num, d.now.story⟩) :
    FnZ Tryz.prog 11 [d.v, (⟨2, num, []⟩ : Deed).v] (.tup [(if (placeOk X && !decide (placeTx X = placeTx d.now)) = true then ((⟨X, keep8 (d.past ++ [d.now])⟩, true) : Desk × Bool) else (d, false)).1.v, .bool (if (placeOk X && !decide (placeTx X = placeTx d.now)) = true then ((⟨X, keep8 (d.past ++ [d.now])⟩, true) : Desk × Bool) else (d, false)).2]) := by
  have hpo := placeOk_fn X (by omega)
  have hpt := placeText_fn X (by omega)
  have hpn := placeText_fn d.now (by have := hd.1.1; omega)
  have hcn := copyPlace_fn d.now hd.1
  have hok := deskOk_fn d (by have := hd.2.1; omega) (by have := hd.1.1; omega) (fun p hp => by have := (hd.2.2 p hp).1; omega)
  rw [hk] at hok
  obtain ⟨hpast, hnow, hp8⟩ := deskOk_iff.1 hk
  have hcopy := fun m n => copyDesk_own d hd m n
  have fullb : (d.past.length + 1) * 32 ≤ 140737488355328 := by omega
  have zplaces : allZ 2 (List.map Place.v d.past ++ [d.now.v]) := fun x hx => by
    rcases List.mem_append.1 hx with hx | hx
    · obtain ⟨p, _, rfl⟩ := List.mem_map.1 hx; exact ⟨by simp, by simp⟩
    · rw [List.mem_singleton.1 hx]; exact ⟨by simp, by simp⟩
  have hR : placeOk X = true → ∀ l, keep8 (d.past ++ [d.now]) = l → ∀ m n, FnS Tryz.prog 35 m n [.v (⟨X, l⟩ : Desk).v] (OwnDeskL ⟨X, l⟩ m n) := fun hX l hl m n => copyDesk_own ⟨X, l⟩ (desk_fine (deskOk_iff.2 ⟨fun p hp => by
    rw [← hl] at hp
    rcases List.mem_append.1 (keep8_mem hp) with h1 | h1
    · exact hpast p h1
    · rw [List.mem_singleton.1 h1]; exact hnow, hX, by rw [← hl]; exact keep8_len _ (by simp; omega)⟩)).1 m n
  have hkX := ft (placeOk X)
  have htx : placeTx X = placeTx d.now ∨ ¬ placeTx X = placeTx d.now := Classical.em _
  generalize placeTx X = tX at *
  generalize placeTx d.now = tN at *
  generalize placeOk X = okX at *
  subst hX
  refine FnZ_of (rs := [.cell 4 37, .tmp 5]) false Tryz.func11 rfl rfl rfl rfl (Nat.le_of_ble_eq_true rfl) ?_
  simp -dsimp
  refine call_ hok (by simp -dsimp) ?_
  simp -dsimp
  refine callL_ (vs := [d.v]) (hcopy _ _) (by simp -dsimp) ?_
  rintro t m1 n1 ⟨hn1, hout, id, st, rfl, hi0, hi1, him, hst, hne⟩
  have k0 := hout 0 (by omega)
  have k1 := hout 1 (by omega)
  have k2 := hout 2 (by omega)
  simp -dsimp at k0 k1 k2
  have f0 := far (show 0 < n1 by omega)
  have f1 := far (show 1 < n1 by omega)
  have f2 := far (show 2 < n1 by omega)
  have z1 : ¬ n1 = 0 := by omega
  have z2 : ¬ n1 = 1 := by omega
  have z3 : ¬ n1 = 2 := by omega
  have g1 := far hi1
  have y0 : ¬ id = 0 := by omega
  have y1 : ¬ id = 1 := by omega
  have y2 : ¬ id = 2 := by omega
  have yn : ¬ id = n1 := by omega
  have hc := hst.cell
  rcases hst with ⟨rfl, hs0⟩ | ⟨r, rfl, hr0, hr1, hrm⟩
  · have hp0 : d.past = [] := by simpa using hs0
    simp -dsimp [nes8 n1, k0, k1, k2, f0, f1, f2, z1, z2, z3, nes, g1, y0, y1, y2, yn, Ne.symm y0, Ne.symm y1, Ne.symm y2, him, hc]
    refine twp_draw [0, 1, 2, 3, 4, 5, 6, 7, 8, 10, 11, 9, 12, 13, 14] [0, n1] (List.replicate 15 [0, 1]) (List.replicate 15 [0, 1]) (by kernel_rfl) (by kernel_rfl) (by kernel_rfl) (by kernel_rfl) ?_
    simp -dsimp [nes8 n1, k0, k1, k2, f0, f1, f2, z1, z2, z3, nes, g1, y0, y1, y2, yn, Ne.symm y0, Ne.symm y1, Ne.symm y2, him, hc, hp0]
    refine call_ hpo (by simp -dsimp [nes8 n1, k0, k1, k2, f0, f1, f2, z1, z2, z3, nes, g1, y0, y1, y2, yn, Ne.symm y0, Ne.symm y1, Ne.symm y2, him, hc, hp0]) ?_
    rcases hkX with rfl | rfl
    · simp -dsimp [nes8 n1, k0, k1, k2, f0, f1, f2, z1, z2, z3, nes, g1, y0, y1, y2, yn, Ne.symm y0, Ne.symm y1, Ne.symm y2, him, hc, hp0]
      refine callL_ (vs := [d.v]) (hcopy _ _) (by simp -dsimp [hc, hp0]) ?_
      rintro t m2 n2 ⟨hn2, hout2, id2, st2, rfl, hj0, hj1, hjm, hst2, hne2⟩
      have q2 := hout2 2 (by omega)
      simp -dsimp [nes8 n1, k0, k1, k2, f0, f1, f2, z1, z2, z3, nes, g1, y0, y1, y2, yn, Ne.symm y0, Ne.symm y1, Ne.symm y2, him] at q2
      have hc2 := hst2.cell
      have u2 : ¬ id2 = 2 := by omega
      rcases hst2 with ⟨rfl, hs2⟩ | ⟨r2, rfl, hr0, hr1, hrm2⟩
      · simp -dsimp [q2, hjm, u2, Ne.symm u2, hs2]
      · have u4 : ¬ r2 = 2 := by omega
        simp -dsimp [q2, hjm, hrm2, u2, u4, Ne.symm u2, Ne.symm u4]
    simp -dsimp [nes8 n1, k0, k1, k2, f0, f1, f2, z1, z2, z3, nes, g1, y0, y1, y2, yn, Ne.symm y0, Ne.symm y1, Ne.symm y2, him, hc, hp0]
    refine call_ hpt (by simp -dsimp [nes8 n1, k0, k1, k2, f0, f1, f2, z1, z2, z3, nes, g1, y0, y1, y2, yn, Ne.symm y0, Ne.symm y1, Ne.symm y2, him, hc, hp0]) ?_
    simp -dsimp [nes8 n1, k0, k1, k2, f0, f1, f2, z1, z2, z3, nes, g1, y0, y1, y2, yn, Ne.symm y0, Ne.symm y1, Ne.symm y2, him, hc, hp0]
    refine call_ hpn (by simp -dsimp) ?_
    rcases htx with rfl | htx
    · simp -dsimp [nes8 n1, k0, k1, k2, f0, f1, f2, z1, z2, z3, nes, g1, y0, y1, y2, yn, Ne.symm y0, Ne.symm y1, Ne.symm y2, him, hc, hp0]
      refine callL_ (vs := [d.v]) (hcopy _ _) (by simp -dsimp [hc, hp0]) ?_
      rintro t m2 n2 ⟨hn2, hout2, id2, st2, rfl, hj0, hj1, hjm, hst2, hne2⟩
      have q2 := hout2 2 (by omega)
      simp -dsimp [nes8 n1, k0, k1, k2, f0, f1, f2, z1, z2, z3, nes, g1, y0, y1, y2, yn, Ne.symm y0, Ne.symm y1, Ne.symm y2, him] at q2
      have hc2 := hst2.cell
      have u2 : ¬ id2 = 2 := by omega
      rcases hst2 with ⟨rfl, hs2⟩ | ⟨r2, rfl, hr0, hr1, hrm2⟩
      · simp -dsimp [q2, hjm, u2, Ne.symm u2, hs2]
      · have u4 : ¬ r2 = 2 := by omega
        simp -dsimp [q2, hjm, hrm2, u2, u4, Ne.symm u2, Ne.symm u4]
    have hRs := hR rfl
    simp -dsimp [nes8 n1, k0, k1, k2, f0, f1, f2, z1, z2, z3, nes, g1, y0, y1, y2, yn, Ne.symm y0, Ne.symm y1, Ne.symm y2, him, hc, hp0, htx]
    refine twp_draw (List.range 9) [0, n1] (List.replicate 9 [0, 1]) (List.replicate 8 [0, 1] ++ [[0]]) (by kernel_rfl) (by kernel_rfl) (by kernel_rfl) (by kernel_rfl) ?_
    simp -dsimp [List.range_succ, nes8 n1, k0, k1, k2, f0, f1, f2, z1, z2, z3, nes, g1, y0, y1, y2, yn, Ne.symm y0, Ne.symm y1, Ne.symm y2, him, hc, hp0, htx]
    refine call_ hcn (by simp -dsimp) ?_
    have hR2 := hRs [d.now] (by rw [hp0]; rfl)
    simp -dsimp [List.range_succ, nes8 n1, k0, k1, k2, f0, f1, f2, z1, z2, z3, nes, g1, y0, y1, y2, yn, Ne.symm y0, Ne.symm y1, Ne.symm y2, him, hc, hp0, htx]
    refine callL_ (vs := [(⟨⟨num, d.now.story⟩, [d.now]⟩ : Desk).v]) (hR2 _ _) (by simp -dsimp [nes8 n1, k0, k1, k2, f0, f1, f2, z1, z2, z3, nes, g1, y0, y1, y2, yn, Ne.symm y0, Ne.symm y1, Ne.symm y2, him, hc, hp0]) ?_
    rintro t m2 n2 ⟨hn2, hout2, id2, st2, rfl, hj0, hj1, hjm, hst2, hne2⟩
    have q2 := hout2 2 (by omega)
    simp -dsimp [nes8 n1, k0, k1, k2, f0, f1, f2, z1, z2, z3, nes, g1, y0, y1, y2, yn, Ne.symm y0, Ne.symm y1, Ne.symm y2, him] at q2
    have hc2 := hst2.cell
    have u2 : ¬ id2 = 2 := by omega
    rcases hst2 with ⟨rfl, hs2⟩ | ⟨r2, rfl, hr0, hr1, hrm2⟩
    · simp -dsimp [q2, hjm, u2, Ne.symm u2, hs2, htx, hp0, keep8]
    · have u4 : ¬ r2 = 2 := by omega
      simp -dsimp [q2, hjm, hrm2, u2, u4, Ne.symm u2, Ne.symm u4, htx, hp0, keep8]
  · have g2 := far hr1
    have x0 : ¬ r = 0 := by omega
    have x1 : ¬ r = 1 := by omega
    have x2 : ¬ r = 2 := by omega
    have xi : ¬ r = id := fun h => hne (by rw [h])
    simp -dsimp [nes8 n1, k0, k1, k2, f0, f1, f2, z1, z2, z3, nes, g1, y0, y1, y2, yn, Ne.symm y0, Ne.symm y1, Ne.symm y2, him, g2, x0, x1, x2, xi, Ne.symm x0, Ne.symm x1, Ne.symm x2, Ne.symm xi, hrm, hc]
    refine twp_draw [0, 1, 2, 3, 4, 5, 6, 7, 8, 10, 11, 9, 12, 13, 14] [0, n1] (List.replicate 15 [0, 1]) (List.replicate 15 [0, 1]) (by kernel_rfl) (by kernel_rfl) (by kernel_rfl) (by kernel_rfl) ?_
    simp -dsimp [nes8 n1, k0, k1, k2, f0, f1, f2, z1, z2, z3, nes, g1, y0, y1, y2, yn, Ne.symm y0, Ne.symm y1, Ne.symm y2, him, g2, x0, x1, x2, xi, Ne.symm x0, Ne.symm x1, Ne.symm x2, Ne.symm xi, hrm, hc]
    refine call_ hpo (by simp -dsimp [nes8 n1, k0, k1, k2, f0, f1, f2, z1, z2, z3, nes, g1, y0, y1, y2, yn, Ne.symm y0, Ne.symm y1, Ne.symm y2, him, g2, x0, x1, x2, xi, Ne.symm x0, Ne.symm x1, Ne.symm x2, Ne.symm xi, hrm, hc]) ?_
    rcases hkX with rfl | rfl
    · simp -dsimp [nes8 n1, k0, k1, k2, f0, f1, f2, z1, z2, z3, nes, g1, y0, y1, y2, yn, Ne.symm y0, Ne.symm y1, Ne.symm y2, him, g2, x0, x1, x2, xi, Ne.symm x0, Ne.symm x1, Ne.symm x2, Ne.symm xi, hrm, hc]
      refine callL_ (vs := [d.v]) (hcopy _ _) (by simp -dsimp [hc]) ?_
      rintro t m2 n2 ⟨hn2, hout2, id2, st2, rfl, hj0, hj1, hjm, hst2, hne2⟩
      have q2 := hout2 2 (by omega)
      simp -dsimp [nes8 n1, k0, k1, k2, f0, f1, f2, z1, z2, z3, nes, g1, y0, y1, y2, yn, Ne.symm y0, Ne.symm y1, Ne.symm y2, him, g2, x0, x1, x2, xi, Ne.symm x0, Ne.symm x1, Ne.symm x2, Ne.symm xi, hrm] at q2
      have hc2 := hst2.cell
      have u2 : ¬ id2 = 2 := by omega
      rcases hst2 with ⟨rfl, hs2⟩ | ⟨r2, rfl, hr0, hr1, hrm2⟩
      · simp -dsimp [q2, hjm, u2, Ne.symm u2, hs2]
      · have u4 : ¬ r2 = 2 := by omega
        simp -dsimp [q2, hjm, hrm2, u2, u4, Ne.symm u2, Ne.symm u4]
    simp -dsimp [nes8 n1, k0, k1, k2, f0, f1, f2, z1, z2, z3, nes, g1, y0, y1, y2, yn, Ne.symm y0, Ne.symm y1, Ne.symm y2, him, g2, x0, x1, x2, xi, Ne.symm x0, Ne.symm x1, Ne.symm x2, Ne.symm xi, hrm, hc]
    refine call_ hpt (by simp -dsimp [nes8 n1, k0, k1, k2, f0, f1, f2, z1, z2, z3, nes, g1, y0, y1, y2, yn, Ne.symm y0, Ne.symm y1, Ne.symm y2, him, g2, x0, x1, x2, xi, Ne.symm x0, Ne.symm x1, Ne.symm x2, Ne.symm xi, hrm, hc]) ?_
    simp -dsimp [nes8 n1, k0, k1, k2, f0, f1, f2, z1, z2, z3, nes, g1, y0, y1, y2, yn, Ne.symm y0, Ne.symm y1, Ne.symm y2, him, g2, x0, x1, x2, xi, Ne.symm x0, Ne.symm x1, Ne.symm x2, Ne.symm xi, hrm, hc]
    refine call_ hpn (by simp -dsimp) ?_
    rcases htx with rfl | htx
    · simp -dsimp [nes8 n1, k0, k1, k2, f0, f1, f2, z1, z2, z3, nes, g1, y0, y1, y2, yn, Ne.symm y0, Ne.symm y1, Ne.symm y2, him, g2, x0, x1, x2, xi, Ne.symm x0, Ne.symm x1, Ne.symm x2, Ne.symm xi, hrm, hc]
      refine callL_ (vs := [d.v]) (hcopy _ _) (by simp -dsimp [hc]) ?_
      rintro t m2 n2 ⟨hn2, hout2, id2, st2, rfl, hj0, hj1, hjm, hst2, hne2⟩
      have q2 := hout2 2 (by omega)
      simp -dsimp [nes8 n1, k0, k1, k2, f0, f1, f2, z1, z2, z3, nes, g1, y0, y1, y2, yn, Ne.symm y0, Ne.symm y1, Ne.symm y2, him, g2, x0, x1, x2, xi, Ne.symm x0, Ne.symm x1, Ne.symm x2, Ne.symm xi, hrm] at q2
      have hc2 := hst2.cell
      have u2 : ¬ id2 = 2 := by omega
      rcases hst2 with ⟨rfl, hs2⟩ | ⟨r2, rfl, hr0, hr1, hrm2⟩
      · simp -dsimp [q2, hjm, u2, Ne.symm u2, hs2]
      · have u4 : ¬ r2 = 2 := by omega
        simp -dsimp [q2, hjm, hrm2, u2, u4, Ne.symm u2, Ne.symm u4]
    have hRs := hR rfl
    simp -dsimp [nes8 n1, k0, k1, k2, f0, f1, f2, z1, z2, z3, nes, g1, y0, y1, y2, yn, Ne.symm y0, Ne.symm y1, Ne.symm y2, him, g2, x0, x1, x2, xi, Ne.symm x0, Ne.symm x1, Ne.symm x2, Ne.symm xi, hrm, hc, htx]
    refine twp_draw (List.range 9) [0, n1] (List.replicate 9 [0, 1]) (List.replicate 8 [0, 1] ++ [[0]]) (by kernel_rfl) (by kernel_rfl) (by kernel_rfl) (by kernel_rfl) ?_
    simp -dsimp [List.range_succ, nes8 n1, k0, k1, k2, f0, f1, f2, z1, z2, z3, nes, g1, y0, y1, y2, yn, Ne.symm y0, Ne.symm y1, Ne.symm y2, him, g2, x0, x1, x2, xi, Ne.symm x0, Ne.symm x1, Ne.symm x2, Ne.symm xi, hrm, hc, htx]
    refine call_ hcn (by simp -dsimp) ?_
    by_cases h8 : d.past.length = 8
    · have e8 : (d.past.length : Int) = 8 := by omega
      have ek : keep8 (d.past ++ [d.now]) = (d.past ++ [d.now]).tail := by unfold keep8; rw [if_pos (by simp [h8])]; simp
      have hR2 := hRs (d.past ++ [d.now]).tail ek
      have tk : List.take 9 (List.map Place.v d.past ++ [d.now.v]) = List.map Place.v d.past ++ [d.now.v] := List.take_of_length_le (by simp [h8])
      have zk : allZ 2 (List.map Place.v d.past ++ [d.now.v]).tail := fun x hx => zplaces x (List.mem_of_mem_tail hx)
      simp only [Place.v, storyV] at tk zk
      simp -dsimp [List.range_succ, nes8 n1, k0, k1, k2, f0, f1, f2, z1, z2, z3, nes, g1, y0, y1, y2, yn, Ne.symm y0, Ne.symm y1, Ne.symm y2, him, g2, x0, x1, x2, xi, Ne.symm x0, Ne.symm x1, Ne.symm x2, Ne.symm xi, hrm, hc, htx, fullb, h8, e8, tk, zk]
      refine callL_ (vs := [(⟨⟨num, d.now.story⟩, (d.past ++ [d.now]).tail⟩ : Desk).v]) (hR2 _ _) (by simp -dsimp [nes8 n1, k0, k1, k2, f0, f1, f2, z1, z2, z3, nes, g1, y0, y1, y2, yn, Ne.symm y0, Ne.symm y1, Ne.symm y2, him, g2, x0, x1, x2, xi, Ne.symm x0, Ne.symm x1, Ne.symm x2, Ne.symm xi, hrm, hc, List.map_tail, List.map_append]) ?_
      rintro t m2 n2 ⟨hn2, hout2, id2, st2, rfl, hj0, hj1, hjm, hst2, hne2⟩
      have q2 := hout2 2 (by omega)
      simp -dsimp [nes8 n1, k0, k1, k2, f0, f1, f2, z1, z2, z3, nes, g1, y0, y1, y2, yn, Ne.symm y0, Ne.symm y1, Ne.symm y2, him, g2, x0, x1, x2, xi, Ne.symm x0, Ne.symm x1, Ne.symm x2, Ne.symm xi, hrm] at q2
      have hc2 := hst2.cell
      have u2 : ¬ id2 = 2 := by omega
      rcases hst2 with ⟨rfl, hs2⟩ | ⟨r2, rfl, hr0, hr1, hrm2⟩
      · simp -dsimp [q2, hjm, u2, Ne.symm u2, hs2, htx, ek]
      · have u4 : ¬ r2 = 2 := by omega
        simp -dsimp [q2, hjm, hrm2, u2, u4, Ne.symm u2, Ne.symm u4, htx, ek]
    · have e8 : d.past.length < 8 := by omega
      have e8' : ¬ (8 : Int) < (d.past.length : Int) + 1 := by omega
      have e8'' : ¬ 8 < d.past.length + 1 := by omega
      have ek : keep8 (d.past ++ [d.now]) = d.past ++ [d.now] := by unfold keep8; rw [if_neg (by simp; omega)]
      have hR2 := hRs (d.past ++ [d.now]) ek
      simp -dsimp [List.range_succ, nes8 n1, k0, k1, k2, f0, f1, f2, z1, z2, z3, nes, g1, y0, y1, y2, yn, Ne.symm y0, Ne.symm y1, Ne.symm y2, him, g2, x0, x1, x2, xi, Ne.symm x0, Ne.symm x1, Ne.symm x2, Ne.symm xi, hrm, hc, htx, fullb, h8, e8, e8', e8'']
      refine callL_ (vs := [(⟨⟨num, d.now.story⟩, d.past ++ [d.now]⟩ : Desk).v]) (hR2 _ _) (by simp -dsimp [nes8 n1, k0, k1, k2, f0, f1, f2, z1, z2, z3, nes, g1, y0, y1, y2, yn, Ne.symm y0, Ne.symm y1, Ne.symm y2, him, g2, x0, x1, x2, xi, Ne.symm x0, Ne.symm x1, Ne.symm x2, Ne.symm xi, hrm, hc]) ?_
      rintro t m2 n2 ⟨hn2, hout2, id2, st2, rfl, hj0, hj1, hjm, hst2, hne2⟩
      have q2 := hout2 2 (by omega)
      simp -dsimp [nes8 n1, k0, k1, k2, f0, f1, f2, z1, z2, z3, nes, g1, y0, y1, y2, yn, Ne.symm y0, Ne.symm y1, Ne.symm y2, him, g2, x0, x1, x2, xi, Ne.symm x0, Ne.symm x1, Ne.symm x2, Ne.symm xi, hrm] at q2
      have hc2 := hst2.cell
      have u2 : ¬ id2 = 2 := by omega
      rcases hst2 with ⟨rfl, hs2⟩ | ⟨r2, rfl, hr0, hr1, hrm2⟩
      · simp -dsimp [q2, hjm, u2, Ne.symm u2, hs2, htx, ek]
      · have u4 : ¬ r2 = 2 := by omega
        simp -dsimp [q2, hjm, hrm2, u2, u4, Ne.symm u2, Ne.symm u4, htx, ek]
end TL

/- Deeds at a desk: the program. -/
set_option linter.unusedSimpArgs false
set_option linter.unusedVariables false
set_option maxRecDepth 100000
set_option maxHeartbeats 4000000
set_option pp.maxSteps 1500
namespace TL
open Go Go.Proofs
attribute [local simp] marksV storyV codeV Claim.v Place.v Deed.v Desk.v
theorem do_least (d : Desk)  (hd : d.small) (hk : deskOk d = true) (X : Place) (hXl : X.story.length ≤ 7) (hX : X = ⟨d.now.people, least d.now.people.toNat d.now.story⟩) :
    FnZ Tryz.prog 11 [d.v, (⟨3, 0, []⟩ : Deed).v] (.tup [(if (placeOk X && !decide (placeTx X = placeTx d.now)) = true then ((⟨X, keep8 (d.past ++ [d.now])⟩, true) : Desk × Bool) else (d, false)).1.v, .bool (if (placeOk X && !decide (placeTx X = placeTx d.now)) = true then ((⟨X, keep8 (d.past ++ [d.now])⟩, true) : Desk × Bool) else (d, false)).2]) := by
  have hpo := placeOk_fn X (by omega)
  have hpt := placeText_fn X (by omega)
  have hpn := placeText_fn d.now (by have := hd.1.1; omega)
  have hcn := copyPlace_fn d.now hd.1
  have hok := deskOk_fn d (by have := hd.2.1; omega) (by have := hd.1.1; omega) (fun p hp => by have := (hd.2.2 p hp).1; omega)
  rw [hk] at hok
  obtain ⟨hpast, hnow, hp8⟩ := deskOk_iff.1 hk
  have hcopy := fun m n => copyDesk_own d hd m n
  have fullb : (d.past.length + 1) * 32 ≤ 140737488355328 := by omega
  have zplaces : allZ 2 (List.map Place.v d.past ++ [d.now.v]) := fun x hx => by
    rcases List.mem_append.1 hx with hx | hx
    · obtain ⟨p, _, rfl⟩ := List.mem_map.1 hx; exact ⟨by simp, by simp⟩
    · rw [List.mem_singleton.1 hx]; exact ⟨by simp, by simp⟩
  have hR : placeOk X = true → ∀ l, keep8 (d.past ++ [d.now]) = l → ∀ m n, FnS Tryz.prog 35 m n [.v (⟨X, l⟩ : Desk).v] (OwnDeskL ⟨X, l⟩ m n) := fun hX l hl m n => copyDesk_own ⟨X, l⟩ (desk_fine (deskOk_iff.2 ⟨fun p hp => by
    rw [← hl] at hp
    rcases List.mem_append.1 (keep8_mem hp) with h1 | h1
    · exact hpast p h1
    · rw [List.mem_singleton.1 h1]; exact hnow, hX, by rw [← hl]; exact keep8_len _ (by simp; omega)⟩)).1 m n
  have hls := leastStory_fn d.now.people d.now.story hnow
  have hkX := ft (placeOk X)
  have htx : placeTx X = placeTx d.now ∨ ¬ placeTx X = placeTx d.now := Classical.em _
  generalize placeTx X = tX at *
  generalize placeTx d.now = tN at *
  generalize placeOk X = okX at *
  subst hX
  generalize least d.now.people.toNat d.now.story = R at *
  refine FnZ_of (rs := [.cell 4 37, .tmp 5]) false Tryz.func11 rfl rfl rfl rfl (Nat.le_of_ble_eq_true rfl) ?_
  simp -dsimp
  refine call_ hok (by simp -dsimp) ?_
  simp -dsimp
  refine callL_ (vs := [d.v]) (hcopy _ _) (by simp -dsimp) ?_
  rintro t m1 n1 ⟨hn1, hout, id, st, rfl, hi0, hi1, him, hst, hne⟩
  have k0 := hout 0 (by omega)
  have k1 := hout 1 (by omega)
  have k2 := hout 2 (by omega)
  simp -dsimp at k0 k1 k2
  have f0 := far (show 0 < n1 by omega)
  have f1 := far (show 1 < n1 by omega)
  have f2 := far (show 2 < n1 by omega)
  have z1 : ¬ n1 = 0 := by omega
  have z2 : ¬ n1 = 1 := by omega
  have z3 : ¬ n1 = 2 := by omega
  have g1 := far hi1
  have y0 : ¬ id = 0 := by omega
  have y1 : ¬ id = 1 := by omega
  have y2 : ¬ id = 2 := by omega
  have yn : ¬ id = n1 := by omega
  have hc := hst.cell
  rcases hst with ⟨rfl, hs0⟩ | ⟨r, rfl, hr0, hr1, hrm⟩
  · have hp0 : d.past = [] := by simpa using hs0
    simp -dsimp [nes8 n1, k0, k1, k2, f0, f1, f2, z1, z2, z3, nes, g1, y0, y1, y2, yn, Ne.symm y0, Ne.symm y1, Ne.symm y2, him, hc]
    refine twp_draw (List.range 16) [n1] (List.replicate 12 [0] ++ [[], [], [], []]) (List.replicate 15 [0] ++ [[]]) (by kernel_rfl) (by kernel_rfl) (by kernel_rfl) (by kernel_rfl) ?_
    simp -dsimp [List.range_succ, nes8 n1, k0, k1, k2, f0, f1, f2, z1, z2, z3, nes, g1, y0, y1, y2, yn, Ne.symm y0, Ne.symm y1, Ne.symm y2, him, hc]
    refine call_ hls (by simp -dsimp [nes8 n1, k0, k1, k2, f0, f1, f2, z1, z2, z3, nes, g1, y0, y1, y2, yn, Ne.symm y0, Ne.symm y1, Ne.symm y2, him, hc]) ?_
    simp -dsimp [List.range_succ, nes8 n1, k0, k1, k2, f0, f1, f2, z1, z2, z3, nes, g1, y0, y1, y2, yn, Ne.symm y0, Ne.symm y1, Ne.symm y2, him, hc]
    refine twp_draw [0, 1, 2, 3, 4, 5, 6, 7, 8, 10, 11, 9, 12, 13, 14] [0, n1] (List.replicate 15 [0, 1]) (List.replicate 15 [0, 1]) (by kernel_rfl) (by kernel_rfl) (by kernel_rfl) (by kernel_rfl) ?_
    simp -dsimp [nes8 n1, k0, k1, k2, f0, f1, f2, z1, z2, z3, nes, g1, y0, y1, y2, yn, Ne.symm y0, Ne.symm y1, Ne.symm y2, him, hc, hp0]
    refine call_ hpo (by simp -dsimp [nes8 n1, k0, k1, k2, f0, f1, f2, z1, z2, z3, nes, g1, y0, y1, y2, yn, Ne.symm y0, Ne.symm y1, Ne.symm y2, him, hc, hp0]) ?_
    rcases hkX with rfl | rfl
    · simp -dsimp [nes8 n1, k0, k1, k2, f0, f1, f2, z1, z2, z3, nes, g1, y0, y1, y2, yn, Ne.symm y0, Ne.symm y1, Ne.symm y2, him, hc, hp0]
      refine callL_ (vs := [d.v]) (hcopy _ _) (by simp -dsimp [hc, hp0]) ?_
      rintro t m2 n2 ⟨hn2, hout2, id2, st2, rfl, hj0, hj1, hjm, hst2, hne2⟩
      have q2 := hout2 2 (by omega)
      simp -dsimp [nes8 n1, k0, k1, k2, f0, f1, f2, z1, z2, z3, nes, g1, y0, y1, y2, yn, Ne.symm y0, Ne.symm y1, Ne.symm y2, him] at q2
      have hc2 := hst2.cell
      have u2 : ¬ id2 = 2 := by omega
      rcases hst2 with ⟨rfl, hs2⟩ | ⟨r2, rfl, hr0, hr1, hrm2⟩
      · simp -dsimp [q2, hjm, u2, Ne.symm u2, hs2]
      · have u4 : ¬ r2 = 2 := by omega
        simp -dsimp [q2, hjm, hrm2, u2, u4, Ne.symm u2, Ne.symm u4]
    simp -dsimp [nes8 n1, k0, k1, k2, f0, f1, f2, z1, z2, z3, nes, g1, y0, y1, y2, yn, Ne.symm y0, Ne.symm y1, Ne.symm y2, him, hc, hp0]
    refine call_ hpt (by simp -dsimp [nes8 n1, k0, k1, k2, f0, f1, f2, z1, z2, z3, nes, g1, y0, y1, y2, yn, Ne.symm y0, Ne.symm y1, Ne.symm y2, him, hc, hp0]) ?_
    simp -dsimp [nes8 n1, k0, k1, k2, f0, f1, f2, z1, z2, z3, nes, g1, y0, y1, y2, yn, Ne.symm y0, Ne.symm y1, Ne.symm y2, him, hc, hp0]
    refine call_ hpn (by simp -dsimp) ?_
    rcases htx with rfl | htx
    · simp -dsimp [nes8 n1, k0, k1, k2, f0, f1, f2, z1, z2, z3, nes, g1, y0, y1, y2, yn, Ne.symm y0, Ne.symm y1, Ne.symm y2, him, hc, hp0]
      refine callL_ (vs := [d.v]) (hcopy _ _) (by simp -dsimp [hc, hp0]) ?_
      rintro t m2 n2 ⟨hn2, hout2, id2, st2, rfl, hj0, hj1, hjm, hst2, hne2⟩
      have q2 := hout2 2 (by omega)
      simp -dsimp [nes8 n1, k0, k1, k2, f0, f1, f2, z1, z2, z3, nes, g1, y0, y1, y2, yn, Ne.symm y0, Ne.symm y1, Ne.symm y2, him] at q2
      have hc2 := hst2.cell
      have u2 : ¬ id2 = 2 := by omega
      rcases hst2 with ⟨rfl, hs2⟩ | ⟨r2, rfl, hr0, hr1, hrm2⟩
      · simp -dsimp [q2, hjm, u2, Ne.symm u2, hs2]
      · have u4 : ¬ r2 = 2 := by omega
        simp -dsimp [q2, hjm, hrm2, u2, u4, Ne.symm u2, Ne.symm u4]
    have hRs := hR rfl
    simp -dsimp [nes8 n1, k0, k1, k2, f0, f1, f2, z1, z2, z3, nes, g1, y0, y1, y2, yn, Ne.symm y0, Ne.symm y1, Ne.symm y2, him, hc, hp0, htx]
    refine twp_draw (List.range 9) [0, n1] (List.replicate 9 [0, 1]) (List.replicate 8 [0, 1] ++ [[0]]) (by kernel_rfl) (by kernel_rfl) (by kernel_rfl) (by kernel_rfl) ?_
    simp -dsimp [List.range_succ, nes8 n1, k0, k1, k2, f0, f1, f2, z1, z2, z3, nes, g1, y0, y1, y2, yn, Ne.symm y0, Ne.symm y1, Ne.symm y2, him, hc, hp0, htx]
    refine call_ hcn (by simp -dsimp) ?_
    have hR2 := hRs [d.now] (by rw [hp0]; rfl)
    simp -dsimp [List.range_succ, nes8 n1, k0, k1, k2, f0, f1, f2, z1, z2, z3, nes, g1, y0, y1, y2, yn, Ne.symm y0, Ne.symm y1, Ne.symm y2, him, hc, hp0, htx]
    refine callL_ (vs := [(⟨⟨d.now.people, R⟩, [d.now]⟩ : Desk).v]) (hR2 _ _) (by simp -dsimp [nes8 n1, k0, k1, k2, f0, f1, f2, z1, z2, z3, nes, g1, y0, y1, y2, yn, Ne.symm y0, Ne.symm y1, Ne.symm y2, him, hc, hp0]) ?_
    rintro t m2 n2 ⟨hn2, hout2, id2, st2, rfl, hj0, hj1, hjm, hst2, hne2⟩
    have q2 := hout2 2 (by omega)
    simp -dsimp [nes8 n1, k0, k1, k2, f0, f1, f2, z1, z2, z3, nes, g1, y0, y1, y2, yn, Ne.symm y0, Ne.symm y1, Ne.symm y2, him] at q2
    have hc2 := hst2.cell
    have u2 : ¬ id2 = 2 := by omega
    rcases hst2 with ⟨rfl, hs2⟩ | ⟨r2, rfl, hr0, hr1, hrm2⟩
    · simp -dsimp [q2, hjm, u2, Ne.symm u2, hs2, htx, hp0, keep8]
    · have u4 : ¬ r2 = 2 := by omega
      simp -dsimp [q2, hjm, hrm2, u2, u4, Ne.symm u2, Ne.symm u4, htx, hp0, keep8]
  · have g2 := far hr1
    have x0 : ¬ r = 0 := by omega
    have x1 : ¬ r = 1 := by omega
    have x2 : ¬ r = 2 := by omega
    have xi : ¬ r = id := fun h => hne (by rw [h])
    simp -dsimp [nes8 n1, k0, k1, k2, f0, f1, f2, z1, z2, z3, nes, g1, y0, y1, y2, yn, Ne.symm y0, Ne.symm y1, Ne.symm y2, him, g2, x0, x1, x2, xi, Ne.symm x0, Ne.symm x1, Ne.symm x2, Ne.symm xi, hrm, hc]
    refine twp_draw (List.range 16) [n1] (List.replicate 12 [0] ++ [[], [], [], []]) (List.replicate 15 [0] ++ [[]]) (by kernel_rfl) (by kernel_rfl) (by kernel_rfl) (by kernel_rfl) ?_
    simp -dsimp [List.range_succ, nes8 n1, k0, k1, k2, f0, f1, f2, z1, z2, z3, nes, g1, y0, y1, y2, yn, Ne.symm y0, Ne.symm y1, Ne.symm y2, him, g2, x0, x1, x2, xi, Ne.symm x0, Ne.symm x1, Ne.symm x2, Ne.symm xi, hrm, hc]
    refine call_ hls (by simp -dsimp [nes8 n1, k0, k1, k2, f0, f1, f2, z1, z2, z3, nes, g1, y0, y1, y2, yn, Ne.symm y0, Ne.symm y1, Ne.symm y2, him, g2, x0, x1, x2, xi, Ne.symm x0, Ne.symm x1, Ne.symm x2, Ne.symm xi, hrm, hc]) ?_
    simp -dsimp [List.range_succ, nes8 n1, k0, k1, k2, f0, f1, f2, z1, z2, z3, nes, g1, y0, y1, y2, yn, Ne.symm y0, Ne.symm y1, Ne.symm y2, him, g2, x0, x1, x2, xi, Ne.symm x0, Ne.symm x1, Ne.symm x2, Ne.symm xi, hrm, hc]
    refine twp_draw [0, 1, 2, 3, 4, 5, 6, 7, 8, 10, 11, 9, 12, 13, 14] [0, n1] (List.replicate 15 [0, 1]) (List.replicate 15 [0, 1]) (by kernel_rfl) (by kernel_rfl) (by kernel_rfl) (by kernel_rfl) ?_
    simp -dsimp [nes8 n1, k0, k1, k2, f0, f1, f2, z1, z2, z3, nes, g1, y0, y1, y2, yn, Ne.symm y0, Ne.symm y1, Ne.symm y2, him, g2, x0, x1, x2, xi, Ne.symm x0, Ne.symm x1, Ne.symm x2, Ne.symm xi, hrm, hc]
    refine call_ hpo (by simp -dsimp [nes8 n1, k0, k1, k2, f0, f1, f2, z1, z2, z3, nes, g1, y0, y1, y2, yn, Ne.symm y0, Ne.symm y1, Ne.symm y2, him, g2, x0, x1, x2, xi, Ne.symm x0, Ne.symm x1, Ne.symm x2, Ne.symm xi, hrm, hc]) ?_
    rcases hkX with rfl | rfl
    · simp -dsimp [nes8 n1, k0, k1, k2, f0, f1, f2, z1, z2, z3, nes, g1, y0, y1, y2, yn, Ne.symm y0, Ne.symm y1, Ne.symm y2, him, g2, x0, x1, x2, xi, Ne.symm x0, Ne.symm x1, Ne.symm x2, Ne.symm xi, hrm, hc]
      refine callL_ (vs := [d.v]) (hcopy _ _) (by simp -dsimp [hc]) ?_
      rintro t m2 n2 ⟨hn2, hout2, id2, st2, rfl, hj0, hj1, hjm, hst2, hne2⟩
      have q2 := hout2 2 (by omega)
      simp -dsimp [nes8 n1, k0, k1, k2, f0, f1, f2, z1, z2, z3, nes, g1, y0, y1, y2, yn, Ne.symm y0, Ne.symm y1, Ne.symm y2, him, g2, x0, x1, x2, xi, Ne.symm x0, Ne.symm x1, Ne.symm x2, Ne.symm xi, hrm] at q2
      have hc2 := hst2.cell
      have u2 : ¬ id2 = 2 := by omega
      rcases hst2 with ⟨rfl, hs2⟩ | ⟨r2, rfl, hr0, hr1, hrm2⟩
      · simp -dsimp [q2, hjm, u2, Ne.symm u2, hs2]
      · have u4 : ¬ r2 = 2 := by omega
        simp -dsimp [q2, hjm, hrm2, u2, u4, Ne.symm u2, Ne.symm u4]
    simp -dsimp [nes8 n1, k0, k1, k2, f0, f1, f2, z1, z2, z3, nes, g1, y0, y1, y2, yn, Ne.symm y0, Ne.symm y1, Ne.symm y2, him, g2, x0, x1, x2, xi, Ne.symm x0, Ne.symm x1, Ne.symm x2, Ne.symm xi, hrm, hc]
    refine call_ hpt (by simp -dsimp [nes8 n1, k0, k1, k2, f0, f1, f2, z1, z2, z3, nes, g1, y0, y1, y2, yn, Ne.symm y0, Ne.symm y1, Ne.symm y2, him, g2, x0, x1, x2, xi, Ne.symm x0, Ne.symm x1, Ne.symm x2, Ne.symm xi, hrm, hc]) ?_
    simp -dsimp [nes8 n1, k0, k1, k2, f0, f1, f2, z1, z2, z3, nes, g1, y0, y1, y2, yn, Ne.symm y0, Ne.symm y1, Ne.symm y2, him, g2, x0, x1, x2, xi, Ne.symm x0, Ne.symm x1, Ne.symm x2, Ne.symm xi, hrm, hc]
    refine call_ hpn (by simp -dsimp) ?_
    rcases htx with rfl | htx
    · simp -dsimp [nes8 n1, k0, k1, k2, f0, f1, f2, z1, z2, z3, nes, g1, y0, y1, y2, yn, Ne.symm y0, Ne.symm y1, Ne.symm y2, him, g2, x0, x1, x2, xi, Ne.symm x0, Ne.symm x1, Ne.symm x2, Ne.symm xi, hrm, hc]
      refine callL_ (vs := [d.v]) (hcopy _ _) (by simp -dsimp [hc]) ?_
      rintro t m2 n2 ⟨hn2, hout2, id2, st2, rfl, hj0, hj1, hjm, hst2, hne2⟩
      have q2 := hout2 2 (by omega)
      simp -dsimp [nes8 n1, k0, k1, k2, f0, f1, f2, z1, z2, z3, nes, g1, y0, y1, y2, yn, Ne.symm y0, Ne.symm y1, Ne.symm y2, him, g2, x0, x1, x2, xi, Ne.symm x0, Ne.symm x1, Ne.symm x2, Ne.symm xi, hrm] at q2
      have hc2 := hst2.cell
      have u2 : ¬ id2 = 2 := by omega
      rcases hst2 with ⟨rfl, hs2⟩ | ⟨r2, rfl, hr0, hr1, hrm2⟩
      · simp -dsimp [q2, hjm, u2, Ne.symm u2, hs2]
      · have u4 : ¬ r2 = 2 := by omega
        simp -dsimp [q2, hjm, hrm2, u2, u4, Ne.symm u2, Ne.symm u4]
    have hRs := hR rfl
    simp -dsimp [nes8 n1, k0, k1, k2, f0, f1, f2, z1, z2, z3, nes, g1, y0, y1, y2, yn, Ne.symm y0, Ne.symm y1, Ne.symm y2, him, g2, x0, x1, x2, xi, Ne.symm x0, Ne.symm x1, Ne.symm x2, Ne.symm xi, hrm, hc, htx]
    refine twp_draw (List.range 9) [0, n1] (List.replicate 9 [0, 1]) (List.replicate 8 [0, 1] ++ [[0]]) (by kernel_rfl) (by kernel_rfl) (by kernel_rfl) (by kernel_rfl) ?_
    simp -dsimp [List.range_succ, nes8 n1, k0, k1, k2, f0, f1, f2, z1, z2, z3, nes, g1, y0, y1, y2, yn, Ne.symm y0, Ne.symm y1, Ne.symm y2, him, g2, x0, x1, x2, xi, Ne.symm x0, Ne.symm x1, Ne.symm x2, Ne.symm xi, hrm, hc, htx]
    refine call_ hcn (by simp -dsimp) ?_
    by_cases h8 : d.past.length = 8
    · have e8 : (d.past.length : Int) = 8 := by omega
      have ek : keep8 (d.past ++ [d.now]) = (d.past ++ [d.now]).tail := by unfold keep8; rw [if_pos (by simp [h8])]; simp
      have hR2 := hRs (d.past ++ [d.now]).tail ek
      have tk : List.take 9 (List.map Place.v d.past ++ [d.now.v]) = List.map Place.v d.past ++ [d.now.v] := List.take_of_length_le (by simp [h8])
      have zk : allZ 2 (List.map Place.v d.past ++ [d.now.v]).tail := fun x hx => zplaces x (List.mem_of_mem_tail hx)
      simp only [Place.v, storyV] at tk zk
      simp -dsimp [List.range_succ, nes8 n1, k0, k1, k2, f0, f1, f2, z1, z2, z3, nes, g1, y0, y1, y2, yn, Ne.symm y0, Ne.symm y1, Ne.symm y2, him, g2, x0, x1, x2, xi, Ne.symm x0, Ne.symm x1, Ne.symm x2, Ne.symm xi, hrm, hc, htx, fullb, h8, e8, tk, zk]
      refine callL_ (vs := [(⟨⟨d.now.people, R⟩, (d.past ++ [d.now]).tail⟩ : Desk).v]) (hR2 _ _) (by simp -dsimp [nes8 n1, k0, k1, k2, f0, f1, f2, z1, z2, z3, nes, g1, y0, y1, y2, yn, Ne.symm y0, Ne.symm y1, Ne.symm y2, him, g2, x0, x1, x2, xi, Ne.symm x0, Ne.symm x1, Ne.symm x2, Ne.symm xi, hrm, hc, List.map_tail, List.map_append]) ?_
      rintro t m2 n2 ⟨hn2, hout2, id2, st2, rfl, hj0, hj1, hjm, hst2, hne2⟩
      have q2 := hout2 2 (by omega)
      simp -dsimp [nes8 n1, k0, k1, k2, f0, f1, f2, z1, z2, z3, nes, g1, y0, y1, y2, yn, Ne.symm y0, Ne.symm y1, Ne.symm y2, him, g2, x0, x1, x2, xi, Ne.symm x0, Ne.symm x1, Ne.symm x2, Ne.symm xi, hrm] at q2
      have hc2 := hst2.cell
      have u2 : ¬ id2 = 2 := by omega
      rcases hst2 with ⟨rfl, hs2⟩ | ⟨r2, rfl, hr0, hr1, hrm2⟩
      · simp -dsimp [q2, hjm, u2, Ne.symm u2, hs2, htx, ek]
      · have u4 : ¬ r2 = 2 := by omega
        simp -dsimp [q2, hjm, hrm2, u2, u4, Ne.symm u2, Ne.symm u4, htx, ek]
    · have e8 : d.past.length < 8 := by omega
      have e8' : ¬ (8 : Int) < (d.past.length : Int) + 1 := by omega
      have e8'' : ¬ 8 < d.past.length + 1 := by omega
      have ek : keep8 (d.past ++ [d.now]) = d.past ++ [d.now] := by unfold keep8; rw [if_neg (by simp; omega)]
      have hR2 := hRs (d.past ++ [d.now]) ek
      simp -dsimp [List.range_succ, nes8 n1, k0, k1, k2, f0, f1, f2, z1, z2, z3, nes, g1, y0, y1, y2, yn, Ne.symm y0, Ne.symm y1, Ne.symm y2, him, g2, x0, x1, x2, xi, Ne.symm x0, Ne.symm x1, Ne.symm x2, Ne.symm xi, hrm, hc, htx, fullb, h8, e8, e8', e8'']
      refine callL_ (vs := [(⟨⟨d.now.people, R⟩, d.past ++ [d.now]⟩ : Desk).v]) (hR2 _ _) (by simp -dsimp [nes8 n1, k0, k1, k2, f0, f1, f2, z1, z2, z3, nes, g1, y0, y1, y2, yn, Ne.symm y0, Ne.symm y1, Ne.symm y2, him, g2, x0, x1, x2, xi, Ne.symm x0, Ne.symm x1, Ne.symm x2, Ne.symm xi, hrm, hc]) ?_
      rintro t m2 n2 ⟨hn2, hout2, id2, st2, rfl, hj0, hj1, hjm, hst2, hne2⟩
      have q2 := hout2 2 (by omega)
      simp -dsimp [nes8 n1, k0, k1, k2, f0, f1, f2, z1, z2, z3, nes, g1, y0, y1, y2, yn, Ne.symm y0, Ne.symm y1, Ne.symm y2, him, g2, x0, x1, x2, xi, Ne.symm x0, Ne.symm x1, Ne.symm x2, Ne.symm xi, hrm] at q2
      have hc2 := hst2.cell
      have u2 : ¬ id2 = 2 := by omega
      rcases hst2 with ⟨rfl, hs2⟩ | ⟨r2, rfl, hr0, hr1, hrm2⟩
      · simp -dsimp [q2, hjm, u2, Ne.symm u2, hs2, htx, ek]
      · have u4 : ¬ r2 = 2 := by omega
        simp -dsimp [q2, hjm, hrm2, u2, u4, Ne.symm u2, Ne.symm u4, htx, ek]
end TL

/- Deeds at a desk: the program. -/
set_option linter.unusedSimpArgs false
set_option linter.unusedVariables false
set_option maxRecDepth 100000
set_option maxHeartbeats 4000000
set_option pp.maxSteps 1500
namespace TL
open Go Go.Proofs
attribute [local simp] marksV storyV codeV Claim.v Place.v Deed.v Desk.v
theorem do_drop (d : Desk) (k : Nat) (hd : d.small) (hk : deskOk d = true) (X : Place) (hXl : X.story.length ≤ 7) (hlt : k < d.now.story.length) (hX : X = ⟨d.now.people, d.now.story.eraseIdx k⟩) :
    FnZ Tryz.prog 11 [d.v, (⟨1, (k : Int), []⟩ : Deed).v] (.tup [(if (placeOk X && !decide (placeTx X = placeTx d.now)) = true then ((⟨X, keep8 (d.past ++ [d.now])⟩, true) : Desk × Bool) else (d, false)).1.v, .bool (if (placeOk X && !decide (placeTx X = placeTx d.now)) = true then ((⟨X, keep8 (d.past ++ [d.now])⟩, true) : Desk × Bool) else (d, false)).2]) := by
  have hpo := placeOk_fn X (by omega)
  have hpt := placeText_fn X (by omega)
  have hpn := placeText_fn d.now (by have := hd.1.1; omega)
  have hcn := copyPlace_fn d.now hd.1
  have hok := deskOk_fn d (by have := hd.2.1; omega) (by have := hd.1.1; omega) (fun p hp => by have := (hd.2.2 p hp).1; omega)
  rw [hk] at hok
  obtain ⟨hpast, hnow, hp8⟩ := deskOk_iff.1 hk
  have hcopy := fun m n => copyDesk_own d hd m n
  have fullb : (d.past.length + 1) * 32 ≤ 140737488355328 := by omega
  have zplaces : allZ 2 (List.map Place.v d.past ++ [d.now.v]) := fun x hx => by
    rcases List.mem_append.1 hx with hx | hx
    · obtain ⟨p, _, rfl⟩ := List.mem_map.1 hx; exact ⟨by simp, by simp⟩
    · rw [List.mem_singleton.1 hx]; exact ⟨by simp, by simp⟩
  have hR : placeOk X = true → ∀ l, keep8 (d.past ++ [d.now]) = l → ∀ m n, FnS Tryz.prog 35 m n [.v (⟨X, l⟩ : Desk).v] (OwnDeskL ⟨X, l⟩ m n) := fun hX l hl m n => copyDesk_own ⟨X, l⟩ (desk_fine (deskOk_iff.2 ⟨fun p hp => by
    rw [← hl] at hp
    rcases List.mem_append.1 (keep8_mem hp) with h1 | h1
    · exact hpast p h1
    · rw [List.mem_singleton.1 h1]; exact hnow, hX, by rw [← hl]; exact keep8_len _ (by simp; omega)⟩)).1 m n
  have hw := without_fn d.now.story k hlt (by have := hd.1.1; omega)
  have hkX := ft (placeOk X)
  have htx : placeTx X = placeTx d.now ∨ ¬ placeTx X = placeTx d.now := Classical.em _
  generalize placeTx X = tX at *
  generalize placeTx d.now = tN at *
  generalize placeOk X = okX at *
  subst hX
  have c1 : ¬ (d.now.story.length : Int) ≤ k := by omega
  have c2 : ¬ d.now.story.length ≤ k := by omega
  have c3 : ¬ (k : Int) < 0 := by omega
  generalize d.now.story.eraseIdx k = R at *
  refine FnZ_of (rs := [.cell 4 37, .tmp 5]) false Tryz.func11 rfl rfl rfl rfl (Nat.le_of_ble_eq_true rfl) ?_
  simp -dsimp
  refine call_ hok (by simp -dsimp) ?_
  simp -dsimp
  refine callL_ (vs := [d.v]) (hcopy _ _) (by simp -dsimp) ?_
  rintro t m1 n1 ⟨hn1, hout, id, st, rfl, hi0, hi1, him, hst, hne⟩
  have k0 := hout 0 (by omega)
  have k1 := hout 1 (by omega)
  have k2 := hout 2 (by omega)
  simp -dsimp at k0 k1 k2
  have f0 := far (show 0 < n1 by omega)
  have f1 := far (show 1 < n1 by omega)
  have f2 := far (show 2 < n1 by omega)
  have z1 : ¬ n1 = 0 := by omega
  have z2 : ¬ n1 = 1 := by omega
  have z3 : ¬ n1 = 2 := by omega
  have g1 := far hi1
  have y0 : ¬ id = 0 := by omega
  have y1 : ¬ id = 1 := by omega
  have y2 : ¬ id = 2 := by omega
  have yn : ¬ id = n1 := by omega
  have hc := hst.cell
  rcases hst with ⟨rfl, hs0⟩ | ⟨r, rfl, hr0, hr1, hrm⟩
  · have hp0 : d.past = [] := by simpa using hs0
    simp -dsimp [nes8 n1, k0, k1, k2, f0, f1, f2, z1, z2, z3, nes, g1, y0, y1, y2, yn, Ne.symm y0, Ne.symm y1, Ne.symm y2, him, hc, c1, c2, c3]
    refine twp_draw (List.range 13) [1, n1, id] (List.replicate 13 [0, 1, 2]) (List.replicate 13 [0, 1, 2]) (by kernel_rfl) (by kernel_rfl) (by kernel_rfl) (by kernel_rfl) ?_
    simp -dsimp [List.range_succ, nes8 n1, k0, k1, k2, f0, f1, f2, z1, z2, z3, nes, g1, y0, y1, y2, yn, Ne.symm y0, Ne.symm y1, Ne.symm y2, him, hc, c1, c2, c3]
    refine twp_draw (List.range 11) [1, n1] (List.replicate 8 [0, 1] ++ [[], [], []]) (List.replicate 10 [0, 1] ++ [[0]]) (by kernel_rfl) (by kernel_rfl) (by kernel_rfl) (by kernel_rfl) ?_
    simp -dsimp [List.range_succ, nes8 n1, k0, k1, k2, f0, f1, f2, z1, z2, z3, nes, g1, y0, y1, y2, yn, Ne.symm y0, Ne.symm y1, Ne.symm y2, him, hc, c1, c2, c3]
    refine call_ hw (by simp -dsimp [nes8 n1, k0, k1, k2, f0, f1, f2, z1, z2, z3, nes, g1, y0, y1, y2, yn, Ne.symm y0, Ne.symm y1, Ne.symm y2, him, hc, c1, c2, c3]) ?_
    simp -dsimp [List.range_succ, nes8 n1, k0, k1, k2, f0, f1, f2, z1, z2, z3, nes, g1, y0, y1, y2, yn, Ne.symm y0, Ne.symm y1, Ne.symm y2, him, hc, c1, c2, c3]
    refine twp_draw [0, 1, 2, 3, 4, 5, 6, 7, 8, 10, 11, 9, 12, 13, 14] [0, n1] (List.replicate 15 [0, 1]) (List.replicate 15 [0, 1]) (by kernel_rfl) (by kernel_rfl) (by kernel_rfl) (by kernel_rfl) ?_
    simp -dsimp [nes8 n1, k0, k1, k2, f0, f1, f2, z1, z2, z3, nes, g1, y0, y1, y2, yn, Ne.symm y0, Ne.symm y1, Ne.symm y2, him, hc, c1, c2, c3, hp0]
    refine call_ hpo (by simp -dsimp [nes8 n1, k0, k1, k2, f0, f1, f2, z1, z2, z3, nes, g1, y0, y1, y2, yn, Ne.symm y0, Ne.symm y1, Ne.symm y2, him, hc, c1, c2, c3, hp0]) ?_
    rcases hkX with rfl | rfl
    · simp -dsimp [nes8 n1, k0, k1, k2, f0, f1, f2, z1, z2, z3, nes, g1, y0, y1, y2, yn, Ne.symm y0, Ne.symm y1, Ne.symm y2, him, hc, c1, c2, c3, hp0]
      refine callL_ (vs := [d.v]) (hcopy _ _) (by simp -dsimp [hc, c1, c2, c3, hp0]) ?_
      rintro t m2 n2 ⟨hn2, hout2, id2, st2, rfl, hj0, hj1, hjm, hst2, hne2⟩
      have q2 := hout2 2 (by omega)
      simp -dsimp [nes8 n1, k0, k1, k2, f0, f1, f2, z1, z2, z3, nes, g1, y0, y1, y2, yn, Ne.symm y0, Ne.symm y1, Ne.symm y2, him] at q2
      have hc2 := hst2.cell
      have u2 : ¬ id2 = 2 := by omega
      rcases hst2 with ⟨rfl, hs2⟩ | ⟨r2, rfl, hr0, hr1, hrm2⟩
      · simp -dsimp [q2, hjm, u2, Ne.symm u2, hs2]
      · have u4 : ¬ r2 = 2 := by omega
        simp -dsimp [q2, hjm, hrm2, u2, u4, Ne.symm u2, Ne.symm u4]
    simp -dsimp [nes8 n1, k0, k1, k2, f0, f1, f2, z1, z2, z3, nes, g1, y0, y1, y2, yn, Ne.symm y0, Ne.symm y1, Ne.symm y2, him, hc, c1, c2, c3, hp0]
    refine call_ hpt (by simp -dsimp [nes8 n1, k0, k1, k2, f0, f1, f2, z1, z2, z3, nes, g1, y0, y1, y2, yn, Ne.symm y0, Ne.symm y1, Ne.symm y2, him, hc, c1, c2, c3, hp0]) ?_
    simp -dsimp [nes8 n1, k0, k1, k2, f0, f1, f2, z1, z2, z3, nes, g1, y0, y1, y2, yn, Ne.symm y0, Ne.symm y1, Ne.symm y2, him, hc, c1, c2, c3, hp0]
    refine call_ hpn (by simp -dsimp) ?_
    rcases htx with rfl | htx
    · simp -dsimp [nes8 n1, k0, k1, k2, f0, f1, f2, z1, z2, z3, nes, g1, y0, y1, y2, yn, Ne.symm y0, Ne.symm y1, Ne.symm y2, him, hc, c1, c2, c3, hp0]
      refine callL_ (vs := [d.v]) (hcopy _ _) (by simp -dsimp [hc, c1, c2, c3, hp0]) ?_
      rintro t m2 n2 ⟨hn2, hout2, id2, st2, rfl, hj0, hj1, hjm, hst2, hne2⟩
      have q2 := hout2 2 (by omega)
      simp -dsimp [nes8 n1, k0, k1, k2, f0, f1, f2, z1, z2, z3, nes, g1, y0, y1, y2, yn, Ne.symm y0, Ne.symm y1, Ne.symm y2, him] at q2
      have hc2 := hst2.cell
      have u2 : ¬ id2 = 2 := by omega
      rcases hst2 with ⟨rfl, hs2⟩ | ⟨r2, rfl, hr0, hr1, hrm2⟩
      · simp -dsimp [q2, hjm, u2, Ne.symm u2, hs2]
      · have u4 : ¬ r2 = 2 := by omega
        simp -dsimp [q2, hjm, hrm2, u2, u4, Ne.symm u2, Ne.symm u4]
    have hRs := hR rfl
    simp -dsimp [nes8 n1, k0, k1, k2, f0, f1, f2, z1, z2, z3, nes, g1, y0, y1, y2, yn, Ne.symm y0, Ne.symm y1, Ne.symm y2, him, hc, c1, c2, c3, hp0, htx]
    refine twp_draw (List.range 9) [0, n1] (List.replicate 9 [0, 1]) (List.replicate 8 [0, 1] ++ [[0]]) (by kernel_rfl) (by kernel_rfl) (by kernel_rfl) (by kernel_rfl) ?_
    simp -dsimp [List.range_succ, nes8 n1, k0, k1, k2, f0, f1, f2, z1, z2, z3, nes, g1, y0, y1, y2, yn, Ne.symm y0, Ne.symm y1, Ne.symm y2, him, hc, c1, c2, c3, hp0, htx]
    refine call_ hcn (by simp -dsimp) ?_
    have hR2 := hRs [d.now] (by rw [hp0]; rfl)
    simp -dsimp [List.range_succ, nes8 n1, k0, k1, k2, f0, f1, f2, z1, z2, z3, nes, g1, y0, y1, y2, yn, Ne.symm y0, Ne.symm y1, Ne.symm y2, him, hc, c1, c2, c3, hp0, htx]
    refine callL_ (vs := [(⟨⟨d.now.people, R⟩, [d.now]⟩ : Desk).v]) (hR2 _ _) (by simp -dsimp [nes8 n1, k0, k1, k2, f0, f1, f2, z1, z2, z3, nes, g1, y0, y1, y2, yn, Ne.symm y0, Ne.symm y1, Ne.symm y2, him, hc, c1, c2, c3, hp0]) ?_
    rintro t m2 n2 ⟨hn2, hout2, id2, st2, rfl, hj0, hj1, hjm, hst2, hne2⟩
    have q2 := hout2 2 (by omega)
    simp -dsimp [nes8 n1, k0, k1, k2, f0, f1, f2, z1, z2, z3, nes, g1, y0, y1, y2, yn, Ne.symm y0, Ne.symm y1, Ne.symm y2, him] at q2
    have hc2 := hst2.cell
    have u2 : ¬ id2 = 2 := by omega
    rcases hst2 with ⟨rfl, hs2⟩ | ⟨r2, rfl, hr0, hr1, hrm2⟩
    · simp -dsimp [q2, hjm, u2, Ne.symm u2, hs2, htx, hp0, keep8]
    · have u4 : ¬ r2 = 2 := by omega
      simp -dsimp [q2, hjm, hrm2, u2, u4, Ne.symm u2, Ne.symm u4, htx, hp0, keep8]
  · have g2 := far hr1
    have x0 : ¬ r = 0 := by omega
    have x1 : ¬ r = 1 := by omega
    have x2 : ¬ r = 2 := by omega
    have xi : ¬ r = id := fun h => hne (by rw [h])
    simp -dsimp [nes8 n1, k0, k1, k2, f0, f1, f2, z1, z2, z3, nes, g1, y0, y1, y2, yn, Ne.symm y0, Ne.symm y1, Ne.symm y2, him, g2, x0, x1, x2, xi, Ne.symm x0, Ne.symm x1, Ne.symm x2, Ne.symm xi, hrm, hc, c1, c2, c3]
    refine twp_draw (List.range 13) [1, n1, id] (List.replicate 13 [0, 1, 2]) (List.replicate 13 [0, 1, 2]) (by kernel_rfl) (by kernel_rfl) (by kernel_rfl) (by kernel_rfl) ?_
    simp -dsimp [List.range_succ, nes8 n1, k0, k1, k2, f0, f1, f2, z1, z2, z3, nes, g1, y0, y1, y2, yn, Ne.symm y0, Ne.symm y1, Ne.symm y2, him, g2, x0, x1, x2, xi, Ne.symm x0, Ne.symm x1, Ne.symm x2, Ne.symm xi, hrm, hc, c1, c2, c3]
    refine twp_draw (List.range 11) [1, n1] (List.replicate 8 [0, 1] ++ [[], [], []]) (List.replicate 10 [0, 1] ++ [[0]]) (by kernel_rfl) (by kernel_rfl) (by kernel_rfl) (by kernel_rfl) ?_
    simp -dsimp [List.range_succ, nes8 n1, k0, k1, k2, f0, f1, f2, z1, z2, z3, nes, g1, y0, y1, y2, yn, Ne.symm y0, Ne.symm y1, Ne.symm y2, him, g2, x0, x1, x2, xi, Ne.symm x0, Ne.symm x1, Ne.symm x2, Ne.symm xi, hrm, hc, c1, c2, c3]
    refine call_ hw (by simp -dsimp [nes8 n1, k0, k1, k2, f0, f1, f2, z1, z2, z3, nes, g1, y0, y1, y2, yn, Ne.symm y0, Ne.symm y1, Ne.symm y2, him, g2, x0, x1, x2, xi, Ne.symm x0, Ne.symm x1, Ne.symm x2, Ne.symm xi, hrm, hc, c1, c2, c3]) ?_
    simp -dsimp [List.range_succ, nes8 n1, k0, k1, k2, f0, f1, f2, z1, z2, z3, nes, g1, y0, y1, y2, yn, Ne.symm y0, Ne.symm y1, Ne.symm y2, him, g2, x0, x1, x2, xi, Ne.symm x0, Ne.symm x1, Ne.symm x2, Ne.symm xi, hrm, hc, c1, c2, c3]
    refine twp_draw [0, 1, 2, 3, 4, 5, 6, 7, 8, 10, 11, 9, 12, 13, 14] [0, n1] (List.replicate 15 [0, 1]) (List.replicate 15 [0, 1]) (by kernel_rfl) (by kernel_rfl) (by kernel_rfl) (by kernel_rfl) ?_
    simp -dsimp [nes8 n1, k0, k1, k2, f0, f1, f2, z1, z2, z3, nes, g1, y0, y1, y2, yn, Ne.symm y0, Ne.symm y1, Ne.symm y2, him, g2, x0, x1, x2, xi, Ne.symm x0, Ne.symm x1, Ne.symm x2, Ne.symm xi, hrm, hc, c1, c2, c3]
    refine call_ hpo (by simp -dsimp [nes8 n1, k0, k1, k2, f0, f1, f2, z1, z2, z3, nes, g1, y0, y1, y2, yn, Ne.symm y0, Ne.symm y1, Ne.symm y2, him, g2, x0, x1, x2, xi, Ne.symm x0, Ne.symm x1, Ne.symm x2, Ne.symm xi, hrm, hc, c1, c2, c3]) ?_
    rcases hkX with rfl | rfl
    · simp -dsimp [nes8 n1, k0, k1, k2, f0, f1, f2, z1, z2, z3, nes, g1, y0, y1, y2, yn, Ne.symm y0, Ne.symm y1, Ne.symm y2, him, g2, x0, x1, x2, xi, Ne.symm x0, Ne.symm x1, Ne.symm x2, Ne.symm xi, hrm, hc, c1, c2, c3]
      refine callL_ (vs := [d.v]) (hcopy _ _) (by simp -dsimp [hc, c1, c2, c3]) ?_
      rintro t m2 n2 ⟨hn2, hout2, id2, st2, rfl, hj0, hj1, hjm, hst2, hne2⟩
      have q2 := hout2 2 (by omega)
      simp -dsimp [nes8 n1, k0, k1, k2, f0, f1, f2, z1, z2, z3, nes, g1, y0, y1, y2, yn, Ne.symm y0, Ne.symm y1, Ne.symm y2, him, g2, x0, x1, x2, xi, Ne.symm x0, Ne.symm x1, Ne.symm x2, Ne.symm xi, hrm] at q2
      have hc2 := hst2.cell
      have u2 : ¬ id2 = 2 := by omega
      rcases hst2 with ⟨rfl, hs2⟩ | ⟨r2, rfl, hr0, hr1, hrm2⟩
      · simp -dsimp [q2, hjm, u2, Ne.symm u2, hs2]
      · have u4 : ¬ r2 = 2 := by omega
        simp -dsimp [q2, hjm, hrm2, u2, u4, Ne.symm u2, Ne.symm u4]
    simp -dsimp [nes8 n1, k0, k1, k2, f0, f1, f2, z1, z2, z3, nes, g1, y0, y1, y2, yn, Ne.symm y0, Ne.symm y1, Ne.symm y2, him, g2, x0, x1, x2, xi, Ne.symm x0, Ne.symm x1, Ne.symm x2, Ne.symm xi, hrm, hc, c1, c2, c3]
    refine call_ hpt (by simp -dsimp [nes8 n1, k0, k1, k2, f0, f1, f2, z1, z2, z3, nes, g1, y0, y1, y2, yn, Ne.symm y0, Ne.symm y1, Ne.symm y2, him, g2, x0, x1, x2, xi, Ne.symm x0, Ne.symm x1, Ne.symm x2, Ne.symm xi, hrm, hc, c1, c2, c3]) ?_
    simp -dsimp [nes8 n1, k0, k1, k2, f0, f1, f2, z1, z2, z3, nes, g1, y0, y1, y2, yn, Ne.symm y0, Ne.symm y1, Ne.symm y2, him, g2, x0, x1, x2, xi, Ne.symm x0, Ne.symm x1, Ne.symm x2, Ne.symm xi, hrm, hc, c1, c2, c3]
    refine call_ hpn (by simp -dsimp) ?_
    rcases htx with rfl | htx
    · simp -dsimp [nes8 n1, k0, k1, k2, f0, f1, f2, z1, z2, z3, nes, g1, y0, y1, y2, yn, Ne.symm y0, Ne.symm y1, Ne.symm y2, him, g2, x0, x1, x2, xi, Ne.symm x0, Ne.symm x1, Ne.symm x2, Ne.symm xi, hrm, hc, c1, c2, c3]
      refine callL_ (vs := [d.v]) (hcopy _ _) (by simp -dsimp [hc, c1, c2, c3]) ?_
      rintro t m2 n2 ⟨hn2, hout2, id2, st2, rfl, hj0, hj1, hjm, hst2, hne2⟩
      have q2 := hout2 2 (by omega)
      simp -dsimp [nes8 n1, k0, k1, k2, f0, f1, f2, z1, z2, z3, nes, g1, y0, y1, y2, yn, Ne.symm y0, Ne.symm y1, Ne.symm y2, him, g2, x0, x1, x2, xi, Ne.symm x0, Ne.symm x1, Ne.symm x2, Ne.symm xi, hrm] at q2
      have hc2 := hst2.cell
      have u2 : ¬ id2 = 2 := by omega
      rcases hst2 with ⟨rfl, hs2⟩ | ⟨r2, rfl, hr0, hr1, hrm2⟩
      · simp -dsimp [q2, hjm, u2, Ne.symm u2, hs2]
      · have u4 : ¬ r2 = 2 := by omega
        simp -dsimp [q2, hjm, hrm2, u2, u4, Ne.symm u2, Ne.symm u4]
    have hRs := hR rfl
    simp -dsimp [nes8 n1, k0, k1, k2, f0, f1, f2, z1, z2, z3, nes, g1, y0, y1, y2, yn, Ne.symm y0, Ne.symm y1, Ne.symm y2, him, g2, x0, x1, x2, xi, Ne.symm x0, Ne.symm x1, Ne.symm x2, Ne.symm xi, hrm, hc, c1, c2, c3, htx]
    refine twp_draw (List.range 9) [0, n1] (List.replicate 9 [0, 1]) (List.replicate 8 [0, 1] ++ [[0]]) (by kernel_rfl) (by kernel_rfl) (by kernel_rfl) (by kernel_rfl) ?_
    simp -dsimp [List.range_succ, nes8 n1, k0, k1, k2, f0, f1, f2, z1, z2, z3, nes, g1, y0, y1, y2, yn, Ne.symm y0, Ne.symm y1, Ne.symm y2, him, g2, x0, x1, x2, xi, Ne.symm x0, Ne.symm x1, Ne.symm x2, Ne.symm xi, hrm, hc, c1, c2, c3, htx]
    refine call_ hcn (by simp -dsimp) ?_
    by_cases h8 : d.past.length = 8
    · have e8 : (d.past.length : Int) = 8 := by omega
      have ek : keep8 (d.past ++ [d.now]) = (d.past ++ [d.now]).tail := by unfold keep8; rw [if_pos (by simp [h8])]; simp
      have hR2 := hRs (d.past ++ [d.now]).tail ek
      have tk : List.take 9 (List.map Place.v d.past ++ [d.now.v]) = List.map Place.v d.past ++ [d.now.v] := List.take_of_length_le (by simp [h8])
      have zk : allZ 2 (List.map Place.v d.past ++ [d.now.v]).tail := fun x hx => zplaces x (List.mem_of_mem_tail hx)
      simp only [Place.v, storyV] at tk zk
      simp -dsimp [List.range_succ, nes8 n1, k0, k1, k2, f0, f1, f2, z1, z2, z3, nes, g1, y0, y1, y2, yn, Ne.symm y0, Ne.symm y1, Ne.symm y2, him, g2, x0, x1, x2, xi, Ne.symm x0, Ne.symm x1, Ne.symm x2, Ne.symm xi, hrm, hc, c1, c2, c3, htx, fullb, h8, e8, tk, zk]
      refine callL_ (vs := [(⟨⟨d.now.people, R⟩, (d.past ++ [d.now]).tail⟩ : Desk).v]) (hR2 _ _) (by simp -dsimp [nes8 n1, k0, k1, k2, f0, f1, f2, z1, z2, z3, nes, g1, y0, y1, y2, yn, Ne.symm y0, Ne.symm y1, Ne.symm y2, him, g2, x0, x1, x2, xi, Ne.symm x0, Ne.symm x1, Ne.symm x2, Ne.symm xi, hrm, hc, c1, c2, c3, List.map_tail, List.map_append]) ?_
      rintro t m2 n2 ⟨hn2, hout2, id2, st2, rfl, hj0, hj1, hjm, hst2, hne2⟩
      have q2 := hout2 2 (by omega)
      simp -dsimp [nes8 n1, k0, k1, k2, f0, f1, f2, z1, z2, z3, nes, g1, y0, y1, y2, yn, Ne.symm y0, Ne.symm y1, Ne.symm y2, him, g2, x0, x1, x2, xi, Ne.symm x0, Ne.symm x1, Ne.symm x2, Ne.symm xi, hrm] at q2
      have hc2 := hst2.cell
      have u2 : ¬ id2 = 2 := by omega
      rcases hst2 with ⟨rfl, hs2⟩ | ⟨r2, rfl, hr0, hr1, hrm2⟩
      · simp -dsimp [q2, hjm, u2, Ne.symm u2, hs2, htx, ek]
      · have u4 : ¬ r2 = 2 := by omega
        simp -dsimp [q2, hjm, hrm2, u2, u4, Ne.symm u2, Ne.symm u4, htx, ek]
    · have e8 : d.past.length < 8 := by omega
      have e8' : ¬ (8 : Int) < (d.past.length : Int) + 1 := by omega
      have e8'' : ¬ 8 < d.past.length + 1 := by omega
      have ek : keep8 (d.past ++ [d.now]) = d.past ++ [d.now] := by unfold keep8; rw [if_neg (by simp; omega)]
      have hR2 := hRs (d.past ++ [d.now]) ek
      simp -dsimp [List.range_succ, nes8 n1, k0, k1, k2, f0, f1, f2, z1, z2, z3, nes, g1, y0, y1, y2, yn, Ne.symm y0, Ne.symm y1, Ne.symm y2, him, g2, x0, x1, x2, xi, Ne.symm x0, Ne.symm x1, Ne.symm x2, Ne.symm xi, hrm, hc, c1, c2, c3, htx, fullb, h8, e8, e8', e8'']
      refine callL_ (vs := [(⟨⟨d.now.people, R⟩, d.past ++ [d.now]⟩ : Desk).v]) (hR2 _ _) (by simp -dsimp [nes8 n1, k0, k1, k2, f0, f1, f2, z1, z2, z3, nes, g1, y0, y1, y2, yn, Ne.symm y0, Ne.symm y1, Ne.symm y2, him, g2, x0, x1, x2, xi, Ne.symm x0, Ne.symm x1, Ne.symm x2, Ne.symm xi, hrm, hc, c1, c2, c3]) ?_
      rintro t m2 n2 ⟨hn2, hout2, id2, st2, rfl, hj0, hj1, hjm, hst2, hne2⟩
      have q2 := hout2 2 (by omega)
      simp -dsimp [nes8 n1, k0, k1, k2, f0, f1, f2, z1, z2, z3, nes, g1, y0, y1, y2, yn, Ne.symm y0, Ne.symm y1, Ne.symm y2, him, g2, x0, x1, x2, xi, Ne.symm x0, Ne.symm x1, Ne.symm x2, Ne.symm xi, hrm] at q2
      have hc2 := hst2.cell
      have u2 : ¬ id2 = 2 := by omega
      rcases hst2 with ⟨rfl, hs2⟩ | ⟨r2, rfl, hr0, hr1, hrm2⟩
      · simp -dsimp [q2, hjm, u2, Ne.symm u2, hs2, htx, ek]
      · have u4 : ¬ r2 = 2 := by omega
        simp -dsimp [q2, hjm, hrm2, u2, u4, Ne.symm u2, Ne.symm u4, htx, ek]
end TL

/- Deeds at a desk: the program. -/
set_option linter.unusedSimpArgs false
set_option linter.unusedVariables false
set_option maxRecDepth 100000
set_option maxHeartbeats 4000000
set_option pp.maxSteps 1500
namespace TL
open Go Go.Proofs
attribute [local simp] marksV storyV codeV Claim.v Place.v Deed.v Desk.v
theorem do_say (d : Desk) (words : List UInt8) (c : Claim) (hd : d.small) (hk : deskOk d = true) (X : Place) (hXl : X.story.length ≤ 7) (hr : readC d.now.people words = some c) (hwl : words.length ≤ 1000000000) (hX : X = ⟨d.now.people, d.now.story ++ [c]⟩) :
    FnZ Tryz.prog 11 [d.v, (⟨0, 0, words⟩ : Deed).v] (.tup [(if (placeOk X && !decide (placeTx X = placeTx d.now)) = true then ((⟨X, keep8 (d.past ++ [d.now])⟩, true) : Desk × Bool) else (d, false)).1.v, .bool (if (placeOk X && !decide (placeTx X = placeTx d.now)) = true then ((⟨X, keep8 (d.past ++ [d.now])⟩, true) : Desk × Bool) else (d, false)).2]) := by
  have hpo := placeOk_fn X (by omega)
  have hpt := placeText_fn X (by omega)
  have hpn := placeText_fn d.now (by have := hd.1.1; omega)
  have hcn := copyPlace_fn d.now hd.1
  have hok := deskOk_fn d (by have := hd.2.1; omega) (by have := hd.1.1; omega) (fun p hp => by have := (hd.2.2 p hp).1; omega)
  rw [hk] at hok
  obtain ⟨hpast, hnow, hp8⟩ := deskOk_iff.1 hk
  have hcopy := fun m n => copyDesk_own d hd m n
  have fullb : (d.past.length + 1) * 32 ≤ 140737488355328 := by omega
  have zplaces : allZ 2 (List.map Place.v d.past ++ [d.now.v]) := fun x hx => by
    rcases List.mem_append.1 hx with hx | hx
    · obtain ⟨p, _, rfl⟩ := List.mem_map.1 hx; exact ⟨by simp, by simp⟩
    · rw [List.mem_singleton.1 hx]; exact ⟨by simp, by simp⟩
  have hR : placeOk X = true → ∀ l, keep8 (d.past ++ [d.now]) = l → ∀ m n, FnS Tryz.prog 35 m n [.v (⟨X, l⟩ : Desk).v] (OwnDeskL ⟨X, l⟩ m n) := fun hX l hl m n => copyDesk_own ⟨X, l⟩ (desk_fine (deskOk_iff.2 ⟨fun p hp => by
    rw [← hl] at hp
    rcases List.mem_append.1 (keep8_mem hp) with h1 | h1
    · exact hpast p h1
    · rw [List.mem_singleton.1 h1]; exact hnow, hX, by rw [← hl]; exact keep8_len _ (by simp; omega)⟩)).1 m n
  have hrc := readClaim_fn d.now.people words (by omega)
  rw [hr] at hrc
  have b1 : (d.now.story.length + 1) * 32 ≤ 140737488355328 := by have := hd.1.1; omega
  have hkX := ft (placeOk X)
  have htx : placeTx X = placeTx d.now ∨ ¬ placeTx X = placeTx d.now := Classical.em _
  generalize placeTx X = tX at *
  generalize placeTx d.now = tN at *
  generalize placeOk X = okX at *
  subst hX
  refine FnZ_of (rs := [.cell 4 37, .tmp 5]) false Tryz.func11 rfl rfl rfl rfl (Nat.le_of_ble_eq_true rfl) ?_
  simp -dsimp
  refine call_ hok (by simp -dsimp) ?_
  simp -dsimp
  refine callL_ (vs := [d.v]) (hcopy _ _) (by simp -dsimp) ?_
  rintro t m1 n1 ⟨hn1, hout, id, st, rfl, hi0, hi1, him, hst, hne⟩
  have k0 := hout 0 (by omega)
  have k1 := hout 1 (by omega)
  have k2 := hout 2 (by omega)
  simp -dsimp at k0 k1 k2
  have f0 := far (show 0 < n1 by omega)
  have f1 := far (show 1 < n1 by omega)
  have f2 := far (show 2 < n1 by omega)
  have z1 : ¬ n1 = 0 := by omega
  have z2 : ¬ n1 = 1 := by omega
  have z3 : ¬ n1 = 2 := by omega
  have g1 := far hi1
  have y0 : ¬ id = 0 := by omega
  have y1 : ¬ id = 1 := by omega
  have y2 : ¬ id = 2 := by omega
  have yn : ¬ id = n1 := by omega
  have hc := hst.cell
  rcases hst with ⟨rfl, hs0⟩ | ⟨r, rfl, hr0, hr1, hrm⟩
  · have hp0 : d.past = [] := by simpa using hs0
    simp -dsimp [nes8 n1, k0, k1, k2, f0, f1, f2, z1, z2, z3, nes, g1, y0, y1, y2, yn, Ne.symm y0, Ne.symm y1, Ne.symm y2, him, hc, b1]
    refine twp_draw [0, 1, 2, 3, 4, 5, 1006, 7, 8, 9, 10, 11, 12] [1, n1] (List.replicate 13 [0, 1]) (List.replicate 13 [0, 1]) (by kernel_rfl) (by kernel_rfl) (by kernel_rfl) (by kernel_rfl) ?_
    simp -dsimp [List.range_succ, nes8 n1, k0, k1, k2, f0, f1, f2, z1, z2, z3, nes, g1, y0, y1, y2, yn, Ne.symm y0, Ne.symm y1, Ne.symm y2, him, hc, b1]
    refine pure_ hrc (by simp -dsimp [nes8 n1, k0, k1, k2, f0, f1, f2, z1, z2, z3, nes, g1, y0, y1, y2, yn, Ne.symm y0, Ne.symm y1, Ne.symm y2, him, hc, b1]) ?_
    simp -dsimp [List.range_succ, nes8 n1, k0, k1, k2, f0, f1, f2, z1, z2, z3, nes, g1, y0, y1, y2, yn, Ne.symm y0, Ne.symm y1, Ne.symm y2, him, hc, b1, optC]
    refine twp_draw (List.range 11) [n1, n1 + 1 + 1] (List.replicate 8 [0, 1] ++ [[], [], []]) (List.replicate 10 [0, 1] ++ [[1]]) (by kernel_rfl) (by kernel_rfl) (by kernel_rfl) (by kernel_rfl) ?_
    simp -dsimp [List.range_succ, nes8 n1, k0, k1, k2, f0, f1, f2, z1, z2, z3, nes, g1, y0, y1, y2, yn, Ne.symm y0, Ne.symm y1, Ne.symm y2, him, hc, b1, b1]
    refine twp_draw [0, 1, 2, 3, 4, 5, 6, 7, 8, 10, 11, 9, 12, 13, 14] [0, n1] (List.replicate 15 [0, 1]) (List.replicate 15 [0, 1]) (by kernel_rfl) (by kernel_rfl) (by kernel_rfl) (by kernel_rfl) ?_
    simp -dsimp [nes8 n1, k0, k1, k2, f0, f1, f2, z1, z2, z3, nes, g1, y0, y1, y2, yn, Ne.symm y0, Ne.symm y1, Ne.symm y2, him, hc, b1, hp0]
    refine call_ hpo (by simp -dsimp [nes8 n1, k0, k1, k2, f0, f1, f2, z1, z2, z3, nes, g1, y0, y1, y2, yn, Ne.symm y0, Ne.symm y1, Ne.symm y2, him, hc, b1, hp0]) ?_
    rcases hkX with rfl | rfl
    · simp -dsimp [nes8 n1, k0, k1, k2, f0, f1, f2, z1, z2, z3, nes, g1, y0, y1, y2, yn, Ne.symm y0, Ne.symm y1, Ne.symm y2, him, hc, b1, hp0]
      refine callL_ (vs := [d.v]) (hcopy _ _) (by simp -dsimp [hc, b1, hp0]) ?_
      rintro t m2 n2 ⟨hn2, hout2, id2, st2, rfl, hj0, hj1, hjm, hst2, hne2⟩
      have q2 := hout2 2 (by omega)
      simp -dsimp [nes8 n1, k0, k1, k2, f0, f1, f2, z1, z2, z3, nes, g1, y0, y1, y2, yn, Ne.symm y0, Ne.symm y1, Ne.symm y2, him] at q2
      have hc2 := hst2.cell
      have u2 : ¬ id2 = 2 := by omega
      rcases hst2 with ⟨rfl, hs2⟩ | ⟨r2, rfl, hr0, hr1, hrm2⟩
      · simp -dsimp [q2, hjm, u2, Ne.symm u2, hs2]
      · have u4 : ¬ r2 = 2 := by omega
        simp -dsimp [q2, hjm, hrm2, u2, u4, Ne.symm u2, Ne.symm u4]
    simp -dsimp [nes8 n1, k0, k1, k2, f0, f1, f2, z1, z2, z3, nes, g1, y0, y1, y2, yn, Ne.symm y0, Ne.symm y1, Ne.symm y2, him, hc, b1, hp0]
    refine call_ hpt (by simp -dsimp [nes8 n1, k0, k1, k2, f0, f1, f2, z1, z2, z3, nes, g1, y0, y1, y2, yn, Ne.symm y0, Ne.symm y1, Ne.symm y2, him, hc, b1, hp0]) ?_
    simp -dsimp [nes8 n1, k0, k1, k2, f0, f1, f2, z1, z2, z3, nes, g1, y0, y1, y2, yn, Ne.symm y0, Ne.symm y1, Ne.symm y2, him, hc, b1, hp0]
    refine call_ hpn (by simp -dsimp) ?_
    rcases htx with rfl | htx
    · simp -dsimp [nes8 n1, k0, k1, k2, f0, f1, f2, z1, z2, z3, nes, g1, y0, y1, y2, yn, Ne.symm y0, Ne.symm y1, Ne.symm y2, him, hc, b1, hp0]
      refine callL_ (vs := [d.v]) (hcopy _ _) (by simp -dsimp [hc, b1, hp0]) ?_
      rintro t m2 n2 ⟨hn2, hout2, id2, st2, rfl, hj0, hj1, hjm, hst2, hne2⟩
      have q2 := hout2 2 (by omega)
      simp -dsimp [nes8 n1, k0, k1, k2, f0, f1, f2, z1, z2, z3, nes, g1, y0, y1, y2, yn, Ne.symm y0, Ne.symm y1, Ne.symm y2, him] at q2
      have hc2 := hst2.cell
      have u2 : ¬ id2 = 2 := by omega
      rcases hst2 with ⟨rfl, hs2⟩ | ⟨r2, rfl, hr0, hr1, hrm2⟩
      · simp -dsimp [q2, hjm, u2, Ne.symm u2, hs2]
      · have u4 : ¬ r2 = 2 := by omega
        simp -dsimp [q2, hjm, hrm2, u2, u4, Ne.symm u2, Ne.symm u4]
    have hRs := hR rfl
    simp -dsimp [nes8 n1, k0, k1, k2, f0, f1, f2, z1, z2, z3, nes, g1, y0, y1, y2, yn, Ne.symm y0, Ne.symm y1, Ne.symm y2, him, hc, b1, hp0, htx]
    refine twp_draw (List.range 9) [0, n1] (List.replicate 9 [0, 1]) (List.replicate 8 [0, 1] ++ [[0]]) (by kernel_rfl) (by kernel_rfl) (by kernel_rfl) (by kernel_rfl) ?_
    simp -dsimp [List.range_succ, nes8 n1, k0, k1, k2, f0, f1, f2, z1, z2, z3, nes, g1, y0, y1, y2, yn, Ne.symm y0, Ne.symm y1, Ne.symm y2, him, hc, b1, hp0, htx]
    refine call_ hcn (by simp -dsimp) ?_
    have hR2 := hRs [d.now] (by rw [hp0]; rfl)
    simp -dsimp [List.range_succ, nes8 n1, k0, k1, k2, f0, f1, f2, z1, z2, z3, nes, g1, y0, y1, y2, yn, Ne.symm y0, Ne.symm y1, Ne.symm y2, him, hc, b1, hp0, htx]
    refine callL_ (vs := [(⟨⟨d.now.people, d.now.story ++ [c]⟩, [d.now]⟩ : Desk).v]) (hR2 _ _) (by simp -dsimp [nes8 n1, k0, k1, k2, f0, f1, f2, z1, z2, z3, nes, g1, y0, y1, y2, yn, Ne.symm y0, Ne.symm y1, Ne.symm y2, him, hc, b1, hp0]) ?_
    rintro t m2 n2 ⟨hn2, hout2, id2, st2, rfl, hj0, hj1, hjm, hst2, hne2⟩
    have q2 := hout2 2 (by omega)
    simp -dsimp [nes8 n1, k0, k1, k2, f0, f1, f2, z1, z2, z3, nes, g1, y0, y1, y2, yn, Ne.symm y0, Ne.symm y1, Ne.symm y2, him] at q2
    have hc2 := hst2.cell
    have u2 : ¬ id2 = 2 := by omega
    rcases hst2 with ⟨rfl, hs2⟩ | ⟨r2, rfl, hr0, hr1, hrm2⟩
    · simp -dsimp [q2, hjm, u2, Ne.symm u2, hs2, htx, hp0, keep8]
    · have u4 : ¬ r2 = 2 := by omega
      simp -dsimp [q2, hjm, hrm2, u2, u4, Ne.symm u2, Ne.symm u4, htx, hp0, keep8]
  · have g2 := far hr1
    have x0 : ¬ r = 0 := by omega
    have x1 : ¬ r = 1 := by omega
    have x2 : ¬ r = 2 := by omega
    have xi : ¬ r = id := fun h => hne (by rw [h])
    simp -dsimp [nes8 n1, k0, k1, k2, f0, f1, f2, z1, z2, z3, nes, g1, y0, y1, y2, yn, Ne.symm y0, Ne.symm y1, Ne.symm y2, him, g2, x0, x1, x2, xi, Ne.symm x0, Ne.symm x1, Ne.symm x2, Ne.symm xi, hrm, hc, b1]
    refine twp_draw [0, 1, 2, 3, 4, 5, 1006, 7, 8, 9, 10, 11, 12] [1, n1] (List.replicate 13 [0, 1]) (List.replicate 13 [0, 1]) (by kernel_rfl) (by kernel_rfl) (by kernel_rfl) (by kernel_rfl) ?_
    simp -dsimp [List.range_succ, nes8 n1, k0, k1, k2, f0, f1, f2, z1, z2, z3, nes, g1, y0, y1, y2, yn, Ne.symm y0, Ne.symm y1, Ne.symm y2, him, g2, x0, x1, x2, xi, Ne.symm x0, Ne.symm x1, Ne.symm x2, Ne.symm xi, hrm, hc, b1]
    refine pure_ hrc (by simp -dsimp [nes8 n1, k0, k1, k2, f0, f1, f2, z1, z2, z3, nes, g1, y0, y1, y2, yn, Ne.symm y0, Ne.symm y1, Ne.symm y2, him, g2, x0, x1, x2, xi, Ne.symm x0, Ne.symm x1, Ne.symm x2, Ne.symm xi, hrm, hc, b1]) ?_
    simp -dsimp [List.range_succ, nes8 n1, k0, k1, k2, f0, f1, f2, z1, z2, z3, nes, g1, y0, y1, y2, yn, Ne.symm y0, Ne.symm y1, Ne.symm y2, him, g2, x0, x1, x2, xi, Ne.symm x0, Ne.symm x1, Ne.symm x2, Ne.symm xi, hrm, hc, b1, optC]
    refine twp_draw (List.range 11) [n1, n1 + 1 + 1] (List.replicate 8 [0, 1] ++ [[], [], []]) (List.replicate 10 [0, 1] ++ [[1]]) (by kernel_rfl) (by kernel_rfl) (by kernel_rfl) (by kernel_rfl) ?_
    simp -dsimp [List.range_succ, nes8 n1, k0, k1, k2, f0, f1, f2, z1, z2, z3, nes, g1, y0, y1, y2, yn, Ne.symm y0, Ne.symm y1, Ne.symm y2, him, g2, x0, x1, x2, xi, Ne.symm x0, Ne.symm x1, Ne.symm x2, Ne.symm xi, hrm, hc, b1, b1]
    refine twp_draw [0, 1, 2, 3, 4, 5, 6, 7, 8, 10, 11, 9, 12, 13, 14] [0, n1] (List.replicate 15 [0, 1]) (List.replicate 15 [0, 1]) (by kernel_rfl) (by kernel_rfl) (by kernel_rfl) (by kernel_rfl) ?_
    simp -dsimp [nes8 n1, k0, k1, k2, f0, f1, f2, z1, z2, z3, nes, g1, y0, y1, y2, yn, Ne.symm y0, Ne.symm y1, Ne.symm y2, him, g2, x0, x1, x2, xi, Ne.symm x0, Ne.symm x1, Ne.symm x2, Ne.symm xi, hrm, hc, b1]
    refine call_ hpo (by simp -dsimp [nes8 n1, k0, k1, k2, f0, f1, f2, z1, z2, z3, nes, g1, y0, y1, y2, yn, Ne.symm y0, Ne.symm y1, Ne.symm y2, him, g2, x0, x1, x2, xi, Ne.symm x0, Ne.symm x1, Ne.symm x2, Ne.symm xi, hrm, hc, b1]) ?_
    rcases hkX with rfl | rfl
    · simp -dsimp [nes8 n1, k0, k1, k2, f0, f1, f2, z1, z2, z3, nes, g1, y0, y1, y2, yn, Ne.symm y0, Ne.symm y1, Ne.symm y2, him, g2, x0, x1, x2, xi, Ne.symm x0, Ne.symm x1, Ne.symm x2, Ne.symm xi, hrm, hc, b1]
      refine callL_ (vs := [d.v]) (hcopy _ _) (by simp -dsimp [hc, b1]) ?_
      rintro t m2 n2 ⟨hn2, hout2, id2, st2, rfl, hj0, hj1, hjm, hst2, hne2⟩
      have q2 := hout2 2 (by omega)
      simp -dsimp [nes8 n1, k0, k1, k2, f0, f1, f2, z1, z2, z3, nes, g1, y0, y1, y2, yn, Ne.symm y0, Ne.symm y1, Ne.symm y2, him, g2, x0, x1, x2, xi, Ne.symm x0, Ne.symm x1, Ne.symm x2, Ne.symm xi, hrm] at q2
      have hc2 := hst2.cell
      have u2 : ¬ id2 = 2 := by omega
      rcases hst2 with ⟨rfl, hs2⟩ | ⟨r2, rfl, hr0, hr1, hrm2⟩
      · simp -dsimp [q2, hjm, u2, Ne.symm u2, hs2]
      · have u4 : ¬ r2 = 2 := by omega
        simp -dsimp [q2, hjm, hrm2, u2, u4, Ne.symm u2, Ne.symm u4]
    simp -dsimp [nes8 n1, k0, k1, k2, f0, f1, f2, z1, z2, z3, nes, g1, y0, y1, y2, yn, Ne.symm y0, Ne.symm y1, Ne.symm y2, him, g2, x0, x1, x2, xi, Ne.symm x0, Ne.symm x1, Ne.symm x2, Ne.symm xi, hrm, hc, b1]
    refine call_ hpt (by simp -dsimp [nes8 n1, k0, k1, k2, f0, f1, f2, z1, z2, z3, nes, g1, y0, y1, y2, yn, Ne.symm y0, Ne.symm y1, Ne.symm y2, him, g2, x0, x1, x2, xi, Ne.symm x0, Ne.symm x1, Ne.symm x2, Ne.symm xi, hrm, hc, b1]) ?_
    simp -dsimp [nes8 n1, k0, k1, k2, f0, f1, f2, z1, z2, z3, nes, g1, y0, y1, y2, yn, Ne.symm y0, Ne.symm y1, Ne.symm y2, him, g2, x0, x1, x2, xi, Ne.symm x0, Ne.symm x1, Ne.symm x2, Ne.symm xi, hrm, hc, b1]
    refine call_ hpn (by simp -dsimp) ?_
    rcases htx with rfl | htx
    · simp -dsimp [nes8 n1, k0, k1, k2, f0, f1, f2, z1, z2, z3, nes, g1, y0, y1, y2, yn, Ne.symm y0, Ne.symm y1, Ne.symm y2, him, g2, x0, x1, x2, xi, Ne.symm x0, Ne.symm x1, Ne.symm x2, Ne.symm xi, hrm, hc, b1]
      refine callL_ (vs := [d.v]) (hcopy _ _) (by simp -dsimp [hc, b1]) ?_
      rintro t m2 n2 ⟨hn2, hout2, id2, st2, rfl, hj0, hj1, hjm, hst2, hne2⟩
      have q2 := hout2 2 (by omega)
      simp -dsimp [nes8 n1, k0, k1, k2, f0, f1, f2, z1, z2, z3, nes, g1, y0, y1, y2, yn, Ne.symm y0, Ne.symm y1, Ne.symm y2, him, g2, x0, x1, x2, xi, Ne.symm x0, Ne.symm x1, Ne.symm x2, Ne.symm xi, hrm] at q2
      have hc2 := hst2.cell
      have u2 : ¬ id2 = 2 := by omega
      rcases hst2 with ⟨rfl, hs2⟩ | ⟨r2, rfl, hr0, hr1, hrm2⟩
      · simp -dsimp [q2, hjm, u2, Ne.symm u2, hs2]
      · have u4 : ¬ r2 = 2 := by omega
        simp -dsimp [q2, hjm, hrm2, u2, u4, Ne.symm u2, Ne.symm u4]
    have hRs := hR rfl
    simp -dsimp [nes8 n1, k0, k1, k2, f0, f1, f2, z1, z2, z3, nes, g1, y0, y1, y2, yn, Ne.symm y0, Ne.symm y1, Ne.symm y2, him, g2, x0, x1, x2, xi, Ne.symm x0, Ne.symm x1, Ne.symm x2, Ne.symm xi, hrm, hc, b1, htx]
    refine twp_draw (List.range 9) [0, n1] (List.replicate 9 [0, 1]) (List.replicate 8 [0, 1] ++ [[0]]) (by kernel_rfl) (by kernel_rfl) (by kernel_rfl) (by kernel_rfl) ?_
    simp -dsimp [List.range_succ, nes8 n1, k0, k1, k2, f0, f1, f2, z1, z2, z3, nes, g1, y0, y1, y2, yn, Ne.symm y0, Ne.symm y1, Ne.symm y2, him, g2, x0, x1, x2, xi, Ne.symm x0, Ne.symm x1, Ne.symm x2, Ne.symm xi, hrm, hc, b1, htx]
    refine call_ hcn (by simp -dsimp) ?_
    by_cases h8 : d.past.length = 8
    · have e8 : (d.past.length : Int) = 8 := by omega
      have ek : keep8 (d.past ++ [d.now]) = (d.past ++ [d.now]).tail := by unfold keep8; rw [if_pos (by simp [h8])]; simp
      have hR2 := hRs (d.past ++ [d.now]).tail ek
      have tk : List.take 9 (List.map Place.v d.past ++ [d.now.v]) = List.map Place.v d.past ++ [d.now.v] := List.take_of_length_le (by simp [h8])
      have zk : allZ 2 (List.map Place.v d.past ++ [d.now.v]).tail := fun x hx => zplaces x (List.mem_of_mem_tail hx)
      simp only [Place.v, storyV] at tk zk
      simp -dsimp [List.range_succ, nes8 n1, k0, k1, k2, f0, f1, f2, z1, z2, z3, nes, g1, y0, y1, y2, yn, Ne.symm y0, Ne.symm y1, Ne.symm y2, him, g2, x0, x1, x2, xi, Ne.symm x0, Ne.symm x1, Ne.symm x2, Ne.symm xi, hrm, hc, b1, htx, fullb, h8, e8, tk, zk]
      refine callL_ (vs := [(⟨⟨d.now.people, d.now.story ++ [c]⟩, (d.past ++ [d.now]).tail⟩ : Desk).v]) (hR2 _ _) (by simp -dsimp [nes8 n1, k0, k1, k2, f0, f1, f2, z1, z2, z3, nes, g1, y0, y1, y2, yn, Ne.symm y0, Ne.symm y1, Ne.symm y2, him, g2, x0, x1, x2, xi, Ne.symm x0, Ne.symm x1, Ne.symm x2, Ne.symm xi, hrm, hc, b1, List.map_tail, List.map_append]) ?_
      rintro t m2 n2 ⟨hn2, hout2, id2, st2, rfl, hj0, hj1, hjm, hst2, hne2⟩
      have q2 := hout2 2 (by omega)
      simp -dsimp [nes8 n1, k0, k1, k2, f0, f1, f2, z1, z2, z3, nes, g1, y0, y1, y2, yn, Ne.symm y0, Ne.symm y1, Ne.symm y2, him, g2, x0, x1, x2, xi, Ne.symm x0, Ne.symm x1, Ne.symm x2, Ne.symm xi, hrm] at q2
      have hc2 := hst2.cell
      have u2 : ¬ id2 = 2 := by omega
      rcases hst2 with ⟨rfl, hs2⟩ | ⟨r2, rfl, hr0, hr1, hrm2⟩
      · simp -dsimp [q2, hjm, u2, Ne.symm u2, hs2, htx, ek]
      · have u4 : ¬ r2 = 2 := by omega
        simp -dsimp [q2, hjm, hrm2, u2, u4, Ne.symm u2, Ne.symm u4, htx, ek]
    · have e8 : d.past.length < 8 := by omega
      have e8' : ¬ (8 : Int) < (d.past.length : Int) + 1 := by omega
      have e8'' : ¬ 8 < d.past.length + 1 := by omega
      have ek : keep8 (d.past ++ [d.now]) = d.past ++ [d.now] := by unfold keep8; rw [if_neg (by simp; omega)]
      have hR2 := hRs (d.past ++ [d.now]) ek
      simp -dsimp [List.range_succ, nes8 n1, k0, k1, k2, f0, f1, f2, z1, z2, z3, nes, g1, y0, y1, y2, yn, Ne.symm y0, Ne.symm y1, Ne.symm y2, him, g2, x0, x1, x2, xi, Ne.symm x0, Ne.symm x1, Ne.symm x2, Ne.symm xi, hrm, hc, b1, htx, fullb, h8, e8, e8', e8'']
      refine callL_ (vs := [(⟨⟨d.now.people, d.now.story ++ [c]⟩, d.past ++ [d.now]⟩ : Desk).v]) (hR2 _ _) (by simp -dsimp [nes8 n1, k0, k1, k2, f0, f1, f2, z1, z2, z3, nes, g1, y0, y1, y2, yn, Ne.symm y0, Ne.symm y1, Ne.symm y2, him, g2, x0, x1, x2, xi, Ne.symm x0, Ne.symm x1, Ne.symm x2, Ne.symm xi, hrm, hc, b1]) ?_
      rintro t m2 n2 ⟨hn2, hout2, id2, st2, rfl, hj0, hj1, hjm, hst2, hne2⟩
      have q2 := hout2 2 (by omega)
      simp -dsimp [nes8 n1, k0, k1, k2, f0, f1, f2, z1, z2, z3, nes, g1, y0, y1, y2, yn, Ne.symm y0, Ne.symm y1, Ne.symm y2, him, g2, x0, x1, x2, xi, Ne.symm x0, Ne.symm x1, Ne.symm x2, Ne.symm xi, hrm] at q2
      have hc2 := hst2.cell
      have u2 : ¬ id2 = 2 := by omega
      rcases hst2 with ⟨rfl, hs2⟩ | ⟨r2, rfl, hr0, hr1, hrm2⟩
      · simp -dsimp [q2, hjm, u2, Ne.symm u2, hs2, htx, ek]
      · have u4 : ¬ r2 = 2 := by omega
        simp -dsimp [q2, hjm, hrm2, u2, u4, Ne.symm u2, Ne.symm u4, htx, ek]
end TL
