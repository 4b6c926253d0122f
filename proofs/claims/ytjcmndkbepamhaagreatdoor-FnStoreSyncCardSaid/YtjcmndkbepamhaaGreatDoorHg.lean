/- TL: parts FnsB5, Fns16, FnsP1, FnsO1, FnsO2, FnsO3, FnsO4, Fns13, Fns14, Fns18, FnsC0, FnsB6, FnsC1, TlLend, FnsC2, FnsC4, FnsE11, FnsD1, FnsD2. -/
import Derived.Test.YtjcmndkbepamhaaGreatDoorHf
import Derived.Test.YtjcmndkbepamhaaGreatDoorHe
import Derived.KernelRfl
import Derived.Test.YtjcmndkbepamhaaGreatDoorHc
/- Terms in a world. -/
set_option linter.unusedSimpArgs false
set_option linter.unusedVariables false
set_option maxRecDepth 100000
set_option maxHeartbeats 4000000
set_option pp.maxSteps 1500
namespace TL
open Go Go.Proofs
attribute [local simp] marksV storyV codeV Claim.v Place.v
theorem cnt_vals : cnt 0 = 0 ∧ cnt 1 = 1 ∧ cnt 2 = 1 ∧ cnt 3 = 2 ∧ cnt 4 = 1 ∧ cnt 5 = 2 ∧ cnt 6 = 2 ∧ cnt 7 = 3 ∧ cnt 8 = 1 ∧ cnt 9 = 2 ∧ cnt 10 = 2 ∧ cnt 11 = 3 ∧ cnt 12 = 2 ∧ cnt 13 = 3 ∧ cnt 14 = 3 ∧ cnt 15 = 4 := by simp [cnt]
theorem onesCount64_fn (w : Nat) (hw : w < 16) : FnZ Tryz.prog 189 [.int .u64 w] (.int .i64 (cnt w)) := by
  have h : w = 0 ∨ w = 1 ∨ w = 2 ∨ w = 3 ∨ w = 4 ∨ w = 5 ∨ w = 6 ∨ w = 7 ∨ w = 8 ∨ w = 9 ∨ w = 10 ∨ w = 11 ∨ w = 12 ∨ w = 13 ∨ w = 14 ∨ w = 15 := by omega
  rcases h with rfl | rfl | rfl | rfl | rfl | rfl | rfl | rfl | rfl | rfl | rfl | rfl | rfl | rfl | rfl | rfl
  all_goals
    simp only [cnt_vals]
    refine FnZ_of (rs := [.tmp 2]) false Tryz.func189 rfl rfl rfl rfl (Nat.le_of_ble_eq_true rfl) ?_
    simp -dsimp
    rfl
theorem onesCount_fn (w : Nat) (hw : w < 16) : FnZ Tryz.prog 183 [.int .u64 w] (.int .i64 (cnt w)) := by
  have e : IntKind.wrap .u64 (w : Int) = w := by simp only [IntKind.wrap, IntKind.bits, IntKind.signed]; simp; omega
  refine FnZ_of (rs := [.tmp 2]) false Tryz.func183 rfl rfl rfl rfl (Nat.le_of_ble_eq_true rfl) ?_
  simp -dsimp
  refine call_ (onesCount64_fn w hw) (by simp -dsimp) ?_
  simp -dsimp
/-- What a term's last part is, the parts' answers last one first. -/
def runStep (w : Nat) (m : Mark) (r : List Bool) : List Bool :=
  if m.kind = 0 then w.testBit m.num.toNat :: r
  else if m.kind = 1 then decide (m.num ≤ cnt w) :: r
  else if m.kind = 2 then match r with
    | b :: r => (!b) :: r
    | [] => []
  else match r with
    | b :: a :: r => (if m.kind = 3 then a && b else if m.kind = 4 then a || b else a == b) :: r
    | _ => []
def runR (w : Nat) (r : List Bool) (t : List Mark) : List Bool := t.foldl (fun r m => runStep w m r) r
def truth (t : List Mark) (w : Nat) : Bool := (runR w [] t).headD false
def stkT (l : List Bool) : List T := l.map fun b => .v (.bool b)
theorem runStep_length {people : Int} {w : Nat} {m : Mark} {r : List Bool} {q : Nat} (h : markStep people r.length m = some q) : (runStep w m r).length = q := by
  unfold markStep at h; unfold runStep
  by_cases k0 : m.kind = 0
  · rw [if_pos k0] at h ⊢
    split at h
    · cases h; simp
    · cases h
  by_cases k1 : m.kind = 1
  · rw [if_neg k0, if_pos k1] at h ⊢
    split at h
    · cases h; simp
    · cases h
  by_cases k2 : m.kind = 2
  · rw [if_neg k0, if_neg k1, if_pos k2] at h ⊢
    split at h
    · cases h
      cases r with
      | nil => simp at *
      | cons b r => simp
    · cases h
  rw [if_neg k0, if_neg k1, if_neg k2] at h ⊢
  split at h
  · split at h
    · cases h
      match r with
      | [] => simp at *
      | [b] => simp at *
      | b :: a :: r => simp
    · cases h
  · cases h
theorem runR_length {people : Int} {w : Nat} : ∀ {t : List Mark} {r : List Bool} {q : Nat}, marksRun people r.length t = some q → (runR w r t).length = q
  | [], r, q, h => by cases h; rfl
  | m :: t, r, q, h => by
    simp only [marksRun] at h
    cases e : markStep people r.length m with
    | none => rw [e] at h; cases h
    | some q' =>
      rw [e] at h
      have hl := runStep_length (w := w) e
      have : marksRun people (runStep w m r).length t = some q := by rw [hl]; exact h
      exact runR_length (t := t) this
/-- The row of answers on the way. -/
def Ihs (people : Int) (w : Nat) (t : List Mark) (e : Nat) (s : S) : Prop := ∃ (i id : Nat) (r : List Bool) (cs ex : List T), s.tm 1 = .v (.int .i64 w) ∧ s.tm 12 = .v (.sl (t.map Mark.v)) ∧ s.tm 13 = .v (.int .i64 t.length) ∧ s.tm 14 = .v (.int .i64 i) ∧ s.tm 5 = .sv id 0 r.length ∧ s.mu = true ∧
  id < s.n ∧ s.m id = some (.box 4 1 cs) ∧ cs = stkT r.reverse ++ ex ∧ i ≤ t.length ∧ r.length ≤ i ∧ marksRun people r.length (t.drop i) = some 1 ∧ runR w r (t.drop i) = runR w [] t ∧ (e = 1 → i = t.length)
theorem stkT_append (a b : List Bool) : stkT (a ++ b) = stkT a ++ stkT b := by simp [stkT]
theorem holds_fn (people : Int) (hp4 : people ≤ 4) (t : List Mark) (ht : marksRun people 0 t = some 1) (hl : t.length ≤ 100) (w : Nat) (hw : w < 16) : FnZ Tryz.prog 171 [marksV t, .int .i64 w] (.bool (truth t w)) := by
  refine FnZ_of (rs := [.tmp 4]) true Tryz.func171 rfl rfl rfl rfl (Nat.le_of_ble_eq_true rfl) ?_
  simp -dsimp
  refine twp_loopC (Ihs people w t 0) (fun s => t.length - natOf (s.tm 14)) (Ihs people w t 1) ?_ ?_ ?_
  · exact ⟨0, 0, [], [], [], by simp -dsimp, by simp -dsimp, by simp -dsimp, by simp -dsimp, by simp -dsimp, by simp -dsimp, by simp -dsimp, by simp -dsimp, by simp [stkT], by omega, by simp, by simpa using ht, by simp, by simp⟩
  · rintro s ⟨i, id, r, cs, ex, t1, t12, t13, t14, t5, hmu, hid, hm, hcs, hi, hri, hrun, hrr, hend⟩
    by_cases hlt : i < t.length
    case neg =>
      simp -dsimp [t13, t14, hlt]
      exact ⟨i, id, r, cs, ex, by simp -dsimp [t1], by simp -dsimp [t12], by simp -dsimp [t13], by simp -dsimp [t14], by simp -dsimp [t5], by simp -dsimp [hmu], by simp -dsimp; omega, by simp -dsimp [hm], hcs, hi, hri, hrun, hrr, fun _ => by omega⟩
    have hget : (t.map Mark.v)[i]? = some (t[i].v) := by simp [hlt]
    have hdrop := drop_cons hlt
    rw [hdrop] at hrun hrr
    have wi : IntKind.wrap .i64 ((i : Int) + 1) = ((i + 1 : Nat) : Int) := by rw [w64 (by omega) (by omega)]; omega
    have hmu1 : t.length - (i + 1) < t.length - i := by omega
    simp only [marksRun] at hrun
    have hsl : ∀ q, markStep people r.length t[i] = some q → (runStep w t[i] r).length = q := fun q h => runStep_length h
    have hrr2 : runR w (runStep w t[i] r) (t.drop (i + 1)) = runR w [] t := hrr
    have f1 := far hid
    have fin : ∀ (s' : S) (q id' : Nat) (ex' : List T), markStep people r.length t[i] = some q → s'.tm 1 = .v (.int .i64 w) → s'.tm 12 = .v (.sl (t.map Mark.v)) → s'.tm 13 = .v (.int .i64 t.length) → s'.tm 14 = .v (.int .i64 (i + 1 : Nat)) → s'.tm 5 = .sv id' 0 q → s'.mu = true →
        id' < s'.n → s'.m id' = some (.box 4 1 (stkT (runStep w t[i] r).reverse ++ ex')) → Ihs people w t 0 s' := by
      intro s' q id' ex' hq a1 a12 a13 a14 a5 amu aid am
      have := hsl q hq
      refine ⟨i + 1, id', runStep w t[i] r, _, ex', a1, a12, a13, a14, by rw [this]; exact a5, amu, aid, am, rfl, by omega, ?_, ?_, hrr2, by simp⟩
      · have := markStep_le hq; omega
      · rw [this]; rw [hq] at hrun; exact hrun
    have wl : IntKind.wrap .i64 ((r.length : Int) - 1) = (r.length : Int) - 1 := w64 (by omega) (by omega)
    have b1 : r.length + 1 ≤ 140737488355328 := by omega
    by_cases k0 : t[i].kind = 0
    · have hk : markStep people r.length t[i] = some (r.length + 1) := by
        unfold markStep at hrun ⊢
        rw [if_pos k0] at hrun ⊢
        split at hrun
        · rename_i h; rw [if_pos h]
        · cases hrun
      have hnum : 0 ≤ t[i].num ∧ t[i].num < people := by
        unfold markStep at hrun
        rw [if_pos k0] at hrun
        split at hrun
        · assumption
        · cases hrun
      obtain ⟨a, ha⟩ := Int.eq_ofNat_of_zero_le hnum.1
      have hbit := bit1 w a (by omega) (by omega)
      have hstep : runStep w t[i] r = w.testBit a :: r := by simp [runStep, k0, ha]
      have htake : cs.take r.length = stkT r.reverse := by rw [hcs, List.take_left' (by simp [stkT])]
      have hll : r.length ≤ cs.length := by rw [hcs]; simp [stkT]
      simp -dsimp [t5, t12, t13, t14, hlt, hget, hmu, hm, f1, wl, k0, ha, t1, hbit, htake, hll, b1, wi, hmu1, show ¬ (a : Int) < 0 by omega]
      refine st_out fun s' ht' hm' hn' hu' => ?_
      have q1 := ht' 1
      have q5 := ht' 5
      have q12 := ht' 12
      have q13 := ht' 13
      have q14 := ht' 14
      simp -dsimp [t1, t12, t13] at q1 q5 q12 q13 q14 hm' hn' hu'
      clear ht'
      refine fin s' (r.length + 1) _ [] hk q1 q12 q13 q14 q5 (by rw [hu', hmu]) (by omega) ?_
      rw [hstep]; simp [hm', stkT]
    by_cases k1 : t[i].kind = 1
    · have hk : markStep people r.length t[i] = some (r.length + 1) := by
        unfold markStep at hrun ⊢
        rw [if_neg k0, if_pos k1] at hrun ⊢
        split at hrun
        · rename_i h; rw [if_pos h]
        · cases hrun
      have hstep : runStep w t[i] r = decide (t[i].num ≤ cnt w) :: r := by simp [runStep, k1]
      have htake : cs.take r.length = stkT r.reverse := by rw [hcs, List.take_left' (by simp [stkT])]
      have hll : r.length ≤ cs.length := by rw [hcs]; simp [stkT]
      have wu : IntKind.wrap .u64 (w : Int) = w := by simp only [IntKind.wrap, IntKind.bits, IntKind.signed]; simp; omega
      have hc := onesCount_fn w hw
      simp -dsimp [t5, t12, t13, t14, hlt, hget, hmu, hm, f1, wl, k0, k1, t1]
      refine twp_draw [0, 1, 2, 4, 5, 3, 6, 7, 8, 9] [s.n] (List.replicate 10 [0]) (List.replicate 10 [0]) (by kernel_rfl) (by kernel_rfl) (by kernel_rfl) (by kernel_rfl) ?_
      simp -dsimp [List.range_succ, t5, t12, t13, t14, hlt, hget, hmu, hm, f1, wl, k0, k1, t1, wu]
      refine call_ hc (by simp -dsimp) ?_
      simp -dsimp [t5, t12, t13, t14, hmu, hm, f1, htake, hll, b1, wi, hmu1, nes]
      refine st_out fun s' ht' hm' hn' hu' => ?_
      have q1 := ht' 1
      have q5 := ht' 5
      have q12 := ht' 12
      have q13 := ht' 13
      have q14 := ht' 14
      simp -dsimp [t1, t5, t12, t13] at q1 q5 q12 q13 q14 hm' hn' hu'
      clear ht'
      refine fin s' (r.length + 1) _ [] hk q1 q12 q13 q14 q5 (by rw [hu', hmu]) (by omega) ?_
      rw [hstep]; simp [hm', stkT]
    by_cases k2 : t[i].kind = 2
    · have hk : markStep people r.length t[i] = some r.length ∧ 1 ≤ r.length := by
        unfold markStep at hrun ⊢
        rw [if_neg k0, if_neg k1, if_pos k2] at hrun ⊢
        split at hrun
        · rename_i h; rw [if_pos h]; exact ⟨rfl, h.2⟩
        · cases hrun
      obtain ⟨hk, h1⟩ := hk
      obtain ⟨b, r0, hr⟩ : ∃ b r0, r = b :: r0 := by
        cases r with
        | nil => simp at h1
        | cons b r0 => exact ⟨b, r0, rfl⟩
      obtain ⟨K1, hK1⟩ : ∃ K1, K1 = r0.length := ⟨_, rfl⟩
      have hKr : r.length = K1 + 1 := by rw [hr, hK1]; rfl
      have hstep : runStep w t[i] r = (!b) :: r0 := by rw [hr]; simp [runStep, k2]
      have g1 : cs[K1]? = some (.v (.bool b)) := by rw [hcs, hr, hK1]; simp [stkT]
      have hset : cs.set K1 (.v (.bool !b)) = stkT (runStep w t[i] r).reverse ++ ex := by
        rw [hstep, hcs, hr, hK1]; simp [stkT]
      have hlc : K1 + 1 ≤ cs.length := by rw [hcs, hr, hK1]; simp [stkT]
      have wl : IntKind.wrap .i64 ((r.length : Int) - 1) = (K1 : Int) := by rw [w64 (by omega) (by omega)]; omega
      have i1 : (K1 : Int) < r.length := by omega
      generalize r.length = K at *
      simp -dsimp [t5, t12, t13, t14, hlt, hget, hmu, hm, f1, wl, k0, k1, k2, t1, g1, i1, hset, hlc, wi, hmu1]
      refine st_out fun s' ht' hm' hn' hu' => ?_
      have q1 := ht' 1
      have q5 := ht' 5
      have q12 := ht' 12
      have q13 := ht' 13
      have q14 := ht' 14
      simp -dsimp [t1, t5, t12, t13] at q1 q5 q12 q13 q14 hm' hn' hu'
      clear ht'
      refine fin s' K _ ex hk q1 q12 q13 q14 q5 (by rw [hu', hmu]) (by omega) ?_
      simp [hm']
    have hk : (t[i].kind = 3 ∨ t[i].kind = 4 ∨ t[i].kind = 5) ∧ markStep people r.length t[i] = some (r.length - 1) ∧ 2 ≤ r.length := by
      unfold markStep at hrun ⊢
      rw [if_neg k0, if_neg k1, if_neg k2] at hrun ⊢
      split at hrun
      · rename_i hkk
        rw [if_pos hkk]
        split at hrun
        · rename_i h; rw [if_pos h]; exact ⟨hkk, rfl, h.2⟩
        · cases hrun
      · cases hrun
    obtain ⟨hkk, hk, h1⟩ := hk
    obtain ⟨b, a, r0, hr⟩ : ∃ b a r0, r = b :: a :: r0 := by
      match r, h1 with
      | b :: a :: r0, _ => exact ⟨b, a, r0, rfl⟩
    obtain ⟨K2, hK2⟩ : ∃ K2, K2 = r0.length := ⟨_, rfl⟩
    obtain ⟨K1, hK1⟩ : ∃ K1, K1 = K2 + 1 := ⟨_, rfl⟩
    have hKr : r.length = K1 + 1 := by rw [hr, hK1, hK2]; rfl
    have hstep : runStep w t[i] r = (if t[i].kind = 3 then a && b else if t[i].kind = 4 then a || b else a == b) :: r0 := by rw [hr]; simp [runStep, k0, k1, k2]
    have g1 : cs[K1]? = some (.v (.bool b)) := by rw [hcs, hr, hK1, hK2]; simp [stkT]
    have g2 : cs[K2]? = some (.v (.bool a)) := by rw [hcs, hr, hK2]; simp [stkT]
    have hset : ∀ x, (if t[i].kind = 3 then a && b else if t[i].kind = 4 then a || b else a == b) = x → cs.set K2 (.v (.bool x)) = stkT (runStep w t[i] r).reverse ++ (.v (.bool b) :: ex) := by
      intro x hx
      rw [hstep, hcs, hr, hK2, hx]; simp [stkT]
    have hlc : K2 + 1 ≤ cs.length := by rw [hcs, hr, hK2]; simp [stkT]
    have wl : IntKind.wrap .i64 ((r.length : Int) - 1) = (K1 : Int) := by rw [w64 (by omega) (by omega)]; omega
    have wl2 : IntKind.wrap .i64 ((K1 : Int) - 1) = (K2 : Int) := by rw [w64 (by omega) (by omega)]; omega
    have i1 : (K1 : Int) < r.length := by omega
    have i2 : (K2 : Int) < r.length := by omega
    have i3 : (K1 : Int) ≤ r.length := by omega
    have i4 : (K2 : Int) < K1 := by omega
    generalize r.length = K at *
    have hk : markStep people K t[i] = some K1 := by rw [hk]; congr 1; omega
    by_cases k3 : t[i].kind = 3
    · have ha := ft a
      rcases ha with ha | ha
      · have hset := hset (false) (by rw [if_pos k3, ha]; rfl)
        simp -dsimp [t5, t12, t13, t14, hlt, hget, hmu, hm, f1, wl, wl2, k0, k1, k2, k3, ha, t1]
        refine twp_draw (List.range 11) [id] (List.replicate 11 [0]) (List.replicate 11 [0]) (by kernel_rfl) (by kernel_rfl) (by kernel_rfl) (by kernel_rfl) ?_
        simp -dsimp [List.range_succ, t5, t12, t13, t14, hlt, hget, hmu, hm, f1, wl, wl2, k0, k1, k2, k3, ha, t1, g1, g2, i1, i2, i3, i4, hset, hlc, wi, hmu1]
        refine st_out fun s' ht' hm' hn' hu' => ?_
        have q1 := ht' 1
        have q5 := ht' 5
        have q12 := ht' 12
        have q13 := ht' 13
        have q14 := ht' 14
        simp -dsimp [t1, t5, t12, t13] at q1 q5 q12 q13 q14 hm' hn' hu'
        clear ht'
        refine fin s' K1 _ (.v (.bool b) :: ex) hk q1 q12 q13 q14 q5 (by rw [hu', hmu]) (by omega) ?_
        simp [hm']
      · have hset := hset (b) (by rw [if_pos k3, ha]; simp)
        simp -dsimp [t5, t12, t13, t14, hlt, hget, hmu, hm, f1, wl, wl2, k0, k1, k2, k3, ha, t1]
        refine twp_draw (List.range 11) [id] (List.replicate 11 [0]) (List.replicate 11 [0]) (by kernel_rfl) (by kernel_rfl) (by kernel_rfl) (by kernel_rfl) ?_
        simp -dsimp [List.range_succ, t5, t12, t13, t14, hlt, hget, hmu, hm, f1, wl, wl2, k0, k1, k2, k3, ha, t1, g1, g2, i1, i2, i3, i4, hset, hlc, wi, hmu1]
        refine st_out fun s' ht' hm' hn' hu' => ?_
        have q1 := ht' 1
        have q5 := ht' 5
        have q12 := ht' 12
        have q13 := ht' 13
        have q14 := ht' 14
        simp -dsimp [t1, t5, t12, t13] at q1 q5 q12 q13 q14 hm' hn' hu'
        clear ht'
        refine fin s' K1 _ (.v (.bool b) :: ex) hk q1 q12 q13 q14 q5 (by rw [hu', hmu]) (by omega) ?_
        simp [hm']
    by_cases k4 : t[i].kind = 4
    · have ha := ft a
      rcases ha with ha | ha
      · have hset := hset (b) (by rw [if_neg k3, if_pos k4, ha]; simp)
        simp -dsimp [t5, t12, t13, t14, hlt, hget, hmu, hm, f1, wl, wl2, k0, k1, k2, k3, k4, ha, t1]
        refine twp_draw (List.range 11) [id] (List.replicate 11 [0]) (List.replicate 11 [0]) (by kernel_rfl) (by kernel_rfl) (by kernel_rfl) (by kernel_rfl) ?_
        simp -dsimp [List.range_succ, t5, t12, t13, t14, hlt, hget, hmu, hm, f1, wl, wl2, k0, k1, k2, k3, k4, ha, t1, g1, g2, i1, i2, i3, i4, hset, hlc, wi, hmu1]
        refine st_out fun s' ht' hm' hn' hu' => ?_
        have q1 := ht' 1
        have q5 := ht' 5
        have q12 := ht' 12
        have q13 := ht' 13
        have q14 := ht' 14
        simp -dsimp [t1, t5, t12, t13] at q1 q5 q12 q13 q14 hm' hn' hu'
        clear ht'
        refine fin s' K1 _ (.v (.bool b) :: ex) hk q1 q12 q13 q14 q5 (by rw [hu', hmu]) (by omega) ?_
        simp [hm']
      · have hset := hset (true) (by rw [if_neg k3, if_pos k4, ha]; simp)
        simp -dsimp [t5, t12, t13, t14, hlt, hget, hmu, hm, f1, wl, wl2, k0, k1, k2, k3, k4, ha, t1]
        refine twp_draw (List.range 11) [id] (List.replicate 11 [0]) (List.replicate 11 [0]) (by kernel_rfl) (by kernel_rfl) (by kernel_rfl) (by kernel_rfl) ?_
        simp -dsimp [List.range_succ, t5, t12, t13, t14, hlt, hget, hmu, hm, f1, wl, wl2, k0, k1, k2, k3, k4, ha, t1, g1, g2, i1, i2, i3, i4, hset, hlc, wi, hmu1]
        refine st_out fun s' ht' hm' hn' hu' => ?_
        have q1 := ht' 1
        have q5 := ht' 5
        have q12 := ht' 12
        have q13 := ht' 13
        have q14 := ht' 14
        simp -dsimp [t1, t5, t12, t13] at q1 q5 q12 q13 q14 hm' hn' hu'
        clear ht'
        refine fin s' K1 _ (.v (.bool b) :: ex) hk q1 q12 q13 q14 q5 (by rw [hu', hmu]) (by omega) ?_
        simp [hm']
    have hset := hset (a == b) (by rw [if_neg k3, if_neg k4])
    simp -dsimp [t5, t12, t13, t14, hlt, hget, hmu, hm, f1, wl, wl2, k0, k1, k2, k3, k4, t1]
    refine twp_draw (List.range 11) [id] (List.replicate 11 [0]) (List.replicate 11 [0]) (by kernel_rfl) (by kernel_rfl) (by kernel_rfl) (by kernel_rfl) ?_
    simp -dsimp [List.range_succ, t5, t12, t13, t14, hlt, hget, hmu, hm, f1, wl, wl2, k0, k1, k2, k3, k4, t1, g1, g2, i1, i2, i3, i4, hset, hlc, wi, hmu1]
    refine st_out fun s' ht' hm' hn' hu' => ?_
    have q1 := ht' 1
    have q5 := ht' 5
    have q12 := ht' 12
    have q13 := ht' 13
    have q14 := ht' 14
    simp -dsimp [t1, t5, t12, t13] at q1 q5 q12 q13 q14 hm' hn' hu'
    clear ht'
    refine fin s' K1 _ (.v (.bool b) :: ex) hk q1 q12 q13 q14 q5 (by rw [hu', hmu]) (by omega) ?_
    simp [hm']
  · rintro s ⟨i, id, r, cs, ex, t1, t12, t13, t14, t5, hmu, hid, hm, hcs, hi, hri, hrun, hrr, hend⟩
    have := hend rfl
    subst this
    rw [List.drop_length] at hrun hrr
    simp only [marksRun, Option.some.injEq] at hrun
    obtain ⟨b, rfl⟩ : ∃ b, r = [b] := by
      match r, hrun with
      | [b], _ => exact ⟨b, rfl⟩
    have hb : truth t w = b := by unfold truth; rw [← hrr]; rfl
    rw [hb]
    simp -dsimp [t5, hm, hcs, stkT]
end TL

/- Desks. -/
set_option linter.unusedSimpArgs false
set_option linter.unusedVariables false
set_option maxRecDepth 100000
set_option maxHeartbeats 4000000
set_option pp.maxSteps 1500
namespace TL
open Go Go.Proofs
attribute [local simp] marksV storyV codeV Claim.v Place.v Desk.v
def Il15 (p : Place) (e : Nat) (s : S) : Prop := ∃ (i : Nat) (st : T) (z : List T), s.tm 1 = .ptr 0 0 ∧ s.tm 2 = .ptr 1 0 ∧ s.tm 3 = .ptr 2 0 ∧ s.tm 4 = .v (.int .i64 i) ∧ s.mu = false ∧ i ≤ p.story.length ∧ 3 ≤ s.n ∧
  s.m 0 = some (.box 48 2 [.v (.int .i64 p.people), .v (storyV p.story)]) ∧ s.m 1 = some (.box 48 2 z) ∧ z.length = 2 ∧ s.m 2 = some (.box 48 2 [.v (.int .i64 p.people), st]) ∧ IsRow s.m 3 s.n 89 st ((p.story.take i).map Claim.v) ∧ (e = 1 → i = p.story.length)
theorem l15Place_fn (p : Place) (hp : p.small) : FnZ Tryz.prog 101 [p.v] p.v := by
  have hl := hp.1
  refine FnZ_of (rs := [.cell 2 48]) false Tryz.func101 rfl rfl rfl rfl (Nat.le_of_ble_eq_true rfl) ?_
  simp -dsimp
  refine twp_loopC (Il15 p 0) (fun s => p.story.length - natOf (s.tm 4)) (Il15 p 1) ?_ ?_ ?_
  · exact ⟨0, .nil, [.v (.int .i64 0), .nil], by simp -dsimp, by simp -dsimp, by simp -dsimp, by simp -dsimp, by simp -dsimp, by omega, by simp -dsimp, by simp -dsimp, by simp -dsimp, rfl, by simp -dsimp, .inl ⟨rfl, by simp⟩, by simp⟩
  · rintro s ⟨i, st, z, t1, t2, t3, t4, hmu, hi, hn, m0, m1, hz, m2, hst, hend⟩
    by_cases hlt : i < p.story.length
    case neg =>
      simp -dsimp [t1, t4, m0, hlt]
      exact ⟨i, st, z, by simp -dsimp [t1], by simp -dsimp [t2], by simp -dsimp [t3], by simp -dsimp [t4], by simp -dsimp [hmu], hi, by simp -dsimp; omega, by simp -dsimp [m0], by simp -dsimp [m1], hz, by simp -dsimp [m2], hst, fun _ => by omega⟩
    have hget : (p.story.map Claim.v)[i]? = some (p.story[i].v) := by simp [hlt]
    have wi : IntKind.wrap .i64 ((i : Int) + 1) = ((i + 1 : Nat) : Int) := by rw [w64 (by omega) (by omega)]; omega
    have hmu1 : p.story.length - (i + 1) < p.story.length - i := by omega
    have f0 := far (show 0 < s.n by omega)
    have f1 := far (show 1 < s.n by omega)
    have f2 := far (show 2 < s.n by omega)
    have hsm := hp.2 p.story[i] (List.getElem_mem _)
    unfold Claim.small at hsm
    have b0 : p.story[i].says.length * 16 ≤ 140737488355328 := by omega
    have b1 : (min i p.story.length + 1) * 32 ≤ 140737488355328 := by omega
    have htk : (p.story.take (i + 1)).map Claim.v = (p.story.take i).map Claim.v ++ [p.story[i].v] := by rw [List.take_succ_eq_append_getElem hlt, List.map_append]; rfl
    simp -dsimp [t1, t4, m0, hlt]
    refine twp_draw [0, 1, 2, 3, 4, 5, 6, 7, 9, 10, 11, 12, 13, 14, 8, 15, 16, 17, 18, 19, 20] [0, 2] (List.replicate 21 [0, 1]) (List.replicate 20 [0, 1] ++ [[0]]) (by kernel_rfl) (by kernel_rfl) (by kernel_rfl) (by kernel_rfl) ?_
    rcases hst with ⟨rfl, hs0⟩ | ⟨id, rfl, hi0, hi1, him⟩
    · simp -dsimp [t1, t3, t4, m0, m2, hlt, hget, hmu, nes, f0, f1, f2, b0, wi, hmu1]
      have hi00 : i = 0 := by
        simp at hs0; rcases hs0 with h | h
        · exact h
        · rw [h] at hlt; simp at hlt
      subst hi00
      refine st_out fun s' ht hm' hn' hu' => ?_
      have q1 := ht 1
      have q2 := ht 2
      have q3 := ht 3
      have q4 := ht 4
      simp -dsimp [t1, t2, t3] at q1 q2 q3 q4 hm' hn' hu'
      clear ht
      have hn0 : ¬ s.n = 0 := by omega
      have hn1 : ¬ s.n = 1 := by omega
      refine ⟨1, .loc (s.n + 1 + 1 + 1), z, q1, q2, q3, q4, by rw [hu', hmu], by omega, by omega, by simp [hm', hn0, hn1, f0, m0], by simp [hm', hn0, hn1, f1, m1], hz, by simp [hm', hn0, hn1], .inr ⟨s.n + 1 + 1 + 1, rfl, by omega, by omega, ?_⟩, by simp⟩
      rw [htk]; simp [hm', hn0, hn1, f2]
    · have g1 := far hi1
      have g2 : ¬ id = 2 := by omega
      have g0 : ¬ id = 0 := by omega
      have g3 : ¬ id = 1 := by omega
      simp -dsimp [t1, t3, t4, m0, m2, hlt, hget, hmu, nes, f0, f1, f2, b0, b1, g1, g2, g0, g3, Ne.symm g0, Ne.symm g2, Ne.symm g3, him, wi, hmu1]
      refine st_out fun s' ht hm' hn' hu' => ?_
      have q1 := ht 1
      have q2 := ht 2
      have q3 := ht 3
      have q4 := ht 4
      simp -dsimp [t1, t2, t3] at q1 q2 q3 q4 hm' hn' hu'
      clear ht
      have hn0 : ¬ s.n = 0 := by omega
      have hn1 : ¬ s.n = 1 := by omega
      refine ⟨i + 1, .loc (s.n + 1 + 1 + 1), z, q1, q2, q3, q4, by rw [hu', hmu], by omega, by omega, by simp [hm', hn0, hn1, f0, m0, Ne.symm g0], by simp [hm', hn0, hn1, f1, m1, Ne.symm g3], hz, by simp [hm', hn0, hn1], .inr ⟨s.n + 1 + 1 + 1, rfl, by omega, by omega, ?_⟩, by simp⟩
      rw [htk]; simp [hm', hn0, hn1, f2, nes]
  · rintro s ⟨i, st, z, t1, t2, t3, t4, hmu, hi, hn, m0, m1, hz, m2, hst, hend⟩
    have := hend rfl
    subst this
    rw [List.take_length] at hst
    obtain ⟨z0, z1, rfl⟩ : ∃ a b, z = [a, b] := by
      match z, hz with
      | [a, b], _ => exact ⟨a, b, rfl⟩
    rcases hst with ⟨rfl, hs0⟩ | ⟨id, rfl, hi0, hi1, him⟩
    · simp -dsimp [t2, t3, m1, m2, hs0]
    · have g3 : ¬ id = 1 := by omega
      simp -dsimp [t2, t3, m1, m2, him, g3]
def deskNew (p : Place) : Desk := if placeOk p then ⟨p, []⟩ else noDeskV
theorem deskNew_fn (p : Place) (hp : p.small) : FnZ Tryz.prog 35 [p.v] (.tup [(deskNew p).v, .bool (placeOk p)]) := by
  refine FnZ_of (rs := [.cell 2 53, .tmp 3]) false Tryz.func35 rfl rfl rfl rfl (Nat.le_of_ble_eq_true rfl) ?_
  simp -dsimp
  refine call_ (placeOk_fn p (by have := hp.1; omega)) (by simp -dsimp) ?_
  have hk := ft (placeOk p)
  rcases hk with hk | hk
  · simp -dsimp [hk, deskNew, noDeskV]
  · simp -dsimp [hk]
    refine call_ (copyPlace_fn p hp) (by simp -dsimp) ?_
    simp -dsimp [deskNew, hk]
end TL

/- Desks: what a deed makes of one, in plain words. -/
set_option linter.unusedSimpArgs false
set_option linter.unusedVariables false
set_option maxRecDepth 100000
set_option maxHeartbeats 4000000
set_option pp.maxSteps 1500
namespace TL
open Go Go.Proofs
/-- Whether a claim may be made in a world. -/
def mayB (c : Claim) (w : Nat) : Bool := truth c.says w == w.testBit c.who.toNat
def claimTab (p : Nat) (c : Claim) : Nat := tabN (2 ^ p) (mayB c)
def storyTab (p : Nat) (l : List Claim) : Nat := l.foldl (fun t c => t &&& claimTab p c) (2 ^ 2 ^ p - 1)
theorem testBit_fold (p i : Nat) : ∀ (l : List Claim) (t : Nat), (l.foldl (fun t c => t &&& claimTab p c) t).testBit i = (t.testBit i && l.all fun c => (claimTab p c).testBit i)
  | [], t => by simp
  | c :: l, t => by
    rw [List.foldl_cons, testBit_fold p i l, Nat.testBit_and, List.all_cons, Bool.and_assoc]
theorem testBit_story (p i : Nat) (l : List Claim) : (storyTab p l).testBit i = (decide (i < 2 ^ p) && l.all fun c => mayB c i) := by
  unfold storyTab claimTab
  have h := testBit_fold p i l (2 ^ 2 ^ p - 1)
  unfold claimTab at h
  rw [h, Nat.testBit_two_pow_sub_one]
  by_cases hi : i < 2 ^ p
  · simp only [testBit_tabN, hi, decide_true, Bool.true_and]
  · simp [hi]
theorem storyTab_le (p : Nat) (l : List Claim) : storyTab p l < 2 ^ 2 ^ p := Nat.lt_pow_two_of_testBit _ fun i hi => by
  rw [testBit_story]
  have : ¬ i < 2 ^ p := by omega
  simp [this]
theorem fold_le (p : Nat) : ∀ (l : List Claim) (t : Nat), l.foldl (fun t c => t &&& claimTab p c) t ≤ t
  | [], t => Nat.le_refl _
  | c :: l, t => Nat.le_trans (fold_le p l _) Nat.and_le_left
/-- What is left of a story if each claim is left out that is not needed. -/
def leastGo (p : Nat) : Nat → Nat → List Claim → List Claim
  | 0, _, l => l
  | f + 1, i, l => if i < l.length then (if storyTab p (l.eraseIdx i) = storyTab p l then leastGo p f i (l.eraseIdx i) else leastGo p f (i + 1) l) else l
def least (p : Nat) (l : List Claim) : List Claim := leastGo p l.length 0 l
theorem leastGo_tab (p : Nat) : ∀ f i l, storyTab p (leastGo p f i l) = storyTab p l
  | 0, _, _ => rfl
  | f + 1, i, l => by
    unfold leastGo
    split
    · split
      · rename_i h; rw [leastGo_tab p f]; exact h
      · exact leastGo_tab p f _ _
    · rfl
theorem leastGo_sub (p : Nat) : ∀ f i l, (leastGo p f i l).Sublist l
  | 0, _, _ => List.Sublist.refl _
  | f + 1, i, l => by
    unfold leastGo
    split
    · split
      · exact (leastGo_sub p f _ _).trans (List.eraseIdx_sublist _ _)
      · exact leastGo_sub p f _ _
    · exact List.Sublist.refl _
theorem least_tab (p : Nat) (l : List Claim) : storyTab p (least p l) = storyTab p l := leastGo_tab ..
theorem least_sub (p : Nat) (l : List Claim) : (least p l).Sublist l := leastGo_sub ..
theorem leastGo_end {p f i : Nat} {l : List Claim} (hf : f = l.length - i) (h : ¬ i < l.length) : leastGo p f i l = l := by
  have : f = 0 := by omega
  subst this; rfl
theorem leastGo_out {p i : Nat} {l : List Claim} (h : i < l.length) (he : storyTab p (l.eraseIdx i) = storyTab p l) : leastGo p (l.length - i) i l = leastGo p ((l.eraseIdx i).length - i) i (l.eraseIdx i) := by
  have e1 : (l.eraseIdx i).length = l.length - 1 := by rw [List.length_eraseIdx]; simp [h]
  obtain ⟨f, hf⟩ : ∃ f, l.length - i = f + 1 := ⟨l.length - i - 1, by omega⟩
  rw [hf, show (l.eraseIdx i).length - i = f by omega, leastGo, if_pos h, if_pos he]
theorem leastGo_keep {p i : Nat} {l : List Claim} (h : i < l.length) (he : storyTab p (l.eraseIdx i) ≠ storyTab p l) : leastGo p (l.length - i) i l = leastGo p (l.length - (i + 1)) (i + 1) l := by
  obtain ⟨f, hf⟩ : ∃ f, l.length - i = f + 1 := ⟨l.length - i - 1, by omega⟩
  rw [hf, show l.length - (i + 1) = f by omega, leastGo, if_pos h, if_neg he]
theorem storyOk_sub {people : Int} {l k : List Claim} (h : storyOk people l = true) (hs : k.Sublist l) : storyOk people k = true := by
  simp only [storyOk, Bool.and_eq_true, decide_eq_true_eq, List.all_eq_true] at h ⊢
  exact ⟨⟨fun c hc => h.1.1 c (hs.subset hc), h.1.2⟩, Nat.le_trans hs.length_le h.2⟩
/-- What a deed makes of a place. -/
noncomputable def made (p : Place) (a : Deed) : Place :=
  if a.kind = 0 ∧ a.num = 0 then (match readC p.people a.words with
    | some c => ⟨p.people, p.story ++ [c]⟩
    | none => ⟨0, []⟩)
  else if a.kind = 1 ∧ a.words = [] ∧ 0 ≤ a.num ∧ a.num < p.story.length then ⟨p.people, p.story.eraseIdx a.num.toNat⟩
  else if a.kind = 2 ∧ a.words = [] then ⟨a.num, p.story⟩
  else if a.kind = 3 ∧ a.num = 0 ∧ a.words = [] then ⟨p.people, least p.people.toNat p.story⟩
  else ⟨0, []⟩
def keep8 (l : List Place) : List Place := if 8 < l.length then l.drop 1 else l
def isBack (a : Deed) : Bool := decide (a = ⟨4, 0, []⟩)
noncomputable def goodDo (d : Desk) (a : Deed) : Bool := placeOk (made d.now a) && !decide (placeTx (made d.now a) = placeTx d.now)
noncomputable def deskDo (d : Desk) (a : Deed) : Desk × Bool :=
  if deskOk d = true then
    if isBack a = true ∧ d.past ≠ [] then (⟨d.past.getLast?.getD d.now, d.past.dropLast⟩, true)
    else if goodDo d a = true then (⟨made d.now a, keep8 (d.past ++ [d.now])⟩, true) else (d, false)
  else (noDeskV, false)
theorem zero_no : placeOk ⟨0, []⟩ = false := by decide
theorem deskOk_iff {d : Desk} : deskOk d = true ↔ (∀ p ∈ d.past, placeOk p = true) ∧ placeOk d.now = true ∧ d.past.length ≤ 8 := by
  simp only [deskOk, Bool.and_eq_true, decide_eq_true_eq, List.all_eq_true, and_assoc]
theorem keep8_len (l : List Place) (h : l.length ≤ 9) : (keep8 l).length ≤ 8 := by
  unfold keep8; split
  · simp; omega
  · omega
theorem keep8_mem {l : List Place} {p : Place} (h : p ∈ keep8 l) : p ∈ l := by
  unfold keep8 at h; split at h
  · exact List.mem_of_mem_drop h
  · exact h
theorem deskDo_no {d : Desk} (h : deskOk d = false) (a : Deed) : deskDo d a = (noDeskV, false) := by unfold deskDo; rw [if_neg (by simp [h])]
theorem deskDo_back {d : Desk} (h : deskOk d = true) {a : Deed} (ha : isBack a = true) (hp : d.past ≠ []) : deskDo d a = (⟨d.past.getLast?.getD d.now, d.past.dropLast⟩, true) := by
  unfold deskDo; rw [if_pos h, if_pos ⟨ha, hp⟩]
theorem deskDo_good {d : Desk} (h : deskOk d = true) {a : Deed} (ha : goodDo d a = true) (hb : ¬ (isBack a = true ∧ d.past ≠ [])) : deskDo d a = (⟨made d.now a, keep8 (d.past ++ [d.now])⟩, true) := by
  unfold deskDo; rw [if_pos h, if_neg hb, if_pos ha]
theorem deskDo_bad {d : Desk} (h : deskOk d = true) {a : Deed} (ha : goodDo d a = false) (hb : ¬ (isBack a = true ∧ d.past ≠ [])) : deskDo d a = (d, false) := by
  unfold deskDo; rw [if_pos h, if_neg hb, if_neg (by simp [ha])]
theorem made_back {p : Place} {a : Deed} (h : isBack a = true) : made p a = ⟨0, []⟩ := by
  simp only [isBack, decide_eq_true_eq] at h
  subst h; simp [made]
theorem good_back {d : Desk} {a : Deed} (h : isBack a = true) : goodDo d a = false := by
  unfold goodDo; rw [made_back h, zero_no]; rfl
theorem deskDo_ways (d : Desk) (a : Deed) : (deskOk d = false ∧ deskDo d a = (noDeskV, false)) ∨ (deskOk d = true ∧ isBack a = true ∧ d.past ≠ [] ∧ deskDo d a = (⟨d.past.getLast?.getD d.now, d.past.dropLast⟩, true)) ∨
    (deskOk d = true ∧ isBack a = false ∧ goodDo d a = true ∧ deskDo d a = (⟨made d.now a, keep8 (d.past ++ [d.now])⟩, true)) ∨ (deskOk d = true ∧ goodDo d a = false ∧ deskDo d a = (d, false)) := by
  cases h : deskOk d
  · exact .inl ⟨rfl, deskDo_no h a⟩
  · by_cases hb : isBack a = true ∧ d.past ≠ []
    · exact .inr (.inl ⟨rfl, hb.1, hb.2, deskDo_back h hb.1 hb.2⟩)
    · cases hg : goodDo d a
      · exact .inr (.inr (.inr ⟨rfl, rfl, deskDo_bad h hg hb⟩))
      · refine .inr (.inr (.inl ⟨rfl, ?_, rfl, deskDo_good h hg hb⟩))
        cases hx : isBack a
        · rfl
        · rw [good_back hx] at hg; cases hg
theorem deskDo_ok (d : Desk) (a : Deed) (h : deskOk d = true) : deskOk (deskDo d a).1 = true := by
  have h0 := deskOk_iff.1 h
  rcases deskDo_ways d a with ⟨h1, _⟩ | ⟨_, _, hp, e⟩ | ⟨_, _, hg, e⟩ | ⟨_, _, e⟩
  · rw [h] at h1; cases h1
  · rw [e]
    refine deskOk_iff.2 ⟨fun p hp => h0.1 p (List.dropLast_subset _ hp), ?_, by simp; omega⟩
    rw [List.getLast?_eq_some_getLast hp]
    exact h0.1 _ (List.getLast_mem hp)
  · rw [e]
    have hg' : placeOk (made d.now a) = true := by
      simp only [goodDo, Bool.and_eq_true] at hg; exact hg.1
    refine deskOk_iff.2 ⟨fun p hp => ?_, hg', keep8_len _ (by simp; omega)⟩
    rcases List.mem_append.1 (keep8_mem hp) with h1 | h1
    · exact h0.1 p h1
    · rw [List.mem_singleton.1 h1]; exact h0.2.1
  · rw [e]; exact h
theorem deskDo_undo {d : Desk} {a : Deed} (h : (deskDo d a).2 = true) (hk : a.kind ≠ 4) (hl : d.past.length < 8) : deskDo (deskDo d a).1 ⟨4, 0, []⟩ = (d, true) := by
  rcases deskDo_ways d a with ⟨h1, e⟩ | ⟨_, hb, hp, e⟩ | ⟨h1, _, hg, e⟩ | ⟨_, _, e⟩
  · rw [e] at h; cases h
  · simp only [isBack, decide_eq_true_eq] at hb
    rw [hb] at hk; exact absurd rfl hk
  · have hok := deskDo_ok d a h1
    rw [e] at hok ⊢
    have ek : keep8 (d.past ++ [d.now]) = d.past ++ [d.now] := by unfold keep8; rw [if_neg (by simp; omega)]
    rw [ek] at hok ⊢
    rw [deskDo_back hok (by rfl) (by simp)]
    simp
  · rw [e] at h; cases h
theorem deskDo_sure {d : Desk} {a : Deed} (h : (deskDo d a).2 = true) : deskOk d = true := by
  cases hd : deskOk d
  · rw [deskDo_no hd] at h; cases h
  · rfl
theorem deskDo_same {d : Desk} {a : Deed} (h : (deskDo d a).2 = false) : deskOk d = false ∨ (deskDo d a).1 = d := by
  rcases deskDo_ways d a with ⟨h1, e⟩ | ⟨_, hb, hp, e⟩ | ⟨h1, _, hg, e⟩ | ⟨_, _, e⟩
  · exact .inl h1
  · rw [e] at h; cases h
  · rw [e] at h; cases h
  · exact .inr (by rw [e])
/-- The tables of before and after. -/
theorem kept_do {d : Desk} {a : Deed} (h : (deskDo d a).2 = true) :
    (a.kind = 0 → storyTab (deskDo d a).1.now.people.toNat (deskDo d a).1.now.story &&& storyTab d.now.people.toNat d.now.story = storyTab (deskDo d a).1.now.people.toNat (deskDo d a).1.now.story) ∧
    (a.kind = 1 → storyTab d.now.people.toNat d.now.story &&& storyTab (deskDo d a).1.now.people.toNat (deskDo d a).1.now.story = storyTab d.now.people.toNat d.now.story) ∧
    (a.kind = 3 → storyTab (deskDo d a).1.now.people.toNat (deskDo d a).1.now.story = storyTab d.now.people.toNat d.now.story) := by
  rcases deskDo_ways d a with ⟨h1, e⟩ | ⟨_, hb, hp, e⟩ | ⟨h1, _, hg, e⟩ | ⟨_, _, e⟩
  · rw [e] at h; cases h
  · simp only [isBack, decide_eq_true_eq] at hb
    subst hb
    refine ⟨fun h => ?_, fun h => ?_, fun h => ?_⟩ <;> simp at h
  · have hg' : placeOk (made d.now a) = true := by
      simp only [goodDo, Bool.and_eq_true] at hg; exact hg.1
    rw [e]
    simp only
    refine ⟨fun hk => ?_, fun hk => ?_, fun hk => ?_⟩
    · unfold made at hg' ⊢
      by_cases hn : a.num = 0
      · rw [if_pos ⟨hk, hn⟩] at hg' ⊢
        cases hr : readC d.now.people a.words with
        | none => rw [hr] at hg'; rw [zero_no] at hg'; cases hg'
        | some c =>
          simp only
          apply Nat.eq_of_testBit_eq
          intro i
          rw [Nat.testBit_and, testBit_story, testBit_story, List.all_append]
          cases decide (i < 2 ^ d.now.people.toNat) <;> cases (d.now.story.all fun c => mayB c i) <;> simp
      · rw [if_neg (fun h => hn h.2), if_neg (by rw [hk]; simp), if_neg (by rw [hk]; simp), if_neg (by rw [hk]; simp), zero_no] at hg'; cases hg'
    · unfold made at hg' ⊢
      rw [if_neg (by rw [hk]; simp)] at hg' ⊢
      by_cases hn : a.kind = 1 ∧ a.words = [] ∧ 0 ≤ a.num ∧ a.num < d.now.story.length
      · rw [if_pos hn] at hg' ⊢
        simp only
        apply Nat.eq_of_testBit_eq
        intro i
        rw [Nat.testBit_and, testBit_story, testBit_story]
        cases decide (i < 2 ^ d.now.people.toNat)
        · simp
        · cases hx : (d.now.story.all fun c => mayB c i)
          · simp
          · have : ((d.now.story.eraseIdx a.num.toNat).all fun c => mayB c i) = true := by
              rw [List.all_eq_true] at hx ⊢
              exact fun c hc => hx c ((List.eraseIdx_sublist _ _).subset hc)
            simp [this]
      · rw [if_neg hn, if_neg (by rw [hk]; simp), if_neg (by rw [hk]; simp), zero_no] at hg'; cases hg'
    · unfold made at hg' ⊢
      rw [if_neg (by rw [hk]; simp), if_neg (by rw [hk]; simp), if_neg (by rw [hk]; simp)] at hg' ⊢
      by_cases hn : a.kind = 3 ∧ a.num = 0 ∧ a.words = []
      · rw [if_pos hn]; exact least_tab _ _
      · rw [if_neg hn, zero_no] at hg'; cases hg'
  · rw [e] at h; cases h
/-- Deeds, one after the other. -/
noncomputable def doStep (x : Desk × Nat) (a : Deed) : Desk × Nat := if (deskDo x.1 a).2 = true then ((deskDo x.1 a).1, x.2 + 1) else x
noncomputable def doAll (d : Desk) (l : List Deed) : Desk × Nat := l.foldl doStep (d, 0)
theorem doAll_from (l : List Deed) : ∀ (d : Desk) (n : Nat), l.foldl doStep (d, n) = ((doAll d l).1, n + (doAll d l).2) := by
  induction l with
  | nil => intro d n; rfl
  | cons a l ih =>
    intro d n
    by_cases h : (deskDo d a).2 = true
    · have e : ∀ k, doStep (d, k) a = ((deskDo d a).1, k + 1) := fun k => if_pos h
      unfold doAll
      rw [List.foldl_cons, List.foldl_cons, e, e, ih, ih]
      simp only [Prod.mk.injEq, true_and]; omega
    · have e : ∀ k, doStep (d, k) a = (d, k) := fun k => if_neg h
      unfold doAll
      rw [List.foldl_cons, List.foldl_cons, e, e, ih]
      simp [doAll]
theorem doAll_append (d : Desk) (l k : List Deed) : doAll d (l ++ k) = ((doAll (doAll d l).1 k).1, (doAll d l).2 + (doAll (doAll d l).1 k).2) := by
  show (l ++ k).foldl doStep (d, 0) = _
  rw [List.foldl_append]
  exact doAll_from k (doAll d l).1 (doAll d l).2
theorem doAll_snoc (d : Desk) (l : List Deed) (a : Deed) : (doAll d (l ++ [a])).1 = if (deskDo (doAll d l).1 a).2 = true then (deskDo (doAll d l).1 a).1 else (doAll d l).1 := by
  rw [doAll_append]
  show (List.foldl doStep ((doAll d l).1, 0) [a]).1 = _
  rw [List.foldl_cons, List.foldl_nil]
  by_cases hd : (deskDo (doAll d l).1 a).2 = true
  · have e : doStep ((doAll d l).1, 0) a = ((deskDo (doAll d l).1 a).1, 0 + 1) := if_pos hd
    rw [e, if_pos hd]
  · have e : doStep ((doAll d l).1, 0) a = ((doAll d l).1, 0) := if_neg hd
    rw [e, if_neg hd]
theorem doAll_ok (l : List Deed) : ∀ d : Desk, deskOk d = true → deskOk (doAll d l).1 = true := by
  induction l with
  | nil => intro d h; exact h
  | cons a l ih =>
    intro d h
    show deskOk (List.foldl doStep (d, 0) (a :: l)).1 = true
    rw [List.foldl_cons]
    by_cases hd : (deskDo d a).2 = true
    · have e : doStep (d, 0) a = ((deskDo d a).1, 0 + 1) := if_pos hd
      rw [e, doAll_from]; exact ih _ (deskDo_ok d a h)
    · have e : doStep (d, 0) a = (d, 0) := if_neg hd
      rw [e, doAll_from]; exact ih _ h
theorem doAll_len (l : List Deed) (d : Desk) : (doAll d l).2 ≤ l.length := by
  induction l generalizing d with
  | nil => exact Nat.le_refl _
  | cons a l ih =>
    show (List.foldl doStep (d, 0) (a :: l)).2 ≤ _
    rw [List.foldl_cons]
    by_cases hd : (deskDo d a).2 = true
    · have e : doStep (d, 0) a = ((deskDo d a).1, 0 + 1) := if_pos hd
      rw [e, doAll_from]; have := ih (deskDo d a).1; simp; omega
    · have e : doStep (d, 0) a = (d, 0) := if_neg hd
      rw [e, doAll_from]; have := ih d; simp; omega
end TL

/- Copies of places and desks, as rows of the caller's own. -/
set_option linter.unusedSimpArgs false
set_option linter.unusedVariables false
set_option maxRecDepth 100000
set_option maxHeartbeats 4000000
set_option pp.maxSteps 1500
namespace TL
open Go Go.Proofs
attribute [local simp] marksV storyV codeV Claim.v Place.v Desk.v
/-- A place whose row of claims is the caller's own. -/
def OwnPlace (p : Place) (m : Mem) (n : Nat) (t : T) (m' : Mem) (n' : Nat) : Prop := n ≤ n' ∧ (∀ j, j < n → m' j = m j) ∧ ∃ st, t = .agg [.v (.int .i64 p.people), st] ∧ IsRow m' n n' 89 st (p.story.map Claim.v)
def Io15 (p : Place) (m : Mem) (n : Nat) (e : Nat) (s : S) : Prop := ∃ (i : Nat) (st : T) (z : List T), s.tm 1 = .ptr n 0 ∧ s.tm 2 = .ptr (n + 1) 0 ∧ s.tm 3 = .ptr (n + 2) 0 ∧ s.tm 4 = .v (.int .i64 i) ∧ s.mu = false ∧ i ≤ p.story.length ∧ n + 3 ≤ s.n ∧
  s.m n = some (.box 48 2 [.v (.int .i64 p.people), .v (storyV p.story)]) ∧ s.m (n + 1) = some (.box 48 2 z) ∧ z.length = 2 ∧ s.m (n + 2) = some (.box 48 2 [.v (.int .i64 p.people), st]) ∧ IsRow s.m (n + 3) s.n 89 st ((p.story.take i).map Claim.v) ∧ (∀ j, j < n → s.m j = m j) ∧ (e = 1 → i = p.story.length)
theorem l15Place_own (p : Place) (hp : p.small) (m : Mem) (n : Nat) : FnS Tryz.prog 101 m n [.v p.v] (OwnPlace p m n) := by
  have hl := hp.1
  refine FnS_of (rs := [.cell 2 48]) false Tryz.func101 rfl rfl rfl rfl (Nat.le_of_ble_eq_true rfl) ?_
  have e0 : ¬ n = n + 1 := by omega
  have e1 : ¬ n = n + 2 := by omega
  have e2 : ¬ n + 1 = n + 2 := by omega
  have e3 : ¬ n + 2 = n := by omega
  have e4 : ¬ n + 2 = n + 1 := by omega
  have e5 : ¬ n + 1 = n := by omega
  simp -dsimp
  refine twp_loopC (Io15 p m n 0) (fun s => p.story.length - natOf (s.tm 4)) (Io15 p m n 1) ?_ ?_ ?_
  · refine ⟨0, .nil, [.v (.int .i64 0), .nil], by simp -dsimp, by simp -dsimp, by simp -dsimp, by simp -dsimp, by simp -dsimp, by omega, by simp -dsimp, by simp -dsimp [nes], by simp -dsimp [nes], rfl, by simp -dsimp, .inl ⟨rfl, by simp⟩, fun j j1 => ?_, by simp⟩
    simp -dsimp [far j1]
  · rintro s ⟨i, st, z, t1, t2, t3, t4, hmu, hi, hn, m0, m1, hz, m2, hst, hout, hend⟩
    by_cases hlt : i < p.story.length
    case neg =>
      simp -dsimp [t1, t4, m0, hlt]
      exact ⟨i, st, z, by simp -dsimp [t1], by simp -dsimp [t2], by simp -dsimp [t3], by simp -dsimp [t4], by simp -dsimp [hmu], hi, by simp -dsimp; omega, by simp -dsimp [m0], by simp -dsimp [m1], hz, by simp -dsimp [m2], hst, fun j j1 => by simp -dsimp [hout j j1], fun _ => by omega⟩
    have hget : (p.story.map Claim.v)[i]? = some (p.story[i].v) := by simp [hlt]
    have wi : IntKind.wrap .i64 ((i : Int) + 1) = ((i + 1 : Nat) : Int) := by rw [w64 (by omega) (by omega)]; omega
    have hmu1 : p.story.length - (i + 1) < p.story.length - i := by omega
    have f0 := far (show n < s.n by omega)
    have f1 := far (show n + 1 < s.n by omega)
    have f2 := far (show n + 2 < s.n by omega)
    have hsm := hp.2 p.story[i] (List.getElem_mem _)
    unfold Claim.small at hsm
    have b0 : p.story[i].says.length * 16 ≤ 140737488355328 := by omega
    have b1 : (min i p.story.length + 1) * 32 ≤ 140737488355328 := by omega
    have htk : (p.story.take (i + 1)).map Claim.v = (p.story.take i).map Claim.v ++ [p.story[i].v] := by rw [List.take_succ_eq_append_getElem hlt, List.map_append]; rfl
    simp -dsimp [t1, t4, m0, hlt]
    refine twp_draw [0, 1, 2, 3, 4, 5, 6, 7, 9, 10, 11, 12, 13, 14, 8, 15, 16, 17, 18, 19, 20] [n, n + 2] (List.replicate 21 [0, 1]) (List.replicate 20 [0, 1] ++ [[0]]) (by kernel_rfl) (by kernel_rfl) (by kernel_rfl) (by kernel_rfl) ?_
    rcases hst with ⟨rfl, hs0⟩ | ⟨id, rfl, hi0, hi1, him⟩
    · simp -dsimp [t1, t3, t4, m0, m2, hlt, hget, hmu, nes, f0, f1, f2, e0, e1, e2, e3, e4, e5, b0, wi, hmu1]
      have hi00 : i = 0 := by
        simp at hs0; rcases hs0 with h | h
        · exact h
        · rw [h] at hlt; simp at hlt
      subst hi00
      refine st_out fun s' ht hm' hn' hu' => ?_
      have q1 := ht 1
      have q2 := ht 2
      have q3 := ht 3
      have q4 := ht 4
      simp -dsimp [t1, t2, t3] at q1 q2 q3 q4 hm' hn' hu'
      clear ht
      refine ⟨1, .loc (s.n + 1 + 1 + 1), z, q1, q2, q3, q4, by rw [hu', hmu], by omega, by omega, by simp [hm', nes, e0, e1, f0, m0], by simp [hm', nes, e2, f0, f1, m1], hz, by simp [hm', nes, f2], .inr ⟨s.n + 1 + 1 + 1, rfl, by omega, by omega, ?_⟩, fun j j1 => ?_, by simp⟩
      · rw [htk]; simp [hm', nes, f0, f2]
      · simp [hm', far (show j < s.n by omega), show ¬ j = n + 2 by omega, hout j j1]
    · have g1 := far hi1
      have g2 : ¬ id = n + 2 := by omega
      have g0 : ¬ id = n := by omega
      have g3 : ¬ id = n + 1 := by omega
      simp -dsimp [t1, t3, t4, m0, m2, hlt, hget, hmu, nes, f0, f1, f2, e0, e1, e2, e3, e4, e5, b0, b1, g1, g2, g0, g3, Ne.symm g0, Ne.symm g2, Ne.symm g3, him, wi, hmu1]
      refine st_out fun s' ht hm' hn' hu' => ?_
      have q1 := ht 1
      have q2 := ht 2
      have q3 := ht 3
      have q4 := ht 4
      simp -dsimp [t1, t2, t3] at q1 q2 q3 q4 hm' hn' hu'
      clear ht
      refine ⟨i + 1, .loc (s.n + 1 + 1 + 1), z, q1, q2, q3, q4, by rw [hu', hmu], by omega, by omega, by simp [hm', nes, e0, e1, f0, m0, Ne.symm g0], by simp [hm', nes, e2, f0, f1, m1, Ne.symm g3], hz, by simp [hm', nes, f2], .inr ⟨s.n + 1 + 1 + 1, rfl, by omega, by omega, ?_⟩, fun j j1 => ?_, by simp⟩
      · rw [htk]; simp [hm', f0, f2, nes]
      · simp [hm', far (show j < s.n by omega), show ¬ j = n + 2 by omega, show ¬ j = id by omega, hout j j1]
  · rintro s ⟨i, st, z, t1, t2, t3, t4, hmu, hi, hn, m0, m1, hz, m2, hst, hout, hend⟩
    have := hend rfl
    subst this
    rw [List.take_length] at hst
    have f1 := far (show n + 1 < s.n by omega)
    obtain ⟨z0, z1, rfl⟩ : ∃ a b, z = [a, b] := by
      match z, hz with
      | [a, b], _ => exact ⟨a, b, rfl⟩
    rcases hst with ⟨rfl, hs0⟩ | ⟨id, rfl, hi0, hi1, him⟩
    · simp -dsimp [t2, t3, m1, m2, e2, e4]
      exact ⟨by omega, fun j j1 => by simp [show ¬ j = n + 1 by omega, hout j j1], .nil, rfl, .inl ⟨rfl, hs0⟩⟩
    · have g3 : ¬ id = n + 1 := by omega
      simp -dsimp [t2, t3, m1, m2, e2, e4]
      exact ⟨by omega, fun j j1 => by simp [show ¬ j = n + 1 by omega, hout j j1], .loc id, rfl, .inr ⟨id, rfl, by omega, by omega, by simp [g3, him]⟩⟩
end TL

/- Copies of desks. -/
set_option linter.unusedSimpArgs false
set_option linter.unusedVariables false
set_option maxRecDepth 100000
set_option maxHeartbeats 4000000
set_option pp.maxSteps 1500
namespace TL
open Go Go.Proofs
attribute [local simp] marksV storyV codeV Claim.v Place.v Desk.v
def OwnDesk (d : Desk) (m : Mem) (n : Nat) (t : T) (m' : Mem) (n' : Nat) : Prop := n ≤ n' ∧ (∀ j, j < n → m' j = m j) ∧ ∃ st, t = .agg [.v (.int .i64 d.now.people), .v (storyV d.now.story), st] ∧ IsRow m' n n' 48 st (d.past.map Place.v)
def Iod (d : Desk) (m : Mem) (n : Nat) (e : Nat) (s : S) : Prop := ∃ (i : Nat) (st : T), s.tm 1 = .ptr n 0 ∧ s.tm 2 = .ptr (n + 1) 0 ∧ s.tm 3 = .ptr (n + 2) 0 ∧ s.tm 4 = .v (.int .i64 i) ∧ s.mu = false ∧ i ≤ d.past.length ∧ n + 3 ≤ s.n ∧
  s.m n = some (.box 53 3 [.v (.int .i64 d.now.people), .v (storyV d.now.story), .v (.sl (d.past.map Place.v))]) ∧ s.m (n + 1) = some (.box 53 3 [.v (.int .i64 0), .nil, .nil]) ∧
  s.m (n + 2) = some (.box 53 3 [.v (.int .i64 d.now.people), .v (storyV d.now.story), st]) ∧ IsRow s.m (n + 3) s.n 48 st ((d.past.take i).map Place.v) ∧ (∀ j, j < n → s.m j = m j) ∧ (e = 1 → i = d.past.length)
theorem l15Copy_own (d : Desk) (hd : d.small) (m : Mem) (n : Nat) : FnS Tryz.prog 75 m n [.v d.v] (OwnDesk d m n) := by
  have hl := hd.2.1
  refine FnS_of (rs := [.cell 2 53]) false Tryz.func75 rfl rfl rfl rfl (Nat.le_of_ble_eq_true rfl) ?_
  have e0 : ¬ n = n + 1 := by omega
  have e1 : ¬ n = n + 2 := by omega
  have e2 : ¬ n + 1 = n + 2 := by omega
  have e3 : ¬ n + 2 = n := by omega
  have e4 : ¬ n + 2 = n + 1 := by omega
  have e5 : ¬ n + 1 = n := by omega
  simp -dsimp
  refine call_ (l15Place_fn d.now hd.1) (by simp -dsimp) ?_
  simp -dsimp [e0, e1, e2, e3, e4, e5, nes]
  refine twp_loopC (Iod d m n 0) (fun s => d.past.length - natOf (s.tm 4)) (Iod d m n 1) ?_ ?_ ?_
  · refine ⟨0, .nil, by simp -dsimp, by simp -dsimp, by simp -dsimp, by simp -dsimp, by simp -dsimp, by omega, by simp -dsimp, by simp -dsimp [nes], by simp -dsimp [nes], by simp -dsimp, .inl ⟨rfl, by simp⟩, fun j j1 => ?_, by simp⟩
    simp -dsimp [far j1]
  · rintro s ⟨i, st, t1, t2, t3, t4, hmu, hi, hn, m0, m1, m2, hst, hout, hend⟩
    by_cases hlt : i < d.past.length
    case neg =>
      simp -dsimp [t1, t4, m0, hlt]
      exact ⟨i, st, by simp -dsimp [t1], by simp -dsimp [t2], by simp -dsimp [t3], by simp -dsimp [t4], by simp -dsimp [hmu], hi, by simp -dsimp; omega, by simp -dsimp [m0], by simp -dsimp [m1], by simp -dsimp [m2], hst, fun j j1 => by simp -dsimp [hout j j1], fun _ => by omega⟩
    have hget : (d.past.map Place.v)[i]? = some (d.past[i].v) := by simp [hlt]
    have wi : IntKind.wrap .i64 ((i : Int) + 1) = ((i + 1 : Nat) : Int) := by rw [w64 (by omega) (by omega)]; omega
    have hmu1 : d.past.length - (i + 1) < d.past.length - i := by omega
    have f0 := far (show n < s.n by omega)
    have f1 := far (show n + 1 < s.n by omega)
    have f2 := far (show n + 2 < s.n by omega)
    have hsm := hd.2.2 d.past[i] (List.getElem_mem _)
    have hpl := l15Place_fn d.past[i] hsm
    have b1 : (min i d.past.length + 1) * 32 ≤ 140737488355328 := by omega
    have htk : (d.past.take (i + 1)).map Place.v = (d.past.take i).map Place.v ++ [d.past[i].v] := by rw [List.take_succ_eq_append_getElem hlt, List.map_append]; rfl
    simp -dsimp [t1, t4, m0, hlt]
    refine twp_draw (List.range 12) [n, n + 2] (List.replicate 12 [0, 1]) (List.replicate 11 [0, 1] ++ [[0]]) (by kernel_rfl) (by kernel_rfl) (by kernel_rfl) (by kernel_rfl) ?_
    rcases hst with ⟨rfl, hs0⟩ | ⟨id, rfl, hi0, hi1, him⟩
    · simp -dsimp [List.range_succ, t1, t3, t4, m0, m2, hlt, hget, nes, f0, f1, f2, e0, e1, e2, e3, e4, e5]
      refine call_ hpl (by simp -dsimp) ?_
      simp -dsimp [List.range_succ, t1, t3, t4, m0, m2, hlt, hget, hmu, nes, f0, f1, f2, e0, e1, e2, e3, e4, e5, wi, hmu1]
      have hi00 : i = 0 := by
        simp at hs0; rcases hs0 with h | h
        · exact h
        · rw [h] at hlt; simp at hlt
      subst hi00
      refine st_out fun s' ht hm' hn' hu' => ?_
      have q1 := ht 1
      have q2 := ht 2
      have q3 := ht 3
      have q4 := ht 4
      simp -dsimp [t1, t2, t3] at q1 q2 q3 q4 hm' hn' hu'
      clear ht
      refine ⟨1, .loc (s.n + 1), q1, q2, q3, q4, by rw [hu', hmu], by omega, by omega, by simp [hm', nes, e0, e1, f0, m0], by simp [hm', nes, e2, f0, f1, m1], by simp [hm', nes, f2], .inr ⟨s.n + 1, rfl, by omega, by omega, ?_⟩, fun j j1 => ?_, by simp⟩
      · rw [htk]; simp [hm', nes, f0, f1, f2]
      · simp [hm', far (show j < s.n by omega), show ¬ j = n + 2 by omega, hout j j1]
    · have g1 := far hi1
      have g2 : ¬ id = n + 2 := by omega
      have g0 : ¬ id = n := by omega
      have g3 : ¬ id = n + 1 := by omega
      simp -dsimp [List.range_succ, t1, t3, t4, m0, m2, hlt, hget, nes, f0, f1, f2, e0, e1, e2, e3, e4, e5]
      refine call_ hpl (by simp -dsimp) ?_
      simp -dsimp [List.range_succ, t1, t3, t4, m0, m2, hlt, hget, hmu, nes, f0, f1, f2, e0, e1, e2, e3, e4, e5, b1, g1, g2, g0, g3, Ne.symm g0, Ne.symm g2, Ne.symm g3, him, wi, hmu1]
      refine st_out fun s' ht hm' hn' hu' => ?_
      have q1 := ht 1
      have q2 := ht 2
      have q3 := ht 3
      have q4 := ht 4
      simp -dsimp [t1, t2, t3] at q1 q2 q3 q4 hm' hn' hu'
      clear ht
      refine ⟨i + 1, .loc (s.n + 1), q1, q2, q3, q4, by rw [hu', hmu], by omega, by omega, by simp [hm', nes, e0, e1, f0, m0, Ne.symm g0], by simp [hm', nes, e2, f0, f1, m1, Ne.symm g3], by simp [hm', nes, f2], .inr ⟨s.n + 1, rfl, by omega, by omega, ?_⟩, fun j j1 => ?_, by simp⟩
      · rw [htk]; simp [hm', f0, f1, f2, nes]
      · simp [hm', far (show j < s.n by omega), show ¬ j = n + 2 by omega, show ¬ j = id by omega, hout j j1]
  · rintro s ⟨i, st, t1, t2, t3, t4, hmu, hi, hn, m0, m1, m2, hst, hout, hend⟩
    have := hend rfl
    subst this
    rw [List.take_length] at hst
    have f1 := far (show n + 1 < s.n by omega)
    rcases hst with ⟨rfl, hs0⟩ | ⟨id, rfl, hi0, hi1, him⟩
    · simp -dsimp [t2, t3, m1, m2, e2, e4]
      exact ⟨by omega, fun j j1 => by simp [show ¬ j = n + 1 by omega, hout j j1], .nil, rfl, .inl ⟨rfl, hs0⟩⟩
    · have g3 : ¬ id = n + 1 := by omega
      simp -dsimp [t2, t3, m1, m2, e2, e4]
      exact ⟨by omega, fun j j1 => by simp [show ¬ j = n + 1 by omega, hout j j1], .loc id, rfl, .inr ⟨id, rfl, by omega, by omega, by simp [g3, him]⟩⟩
end TL

/- Stories without one of their claims. -/
set_option linter.unusedSimpArgs false
set_option linter.unusedVariables false
set_option maxRecDepth 100000
set_option maxHeartbeats 4000000
set_option pp.maxSteps 1500
namespace TL
open Go Go.Proofs
attribute [local simp] marksV storyV codeV Claim.v Place.v Desk.v
theorem allZ_claims (l : List Claim) : allZ 2 (l.map Claim.v) := fun x hx => by
  obtain ⟨c, _, rfl⟩ := List.mem_map.1 hx
  exact ⟨by simp, by simp⟩
theorem l5Without_fn (l : List Claim) (k : Nat) (hk : k < l.length) (hl : l.length ≤ 1048576) : FnZ Tryz.prog 102 [storyV l, .int .i64 k] (storyV (l.eraseIdx k)) := by
  have e : l.eraseIdx k = l.take k ++ l.drop (k + 1) := List.eraseIdx_eq_take_drop_succ ..
  have h1 : (k : Int) ≤ l.length := by omega
  have h2 : k ≤ l.length := by omega
  have h3 : k + 1 ≤ l.length := by omega
  have h4 : (k : Int) + 1 ≤ l.length := by omega
  have w1 : IntKind.wrap .i64 ((k : Int) + 1) = (k : Int) + 1 := w64 (by omega) (by omega)
  have b1 : min k l.length * 32 ≤ 140737488355328 := by omega
  have b2 : (min k l.length + (l.length - (k + 1))) * 32 ≤ 140737488355328 := by omega
  have h5 : ((k : Int) + 1).toNat = k + 1 := by omega
  have h6 : (0 : Int) ≤ (k : Int) + 1 := by omega
  have z1 : allZ 2 (List.take k (List.map Claim.v l)) := by rw [← List.map_take]; exact allZ_claims _
  have z2 : allZ 2 (List.drop (k + 1) (List.map Claim.v l)) := by rw [← List.map_drop]; exact allZ_claims _
  have tk : List.take l.length (List.map Claim.v l) = List.map Claim.v l := List.take_of_length_le (by simp)
  have b3 : k * 32 ≤ 140737488355328 := by omega
  have b4 : (k + (l.length - (k + 1))) * 32 ≤ 140737488355328 := by omega
  rw [e]
  refine FnZ_of (rs := [.tmp 4]) false Tryz.func102 rfl rfl rfl rfl (Nat.le_of_ble_eq_true rfl) ?_
  simp -dsimp [h1, h2, h3, h4, h5, h6, w1, b1, b2, b3, b4, z1, z2, tk, nes]
end TL

/- Whether a term holds in a world: the reference. -/
set_option linter.unusedSimpArgs false
set_option linter.unusedVariables false
set_option maxRecDepth 100000
set_option maxHeartbeats 4000000
set_option pp.maxSteps 1500
namespace TL
open Go Go.Proofs
attribute [local simp] marksV storyV codeV Claim.v Place.v
/-- Whether a term holds in a world. -/
def Tm.sat (w : Nat) : Tm → Bool
  | .tells i => w.testBit i
  | .count i => decide ((i : Int) ≤ cnt w)
  | .not a => !a.sat w
  | .bin k a b => if k = 0 then a.sat w && b.sat w else if k = 1 then a.sat w || b.sat w else a.sat w == b.sat w
theorem sat_bit (w i : Nat) : decide (((w : Int).fdiv (2 ^ i)).tmod 2 = 1) = w.testBit i := by
  have e1 : (w : Int).fdiv (2 ^ i) = ((w / 2 ^ i : Nat) : Int) := by
    rw [Int.fdiv_eq_ediv_of_nonneg _ (by exact_mod_cast Nat.zero_le _)]
    push_cast; rfl
  rw [e1, Nat.testBit_eq_decide_div_mod_eq, decide_eq_decide]
  rw [Int.tmod_eq_emod_of_nonneg (Int.natCast_nonneg _)]
  omega
theorem l3Holds_fn (w : Nat) (hw : w < 16) : ∀ T : Tm, T.ok → T.marks.length ≤ 1048576 → FnZ Tryz.prog 184 [marksV T.marks, .int .i64 w] (.bool (T.sat w))
  | .tells i, hok, hl => by
    have hi : i < 4 := hok
    have w4 : IntKind.wrap .i64 0 = 0 := rfl
    refine FnZ_of (rs := [.tmp 4]) false Tryz.func184 rfl rfl rfl rfl (Nat.le_of_ble_eq_true rfl) ?_
    have hn : ¬ (i : Int) < 0 := by omega
    have hm : min i IntKind.i64.bits = i := Nat.min_eq_left (by show i ≤ 64; omega)
    have hb := sat_bit w i
    simp -dsimp [Tm.marks, Mark.v, w4, hn, hm, Tm.sat]
    exact hb
  | .count i, hok, hl => by
    have hi : i < 6 := hok
    have w4 : IntKind.wrap .i64 0 = 0 := rfl
    have hh := l1Heads_fn w (by omega)
    refine FnZ_of (rs := [.tmp 4]) false Tryz.func184 rfl rfl rfl rfl (Nat.le_of_ble_eq_true rfl) ?_
    simp -dsimp [Tm.marks, Mark.v, w4, Tm.sat]
    refine twp_draw [0, 2, 3, 4, 5, 6, 1, 7, 8] [] (List.replicate 9 []) (List.replicate 9 []) (by kernel_rfl) (by kernel_rfl) (by kernel_rfl) (by kernel_rfl) ?_
    simp -dsimp [List.range_succ, Tm.marks, Mark.v, w4]
    refine call_ hh (by simp -dsimp) ?_
    simp -dsimp [List.range_succ, Tm.marks, Mark.v, Tm.sat]
  | .not a, hok, hl => by
    have hla : a.marks.length ≤ 1048576 := by simp [Tm.marks] at hl; omega
    have ih := l3Holds_fn w hw a hok hla
    have e0 : (Tm.not a).marks = a.marks ++ [⟨2, 0⟩] := rfl
    have hlen : (Tm.not a).marks.length = a.marks.length + 1 := by rw [e0]; simp
    have hget : (Tm.not a).marks[a.marks.length]? = some ⟨2, 0⟩ := by rw [e0]; simp
    have htake : List.take a.marks.length (List.map Mark.v (Tm.not a).marks) = List.map Mark.v a.marks := by rw [e0]; simp
    have w1 : IntKind.wrap .i64 (((Tm.not a).marks.length : Int) - 1) = (a.marks.length : Int) := by rw [w64 (by omega) (by omega)]; omega
    have hle : a.marks.length ≤ (Tm.not a).marks.length := by omega
    have es : (Tm.not a).sat w = !a.sat w := rfl
    rw [es]
    generalize (Tm.not a).marks = l at *
    generalize a.sat w = b at *
    refine FnZ_of (rs := [.tmp 4]) false Tryz.func184 rfl rfl rfl rfl (Nat.le_of_ble_eq_true rfl) ?_
    simp -dsimp [w1, hget, htake, hle, Mark.v]
    refine call_ ih (by simp -dsimp) ?_
    simp -dsimp
  | .bin k a b, hok, hl => by
    obtain ⟨hk, hoa, hob⟩ := hok
    have hlab : a.marks.length + b.marks.length ≤ 1048575 := by simp [Tm.marks] at hl; omega
    have iha := l3Holds_fn w hw a hoa (by omega)
    have ihb := l3Holds_fn w hw b hob (by omega)
    have hlp := l2Starts_fn a.marks [⟨3 + k, 0⟩] b hob (by simp; omega)
    have e0 : (Tm.bin k a b).marks = a.marks ++ b.marks ++ [⟨3 + k, 0⟩] := rfl
    have hlen : (Tm.bin k a b).marks.length = a.marks.length + b.marks.length + 1 := by rw [e0]; simp; omega
    have hget : (Tm.bin k a b).marks[a.marks.length + b.marks.length]? = some ⟨3 + k, 0⟩ := by
      rw [e0, List.getElem?_append_right (by simp)]; simp
    have htake : List.take (a.marks.length + b.marks.length) (List.map Mark.v (Tm.bin k a b).marks) = List.map Mark.v (a.marks ++ b.marks) := by
      rw [e0, List.map_append, List.take_left' (by simp)]
    have htake2 : List.take a.marks.length (List.map Mark.v (Tm.bin k a b).marks) = List.map Mark.v a.marks := by
      rw [e0, List.append_assoc, List.map_append, List.take_left' (by simp)]
    have hdrop : List.drop a.marks.length (List.map Mark.v (a.marks ++ b.marks)) = List.map Mark.v b.marks := by
      rw [List.map_append, List.drop_left' (by simp)]
    have es : (Tm.bin k a b).sat w = if k = 0 then a.sat w && b.sat w else if k = 1 then a.sat w || b.sat w else a.sat w == b.sat w := rfl
    rw [es]
    obtain ⟨n, hn⟩ : ∃ n, n = a.marks.length + b.marks.length := ⟨_, rfl⟩
    rw [← hn] at hlen hget htake
    have hc1 : a.marks.length ≤ n := by omega
    have hle : n ≤ (Tm.bin k a b).marks.length := by omega
    have hle2 : a.marks.length ≤ (Tm.bin k a b).marks.length := by omega
    have w1 : IntKind.wrap .i64 (((Tm.bin k a b).marks.length : Int) - 1) = (n : Int) := by rw [w64 (by omega) (by omega)]; omega
    have wE : IntKind.wrap .i64 ((n : Int) - 1) = (a.marks.length : Int) + b.marks.length - 1 := by rw [w64 (by omega) (by omega)]; omega
    rw [← e0] at hlp
    have hkk : k = 0 ∨ k = 1 ∨ k = 2 := by omega
    generalize hL : (Tm.bin k a b).marks = l at *
    generalize hM : a.marks ++ b.marks = M at *
    clear e0 hL hM es
    generalize a.sat w = x at *
    generalize b.sat w = y at *
    have hx := ft x
    rcases hkk with rfl | rfl | rfl
    · refine FnZ_of (rs := [.tmp 4]) false Tryz.func184 rfl rfl rfl rfl (Nat.le_of_ble_eq_true rfl) ?_
      simp -dsimp [w1, hget, Mark.v]
      refine call_ hlp (by simp -dsimp [wE]) ?_
      simp -dsimp [htake2, hle2]
      refine call_ iha (by simp -dsimp) ?_
      simp -dsimp [htake, hdrop, hc1, hle]
      refine call_ ihb (by simp -dsimp) ?_
      rcases hx with rfl | rfl
      · simp -dsimp [hget, Mark.v]
      · simp -dsimp [hget, Mark.v]
    · refine FnZ_of (rs := [.tmp 4]) false Tryz.func184 rfl rfl rfl rfl (Nat.le_of_ble_eq_true rfl) ?_
      simp -dsimp [w1, hget, Mark.v]
      refine call_ hlp (by simp -dsimp [wE]) ?_
      simp -dsimp [htake2, hle2]
      refine call_ iha (by simp -dsimp) ?_
      simp -dsimp [htake, hdrop, hc1, hle]
      refine call_ ihb (by simp -dsimp) ?_
      rcases hx with rfl | rfl
      · simp -dsimp [hget, Mark.v]
      · simp -dsimp [hget, Mark.v]
    · refine FnZ_of (rs := [.tmp 4]) false Tryz.func184 rfl rfl rfl rfl (Nat.le_of_ble_eq_true rfl) ?_
      simp -dsimp [w1, hget, Mark.v]
      refine call_ hlp (by simp -dsimp [wE]) ?_
      simp -dsimp [htake2, hle2]
      refine call_ iha (by simp -dsimp) ?_
      simp -dsimp [htake, hdrop, hc1, hle]
      refine call_ ihb (by simp -dsimp) ?_
      simp -dsimp [hget, Mark.v]
end TL

/- Measures; the exact law of PlaceOk. -/
set_option linter.unusedSimpArgs false
set_option linter.unusedVariables false
set_option maxRecDepth 100000
set_option maxHeartbeats 4000000
set_option pp.maxSteps 1500
namespace TL
open Go Go.Proofs
attribute [local simp] marksV storyV codeV Claim.v Place.v
def mid (n : Nat) : Prop := n ≤ 9223372036854775807
def Claim.mid (c : Claim) : Prop := TL.mid c.says.length
def Place.mid (p : Place) : Prop := TL.mid p.story.length ∧ ∀ c ∈ p.story, c.mid
def saysSum (l : List Claim) : Nat := (l.map fun c => c.says.length).sum
theorem saysSum_take {l : List Claim} {i : Nat} (h : i < l.length) : saysSum (l.take (i + 1)) = saysSum (l.take i) + l[i].says.length := by
  unfold saysSum; rw [List.take_succ_eq_append_getElem h, List.map_append, List.sum_append]; rfl
theorem saysSum_le (l : List Claim) (i : Nat) : saysSum (l.take i) ≤ saysSum l := by
  have e : saysSum l = saysSum (l.take i ++ l.drop i) := by rw [List.take_append_drop]
  rw [e]; unfold saysSum; rw [List.map_append, List.sum_append]; omega
def SZC (l : List Claim) (left : Int) (e : Nat) (s : S) : Prop := ∃ i : Nat, s.tm 0 = .v (.sl (l.map Claim.v)) ∧ s.tm 1 = .v (.int .i64 (left - l.length - saysSum (l.take i))) ∧ s.tm 5 = .v (.int .i64 i) ∧ i ≤ l.length ∧ 0 ≤ left - l.length - saysSum (l.take i) ∧ (e = 1 → i = l.length)
def Place.bulk (p : Place) : Nat := p.story.length + saysSum p.story
theorem saysSum_mem {l : List Claim} {c : Claim} (h : c ∈ l) : c.says.length ≤ saysSum l := by
  induction l with
  | nil => cases h
  | cons y ys ih =>
    rcases List.mem_cons.1 h with rfl | h
    · simp [saysSum]
    · have := ih h; simp only [saysSum, List.map_cons, List.sum_cons] at this ⊢; omega
theorem Place.small_of {p : Place} (h : ¬ (1048576 : Int) - p.bulk < 0) : p.small := by
  unfold Place.bulk at h
  exact ⟨by omega, fun c hc => by have := saysSum_mem hc; unfold Claim.small; omega⟩
end TL

/- What the arguments of the exact laws are. -/
set_option linter.unusedVariables false
set_option linter.unusedSimpArgs false
namespace TL
open Go Go.Proofs
theorem fit_wf {n : Int} (h : (Lit.int .i64 n).wf = true) : fit n := by
  simp [Lit.wf, IntKind.min, IntKind.max, IntKind.signed, IntKind.bits] at h
  unfold fit; omega
theorem opens_int' (w : World) : Opens Tryz.prog w 3 fun vs => ∃ n : Int, fit n ∧ vs = [.int .i64 n] :=
  (opens_int Tryz.underlying3).mono fun vs h => by obtain ⟨n, rfl, hw⟩ := h; exact ⟨n, fit_wf hw, rfl⟩
theorem opens_code (w : World) : Opens Tryz.prog w 38 fun vs => ∃ bs : List UInt8, vs = [codeV bs] :=
  (opens_slice (α := UInt8) (v := fun b => V.int .u8 b.toNat) (Q := fun _ => True) Tryz.underlying38 (z := 1) (by kernel_rfl) (by omega) ((opens_int Tryz.underlying5).mono fun vs h => by
    obtain ⟨n, rfl, hw⟩ := h
    refine ⟨UInt8.ofNat n.toNat, trivial, .inr ⟨rfl, ?_⟩⟩
    have e : ((UInt8.ofNat n.toNat).toNat : Int) = n := by
      simp [Lit.wf, IntKind.min, IntKind.max, IntKind.signed, IntKind.bits] at hw
      rw [UInt8.toNat_ofNat']; omega
    rw [e])).mono fun vs h => by obtain ⟨l, rfl, _, _⟩ := h; exact ⟨l, rfl⟩
end TL

/- The exact law of DeskOk. -/
set_option linter.unusedSimpArgs false
set_option linter.unusedVariables false
set_option maxRecDepth 100000
set_option maxHeartbeats 4000000
set_option pp.maxSteps 1500
namespace TL
open Go Go.Proofs
attribute [local simp] marksV storyV codeV Claim.v Place.v Desk.v
def Desk.fit (d : Desk) : Prop := d.now.fit ∧ ∀ p ∈ d.past, p.fit
def Desk.mid (d : Desk) : Prop := d.now.mid ∧ TL.mid d.past.length ∧ ∀ p ∈ d.past, p.mid
def ItoPlaceS (l : List Place) (a : Nat) (s : S) : Prop := ∃ i : Nat, s.tm 0 = .v (.sl (l.map Place.v)) ∧ s.tm 3 = .sv 0 0 l.length ∧ s.tm 4 = .v (.int .i64 i) ∧ i ≤ l.length ∧ s.m 0 = some (.box 48 2 (filled Place.v [T.v (.int .i64 0), T.nil] l i).flatten) ∧ (a = 1 → i = l.length)
def IeqPlaceS (a b : List Place) (e : Nat) (s : S) : Prop := ∃ i : Nat, s.tm 0 = .v (.sl (a.map Place.v)) ∧ s.tm 1 = .v (.sl (b.map Place.v)) ∧ s.tm 5 = .v (.int .i64 i) ∧ i ≤ a.length ∧ a.take i = b.take i ∧ (e = 1 → i = a.length)
def bulkSum (l : List Place) : Nat := (l.map fun p => p.bulk).sum
theorem bulkSum_take {l : List Place} {i : Nat} (h : i < l.length) : bulkSum (l.take (i + 1)) = bulkSum (l.take i) + l[i].bulk := by
  unfold bulkSum; rw [List.take_succ_eq_append_getElem h, List.map_append, List.sum_append]; rfl
theorem bulkSum_le (l : List Place) (i : Nat) : bulkSum (l.take i) ≤ bulkSum l := by
  have e : bulkSum l = bulkSum (l.take i ++ l.drop i) := by rw [List.take_append_drop]
  rw [e]; unfold bulkSum; rw [List.map_append, List.sum_append]; omega
theorem bulkSum_mem {l : List Place} {c : Place} (h : c ∈ l) : c.bulk ≤ bulkSum l := by
  induction l with
  | nil => cases h
  | cons y ys ih =>
    rcases List.mem_cons.1 h with rfl | h
    · simp [bulkSum]
    · have := ih h; simp only [bulkSum, List.map_cons, List.sum_cons] at this ⊢; omega
def SZP (l : List Place) (left : Int) (e : Nat) (s : S) : Prop := ∃ i : Nat, s.tm 0 = .v (.sl (l.map Place.v)) ∧ s.tm 1 = .v (.int .i64 (left - l.length - bulkSum (l.take i))) ∧ s.tm 5 = .v (.int .i64 i) ∧ i ≤ l.length ∧ 0 ≤ left - l.length - bulkSum (l.take i) ∧ (e = 1 → i = l.length)
def Desk.bulk (d : Desk) : Nat := d.now.bulk + (d.past.length + bulkSum d.past)
theorem Desk.small_of {d : Desk} (h : ¬ (1048576 : Int) - d.bulk < 0) : d.small := by
  unfold Desk.bulk at h
  exact ⟨Place.small_of (by omega), by omega, fun p hp => Place.small_of (by have := bulkSum_mem hp; omega)⟩
theorem Place.fine_of {p : Place} (hs : p.small) (hf : p.fit) : p.fine := ⟨by have := hs.1; omega, fun c hc => ⟨(hf.2 c hc).2, by have := hs.2 c hc; unfold Claim.small at this; omega⟩⟩
def IdeskOkS (d : Desk) (e : Nat) (s : S) : Prop := ∃ i : Nat, s.tm 1 = .ptr 0 0 ∧ s.m 0 = some (.box 53 3 [.v (.int .i64 d.now.people), .v (storyV d.now.story), .v (.sl (d.past.map Place.v))]) ∧ s.tm 3 = .v (.int .i64 i) ∧
  i ≤ d.past.length ∧ (d.past.take i).all placeOk = true ∧ (e = 1 → i = d.past.length)
theorem deskOkS_fn (d : Desk) (hs : d.small) (hf : d.fit) : FnZ Tryz.prog 74 [d.v] (.bool (deskOk d)) := by
  have hl := hs.2.1
  refine FnZ_of (rs := [.tmp 2]) false Tryz.func74 rfl rfl rfl rfl (Nat.le_of_ble_eq_true rfl) ?_
  simp -dsimp
  refine twp_loopC (IdeskOkS d 0) (fun s => d.past.length - natOf (s.tm 3)) (IdeskOkS d 1) ?_ ?_ ?_
  · exact ⟨0, by simp -dsimp, by simp -dsimp, by simp -dsimp, by omega, by simp, by simp⟩
  · rintro s ⟨i, t1, m0, t8, hi, hall, hend⟩
    by_cases hlt : i < d.past.length
    case neg =>
      simp -dsimp [t1, m0, t8, hlt]
      exact ⟨i, by simp -dsimp [t1], by simp -dsimp [m0], by simp -dsimp [t8], hi, hall, fun _ => by omega⟩
    have hget : (d.past.map Place.v)[i]? = some (d.past[i].v) := by simp [hlt]
    have hall' := all_take_succ (f := placeOk) hlt
    have wi : IntKind.wrap .i64 ((i : Int) + 1) = ((i + 1 : Nat) : Int) := by rw [w64 (by omega) (by omega)]; omega
    have hmu : d.past.length - (i + 1) < d.past.length - i := by omega
    have hbad := all_bad (f := placeOk) hlt
    have hm := List.getElem_mem hlt
    simp -dsimp [t1, m0, t8, hlt, hget]
    refine call_ (placeOkS_fn d.past[i] (Place.fine_of (hs.2.2 _ hm) (hf.2 _ hm))) (by simp -dsimp) ?_
    have hc := ft (placeOk d.past[i])
    rcases hc with hc | hc
    · simp -dsimp [hc, deskOk, hbad hc]
    · simp -dsimp [hc, t8, wi, hmu]
      exact ⟨i + 1, by simp -dsimp [t1], by simp -dsimp [m0], by simp -dsimp, by omega, by rw [hall', hall, hc]; rfl, by simp⟩
  · rintro s ⟨i, t1, m0, t8, hi, hall, hend⟩
    have := hend rfl
    subst this
    rw [List.take_length] at hall
    simp -dsimp [t1, m0]
    refine call_ (placeOkS_fn d.now (Place.fine_of hs.1 hf.1)) (by simp -dsimp) ?_
    have hk := ft (placeOk d.now)
    rcases hk with hk | hk
    · simp -dsimp [deskOk, hk]
    · simp -dsimp [t1, m0, deskOk, hk, hall]
      omega
end TL

/- Claims and terms, in plain words. -/
set_option linter.unusedSimpArgs false
set_option linter.unusedVariables false
set_option maxRecDepth 100000
set_option maxHeartbeats 4000000
set_option pp.maxSteps 1500
namespace TL
open Go Go.Proofs
theorem runR_append (w : Nat) (r : List Bool) (a b : List Mark) : runR w r (a ++ b) = runR w (runR w r a) b := by simp [runR]
theorem runR_tm (w : Nat) : ∀ T : Tm, T.ok → ∀ r, runR w r T.marks = T.sat w :: r
  | .tells i, _, r => by simp [Tm.marks, runR, runStep, Tm.sat]
  | .count i, _, r => by simp [Tm.marks, runR, runStep, Tm.sat]
  | .not a, h, r => by
    have ih := runR_tm w a h r
    show runR w r (a.marks ++ [⟨2, 0⟩]) = _
    rw [runR_append, ih]
    simp [runR, runStep, Tm.sat]
  | .bin k a b, h, r => by
    obtain ⟨hk, ha, hb⟩ := h
    have e : (Tm.bin k a b).marks = a.marks ++ b.marks ++ [⟨3 + k, 0⟩] := rfl
    rw [e, runR_append, runR_append, runR_tm w a ha, runR_tm w b hb]
    have : k = 0 ∨ k = 1 ∨ k = 2 := by omega
    rcases this with rfl | rfl | rfl <;> simp [runR, runStep, Tm.sat]
theorem truth_tm (w : Nat) {T : Tm} (h : T.ok) : truth T.marks w = T.sat w := by unfold truth; rw [runR_tm w T h]; rfl
theorem tm_fits : ∀ T : Tm, T.ok → fits T.marks
  | .tells i, h => fun m hm => by
    have h : i < 4 := h
    simp [Tm.marks] at hm; subst hm; unfold Mark.fit fit; simp; omega
  | .count i, h => fun m hm => by
    have h : i < 6 := h
    simp [Tm.marks] at hm; subst hm; unfold Mark.fit fit; simp; omega
  | .not a, h => fun m hm => by
    have e : (Tm.not a).marks = a.marks ++ [⟨2, 0⟩] := rfl
    rw [e] at hm
    rcases List.mem_append.1 hm with hm | hm
    · exact tm_fits a h m hm
    · rw [List.mem_singleton.1 hm]; unfold Mark.fit fit; simp
  | .bin k a b, h => fun m hm => by
    obtain ⟨hk, ha, hb⟩ := h
    have e : (Tm.bin k a b).marks = a.marks ++ b.marks ++ [⟨3 + k, 0⟩] := rfl
    rw [e] at hm
    rcases List.mem_append.1 hm with hm | hm
    · rcases List.mem_append.1 hm with hm | hm
      · exact tm_fits a ha m hm
      · exact tm_fits b hb m hm
    · rw [List.mem_singleton.1 hm]; unfold Mark.fit fit; simp; omega
theorem claim_facts {people : Int} {c : Claim} (h : claimOk people c = true) : 1 ≤ people ∧ people ≤ 4 ∧ 0 ≤ c.who ∧ c.who < people ∧ termOk people c.says = true ∧ c.says.length ≤ 13 ∧ marksRun people 0 c.says = some 1 := by
  simp only [claimOk, peopleOk, Bool.and_eq_true, decide_eq_true_eq] at h
  have ht := h.1.2
  simp only [termOk, Bool.and_eq_true, decide_eq_true_eq] at ht
  exact ⟨h.1.1.1.1.1, h.1.1.1.1.2, h.1.1.1.2, h.1.1.2, h.1.2, h.2, ht.2⟩
theorem claim_fine {people : Int} {c : Claim} (h : claimOk people c = true) : c.fine ∧ c.fit ∧ c.small ∧ c.says.length ≤ 13 := by
  obtain ⟨h1, h2, h3, h4, h5, h6, h7⟩ := claim_facts h
  obtain ⟨T, hT, e⟩ := termOk_tree h5
  have hf : fits c.says := by rw [← e]; exact tm_fits T hT
  exact ⟨⟨hf, by omega⟩, ⟨by unfold fit; omega, hf⟩, by unfold Claim.small; omega, h6⟩
theorem place_fine {p : Place} (h : placeOk p = true) : p.fine ∧ p.fit ∧ p.small ∧ p.story.length ≤ 6 := by
  obtain ⟨h1, h2, h3, h4⟩ := placeOk_all h
  exact ⟨⟨by omega, fun c hc => (claim_fine (h4 c hc)).1⟩, ⟨by unfold fit; omega, fun c hc => (claim_fine (h4 c hc)).2.1⟩, ⟨by omega, fun c hc => (claim_fine (h4 c hc)).2.2.1⟩, h3⟩
theorem desk_fine {d : Desk} (h : deskOk d = true) : d.small ∧ d.fit ∧ d.past.length ≤ 8 ∧ d.now.fine := by
  obtain ⟨h1, h2, h3⟩ := deskOk_iff.1 h
  exact ⟨⟨(place_fine h2).2.2.1, by omega, fun p hp => (place_fine (h1 p hp)).2.2.1⟩, ⟨(place_fine h2).2.1, fun p hp => (place_fine (h1 p hp)).2.1⟩, h3, (place_fine h2).1⟩
end TL

/- Worlds of a table; answers. -/
set_option linter.unusedSimpArgs false
set_option linter.unusedVariables false
set_option maxRecDepth 100000
set_option maxHeartbeats 4000000
set_option pp.maxSteps 1500
namespace TL
open Go Go.Proofs
attribute [local simp] marksV storyV codeV Claim.v Place.v
theorem askedS_val {p n a b : Nat} (yes : Bool) (hn : n < 2 ^ 2 ^ p) : (tabN (2 ^ p) fun w => n.testBit w && sameKind a b yes w) = n &&& askMask p a b yes := by
  apply Nat.eq_of_testBit_eq
  intro i
  rw [testBit_tabN, Nat.testBit_and, askMask, testBit_tabN]
  by_cases h : i < 2 ^ p
  · simp [h]
  · have : n.testBit i = false := Nat.testBit_lt_two_pow (Nat.lt_of_lt_of_le hn (Nat.pow_le_pow_right (by omega) (by omega)))
    simp [this]
/-- The worlds of a table. -/
def worldsOf (p n : Nat) : List Nat := (List.range (2 ^ p)).filter fun w => n.testBit w
def Iwi (N n p : Nat) (e : Nat) (s : S) : Prop := ∃ w id : Nat, s.tm 1 = .v (.int .i64 n) ∧ s.tm 5 = .loc id ∧ s.tm 13 = .v (.int .i64 N) ∧ s.tm 14 = .v (.int .i64 w) ∧ w ≤ N ∧ s.mu = false ∧ id < s.n ∧
  s.m id = some (.arr 3 (((List.range w).filter fun w => n.testBit w).map fun w => V.int .i64 (w : Nat))) ∧ (e = 1 → w = N)
def answerIn (who : Nat) (t : List Mark) (w : Nat) : Int := if truth t w == w.testBit who then 1 else 0
end TL

/- Claims in a world, tables of claims: both. -/
set_option linter.unusedSimpArgs false
set_option linter.unusedVariables false
set_option maxRecDepth 100000
set_option maxHeartbeats 4000000
set_option pp.maxSteps 1500
namespace TL
open Go Go.Proofs
attribute [local simp] marksV storyV codeV Claim.v Place.v
theorem maySay_fn (people : Int) (c : Claim) (h : claimOk people c = true) (w : Nat) (hw : w < 16) : FnZ Tryz.prog 152 [c.v, .int .i64 w] (.bool (mayB c w)) := by
  obtain ⟨hp1, hp4, h0, h1, ht, hl, hr⟩ := claim_facts h
  obtain ⟨who, says⟩ := c
  simp only at h0 h1 hl hr
  obtain ⟨k, rfl⟩ := Int.eq_ofNat_of_zero_le h0
  have hh := holds_fn people hp4 says hr (by omega) w hw
  have hb := bit1 w k (by omega) (by omega)
  have z1 : ¬ (k : Int) < 0 := by omega
  have e : mayB ⟨(k : Int), says⟩ w = (truth says w == w.testBit k) := rfl
  rw [e]
  generalize truth says w = tr at *
  have c0 := ft (w.testBit k)
  refine FnZ_of (rs := [.tmp 4]) false Tryz.func152 rfl rfl rfl rfl (Nat.le_of_ble_eq_true rfl) ?_
  simp -dsimp
  refine twp_draw [0, 1, 2, 4, 5, 6, 7, 8, 9, 3, 10, 11] [0] (List.replicate 12 [0]) (List.replicate 12 [0]) (by kernel_rfl) (by kernel_rfl) (by kernel_rfl) (by kernel_rfl) ?_
  rcases c0 with c0 | c0
  · rw [c0] at hb ⊢
    simp -dsimp [z1, hb]
    refine call_ hh (by simp -dsimp) ?_
    cases tr <;> simp -dsimp [z1, hb]
  · rw [c0] at hb ⊢
    simp -dsimp [z1, hb]
    refine call_ hh (by simp -dsimp) ?_
    cases tr <;> simp -dsimp [z1, hb]
theorem claimTable1_fn (people : Int) (c : Claim) (h : claimOk people c = true) (w : Nat) (hw : w < 16) : FnZ Tryz.prog 151 [.int .i64 w, .ref [.int .i64 c.who, marksV c.says]] (.bool (mayB c w)) := by
  have hm := maySay_fn people c h w hw
  generalize mayB c w = b at *
  obtain ⟨who, says⟩ := c
  refine FnZ_of (rs := [.tmp 3]) false Tryz.func151 rfl rfl rfl rfl (Nat.le_of_ble_eq_true rfl) ?_
  simp -dsimp
  refine call_ hm (by simp -dsimp) ?_
  simp -dsimp
theorem pow_small {p : Nat} (h : p ≤ 4) : 2 ^ p ≤ 16 := by
  have : 2 ^ p ≤ 2 ^ 4 := Nat.pow_le_pow_right (by omega) h
  omega
theorem claimTable_fn (people : Int) (c : Claim) (h : claimOk people c = true) : FnZ Tryz.prog 122 [.int .i64 people, c.v] (.int .i64 (claimTab people.toNat c)) := by
  obtain ⟨hp1, hp4, h0, h1, ht, hl, hr⟩ := claim_facts h
  obtain ⟨p, rfl⟩ := Int.eq_ofNat_of_zero_le (show 0 ≤ people by omega)
  have hok := claimOk_fn p c
  rw [h] at hok
  have hN := pow_small (p := p) (by omega)
  have hc : ∀ w : Nat, w < 2 ^ p → FnZ Tryz.prog 151 [.int .i64 w, .ref [.int .i64 c.who, marksV c.says]] (.bool (mayB c w)) := fun w hw => claimTable1_fn p c h w (by omega)
  have htb := tableBy_fn p (by omega) (by omega) 151 [.ref [.int .i64 c.who, marksV c.says]] (mayB c) hc
  have e : claimTab (p : Int).toNat c = tabN (2 ^ p) (mayB c) := rfl
  rw [e]
  generalize tabN (2 ^ p) (mayB c) = tb at *
  clear h0 h1 ht hl hr hc
  obtain ⟨who, says⟩ := c
  refine FnZ_of (rs := [.tmp 4]) false Tryz.func122 rfl rfl rfl rfl (Nat.le_of_ble_eq_true rfl) ?_
  simp -dsimp
  refine call_ hok (by simp -dsimp) ?_
  simp -dsimp
  refine callM_ htb (by simp -dsimp) rfl ?_
  simp -dsimp
end TL

/- TL, part 22: contracts over abstract memory, called with rows of the caller's own. -/
set_option linter.unusedVariables false
set_option linter.unusedSimpArgs false
namespace TL
open Go Go.RowKit
variable {P : Program}
/-- A contract for pure arguments serves for rows that nobody changes, too. -/
theorem FnS.lend {f : Nat} {m : Mem} {n : Nat} {args : List T} {vs : List V} {post : T → Mem → Nat → Prop} (h : FnS P f m n (vs.map .v) post) (ha : mapO (bor false m 4) args = some vs) : FnS P f m n args post :=
  ⟨h.1, fun φ Z w us hm hr => h.2 φ Z w us hm (bors_sound hm (k := false) (Zb := Z) (fun _ _ h => h) (by simp) args us vs hr ha).toTs⟩
theorem callL_ {f : Nat} {m : Mem} {n : Nat} {args : List T} {vs : List V} {k : T → Mem → Nat → Prop} {post : T → Mem → Nat → Prop} (h : FnS P f m n (vs.map .v) post) (ha : mapO (bor false m 4) args = some vs) (hk : ∀ t m' n', post t m' n' → k t m' n') : callP P f m n args k := callS_ (h.lend ha) hk
end TL

/- Tables of stories, least stories: the program. -/
set_option linter.unusedSimpArgs false
set_option linter.unusedVariables false
set_option maxRecDepth 100000
set_option maxHeartbeats 4000000
set_option pp.maxSteps 1500
namespace TL
open Go Go.Proofs
attribute [local simp] marksV storyV codeV Claim.v Place.v
theorem full_table {p : Nat} (h1 : 1 ≤ p) (h4 : p ≤ 4) : (2 ^ 2 ^ p - 1 : Nat) < 65536 ∧ IntKind.wrap .i64 (IntKind.wrap .i64 (2 ^ min (IntKind.wrap .u64 (2 ^ min p IntKind.u64.bits)).toNat IntKind.i64.bits) - 1) = ((2 ^ 2 ^ p - 1 : Nat) : Int) := by
  have : p = 1 ∨ p = 2 ∨ p = 3 ∨ p = 4 := by omega
  rcases this with rfl | rfl | rfl | rfl <;> exact ⟨by decide, by rfl⟩
def Ist (p : Nat) (l : List Claim) (e : Nat) (s : S) : Prop := ∃ i : Nat, s.tm 0 = .v (.int .i64 p) ∧ s.tm 5 = .v (.int .i64 (storyTab p (l.take i))) ∧ s.tm 12 = .v (.sl (l.map Claim.v)) ∧ s.tm 13 = .v (.int .i64 l.length) ∧ s.tm 14 = .v (.int .i64 i) ∧ i ≤ l.length ∧ (e = 1 → i = l.length)
theorem storyTab_succ {p i : Nat} {l : List Claim} (h : i < l.length) : storyTab p (l.take (i + 1)) = storyTab p (l.take i) &&& claimTab p l[i] := by
  unfold storyTab
  rw [List.take_succ_eq_append_getElem h, List.foldl_append]; rfl
theorem storyTab_small {p : Nat} (h4 : p ≤ 4) (l : List Claim) : storyTab p l < 65536 := table_small h4 (storyTab_le p l)
theorem storyTable_fn (p : Nat) (l : List Claim) (hp1 : 1 ≤ p) (hp4 : p ≤ 4) (hl : l.length ≤ 1048576) (h : ∀ c ∈ l, claimOk p c = true) : FnZ Tryz.prog 100 [.int .i64 p, storyV l] (.int .i64 (storyTab p l)) := by
  obtain ⟨hf1, hf2⟩ := full_table hp1 hp4
  have hp0 : ¬ (p : Int) < 0 := by omega
  refine FnZ_of (rs := [.tmp 4]) false Tryz.func100 rfl rfl rfl rfl (Nat.le_of_ble_eq_true rfl) ?_
  have hsh : ¬ IntKind.wrap .u64 (2 ^ min p IntKind.u64.bits) < 0 := by
    have : p = 1 ∨ p = 2 ∨ p = 3 ∨ p = 4 := by omega
    rcases this with rfl | rfl | rfl | rfl <;> decide
  simp -dsimp [hp0, hsh, hf2]
  refine twp_loopC (Ist p l 0) (fun s => l.length - natOf (s.tm 14)) (Ist p l 1) ?_ ?_ ?_
  · exact ⟨0, by simp -dsimp, by simp -dsimp [storyTab], by simp -dsimp, by simp -dsimp, by simp -dsimp, by omega, by simp⟩
  · rintro s ⟨i, t0, t5, t12, t13, t14, hi, hend⟩
    by_cases hlt : i < l.length
    case neg =>
      simp -dsimp [t13, t14, hlt]
      exact ⟨i, by simp -dsimp [t0], by simp -dsimp [t5], by simp -dsimp [t12], by simp -dsimp [t13], by simp -dsimp [t14], hi, fun _ => by omega⟩
    have hget : (l.map Claim.v)[i]? = some (l[i].v) := by simp [hlt]
    have wi : IntKind.wrap .i64 ((i : Int) + 1) = ((i + 1 : Nat) : Int) := by rw [w64 (by omega) (by omega)]; omega
    have hmu1 : l.length - (i + 1) < l.length - i := by omega
    have hct := claimTable_fn p l[i] (h _ (List.getElem_mem _))
    rw [Int.toNat_natCast] at hct
    have ha := storyTab_small hp4 (l.take i)
    have hb : claimTab p l[i] < 65536 := table_small hp4 (tabN_lt _ _)
    have hs := storyTab_succ (p := p) hlt
    have hand := and_nn (a := storyTab p (l.take i)) (b := claimTab p l[i]) (by omega) (by omega)
    generalize claimTab p l[i] = b at *
    generalize storyTab p (l.take i) = a at *
    simp -dsimp [t0, t5, t12, t13, t14, hlt, hget, nes]
    refine call_ hct (by simp -dsimp) ?_
    simp -dsimp [t0, t5, t12, t13, t14, hand, wi, hmu1]
    exact ⟨i + 1, by simp -dsimp [t0], by simp -dsimp [hs], by simp -dsimp [t12], by simp -dsimp [t13], by simp -dsimp, by omega, by simp⟩
  · rintro s ⟨i, t0, t5, t12, t13, t14, hi, hend⟩
    have := hend rfl
    subst this
    rw [List.take_length] at t5
    simp -dsimp [t5]
theorem allOk_of {people : Int} {l : List Claim} (h : storyOk people l = true) : 1 ≤ people ∧ people ≤ 4 ∧ (∀ c ∈ l, claimOk people c = true) ∧ l.length ≤ 6 := by
  simp only [storyOk, peopleOk, Bool.and_eq_true, decide_eq_true_eq, List.all_eq_true] at h
  exact ⟨h.1.2.1, h.1.2.2, h.1.1, h.2⟩
def storyTableV (people : Int) (l : List Claim) : Int := if storyOk people l = true then (storyTab people.toNat l : Int) else -1
theorem cloneClaims_own (l : List Claim) (hl : l.length ≤ 1048576) (m : Mem) (n : Nat) : FnS Tryz.prog 99 m n [.v (storyV l)] (fun t m' n' => n ≤ n' ∧ (∀ j, j < n → m' j = m j) ∧ IsRow m' n n' 89 t (l.map Claim.v)) := by
  have b1 : l.length * 32 ≤ 140737488355328 := by omega
  refine FnS_of (rs := [.tmp 2]) false Tryz.func99 rfl rfl rfl rfl (Nat.le_of_ble_eq_true rfl) ?_
  simp -dsimp [b1]
  refine ⟨⟨by omega, fun j hj => by simp [show ¬ j = n + 1 by omega, show ¬ j = n by omega], .inr ⟨n + 1, rfl, by omega, by omega, by simp⟩⟩, fun h => .inl ⟨rfl, by simp [h]⟩⟩
theorem without_fn (l : List Claim) (k : Nat) (hk : k < l.length) (hl : l.length ≤ 1048576) : FnZ Tryz.prog 69 [storyV l, .int .i64 k] (storyV (l.eraseIdx k)) := by
  have e : l.eraseIdx k = l.take k ++ l.drop (k + 1) := List.eraseIdx_eq_take_drop_succ ..
  have h1 : (k : Int) ≤ l.length := by omega
  have h2 : k ≤ l.length := by omega
  have h3 : k + 1 ≤ l.length := by omega
  have h4 : (k : Int) + 1 ≤ l.length := by omega
  have w1 : IntKind.wrap .i64 ((k : Int) + 1) = (k : Int) + 1 := w64 (by omega) (by omega)
  have b3 : k * 32 ≤ 140737488355328 := by omega
  have b4 : (k + (l.length - (k + 1))) * 32 ≤ 140737488355328 := by omega
  have b2 : (min k l.length + (l.length - (k + 1))) * 32 ≤ 140737488355328 := by omega
  have h5 : ((k : Int) + 1).toNat = k + 1 := by omega
  have h6 : (0 : Int) ≤ (k : Int) + 1 := by omega
  have z2 : allZ 2 (List.drop (k + 1) (List.map Claim.v l)) := by rw [← List.map_drop]; exact allZ_claims _
  have tk : List.take l.length (List.map Claim.v l) = List.map Claim.v l := List.take_of_length_le (by simp)
  have hcl := fun m n => cloneClaims_own (l.take k) (by simp; omega) m n
  rw [e]
  refine FnZ_of (rs := [.tmp 4]) false Tryz.func69 rfl rfl rfl rfl (Nat.le_of_ble_eq_true rfl) ?_
  simp -dsimp
  refine twp_draw [0, 1, 2, 4, 5, 6, 7, 3, 8, 9] [] (List.replicate 10 []) (List.replicate 10 []) (by kernel_rfl) (by kernel_rfl) (by kernel_rfl) (by kernel_rfl) ?_
  simp -dsimp [h1, h2, h3, h4, h5, h6, w1, b2, b3, b4, z2, tk, nes]
  refine callL_ (vs := [storyV (l.take k)]) (hcl _ _) (by simp -dsimp) ?_
  rintro t m1 n1 ⟨hn1, hout, hrow⟩
  rcases hrow with ⟨rfl, hz⟩ | ⟨id, rfl, hi0, hi1, him⟩
  · have hz' : l.take k = [] := by simpa using hz
    have b5 : (l.length - (k + 1)) * 32 ≤ 140737488355328 := by omega
    simp -dsimp [h1, h2, h3, h4, h5, h6, w1, b2, b3, b4, b5, z2, tk, nes, hz']
  · have f1 := far hi1
    simp -dsimp [h1, h2, h3, h4, h5, h6, w1, b2, b3, b4, z2, tk, nes, him, f1]
def Ils5 (p : Nat) (R : List Claim) (e : Nat) (s : S) : Prop := ∃ (i : Nat) (l : List Claim), s.tm 0 = .v (.int .i64 p) ∧ s.tm 6 = .v (.sl (l.map Claim.v)) ∧ s.tm 7 = .v (.int .i64 i) ∧ i ≤ l.length ∧ l.length ≤ 6 ∧ (∀ c ∈ l, claimOk p c = true) ∧ leastGo p (l.length - i) i l = R ∧ (e = 1 → i = l.length)
theorem leastStory_fn (people : Int) (l : List Claim) (h : storyOk people l = true) : FnZ Tryz.prog 70 [.int .i64 people, storyV l] (.tup [storyV (least people.toNat l), .bool true]) := by
  obtain ⟨h1, h4, hc, h6⟩ := allOk_of h
  obtain ⟨p, rfl⟩ := Int.eq_ofNat_of_zero_le (show 0 ≤ people by omega)
  rw [Int.toNat_natCast]
  have hok := storyOk_fn p l (by omega)
  have hsub := least_sub p l
  have hcp := copyStory_fn l (by omega) fun c hx => (claim_fine (hc c hx)).2.2.1
  have hcp2 := copyStory_fn (least p l) (by have := hsub.length_le; omega) fun c hx => (claim_fine (hc c (hsub.subset hx))).2.2.1
  have hR : leastGo p (l.length - 0) 0 l = least p l := rfl
  generalize least p l = R at *
  refine FnZ_of (rs := [.tmp 4, .tmp 5]) false Tryz.func70 rfl rfl rfl rfl (Nat.le_of_ble_eq_true rfl) ?_
  simp -dsimp
  refine call_ hok (by simp -dsimp) ?_
  simp -dsimp [h]
  refine call_ hcp (by simp -dsimp) ?_
  simp -dsimp
  refine twp_loopC (Ils5 p R 0) (fun s => (match s.tm 6 with | .v (.sl xs) => xs.length | _ => 0) - natOf (s.tm 7)) (Ils5 p R 1) ?_ ?_ ?_
  · exact ⟨0, l, by simp -dsimp, by simp -dsimp, by simp -dsimp, by omega, h6, hc, hR, by simp⟩
  · rintro s ⟨i, k, t0, t6, t7, hi, hk6, hkc, hgo, hend⟩
    by_cases hlt : i < k.length
    case neg =>
      simp -dsimp [t6, t7, hlt]
      exact ⟨i, k, by simp -dsimp [t0], by simp -dsimp [t6], by simp -dsimp [t7], hi, hk6, hkc, hgo, fun _ => by omega⟩
    have hw := without_fn k i hlt (by omega)
    have hel : (k.eraseIdx i).length = k.length - 1 := by rw [List.length_eraseIdx]; simp [hlt]
    have hec : ∀ c ∈ k.eraseIdx i, claimOk p c = true := fun c hx => hkc c ((List.eraseIdx_sublist _ _).subset hx)
    have hs1 := storyTable_fn p (k.eraseIdx i) (by omega) (by omega) (by omega) hec
    have hs2 := storyTable_fn p k (by omega) (by omega) (by omega) hkc
    have wi : IntKind.wrap .i64 ((i : Int) + 1) = ((i + 1 : Nat) : Int) := by rw [w64 (by omega) (by omega)]; omega
    have hmu1 : k.length - (i + 1) < k.length - i := by omega
    have hmu2 : k.length - 1 - i < k.length - i := by omega
    simp -dsimp [t0, t6, t7, hlt]
    refine call_ hw (by simp -dsimp) ?_
    simp -dsimp [t0, t6, t7]
    refine call_ hs1 (by simp -dsimp) ?_
    simp -dsimp [t0, t6, t7]
    refine call_ hs2 (by simp -dsimp) ?_
    by_cases hq : storyTab p (k.eraseIdx i) = storyTab p k
    · have hgo2 := leastGo_out hlt hq
      rw [hgo2] at hgo
      have hq' : (storyTab p (k.eraseIdx i) : Int) = storyTab p k := by rw [hq]
      simp -dsimp [t0, t6, t7, hq, hq', hel, hmu2]
      exact ⟨i, k.eraseIdx i, by simp -dsimp [t0], by simp -dsimp, by simp -dsimp [t7], by omega, by omega, hec, hgo, by simp⟩
    · have hgo2 := leastGo_keep hlt hq
      rw [hgo2] at hgo
      have hq' : ¬ (storyTab p (k.eraseIdx i) : Int) = storyTab p k := by omega
      simp -dsimp [t0, t6, t7, hq, hq', wi, hmu1]
      exact ⟨i + 1, k, by simp -dsimp [t0], by simp -dsimp [t6], by simp -dsimp, by omega, hk6, hkc, hgo, by simp⟩
  · rintro s ⟨i, k, t0, t6, t7, hi, hk6, hkc, hgo, hend⟩
    have := hend rfl
    subst this
    rw [leastGo_end rfl (by omega)] at hgo
    subst hgo
    simp -dsimp [t6]
    refine call_ hcp2 (by simp -dsimp) ?_
    simp -dsimp
end TL

/- Tables of stories, least stories: the reference. -/
set_option linter.unusedSimpArgs false
set_option linter.unusedVariables false
set_option maxRecDepth 100000
set_option maxHeartbeats 4000000
set_option pp.maxSteps 1500
namespace TL
open Go Go.Proofs
attribute [local simp] marksV storyV codeV Claim.v Place.v
theorem l4May_fn (people : Int) (c : Claim) (h : claimOk people c = true) (w : Nat) (hw : w < 16) : FnZ Tryz.prog 172 [c.v, .int .i64 w] (.bool (mayB c w)) := by
  obtain ⟨hp1, hp4, h0, h1, ht, hl, hr⟩ := claim_facts h
  obtain ⟨T, hT, eT⟩ := termOk_tree ht
  have hh := l3Holds_fn w hw T hT (by rw [eT]; omega)
  have etr := truth_tm w hT
  rw [eT] at hh etr
  rw [← etr] at hh
  obtain ⟨who, says⟩ := c
  simp only at h0 h1 hl hr hh
  obtain ⟨k, rfl⟩ := Int.eq_ofNat_of_zero_le h0
  have hb := bit2 w k (by omega)
  have z1 : ¬ (k : Int) < 0 := by omega
  have e : mayB ⟨(k : Int), says⟩ w = (truth says w == w.testBit k) := rfl
  rw [e]
  clear etr
  generalize truth says w = tr at *
  have c0 := ft (w.testBit k)
  refine FnZ_of (rs := [.tmp 4]) false Tryz.func172 rfl rfl rfl rfl (Nat.le_of_ble_eq_true rfl) ?_
  simp -dsimp
  refine twp_draw [0, 1, 2, 3, 4, 5, 6, 7, 8, 9, 10, 11] [0] (List.replicate 12 [0]) (List.replicate 12 [0]) (by kernel_rfl) (by kernel_rfl) (by kernel_rfl) (by kernel_rfl) ?_
  rcases c0 with c0 | c0
  · rw [c0] at hb ⊢
    simp -dsimp [z1, hb]
    refine call_ hh (by simp -dsimp) ?_
    cases tr <;> simp -dsimp [z1, hb]
  · rw [c0] at hb ⊢
    simp -dsimp [z1, hb]
    refine call_ hh (by simp -dsimp) ?_
    cases tr <;> simp -dsimp [z1, hb]
def Il4 (N : Nat) (p : Nat) (c : Claim) (e : Nat) (s : S) : Prop := ∃ w : Nat, s.tm 0 = .v (.int .i64 p) ∧ s.tm 3 = .ptr 0 0 ∧ s.m 0 = some (.box 89 2 [.v (.int .i64 c.who), .v (marksV c.says)]) ∧ s.tm 6 = .v (.int .i64 w) ∧ s.tm 5 = .v (.int .i64 (tabN w (mayB c))) ∧ w ≤ N ∧ (e = 1 → w = N)
theorem shl_pow {p : Nat} (h : p ≤ 16) : IntKind.wrap .i64 (2 ^ min p IntKind.i64.bits) = ((2 ^ p : Nat) : Int) ∧ (2 : Nat) ^ p < 4611686018427387904 := by
  have hp : 2 ^ p ≤ 2 ^ 16 := Nat.pow_le_pow_right (by omega) h
  have h2 : (2 : Nat) ^ p < 4611686018427387904 := by omega
  refine ⟨?_, h2⟩
  rw [Nat.min_eq_left (by simp [IntKind.bits]; omega), w64]
  · simp
  · have : (0 : Int) ≤ 2 ^ p := Int.pow_nonneg (by omega)
    omega
  · have : ((2 ^ p : Nat) : Int) = (2 : Int) ^ p := by simp
    omega
theorem l4Table_fn (people : Int) (c : Claim) (h : claimOk people c = true) : FnZ Tryz.prog 153 [.int .i64 people, c.v] (.int .i64 (claimTab people.toNat c)) := by
  obtain ⟨hp1, hp4, h0, h1, ht, hl, hr⟩ := claim_facts h
  obtain ⟨p, rfl⟩ := Int.eq_ofNat_of_zero_le (show 0 ≤ people by omega)
  have e : claimTab (p : Int).toNat c = tabN (2 ^ p) (mayB c) := rfl
  rw [e]
  have hN := pow_small (p := p) (by omega)
  have ws := (shl_pow (p := p) (by omega)).1
  have hm : ∀ w : Nat, w < 2 ^ p → FnZ Tryz.prog 172 [c.v, .int .i64 w] (.bool (mayB c w)) := fun w hw => l4May_fn p c h w (by omega)
  generalize hNN : 2 ^ p = N at *
  have hp0 : ¬ (p : Int) < 0 := by omega
  refine FnZ_of (rs := [.tmp 4]) false Tryz.func153 rfl rfl rfl rfl (Nat.le_of_ble_eq_true rfl) ?_
  simp -dsimp
  refine twp_loopC (Il4 N p c 0) (fun s => N - natOf (s.tm 6)) (Il4 N p c 1) ?_ ?_ ?_
  · exact ⟨0, by simp -dsimp, by simp -dsimp, by simp -dsimp, by simp -dsimp, by simp -dsimp [tabN], by omega, by simp⟩
  · rintro s ⟨w, t0, t3, m0, t6, t5, hw, hend⟩
    by_cases hlt : w < N
    case neg =>
      simp -dsimp [t0, t6, hp0, ws, hlt]
      exact ⟨w, by simp -dsimp [t0], by simp -dsimp [t3], by simp -dsimp [m0], by simp -dsimp [t6], by simp -dsimp [t5], hw, fun _ => by omega⟩
    have wi : IntKind.wrap .i64 ((w : Int) + 1) = ((w + 1 : Nat) : Int) := by rw [w64 (by omega) (by omega)]; omega
    have hmu : N - (w + 1) < N - w := by omega
    have hb := tabN_lt (mayB c) w
    have h2 := (shl_pow (p := w) (by omega)).2
    have wsh := (shl_pow (p := w) (by omega)).1
    have hp : 2 ^ w ≤ 2 ^ 16 := Nat.pow_le_pow_right (by omega) (by omega)
    have hor := or_ni (a := tabN w (mayB c)) (b := 2 ^ w) (x := (2 : Int) ^ w) (by simp) (by omega) h2
    have hgw := ft (mayB c w)
    have hz : ¬ (w : Int) < 0 := by omega
    simp -dsimp [t0, t3, m0, t6, hp0, ws, hlt]
    refine call_ (hm w hlt) (by simp -dsimp) ?_
    rcases hgw with hgw | hgw
    · have ht : tabN (w + 1) (mayB c) = tabN w (mayB c) := by simp [tabN, hgw]
      simp -dsimp [hgw, t5, t6, wi, hmu]
      exact ⟨w + 1, by simp -dsimp [t0], by simp -dsimp [t3], by simp -dsimp [m0], by simp -dsimp, by simp -dsimp [t5, ht], by omega, by simp⟩
    · have ht : tabN (w + 1) (mayB c) = tabN w (mayB c) ||| 2 ^ w := by simp [tabN, hgw]
      simp -dsimp [hgw, t5, t6, wi, hmu, wsh, hor, hz]
      exact ⟨w + 1, by simp -dsimp [t0], by simp -dsimp [t3], by simp -dsimp [m0], by simp -dsimp, by simp -dsimp [ht], by omega, by simp⟩
  · rintro s ⟨w, t0, t3, m0, t6, t5, hw, hend⟩
    have := hend rfl
    subst this
    simp -dsimp [t5]
def Is4 (p : Nat) (l : List Claim) (e : Nat) (s : S) : Prop := ∃ i : Nat, s.tm 0 = .v (.int .i64 p) ∧ s.tm 1 = .v (.sl (l.map Claim.v)) ∧ s.tm 5 = .v (.int .i64 (storyTab p (l.take i))) ∧ s.tm 6 = .v (.int .i64 i) ∧ i ≤ l.length ∧ (e = 1 → i = l.length)
theorem l4Story_fn (p : Nat) (l : List Claim) (hp1 : 1 ≤ p) (hp4 : p ≤ 4) (hl : l.length ≤ 1048576) (h : ∀ c ∈ l, claimOk p c = true) : FnZ Tryz.prog 123 [.int .i64 p, storyV l] (.int .i64 (storyTab p l)) := by
  obtain ⟨hf1, hf2⟩ := full_table hp1 hp4
  have hp0 : ¬ (p : Int) < 0 := by omega
  refine FnZ_of (rs := [.tmp 4]) false Tryz.func123 rfl rfl rfl rfl (Nat.le_of_ble_eq_true rfl) ?_
  have hsh : ¬ IntKind.wrap .u64 (2 ^ min p IntKind.u64.bits) < 0 := by
    have : p = 1 ∨ p = 2 ∨ p = 3 ∨ p = 4 := by omega
    rcases this with rfl | rfl | rfl | rfl <;> decide
  simp -dsimp [hp0, hsh, hf2]
  refine twp_loopC (Is4 p l 0) (fun s => l.length - natOf (s.tm 6)) (Is4 p l 1) ?_ ?_ ?_
  · exact ⟨0, by simp -dsimp, by simp -dsimp, by simp -dsimp [storyTab], by simp -dsimp, by omega, by simp⟩
  · rintro s ⟨i, t0, t1, t5, t6, hi, hend⟩
    by_cases hlt : i < l.length
    case neg =>
      simp -dsimp [t1, t6, hlt]
      exact ⟨i, by simp -dsimp [t0], by simp -dsimp [t1], by simp -dsimp [t5], by simp -dsimp [t6], hi, fun _ => by omega⟩
    have hget : (l.map Claim.v)[i]? = some (l[i].v) := by simp [hlt]
    have wi : IntKind.wrap .i64 ((i : Int) + 1) = ((i + 1 : Nat) : Int) := by rw [w64 (by omega) (by omega)]; omega
    have hmu1 : l.length - (i + 1) < l.length - i := by omega
    have hct := l4Table_fn p l[i] (h _ (List.getElem_mem _))
    rw [Int.toNat_natCast] at hct
    have ha := storyTab_small hp4 (l.take i)
    have hb : claimTab p l[i] < 65536 := table_small hp4 (tabN_lt _ _)
    have hs := storyTab_succ (p := p) hlt
    have hand := and_nn (a := storyTab p (l.take i)) (b := claimTab p l[i]) (by omega) (by omega)
    generalize claimTab p l[i] = b at *
    generalize storyTab p (l.take i) = a at *
    simp -dsimp [t0, t1, t5, t6, hlt, hget]
    refine call_ hct (by simp -dsimp) ?_
    simp -dsimp [t0, t1, t5, t6, hand, wi, hmu1]
    exact ⟨i + 1, by simp -dsimp [t0], by simp -dsimp [t1], by simp -dsimp [hs], by simp -dsimp, by omega, by simp⟩
  · rintro s ⟨i, t0, t1, t5, t6, hi, hend⟩
    have := hend rfl
    subst this
    rw [List.take_length] at t5
    simp -dsimp [t5]
def IlsA (p : Nat) (l : List Claim) (e : Nat) (s : S) : Prop := ∃ i id : Nat, s.tm 0 = .v (.int .i64 p) ∧ s.tm 1 = .v (.sl (l.map Claim.v)) ∧ s.tm 6 = .loc id ∧ id < s.n ∧ s.m id = some (.arr 89 ((l.take i).map Claim.v)) ∧ s.tm 7 = .v (.int .i64 i) ∧ s.mu = false ∧ i ≤ l.length ∧ (e = 1 → i = l.length)
def IlsB (p : Nat) (R : List Claim) (e : Nat) (s : S) : Prop := ∃ (i : Nat) (l : List Claim), s.tm 0 = .v (.int .i64 p) ∧ (s.tm 6 = .v (.sl (l.map Claim.v)) ∨ ∃ id, s.tm 6 = .loc id ∧ s.m id = some (.arr 89 (l.map Claim.v))) ∧ s.tm 8 = .v (.int .i64 i) ∧ i ≤ l.length ∧ l.length ≤ 6 ∧ (∀ c ∈ l, claimOk p c = true) ∧ leastGo p (l.length - i) i l = R ∧ (e = 1 → i = l.length)
theorem leastStoryS_fn (people : Int) (l : List Claim) (h : storyOk people l = true) : FnZ Tryz.prog 103 [.int .i64 people, storyV l] (.tup [storyV (least people.toNat l), .bool true]) := by
  obtain ⟨h1, h4, hc, h6⟩ := allOk_of h
  obtain ⟨p, rfl⟩ := Int.eq_ofNat_of_zero_le (show 0 ≤ people by omega)
  rw [Int.toNat_natCast]
  have hok := storyOkS_fn p l (by omega) fun c hx => (claim_fine (hc c hx)).1
  have hR : leastGo p (l.length - 0) 0 l = least p l := rfl
  generalize least p l = R at *
  refine FnZ_of (rs := [.tmp 4, .tmp 5]) false Tryz.func103 rfl rfl rfl rfl (Nat.le_of_ble_eq_true rfl) ?_
  simp -dsimp
  refine call_ hok (by simp -dsimp) ?_
  simp -dsimp [h]
  refine twp_loopC (IlsA p l 0) (fun s => l.length - natOf (s.tm 7)) (IlsA p l 1) ?_ ?_ ?_
  · exact ⟨0, 0, by simp -dsimp, by simp -dsimp, by simp -dsimp, by simp -dsimp, by simp -dsimp, by simp -dsimp, by simp -dsimp, by omega, by simp⟩
  · rintro s ⟨i, id, t0, t1, t6, hid, hm, t7, hmu, hi, hend⟩
    by_cases hlt : i < l.length
    case neg =>
      simp -dsimp [t1, t7, hlt]
      exact ⟨i, id, by simp -dsimp [t0], by simp -dsimp [t1], by simp -dsimp [t6], by simp -dsimp; omega, by simp -dsimp [hm], by simp -dsimp [t7], by simp -dsimp [hmu], hi, fun _ => by omega⟩
    have hget : (l.map Claim.v)[i]? = some (l[i].v) := by simp [hlt]
    have wi : IntKind.wrap .i64 ((i : Int) + 1) = ((i + 1 : Nat) : Int) := by rw [w64 (by omega) (by omega)]; omega
    have hmu1 : l.length - (i + 1) < l.length - i := by omega
    have f1 := far hid
    have hsm := (claim_fine (hc l[i] (List.getElem_mem _))).2.2.2
    have b0 : l[i].says.length * 16 ≤ 140737488355328 := by omega
    have b1 : (min i l.length + 1) * 32 ≤ 140737488355328 := by omega
    have htk : (l.take (i + 1)).map Claim.v = (l.take i).map Claim.v ++ [l[i].v] := by rw [List.take_succ_eq_append_getElem hlt, List.map_append]; rfl
    simp -dsimp [t1, t7, hlt]
    refine twp_draw [0, 1, 2, 3, 4, 5, 7, 8, 9, 10, 11, 6, 12, 13, 14, 15, 16] [] (List.replicate 17 []) (List.replicate 17 []) (by kernel_rfl) (by kernel_rfl) (by kernel_rfl) (by kernel_rfl) ?_
    simp -dsimp [t1, t6, t7, hlt, hget, hmu, f1, hm, b0, b1, nes, wi, hmu1]
    refine st_out fun s' ht hm' hn' hu' => ?_
    have q0 := ht 0
    have q1 := ht 1
    have q6 := ht 6
    have q7 := ht 7
    simp -dsimp [t0, t1] at q0 q1 q6 q7 hm' hn' hu'
    clear ht
    refine ⟨i + 1, _, q0, q1, q6, by omega, ?_, q7, by rw [hu', hmu], by omega, by simp⟩
    rw [htk]; simp [hm', nes, f1]
  · rintro s ⟨i, id, t0, t1, t6, hid, hm, t7, hmu, hi, hend⟩
    have := hend rfl
    subst this
    rw [List.take_length] at hm
    simp -dsimp
    refine twp_loopC (IlsB p R 0) (fun s => (match s.tm 6 with | .v (.sl xs) => xs.length | .loc _ => 7 | _ => 0) - natOf (s.tm 8)) (IlsB p R 1) ?_ ?_ ?_
    · exact ⟨0, l, by simp -dsimp [t0], .inr ⟨id, by simp -dsimp [t6], by simp -dsimp [hm]⟩, by simp -dsimp, by omega, h6, hc, hR, by simp⟩
    · rintro s ⟨i, k, t0, t6, t8, hi, hk6, hkc, hgo, hend⟩
      by_cases hlt : i < k.length
      case neg =>
        rcases t6 with t6 | ⟨id, t6, hm⟩
        · simp -dsimp [t6, t8, hlt]
          exact ⟨i, k, by simp -dsimp [t0], .inl (by simp -dsimp [t6]), by simp -dsimp [t8], hi, hk6, hkc, hgo, fun _ => by omega⟩
        · simp -dsimp [t6, t8, hlt, hm]
          exact ⟨i, k, by simp -dsimp [t0], .inr ⟨id, by simp -dsimp [t6], by simp -dsimp [hm]⟩, by simp -dsimp [t8], hi, hk6, hkc, hgo, fun _ => by omega⟩
      have hw := l5Without_fn k i hlt (by omega)
      have hel : (k.eraseIdx i).length = k.length - 1 := by rw [List.length_eraseIdx]; simp [hlt]
      have hec : ∀ c ∈ k.eraseIdx i, claimOk p c = true := fun c hx => hkc c ((List.eraseIdx_sublist _ _).subset hx)
      have hs1 := l4Story_fn p (k.eraseIdx i) (by omega) (by omega) (by omega) hec
      have hs2 := l4Story_fn p k (by omega) (by omega) (by omega) hkc
      have wi : IntKind.wrap .i64 ((i : Int) + 1) = ((i + 1 : Nat) : Int) := by rw [w64 (by omega) (by omega)]; omega
      have hmu1 : k.length - (i + 1) < k.length - i := by omega
      have hmu2 : k.length - 1 - i < k.length - i := by omega
      have hmu3 : k.length - 1 - i < 7 - i := by omega
      have hmu4 : 6 - i < 7 - i := by omega
      by_cases hq : storyTab p (k.eraseIdx i) = storyTab p k
      · have hgo2 := leastGo_out hlt hq
        rw [hgo2] at hgo
        have hq' : (storyTab p (k.eraseIdx i) : Int) = storyTab p k := by rw [hq]
        rcases t6 with t6 | ⟨id, t6, hm⟩
        · simp -dsimp [t0, t6, t8, hlt]
          refine call_ hw (by simp -dsimp) ?_
          simp -dsimp [t0, t6, t8]
          refine call_ hs1 (by simp -dsimp) ?_
          simp -dsimp [t0, t6, t8]
          refine call_ hs2 (by simp -dsimp) ?_
          simp -dsimp [t0, t6, t8, hq, hq', hel, hmu2]
          exact ⟨i, k.eraseIdx i, by simp -dsimp [t0], .inl (by simp -dsimp), by simp -dsimp [t8], by omega, by omega, hec, hgo, by simp⟩
        · simp -dsimp [t0, t6, t8, hlt, hm]
          refine call_ hw (by simp -dsimp [hm]) ?_
          simp -dsimp [t0, t6, t8]
          refine call_ hs1 (by simp -dsimp) ?_
          simp -dsimp [t0, t6, t8]
          refine call_ hs2 (by simp -dsimp [hm]) ?_
          simp -dsimp [t0, t6, t8, hq, hq', hel, hmu3]
          exact ⟨i, k.eraseIdx i, by simp -dsimp [t0], .inl (by simp -dsimp), by simp -dsimp [t8], by omega, by omega, hec, hgo, by simp⟩
      · have hgo2 := leastGo_keep hlt hq
        rw [hgo2] at hgo
        have hq' : ¬ (storyTab p (k.eraseIdx i) : Int) = storyTab p k := by omega
        rcases t6 with t6 | ⟨id, t6, hm⟩
        · simp -dsimp [t0, t6, t8, hlt]
          refine call_ hw (by simp -dsimp) ?_
          simp -dsimp [t0, t6, t8]
          refine call_ hs1 (by simp -dsimp) ?_
          simp -dsimp [t0, t6, t8]
          refine call_ hs2 (by simp -dsimp) ?_
          simp -dsimp [t0, t6, t8, hq, hq', wi, hmu1]
          exact ⟨i + 1, k, by simp -dsimp [t0], .inl (by simp -dsimp [t6]), by simp -dsimp, by omega, hk6, hkc, hgo, by simp⟩
        · simp -dsimp [t0, t6, t8, hlt, hm]
          refine call_ hw (by simp -dsimp [hm]) ?_
          simp -dsimp [t0, t6, t8]
          refine call_ hs1 (by simp -dsimp) ?_
          simp -dsimp [t0, t6, t8]
          refine call_ hs2 (by simp -dsimp [hm]) ?_
          simp -dsimp [t0, t6, t8, hq, hq', wi, hmu4]
          exact ⟨i + 1, k, by simp -dsimp [t0], .inr ⟨id, by simp -dsimp [t6], by simp -dsimp [hm]⟩, by simp -dsimp, by omega, hk6, hkc, hgo, by simp⟩
    · rintro s ⟨i, k, t0, t6, t8, hi, hk6, hkc, hgo, hend⟩
      have := hend rfl
      subst this
      rw [leastGo_end rfl (by omega)] at hgo
      subst hgo
      rcases t6 with t6 | ⟨id, t6, hm⟩
      · simp -dsimp [t6]
      · simp -dsimp [t6, hm]
end TL

/- Places read: the reference. -/
set_option linter.unusedSimpArgs false
set_option linter.unusedVariables false
set_option maxRecDepth 100000
set_option maxHeartbeats 4000000
set_option pp.maxSteps 1500
namespace TL
open Go Go.Proofs
attribute [local simp] marksV storyV codeV Claim.v Place.v
/-! Places. -/
theorem cut32_text {p : Place} (h : placeOk p = true) : cutAt 32 (placeTx p) = [[UInt8.ofNat (48 + p.people.toNat)], restTx p] := by
  obtain ⟨h1, h2, _, _⟩ := placeOk_all h
  rw [placeTx_shape h]
  have hd : ∀ y ∈ [UInt8.ofNat (48 + p.people.toNat)], y ≠ 32 := fun y hy => by
    rw [List.mem_singleton.1 hy]
    rcases (by omega : p.people = 1 ∨ p.people = 2 ∨ p.people = 3 ∨ p.people = 4) with e | e | e | e <;> rw [e] <;> decide
  have := cutAt_app (r := restTx p) hd
  rw [cutAt_none fun y hy => (restTx_plain h y hy).1] at this
  exact this
theorem digS_digit {n : Int} (h0 : 1 ≤ n) (h4 : n ≤ 4) : digS [UInt8.ofNat (48 + n.toNat)] = n := by
  rcases (by omega : n = 1 ∨ n = 2 ∨ n = 3 ∨ n = 4) with rfl | rfl | rfl | rfl <;> rfl
theorem parts_two {s x rest : List UInt8} (h : cutAt 32 s = [x, rest]) : parts s (digS x) rest := ⟨(fun e => by rw [e] at h; cases h), fun p hp hs => by
  obtain ⟨h1, h2, _, _⟩ := placeOk_all hp
  rw [← hs, cut32_text hp] at h
  injection h with h3 h4
  injection h4 with h5 _
  rw [← h3, digS_digit h1 h2]
  exact ⟨rfl, h5.symm⟩⟩
theorem readP_parts {s : List UInt8} (h : (cutAt 32 s).length ≠ 2) : readP s = none := readP_none fun p hp hs => by
  rw [← hs, cut32_text hp] at h; exact h rfl
theorem reads_ok {D : Int} {ps : List (List UInt8)} {l : List Claim} (h : ps.map (readC D) = l.map some) : ∀ c ∈ l, claimOk D c = true := fun c hc => by
  have : some c ∈ ps.map (readC D) := by rw [h]; exact List.mem_map_of_mem hc
  obtain ⟨x, _, hx⟩ := List.mem_map.1 this
  exact (readC_is hx).1
theorem claimOk_fine {D : Int} {c : Claim} (h : claimOk D c = true) : c.fine := by
  obtain ⟨_, _, _, _, h5, h6⟩ := claimOk_all h
  exact ⟨termOk_fits h5, by omega⟩
def Isrp (s x rest : List UInt8) (D : Int) (e : Nat) (y : S) : Prop := ∃ (i : Nat) (l : List Claim) (row : T), y.tm 0 = .v (.str s) ∧ y.tm 2 = .ptr 0 0 ∧ y.m 0 = some (.box 48 2 [.v (.int .i64 0), .nil]) ∧ y.tm 5 = .ptr 1 0 ∧
  y.m 1 = some (.box 48 2 [.v (.int .i64 D), row]) ∧ (row = .nil ∧ l = [] ∨ ∃ id, row = .loc id ∧ 1 < id ∧ id < y.n ∧ y.m id = some (.arr 89 (l.map Claim.v))) ∧
  y.tm 4 = .v (.sl [.str x, .str rest]) ∧ y.tm 6 = .v (.sl ((cutAt 44 rest).map V.str)) ∧ y.tm 7 = .v (.int .i64 i) ∧ y.mu = false ∧ 1 < y.n ∧ i ≤ (cutAt 44 rest).length ∧ ((cutAt 44 rest).take i).map (readC D) = l.map some ∧ (rest = [46] → l = []) ∧ (e = 1 → rest = [46] ∨ i = (cutAt 44 rest).length)
theorem readPlaceS_fn (s : List UInt8) (hl : s.length ≤ 2000000000) : FnZ Tryz.prog 53 [.str s] (optP (readP s)) := by
  have hcut := l1Cut_fn s 32 hl
  have e32 : (((32 : UInt8).toNat : Nat) : Int) = 32 := rfl
  have e44 : (((44 : UInt8).toNat : Nat) : Int) = 44 := rfl
  rw [e32] at hcut
  by_cases h2 : (cutAt 32 s).length = 2
  case neg =>
    rw [readP_parts h2]
    have h2' : ¬ ((cutAt 32 s).length : Int) = 2 := by omega
    refine FnZ_of (rs := [.cell 2 48, .tmp 3]) false Tryz.func53 rfl rfl rfl rfl (Nat.le_of_ble_eq_true rfl) ?_
    simp -dsimp
    refine call_ hcut (by simp -dsimp) ?_
    simp -dsimp [h2, h2', optP]
  have h3 : ∃ x rest, cutAt 32 s = [x, rest] := by
    generalize cutAt 32 s = ps at h2
    match ps, h2 with
    | [x, r], _ => exact ⟨x, r, rfl⟩
  refine h3.elim fun x h4 => h4.elim fun rest h5 => ?_
  clear h3 h4 h2
  have hxl : x.length ≤ s.length := cutAt_piece (c := 32) (by rw [h5]; simp)
  have hrl : rest.length ≤ s.length := cutAt_piece (c := 32) (by rw [h5]; simp)
  have hpt := parts_two h5
  rw [h5] at hcut
  clear h5
  have hdg := l1Digits_fn x (by omega)
  have hct2 := l1Cut_fn rest 44 (by omega)
  rw [e44] at hct2
  generalize digS x = D at *
  refine FnZ_of (rs := [.cell 2 48, .tmp 3]) false Tryz.func53 rfl rfl rfl rfl (Nat.le_of_ble_eq_true rfl) ?_
  simp -dsimp
  refine call_ hcut (by simp -dsimp) ?_
  simp -dsimp
  refine call_ hdg (by simp -dsimp) ?_
  simp -dsimp
  refine call_ hct2 (by simp -dsimp) ?_
  simp -dsimp
  refine twp_loopC (Isrp s x rest D 0) (fun y => (cutAt 44 rest).length - natOf (y.tm 7)) (Isrp s x rest D 1) ?_ ?_ ?_
  · exact ⟨0, [], .nil, by simp -dsimp, by simp -dsimp, by simp -dsimp, by simp -dsimp, by simp -dsimp, .inl ⟨rfl, rfl⟩, by simp -dsimp, by simp -dsimp, by simp -dsimp, by simp -dsimp, by simp -dsimp, by omega, by simp, by simp, by simp⟩
  · rintro y ⟨i, l, row, t0, t2, m0, t5, m1, hrow, t4, t6, t7, hmu, hn, hi, hrd, hdot, hend⟩
    by_cases hlt : i < (cutAt 44 rest).length
    case neg =>
      simp -dsimp [t4, t6, t7, hlt]
      exact ⟨i, l, row, by simp -dsimp [t0], by simp -dsimp [t2], by simp -dsimp [m0], by simp -dsimp [t5], by simp -dsimp [m1], by simpa -dsimp using hrow, by simp -dsimp [t4], by simp -dsimp [t6], by simp -dsimp [t7], by simp -dsimp [hmu], by simp -dsimp [hn], hi, hrd, hdot, fun _ => .inr (by omega)⟩
    by_cases hd : rest = [46]
    · have hlt2 : i < (cutAt 44 [46]).length := by rw [← hd]; exact hlt
      simp -dsimp [t4, t6, t7, hlt, hlt2, hd]
      exact ⟨i, l, row, by simp -dsimp [t0], by simp -dsimp [t2], by simp -dsimp [m0], by simp -dsimp [t5], by simp -dsimp [m1], by simpa -dsimp using hrow, by simp -dsimp [t4, hd], by simp -dsimp [t6, hd], by simp -dsimp [t7], by simp -dsimp [hmu], by simp -dsimp [hn], by rw [← hd]; exact hi, by rw [← hd]; exact hrd, fun _ => hdot hd, fun _ => .inl rfl⟩
    have hget : ((cutAt 44 rest).map V.str)[i]? = some (.str (cutAt 44 rest)[i]) := by simp [hlt]
    have hcl := cutAt_len 44 rest
    have wi : IntKind.wrap .i64 ((i : Int) + 1) = ((i + 1 : Nat) : Int) := by rw [w64 (by omega) (by omega)]; omega
    have hmu1 : (cutAt 44 rest).length - (i + 1) < (cutAt 44 rest).length - i := by omega
    have hmem := List.getElem_mem hlt
    have hpl := cutAt_piece hmem
    have hrc := readClaimS_fn D (cutAt 44 rest)[i] (by omega)
    have hnx : ∀ c, readC D (cutAt 44 rest)[i] = some c → _ := fun c => reads_next (c := c) hlt hrd
    have hno := readP_piece hpt hd _ hmem
    have hll := reads_len hrd
    have f0 := far (show 0 < y.n by omega)
    have f1 := far hn
    generalize readC D (cutAt 44 rest)[i] = o at *
    cases o with
    | none =>
      rw [hno rfl]
      simp -dsimp [t4, t6, t7, hlt, hget, hd]
      refine twp_draw [0, 1, 2, 3, 4, 5, 1006, 7, 8, 9, 10, 11, 12] [1] (List.replicate 13 [0]) (List.replicate 13 [0]) (by kernel_rfl) (by kernel_rfl) (by kernel_rfl) (by kernel_rfl) ?_
      simp -dsimp [t4, t5, t6, t7, hlt, hget, m1, f0, f1, nes]
      refine pure_ hrc (by simp -dsimp) ?_
      simp -dsimp [optC, optP, t2, m0, f0, f1, nes]
    | some c =>
      have hn1 := hnx c rfl
      clear hnx hno
      rcases hrow with ⟨rfl, rfl⟩ | ⟨id, rfl, hid1, hid, hm⟩
      · simp -dsimp [t4, t6, t7, hlt, hget, hd]
        refine twp_draw [0, 1, 2, 3, 4, 5, 1006, 7, 8, 9, 10, 11, 12] [1] (List.replicate 13 [0]) (List.replicate 13 [0]) (by kernel_rfl) (by kernel_rfl) (by kernel_rfl) (by kernel_rfl) ?_
        simp -dsimp [t4, t5, t6, t7, hlt, hget, m1, f0, f1, nes]
        refine pure_ hrc (by simp -dsimp) ?_
        simp -dsimp [optC, optP, t2, t5, t7, m0, m1, hmu, f0, f1, wi, hmu1, nes]
        refine st_out fun s' ht hm' hn' hu' => ?_
        have a0 := ht 0
        have a2 := ht 2
        have a4 := ht 4
        have a5 := ht 5
        have a6 := ht 6
        have a7 := ht 7
        simp -dsimp [t0, t2, t4, t5, t6, wi] at a0 a2 a4 a5 a6 a7 hm' hn' hu'
        clear ht
        refine ⟨i + 1, _, .loc (y.n + 1 + 1 + 1), a0, a2, by simp [hm', f0, nes, m0], a5, by simp [hm', f1, nes, m1], .inr ⟨_, rfl, by omega, by omega, ?_⟩, a4, a6, a7, by rw [hu', hmu], by omega, by omega, hn1, fun h => absurd h hd, by simp⟩
        simp [hm', nes]
      · have f2 := far hid
        have g0 : ¬ id = 0 := by omega
        have g1 : ¬ id = 1 := by omega
        have b1 : (l.length + 1) * 32 ≤ 140737488355328 := by omega
        simp -dsimp [t4, t6, t7, hlt, hget, hd]
        refine twp_draw [0, 1, 2, 3, 4, 5, 1006, 7, 8, 9, 10, 11, 12] [1] (List.replicate 13 [0]) (List.replicate 13 [0]) (by kernel_rfl) (by kernel_rfl) (by kernel_rfl) (by kernel_rfl) ?_
        simp -dsimp [t4, t5, t6, t7, hlt, hget, m1, f0, f1, nes]
        refine pure_ hrc (by simp -dsimp) ?_
        simp -dsimp [optC, optP, t2, t5, t7, m0, m1, hm, hmu, f0, f1, f2, b1, wi, hmu1, nes, g0, g1, Ne.symm g0, Ne.symm g1]
        refine st_out fun s' ht hm' hn' hu' => ?_
        have a0 := ht 0
        have a2 := ht 2
        have a4 := ht 4
        have a5 := ht 5
        have a6 := ht 6
        have a7 := ht 7
        simp -dsimp [t0, t2, t4, t5, t6, wi] at a0 a2 a4 a5 a6 a7 hm' hn' hu'
        clear ht
        refine ⟨i + 1, _, .loc (y.n + 1 + 1 + 1), a0, a2, by simp [hm', f0, nes, Ne.symm g0, m0], a5, by simp [hm', f1, nes, Ne.symm g1, m1], .inr ⟨_, rfl, by omega, by omega, ?_⟩, a4, a6, a7, by rw [hu', hmu], by omega, by omega, hn1, fun h => absurd h hd, by simp⟩
        simp [hm', nes]
  · rintro y ⟨i, l, row, t0, t2, m0, t5, m1, hrow, t4, t6, t7, hmu, hn, hi, hrd, hdot, hend⟩
    have hll := reads_len hrd
    have hcl := cutAt_len 44 rest
    have hcase : rest = [46] ∧ l = [] ∨ rest ≠ [46] ∧ (cutAt 44 rest).map (readC D) = l.map some := by
      by_cases hd : rest = [46]
      · exact .inl ⟨hd, hdot hd⟩
      · have := (hend rfl).resolve_left hd
        rw [this, List.take_length] at hrd
        exact .inr ⟨hd, hrd⟩
    have hfine : (⟨D, l⟩ : Place).fine := ⟨by simp only; omega, fun c hc => claimOk_fine (reads_ok hrd c hc)⟩
    have he := readP_end hpt hcase
    have hT := placeTextS_fn ⟨D, l⟩ hfine
    rw [he]
    clear he hpt
    generalize placeTx ⟨D, l⟩ = tx at *
    have f0 := far (show 0 < y.n by omega)
    have f1 := far hn
    rcases hrow with ⟨rfl, rfl⟩ | ⟨id, rfl, hid1, hid, hm⟩
    · by_cases hx : tx = s
      · simp -dsimp [t5, m1, f1]
        refine call_ hT (by simp -dsimp) ?_
        simp -dsimp [t0, t2, t5, m0, m1, hx, optP]
      · simp -dsimp [t5, m1, f1]
        refine call_ hT (by simp -dsimp) ?_
        simp -dsimp [t0, t2, t5, m0, m1, hx, optP]
    · have f2 := far hid
      have g0 : ¬ id = 0 := by omega
      have g1 : ¬ id = 1 := by omega
      by_cases hx : tx = s
      · simp -dsimp [t5, m1, f1]
        refine call_ hT (by simp -dsimp [hm]) ?_
        simp -dsimp [t0, t2, t5, m0, m1, hm, hx, optP, g0, g1, f0, f1, f2]
      · simp -dsimp [t5, m1, f1]
        refine call_ hT (by simp -dsimp [hm]) ?_
        simp -dsimp [t0, t2, t5, m0, m1, hm, hx, optP, g0, g1, f0, f1, f2]
end TL

/- What a deed makes of a place: the reference. -/
set_option linter.unusedSimpArgs false
set_option linter.unusedVariables false
set_option maxRecDepth 100000
set_option maxHeartbeats 4000000
set_option pp.maxSteps 1500
namespace TL
open Go Go.Proofs
attribute [local simp] marksV storyV codeV Claim.v Place.v Deed.v
theorem l15Made_fn (p : Place) (a : Deed) (hp : placeOk p = true) (ha : a.words.length ≤ 1000000000) : FnZ Tryz.prog 76 [p.v, a.v] (made p a).v := by
  obtain ⟨hfine, hfit, hsm, hl6⟩ := place_fine hp
  have hpl := fun m n => l15Place_own p hsm m n
  have hrc := readClaimS_fn p.people a.words (by omega)
  have hleast := leastStoryS_fn p.people p.story hp
  have hwo : ∀ k : Nat, k < p.story.length → FnZ Tryz.prog 102 [storyV p.story, .int .i64 k] (storyV (p.story.eraseIdx k)) := fun k hk => l5Without_fn p.story k hk (by omega)
  have hin := l1In_z a.num 0 ((p.story.length : Int) - 1)
  have w1 : IntKind.wrap .i64 ((p.story.length : Int) - 1) = (p.story.length : Int) - 1 := w64 (by omega) (by omega)
  obtain ⟨people, story⟩ := p
  obtain ⟨kind, num, words⟩ := a
  simp only at hrc hleast hwo hin w1 hl6
  have b1 : (story.length + 1) * 32 ≤ 140737488355328 := by omega
  unfold made
  simp only
  by_cases c0 : kind = 0 ∧ num = 0
  · obtain ⟨rfl, rfl⟩ := c0
    rw [if_pos ⟨rfl, rfl⟩]
    refine FnZ_of (rs := [.cell 4 48]) false Tryz.func76 rfl rfl rfl rfl (Nat.le_of_ble_eq_true rfl) ?_
    simp -dsimp
    refine callL_ (vs := [(⟨people, story⟩ : Place).v]) (hpl _ _) (by simp -dsimp) ?_
    rintro t m1 n1 ⟨hn1, hout, st, rfl, hst⟩
    have k0 := hout 0 (by omega)
    have k1 := hout 1 (by omega)
    have k2 := hout 2 (by omega)
    simp -dsimp at k0 k1 k2
    have f0 := far (show 0 < n1 by omega)
    have f1 := far (show 1 < n1 by omega)
    have f2 := far (show 2 < n1 by omega)
    have hc := hst.cell
    have z1 : ¬ n1 = 0 := by omega
    have z2 : ¬ n1 = 1 := by omega
    have z3 : ¬ n1 = 2 := by omega
    simp -dsimp [k0, k1, k2, f0, f1, f2, hc, z1, z2, z3]
    refine call_ hrc (by simp -dsimp) ?_
    cases hr : readC people words with
    | none => simp -dsimp [optC, k0, k1, k2, f0, f1, f2, hc, z1, z2, z3, nes]
    | some c =>
      rcases hst with ⟨rfl, hs0⟩ | ⟨id, rfl, hi0, hi1, him⟩
      · have hs0' : story = [] := by simpa using hs0
        subst hs0'
        simp -dsimp [optC, k0, k1, k2, f0, f1, f2, hc, z1, z2, z3, nes]
      · have g1 := far hi1
        have y1 : ¬ id = 0 := by omega
        have y2 : ¬ id = 1 := by omega
        have y3 : ¬ id = 2 := by omega
        simp -dsimp [optC, k0, k1, k2, f0, f1, f2, g1, hc, z1, z2, z3, y1, y2, y3, Ne.symm y1, Ne.symm y2, Ne.symm y3, nes, him, b1]
  rw [if_neg c0]
  by_cases c1 : kind = 1 ∧ words = [] ∧ 0 ≤ num ∧ num < story.length
  · rw [if_pos c1]
    obtain ⟨rfl, rfl, h2, h3⟩ := c1
    obtain ⟨k, rfl⟩ := Int.eq_ofNat_of_zero_le h2
    have hw := hwo k (by omega)
    have hb : (decide (0 ≤ (k : Int)) && decide ((k : Int) ≤ (story.length : Int) - 1)) = true := by simp; omega
    rw [hb] at hin
    simp only [Int.toNat_natCast]
    refine FnZ_of (rs := [.cell 4 48]) false Tryz.func76 rfl rfl rfl rfl (Nat.le_of_ble_eq_true rfl) ?_
    simp -dsimp
    refine callL_ (vs := [(⟨people, story⟩ : Place).v]) (hpl _ _) (by simp -dsimp) ?_
    rintro t m1 n1 ⟨hn1, hout, st, rfl, hst⟩
    have k0 := hout 0 (by omega)
    have k1 := hout 1 (by omega)
    have k2 := hout 2 (by omega)
    simp -dsimp at k0 k1 k2
    have f0 := far (show 0 < n1 by omega)
    have f1 := far (show 1 < n1 by omega)
    have f2 := far (show 2 < n1 by omega)
    have hc := hst.cell
    have z1 : ¬ n1 = 0 := by omega
    have z2 : ¬ n1 = 1 := by omega
    have z3 : ¬ n1 = 2 := by omega
    simp -dsimp [k0, k1, k2, f0, f1, f2, hc, z1, z2, z3, w1]
    refine call_ hin (by simp -dsimp) ?_
    simp -dsimp [k0, k1, k2, f0, f1, f2, hc, z1, z2, z3, w1]
    refine twp_draw (List.range 9) [0, 1, n1] (List.replicate 9 [0, 1, 2]) (List.replicate 9 [0, 1, 2]) (by kernel_rfl) (by kernel_rfl) (by kernel_rfl) (by kernel_rfl) ?_
    rcases hst with ⟨rfl, hs0⟩ | ⟨id, rfl, hi0, hi1, him⟩
    · have hs0' : story = [] := by simpa using hs0
      rw [hs0'] at h3; simp at h3; omega
    · have g1 := far hi1
      simp -dsimp [List.range_succ, k0, k1, k2, f0, f1, f2, hc, z1, z2, z3, w1]
      refine call_ hw (by simp -dsimp [g1, him]) ?_
      simp -dsimp [List.range_succ, k0, k1, k2, f0, f1, f2, hc, z1, z2, z3, w1]
  rw [if_neg c1]
  have g1 : ¬ (kind = 1 ∧ words = [] ∧ (decide (0 ≤ num) && decide (num ≤ (story.length : Int) - 1)) = true) := fun h => c1 ⟨h.1, h.2.1, by have := h.2.2; simp at this; omega, by have := h.2.2; simp at this; omega⟩
  generalize (decide (0 ≤ num) && decide (num ≤ (story.length : Int) - 1)) = bin at *
  by_cases c2 : kind = 2 ∧ words = []
  · rw [if_pos c2]
    obtain ⟨rfl, rfl⟩ := c2
    refine FnZ_of (rs := [.cell 4 48]) false Tryz.func76 rfl rfl rfl rfl (Nat.le_of_ble_eq_true rfl) ?_
    simp -dsimp
    refine callL_ (vs := [(⟨people, story⟩ : Place).v]) (hpl _ _) (by simp -dsimp) ?_
    rintro t m1 n1 ⟨hn1, hout, st, rfl, hst⟩
    have k0 := hout 0 (by omega)
    have k1 := hout 1 (by omega)
    have k2 := hout 2 (by omega)
    simp -dsimp at k0 k1 k2
    have f0 := far (show 0 < n1 by omega)
    have f1 := far (show 1 < n1 by omega)
    have f2 := far (show 2 < n1 by omega)
    have hc := hst.cell
    have z1 : ¬ n1 = 0 := by omega
    have z2 : ¬ n1 = 1 := by omega
    have z3 : ¬ n1 = 2 := by omega
    rcases hst with ⟨rfl, hs0⟩ | ⟨id, rfl, hi0, hi1, him⟩
    · have hs0' : story = [] := by simpa using hs0
      subst hs0'
      by_cases d0 : num = 0
      · simp -dsimp [k0, k1, k2, f0, f1, f2, hc, z1, z2, z3, w1, d0, nes]
      · simp -dsimp [k0, k1, k2, f0, f1, f2, hc, z1, z2, z3, w1, d0, nes]
    · have g1 := far hi1
      have y1 : ¬ id = 0 := by omega
      have y2 : ¬ id = 1 := by omega
      have y3 : ¬ id = 2 := by omega
      by_cases d0 : num = 0
      · simp -dsimp [k0, k1, k2, f0, f1, f2, hc, z1, z2, z3, w1, d0, nes, g1, y1, y2, y3, him]
      · simp -dsimp [k0, k1, k2, f0, f1, f2, hc, z1, z2, z3, w1, d0, nes, g1, y1, y2, y3, him]
  rw [if_neg c2]
  by_cases c3 : kind = 3 ∧ num = 0 ∧ words = []
  · rw [if_pos c3]
    obtain ⟨rfl, rfl, rfl⟩ := c3
    refine FnZ_of (rs := [.cell 4 48]) false Tryz.func76 rfl rfl rfl rfl (Nat.le_of_ble_eq_true rfl) ?_
    simp -dsimp
    refine callL_ (vs := [(⟨people, story⟩ : Place).v]) (hpl _ _) (by simp -dsimp) ?_
    rintro t m1 n1 ⟨hn1, hout, st, rfl, hst⟩
    have k0 := hout 0 (by omega)
    have k1 := hout 1 (by omega)
    have k2 := hout 2 (by omega)
    simp -dsimp at k0 k1 k2
    have f0 := far (show 0 < n1 by omega)
    have f1 := far (show 1 < n1 by omega)
    have f2 := far (show 2 < n1 by omega)
    have hc := hst.cell
    have z1 : ¬ n1 = 0 := by omega
    have z2 : ¬ n1 = 1 := by omega
    have z3 : ¬ n1 = 2 := by omega
    simp -dsimp [k0, k1, k2, f0, f1, f2, hc, z1, z2, z3, w1, nes]
    refine call_ hleast (by simp -dsimp) ?_
    simp -dsimp [k0, k1, k2, f0, f1, f2, hc, z1, z2, z3, w1, nes]
  rw [if_neg c3]
  by_cases e0 : kind = 0
  · subst e0
    have d0 : ¬ num = 0 := fun h => c0 ⟨rfl, h⟩
    refine FnZ_of (rs := [.cell 4 48]) false Tryz.func76 rfl rfl rfl rfl (Nat.le_of_ble_eq_true rfl) ?_
    simp -dsimp
    refine callL_ (vs := [(⟨people, story⟩ : Place).v]) (hpl _ _) (by simp -dsimp) ?_
    rintro t m1 n1 ⟨hn1, hout, st, rfl, hst⟩
    have k0 := hout 0 (by omega)
    have k1 := hout 1 (by omega)
    have k2 := hout 2 (by omega)
    simp -dsimp at k0 k1 k2
    have f0 := far (show 0 < n1 by omega)
    have f1 := far (show 1 < n1 by omega)
    have f2 := far (show 2 < n1 by omega)
    have hc := hst.cell
    have z1 : ¬ n1 = 0 := by omega
    have z2 : ¬ n1 = 1 := by omega
    have z3 : ¬ n1 = 2 := by omega
    simp -dsimp [k0, k1, k2, f0, f1, f2, hc, z1, z2, z3, w1, nes, d0]
  by_cases e1 : kind = 1
  · subst e1
    by_cases dw : words = []
    · subst dw
      have hbf : bin = false := by
        cases bin
        · rfl
        · exact absurd ⟨rfl, rfl, rfl⟩ g1
      subst hbf
      refine FnZ_of (rs := [.cell 4 48]) false Tryz.func76 rfl rfl rfl rfl (Nat.le_of_ble_eq_true rfl) ?_
      simp -dsimp
      refine callL_ (vs := [(⟨people, story⟩ : Place).v]) (hpl _ _) (by simp -dsimp) ?_
      rintro t m1 n1 ⟨hn1, hout, st, rfl, hst⟩
      have k0 := hout 0 (by omega)
      have k1 := hout 1 (by omega)
      have k2 := hout 2 (by omega)
      simp -dsimp at k0 k1 k2
      have f0 := far (show 0 < n1 by omega)
      have f1 := far (show 1 < n1 by omega)
      have f2 := far (show 2 < n1 by omega)
      have hc := hst.cell
      have z1 : ¬ n1 = 0 := by omega
      have z2 : ¬ n1 = 1 := by omega
      have z3 : ¬ n1 = 2 := by omega

      simp -dsimp [k0, k1, k2, f0, f1, f2, hc, z1, z2, z3, w1, nes]
      refine call_ hin (by simp -dsimp) ?_
      simp -dsimp [k0, k1, k2, f0, f1, f2, hc, z1, z2, z3, w1, nes]
    · refine FnZ_of (rs := [.cell 4 48]) false Tryz.func76 rfl rfl rfl rfl (Nat.le_of_ble_eq_true rfl) ?_
      simp -dsimp
      refine callL_ (vs := [(⟨people, story⟩ : Place).v]) (hpl _ _) (by simp -dsimp) ?_
      rintro t m1 n1 ⟨hn1, hout, st, rfl, hst⟩
      have k0 := hout 0 (by omega)
      have k1 := hout 1 (by omega)
      have k2 := hout 2 (by omega)
      simp -dsimp at k0 k1 k2
      have f0 := far (show 0 < n1 by omega)
      have f1 := far (show 1 < n1 by omega)
      have f2 := far (show 2 < n1 by omega)
      have hc := hst.cell
      have z1 : ¬ n1 = 0 := by omega
      have z2 : ¬ n1 = 1 := by omega
      have z3 : ¬ n1 = 2 := by omega

      simp -dsimp [k0, k1, k2, f0, f1, f2, hc, z1, z2, z3, w1, nes, dw]
  by_cases e2 : kind = 2
  · subst e2
    have dw : ¬ words = [] := fun h => c2 ⟨rfl, h⟩
    refine FnZ_of (rs := [.cell 4 48]) false Tryz.func76 rfl rfl rfl rfl (Nat.le_of_ble_eq_true rfl) ?_
    simp -dsimp
    refine callL_ (vs := [(⟨people, story⟩ : Place).v]) (hpl _ _) (by simp -dsimp) ?_
    rintro t m1 n1 ⟨hn1, hout, st, rfl, hst⟩
    have k0 := hout 0 (by omega)
    have k1 := hout 1 (by omega)
    have k2 := hout 2 (by omega)
    simp -dsimp at k0 k1 k2
    have f0 := far (show 0 < n1 by omega)
    have f1 := far (show 1 < n1 by omega)
    have f2 := far (show 2 < n1 by omega)
    have hc := hst.cell
    have z1 : ¬ n1 = 0 := by omega
    have z2 : ¬ n1 = 1 := by omega
    have z3 : ¬ n1 = 2 := by omega
    by_cases d0 : num = 0
    · simp -dsimp [k0, k1, k2, f0, f1, f2, hc, z1, z2, z3, w1, nes, d0, dw]
    · simp -dsimp [k0, k1, k2, f0, f1, f2, hc, z1, z2, z3, w1, nes, d0, dw]
  by_cases e3 : kind = 3
  · subst e3
    refine FnZ_of (rs := [.cell 4 48]) false Tryz.func76 rfl rfl rfl rfl (Nat.le_of_ble_eq_true rfl) ?_
    simp -dsimp
    refine callL_ (vs := [(⟨people, story⟩ : Place).v]) (hpl _ _) (by simp -dsimp) ?_
    rintro t m1 n1 ⟨hn1, hout, st, rfl, hst⟩
    have k0 := hout 0 (by omega)
    have k1 := hout 1 (by omega)
    have k2 := hout 2 (by omega)
    simp -dsimp at k0 k1 k2
    have f0 := far (show 0 < n1 by omega)
    have f1 := far (show 1 < n1 by omega)
    have f2 := far (show 2 < n1 by omega)
    have hc := hst.cell
    have z1 : ¬ n1 = 0 := by omega
    have z2 : ¬ n1 = 1 := by omega
    have z3 : ¬ n1 = 2 := by omega
    by_cases d0 : num = 0
    · have dw : ¬ words = [] := fun h => c3 ⟨rfl, d0, h⟩
      simp -dsimp [k0, k1, k2, f0, f1, f2, hc, z1, z2, z3, w1, nes, d0, dw]
    · simp -dsimp [k0, k1, k2, f0, f1, f2, hc, z1, z2, z3, w1, nes, d0]
  refine FnZ_of (rs := [.cell 4 48]) false Tryz.func76 rfl rfl rfl rfl (Nat.le_of_ble_eq_true rfl) ?_
  simp -dsimp
  refine callL_ (vs := [(⟨people, story⟩ : Place).v]) (hpl _ _) (by simp -dsimp) ?_
  rintro t m1 n1 ⟨hn1, hout, st, rfl, hst⟩
  have k0 := hout 0 (by omega)
  have k1 := hout 1 (by omega)
  have k2 := hout 2 (by omega)
  simp -dsimp at k0 k1 k2
  have f0 := far (show 0 < n1 by omega)
  have f1 := far (show 1 < n1 by omega)
  have f2 := far (show 2 < n1 by omega)
  have hc := hst.cell
  have z1 : ¬ n1 = 0 := by omega
  have z2 : ¬ n1 = 1 := by omega
  have z3 : ¬ n1 = 2 := by omega

  simp -dsimp [k0, k1, k2, f0, f1, f2, hc, z1, z2, z3, w1, nes, e0, e1, e2, e3]
end TL

/- Deeds at a desk: the reference. -/
set_option linter.unusedSimpArgs false
set_option linter.unusedVariables false
set_option maxRecDepth 100000
set_option maxHeartbeats 4000000
set_option pp.maxSteps 1500
namespace TL
open Go Go.Proofs
attribute [local simp] marksV storyV codeV Claim.v Place.v Deed.v Desk.v
theorem made_fine (p : Place) (a : Deed) (hp : placeOk p = true) : (made p a).fine ∧ (made p a).story.length ≤ 7 ∧ (made p a).small := by
  obtain ⟨h1, h2, h3, h4⟩ := placeOk_all hp
  have hc : ∀ c ∈ p.story, c.fine ∧ c.small := fun c hc => ⟨(claim_fine (h4 c hc)).1, (claim_fine (h4 c hc)).2.2.1⟩
  have key : ∀ q : Place, q.story.length ≤ 7 → (∀ c ∈ q.story, c.fine ∧ c.small) → q.fine ∧ q.story.length ≤ 7 ∧ q.small := fun q hl hq => ⟨⟨by omega, fun c hx => (hq c hx).1⟩, hl, ⟨by omega, fun c hx => (hq c hx).2⟩⟩
  have zero := key ⟨0, []⟩ (by simp) (by simp)
  unfold made
  split
  · split
    · rename_i c hr
      have := claim_fine (readC_is hr).1
      refine key _ (by simp; omega) fun x hx => ?_
      rcases List.mem_append.1 hx with hx | hx
      · exact hc x hx
      · rw [List.mem_singleton.1 hx]; exact ⟨this.1, this.2.2.1⟩
    · exact zero
  · split
    · refine key _ ?_ fun x hx => hc x ((List.eraseIdx_sublist _ _).subset hx)
      have := (List.eraseIdx_sublist p.story a.num.toNat).length_le
      simp only; omega
    · split
      · exact key _ (by simp only; omega) hc
      · split
        · refine key _ ?_ fun x hx => hc x ((least_sub _ _).subset hx)
          have := (least_sub p.people.toNat p.story).length_le
          simp only; omega
        · exact zero
theorem last_facts {l : List Place} {q : Place} (h : l ≠ []) : ((l.length : Int) - 1).toNat = l.length - 1 ∧ (l.map Place.v)[l.length - 1]? = some (l.getLast?.getD q).v ∧ (l.map Place.v).take (l.length - 1) = l.dropLast.map Place.v ∧ (0 : Int) ≤ (l.length : Int) - 1 ∧ (l.length : Int) - 1 ≤ l.length ∧ l.length - 1 ≤ l.length := by
  have hl : 0 < l.length := List.length_pos_iff.2 h
  refine ⟨by omega, ?_, ?_, by omega, by omega, by omega⟩
  · rw [List.getLast?_eq_getElem?, List.getElem?_map, List.getElem?_eq_getElem (by omega)]; rfl
  · rw [← List.map_take, List.dropLast_eq_take]
theorem deskDoS_fn (d : Desk) (a : Deed) (hd : d.small) (hf : d.fit) (ha : a.words.length ≤ 1000000000) : FnZ Tryz.prog 46 [d.v, a.v] (.tup [(deskDo d a).1.v, .bool (deskDo d a).2]) := by
  have hok := deskOkS_fn d hd hf
  have hk := ft (deskOk d)
  rcases hk with hk | hk
  · rw [deskDo_no hk]
    rw [hk] at hok
    obtain ⟨a1, a2, a3⟩ := a
    refine FnZ_of (rs := [.cell 4 53, .tmp 5]) false Tryz.func46 rfl rfl rfl rfl (Nat.le_of_ble_eq_true rfl) ?_
    simp -dsimp
    refine call_ hok (by simp -dsimp) ?_
    simp -dsimp [noDeskV]
  rw [hk] at hok
  obtain ⟨hpast, hnow, hp8⟩ := deskOk_iff.1 hk
  have hcopy := fun m n => l15Copy_own d hd m n
  by_cases hb : isBack a = true ∧ d.past ≠ []
  · rw [deskDo_back hk hb.1 hb.2]
    have ha4 : a = ⟨4, 0, []⟩ := by have := hb.1; simp only [isBack, decide_eq_true_eq] at this; exact this
    subst ha4
    obtain ⟨l1, l2, l3, l4, l5, l6⟩ := last_facts (q := d.now) hb.2
    have hpos : 0 < d.past.length := List.length_pos_iff.2 hb.2
    have hpos' : (0 : Int) < d.past.length := by omega
    have hne := hb.2
    have p1 : (1 : Int) ≤ d.past.length := by omega
    have p2 : 1 ≤ d.past.length := by omega
    have w1 : IntKind.wrap .i64 ((d.past.length : Int) - 1) = (d.past.length : Int) - 1 := w64 (by omega) (by omega)
    clear hb
    refine FnZ_of (rs := [.cell 4 53, .tmp 5]) false Tryz.func46 rfl rfl rfl rfl (Nat.le_of_ble_eq_true rfl) ?_
    simp -dsimp
    refine call_ hok (by simp -dsimp) ?_
    simp -dsimp
    refine callL_ (vs := [d.v]) (hcopy _ _) (by simp -dsimp) ?_
    rintro t m1 n1 ⟨hn1, hout, st, rfl, hst⟩
    have k0 := hout 0 (by omega)
    have k1 := hout 1 (by omega)
    have k2 := hout 2 (by omega)
    simp -dsimp at k0 k1 k2
    have f0 := far (show 0 < n1 by omega)
    have f1 := far (show 1 < n1 by omega)
    have f2 := far (show 2 < n1 by omega)
    have z1 : ¬ n1 = 0 := by omega
    have z2 : ¬ n1 = 1 := by omega
    have z3 : ¬ n1 = 2 := by omega
    rcases hst with ⟨rfl, hs0⟩ | ⟨id, rfl, hi0, hi1, him⟩
    · exact absurd (by simpa using hs0) hne
    · have g1 := far hi1
      generalize d.past.getLast?.getD d.now = q at *
      simp -dsimp [k0, k1, k2, f0, f1, f2, z1, z2, z3, hne, hpos, hpos', p1, p2, g1, him, w1, l1, l2, l3, l4, l5, l6, nes]
  have hmade := l15Made_fn d.now a hnow ha
  obtain ⟨mf, ml, ms⟩ := made_fine d.now a hnow
  have hpo := placeOkS_fn (made d.now a) mf
  have hpt := placeTextS_fn (made d.now a) mf
  have hpn := placeTextS_fn d.now (place_fine hnow).1
  have hD : deskDo d a = if (placeOk (made d.now a) && !decide (placeTx (made d.now a) = placeTx d.now)) = true then (⟨made d.now a, keep8 (d.past ++ [d.now])⟩, true) else (d, false) := by
    unfold deskDo; rw [if_pos hk, if_neg hb]; rfl
  rw [hD]
  have hb' : (decide (a = ⟨4, 0, []⟩) = true ∧ d.past ≠ []) → False := hb
  have hba : isBack a = true → placeOk (made d.now a) = false ∧ d.past = [] := fun h => ⟨by rw [made_back h, zero_no], Classical.byContradiction fun h2 => hb' ⟨h, h2⟩⟩
  clear hb hb' hD
  generalize made d.now a = X at *
  generalize placeTx X = tX at *
  generalize placeTx d.now = tN at *
  have hkX := ft (placeOk X)
  generalize placeOk X = okX at *
  obtain ⟨kind, num, words⟩ := a
  have htx : tX = tN ∨ ¬ tX = tN := Classical.em _
  obtain ⟨Xp, Xs⟩ := X
  have fullb : (d.past.length + 1) * 32 ≤ 140737488355328 := by omega
  by_cases hq : kind = 4 ∧ num = 0 ∧ words = []
  · obtain ⟨rfl, rfl, rfl⟩ := hq
    obtain ⟨hokX, he⟩ := hba rfl
    subst hokX
    have he0 : (d.past.map Place.v) = [] := by rw [he]; rfl
    refine FnZ_of (rs := [.cell 4 53, .tmp 5]) false Tryz.func46 rfl rfl rfl rfl (Nat.le_of_ble_eq_true rfl) ?_
    simp -dsimp
    refine call_ hok (by simp -dsimp) ?_
    simp -dsimp
    refine callL_ (vs := [d.v]) (hcopy _ _) (by simp -dsimp) ?_
    rintro t m1 n1 ⟨hn1, hout, st, rfl, hst⟩
    have k0 := hout 0 (by omega)
    have k1 := hout 1 (by omega)
    have k2 := hout 2 (by omega)
    simp -dsimp at k0 k1 k2
    have f0 := far (show 0 < n1 by omega)
    have f1 := far (show 1 < n1 by omega)
    have f2 := far (show 2 < n1 by omega)
    have z1 : ¬ n1 = 0 := by omega
    have z2 : ¬ n1 = 1 := by omega
    have z3 : ¬ n1 = 2 := by omega
    have hc := hst.cell
    simp -dsimp [k0, k1, k2, f0, f1, f2, z1, z2, z3, hc, he, nes]
    refine call_ hmade (by simp -dsimp) ?_
    simp -dsimp [k0, k1, k2, f0, f1, f2, z1, z2, z3, hc, he, nes]
    refine twp_draw [0, 1, 2, 3, 4, 6, 7, 5, 8, 9, 10] [0, n1 + 1 + 1] (List.replicate 11 [0, 1]) (List.replicate 11 [0, 1]) (by kernel_rfl) (by kernel_rfl) (by kernel_rfl) (by kernel_rfl) ?_
    simp -dsimp [k0, k1, k2, f0, f1, f2, z1, z2, z3, hc, he, nes]
    refine call_ hpo (by simp -dsimp) ?_
    rcases hst with ⟨rfl, hs0⟩ | ⟨id, rfl, hi0, hi1, him⟩
    · simp -dsimp [k0, k1, k2, f0, f1, f2, z1, z2, z3, hc, he, nes]
    · have g1 := far hi1
      have y3 : ¬ id = 2 := by omega
      simp -dsimp [k0, k1, k2, f0, f1, f2, z1, z2, z3, hc, he, nes, g1, him, y3]
  · have hbb : (decide (kind = 4) && (decide (num = 0) && decide (words = []))) = false := by
      rw [Bool.eq_false_iff]; intro h; simp at h; exact hq h
    refine FnZ_of (rs := [.cell 4 53, .tmp 5]) false Tryz.func46 rfl rfl rfl rfl (Nat.le_of_ble_eq_true rfl) ?_
    simp -dsimp
    refine call_ hok (by simp -dsimp) ?_
    simp -dsimp
    refine callL_ (vs := [d.v]) (hcopy _ _) (by simp -dsimp) ?_
    rintro t m1 n1 ⟨hn1, hout, st, rfl, hst⟩
    have k0 := hout 0 (by omega)
    have k1 := hout 1 (by omega)
    have k2 := hout 2 (by omega)
    simp -dsimp at k0 k1 k2
    have f0 := far (show 0 < n1 by omega)
    have f1 := far (show 1 < n1 by omega)
    have f2 := far (show 2 < n1 by omega)
    have z1 : ¬ n1 = 0 := by omega
    have z2 : ¬ n1 = 1 := by omega
    have z3 : ¬ n1 = 2 := by omega
    have hc := hst.cell
    simp -dsimp [k0, k1, k2, f0, f1, f2, z1, z2, z3, hc, hbb, nes]
    refine call_ hmade (by simp -dsimp) ?_
    simp -dsimp [k0, k1, k2, f0, f1, f2, z1, z2, z3, hc, nes]
    refine twp_draw [0, 1, 2, 3, 4, 6, 7, 5, 8, 9, 10] [0, n1 + 1 + 1] (List.replicate 11 [0, 1]) (List.replicate 11 [0, 1]) (by kernel_rfl) (by kernel_rfl) (by kernel_rfl) (by kernel_rfl) ?_
    simp -dsimp [k0, k1, k2, f0, f1, f2, z1, z2, z3, hc, nes]
    refine call_ hpo (by simp -dsimp) ?_
    rcases hkX with rfl | rfl
    · rcases hst with ⟨rfl, hs0⟩ | ⟨id, rfl, hi0, hi1, him⟩
      · have hs0' : d.past = [] := by simpa using hs0
        simp -dsimp [k0, k1, k2, f0, f1, f2, z1, z2, z3, hc, nes, hs0']
      · have g1 := far hi1
        have y3 : ¬ id = 2 := by omega
        simp -dsimp [k0, k1, k2, f0, f1, f2, z1, z2, z3, hc, nes, g1, him, y3]
    simp -dsimp [k0, k1, k2, f0, f1, f2, z1, z2, z3, hc, nes]
    refine call_ hpt (by simp -dsimp) ?_
    simp -dsimp [k0, k1, k2, f0, f1, f2, z1, z2, z3, hc, nes]
    refine call_ hpn (by simp -dsimp) ?_
    rcases htx with rfl | htx
    · rcases hst with ⟨rfl, hs0⟩ | ⟨id, rfl, hi0, hi1, him⟩
      · have hs0' : d.past = [] := by simpa using hs0
        simp -dsimp [k0, k1, k2, f0, f1, f2, z1, z2, z3, hc, nes, hs0']
      · have g1 := far hi1
        have y3 : ¬ id = 2 := by omega
        simp -dsimp [k0, k1, k2, f0, f1, f2, z1, z2, z3, hc, nes, g1, him, y3]
    rcases hst with ⟨rfl, hs0⟩ | ⟨id, rfl, hi0, hi1, him⟩
    · have hs0' : d.past = [] := by simpa using hs0
      have hk8 : keep8 (d.past ++ [d.now]) = [d.now] := by rw [hs0']; rfl
      simp -dsimp [k0, k1, k2, f0, f1, f2, z1, z2, z3, hc, nes, htx, hs0', keep8]
    · have g1 := far hi1
      have y3 : ¬ id = 2 := by omega
      by_cases h8 : d.past.length = 8
      · have e8 : (d.past.length : Int) = 8 := by omega
        simp -dsimp [k0, k1, k2, f0, f1, f2, z1, z2, z3, hc, nes, htx, g1, him, y3, Ne.symm y3, h8, e8, keep8, fullb]
        rw [List.take_of_length_le (by simp [h8])]
      · have e8 : d.past.length < 8 := by omega
        have e8' : ¬ (8 : Int) < (d.past.length : Int) + 1 := by omega
        have e8'' : ¬ 8 < d.past.length + 1 := by omega
        simp -dsimp [k0, k1, k2, f0, f1, f2, z1, z2, z3, hc, nes, htx, g1, him, y3, Ne.symm y3, h8, e8, e8', e8'', keep8, fullb]
end TL
