/- Terms in a world. -/
import Derived.Test.YtheoggobfpgpnaaFnsB4
set_option linter.unusedSimpArgs false
set_option linter.unusedVariables false
set_option maxRecDepth 100000
set_option maxHeartbeats 4000000
set_option pp.maxSteps 1500
namespace TL
open Go Go.Proofs
attribute [local simp] marksV storyV codeV Claim.v Place.v
theorem cnt_vals : cnt 0 = 0 ∧ cnt 1 = 1 ∧ cnt 2 = 1 ∧ cnt 3 = 2 ∧ cnt 4 = 1 ∧ cnt 5 = 2 ∧ cnt 6 = 2 ∧ cnt 7 = 3 ∧ cnt 8 = 1 ∧ cnt 9 = 2 ∧ cnt 10 = 2 ∧ cnt 11 = 3 ∧ cnt 12 = 2 ∧ cnt 13 = 3 ∧ cnt 14 = 3 ∧ cnt 15 = 4 := by simp [cnt]
theorem onesCount64_fn (w : Nat) (hw : w < 16) : FnZ Try.prog 94 [.int .u64 w] (.int .i64 (cnt w)) := by
  have h : w = 0 ∨ w = 1 ∨ w = 2 ∨ w = 3 ∨ w = 4 ∨ w = 5 ∨ w = 6 ∨ w = 7 ∨ w = 8 ∨ w = 9 ∨ w = 10 ∨ w = 11 ∨ w = 12 ∨ w = 13 ∨ w = 14 ∨ w = 15 := by omega
  rcases h with rfl | rfl | rfl | rfl | rfl | rfl | rfl | rfl | rfl | rfl | rfl | rfl | rfl | rfl | rfl | rfl
  all_goals
    simp only [cnt_vals]
    refine FnZ_of (rs := [.tmp 2]) false Try.func94 rfl rfl rfl rfl (Nat.le_of_ble_eq_true rfl) ?_
    simp -dsimp
    rfl
theorem onesCount_fn (w : Nat) (hw : w < 16) : FnZ Try.prog 87 [.int .u64 w] (.int .i64 (cnt w)) := by
  have e : IntKind.wrap .u64 (w : Int) = w := by simp only [IntKind.wrap, IntKind.bits, IntKind.signed]; simp; omega
  refine FnZ_of (rs := [.tmp 2]) false Try.func87 rfl rfl rfl rfl (Nat.le_of_ble_eq_true rfl) ?_
  simp -dsimp
  refine call_ (onesCount64_fn w hw) (by simp -dsimp) ?_
  simp -dsimp
/-- What a term's last part is, the parts' answers last one first. -/
def runStep (w : Nat) (m : Mark) (r : List Bool) : List Bool :=
  if m.kind = 0 then w.testBit m.num.toNat :: r
  else if m.kind = 1 then decide (m.num ≤ cnt w) :: r
  else if m.kind = 2 then match r with
    | b :: r => (!b) :: r
    | [] => []
  else match r with
    | b :: a :: r => (if m.kind = 3 then a && b else if m.kind = 4 then a || b else a == b) :: r
    | _ => []
def runR (w : Nat) (r : List Bool) (t : List Mark) : List Bool := t.foldl (fun r m => runStep w m r) r
def truth (t : List Mark) (w : Nat) : Bool := (runR w [] t).headD false
def stkT (l : List Bool) : List T := l.map fun b => .v (.bool b)
theorem runStep_length {people : Int} {w : Nat} {m : Mark} {r : List Bool} {q : Nat} (h : markStep people r.length m = some q) : (runStep w m r).length = q := by
  unfold markStep at h; unfold runStep
  by_cases k0 : m.kind = 0
  · rw [if_pos k0] at h ⊢
    split at h
    · cases h; simp
    · cases h
  by_cases k1 : m.kind = 1
  · rw [if_neg k0, if_pos k1] at h ⊢
    split at h
    · cases h; simp
    · cases h
  by_cases k2 : m.kind = 2
  · rw [if_neg k0, if_neg k1, if_pos k2] at h ⊢
    split at h
    · cases h
      cases r with
      | nil => simp at *
      | cons b r => simp
    · cases h
  rw [if_neg k0, if_neg k1, if_neg k2] at h ⊢
  split at h
  · split at h
    · cases h
      match r with
      | [] => simp at *
      | [b] => simp at *
      | b :: a :: r => simp
    · cases h
  · cases h
theorem runR_length {people : Int} {w : Nat} : ∀ {t : List Mark} {r : List Bool} {q : Nat}, marksRun people r.length t = some q → (runR w r t).length = q
  | [], r, q, h => by cases h; rfl
  | m :: t, r, q, h => by
    simp only [marksRun] at h
    cases e : markStep people r.length m with
    | none => rw [e] at h; cases h
    | some q' =>
      rw [e] at h
      have hl := runStep_length (w := w) e
      have : marksRun people (runStep w m r).length t = some q := by rw [hl]; exact h
      exact runR_length (t := t) this
/-- The row of answers on the way. -/
def Ihs (people : Int) (w : Nat) (t : List Mark) (e : Nat) (s : S) : Prop := ∃ (i id : Nat) (r : List Bool) (cs ex : List T), s.tm 1 = .v (.int .i64 w) ∧ s.tm 12 = .v (.sl (t.map Mark.v)) ∧ s.tm 13 = .v (.int .i64 t.length) ∧ s.tm 14 = .v (.int .i64 i) ∧ s.tm 5 = .sv id 0 r.length ∧ s.mu = true ∧
  id < s.n ∧ s.m id = some (.box 4 1 cs) ∧ cs = stkT r.reverse ++ ex ∧ i ≤ t.length ∧ r.length ≤ i ∧ marksRun people r.length (t.drop i) = some 1 ∧ runR w r (t.drop i) = runR w [] t ∧ (e = 1 → i = t.length)
theorem stkT_append (a b : List Bool) : stkT (a ++ b) = stkT a ++ stkT b := by simp [stkT]
theorem holds_fn (people : Int) (hp4 : people ≤ 4) (t : List Mark) (ht : marksRun people 0 t = some 1) (hl : t.length ≤ 100) (w : Nat) (hw : w < 16) : FnZ Try.prog 63 [marksV t, .int .i64 w] (.bool (truth t w)) := by
  refine FnZ_of (rs := [.tmp 4]) true Try.func63 rfl rfl rfl rfl (Nat.le_of_ble_eq_true rfl) ?_
  simp -dsimp
  refine twp_loopC (Ihs people w t 0) (fun s => t.length - natOf (s.tm 14)) (Ihs people w t 1) ?_ ?_ ?_
  · exact ⟨0, 0, [], [], [], by simp -dsimp, by simp -dsimp, by simp -dsimp, by simp -dsimp, by simp -dsimp, by simp -dsimp, by simp -dsimp, by simp -dsimp, by simp [stkT], by omega, by simp, by simpa using ht, by simp, by simp⟩
  · rintro s ⟨i, id, r, cs, ex, t1, t12, t13, t14, t5, hmu, hid, hm, hcs, hi, hri, hrun, hrr, hend⟩
    by_cases hlt : i < t.length
    case neg =>
      simp -dsimp [t13, t14, hlt]
      exact ⟨i, id, r, cs, ex, by simp -dsimp [t1], by simp -dsimp [t12], by simp -dsimp [t13], by simp -dsimp [t14], by simp -dsimp [t5], by simp -dsimp [hmu], by simp -dsimp; omega, by simp -dsimp [hm], hcs, hi, hri, hrun, hrr, fun _ => by omega⟩
    have hget : (t.map Mark.v)[i]? = some (t[i].v) := by simp [hlt]
    have hdrop := drop_cons hlt
    rw [hdrop] at hrun hrr
    have wi : IntKind.wrap .i64 ((i : Int) + 1) = ((i + 1 : Nat) : Int) := by rw [w64 (by omega) (by omega)]; omega
    have hmu1 : t.length - (i + 1) < t.length - i := by omega
    simp only [marksRun] at hrun
    have hsl : ∀ q, markStep people r.length t[i] = some q → (runStep w t[i] r).length = q := fun q h => runStep_length h
    have hrr2 : runR w (runStep w t[i] r) (t.drop (i + 1)) = runR w [] t := hrr
    have f1 := far hid
    have fin : ∀ (s' : S) (q id' : Nat) (ex' : List T), markStep people r.length t[i] = some q → s'.tm 1 = .v (.int .i64 w) → s'.tm 12 = .v (.sl (t.map Mark.v)) → s'.tm 13 = .v (.int .i64 t.length) → s'.tm 14 = .v (.int .i64 (i + 1 : Nat)) → s'.tm 5 = .sv id' 0 q → s'.mu = true →
        id' < s'.n → s'.m id' = some (.box 4 1 (stkT (runStep w t[i] r).reverse ++ ex')) → Ihs people w t 0 s' := by
      intro s' q id' ex' hq a1 a12 a13 a14 a5 amu aid am
      have := hsl q hq
      refine ⟨i + 1, id', runStep w t[i] r, _, ex', a1, a12, a13, a14, by rw [this]; exact a5, amu, aid, am, rfl, by omega, ?_, ?_, hrr2, by simp⟩
      · have := markStep_le hq; omega
      · rw [this]; rw [hq] at hrun; exact hrun
    have wl : IntKind.wrap .i64 ((r.length : Int) - 1) = (r.length : Int) - 1 := w64 (by omega) (by omega)
    have b1 : r.length + 1 ≤ 140737488355328 := by omega
    by_cases k0 : t[i].kind = 0
    · have hk : markStep people r.length t[i] = some (r.length + 1) := by
        unfold markStep at hrun ⊢
        rw [if_pos k0] at hrun ⊢
        split at hrun
        · rename_i h; rw [if_pos h]
        · cases hrun
      have hnum : 0 ≤ t[i].num ∧ t[i].num < people := by
        unfold markStep at hrun
        rw [if_pos k0] at hrun
        split at hrun
        · assumption
        · cases hrun
      obtain ⟨a, ha⟩ := Int.eq_ofNat_of_zero_le hnum.1
      have hbit := bit1 w a (by omega) (by omega)
      have hstep : runStep w t[i] r = w.testBit a :: r := by simp [runStep, k0, ha]
      have htake : cs.take r.length = stkT r.reverse := by rw [hcs, List.take_left' (by simp [stkT])]
      have hll : r.length ≤ cs.length := by rw [hcs]; simp [stkT]
      simp -dsimp [t5, t12, t13, t14, hlt, hget, hmu, hm, f1, wl, k0, ha, t1, hbit, htake, hll, b1, wi, hmu1, show ¬ (a : Int) < 0 by omega]
      refine st_out fun s' ht' hm' hn' hu' => ?_
      have q1 := ht' 1
      have q5 := ht' 5
      have q12 := ht' 12
      have q13 := ht' 13
      have q14 := ht' 14
      simp -dsimp [t1, t12, t13] at q1 q5 q12 q13 q14 hm' hn' hu'
      clear ht'
      refine fin s' (r.length + 1) _ [] hk q1 q12 q13 q14 q5 (by rw [hu', hmu]) (by omega) ?_
      rw [hstep]; simp [hm', stkT]
    by_cases k1 : t[i].kind = 1
    · have hk : markStep people r.length t[i] = some (r.length + 1) := by
        unfold markStep at hrun ⊢
        rw [if_neg k0, if_pos k1] at hrun ⊢
        split at hrun
        · rename_i h; rw [if_pos h]
        · cases hrun
      have hstep : runStep w t[i] r = decide (t[i].num ≤ cnt w) :: r := by simp [runStep, k1]
      have htake : cs.take r.length = stkT r.reverse := by rw [hcs, List.take_left' (by simp [stkT])]
      have hll : r.length ≤ cs.length := by rw [hcs]; simp [stkT]
      have wu : IntKind.wrap .u64 (w : Int) = w := by simp only [IntKind.wrap, IntKind.bits, IntKind.signed]; simp; omega
      have hc := onesCount_fn w hw
      simp -dsimp [t5, t12, t13, t14, hlt, hget, hmu, hm, f1, wl, k0, k1, t1]
      refine twp_draw [0, 1, 2, 4, 5, 3, 6, 7, 8, 9] [s.n] (List.replicate 10 [0]) (List.replicate 10 [0]) (by kernel_rfl) (by kernel_rfl) (by kernel_rfl) (by kernel_rfl) ?_
      simp -dsimp [List.range_succ, t5, t12, t13, t14, hlt, hget, hmu, hm, f1, wl, k0, k1, t1, wu]
      refine call_ hc (by simp -dsimp) ?_
      simp -dsimp [t5, t12, t13, t14, hmu, hm, f1, htake, hll, b1, wi, hmu1, nes]
      refine st_out fun s' ht' hm' hn' hu' => ?_
      have q1 := ht' 1
      have q5 := ht' 5
      have q12 := ht' 12
      have q13 := ht' 13
      have q14 := ht' 14
      simp -dsimp [t1, t5, t12, t13] at q1 q5 q12 q13 q14 hm' hn' hu'
      clear ht'
      refine fin s' (r.length + 1) _ [] hk q1 q12 q13 q14 q5 (by rw [hu', hmu]) (by omega) ?_
      rw [hstep]; simp [hm', stkT]
    by_cases k2 : t[i].kind = 2
    · have hk : markStep people r.length t[i] = some r.length ∧ 1 ≤ r.length := by
        unfold markStep at hrun ⊢
        rw [if_neg k0, if_neg k1, if_pos k2] at hrun ⊢
        split at hrun
        · rename_i h; rw [if_pos h]; exact ⟨rfl, h.2⟩
        · cases hrun
      obtain ⟨hk, h1⟩ := hk
      obtain ⟨b, r0, hr⟩ : ∃ b r0, r = b :: r0 := by
        cases r with
        | nil => simp at h1
        | cons b r0 => exact ⟨b, r0, rfl⟩
      obtain ⟨K1, hK1⟩ : ∃ K1, K1 = r0.length := ⟨_, rfl⟩
      have hKr : r.length = K1 + 1 := by rw [hr, hK1]; rfl
      have hstep : runStep w t[i] r = (!b) :: r0 := by rw [hr]; simp [runStep, k2]
      have g1 : cs[K1]? = some (.v (.bool b)) := by rw [hcs, hr, hK1]; simp [stkT]
      have hset : cs.set K1 (.v (.bool !b)) = stkT (runStep w t[i] r).reverse ++ ex := by
        rw [hstep, hcs, hr, hK1]; simp [stkT]
      have hlc : K1 + 1 ≤ cs.length := by rw [hcs, hr, hK1]; simp [stkT]
      have wl : IntKind.wrap .i64 ((r.length : Int) - 1) = (K1 : Int) := by rw [w64 (by omega) (by omega)]; omega
      have i1 : (K1 : Int) < r.length := by omega
      generalize r.length = K at *
      simp -dsimp [t5, t12, t13, t14, hlt, hget, hmu, hm, f1, wl, k0, k1, k2, t1, g1, i1, hset, hlc, wi, hmu1]
      refine st_out fun s' ht' hm' hn' hu' => ?_
      have q1 := ht' 1
      have q5 := ht' 5
      have q12 := ht' 12
      have q13 := ht' 13
      have q14 := ht' 14
      simp -dsimp [t1, t5, t12, t13] at q1 q5 q12 q13 q14 hm' hn' hu'
      clear ht'
      refine fin s' K _ ex hk q1 q12 q13 q14 q5 (by rw [hu', hmu]) (by omega) ?_
      simp [hm']
    have hk : (t[i].kind = 3 ∨ t[i].kind = 4 ∨ t[i].kind = 5) ∧ markStep people r.length t[i] = some (r.length - 1) ∧ 2 ≤ r.length := by
      unfold markStep at hrun ⊢
      rw [if_neg k0, if_neg k1, if_neg k2] at hrun ⊢
      split at hrun
      · rename_i hkk
        rw [if_pos hkk]
        split at hrun
        · rename_i h; rw [if_pos h]; exact ⟨hkk, rfl, h.2⟩
        · cases hrun
      · cases hrun
    obtain ⟨hkk, hk, h1⟩ := hk
    obtain ⟨b, a, r0, hr⟩ : ∃ b a r0, r = b :: a :: r0 := by
      match r, h1 with
      | b :: a :: r0, _ => exact ⟨b, a, r0, rfl⟩
    obtain ⟨K2, hK2⟩ : ∃ K2, K2 = r0.length := ⟨_, rfl⟩
    obtain ⟨K1, hK1⟩ : ∃ K1, K1 = K2 + 1 := ⟨_, rfl⟩
    have hKr : r.length = K1 + 1 := by rw [hr, hK1, hK2]; rfl
    have hstep : runStep w t[i] r = (if t[i].kind = 3 then a && b else if t[i].kind = 4 then a || b else a == b) :: r0 := by rw [hr]; simp [runStep, k0, k1, k2]
    have g1 : cs[K1]? = some (.v (.bool b)) := by rw [hcs, hr, hK1, hK2]; simp [stkT]
    have g2 : cs[K2]? = some (.v (.bool a)) := by rw [hcs, hr, hK2]; simp [stkT]
    have hset : ∀ x, (if t[i].kind = 3 then a && b else if t[i].kind = 4 then a || b else a == b) = x → cs.set K2 (.v (.bool x)) = stkT (runStep w t[i] r).reverse ++ (.v (.bool b) :: ex) := by
      intro x hx
      rw [hstep, hcs, hr, hK2, hx]; simp [stkT]
    have hlc : K2 + 1 ≤ cs.length := by rw [hcs, hr, hK2]; simp [stkT]
    have wl : IntKind.wrap .i64 ((r.length : Int) - 1) = (K1 : Int) := by rw [w64 (by omega) (by omega)]; omega
    have wl2 : IntKind.wrap .i64 ((K1 : Int) - 1) = (K2 : Int) := by rw [w64 (by omega) (by omega)]; omega
    have i1 : (K1 : Int) < r.length := by omega
    have i2 : (K2 : Int) < r.length := by omega
    have i3 : (K1 : Int) ≤ r.length := by omega
    have i4 : (K2 : Int) < K1 := by omega
    generalize r.length = K at *
    have hk : markStep people K t[i] = some K1 := by rw [hk]; congr 1; omega
    by_cases k3 : t[i].kind = 3
    · have ha := ft a
      rcases ha with ha | ha
      · have hset := hset (false) (by rw [if_pos k3, ha]; rfl)
        simp -dsimp [t5, t12, t13, t14, hlt, hget, hmu, hm, f1, wl, wl2, k0, k1, k2, k3, ha, t1]
        refine twp_draw (List.range 11) [id] (List.replicate 11 [0]) (List.replicate 11 [0]) (by kernel_rfl) (by kernel_rfl) (by kernel_rfl) (by kernel_rfl) ?_
        simp -dsimp [List.range_succ, t5, t12, t13, t14, hlt, hget, hmu, hm, f1, wl, wl2, k0, k1, k2, k3, ha, t1, g1, g2, i1, i2, i3, i4, hset, hlc, wi, hmu1]
        refine st_out fun s' ht' hm' hn' hu' => ?_
        have q1 := ht' 1
        have q5 := ht' 5
        have q12 := ht' 12
        have q13 := ht' 13
        have q14 := ht' 14
        simp -dsimp [t1, t5, t12, t13] at q1 q5 q12 q13 q14 hm' hn' hu'
        clear ht'
        refine fin s' K1 _ (.v (.bool b) :: ex) hk q1 q12 q13 q14 q5 (by rw [hu', hmu]) (by omega) ?_
        simp [hm']
      · have hset := hset (b) (by rw [if_pos k3, ha]; simp)
        simp -dsimp [t5, t12, t13, t14, hlt, hget, hmu, hm, f1, wl, wl2, k0, k1, k2, k3, ha, t1]
        refine twp_draw (List.range 11) [id] (List.replicate 11 [0]) (List.replicate 11 [0]) (by kernel_rfl) (by kernel_rfl) (by kernel_rfl) (by kernel_rfl) ?_
        simp -dsimp [List.range_succ, t5, t12, t13, t14, hlt, hget, hmu, hm, f1, wl, wl2, k0, k1, k2, k3, ha, t1, g1, g2, i1, i2, i3, i4, hset, hlc, wi, hmu1]
        refine st_out fun s' ht' hm' hn' hu' => ?_
        have q1 := ht' 1
        have q5 := ht' 5
        have q12 := ht' 12
        have q13 := ht' 13
        have q14 := ht' 14
        simp -dsimp [t1, t5, t12, t13] at q1 q5 q12 q13 q14 hm' hn' hu'
        clear ht'
        refine fin s' K1 _ (.v (.bool b) :: ex) hk q1 q12 q13 q14 q5 (by rw [hu', hmu]) (by omega) ?_
        simp [hm']
    by_cases k4 : t[i].kind = 4
    · have ha := ft a
      rcases ha with ha | ha
      · have hset := hset (b) (by rw [if_neg k3, if_pos k4, ha]; simp)
        simp -dsimp [t5, t12, t13, t14, hlt, hget, hmu, hm, f1, wl, wl2, k0, k1, k2, k3, k4, ha, t1]
        refine twp_draw (List.range 11) [id] (List.replicate 11 [0]) (List.replicate 11 [0]) (by kernel_rfl) (by kernel_rfl) (by kernel_rfl) (by kernel_rfl) ?_
        simp -dsimp [List.range_succ, t5, t12, t13, t14, hlt, hget, hmu, hm, f1, wl, wl2, k0, k1, k2, k3, k4, ha, t1, g1, g2, i1, i2, i3, i4, hset, hlc, wi, hmu1]
        refine st_out fun s' ht' hm' hn' hu' => ?_
        have q1 := ht' 1
        have q5 := ht' 5
        have q12 := ht' 12
        have q13 := ht' 13
        have q14 := ht' 14
        simp -dsimp [t1, t5, t12, t13] at q1 q5 q12 q13 q14 hm' hn' hu'
        clear ht'
        refine fin s' K1 _ (.v (.bool b) :: ex) hk q1 q12 q13 q14 q5 (by rw [hu', hmu]) (by omega) ?_
        simp [hm']
      · have hset := hset (true) (by rw [if_neg k3, if_pos k4, ha]; simp)
        simp -dsimp [t5, t12, t13, t14, hlt, hget, hmu, hm, f1, wl, wl2, k0, k1, k2, k3, k4, ha, t1]
        refine twp_draw (List.range 11) [id] (List.replicate 11 [0]) (List.replicate 11 [0]) (by kernel_rfl) (by kernel_rfl) (by kernel_rfl) (by kernel_rfl) ?_
        simp -dsimp [List.range_succ, t5, t12, t13, t14, hlt, hget, hmu, hm, f1, wl, wl2, k0, k1, k2, k3, k4, ha, t1, g1, g2, i1, i2, i3, i4, hset, hlc, wi, hmu1]
        refine st_out fun s' ht' hm' hn' hu' => ?_
        have q1 := ht' 1
        have q5 := ht' 5
        have q12 := ht' 12
        have q13 := ht' 13
        have q14 := ht' 14
        simp -dsimp [t1, t5, t12, t13] at q1 q5 q12 q13 q14 hm' hn' hu'
        clear ht'
        refine fin s' K1 _ (.v (.bool b) :: ex) hk q1 q12 q13 q14 q5 (by rw [hu', hmu]) (by omega) ?_
        simp [hm']
    have hset := hset (a == b) (by rw [if_neg k3, if_neg k4])
    simp -dsimp [t5, t12, t13, t14, hlt, hget, hmu, hm, f1, wl, wl2, k0, k1, k2, k3, k4, t1]
    refine twp_draw (List.range 11) [id] (List.replicate 11 [0]) (List.replicate 11 [0]) (by kernel_rfl) (by kernel_rfl) (by kernel_rfl) (by kernel_rfl) ?_
    simp -dsimp [List.range_succ, t5, t12, t13, t14, hlt, hget, hmu, hm, f1, wl, wl2, k0, k1, k2, k3, k4, t1, g1, g2, i1, i2, i3, i4, hset, hlc, wi, hmu1]
    refine st_out fun s' ht' hm' hn' hu' => ?_
    have q1 := ht' 1
    have q5 := ht' 5
    have q12 := ht' 12
    have q13 := ht' 13
    have q14 := ht' 14
    simp -dsimp [t1, t5, t12, t13] at q1 q5 q12 q13 q14 hm' hn' hu'
    clear ht'
    refine fin s' K1 _ (.v (.bool b) :: ex) hk q1 q12 q13 q14 q5 (by rw [hu', hmu]) (by omega) ?_
    simp [hm']
  · rintro s ⟨i, id, r, cs, ex, t1, t12, t13, t14, t5, hmu, hid, hm, hcs, hi, hri, hrun, hrr, hend⟩
    have := hend rfl
    subst this
    rw [List.drop_length] at hrun hrr
    simp only [marksRun, Option.some.injEq] at hrun
    obtain ⟨b, rfl⟩ : ∃ b, r = [b] := by
      match r, hrun with
      | [b], _ => exact ⟨b, rfl⟩
    have hb : truth t w = b := by unfold truth; rw [← hrr]; rfl
    rw [hb]
    simp -dsimp [t5, hm, hcs, stkT]
end TL
