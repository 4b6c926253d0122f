/- Desks. -/
import Derived.Test.YtheoggobfpgpnaaFns15
set_option linter.unusedSimpArgs false
set_option linter.unusedVariables false
set_option maxRecDepth 100000
set_option maxHeartbeats 4000000
set_option pp.maxSteps 1500
namespace TL
open Go Go.Proofs
attribute [local simp] marksV storyV codeV Claim.v Place.v Desk.v
def Il15 (p : Place) (e : Nat) (s : S) : Prop := ∃ (i : Nat) (st : T) (z : List T), s.tm 1 = .ptr 0 0 ∧ s.tm 2 = .ptr 1 0 ∧ s.tm 3 = .ptr 2 0 ∧ s.tm 4 = .v (.int .i64 i) ∧ s.mu = false ∧ i ≤ p.story.length ∧ 3 ≤ s.n ∧
  s.m 0 = some (.box 25 2 [.v (.int .i64 p.people), .v (storyV p.story)]) ∧ s.m 1 = some (.box 25 2 z) ∧ z.length = 2 ∧ s.m 2 = some (.box 25 2 [.v (.int .i64 p.people), st]) ∧ IsRow s.m 3 s.n 44 st ((p.story.take i).map Claim.v) ∧ (e = 1 → i = p.story.length)
theorem l15Place_fn (p : Place) (hp : p.small) : FnZ Try.prog 65 [p.v] p.v := by
  have hl := hp.1
  refine FnZ_of (rs := [.cell 2 25]) false Try.func65 rfl rfl rfl rfl (Nat.le_of_ble_eq_true rfl) ?_
  simp -dsimp
  refine twp_loopC (Il15 p 0) (fun s => p.story.length - natOf (s.tm 4)) (Il15 p 1) ?_ ?_ ?_
  · exact ⟨0, .nil, [.v (.int .i64 0), .nil], by simp -dsimp, by simp -dsimp, by simp -dsimp, by simp -dsimp, by simp -dsimp, by omega, by simp -dsimp, by simp -dsimp, by simp -dsimp, rfl, by simp -dsimp, .inl ⟨rfl, by simp⟩, by simp⟩
  · rintro s ⟨i, st, z, t1, t2, t3, t4, hmu, hi, hn, m0, m1, hz, m2, hst, hend⟩
    by_cases hlt : i < p.story.length
    case neg =>
      simp -dsimp [t1, t4, m0, hlt]
      exact ⟨i, st, z, by simp -dsimp [t1], by simp -dsimp [t2], by simp -dsimp [t3], by simp -dsimp [t4], by simp -dsimp [hmu], hi, by simp -dsimp; omega, by simp -dsimp [m0], by simp -dsimp [m1], hz, by simp -dsimp [m2], hst, fun _ => by omega⟩
    have hget : (p.story.map Claim.v)[i]? = some (p.story[i].v) := by simp [hlt]
    have wi : IntKind.wrap .i64 ((i : Int) + 1) = ((i + 1 : Nat) : Int) := by rw [w64 (by omega) (by omega)]; omega
    have hmu1 : p.story.length - (i + 1) < p.story.length - i := by omega
    have f0 := far (show 0 < s.n by omega)
    have f1 := far (show 1 < s.n by omega)
    have f2 := far (show 2 < s.n by omega)
    have hsm := hp.2 p.story[i] (List.getElem_mem _)
    unfold Claim.small at hsm
    have b0 : p.story[i].says.length * 16 ≤ 140737488355328 := by omega
    have b1 : (min i p.story.length + 1) * 32 ≤ 140737488355328 := by omega
    have htk : (p.story.take (i + 1)).map Claim.v = (p.story.take i).map Claim.v ++ [p.story[i].v] := by rw [List.take_succ_eq_append_getElem hlt, List.map_append]; rfl
    simp -dsimp [t1, t4, m0, hlt]
    refine twp_draw [0, 1, 2, 3, 4, 5, 6, 7, 9, 10, 11, 12, 13, 14, 8, 15, 16, 17, 18, 19, 20] [0, 2] (List.replicate 21 [0, 1]) (List.replicate 20 [0, 1] ++ [[0]]) (by kernel_rfl) (by kernel_rfl) (by kernel_rfl) (by kernel_rfl) ?_
    rcases hst with ⟨rfl, hs0⟩ | ⟨id, rfl, hi0, hi1, him⟩
    · simp -dsimp [t1, t3, t4, m0, m2, hlt, hget, hmu, nes, f0, f1, f2, b0, wi, hmu1]
      have hi00 : i = 0 := by
        simp at hs0; rcases hs0 with h | h
        · exact h
        · rw [h] at hlt; simp at hlt
      subst hi00
      refine st_out fun s' ht hm' hn' hu' => ?_
      have q1 := ht 1
      have q2 := ht 2
      have q3 := ht 3
      have q4 := ht 4
      simp -dsimp [t1, t2, t3] at q1 q2 q3 q4 hm' hn' hu'
      clear ht
      have hn0 : ¬ s.n = 0 := by omega
      have hn1 : ¬ s.n = 1 := by omega
      refine ⟨1, .loc (s.n + 1 + 1 + 1), z, q1, q2, q3, q4, by rw [hu', hmu], by omega, by omega, by simp [hm', hn0, hn1, f0, m0], by simp [hm', hn0, hn1, f1, m1], hz, by simp [hm', hn0, hn1], .inr ⟨s.n + 1 + 1 + 1, rfl, by omega, by omega, ?_⟩, by simp⟩
      rw [htk]; simp [hm', hn0, hn1, f2]
    · have g1 := far hi1
      have g2 : ¬ id = 2 := by omega
      have g0 : ¬ id = 0 := by omega
      have g3 : ¬ id = 1 := by omega
      simp -dsimp [t1, t3, t4, m0, m2, hlt, hget, hmu, nes, f0, f1, f2, b0, b1, g1, g2, g0, g3, Ne.symm g0, Ne.symm g2, Ne.symm g3, him, wi, hmu1]
      refine st_out fun s' ht hm' hn' hu' => ?_
      have q1 := ht 1
      have q2 := ht 2
      have q3 := ht 3
      have q4 := ht 4
      simp -dsimp [t1, t2, t3] at q1 q2 q3 q4 hm' hn' hu'
      clear ht
      have hn0 : ¬ s.n = 0 := by omega
      have hn1 : ¬ s.n = 1 := by omega
      refine ⟨i + 1, .loc (s.n + 1 + 1 + 1), z, q1, q2, q3, q4, by rw [hu', hmu], by omega, by omega, by simp [hm', hn0, hn1, f0, m0, Ne.symm g0], by simp [hm', hn0, hn1, f1, m1, Ne.symm g3], hz, by simp [hm', hn0, hn1], .inr ⟨s.n + 1 + 1 + 1, rfl, by omega, by omega, ?_⟩, by simp⟩
      rw [htk]; simp [hm', hn0, hn1, f2, nes]
  · rintro s ⟨i, st, z, t1, t2, t3, t4, hmu, hi, hn, m0, m1, hz, m2, hst, hend⟩
    have := hend rfl
    subst this
    rw [List.take_length] at hst
    obtain ⟨z0, z1, rfl⟩ : ∃ a b, z = [a, b] := by
      match z, hz with
      | [a, b], _ => exact ⟨a, b, rfl⟩
    rcases hst with ⟨rfl, hs0⟩ | ⟨id, rfl, hi0, hi1, him⟩
    · simp -dsimp [t2, t3, m1, m2, hs0]
    · have g3 : ¬ id = 1 := by omega
      simp -dsimp [t2, t3, m1, m2, him, g3]
def deskNew (p : Place) : Desk := if placeOk p then ⟨p, []⟩ else noDeskV
theorem deskNew_fn (p : Place) (hp : p.small) : FnZ Try.prog 27 [p.v] (.tup [(deskNew p).v, .bool (placeOk p)]) := by
  refine FnZ_of (rs := [.cell 2 58, .tmp 3]) false Try.func27 rfl rfl rfl rfl (Nat.le_of_ble_eq_true rfl) ?_
  simp -dsimp
  refine call_ (placeOk_fn p (by have := hp.1; omega)) (by simp -dsimp) ?_
  have hk := ft (placeOk p)
  rcases hk with hk | hk
  · simp -dsimp [hk, deskNew, noDeskV]
  · simp -dsimp [hk]
    refine call_ (copyPlace_fn p hp) (by simp -dsimp) ?_
    simp -dsimp [deskNew, hk]
theorem deskNewS_fn (p : Place) (hp : p.small) (hf : p.fit) : FnZ Try.prog 28 [p.v] (.tup [(deskNew p).v, .bool (placeOk p)]) := by
  have fine : p.fine := ⟨by have := hp.1; omega, fun c hc => ⟨(hf.2 c hc).2, by have := hp.2 c hc; unfold Claim.small at this; omega⟩⟩
  refine FnZ_of (rs := [.cell 2 58, .tmp 3]) false Try.func28 rfl rfl rfl rfl (Nat.le_of_ble_eq_true rfl) ?_
  simp -dsimp
  refine call_ (placeOkS_fn p fine) (by simp -dsimp) ?_
  have hk := ft (placeOk p)
  rcases hk with hk | hk
  · simp -dsimp [hk, deskNew, noDeskV]
  · simp -dsimp [hk]
    refine call_ (l15Place_fn p hp) (by simp -dsimp) ?_
    simp -dsimp [deskNew, hk]
def deskOk (d : Desk) : Bool := d.past.all placeOk && placeOk d.now && decide (d.past.length ≤ 8)
def IdeskOk (d : Desk) (e : Nat) (s : S) : Prop := ∃ i : Nat, s.tm 1 = .ptr 0 0 ∧ s.m 0 = some (.box 58 3 [.v (.int .i64 d.now.people), .v (storyV d.now.story), .v (.sl (d.past.map Place.v))]) ∧ 1 ≤ s.n ∧ s.tm 6 = .v (.sl (d.past.map Place.v)) ∧ s.tm 7 = .v (.int .i64 d.past.length) ∧ s.tm 8 = .v (.int .i64 i) ∧
  i ≤ d.past.length ∧ (d.past.take i).all placeOk = true ∧ (e = 1 → i = d.past.length)
theorem deskOk_fn (d : Desk) (hl : d.past.length ≤ 1000000000000) (hn : d.now.story.length < 1000000000000) (hs : ∀ p ∈ d.past, p.story.length < 1000000000000) : FnZ Try.prog 31 [d.v] (.bool (deskOk d)) := by
  refine FnZ_of (rs := [.tmp 2]) false Try.func31 rfl rfl rfl rfl (Nat.le_of_ble_eq_true rfl) ?_
  simp -dsimp
  refine twp_loopC (IdeskOk d 0) (fun s => d.past.length - natOf (s.tm 8)) (IdeskOk d 1) ?_ ?_ ?_
  · exact ⟨0, by simp -dsimp, by simp -dsimp, by simp -dsimp, by simp -dsimp, by simp -dsimp, by simp -dsimp, by omega, by simp, by simp⟩
  · rintro s ⟨i, t1, m0, h1, t6, t7, t8, hi, hall, hend⟩
    by_cases hlt : i < d.past.length
    case neg =>
      simp -dsimp [t7, t8, hlt]
      exact ⟨i, by simp -dsimp [t1], by simp -dsimp [m0], by simp -dsimp; omega, by simp -dsimp [t6], by simp -dsimp [t7], by simp -dsimp [t8], hi, hall, fun _ => by omega⟩
    have hget : (d.past.map Place.v)[i]? = some (d.past[i].v) := by simp [hlt]
    have hall' := all_take_succ (f := placeOk) hlt
    have wi : IntKind.wrap .i64 ((i : Int) + 1) = ((i + 1 : Nat) : Int) := by rw [w64 (by omega) (by omega)]; omega
    have hmu : d.past.length - (i + 1) < d.past.length - i := by omega
    have hbad := all_bad (f := placeOk) hlt
    have f0 := far (show 0 < s.n by omega)
    simp -dsimp [t6, t7, t8, hlt, hget, f0, nes]
    refine call_ (placeOk_fn d.past[i] (hs _ (List.getElem_mem _))) (by simp -dsimp) ?_
    have hc := ft (placeOk d.past[i])
    rcases hc with hc | hc
    · simp -dsimp [hc, deskOk, hbad hc]
    · simp -dsimp [hc, t8, wi, hmu]
      exact ⟨i + 1, by simp -dsimp [t1], by simp -dsimp [m0, f0], by simp -dsimp, by simp -dsimp [t6], by simp -dsimp [t7], by simp -dsimp, by omega, by rw [hall', hall, hc]; rfl, by simp⟩
  · rintro s ⟨i, t1, m0, h1, t6, t7, t8, hi, hall, hend⟩
    have := hend rfl
    subst this
    rw [List.take_length] at hall
    simp -dsimp [t1, m0]
    refine call_ (placeOk_fn d.now hn) (by simp -dsimp) ?_
    have hk := ft (placeOk d.now)
    rcases hk with hk | hk
    · simp -dsimp [deskOk, hk]
    · simp -dsimp [t1, m0, deskOk, hk, hall]
      omega
end TL
