/- Drawn places. -/
import Derived.Test.YtcoapdapigpfgaaFns4
set_option linter.unusedSimpArgs false
set_option linter.unusedVariables false
set_option maxRecDepth 100000
set_option maxHeartbeats 4000000
set_option pp.maxSteps 1500
namespace TL
open Go Go.Proofs
def SomePlace (x : V) : Prop := ∃ q : Place, q.story.length ≤ 10 ∧ (∀ c ∈ q.story, c.says.length ≤ 20) ∧ q.fit ∧ x = q.v
def PI1 (m0 : Mem) (n0 rid : Nat) (bs : List UInt8) (p : Nat) (k : Int) (a : Nat) (s : S) : Prop := ∃ (people : Int) (story : List Claim) (st : T) (pid c p' : Nat),
  s.tm 0 = .ptr rid 0 ∧ s.tm 1 = .v (.int .i64 k) ∧ s.tm 4 = .ptr n0 0 ∧ s.tm 5 = .ptr pid 0 ∧ (a = 1 → s.tm 6 = .v (.int .i64 c)) ∧ s.mu = false ∧ n0 < pid ∧ pid < s.n ∧ (∃ z, s.m n0 = some (.box 41 2 [.v (.int .i64 0), z])) ∧
  s.m pid = some (.box 41 2 [.v (.int .i64 people), st]) ∧ IsRow s.m (n0 + 1) s.n 25 st (story.map Claim.v) ∧ st ≠ .loc pid ∧ story.length + c ≤ 3 ∧ p ≤ p' ∧ p' + 50 * c ≤ p + 160 ∧ (∀ x ∈ story, x.says.length ≤ 20) ∧ 1 ≤ people ∧ people ≤ 4 ∧ (∀ x ∈ story, x.fit) ∧
  s.m rid = some (rdB bs p') ∧ (∀ j, j < n0 → j ≠ rid → s.m j = m0 j)
theorem fitBad : Claim.fit ⟨4, [⟨0, 0⟩]⟩ := ⟨⟨by simp, by simp⟩, by simp [fits]; exact fit_mk (by omega) (by omega) (by omega) (by omega)⟩
theorem claim_cells (c : Claim) : c.v.cells = [.int .i64 c.who, marksV c.says] := rfl
theorem place_z (bs : List UInt8) (p : Nat) (hp : p < 700000000) (k : Int) (hk0 : 0 ≤ k) (hk : k < 100000) (m : Mem) (n rid : Nat) (hr : rid < n) (hm : m rid = some (rdB bs p)) :
    FnS Try.prog 55 m n [.ptr rid 0, .v (.int .i64 k)] (Draws SomePlace 200 m n rid bs p) := by
  refine Draws_of hr ⟨_, Try.func55, rfl, rfl⟩ fun hfr => ?_
  refine FnS_of (rs := [.cell 4 41]) false Try.func55 rfl rfl rfl rfl (Nat.le_of_ble_eq_true rfl) ?_
  have f1 := far hr
  simp -dsimp
  refine callS_ (pick_at bs p (by omega) _ _ _ rid (by simp [hm]; omega)) ?_
  rintro t m1 n1 ⟨hn1, ⟨r, rfl, hr0, hr1⟩, rfl⟩
  have hr1 := hr1 (by decide)
  have w1 : IntKind.wrap .i64 (1 + r) = 1 + r := w64 (by omega) (by omega)
  have f2 := far (show n < n1 by omega)
  have f3 := far (show rid < n1 by omega)
  simp -dsimp [f1, f2, f3]
  refine callS_ (pick_at bs (p + 1) (by omega) _ _ _ rid (by simp [f3])) ?_
  rintro t m2 n2 ⟨hn2, ⟨c, rfl, hc0, hc1⟩, rfl⟩
  simp -dsimp
  refine twp_loopC (PI1 m n rid bs p k 1) (fun s => natOf (s.tm 6)) (PI1 m n rid bs p k 0) ?_ ?_ ?_
  · obtain ⟨c, rfl⟩ := Int.eq_ofNat_of_zero_le hc0
    have := hc1 (by decide)
    refine ⟨1 + r, [], .nil, n1, c, p + 1 + 1, by simp, by simp, by simp, by simp, by simp, by simp, by omega, by simp; omega, ⟨.nil, ?_⟩, by simp [f3, w1], .inl ⟨rfl, rfl⟩, by simp, by simp; omega, by omega, by omega, by simp, by omega, by omega, by simp, by simp, fun j j1 j2 => ?_⟩
    · simp [f1, f2, f3]
    · simp [far j1, far (show j < n1 by omega), j2]
  · rintro s ⟨people, story, st, pid, c, p', h0, h1, h4, h5, h6, hmu, hp0, hp1, ⟨z, hz⟩, hrow, hst, hne, hl, hpa, hpb, hsays, hpe0, hpe1, hfit, hrd, hout⟩
    have h6 := h6 rfl
    by_cases hc : c = 0
    · subst hc
      simp -dsimp [h6]
      exact ⟨people, story, st, pid, 0, p', h0, h1, h4, h5, fun h => by simp at h, hmu, hp0, hp1, ⟨z, hz⟩, hrow, hst, hne, hl, hpa, hpb, hsays, hpe0, hpe1, hfit, hrd, hout⟩
    · have hc1 : 0 < c := by omega
      have wc : IntKind.wrap .i64 ((c : Int) - 1) = ((c - 1 : Nat) : Int) := by rw [w64 (by omega) (by omega)]; omega
      have a1 : ¬ pid = rid := by omega
      simp -dsimp [h6, hc1]
      refine twp_draw (List.range 10) [pid] (List.replicate 10 [0]) (List.replicate 9 [0] ++ [[]]) (by kernel_rfl) (by kernel_rfl) (by kernel_rfl) (by kernel_rfl) ?_
      simp -dsimp [List.range_succ, h0, h5, hrow]
      refine callS_ (claim_z bs p' (by omega) _ _ (by omega) (by omega) (by omega) _ _ rid (by omega) hrd) ?_
      rintro t m3 n3 ⟨hn3, ⟨x, ⟨cl, hcl, hcf, rfl⟩, rfl⟩, p2, hp2, hp3, rfl⟩
      have f4 := far (show pid < n3 by omega)
      have f5 := far (show rid < n3 by omega)
      rcases hst with ⟨rfl, hs0⟩ | ⟨i, rfl, hi0, hi1, hi⟩
      · simp -dsimp [List.range_succ, h0, h5, hrow, a1, f4, f5, hmu, claim_cells, marksV, wc, hc1, h6]
        refine ⟨?_, by omega⟩
        refine st_out fun s' ht hm' hn' hu' => ?_
        have t0 := ht 0
        have t1 := ht 1
        have t4 := ht 4
        have t5 := ht 5
        have t6 := ht 6
        simp -dsimp [h0, h1, h4, h5] at t0 t1 t4 t5 t6 hm' hn' hu'
        clear ht
        have hs1 : story = [] := List.map_eq_nil_iff.1 hs0
        subst hs1
        refine ⟨people, [cl], .loc (n3 + 1), pid, c - 1, p2, t0, t1, t4, t5, fun _ => t6, by rw [hu', hmu], hp0, by omega, ⟨z, ?_⟩, by simp [hm'], .inr ⟨n3 + 1, rfl, by omega, by omega, by simp [hm', f4]⟩, by simp; omega, by simp at hl ⊢; omega, by omega, by omega, by simpa using hcl, hpe0, hpe1, by simpa using hcf, by simp [hm', f5]; omega, fun j j1 j2 => ?_⟩
        · have b2 : ¬ n = pid := by omega
          have b3 : ¬ n = rid := by omega
          simp [hm', far (show n < n3 by omega), b2, b3, hz]
        · have b2 : ¬ j = pid := by omega
          simp [hm', far (show j < n3 by omega), b2, j2, hout j j1 j2]
      · have f6 := far (show i < n3 by omega)
        have a2 : ¬ i = rid := by omega
        have a3 : ¬ pid = i := by rintro rfl; exact hne rfl
        have b1 : (story.length + 1) * 32 ≤ 140737488355328 := by omega
        simp -dsimp [List.range_succ, h0, h5, hrow, a1, a2, a3, f4, f5, f6, hi, hmu, claim_cells, marksV, wc, hc1, b1, h6]
        refine ⟨?_, by omega⟩
        refine st_out fun s' ht hm' hn' hu' => ?_
        have t0 := ht 0
        have t1 := ht 1
        have t4 := ht 4
        have t5 := ht 5
        have t6 := ht 6
        simp -dsimp [h0, h1, h4, h5] at t0 t1 t4 t5 t6 hm' hn' hu'
        clear ht
        refine ⟨people, story ++ [cl], .loc (n3 + 1), pid, c - 1, p2, t0, t1, t4, t5, fun _ => t6, by rw [hu', hmu], hp0, by omega, ⟨z, ?_⟩, by simp [hm'], .inr ⟨n3 + 1, rfl, by omega, by omega, by simp [hm', f4, f6]⟩, by simp; omega, by simp; omega, by omega, by omega, ?_, hpe0, hpe1, ?_, by simp [hm', f5, Ne.symm a2]; omega, fun j j1 j2 => ?_⟩
        · have b2 : ¬ n = pid := by omega
          have b3 : ¬ n = rid := by omega
          have b4 : ¬ n = i := by omega
          simp [hm', far (show n < n3 by omega), b2, b3, b4, hz]
        · intro y hy
          rcases List.mem_append.1 hy with hy | hy
          · exact hsays y hy
          · cases List.mem_singleton.1 hy; exact hcl
        · intro y hy
          rcases List.mem_append.1 hy with hy | hy
          · exact hfit y hy
          · cases List.mem_singleton.1 hy; exact hcf
        · have b2 : ¬ j = pid := by omega
          have b4 : ¬ j = i := by omega
          simp [hm', far (show j < n3 by omega), b2, b4, j2, hout j j1 j2]
  · rintro s ⟨people, story, st, pid, c, p', h0, h1, h4, h5, h6, hmu, hp0, hp1, ⟨z, hz⟩, hrow, hst, hne, hl, hpa, hpb, hsays, hpe0, hpe1, hfit, hrd, hout⟩
    simp -dsimp [h0, h1]
    refine callS_ (odd_at bs p' (by omega) k (by omega) _ _ rid hrd) ?_
    rintro t m3 n3 ⟨hn3, ⟨b, rfl, hb0⟩, p2, hp2, hp3, rfl⟩
    have hcell := hst.cell
    have a1 : ¬ pid = rid := by omega
    have a2 : ¬ n = pid := by omega
    have a3 : ¬ n = rid := by omega
    have f4 := far (show pid < n3 by omega)
    have f5 := far (show rid < n3 by omega)
    have f6 := far (show n < n3 by omega)
    cases b with
    | false =>
      simp -dsimp [h4, h5, hrow, a1, a2, a3, hz, hcell]
      refine ⟨by omega, ⟨_, ?_, ⟨people, story⟩, by simp; omega, hsays, ⟨⟨by simp only; omega, by simp only; omega⟩, hfit⟩, rfl⟩, fun j j1 j2 => ?_, p2, by omega, by omega, by simp [f1]⟩
      · rw [bor_agg]
        simp -dsimp only [mapO, bor_v, hst.bor (n0 := n) (m' := updM (updM s.m rid (some (rdB bs p2))) n (some (Blk.box 41 2 [T.v (V.int IntKind.i64 people), st]))) (by omega) (fun i _ i1 i2 => by rw [updM_ne _ _ (by omega), updM_ne _ _ (by omega)])]
        rfl
      · simp [far j1, j2, hout j j1 j2]
    | true =>
      simp -dsimp [h0]
      refine callS_ (pick_at bs p2 (by omega) _ _ _ rid (by simp)) ?_
      rintro t m4 n4 ⟨hn4, ⟨r2, rfl, hr2, hr3⟩, rfl⟩
      have hr4 : r2 = 0 ∨ r2 = 1 ∨ r2 = 2 := by have := hr3 (by decide); omega
      rcases hr4 with rfl | rfl | rfl
      · rcases hst with ⟨rfl, hs0⟩ | ⟨i, rfl, hi0, hi1, hi⟩
        · simp -dsimp [h4, h5, hrow, a1, a2, a3, hz, hmu, far (show pid < n4 by omega), far (show n < n4 by omega)]
          refine ⟨by omega, ⟨_, by simp [far (show pid < n4 by omega), far (show n < n4 by omega), show n ≤ n4 + 1 + 1 by omega]; rfl, ⟨people, [⟨4, [⟨0, 0⟩]⟩]⟩, by simp, by simp, ⟨⟨by simp only; omega, by simp only; omega⟩, by simpa using fitBad⟩, rfl⟩, fun j j1 j2 => ?_, p2 + 1, by omega, by omega, by simp [f1, Ne.symm a1, far (show rid < n4 by omega)]⟩
          have b2 : ¬ j = pid := by omega
          simp [far j1, far (show j < n4 by omega), j2, b2, hout j j1 j2]
        · have b1 : (story.length + 1) * 32 ≤ 140737488355328 := by omega
          have b2 : ¬ i = rid := by omega
          have b3 : ¬ pid = i := by rintro rfl; exact hne rfl
          have b4 : ¬ n = i := by omega
          simp -dsimp [h4, h5, hrow, a1, a2, a3, hz, hmu, b1, b2, b3, b4, hi, far (show pid < n4 by omega), far (show n < n4 by omega), far (show i < n4 by omega), claim_cells, marksV]
          refine ⟨by omega, ⟨(⟨people, story ++ [⟨4, [⟨0, 0⟩]⟩]⟩ : Place).v, by simp [show n ≤ n4 + 1 + 1 by omega, far (show pid < n4 by omega), far (show n < n4 by omega), far (show i < n4 by omega), Place.v, storyV, Claim.v, marksV, Mark.v], ⟨people, story ++ [⟨4, [⟨0, 0⟩]⟩]⟩, by simp; omega, ?_, ⟨⟨by simp only; omega, by simp only; omega⟩, ?_⟩, rfl⟩, fun j j1 j2 => ?_, p2 + 1, by omega, by omega, by simp [f1, Ne.symm a1, Ne.symm b2, far (show rid < n4 by omega)]⟩
          · intro y hy
            rcases List.mem_append.1 hy with hy | hy
            · exact hsays y hy
            · cases List.mem_singleton.1 hy; simp
          · intro y hy
            rcases List.mem_append.1 hy with hy | hy
            · exact hfit y hy
            · cases List.mem_singleton.1 hy; exact fitBad
          · have c2 : ¬ j = pid := by omega
            have c3 : ¬ j = i := by omega
            simp [far j1, far (show j < n4 by omega), j2, c2, c3, hout j j1 j2]
      · simp -dsimp [h4, h5, hrow, a1, a2, a3, hz, hcell]
        refine ⟨by omega, ⟨_, ?_, ⟨5, story⟩, by simp; omega, hsays, ⟨⟨by simp, by simp⟩, hfit⟩, rfl⟩, fun j j1 j2 => ?_, p2 + 1, by omega, by omega, by simp [f1, Ne.symm a1]⟩
        · rw [bor_agg]
          simp -dsimp only [mapO, bor_v, hst.bor (n0 := n) (m' := updM (updM (updM s.m rid (some (rdB bs (p2 + 1)))) pid (some (Blk.box 41 2 [T.v (V.int IntKind.i64 5), st]))) n (some (Blk.box 41 2 [T.v (V.int IntKind.i64 5), st]))) (by omega) (fun i hi i1 i2 => by rw [updM_ne _ _ (by omega), updM_ne _ _ (by rintro rfl; exact hne hi), updM_ne _ _ (by omega)])]
          rfl
        · have b2 : ¬ j = pid := by omega
          simp [far j1, j2, b2, hout j j1 j2]
      · simp -dsimp [h4, h5, hrow, a1, a2, a3, hz]
        refine ⟨by omega, ⟨_, by simp; rfl, ⟨0, []⟩, by simp, by simp, ⟨⟨by simp, by simp⟩, by simp⟩, rfl⟩, fun j j1 j2 => ?_, p2 + 1, by omega, by omega, by simp [f1]⟩
        simp [far j1, j2, hout j j1 j2]
end TL
