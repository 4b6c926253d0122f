/- TL: parts FnsZD1, FnsZD2, FnsZM2, FnsZE16, FnsZE3, FnsZE6, FnsZE18p, FnsZE5, FnsZE12, FnsZP2, FnsZM3, FnsZK5, FnsZGI. -/
import Derived.Test.YtndfipgiaeeheaaGf
import Derived.Test.YtndfipgiaeeheaaGe
import Derived.Test.YtndfipgiaeeheaaGd
import Derived.Test.YtndfipgiaeeheaaGc
import Derived.KernelRfl
/- What a deed makes of a place: the reference. -/
set_option linter.unusedSimpArgs false
set_option linter.unusedVariables false
set_option maxRecDepth 100000
set_option maxHeartbeats 4000000
set_option pp.maxSteps 1500
namespace TL
open Go Go.Proofs
attribute [local simp] marksV storyV codeV Claim.v Place.v Deed.v
theorem l15Made_fn (p : Place) (a : Deed) (hp : placeOk p = true) (ha : a.words.length ≤ 1000000000) : FnZ Try.prog 25 [p.v, a.v] (made p a).v := by
  obtain ⟨hfine, hfit, hsm, hl6⟩ := place_fine hp
  have hpl := fun m n => l15Place_own p hsm m n
  have hrc := readClaimS_fn p.people a.words (by omega)
  have hleast := leastStoryS_fn p.people p.story hp
  have hwo : ∀ k : Nat, k < p.story.length → FnZ Try.prog 33 [storyV p.story, .int .i64 k] (storyV (p.story.eraseIdx k)) := fun k hk => l5Without_fn p.story k hk (by omega)
  have hin := l1In_z a.num 0 ((p.story.length : Int) - 1)
  have w1 : IntKind.wrap .i64 ((p.story.length : Int) - 1) = (p.story.length : Int) - 1 := w64 (by omega) (by omega)
  obtain ⟨people, story⟩ := p
  obtain ⟨kind, num, words⟩ := a
  simp only at hrc hleast hwo hin w1 hl6
  have b1 : (story.length + 1) * 32 ≤ 140737488355328 := by omega
  unfold made
  simp only
  by_cases c0 : kind = 0 ∧ num = 0
  · obtain ⟨rfl, rfl⟩ := c0
    rw [if_pos ⟨rfl, rfl⟩]
    refine FnZ_of (rs := [.cell 4 25]) false Try.func25 rfl rfl rfl rfl (Nat.le_of_ble_eq_true rfl) ?_
    simp -dsimp
    refine callL_ (vs := [(⟨people, story⟩ : Place).v]) (hpl _ _) (by simp -dsimp) ?_
    rintro t m1 n1 ⟨hn1, hout, st, rfl, hst⟩
    have k0 := hout 0 (by omega)
    have k1 := hout 1 (by omega)
    have k2 := hout 2 (by omega)
    simp -dsimp at k0 k1 k2
    have f0 := far (show 0 < n1 by omega)
    have f1 := far (show 1 < n1 by omega)
    have f2 := far (show 2 < n1 by omega)
    have hc := hst.cell
    have z1 : ¬ n1 = 0 := by omega
    have z2 : ¬ n1 = 1 := by omega
    have z3 : ¬ n1 = 2 := by omega
    simp -dsimp [k0, k1, k2, f0, f1, f2, hc, z1, z2, z3]
    refine call_ hrc (by simp -dsimp) ?_
    cases hr : readC people words with
    | none => simp -dsimp [optC, k0, k1, k2, f0, f1, f2, hc, z1, z2, z3, nes]
    | some c =>
      rcases hst with ⟨rfl, hs0⟩ | ⟨id, rfl, hi0, hi1, him⟩
      · have hs0' : story = [] := by simpa using hs0
        subst hs0'
        simp -dsimp [optC, k0, k1, k2, f0, f1, f2, hc, z1, z2, z3, nes]
      · have g1 := far hi1
        have y1 : ¬ id = 0 := by omega
        have y2 : ¬ id = 1 := by omega
        have y3 : ¬ id = 2 := by omega
        simp -dsimp [optC, k0, k1, k2, f0, f1, f2, g1, hc, z1, z2, z3, y1, y2, y3, Ne.symm y1, Ne.symm y2, Ne.symm y3, nes, him, b1]
  rw [if_neg c0]
  by_cases c1 : kind = 1 ∧ words = [] ∧ 0 ≤ num ∧ num < story.length
  · rw [if_pos c1]
    obtain ⟨rfl, rfl, h2, h3⟩ := c1
    obtain ⟨k, rfl⟩ := Int.eq_ofNat_of_zero_le h2
    have hw := hwo k (by omega)
    have hb : (decide (0 ≤ (k : Int)) && decide ((k : Int) ≤ (story.length : Int) - 1)) = true := by simp; omega
    rw [hb] at hin
    simp only [Int.toNat_natCast]
    refine FnZ_of (rs := [.cell 4 25]) false Try.func25 rfl rfl rfl rfl (Nat.le_of_ble_eq_true rfl) ?_
    simp -dsimp
    refine callL_ (vs := [(⟨people, story⟩ : Place).v]) (hpl _ _) (by simp -dsimp) ?_
    rintro t m1 n1 ⟨hn1, hout, st, rfl, hst⟩
    have k0 := hout 0 (by omega)
    have k1 := hout 1 (by omega)
    have k2 := hout 2 (by omega)
    simp -dsimp at k0 k1 k2
    have f0 := far (show 0 < n1 by omega)
    have f1 := far (show 1 < n1 by omega)
    have f2 := far (show 2 < n1 by omega)
    have hc := hst.cell
    have z1 : ¬ n1 = 0 := by omega
    have z2 : ¬ n1 = 1 := by omega
    have z3 : ¬ n1 = 2 := by omega
    simp -dsimp [k0, k1, k2, f0, f1, f2, hc, z1, z2, z3, w1]
    refine call_ hin (by simp -dsimp) ?_
    simp -dsimp [k0, k1, k2, f0, f1, f2, hc, z1, z2, z3, w1]
    refine twp_draw (List.range 9) [0, 1, n1] (List.replicate 9 [0, 1, 2]) (List.replicate 9 [0, 1, 2]) (by kernel_rfl) (by kernel_rfl) (by kernel_rfl) (by kernel_rfl) ?_
    rcases hst with ⟨rfl, hs0⟩ | ⟨id, rfl, hi0, hi1, him⟩
    · have hs0' : story = [] := by simpa using hs0
      rw [hs0'] at h3; simp at h3; omega
    · have g1 := far hi1
      simp -dsimp [List.range_succ, k0, k1, k2, f0, f1, f2, hc, z1, z2, z3, w1]
      refine call_ hw (by simp -dsimp [g1, him]) ?_
      simp -dsimp [List.range_succ, k0, k1, k2, f0, f1, f2, hc, z1, z2, z3, w1]
  rw [if_neg c1]
  have g1 : ¬ (kind = 1 ∧ words = [] ∧ (decide (0 ≤ num) && decide (num ≤ (story.length : Int) - 1)) = true) := fun h => c1 ⟨h.1, h.2.1, by have := h.2.2; simp at this; omega, by have := h.2.2; simp at this; omega⟩
  generalize (decide (0 ≤ num) && decide (num ≤ (story.length : Int) - 1)) = bin at *
  by_cases c2 : kind = 2 ∧ words = []
  · rw [if_pos c2]
    obtain ⟨rfl, rfl⟩ := c2
    refine FnZ_of (rs := [.cell 4 25]) false Try.func25 rfl rfl rfl rfl (Nat.le_of_ble_eq_true rfl) ?_
    simp -dsimp
    refine callL_ (vs := [(⟨people, story⟩ : Place).v]) (hpl _ _) (by simp -dsimp) ?_
    rintro t m1 n1 ⟨hn1, hout, st, rfl, hst⟩
    have k0 := hout 0 (by omega)
    have k1 := hout 1 (by omega)
    have k2 := hout 2 (by omega)
    simp -dsimp at k0 k1 k2
    have f0 := far (show 0 < n1 by omega)
    have f1 := far (show 1 < n1 by omega)
    have f2 := far (show 2 < n1 by omega)
    have hc := hst.cell
    have z1 : ¬ n1 = 0 := by omega
    have z2 : ¬ n1 = 1 := by omega
    have z3 : ¬ n1 = 2 := by omega
    rcases hst with ⟨rfl, hs0⟩ | ⟨id, rfl, hi0, hi1, him⟩
    · have hs0' : story = [] := by simpa using hs0
      subst hs0'
      by_cases d0 : num = 0
      · simp -dsimp [k0, k1, k2, f0, f1, f2, hc, z1, z2, z3, w1, d0, nes]
      · simp -dsimp [k0, k1, k2, f0, f1, f2, hc, z1, z2, z3, w1, d0, nes]
    · have g1 := far hi1
      have y1 : ¬ id = 0 := by omega
      have y2 : ¬ id = 1 := by omega
      have y3 : ¬ id = 2 := by omega
      by_cases d0 : num = 0
      · simp -dsimp [k0, k1, k2, f0, f1, f2, hc, z1, z2, z3, w1, d0, nes, g1, y1, y2, y3, him]
      · simp -dsimp [k0, k1, k2, f0, f1, f2, hc, z1, z2, z3, w1, d0, nes, g1, y1, y2, y3, him]
  rw [if_neg c2]
  by_cases c3 : kind = 3 ∧ num = 0 ∧ words = []
  · rw [if_pos c3]
    obtain ⟨rfl, rfl, rfl⟩ := c3
    refine FnZ_of (rs := [.cell 4 25]) false Try.func25 rfl rfl rfl rfl (Nat.le_of_ble_eq_true rfl) ?_
    simp -dsimp
    refine callL_ (vs := [(⟨people, story⟩ : Place).v]) (hpl _ _) (by simp -dsimp) ?_
    rintro t m1 n1 ⟨hn1, hout, st, rfl, hst⟩
    have k0 := hout 0 (by omega)
    have k1 := hout 1 (by omega)
    have k2 := hout 2 (by omega)
    simp -dsimp at k0 k1 k2
    have f0 := far (show 0 < n1 by omega)
    have f1 := far (show 1 < n1 by omega)
    have f2 := far (show 2 < n1 by omega)
    have hc := hst.cell
    have z1 : ¬ n1 = 0 := by omega
    have z2 : ¬ n1 = 1 := by omega
    have z3 : ¬ n1 = 2 := by omega
    simp -dsimp [k0, k1, k2, f0, f1, f2, hc, z1, z2, z3, w1, nes]
    refine call_ hleast (by simp -dsimp) ?_
    simp -dsimp [k0, k1, k2, f0, f1, f2, hc, z1, z2, z3, w1, nes]
  rw [if_neg c3]
  by_cases e0 : kind = 0
  · subst e0
    have d0 : ¬ num = 0 := fun h => c0 ⟨rfl, h⟩
    refine FnZ_of (rs := [.cell 4 25]) false Try.func25 rfl rfl rfl rfl (Nat.le_of_ble_eq_true rfl) ?_
    simp -dsimp
    refine callL_ (vs := [(⟨people, story⟩ : Place).v]) (hpl _ _) (by simp -dsimp) ?_
    rintro t m1 n1 ⟨hn1, hout, st, rfl, hst⟩
    have k0 := hout 0 (by omega)
    have k1 := hout 1 (by omega)
    have k2 := hout 2 (by omega)
    simp -dsimp at k0 k1 k2
    have f0 := far (show 0 < n1 by omega)
    have f1 := far (show 1 < n1 by omega)
    have f2 := far (show 2 < n1 by omega)
    have hc := hst.cell
    have z1 : ¬ n1 = 0 := by omega
    have z2 : ¬ n1 = 1 := by omega
    have z3 : ¬ n1 = 2 := by omega
    simp -dsimp [k0, k1, k2, f0, f1, f2, hc, z1, z2, z3, w1, nes, d0]
  by_cases e1 : kind = 1
  · subst e1
    by_cases dw : words = []
    · subst dw
      have hbf : bin = false := by
        cases bin
        · rfl
        · exact absurd ⟨rfl, rfl, rfl⟩ g1
      subst hbf
      refine FnZ_of (rs := [.cell 4 25]) false Try.func25 rfl rfl rfl rfl (Nat.le_of_ble_eq_true rfl) ?_
      simp -dsimp
      refine callL_ (vs := [(⟨people, story⟩ : Place).v]) (hpl _ _) (by simp -dsimp) ?_
      rintro t m1 n1 ⟨hn1, hout, st, rfl, hst⟩
      have k0 := hout 0 (by omega)
      have k1 := hout 1 (by omega)
      have k2 := hout 2 (by omega)
      simp -dsimp at k0 k1 k2
      have f0 := far (show 0 < n1 by omega)
      have f1 := far (show 1 < n1 by omega)
      have f2 := far (show 2 < n1 by omega)
      have hc := hst.cell
      have z1 : ¬ n1 = 0 := by omega
      have z2 : ¬ n1 = 1 := by omega
      have z3 : ¬ n1 = 2 := by omega

      simp -dsimp [k0, k1, k2, f0, f1, f2, hc, z1, z2, z3, w1, nes]
      refine call_ hin (by simp -dsimp) ?_
      simp -dsimp [k0, k1, k2, f0, f1, f2, hc, z1, z2, z3, w1, nes]
    · refine FnZ_of (rs := [.cell 4 25]) false Try.func25 rfl rfl rfl rfl (Nat.le_of_ble_eq_true rfl) ?_
      simp -dsimp
      refine callL_ (vs := [(⟨people, story⟩ : Place).v]) (hpl _ _) (by simp -dsimp) ?_
      rintro t m1 n1 ⟨hn1, hout, st, rfl, hst⟩
      have k0 := hout 0 (by omega)
      have k1 := hout 1 (by omega)
      have k2 := hout 2 (by omega)
      simp -dsimp at k0 k1 k2
      have f0 := far (show 0 < n1 by omega)
      have f1 := far (show 1 < n1 by omega)
      have f2 := far (show 2 < n1 by omega)
      have hc := hst.cell
      have z1 : ¬ n1 = 0 := by omega
      have z2 : ¬ n1 = 1 := by omega
      have z3 : ¬ n1 = 2 := by omega

      simp -dsimp [k0, k1, k2, f0, f1, f2, hc, z1, z2, z3, w1, nes, dw]
  by_cases e2 : kind = 2
  · subst e2
    have dw : ¬ words = [] := fun h => c2 ⟨rfl, h⟩
    refine FnZ_of (rs := [.cell 4 25]) false Try.func25 rfl rfl rfl rfl (Nat.le_of_ble_eq_true rfl) ?_
    simp -dsimp
    refine callL_ (vs := [(⟨people, story⟩ : Place).v]) (hpl _ _) (by simp -dsimp) ?_
    rintro t m1 n1 ⟨hn1, hout, st, rfl, hst⟩
    have k0 := hout 0 (by omega)
    have k1 := hout 1 (by omega)
    have k2 := hout 2 (by omega)
    simp -dsimp at k0 k1 k2
    have f0 := far (show 0 < n1 by omega)
    have f1 := far (show 1 < n1 by omega)
    have f2 := far (show 2 < n1 by omega)
    have hc := hst.cell
    have z1 : ¬ n1 = 0 := by omega
    have z2 : ¬ n1 = 1 := by omega
    have z3 : ¬ n1 = 2 := by omega
    by_cases d0 : num = 0
    · simp -dsimp [k0, k1, k2, f0, f1, f2, hc, z1, z2, z3, w1, nes, d0, dw]
    · simp -dsimp [k0, k1, k2, f0, f1, f2, hc, z1, z2, z3, w1, nes, d0, dw]
  by_cases e3 : kind = 3
  · subst e3
    refine FnZ_of (rs := [.cell 4 25]) false Try.func25 rfl rfl rfl rfl (Nat.le_of_ble_eq_true rfl) ?_
    simp -dsimp
    refine callL_ (vs := [(⟨people, story⟩ : Place).v]) (hpl _ _) (by simp -dsimp) ?_
    rintro t m1 n1 ⟨hn1, hout, st, rfl, hst⟩
    have k0 := hout 0 (by omega)
    have k1 := hout 1 (by omega)
    have k2 := hout 2 (by omega)
    simp -dsimp at k0 k1 k2
    have f0 := far (show 0 < n1 by omega)
    have f1 := far (show 1 < n1 by omega)
    have f2 := far (show 2 < n1 by omega)
    have hc := hst.cell
    have z1 : ¬ n1 = 0 := by omega
    have z2 : ¬ n1 = 1 := by omega
    have z3 : ¬ n1 = 2 := by omega
    by_cases d0 : num = 0
    · have dw : ¬ words = [] := fun h => c3 ⟨rfl, d0, h⟩
      simp -dsimp [k0, k1, k2, f0, f1, f2, hc, z1, z2, z3, w1, nes, d0, dw]
    · simp -dsimp [k0, k1, k2, f0, f1, f2, hc, z1, z2, z3, w1, nes, d0]
  refine FnZ_of (rs := [.cell 4 25]) false Try.func25 rfl rfl rfl rfl (Nat.le_of_ble_eq_true rfl) ?_
  simp -dsimp
  refine callL_ (vs := [(⟨people, story⟩ : Place).v]) (hpl _ _) (by simp -dsimp) ?_
  rintro t m1 n1 ⟨hn1, hout, st, rfl, hst⟩
  have k0 := hout 0 (by omega)
  have k1 := hout 1 (by omega)
  have k2 := hout 2 (by omega)
  simp -dsimp at k0 k1 k2
  have f0 := far (show 0 < n1 by omega)
  have f1 := far (show 1 < n1 by omega)
  have f2 := far (show 2 < n1 by omega)
  have hc := hst.cell
  have z1 : ¬ n1 = 0 := by omega
  have z2 : ¬ n1 = 1 := by omega
  have z3 : ¬ n1 = 2 := by omega

  simp -dsimp [k0, k1, k2, f0, f1, f2, hc, z1, z2, z3, w1, nes, e0, e1, e2, e3]
end TL

/- Deeds at a desk: the reference. -/
set_option linter.unusedSimpArgs false
set_option linter.unusedVariables false
set_option maxRecDepth 100000
set_option maxHeartbeats 4000000
set_option pp.maxSteps 1500
namespace TL
open Go Go.Proofs
attribute [local simp] marksV storyV codeV Claim.v Place.v Deed.v Desk.v
theorem made_fine (p : Place) (a : Deed) (hp : placeOk p = true) : (made p a).fine ∧ (made p a).story.length ≤ 7 ∧ (made p a).small := by
  obtain ⟨h1, h2, h3, h4⟩ := placeOk_all hp
  have hc : ∀ c ∈ p.story, c.fine ∧ c.small := fun c hc => ⟨(claim_fine (h4 c hc)).1, (claim_fine (h4 c hc)).2.2.1⟩
  have key : ∀ q : Place, q.story.length ≤ 7 → (∀ c ∈ q.story, c.fine ∧ c.small) → q.fine ∧ q.story.length ≤ 7 ∧ q.small := fun q hl hq => ⟨⟨by omega, fun c hx => (hq c hx).1⟩, hl, ⟨by omega, fun c hx => (hq c hx).2⟩⟩
  have zero := key ⟨0, []⟩ (by simp) (by simp)
  unfold made
  split
  · split
    · rename_i c hr
      have := claim_fine (readC_is hr).1
      refine key _ (by simp; omega) fun x hx => ?_
      rcases List.mem_append.1 hx with hx | hx
      · exact hc x hx
      · rw [List.mem_singleton.1 hx]; exact ⟨this.1, this.2.2.1⟩
    · exact zero
  · split
    · refine key _ ?_ fun x hx => hc x ((List.eraseIdx_sublist _ _).subset hx)
      have := (List.eraseIdx_sublist p.story a.num.toNat).length_le
      simp only; omega
    · split
      · exact key _ (by simp only; omega) hc
      · split
        · refine key _ ?_ fun x hx => hc x ((least_sub _ _).subset hx)
          have := (least_sub p.people.toNat p.story).length_le
          simp only; omega
        · exact zero
theorem last_facts {l : List Place} {q : Place} (h : l ≠ []) : ((l.length : Int) - 1).toNat = l.length - 1 ∧ (l.map Place.v)[l.length - 1]? = some (l.getLast?.getD q).v ∧ (l.map Place.v).take (l.length - 1) = l.dropLast.map Place.v ∧ (0 : Int) ≤ (l.length : Int) - 1 ∧ (l.length : Int) - 1 ≤ l.length ∧ l.length - 1 ≤ l.length := by
  have hl : 0 < l.length := List.length_pos_iff.2 h
  refine ⟨by omega, ?_, ?_, by omega, by omega, by omega⟩
  · rw [List.getLast?_eq_getElem?, List.getElem?_map, List.getElem?_eq_getElem (by omega)]; rfl
  · rw [← List.map_take, List.dropLast_eq_take]
theorem deskDoS_fn (d : Desk) (a : Deed) (hd : d.small) (hf : d.fit) (ha : a.words.length ≤ 1000000000) : FnZ Try.prog 16 [d.v, a.v] (.tup [(deskDo d a).1.v, .bool (deskDo d a).2]) := by
  have hok := deskOkS_fn d hd hf
  have hk := ft (deskOk d)
  rcases hk with hk | hk
  · rw [deskDo_no hk]
    rw [hk] at hok
    obtain ⟨a1, a2, a3⟩ := a
    refine FnZ_of (rs := [.cell 4 28, .tmp 5]) false Try.func16 rfl rfl rfl rfl (Nat.le_of_ble_eq_true rfl) ?_
    simp -dsimp
    refine call_ hok (by simp -dsimp) ?_
    simp -dsimp [noDeskV]
  rw [hk] at hok
  obtain ⟨hpast, hnow, hp8⟩ := deskOk_iff.1 hk
  have hcopy := fun m n => l15Copy_own d hd m n
  by_cases hb : isBack a = true ∧ d.past ≠ []
  · rw [deskDo_back hk hb.1 hb.2]
    have ha4 : a = ⟨4, 0, []⟩ := by have := hb.1; simp only [isBack, decide_eq_true_eq] at this; exact this
    subst ha4
    obtain ⟨l1, l2, l3, l4, l5, l6⟩ := last_facts (q := d.now) hb.2
    have hpos : 0 < d.past.length := List.length_pos_iff.2 hb.2
    have hpos' : (0 : Int) < d.past.length := by omega
    have hne := hb.2
    have p1 : (1 : Int) ≤ d.past.length := by omega
    have p2 : 1 ≤ d.past.length := by omega
    have w1 : IntKind.wrap .i64 ((d.past.length : Int) - 1) = (d.past.length : Int) - 1 := w64 (by omega) (by omega)
    clear hb
    refine FnZ_of (rs := [.cell 4 28, .tmp 5]) false Try.func16 rfl rfl rfl rfl (Nat.le_of_ble_eq_true rfl) ?_
    simp -dsimp
    refine call_ hok (by simp -dsimp) ?_
    simp -dsimp
    refine callL_ (vs := [d.v]) (hcopy _ _) (by simp -dsimp) ?_
    rintro t m1 n1 ⟨hn1, hout, st, rfl, hst⟩
    have k0 := hout 0 (by omega)
    have k1 := hout 1 (by omega)
    have k2 := hout 2 (by omega)
    simp -dsimp at k0 k1 k2
    have f0 := far (show 0 < n1 by omega)
    have f1 := far (show 1 < n1 by omega)
    have f2 := far (show 2 < n1 by omega)
    have z1 : ¬ n1 = 0 := by omega
    have z2 : ¬ n1 = 1 := by omega
    have z3 : ¬ n1 = 2 := by omega
    rcases hst with ⟨rfl, hs0⟩ | ⟨id, rfl, hi0, hi1, him⟩
    · exact absurd (by simpa using hs0) hne
    · have g1 := far hi1
      generalize d.past.getLast?.getD d.now = q at *
      simp -dsimp [k0, k1, k2, f0, f1, f2, z1, z2, z3, hne, hpos, hpos', p1, p2, g1, him, w1, l1, l2, l3, l4, l5, l6, nes]
  have hmade := l15Made_fn d.now a hnow ha
  obtain ⟨mf, ml, ms⟩ := made_fine d.now a hnow
  have hpo := placeOkS_fn (made d.now a) mf
  have hpt := placeTextS_fn (made d.now a) mf
  have hpn := placeTextS_fn d.now (place_fine hnow).1
  have hD : deskDo d a = if (placeOk (made d.now a) && !decide (placeTx (made d.now a) = placeTx d.now)) = true then (⟨made d.now a, keep8 (d.past ++ [d.now])⟩, true) else (d, false) := by
    unfold deskDo; rw [if_pos hk, if_neg hb]; rfl
  rw [hD]
  have hb' : (decide (a = ⟨4, 0, []⟩) = true ∧ d.past ≠ []) → False := hb
  have hba : isBack a = true → placeOk (made d.now a) = false ∧ d.past = [] := fun h => ⟨by rw [made_back h, zero_no], Classical.byContradiction fun h2 => hb' ⟨h, h2⟩⟩
  clear hb hb' hD
  generalize made d.now a = X at *
  generalize placeTx X = tX at *
  generalize placeTx d.now = tN at *
  have hkX := ft (placeOk X)
  generalize placeOk X = okX at *
  obtain ⟨kind, num, words⟩ := a
  have htx : tX = tN ∨ ¬ tX = tN := Classical.em _
  obtain ⟨Xp, Xs⟩ := X
  have fullb : (d.past.length + 1) * 32 ≤ 140737488355328 := by omega
  by_cases hq : kind = 4 ∧ num = 0 ∧ words = []
  · obtain ⟨rfl, rfl, rfl⟩ := hq
    obtain ⟨hokX, he⟩ := hba rfl
    subst hokX
    have he0 : (d.past.map Place.v) = [] := by rw [he]; rfl
    refine FnZ_of (rs := [.cell 4 28, .tmp 5]) false Try.func16 rfl rfl rfl rfl (Nat.le_of_ble_eq_true rfl) ?_
    simp -dsimp
    refine call_ hok (by simp -dsimp) ?_
    simp -dsimp
    refine callL_ (vs := [d.v]) (hcopy _ _) (by simp -dsimp) ?_
    rintro t m1 n1 ⟨hn1, hout, st, rfl, hst⟩
    have k0 := hout 0 (by omega)
    have k1 := hout 1 (by omega)
    have k2 := hout 2 (by omega)
    simp -dsimp at k0 k1 k2
    have f0 := far (show 0 < n1 by omega)
    have f1 := far (show 1 < n1 by omega)
    have f2 := far (show 2 < n1 by omega)
    have z1 : ¬ n1 = 0 := by omega
    have z2 : ¬ n1 = 1 := by omega
    have z3 : ¬ n1 = 2 := by omega
    have hc := hst.cell
    simp -dsimp [k0, k1, k2, f0, f1, f2, z1, z2, z3, hc, he, nes]
    refine call_ hmade (by simp -dsimp) ?_
    simp -dsimp [k0, k1, k2, f0, f1, f2, z1, z2, z3, hc, he, nes]
    refine twp_draw [0, 1, 2, 3, 4, 6, 7, 5, 8, 9, 10] [0, n1 + 1 + 1] (List.replicate 11 [0, 1]) (List.replicate 11 [0, 1]) (by kernel_rfl) (by kernel_rfl) (by kernel_rfl) (by kernel_rfl) ?_
    simp -dsimp [k0, k1, k2, f0, f1, f2, z1, z2, z3, hc, he, nes]
    refine call_ hpo (by simp -dsimp) ?_
    rcases hst with ⟨rfl, hs0⟩ | ⟨id, rfl, hi0, hi1, him⟩
    · simp -dsimp [k0, k1, k2, f0, f1, f2, z1, z2, z3, hc, he, nes]
    · have g1 := far hi1
      have y3 : ¬ id = 2 := by omega
      simp -dsimp [k0, k1, k2, f0, f1, f2, z1, z2, z3, hc, he, nes, g1, him, y3]
  · have hbb : (decide (kind = 4) && (decide (num = 0) && decide (words = []))) = false := by
      rw [Bool.eq_false_iff]; intro h; simp at h; exact hq h
    refine FnZ_of (rs := [.cell 4 28, .tmp 5]) false Try.func16 rfl rfl rfl rfl (Nat.le_of_ble_eq_true rfl) ?_
    simp -dsimp
    refine call_ hok (by simp -dsimp) ?_
    simp -dsimp
    refine callL_ (vs := [d.v]) (hcopy _ _) (by simp -dsimp) ?_
    rintro t m1 n1 ⟨hn1, hout, st, rfl, hst⟩
    have k0 := hout 0 (by omega)
    have k1 := hout 1 (by omega)
    have k2 := hout 2 (by omega)
    simp -dsimp at k0 k1 k2
    have f0 := far (show 0 < n1 by omega)
    have f1 := far (show 1 < n1 by omega)
    have f2 := far (show 2 < n1 by omega)
    have z1 : ¬ n1 = 0 := by omega
    have z2 : ¬ n1 = 1 := by omega
    have z3 : ¬ n1 = 2 := by omega
    have hc := hst.cell
    simp -dsimp [k0, k1, k2, f0, f1, f2, z1, z2, z3, hc, hbb, nes]
    refine call_ hmade (by simp -dsimp) ?_
    simp -dsimp [k0, k1, k2, f0, f1, f2, z1, z2, z3, hc, nes]
    refine twp_draw [0, 1, 2, 3, 4, 6, 7, 5, 8, 9, 10] [0, n1 + 1 + 1] (List.replicate 11 [0, 1]) (List.replicate 11 [0, 1]) (by kernel_rfl) (by kernel_rfl) (by kernel_rfl) (by kernel_rfl) ?_
    simp -dsimp [k0, k1, k2, f0, f1, f2, z1, z2, z3, hc, nes]
    refine call_ hpo (by simp -dsimp) ?_
    rcases hkX with rfl | rfl
    · rcases hst with ⟨rfl, hs0⟩ | ⟨id, rfl, hi0, hi1, him⟩
      · have hs0' : d.past = [] := by simpa using hs0
        simp -dsimp [k0, k1, k2, f0, f1, f2, z1, z2, z3, hc, nes, hs0']
      · have g1 := far hi1
        have y3 : ¬ id = 2 := by omega
        simp -dsimp [k0, k1, k2, f0, f1, f2, z1, z2, z3, hc, nes, g1, him, y3]
    simp -dsimp [k0, k1, k2, f0, f1, f2, z1, z2, z3, hc, nes]
    refine call_ hpt (by simp -dsimp) ?_
    simp -dsimp [k0, k1, k2, f0, f1, f2, z1, z2, z3, hc, nes]
    refine call_ hpn (by simp -dsimp) ?_
    rcases htx with rfl | htx
    · rcases hst with ⟨rfl, hs0⟩ | ⟨id, rfl, hi0, hi1, him⟩
      · have hs0' : d.past = [] := by simpa using hs0
        simp -dsimp [k0, k1, k2, f0, f1, f2, z1, z2, z3, hc, nes, hs0']
      · have g1 := far hi1
        have y3 : ¬ id = 2 := by omega
        simp -dsimp [k0, k1, k2, f0, f1, f2, z1, z2, z3, hc, nes, g1, him, y3]
    rcases hst with ⟨rfl, hs0⟩ | ⟨id, rfl, hi0, hi1, him⟩
    · have hs0' : d.past = [] := by simpa using hs0
      have hk8 : keep8 (d.past ++ [d.now]) = [d.now] := by rw [hs0']; rfl
      simp -dsimp [k0, k1, k2, f0, f1, f2, z1, z2, z3, hc, nes, htx, hs0', keep8]
    · have g1 := far hi1
      have y3 : ¬ id = 2 := by omega
      by_cases h8 : d.past.length = 8
      · have e8 : (d.past.length : Int) = 8 := by omega
        simp -dsimp [k0, k1, k2, f0, f1, f2, z1, z2, z3, hc, nes, htx, g1, him, y3, Ne.symm y3, h8, e8, keep8, fullb]
        rw [List.take_of_length_le (by simp [h8])]
      · have e8 : d.past.length < 8 := by omega
        have e8' : ¬ (8 : Int) < (d.past.length : Int) + 1 := by omega
        have e8'' : ¬ 8 < d.past.length + 1 := by omega
        simp -dsimp [k0, k1, k2, f0, f1, f2, z1, z2, z3, hc, nes, htx, g1, him, y3, Ne.symm y3, h8, e8, e8', e8'', keep8, fullb]
end TL

/- Deeds at a desk, past places as cells that may change: the reference. -/
set_option linter.unusedSimpArgs false
set_option linter.unusedVariables false
set_option maxRecDepth 100000
set_option maxHeartbeats 4000000
set_option pp.maxSteps 1500
namespace TL
open Go Go.Proofs
attribute [local simp] marksV storyV codeV Claim.v Place.v Deed.v Desk.v
theorem PastT.cell {m : Mem} {lo hi : Nat} {P : T} {l : List Place} (h : PastT m lo hi P l) : P.cell = true := by
  rcases h with ⟨rfl, _⟩ | ⟨id, ex, rfl, _⟩ <;> rfl
theorem PastT.cells {m : Mem} {lo hi : Nat} {P : T} {l : List Place} (h : PastT m lo hi P l) : P.cells = [P] := by
  rcases h with ⟨rfl, _⟩ | ⟨id, ex, rfl, _⟩ <;> rfl
theorem PastT.len {m : Mem} {lo hi : Nat} {P : T} {l : List Place} (h : PastT m lo hi P l) (mm : Mem) : evLen Try.prog 26 mm P = some ⟨.v (.int .i64 l.length), []⟩ := by
  rcases h with ⟨rfl, rfl⟩ | ⟨id, ex, rfl, _⟩ <;> simp <;> rfl
theorem PastT.bor {m : Mem} {lo hi : Nat} {P : T} {l : List Place} (h : PastT m lo hi P l) {mm : Mem} (hm : ∀ j, lo ≤ j → j < hi → mm j = m j) (d : Nat) : TL.bor true mm (d + 1) P = some (.sl (l.map Place.v)) := by
  rcases h with ⟨rfl, rfl⟩ | ⟨id, ex, rfl, h0, h1, h2⟩
  · rfl
  · have e : mm id = some (.box 25 2 (plT l ++ ex)) := by rw [hm id h0 h1, h2]
    have c1 : 0 + l.length * 2 ≤ (plT l ++ ex).length := by simp
    have c2 : ((plT l ++ ex).drop 0).take (l.length * 2) = plT l := by rw [List.drop_zero, plT_take_ex]
    show (match mm id with | some (.box _ z cs) => tst (0 + l.length * z ≤ cs.length) (obind (mapO (TL.bor true mm d) ((cs.drop 0).take (l.length * z))) fun xs => tst (∀ x ∈ xs, x.cell = true) (some (V.sl (chunk z l.length xs)))) | _ => none) = _
    rw [e]
    show tst (0 + l.length * 2 ≤ (plT l ++ ex).length) (obind (mapO (TL.bor true mm d) (((plT l ++ ex).drop 0).take (l.length * 2))) fun xs => tst (∀ x ∈ xs, x.cell = true) (some (V.sl (chunk 2 l.length xs)))) = _
    rw [tst_pos c1, c2, plT_bor, obind_some, tst_pos (plV_cell l), plV_chunk]
theorem PastT.keep {m m' : Mem} {lo hi lo' hi' : Nat} {P : T} {l : List Place} (h : PastT m lo hi P l) (h1 : lo' ≤ lo) (h2 : hi ≤ hi') (hm : ∀ j, lo ≤ j → j < hi → m' j = m j) : PastT m' lo' hi' P l := by
  rcases h with ⟨rfl, rfl⟩ | ⟨id, ex, rfl, g0, g1, g2⟩
  · exact .inl ⟨rfl, rfl⟩
  · exact .inr ⟨id, ex, rfl, by omega, by omega, by rw [hm id g0 g1, g2]⟩
theorem desk_arg {m : Mem} {hi : Nat} {P : T} {d : Desk} (h : PastT m 0 hi P d.past) {mm : Mem} (hm : ∀ j, j < hi → mm j = m j) : mapO (TL.bor true mm 4) [.agg [.v (.int .i64 d.now.people), .v (storyV d.now.story), P]] = some [d.v] := by
  have hb := h.bor (mm := mm) (fun j _ hj => hm j hj) 2
  simp [hb]
/-- The reference's DeskNew, its row of places of before the caller's own. -/
def NewT (p : Place) (m : Mem) (n : Nat) (t : T) (m' : Mem) (n' : Nat) : Prop := n ≤ n' ∧ (∀ j, j < n → m' j = m j) ∧
  ((placeOk p = true ∧ t = .tup [.agg [.v (.int .i64 p.people), .v (storyV p.story), .nil], .v (.bool true)]) ∨ (placeOk p = false ∧ t = .tup [.agg [.v (.int .i64 0), .nil, .nil], .v (.bool false)]))
theorem deskNewS_mut (p : Place) (hp : p.small) (hf : p.fit) (m : Mem) (n : Nat) : FnS Try.prog 13 m n [.v p.v] (NewT p m n) := by
  have hok := placeOkS_fn p ⟨by have := hp.1; omega, fun c hc => ⟨(hf.2 c hc).2, by have := hp.2 c hc; unfold Claim.small at this; omega⟩⟩
  have hk := ft (placeOk p)
  refine FnS_of (rs := [.cell 2 28, .tmp 3]) true Try.func13 rfl rfl rfl rfl (Nat.le_of_ble_eq_true rfl) ?_
  have e0 : ¬ n = n + 1 := by omega
  have e5 : ¬ n + 1 = n := by omega
  rcases hk with hk | hk
  · rw [hk] at hok
    simp -dsimp
    refine call_ hok (by simp -dsimp [e0, e5, nes]) ?_
    simp -dsimp [e0, e5, nes]
    exact ⟨by omega, fun j j1 => by simp [far j1], .inr ⟨hk, rfl⟩⟩
  · rw [hk] at hok
    simp -dsimp
    refine call_ hok (by simp -dsimp [e0, e5, nes]) ?_
    simp -dsimp [e0, e5, nes]
    refine call_ (l15Place_fn p hp) (by simp -dsimp) ?_
    simp -dsimp [e0, e5, nes]
    exact ⟨by omega, fun j j1 => by simp [far j1], .inl ⟨hk, rfl⟩⟩
/-- Nothing can be done at no desk. -/
theorem deskDoS_none (a : Deed) (m : Mem) (n : Nat) : FnS Try.prog 16 m n [.agg [.v (.int .i64 0), .v (.sl []), .nil], .v a.v] (fun t m' n' => n ≤ n' ∧ (∀ j, j < n → m' j = m j) ∧ t = .tup [.agg [.v (.int .i64 0), .nil, .nil], .v (.bool false)]) := by
  have hno : deskOk noDeskV = false := by decide
  have hok := deskOkS_fn noDeskV ⟨⟨by simp [noDeskV], by simp [noDeskV]⟩, by simp [noDeskV], by simp [noDeskV]⟩ ⟨⟨by simp [noDeskV, fit], by simp [noDeskV]⟩, by simp [noDeskV]⟩
  rw [hno] at hok
  obtain ⟨a1, a2, a3⟩ := a
  refine FnS_of (rs := [.cell 4 28, .tmp 5]) true Try.func16 rfl rfl rfl rfl (Nat.le_of_ble_eq_true rfl) ?_
  have e0 : ¬ n = n + 1 := by omega
  have e1 : ¬ n = n + 2 := by omega
  have e2 : ¬ n + 1 = n + 2 := by omega
  have e3 : ¬ n + 2 = n := by omega
  have e4 : ¬ n + 2 = n + 1 := by omega
  have e5 : ¬ n + 1 = n := by omega
  simp -dsimp [e0, e1, e2, e3, e4, e5, nes]
  refine callM_ hok (by simp -dsimp [noDeskV, e0, e1, e2, e3, e4, e5, nes]) rfl ?_
  simp -dsimp [e0, e1, e2, e3, e4, e5, nes]
  exact ⟨by omega, fun j j1 => by simp [far j1]⟩
/-- The reference's DeskDo, its row of places of before the caller's own. -/
def DoT (d : Desk) (a : Deed) (m : Mem) (n : Nat) (t : T) (m' : Mem) (n' : Nat) : Prop := n ≤ n' ∧ (∀ j, j < n → m' j = m j) ∧ ∃ st, t = .tup [.agg [.v (.int .i64 (deskDo d a).1.now.people), .v (storyV (deskDo d a).1.now.story), st], .v (.bool (deskDo d a).2)] ∧ PastT m' n n' st (deskDo d a).1.past
theorem deskDoS_mut (d : Desk) (a : Deed) (hk : deskOk d = true) (h7 : d.past.length ≤ 7) (ha : a.words.length ≤ 1000000000) (P : T) (m : Mem) (n : Nat) (hP : PastT m 0 n P d.past) :
    FnS Try.prog 16 m n [.agg [.v (.int .i64 d.now.people), .v (storyV d.now.story), P], .v a.v] (DoT d a m n) := by
  have hd := (desk_fine hk).1
  have hf := (desk_fine hk).2.1
  have hok := deskOkS_fn d hd hf
  rw [hk] at hok
  obtain ⟨hpast, hnow, hp8⟩ := deskOk_iff.1 hk
  have hcopy := l15Copy_mut d hd P
  have hPc := hP.cell
  have hPcs := hP.cells
  have e0 : ¬ n = n + 1 := by omega
  have e1 : ¬ n = n + 2 := by omega
  have e2 : ¬ n + 1 = n + 2 := by omega
  have e3 : ¬ n + 2 = n := by omega
  have e4 : ¬ n + 2 = n + 1 := by omega
  have e5 : ¬ n + 1 = n := by omega
  by_cases hb : isBack a = true ∧ d.past ≠ []
  · have hD := deskDo_back hk hb.1 hb.2
    unfold DoT
    rw [hD]
    have ha4 : a = ⟨4, 0, []⟩ := by have := hb.1; simp only [isBack, decide_eq_true_eq] at this; exact this
    subst ha4
    have hne := hb.2
    have hpos : 0 < d.past.length := List.length_pos_iff.2 hb.2
    have hpos' : (0 : Int) < d.past.length := by omega
    have p1 : (1 : Int) ≤ d.past.length := by omega
    have p2 : 1 ≤ d.past.length := by omega
    have w1 : IntKind.wrap .i64 ((d.past.length : Int) - 1) = (d.past.length : Int) - 1 := w64 (by omega) (by omega)
    clear hb
    have hP2 := hP
    rcases hP with ⟨rfl, hp0⟩ | ⟨pid, pex, rfl, hq0, hq1, hqm⟩
    · exact absurd hp0 hne
    refine FnS_of (rs := [.cell 4 28, .tmp 5]) true Try.func16 rfl rfl rfl rfl (Nat.le_of_ble_eq_true rfl) ?_
    simp -dsimp [hPc, hPcs, e0, e1, e2, e3, e4, e5, nes]
    refine callM_ hok (desk_arg hP2 (fun j hj => by simp [far hj])) rfl ?_
    simp -dsimp [hPc, hPcs, e0, e1, e2, e3, e4, e5, nes]
    refine callS_ (hcopy _ _ (hP2.keep (Nat.le_refl _) (by omega) (fun j _ hj => by simp [far hj]))) ?_
    rintro t m1 n1 ⟨hn1, hout, st, rfl, hst⟩
    have k0 := hout n (by omega)
    have k1 := hout (n + 1) (by omega)
    have k2 := hout (n + 1 + 1) (by omega)
    simp -dsimp [e0, e1, e2, e3, e4, e5, nes] at k0 k1 k2
    have f0 := far (show n < n1 by omega)
    have f1 := far (show n + 1 < n1 by omega)
    have f2 := far (show n + 1 + 1 < n1 by omega)
    have z1 : ¬ n1 = n := by omega
    have z2 : ¬ n1 = n + 1 := by omega
    have z3 : ¬ n1 = n + 1 + 1 := by omega
    rcases hst with ⟨rfl, hs0⟩ | ⟨id, ex, rfl, hi0, hi1, him⟩
    · exact absurd hs0 hne
    · have g1 := far hi1
      have hlast : d.past.length - 1 < d.past.length := by omega
      have hget := plT_get (ex := ex) hlast
      have hgl : (d.past.length - 1) * 2 + 2 ≤ (plT d.past ++ ex).length := by simp; omega
      have hgl2 : (d.past.length - 1) * 2 + 2 ≤ d.past.length * 2 + ex.length := by omega
      have l1 : ((d.past.length : Int) - 1).toNat = d.past.length - 1 := by omega
      have l3 : (0 : Int) ≤ (d.past.length : Int) - 1 := by omega
      have l4 : (d.past.length : Int) - 1 < d.past.length := by omega
      have l5 : (d.past.length : Int) - 1 ≤ d.past.length := by omega
      have l6 : d.past.length - 1 ≤ d.past.length := by omega
      have lq : d.past.getLast?.getD d.now = d.past[d.past.length - 1] := by rw [List.getLast?_eq_getElem?, List.getElem?_eq_getElem hlast]; rfl
      have y0 : ¬ id = n := by omega
      have y1 : ¬ id = n + 1 := by omega
      have y2 : ¬ id = n + 1 + 1 := by omega
      have tkd : plT d.past ++ ex = plT d.past.dropLast ++ (plT (d.past.drop (d.past.length - 1)) ++ ex) := by
        rw [List.dropLast_eq_take, ← List.append_assoc, ← plT_append, List.take_append_drop]
      rw [lq]
      generalize d.past[d.past.length - 1] = q at *
      simp -dsimp [k0, k1, k2, f0, f1, f2, z1, z2, z3, hPc, hPcs, hne, hpos, hpos', p1, p2, g1, him, w1, l1, l3, l4, l5, l6, y0, y1, y2, hget, hgl, hgl2, e0, e1, e2, e3, e4, e5, nes]
      have ho : ∀ j, j < n → m1 j = m j := fun j j1 => by have hj := hout j (by omega); simp [far j1] at hj; exact hj
      refine ⟨by omega, fun j j1 => ?_, .inr ⟨id, _, by rw [List.length_dropLast], by omega, by omega, by simp [y2, show ¬ id = n1 by omega, him]; exact tkd⟩⟩
      simp [show ¬ j = n + 1 + 1 by omega, show ¬ j = n1 by omega, ho j j1]
  have hmade := l15Made_fn d.now a hnow ha
  obtain ⟨mf, ml, ms⟩ := made_fine d.now a hnow
  have hpo := placeOkS_fn (made d.now a) mf
  have hpt := placeTextS_fn (made d.now a) mf
  have hpn := placeTextS_fn d.now (place_fine hnow).1
  have hD : deskDo d a = if (placeOk (made d.now a) && !decide (placeTx (made d.now a) = placeTx d.now)) = true then (⟨made d.now a, d.past ++ [d.now]⟩, true) else (d, false) := by
    unfold deskDo
    rw [if_pos hk, if_neg hb]
    have e : keep8 (d.past ++ [d.now]) = d.past ++ [d.now] := by unfold keep8; rw [if_neg (by simp; omega)]
    rw [e]; rfl
  unfold DoT
  rw [hD]
  have hb' : (decide (a = ⟨4, 0, []⟩) = true ∧ d.past ≠ []) → False := hb
  have hba : isBack a = true → placeOk (made d.now a) = false ∧ d.past = [] := fun h => ⟨by rw [made_back h, zero_no], Classical.byContradiction fun h2 => hb' ⟨h, h2⟩⟩
  clear hb hb' hD
  generalize made d.now a = X at *
  generalize placeTx X = tX at *
  generalize placeTx d.now = tN at *
  have hkX := ft (placeOk X)
  generalize placeOk X = okX at *
  obtain ⟨kind, num, words⟩ := a
  have htx : tX = tN ∨ ¬ tX = tN := Classical.em _
  obtain ⟨Xp, Xs⟩ := X
  have fullb : (d.past.length + 1) * 32 ≤ 140737488355328 := by omega
  by_cases hq : kind = 4 ∧ num = 0 ∧ words = []
  · obtain ⟨rfl, rfl, rfl⟩ := hq
    obtain ⟨hokX, he⟩ := hba rfl
    subst hokX
    have hP2 := hP
    have he0 : d.past.length = 0 := by rw [he]; rfl
    rcases hP with ⟨rfl, hp0⟩ | ⟨pid, pex, rfl, hq0, hq1, hqm⟩
    · refine FnS_of (rs := [.cell 4 28, .tmp 5]) true Try.func16 rfl rfl rfl rfl (Nat.le_of_ble_eq_true rfl) ?_
      simp -dsimp [hPc, hPcs, e0, e1, e2, e3, e4, e5, nes]
      refine callM_ hok (desk_arg hP2 (fun j hj => by simp [far hj])) rfl ?_
      simp -dsimp [hPc, hPcs, e0, e1, e2, e3, e4, e5, nes]
      refine callS_ (hcopy _ _ (hP2.keep (Nat.le_refl _) (by omega) (fun j _ hj => by simp [far hj]))) ?_
      rintro t m1 n1 ⟨hn1, hout, st, rfl, hst⟩
      have k0 := hout n (by omega)
      have k1 := hout (n + 1) (by omega)
      have k2 := hout (n + 1 + 1) (by omega)
      simp -dsimp [e0, e1, e2, e3, e4, e5, nes] at k0 k1 k2
      have f0 := far (show n < n1 by omega)
      have f1 := far (show n + 1 < n1 by omega)
      have f2 := far (show n + 1 + 1 < n1 by omega)
      have z1 : ¬ n1 = n := by omega
      have z2 : ¬ n1 = n + 1 := by omega
      have z3 : ¬ n1 = n + 1 + 1 := by omega
      have hc := hst.cell
      have hcs := hst.cells
      simp -dsimp [k0, k1, k2, f0, f1, f2, z1, z2, z3, he, he0, hPc, hPcs, hc, hcs, e0, e1, e2, e3, e4, e5, nes]
      refine call_ hmade (by simp -dsimp) ?_
      simp -dsimp [k0, k1, k2, f0, f1, f2, z1, z2, z3, he, he0, hPc, hPcs, hc, hcs, e0, e1, e2, e3, e4, e5, nes]
      refine twp_draw [0, 1, 2, 3, 4, 6, 7, 5, 8, 9, 10] [n, n1 + 1 + 1] (List.replicate 11 [0, 1]) (List.replicate 11 [0, 1]) (by kernel_rfl) (by kernel_rfl) (by kernel_rfl) (by kernel_rfl) ?_
      simp -dsimp [k0, k1, k2, f0, f1, f2, z1, z2, z3, he, he0, hPc, hPcs, hc, hcs, e0, e1, e2, e3, e4, e5, nes]
      refine call_ hpo (by simp -dsimp) ?_
      simp -dsimp [k0, k1, k2, f0, f1, f2, z1, z2, z3, he, he0, hPc, hPcs, hc, hcs, e0, e1, e2, e3, e4, e5, nes]
      have ho : ∀ j, j < n → m1 j = m j := fun j j1 => by have hj := hout j (by omega); simp [far j1] at hj; exact hj
      refine ⟨by omega, fun j j1 => ?_, PastT.keep (lo := n + 1 + 1 + 1) (hi := n1) (he ▸ hst) (by omega) (by omega) (fun j j1 j2 => by simp [show ¬ j = n + 1 + 1 by omega, show ¬ j = n1 by omega, show ¬ j = n1 + 1 + 1 by omega])⟩
      simp [show ¬ j = n + 1 + 1 by omega, show ¬ j = n1 by omega, show ¬ j = n1 + 1 + 1 by omega, ho j j1]
    · refine FnS_of (rs := [.cell 4 28, .tmp 5]) true Try.func16 rfl rfl rfl rfl (Nat.le_of_ble_eq_true rfl) ?_
      simp -dsimp [hPc, hPcs, e0, e1, e2, e3, e4, e5, nes]
      refine callM_ hok (desk_arg hP2 (fun j hj => by simp [far hj])) rfl ?_
      simp -dsimp [hPc, hPcs, e0, e1, e2, e3, e4, e5, nes]
      refine callS_ (hcopy _ _ (hP2.keep (Nat.le_refl _) (by omega) (fun j _ hj => by simp [far hj]))) ?_
      rintro t m1 n1 ⟨hn1, hout, st, rfl, hst⟩
      have k0 := hout n (by omega)
      have k1 := hout (n + 1) (by omega)
      have k2 := hout (n + 1 + 1) (by omega)
      simp -dsimp [e0, e1, e2, e3, e4, e5, nes] at k0 k1 k2
      have f0 := far (show n < n1 by omega)
      have f1 := far (show n + 1 < n1 by omega)
      have f2 := far (show n + 1 + 1 < n1 by omega)
      have z1 : ¬ n1 = n := by omega
      have z2 : ¬ n1 = n + 1 := by omega
      have z3 : ¬ n1 = n + 1 + 1 := by omega
      have hc := hst.cell
      have hcs := hst.cells
      simp -dsimp [k0, k1, k2, f0, f1, f2, z1, z2, z3, he, he0, hPc, hPcs, hc, hcs, e0, e1, e2, e3, e4, e5, nes]
      refine call_ hmade (by simp -dsimp) ?_
      simp -dsimp [k0, k1, k2, f0, f1, f2, z1, z2, z3, he, he0, hPc, hPcs, hc, hcs, e0, e1, e2, e3, e4, e5, nes]
      refine twp_draw [0, 1, 2, 3, 4, 6, 7, 5, 8, 9, 10] [n, n1 + 1 + 1] (List.replicate 11 [0, 1]) (List.replicate 11 [0, 1]) (by kernel_rfl) (by kernel_rfl) (by kernel_rfl) (by kernel_rfl) ?_
      simp -dsimp [k0, k1, k2, f0, f1, f2, z1, z2, z3, he, he0, hPc, hPcs, hc, hcs, e0, e1, e2, e3, e4, e5, nes]
      refine call_ hpo (by simp -dsimp) ?_
      simp -dsimp [k0, k1, k2, f0, f1, f2, z1, z2, z3, he, he0, hPc, hPcs, hc, hcs, e0, e1, e2, e3, e4, e5, nes]
      have ho : ∀ j, j < n → m1 j = m j := fun j j1 => by have hj := hout j (by omega); simp [far j1] at hj; exact hj
      refine ⟨by omega, fun j j1 => ?_, PastT.keep (lo := n + 1 + 1 + 1) (hi := n1) (he ▸ hst) (by omega) (by omega) (fun j j1 j2 => by simp [show ¬ j = n + 1 + 1 by omega, show ¬ j = n1 by omega, show ¬ j = n1 + 1 + 1 by omega])⟩
      simp [show ¬ j = n + 1 + 1 by omega, show ¬ j = n1 by omega, show ¬ j = n1 + 1 + 1 by omega, ho j j1]
  · have hbb : (decide (kind = 4) && (decide (num = 0) && decide (words = []))) = false := by
      rw [Bool.eq_false_iff]; intro h; simp at h; exact hq h
    refine FnS_of (rs := [.cell 4 28, .tmp 5]) true Try.func16 rfl rfl rfl rfl (Nat.le_of_ble_eq_true rfl) ?_
    simp -dsimp [hPc, hPcs, e0, e1, e2, e3, e4, e5, nes]
    refine callM_ hok (desk_arg hP (fun j hj => by simp [far hj])) rfl ?_
    simp -dsimp [hPc, hPcs, e0, e1, e2, e3, e4, e5, nes]
    refine callS_ (hcopy _ _ (hP.keep (Nat.le_refl _) (by omega) (fun j _ hj => by simp [far hj]))) ?_
    rintro t m1 n1 ⟨hn1, hout, st, rfl, hst⟩
    have k0 := hout n (by omega)
    have k1 := hout (n + 1) (by omega)
    have k2 := hout (n + 1 + 1) (by omega)
    simp -dsimp [e0, e1, e2, e3, e4, e5, nes] at k0 k1 k2
    have f0 := far (show n < n1 by omega)
    have f1 := far (show n + 1 < n1 by omega)
    have f2 := far (show n + 1 + 1 < n1 by omega)
    have z1 : ¬ n1 = n := by omega
    have z2 : ¬ n1 = n + 1 := by omega
    have z3 : ¬ n1 = n + 1 + 1 := by omega
    have hc := hst.cell
    have hcs := hst.cells
    simp -dsimp [k0, k1, k2, f0, f1, f2, z1, z2, z3, hbb, hPc, hPcs, hc, hcs, e0, e1, e2, e3, e4, e5, nes]
    refine call_ hmade (by simp -dsimp) ?_
    simp -dsimp [k0, k1, k2, f0, f1, f2, z1, z2, z3, hPc, hPcs, hc, hcs, e0, e1, e2, e3, e4, e5, nes]
    refine twp_draw [0, 1, 2, 3, 4, 6, 7, 5, 8, 9, 10] [n, n1 + 1 + 1] (List.replicate 11 [0, 1]) (List.replicate 11 [0, 1]) (by kernel_rfl) (by kernel_rfl) (by kernel_rfl) (by kernel_rfl) ?_
    simp -dsimp [k0, k1, k2, f0, f1, f2, z1, z2, z3, hPc, hPcs, hc, hcs, e0, e1, e2, e3, e4, e5, nes]
    refine call_ hpo (by simp -dsimp) ?_
    rcases hkX with rfl | rfl
    · simp -dsimp [k0, k1, k2, f0, f1, f2, z1, z2, z3, hPc, hPcs, hc, hcs, e0, e1, e2, e3, e4, e5, nes]
      have ho : ∀ j, j < n → m1 j = m j := fun j j1 => by have hj := hout j (by omega); simp [far j1] at hj; exact hj
      refine ⟨by omega, fun j j1 => ?_, PastT.keep (lo := n + 1 + 1 + 1) (hi := n1) hst (by omega) (by omega) (fun j j1 j2 => by simp [show ¬ j = n + 1 + 1 by omega, show ¬ j = n1 by omega, show ¬ j = n1 + 1 + 1 by omega])⟩
      simp [show ¬ j = n + 1 + 1 by omega, show ¬ j = n1 by omega, show ¬ j = n1 + 1 + 1 by omega, ho j j1]
    simp -dsimp [k0, k1, k2, f0, f1, f2, z1, z2, z3, hPc, hPcs, hc, hcs, e0, e1, e2, e3, e4, e5, nes]
    refine call_ hpt (by simp -dsimp) ?_
    simp -dsimp [k0, k1, k2, f0, f1, f2, z1, z2, z3, hPc, hPcs, hc, hcs, e0, e1, e2, e3, e4, e5, nes]
    refine call_ hpn (by simp -dsimp) ?_
    rcases htx with rfl | htx
    · simp -dsimp [k0, k1, k2, f0, f1, f2, z1, z2, z3, hPc, hPcs, hc, hcs, e0, e1, e2, e3, e4, e5, nes]
      have ho : ∀ j, j < n → m1 j = m j := fun j j1 => by have hj := hout j (by omega); simp [far j1] at hj; exact hj
      refine ⟨by omega, fun j j1 => ?_, PastT.keep (lo := n + 1 + 1 + 1) (hi := n1) hst (by omega) (by omega) (fun j j1 j2 => by simp [show ¬ j = n + 1 + 1 by omega, show ¬ j = n1 by omega, show ¬ j = n1 + 1 + 1 by omega])⟩
      simp [show ¬ j = n + 1 + 1 by omega, show ¬ j = n1 by omega, show ¬ j = n1 + 1 + 1 by omega, ho j j1]
    rcases hst with ⟨rfl, hs0⟩ | ⟨id, ex, rfl, hi0, hi1, him⟩
    · simp -dsimp [k0, k1, k2, f0, f1, f2, z1, z2, z3, htx, hPc, hPcs, hc, hcs, e0, e1, e2, e3, e4, e5, nes]
      have ho : ∀ j, j < n → m1 j = m j := fun j j1 => by have hj := hout j (by omega); simp [far j1] at hj; exact hj
      refine ⟨by omega, fun j j1 => ?_, .inr ⟨n1 + 1 + 1 + 1 + 1 + 1, [], by simp [hs0], by omega, by omega, ?_⟩⟩
      · simp [show ¬ j = n + 1 + 1 by omega, show ¬ j = n1 by omega, far (show j < n1 by omega), ho j j1]
      · simp [hs0, plT, storyV, nes, f2, show ¬ n1 + 1 + 1 + 1 + 1 + 1 = n + 1 + 1 by omega, show ¬ n1 + 1 + 1 + 1 = n by omega]
    · have g1 := far hi1
      have y0 : ¬ id = n := by omega
      have y1 : ¬ id = n + 1 := by omega
      have y2 : ¬ id = n + 1 + 1 := by omega
      have e8 : ¬ (8 : Int) < (d.past.length : Int) + 1 := by omega
      have e8' : ¬ 8 < d.past.length + 1 := by omega
      simp -dsimp [k0, k1, k2, f0, f1, f2, z1, z2, z3, htx, g1, him, y0, y1, y2, Ne.symm y0, Ne.symm y1, Ne.symm y2, e8, e8', fullb, hPc, hPcs, hc, hcs, e0, e1, e2, e3, e4, e5, nes]
      have ho : ∀ j, j < n → m1 j = m j := fun j j1 => by have hj := hout j (by omega); simp [far j1] at hj; exact hj
      refine ⟨by omega, fun j j1 => ?_, .inr ⟨n1 + 1 + 1 + 1 + 1 + 1, [], by simp, by omega, by omega, ?_⟩⟩
      · simp [show ¬ j = n + 1 + 1 by omega, show ¬ j = n1 by omega, show ¬ j = id by omega, far (show j < n1 by omega), ho j j1]
      · rw [plT_append]; simp [plT, storyV, nes, f2, show ¬ n1 + 1 + 1 + 1 + 1 + 1 = n + 1 + 1 by omega, show ¬ n1 + 1 + 1 + 1 = n by omega]
end TL

/- Drawn deeds. -/
set_option linter.unusedSimpArgs false
set_option linter.unusedVariables false
set_option maxRecDepth 100000
set_option maxHeartbeats 4000000
set_option pp.maxSteps 1500
namespace TL
open Go Go.Proofs
attribute [local simp] marksV storyV codeV Claim.v Place.v Deed.v
def SomeDeed (x : V) : Prop := ∃ a : Deed, a.words.length ≤ 200 ∧ x = a.v
theorem deed_kinds : ∃ vs : List V, vs = [.int .i64 0, .int .i64 0, .int .i64 0, .int .i64 1, .int .i64 2, .int .i64 3, .int .i64 4] ∧ ∀ r : Int, 0 ≤ r → r < 7 → ∃ k : Int, 0 ≤ k ∧ k ≤ 4 ∧ vs[r.toNat]? = some (.int .i64 k) := by
  refine ⟨_, rfl, fun r h0 h6 => ?_⟩
  have : r = 0 ∨ r = 1 ∨ r = 2 ∨ r = 3 ∨ r = 4 ∨ r = 5 ∨ r = 6 := by omega
  rcases this with rfl | rfl | rfl | rfl | rfl | rfl | rfl
  · exact ⟨0, by omega, by omega, rfl⟩
  · exact ⟨0, by omega, by omega, rfl⟩
  · exact ⟨0, by omega, by omega, rfl⟩
  · exact ⟨1, by omega, by omega, rfl⟩
  · exact ⟨2, by omega, by omega, rfl⟩
  · exact ⟨3, by omega, by omega, rfl⟩
  · exact ⟨4, by omega, by omega, rfl⟩
def DI (m0 : Mem) (n0 rid : Nat) (bs : List UInt8) (p : Nat) (q : Place) (s : S) : Prop := ∃ (kind : Int) (id p' : Nat), s.tm 0 = .ptr rid 0 ∧ s.tm 3 = .ptr n0 0 ∧ s.tm 4 = .ptr (n0 + 1) 0 ∧ s.tm 5 = .ptr id 0 ∧ s.mu = false ∧ n0 + 1 < id ∧ id < s.n ∧
  s.m n0 = some (.box 25 2 [.v (.int .i64 q.people), .v (storyV q.story)]) ∧ s.m (n0 + 1) = some (.box 44 3 [.v (.int .i64 0), .v (.int .i64 0), .v (.str [])]) ∧
  s.m id = some (.box 44 3 [.v (.int .i64 kind), .v (.int .i64 0), .v (.str [])]) ∧ s.m rid = some (rdB bs p') ∧ p ≤ p' ∧ p' ≤ p + 2 ∧ (∀ j, j < n0 → j ≠ rid → s.m j = m0 j)
def DI2 (m0 : Mem) (n0 rid : Nat) (bs : List UInt8) (p : Nat) (s : S) : Prop := ∃ (kind num : Int) (words : List UInt8) (id p' : Nat), s.tm 0 = .ptr rid 0 ∧ s.tm 4 = .ptr (n0 + 1) 0 ∧ s.tm 5 = .ptr id 0 ∧ s.mu = false ∧ n0 + 1 < id ∧ id < s.n ∧
  s.m (n0 + 1) = some (.box 44 3 [.v (.int .i64 0), .v (.int .i64 0), .v (.str [])]) ∧
  s.m id = some (.box 44 3 [.v (.int .i64 kind), .v (.int .i64 num), .v (.str words)]) ∧ words.length ≤ 100 ∧ s.m rid = some (rdB bs p') ∧ p ≤ p' ∧ p' ≤ p + 60 ∧ (∀ j, j < n0 → j ≠ rid → s.m j = m0 j)
theorem sixty {r : Int} (h0 : 0 ≤ r) (h : r < 60) : ∃ k : Int, r.tdiv 59 = k ∧ 0 ≤ k ∧ k ≤ 1 := ⟨_, rfl, by rw [Int.tdiv_eq_ediv_of_nonneg h0]; omega, by rw [Int.tdiv_eq_ediv_of_nonneg h0]; omega⟩
theorem deed_zX (bs : List UInt8) (p : Nat) (hp : p < 600000000) (q : Place) (hq : q.story.length ≤ 1000) (X : T) (hX : X.cells = [.v (.int .i64 q.people), .v (storyV q.story)]) (m : Mem) (n rid : Nat) (hr : rid < n) (hm : m rid = some (rdB bs p)) :
    FnS Try.prog 17 m n [.ptr rid 0, X] (Draws SomeDeed 100 m n rid bs p) := by
  refine Draws_of hr ⟨_, Try.func17, rfl, rfl⟩ fun hfr => ?_
  obtain ⟨vs, hvs, hel⟩ := deed_kinds
  refine FnS_of (rs := [.cell 4 44]) false Try.func17 rfl rfl rfl rfl (Nat.le_of_ble_eq_true rfl) ?_
  have f1 := far hr
  simp -dsimp [hX]
  refine twp_cutQ (DI m n rid bs p q) ?_ ?_
  · refine twp_drawT (.run [1, 5, 1000] (.alt (.run [11, 2, 3, 4, 6, 7, 8, 9, 10, 12] .done) (.run [2, 3, 4] (.alt (.run [11, 6, 7, 8, 9, 10, 12] .done) (.run [6, 7, 8, 9, 10, 11, 12] .done))))) [] (List.replicate 13 []) (List.replicate 13 []) (by kernel_rfl) (by kernel_rfl) (by kernel_rfl) (by kernel_rfl) ?_
    simp -dsimp [List.range_succ, f1]
    refine bld_ [(0, .int .i64 0), (1, .int .i64 0), (2, .int .i64 0), (3, .int .i64 1), (4, .int .i64 2), (5, .int .i64 3), (6, .int .i64 4)] 3 vs (by simp -dsimp) (by rw [hvs]; simp -dsimp) ?_
    clear hvs
    simp -dsimp [List.range_succ, f1]
    refine ordT_both ?_ ?_
    · simp -dsimp [List.range_succ, f1]
      refine callS_ (pick_at bs p (by omega) _ _ _ rid (by simp [hm, f1])) ?_
      rintro t m1 n1 ⟨hn1, ⟨r, rfl, hr0, hr1⟩, rfl⟩
      have hr1 := hr1 (by decide)
      refine (hel r hr0 hr1).elim fun k hk => ?_
      have k0 := hk.1
      have k4 := hk.2.1
      have kg := hk.2.2
      have g1 := far (show rid < n1 by omega)
      simp -dsimp [List.range_succ, f1, hr0, kg]
      refine callS_ (pick_at bs (p + 1) (by omega) _ _ _ rid (by simp [f1, g1])) ?_
      rintro t m2 n2 ⟨hn2, ⟨r2, rfl, hr20, hr21⟩, rfl⟩
      have hr21 := hr21 (by decide)
      refine (sixty hr20 hr21).elim fun k2 hk2 => ?_
      have e2 := hk2.1
      have e20 := hk2.2.1
      have e21 := hk2.2.2
      have w1 : IntKind.wrap .i64 k2 = k2 := w64 (by omega) (by omega)
      have w2 : IntKind.wrap .i64 (k2 * 5) = k2 * 5 := w64 (by omega) (by omega)
      have w3 : IntKind.wrap .i64 (k + k2 * 5) = k + k2 * 5 := w64 (by omega) (by omega)
      have g2 := far (show rid < n2 by omega)
      have g3 := far (show n < n2 by omega)
      have g4 := far (show n + 1 < n2 by omega)
      have g5 := far (show n < n1 by omega)
      have g6 := far (show n + 1 < n1 by omega)
      have g7 := far (show n < n + 1 + 1 by omega)
      have g8 := far (show n + 1 < n + 1 + 1 by omega)
      simp -dsimp [List.range_succ, f1, g1, g2, g3, g4, e2, w1, w2, w3]
      refine ⟨k + k2 * 5, n + 1 + 1, p + 1 + 1, by simp -dsimp, by simp -dsimp, by simp -dsimp, by simp -dsimp, by simp -dsimp, by omega, by simp -dsimp <;> omega, by simp -dsimp [f1, g1, g2, g3, g4, g5, g6, g7, g8], by simp -dsimp [f1, g1, g2, g3, g4, g5, g6, g7, g8], by simp -dsimp [f1, g1, g2, g3, g4, g5, g6, g7, g8], by simp -dsimp [f1, g1, g2, g3, g4, g5, g6, g7, g8], by omega, by omega, fun j j1 j2 => ?_⟩
      simp -dsimp [far j1, far (show j < n1 by omega), far (show j < n2 by omega), j2, Ne.symm j2]
    · simp -dsimp [List.range_succ, f1]
      refine callS_ (pick_at bs p (by omega) _ _ _ rid (by simp [hm, f1])) ?_
      rintro t m1 n1 ⟨hn1, ⟨r, rfl, hr0, hr1⟩, rfl⟩
      have hr1 := hr1 (by decide)
      refine (hel r hr0 hr1).elim fun k hk => ?_
      have k0 := hk.1
      have k4 := hk.2.1
      have kg := hk.2.2
      have g1 := far (show rid < n1 by omega)
      simp -dsimp [List.range_succ, f1, hr0, kg]
      refine ordT_both ?_ ?_
      · simp -dsimp [List.range_succ, f1, g1]
        refine callS_ (pick_at bs (p + 1) (by omega) _ _ _ rid (by simp [f1, g1])) ?_
        rintro t m2 n2 ⟨hn2, ⟨r2, rfl, hr20, hr21⟩, rfl⟩
        have hr21 := hr21 (by decide)
        refine (sixty hr20 hr21).elim fun k2 hk2 => ?_
        have e2 := hk2.1
        have e20 := hk2.2.1
        have e21 := hk2.2.2
        have w1 : IntKind.wrap .i64 k2 = k2 := w64 (by omega) (by omega)
        have w2 : IntKind.wrap .i64 (k2 * 5) = k2 * 5 := w64 (by omega) (by omega)
        have w3 : IntKind.wrap .i64 (k + k2 * 5) = k + k2 * 5 := w64 (by omega) (by omega)
        have g2 := far (show rid < n2 by omega)
        have g3 := far (show n < n2 by omega)
        have g4 := far (show n + 1 < n2 by omega)
        have g5 := far (show n < n1 by omega)
        have g6 := far (show n + 1 < n1 by omega)
        have g7 := far (show n < n + 1 + 1 by omega)
        have g8 := far (show n + 1 < n + 1 + 1 by omega)
        simp -dsimp [List.range_succ, f1, g1, g2, g3, g4, e2, w1, w2, w3]
        refine ⟨k + k2 * 5, n1, p + 1 + 1, by simp -dsimp, by simp -dsimp, by simp -dsimp, by simp -dsimp, by simp -dsimp, by omega, by simp -dsimp <;> omega, by simp -dsimp [f1, g1, g2, g3, g4, g5, g6, g7, g8], by simp -dsimp [f1, g1, g2, g3, g4, g5, g6, g7, g8], by simp -dsimp [f1, g1, g2, g3, g4, g5, g6, g7, g8], by simp -dsimp [f1, g1, g2, g3, g4, g5, g6, g7, g8], by omega, by omega, fun j j1 j2 => ?_⟩
        simp -dsimp [far j1, far (show j < n1 by omega), far (show j < n2 by omega), j2, Ne.symm j2]
      · simp -dsimp [List.range_succ, f1, g1]
        refine callS_ (pick_at bs (p + 1) (by omega) _ _ _ rid (by simp [f1, g1])) ?_
        rintro t m2 n2 ⟨hn2, ⟨r2, rfl, hr20, hr21⟩, rfl⟩
        have hr21 := hr21 (by decide)
        refine (sixty hr20 hr21).elim fun k2 hk2 => ?_
        have e2 := hk2.1
        have e20 := hk2.2.1
        have e21 := hk2.2.2
        have w1 : IntKind.wrap .i64 k2 = k2 := w64 (by omega) (by omega)
        have w2 : IntKind.wrap .i64 (k2 * 5) = k2 * 5 := w64 (by omega) (by omega)
        have w3 : IntKind.wrap .i64 (k + k2 * 5) = k + k2 * 5 := w64 (by omega) (by omega)
        have g2 := far (show rid < n2 by omega)
        have g3 := far (show n < n2 by omega)
        have g4 := far (show n + 1 < n2 by omega)
        have g5 := far (show n < n1 by omega)
        have g6 := far (show n + 1 < n1 by omega)
        have g7 := far (show n < n + 1 + 1 by omega)
        have g8 := far (show n + 1 < n + 1 + 1 by omega)
        simp -dsimp [List.range_succ, f1, g1, g2, g3, g4, e2, w1, w2, w3]
        refine ⟨k + k2 * 5, n2, p + 1 + 1, by simp -dsimp, by simp -dsimp, by simp -dsimp, by simp -dsimp, by simp -dsimp, by omega, by simp -dsimp <;> omega, by simp -dsimp [f1, g1, g2, g3, g4, g5, g6, g7, g8], by simp -dsimp [f1, g1, g2, g3, g4, g5, g6, g7, g8], by simp -dsimp [f1, g1, g2, g3, g4, g5, g6, g7, g8], by simp -dsimp [f1, g1, g2, g3, g4, g5, g6, g7, g8], by omega, by omega, fun j j1 j2 => ?_⟩
        simp -dsimp [far j1, far (show j < n1 by omega), far (show j < n2 by omega), j2, Ne.symm j2]
  · intro s hs
    refine twp_cut (DI2 m n rid bs p) ?_ ?_
    · obtain ⟨kind, id, p', t0, t3, t4, t5, hmu, hid0, hid, m0, m1, mid, mrd, hp0, hp2, hout⟩ := hs
      have d0 : ¬ rid = id := by omega
      have d1 : ¬ n = id := by omega
      have d2 : ¬ n + 1 = id := by omega
      have d3 : ¬ id = rid := by omega
      have e1 : ¬ n + 1 = rid := by omega
      have e2 : ¬ rid = n + 1 := by omega
      have h1 := far hid
      have h2 := far (show rid < s.n by omega)
      have h3 := far (show n < s.n by omega)
      have h4 := far (show n + 1 < s.n by omega)
      by_cases k0 : kind = 0
      · have hpe : ∃ w : Int, max q.people 1 = w ∧ 1 ≤ w := ⟨_, rfl, by omega⟩
        have hpe2 : ∃ w : Int, min (max q.people 1) 4 = w ∧ 1 ≤ w ∧ w ≤ 4 := ⟨_, rfl, by omega, by omega⟩
        refine hpe2.elim fun w hw => ?_
        have hw1 := hw.1
        have hw2 := hw.2.1
        have hw3 := hw.2.2
        simp -dsimp [t0, t3, t4, t5, mid, m0, k0, hw1, h1, h2, h3]
        refine callS_ (claim_z bs p' (by omega) w 0 (by omega) (by omega) (by omega) _ _ rid (by omega) (by simp [mrd])) ?_
        rintro t m2 n2 ⟨hn2, ⟨x, ⟨c, cl, cf, rfl⟩, rfl⟩, p3, hp3, hp4, rfl⟩
        have hct := claimTxS_fn w c ⟨cf.2, by omega⟩
        have hcl := claimTx_short w c
        have h5 := far (show id < n2 by omega)
        generalize claimTx w c = cx at *
        simp -dsimp [t0, t3, t4, t5, mid, m0, h1, h2, h3, h5, d3]
        refine call_ hct (by simp -dsimp) ?_
        simp -dsimp [t0, t3, t4, t5, mid, m0, h1, h2, h3, h5, d3]
        refine ⟨0, 0, cx, id, p3, by simp -dsimp [t0], by simp -dsimp [t4], by simp -dsimp [t5], by simp -dsimp [hmu], hid0, by simp -dsimp <;> omega, by simp -dsimp [d2, e1, e2, m1], by simp -dsimp [k0], by omega, by simp -dsimp [d0, d3], by omega, by omega, fun j j1 j2 => ?_⟩
        simp -dsimp [show ¬ j = id by omega, j2, hout j j1 j2]
      by_cases k1 : kind = 1
      · have hl1 : ∃ w : Int, max (q.story.length : Int) 1 = w ∧ 1 ≤ w ∧ w ≤ 1000 := ⟨_, rfl, by omega, by omega⟩
        refine hl1.elim fun w hw => ?_
        have hw1 := hw.1
        have hw2 := hw.2.1
        have hw3 := hw.2.2
        simp -dsimp [t0, t3, t4, t5, mid, m0, k0, k1, hw1, h1, h2, h3]
        refine callS_ (pick_at bs p' (by omega) _ _ _ rid (by simp [mrd])) ?_
        rintro t m2 n2 ⟨hn2, ⟨r, rfl, hr0, hr1⟩, rfl⟩
        simp -dsimp [t0, t3, t4, t5, mid, m0, h1, h2, h3, d3]
        refine ⟨1, r, [], id, p' + 1, by simp -dsimp [t0], by simp -dsimp [t4], by simp -dsimp [t5], by simp -dsimp [hmu], hid0, by simp -dsimp <;> omega, by simp -dsimp [d2, e1, e2, m1], by simp -dsimp [k1], by simp, by simp -dsimp [d0, d3], by omega, by omega, fun j j1 j2 => ?_⟩
        simp -dsimp [show ¬ j = id by omega, j2, hout j j1 j2]
      by_cases k2 : kind = 2
      · simp -dsimp [t0, t3, t4, t5, mid, m0, k0, k1, k2, h1, h2, h3]
        refine callS_ (pick_at bs p' (by omega) _ _ _ rid (by simp [mrd])) ?_
        rintro t m2 n2 ⟨hn2, ⟨r, rfl, hr0, hr1⟩, rfl⟩
        have hr1 := hr1 (by decide)
        have wr : IntKind.wrap .i64 (1 + r) = 1 + r := w64 (by omega) (by omega)
        simp -dsimp [t0, t3, t4, t5, mid, m0, h1, h2, h3, d3, wr]
        refine ⟨2, 1 + r, [], id, p' + 1, by simp -dsimp [t0], by simp -dsimp [t4], by simp -dsimp [t5], by simp -dsimp [hmu], hid0, by simp -dsimp <;> omega, by simp -dsimp [d2, e1, e2, m1], by simp -dsimp [k2], by simp, by simp -dsimp [d0, d3], by omega, by omega, fun j j1 j2 => ?_⟩
        simp -dsimp [show ¬ j = id by omega, j2, hout j j1 j2]
      · simp -dsimp [t0, t3, t4, t5, mid, m0, k0, k1, k2, h1, h2, h3]
        exact ⟨kind, 0, [], id, p', by simp -dsimp [t0], by simp -dsimp [t4], by simp -dsimp [t5], by simp -dsimp [hmu], hid0, by simp -dsimp [hid], by simp -dsimp [m1], by simp -dsimp [mid], by simp, by simp -dsimp [mrd], by omega, by omega, fun j j1 j2 => by simp -dsimp [hout j j1 j2]⟩
    · rintro s ⟨kind, num, words, id, p', t0, t4, t5, hmu, hid0, hid, m1, mid, hwl, mrd, hp0, hp2, hout⟩
      have d0 : ¬ rid = id := by omega
      have d1 : ¬ n + 1 = id := by omega
      have d2 : ¬ n + 1 = rid := by omega
      have d3 : ¬ id = rid := by omega
      have d4 : ¬ id = n + 1 := by omega
      have e2 : ¬ rid = n + 1 := by omega
      have h1 := far hid
      have h2 := far (show rid < s.n by omega)
      have h4 := far (show n + 1 < s.n by omega)
      simp -dsimp [t0]
      refine callS_ (odd_at bs p' (by omega) _ (by omega) _ _ rid (by simp [mrd])) ?_
      rintro t m2 n2 ⟨hn2, ⟨b, rfl, _⟩, p3, hp3, hp4, rfl⟩
      cases b with
      | false =>
        simp -dsimp [t0, t4, t5, mid, m1, d0, d1, d2, d3, d4]
        refine ⟨by omega, ⟨_, by simp, ⟨kind, num, words⟩, by simp only; omega, rfl⟩, fun j j1 j2 => ?_, p3, by omega, by omega, by simp [d0, d1, d2, d3, d4, e2, h1, h2, h4]⟩
        simp [far j1, far (show j < s.n by omega), far (show j < n2 by omega), show ¬ j = id by omega, show ¬ j = n + 1 by omega, j2, hout j j1 j2]
      | true =>
        have h5 := far (show id < n2 by omega)
        have h6 := far (show rid < n2 by omega)
        have h7 := far (show n + 1 < n2 by omega)
        simp -dsimp [t0, t4, t5, mid, m1, d0, d1, d2, d3, d4]
        refine callS_ (pick_at bs p3 (by omega) _ _ _ rid (by simp)) ?_
        rintro t m3 n3 ⟨hn3, ⟨r, rfl, hr0, hr1⟩, rfl⟩
        have hr1 := hr1 (by decide)
        have g5 := far (show id < n3 by omega)
        have g6 := far (show rid < n3 by omega)
        have g7 := far (show n + 1 < n3 by omega)
        have hr4 : r = 0 ∨ r = 1 := by omega
        rcases hr4 with rfl | rfl
        · simp -dsimp [t0, t4, t5, mid, m1, hmu, d0, d1, d2, d3, d4, g5, g6, g7]
          refine callS_ (pick_at bs (p3 + 1) (by omega) _ _ _ rid (by simp [g6])) ?_
          rintro t m4 n4 ⟨hn4, ⟨r2, rfl, hr20, hr21⟩, rfl⟩
          have hr21 := hr21 (by decide)
          have hr5 : r2 = 0 ∨ r2 = 1 := by omega
          have g8 := far (show n3 < n4 by omega)
          rcases hr5 with rfl | rfl
          · simp -dsimp [t0, t4, t5, mid, m1, hmu, d0, d1, d2, d3, d4, g5, g6, g7, g8]
            refine ⟨by omega, ⟨_, by simp, ⟨kind, -1, words⟩, by simp only; omega, rfl⟩, fun j j1 j2 => ?_, p3 + 1 + 1, by omega, by omega, by simp [d0, d1, d2, d3, d4, e2, h1, h2, h4, g6]⟩
            simp [far j1, far (show j < s.n by omega), far (show j < n2 by omega), far (show j < n3 by omega), show ¬ j = id by omega, show ¬ j = n + 1 by omega, j2, hout j j1 j2]
          · simp -dsimp [t0, t4, t5, mid, m1, hmu, d0, d1, d2, d3, d4, g5, g6, g7, g8]
            refine ⟨by omega, ⟨_, by simp, ⟨kind, 100, words⟩, by simp only; omega, rfl⟩, fun j j1 j2 => ?_, p3 + 1 + 1, by omega, by omega, by simp [d0, d1, d2, d3, d4, e2, h1, h2, h4, g6]⟩
            simp [far j1, far (show j < s.n by omega), far (show j < n2 by omega), far (show j < n3 by omega), show ¬ j = id by omega, show ¬ j = n + 1 by omega, j2, hout j j1 j2]
        · simp -dsimp [t0, t4, t5, mid, m1, hmu, d0, d1, d2, d3, d4, g5, g6, g7]
          refine callS_ (pick_at bs (p3 + 1) (by omega) _ _ _ rid (by simp [g6])) ?_
          rintro t m4 n4 ⟨hn4, ⟨r2, rfl, hr20, hr21⟩, rfl⟩
          have hr21 := hr21 (by decide)
          have hr5 : r2 = 0 ∨ r2 = 1 ∨ r2 = 2 ∨ r2 = 3 := by omega
          have g8 := far (show n3 < n4 by omega)
          rcases hr5 with rfl | rfl | rfl | rfl
          · simp -dsimp [t0, t4, t5, mid, m1, hmu, d0, d1, d2, d3, d4, g5, g6, g7, g8]
            refine ⟨by omega, ⟨_, by simp, ⟨kind, num, [97, 58, 40, 98, 41]⟩, by simp, rfl⟩, fun j j1 j2 => ?_, p3 + 1 + 1, by omega, by omega, by simp [d0, d1, d2, d3, d4, e2, h1, h2, h4, g6]⟩
            simp [far j1, far (show j < s.n by omega), far (show j < n2 by omega), far (show j < n3 by omega), show ¬ j = id by omega, show ¬ j = n + 1 by omega, j2, hout j j1 j2]
          · simp -dsimp [t0, t4, t5, mid, m1, hmu, d0, d1, d2, d3, d4, g5, g6, g7, g8]
            refine ⟨by omega, ⟨_, by simp, ⟨kind, num, [101, 58, 97]⟩, by simp, rfl⟩, fun j j1 j2 => ?_, p3 + 1 + 1, by omega, by omega, by simp [d0, d1, d2, d3, d4, e2, h1, h2, h4, g6]⟩
            simp [far j1, far (show j < s.n by omega), far (show j < n2 by omega), far (show j < n3 by omega), show ¬ j = id by omega, show ¬ j = n + 1 by omega, j2, hout j j1 j2]
          · simp -dsimp [t0, t4, t5, mid, m1, hmu, d0, d1, d2, d3, d4, g5, g6, g7, g8]
            refine ⟨by omega, ⟨_, by simp, ⟨kind, num, [97, 32, 97]⟩, by simp, rfl⟩, fun j j1 j2 => ?_, p3 + 1 + 1, by omega, by omega, by simp [d0, d1, d2, d3, d4, e2, h1, h2, h4, g6]⟩
            simp [far j1, far (show j < s.n by omega), far (show j < n2 by omega), far (show j < n3 by omega), show ¬ j = id by omega, show ¬ j = n + 1 by omega, j2, hout j j1 j2]
          · simp -dsimp [t0, t4, t5, mid, m1, hmu, d0, d1, d2, d3, d4, g5, g6, g7, g8]
            refine ⟨by omega, ⟨_, by simp, ⟨kind, num, [97, 58]⟩, by simp, rfl⟩, fun j j1 j2 => ?_, p3 + 1 + 1, by omega, by omega, by simp [d0, d1, d2, d3, d4, e2, h1, h2, h4, g6]⟩
            simp [far j1, far (show j < s.n by omega), far (show j < n2 by omega), far (show j < n3 by omega), show ¬ j = id by omega, show ¬ j = n + 1 by omega, j2, hout j j1 j2]
theorem deed_z (bs : List UInt8) (p : Nat) (hp : p < 600000000) (q : Place) (hq : q.story.length ≤ 1000) (m : Mem) (n rid : Nat) (hr : rid < n) (hm : m rid = some (rdB bs p)) :
    FnS Try.prog 17 m n [.ptr rid 0, .v q.v] (Draws SomeDeed 100 m n rid bs p) := deed_zX bs p hp q hq _ rfl m n rid hr hm
theorem deed_zA (bs : List UInt8) (p : Nat) (hp : p < 600000000) (q : Place) (hq : q.story.length ≤ 1000) (m : Mem) (n rid : Nat) (hr : rid < n) (hm : m rid = some (rdB bs p)) :
    FnS Try.prog 17 m n [.ptr rid 0, .agg [.v (.int .i64 q.people), .v (storyV q.story)]] (Draws SomeDeed 100 m n rid bs p) := deed_zX bs p hp q hq _ rfl m n rid hr hm
end TL

/- The exact law of the texts of deeds. -/
set_option linter.unusedSimpArgs false
set_option linter.unusedVariables false
set_option maxRecDepth 100000
set_option maxHeartbeats 4000000
set_option pp.maxSteps 1500
namespace TL
open Go Go.Proofs
attribute [local simp] marksV storyV codeV Claim.v Place.v Deed.v
def Deed.fit (a : Deed) : Prop := TL.fit a.kind ∧ TL.fit a.num ∧ a.words.length ≤ 9223372036854775807
end TL

/- Journals. -/
set_option linter.unusedSimpArgs false
set_option linter.unusedVariables false
set_option maxRecDepth 100000
set_option maxHeartbeats 4000000
set_option pp.maxSteps 1500
namespace TL
open Go Go.Proofs
attribute [local simp] marksV storyV codeV Claim.v Place.v Deed.v
def jr (l : List Deed) (f : Deed → List UInt8) : List UInt8 := (l.map fun a => f a ++ [10]).flatten
noncomputable def journalTx (l : List Deed) : List UInt8 := by
  classical exact if ∃ a ∈ l, deedTx a = [] then [] else jr l deedTx
theorem jr_take {l : List Deed} {f : Deed → List UInt8} {i : Nat} (h : i < l.length) : jr (l.take (i + 1)) f = jr (l.take i) f ++ f l[i] ++ [10] := by
  unfold jr; rw [List.take_succ_eq_append_getElem h, List.map_append, List.flatten_append]; simp
theorem jr_len (l : List Deed) : (jr l deedTx).length ≤ 41 * l.length := by
  induction l with
  | nil => simp [jr]
  | cons a l ih =>
    have := deedTx_len a
    simp only [jr, List.map_cons, List.flatten_cons, List.length_append, List.length_cons, List.length_nil] at ih ⊢; omega
theorem journalTx_none {l : List Deed} {a : Deed} (h : a ∈ l) (h0 : deedTx a = []) : journalTx l = [] := by
  unfold journalTx; exact if_pos ⟨a, h, h0⟩
theorem journalTx_all {l : List Deed} (h : ∀ a ∈ l, deedTx a ≠ []) : journalTx l = jr l deedTx := by
  unfold journalTx; exact if_neg fun ⟨a, ha, h0⟩ => h a ha h0
def Ijt (l : List Deed) (e : Nat) (s : S) : Prop := ∃ i : Nat, s.tm 7 = .v (.sl (l.map Deed.v)) ∧ s.tm 8 = .v (.int .i64 l.length) ∧ s.tm 9 = .v (.int .i64 i) ∧ s.tm 3 = .v (.str (jr (l.take i) deedTx)) ∧ i ≤ l.length ∧ (∀ a ∈ l.take i, deedTx a ≠ []) ∧ (e = 1 → i = l.length)
theorem take_next {l : List Deed} {i : Nat} (h : i < l.length) (ha : ∀ a ∈ l.take i, deedTx a ≠ []) (h0 : deedTx l[i] ≠ []) : ∀ a ∈ l.take (i + 1), deedTx a ≠ [] := fun a hx => by
  rw [List.take_succ_eq_append_getElem h] at hx
  rcases List.mem_append.1 hx with hx | hx
  · exact ha a hx
  · cases List.mem_singleton.1 hx; exact h0
def Isjt (l : List Deed) (e : Nat) (s : S) : Prop := ∃ i : Nat, s.tm 0 = .v (.sl (l.map Deed.v)) ∧ s.tm 4 = .v (.int .i64 i) ∧ s.tm 3 = .v (.str (jr (l.take i) deedTx)) ∧ i ≤ l.length ∧ (∀ a ∈ l.take i, deedTx a ≠ []) ∧ (e = 1 → i = l.length)
/-! Rows of deeds. -/
theorem elemOk_deed : ElemOk Deed.v 3 := fun a => ⟨rfl, by simp, by simp⟩
theorem cellsT_deed (a : Deed) : cellsT a.v = [.v (.int .i64 a.kind), .v (.int .i64 a.num), .v (.str a.words)] := rfl
def ItoDeedS (l : List Deed) (a : Nat) (s : S) : Prop := ∃ i : Nat, s.tm 0 = .v (.sl (l.map Deed.v)) ∧ s.tm 3 = .sv 0 0 l.length ∧ s.tm 4 = .v (.int .i64 i) ∧ i ≤ l.length ∧ s.m 0 = some (.box 44 3 (filled Deed.v [T.v (.int .i64 0), T.v (.int .i64 0), T.v (.str [])] l i).flatten) ∧ (a = 1 → i = l.length)
def IeqDeedS (a b : List Deed) (e : Nat) (s : S) : Prop := ∃ i : Nat, s.tm 0 = .v (.sl (a.map Deed.v)) ∧ s.tm 1 = .v (.sl (b.map Deed.v)) ∧ s.tm 5 = .v (.int .i64 i) ∧ i ≤ a.length ∧ a.take i = b.take i ∧ (e = 1 → i = a.length)
def wordsSum (l : List Deed) : Nat := (l.map fun c => c.words.length).sum
theorem wordsSum_take {l : List Deed} {i : Nat} (h : i < l.length) : wordsSum (l.take (i + 1)) = wordsSum (l.take i) + l[i].words.length := by
  unfold wordsSum; rw [List.take_succ_eq_append_getElem h, List.map_append, List.sum_append]; rfl
theorem wordsSum_le (l : List Deed) (i : Nat) : wordsSum (l.take i) ≤ wordsSum l := by
  have e : wordsSum l = wordsSum (l.take i ++ l.drop i) := by rw [List.take_append_drop]
  rw [e]; unfold wordsSum; rw [List.map_append, List.sum_append]; omega
theorem wordsSum_mem {l : List Deed} {c : Deed} (h : c ∈ l) : c.words.length ≤ wordsSum l := by
  induction l with
  | nil => cases h
  | cons y ys ih =>
    rcases List.mem_cons.1 h with rfl | h
    · simp [wordsSum]
    · have := ih h; simp only [wordsSum, List.map_cons, List.sum_cons] at this ⊢; omega
def SZD (l : List Deed) (left : Int) (e : Nat) (s : S) : Prop := ∃ i : Nat, s.tm 0 = .v (.sl (l.map Deed.v)) ∧ s.tm 1 = .v (.int .i64 (left - l.length - wordsSum (l.take i))) ∧ s.tm 5 = .v (.int .i64 i) ∧ i ≤ l.length ∧ 0 ≤ left - l.length - wordsSum (l.take i) ∧ (e = 1 → i = l.length)
end TL

/- What is read of a journal, in plain words. -/
set_option linter.unusedSimpArgs false
set_option linter.unusedVariables false
set_option maxRecDepth 100000
set_option maxHeartbeats 4000000
set_option pp.maxSteps 1500
namespace TL
open Go Go.Proofs
theorem cut_found {s : List UInt8} {c : UInt8} (h : (Go.Lib.cut s [c]).2.2 = true) : s = (Go.Lib.cut s [c]).1 ++ c :: (Go.Lib.cut s [c]).2.1 ∧ ∀ y ∈ (Go.Lib.cut s [c]).1, y ≠ c := by
  rcases cut_first c s with h1 | ⟨x, r, rfl, h1⟩
  · rw [cut_clean h1] at h; cases h
  · rw [cut_at h1]; exact ⟨rfl, h1⟩
/-- What ReadJournal reads, and how far. -/
noncomputable def readJF : Nat → List UInt8 → List Deed × Nat
  | 0, _ => ([], 0)
  | f + 1, s => if (Go.Lib.cut s [10]).2.2 = true then match readD (Go.Lib.cut s [10]).1 with
    | some a => (a :: (readJF f (Go.Lib.cut s [10]).2.1).1, (Go.Lib.cut s [10]).1.length + 1 + (readJF f (Go.Lib.cut s [10]).2.1).2)
    | none => ([], 0) else ([], 0)
noncomputable def readJ (s : List UInt8) : List Deed × Nat := readJF (s.length + 1) s
theorem readJF_step {f : Nat} {s : List UInt8} {a : Deed} (h : (Go.Lib.cut s [10]).2.2 = true) (ha : readD (Go.Lib.cut s [10]).1 = some a) :
    readJF (f + 1) s = (a :: (readJF f (Go.Lib.cut s [10]).2.1).1, (Go.Lib.cut s [10]).1.length + 1 + (readJF f (Go.Lib.cut s [10]).2.1).2) := by
  show (if _ then _ else _) = _
  rw [if_pos h, ha]
theorem readJF_stop {f : Nat} {s : List UInt8} (h : (Go.Lib.cut s [10]).2.2 = false ∨ readD (Go.Lib.cut s [10]).1 = none) : readJF (f + 1) s = ([], 0) := by
  show (if _ then _ else _) = _
  rcases h with h | h
  · rw [if_neg (by simp [h])]
  · rw [h]; split <;> rfl
theorem readJF_jr : ∀ (l : List Deed) (f : Nat), l.length < f → (∀ a ∈ l, deedTx a ≠ []) → readJF f (jr l deedTx) = (l, (jr l deedTx).length)
  | [], f + 1, _, _ => by
    have e : jr ([] : List Deed) deedTx = [] := rfl
    rw [e, readJF_stop (.inl (by rw [cut_clean (by simp)]))]; rfl
  | a :: l, f + 1, hf, h => by
    have h1 := h a (List.mem_cons_self ..)
    have e : jr (a :: l) deedTx = deedTx a ++ 10 :: jr l deedTx := by simp [jr]
    have hc : ∀ y ∈ deedTx a, y ≠ 10 := by
      rcases deed_cases h1 with ⟨w, rfl, ⟨d, hd⟩, e⟩ | ⟨n, h0, h9, rfl, e⟩ | ⟨n, h0, h9, rfl, e⟩ | ⟨rfl, e⟩ | ⟨rfl, e⟩ <;> rw [e]
      · intro y hy
        rcases List.mem_append.1 hy with hy | hy
        · have h10 : ∀ y ∈ txSay, y ≠ (10 : UInt8) := by decide
          exact h10 y hy
        · exact (readC_clean hd y hy).2
      · intro y hy
        rcases List.mem_append.1 hy with hy | hy
        · have h10 : ∀ y ∈ txDrop, y ≠ (10 : UInt8) := by decide
          exact h10 y hy
        · exact ((good_dec h0 h9).2.2 y hy).2
      · intro y hy
        rcases List.mem_append.1 hy with hy | hy
        · have h10 : ∀ y ∈ txPeople, y ≠ (10 : UInt8) := by decide
          exact h10 y hy
        · exact ((good_dec h0 h9).2.2 y hy).2
      · decide
      · decide
    have ih := readJF_jr l f (by simp at hf; omega) fun b hb => h b (List.mem_cons_of_mem _ hb)
    have hcut := cut_at (r := jr l deedTx) hc
    rw [e, readJF_step (a := a) (by rw [hcut]) (by rw [hcut]; exact readD_some h1 rfl), hcut]
    simp only
    rw [ih]
    simp only [List.length_append, List.length_cons]
    congr 1; omega
theorem jr_long : ∀ (l : List Deed), l.length ≤ (jr l deedTx).length
  | [] => by simp
  | a :: l => by
    have := jr_long l
    have e : jr (a :: l) deedTx = deedTx a ++ 10 :: jr l deedTx := by simp [jr]
    rw [e]; simp only [List.length_append, List.length_cons]; omega
theorem readJ_jr {l : List Deed} (h : ∀ a ∈ l, deedTx a ≠ []) : readJ (jr l deedTx) = (l, (jr l deedTx).length) := readJF_jr l _ (by have := jr_long l; omega) h
end TL

/- The exact laws of the texts of places, and of new stores. -/
set_option linter.unusedSimpArgs false
set_option linter.unusedVariables false
set_option maxRecDepth 100000
set_option maxHeartbeats 4000000
set_option pp.maxSteps 1500
namespace TL
open Go Go.Proofs
attribute [local simp] marksV storyV codeV Claim.v Place.v Deed.v
structure Store where
  saved : List UInt8
  log : List UInt8
  sure : Int
  deriving DecidableEq
def Store.v (s : Store) : V := .agg [.str s.saved, .str s.log, .int .i64 s.sure]
def noStore : Store := ⟨[], [], 0⟩
noncomputable def storeNew (p : Place) : Store := if placeOk p = true then ⟨placeTx p, [], 0⟩ else noStore
theorem place_ready {p : Place} (h : p.fit ∧ p.mid) (hz : ¬ (1048576 : Int) - p.bulk < 0) : p.small ∧ p.fine := by
  have hs := Place.small_of hz
  exact ⟨hs, by have := hs.1; omega, fun c hc => ⟨(h.1.2 c hc).2, by have := hs.2 c hc; unfold Claim.small at this; omega⟩⟩
end TL

/- Stores: whether they are sound, what a crash leaves, what a sync makes. -/
set_option linter.unusedSimpArgs false
set_option linter.unusedVariables false
set_option maxRecDepth 100000
set_option maxHeartbeats 4000000
set_option pp.maxSteps 1500
namespace TL
open Go Go.Proofs
attribute [local simp] marksV storyV codeV Claim.v Place.v Store.v
noncomputable def storeOk (s : Store) : Bool := (readP s.saved).isSome && decide (s.log.length ≤ 1000) && decide (0 ≤ s.sure) && decide (s.sure ≤ s.log.length)
def Store.small (s : Store) : Prop := s.saved.length ≤ 2000000000 ∧ s.log.length ≤ 2000000000
noncomputable def crashOk (s : Store) (k : Int) : Bool := storeOk s && (decide (s.sure ≤ k) && decide (k ≤ s.log.length))
noncomputable def storeCrash (s : Store) (k : Int) : Store := if crashOk s k = true then ⟨s.saved, s.log.take k.toNat, s.sure⟩ else noStore
theorem storeOk_sure {s : Store} (h : storeOk s = true) : 0 ≤ s.sure := by
  simp only [storeOk, Bool.and_eq_true, decide_eq_true_eq] at h; exact h.1.2
noncomputable def storeSync (s : Store) : Store := if storeOk s = true then ⟨s.saved, s.log, s.log.length⟩ else noStore
/-! The exact laws. -/
def Store.bulk (s : Store) : Nat := s.saved.length + s.log.length
def Store.mid (s : Store) : Prop := s.saved.length ≤ 9223372036854775807 ∧ s.log.length ≤ 9223372036854775807
theorem store_ready {s : Store} (hz : ¬ szR 1048576 s.bulk < 0) : s.small := by
  unfold szR Store.bulk at hz
  split at hz
  · omega
  · exact ⟨by omega, by omega⟩
end TL

/- Journals and stores, in plain words. -/
set_option linter.unusedSimpArgs false
set_option linter.unusedVariables false
set_option maxRecDepth 100000
set_option maxHeartbeats 4000000
set_option pp.maxSteps 1500
namespace TL
open Go Go.Proofs
theorem deed_line {a : Deed} (h1 : deedTx a ≠ []) : ∀ y ∈ deedTx a, y ≠ 10 := by
  rcases deed_cases h1 with ⟨w, rfl, ⟨d, hd⟩, e⟩ | ⟨n, h0, h9, rfl, e⟩ | ⟨n, h0, h9, rfl, e⟩ | ⟨rfl, e⟩ | ⟨rfl, e⟩ <;> rw [e]
  · intro y hy
    rcases List.mem_append.1 hy with hy | hy
    · have h10 : ∀ y ∈ txSay, y ≠ (10 : UInt8) := by decide
      exact h10 y hy
    · exact (readC_clean hd y hy).2
  · intro y hy
    rcases List.mem_append.1 hy with hy | hy
    · have h10 : ∀ y ∈ txDrop, y ≠ (10 : UInt8) := by decide
      exact h10 y hy
    · exact ((good_dec h0 h9).2.2 y hy).2
  · intro y hy
    rcases List.mem_append.1 hy with hy | hy
    · have h10 : ∀ y ∈ txPeople, y ≠ (10 : UInt8) := by decide
      exact h10 y hy
    · exact ((good_dec h0 h9).2.2 y hy).2
  · decide
  · decide
theorem readJF_fuel : ∀ (f g : Nat) (s : List UInt8), s.length < f → s.length < g → readJF f s = readJF g s
  | 0, _, _, h, _ => absurd h (by omega)
  | f + 1, 0, _, _, h => absurd h (by omega)
  | f + 1, g + 1, s, hf, hg => by
    cases hc : (Go.Lib.cut s [10]).2.2
    · rw [readJF_stop (.inl hc), readJF_stop (.inl hc)]
    · cases hr : readD (Go.Lib.cut s [10]).1 with
      | none => rw [readJF_stop (.inr hr), readJF_stop (.inr hr)]
      | some a =>
        have hs := congrArg List.length (cut_found hc).1
        simp only [List.length_append, List.length_cons] at hs
        rw [readJF_step hc hr, readJF_step hc hr, readJF_fuel f g _ (by omega) (by omega)]
theorem readJ_clean {s : List UInt8} (h : ∀ y ∈ s, y ≠ 10) : readJ s = ([], 0) := readJF_stop (.inl (by rw [cut_clean h]))
theorem readJ_halt {x r : List UInt8} (h : ∀ y ∈ x, y ≠ 10) (ha : readD x = none) : readJ (x ++ 10 :: r) = ([], 0) := readJF_stop (.inr (by rw [cut_at h]; exact ha))
theorem readJ_step {x r : List UInt8} {a : Deed} (h : ∀ y ∈ x, y ≠ 10) (ha : readD x = some a) : readJ (x ++ 10 :: r) = (a :: (readJ r).1, x.length + 1 + (readJ r).2) := by
  have hc := cut_at (r := r) h
  unfold readJ
  rw [readJF_step (a := a) (by rw [hc]) (by rw [hc]; exact ha), hc]
  simp only
  rw [readJF_fuel _ (r.length + 1) r (by simp only [List.length_append, List.length_cons]; omega) (by omega)]
theorem jr_cons (a : Deed) (l : List Deed) : jr (a :: l) deedTx = deedTx a ++ 10 :: jr l deedTx := by simp [jr]
theorem jr_append (l k : List Deed) : jr (l ++ k) deedTx = jr l deedTx ++ jr k deedTx := by simp [jr]
theorem readJ_app {l : List Deed} (h : ∀ a ∈ l, deedTx a ≠ []) (r : List UInt8) : readJ (jr l deedTx ++ r) = (l ++ (readJ r).1, (jr l deedTx).length + (readJ r).2) := by
  induction l with
  | nil => simp [jr]
  | cons a l ih =>
    have h1 := h a (List.mem_cons_self ..)
    have ih := ih fun b hb => h b (List.mem_cons_of_mem _ hb)
    rw [jr_cons, List.append_assoc, List.cons_append, readJ_step (deed_line h1) (readD_some h1 rfl), ih]
    simp only [List.cons_append, List.length_append, List.length_cons, Prod.mk.injEq, true_and]; omega
theorem readJ_split : ∀ (n : Nat) (s : List UInt8), s.length ≤ n → (∀ a ∈ (readJ s).1, deedTx a ≠ []) ∧ ∃ r, s = jr (readJ s).1 deedTx ++ r ∧ (readJ s).2 = (jr (readJ s).1 deedTx).length := by
  intro n
  induction n with
  | zero =>
    intro s hs
    have : s = [] := List.length_eq_zero_iff.1 (by omega)
    subst this
    rw [readJ_clean (by simp)]
    exact ⟨by simp, [], by simp [jr], by simp [jr]⟩
  | succ n ih =>
    intro s hs
    rcases cut_first 10 s with h | ⟨x, r, rfl, h⟩
    · rw [readJ_clean h]; exact ⟨by simp, s, by simp [jr], by simp [jr]⟩
    · cases hr : readD x with
      | none => rw [readJ_halt h hr]; exact ⟨by simp, _, by simp [jr]; rfl, by simp [jr]⟩
      | some a =>
        obtain ⟨h1, r', h2, h3⟩ := ih r (by simp only [List.length_append, List.length_cons] at hs; omega)
        obtain ⟨hx, ha⟩ := readD_is hr
        rw [readJ_step h hr]
        refine ⟨fun b hb => ?_, r', ?_, ?_⟩
        · rcases List.mem_cons.1 hb with rfl | hb
          · rw [ha]; exact hx
          · exact h1 b hb
        · simp only
          rw [jr_cons, ha, List.append_assoc, List.cons_append, ← h2]
        · simp only
          rw [jr_cons, ha, h3]
          simp only [List.length_append, List.length_cons]; omega
theorem readJ_all (s : List UInt8) : ∀ a ∈ (readJ s).1, deedTx a ≠ [] := (readJ_split _ s (Nat.le_refl _)).1
theorem readJ_len (s : List UInt8) : (readJ s).2 = (jr (readJ s).1 deedTx).length := by
  obtain ⟨_, r, h1, h2⟩ := readJ_split _ s (Nat.le_refl _); exact h2
theorem readJ_take (s : List UInt8) : s.take (readJ s).2 = jr (readJ s).1 deedTx := by
  obtain ⟨_, r, h1, h2⟩ := readJ_split _ s (Nat.le_refl _)
  generalize readJ s = J at *
  rw [h2, h1, List.take_left]
theorem readJ_le (s : List UInt8) : (readJ s).2 ≤ s.length := by
  obtain ⟨_, r, h1, h2⟩ := readJ_split _ s (Nat.le_refl _)
  generalize readJ s = J at *
  rw [h2, h1]
  simp
theorem readJ_many (s : List UInt8) : (readJ s).1.length ≤ s.length := by
  have h1 := readJ_le s
  have h2 := readJ_len s
  have h3 := jr_long (readJ s).1
  omega
theorem readJ_full {s : List UInt8} (h : (readJ s).2 = s.length) : s = jr (readJ s).1 deedTx := by
  have := readJ_take s
  rw [h, List.take_length] at this
  exact this
theorem readJ_mend (s : List UInt8) : readJ (s.take (readJ s).2) = readJ s := by
  rw [readJ_take, readJ_jr (readJ_all s), ← readJ_len]
theorem readJ_pre : ∀ (n : Nat) (s : List UInt8), s.length ≤ n → ∀ k, (readJ (s.take k)).1 <+: (readJ s).1 := by
  intro n
  induction n with
  | zero =>
    intro s hs k
    have : s = [] := List.length_eq_zero_iff.1 (by omega)
    subst this
    simp
  | succ n ih =>
    intro s hs k
    rcases cut_first 10 s with h | ⟨x, r, rfl, h⟩
    · rw [readJ_clean (s := s.take k) fun y hy => h y (List.mem_of_mem_take hy)]; exact List.nil_prefix
    · by_cases hk : k ≤ x.length
      · rw [List.take_append_of_le_length hk, readJ_clean fun y hy => h y (List.mem_of_mem_take hy)]; exact List.nil_prefix
      · have e : (x ++ 10 :: r).take k = x ++ 10 :: r.take (k - x.length - 1) := by
          rw [List.take_append, List.take_of_length_le (by omega)]
          obtain ⟨j, hj⟩ : ∃ j, k - x.length = j + 1 := ⟨k - x.length - 1, by omega⟩
          rw [hj, List.take_succ_cons]; rfl
        rw [e]
        cases hr : readD x with
        | none => rw [readJ_halt h hr]; exact List.nil_prefix
        | some a =>
          rw [readJ_step h hr, readJ_step h hr]
          exact List.cons_prefix_cons.2 ⟨rfl, ih r (by simp only [List.length_append, List.length_cons] at hs; omega) _⟩
theorem readJ_prefix (s : List UInt8) (k : Nat) : (readJ (s.take k)).1 <+: (readJ s).1 := readJ_pre _ s (Nat.le_refl _) k
theorem readJ_mono (s : List UInt8) {k j : Nat} (h : k ≤ j) : (readJ (s.take k)).1 <+: (readJ (s.take j)).1 := by
  have e : s.take k = (s.take j).take k := by rw [List.take_take, Nat.min_eq_left h]
  rw [e]; exact readJ_prefix _ k
theorem readJ_snoc {s : List UInt8} (h : (readJ s).2 = s.length) {a : Deed} (ha : deedTx a ≠ []) : readJ (s ++ deedTx a ++ [10]) = ((readJ s).1 ++ [a], (s ++ deedTx a ++ [10]).length) := by
  have hs := readJ_full h
  have hall := readJ_all s
  generalize (readJ s).1 = l at *
  subst hs
  have e : jr l deedTx ++ deedTx a ++ [10] = jr (l ++ [a]) deedTx := by rw [jr_append, jr_cons]; simp [jr]
  rw [e]
  exact readJ_jr fun b hb => by
    rcases List.mem_append.1 hb with hb | hb
    · exact hall b hb
    · rw [List.mem_singleton.1 hb]; exact ha
/-! Stores. -/
noncomputable def placeOf (s : Store) : Place := (readP s.saved).getD ⟨0, []⟩
noncomputable def opened (s : Store) : Desk := (doAll ⟨placeOf s, []⟩ (readJ s.log).1).1
noncomputable def storeOpen (s : Store) : Desk := if storeOk s = true then opened s else noDeskV
theorem storeOk_iff {s : Store} : storeOk s = true ↔ (readP s.saved).isSome = true ∧ s.log.length ≤ 1000 ∧ 0 ≤ s.sure ∧ s.sure ≤ s.log.length := by
  simp only [storeOk, Bool.and_eq_true, decide_eq_true_eq, and_assoc]
theorem placeOf_ok {s : Store} (h : (readP s.saved).isSome = true) : placeOk (placeOf s) = true ∧ placeTx (placeOf s) = s.saved ∧ readP s.saved = some (placeOf s) := by
  unfold placeOf
  cases hr : readP s.saved with
  | none => rw [hr] at h; cases h
  | some p => exact ⟨(readP_is hr).1, (readP_is hr).2, rfl⟩
theorem desk_new {p : Place} (h : placeOk p = true) : deskOk ⟨p, []⟩ = true := deskOk_iff.2 ⟨by simp, h, by simp⟩
theorem opened_ok {s : Store} (h : storeOk s = true) : deskOk (opened s) = true := doAll_ok _ _ (desk_new (placeOf_ok (storeOk_iff.1 h).1).1)
noncomputable def actOk (s : Store) (a : Deed) : Bool := storeOk s && (decide ((readJ s.log).2 = s.log.length) && (deskDo (opened s) a).2 && !decide (deedTx a = []) && decide (s.log.length + (deedTx a).length + 1 ≤ 1000))
noncomputable def storeAct (s : Store) (a : Deed) : Store := if actOk s a = true then ⟨s.saved, s.log ++ deedTx a ++ [10], s.sure⟩ else if storeOk s = true then s else noStore
theorem actOk_iff {s : Store} {a : Deed} : actOk s a = true ↔ storeOk s = true ∧ (readJ s.log).2 = s.log.length ∧ (deskDo (opened s) a).2 = true ∧ deedTx a ≠ [] ∧ s.log.length + (deedTx a).length + 1 ≤ 1000 := by
  simp only [actOk, Bool.and_eq_true, decide_eq_true_eq, Bool.not_eq_true', decide_eq_false_iff_not, and_assoc, ne_eq]
theorem storeAct_yes {s : Store} {a : Deed} (h : actOk s a = true) : storeAct s a = ⟨s.saved, s.log ++ deedTx a ++ [10], s.sure⟩ := if_pos h
theorem storeAct_no {s : Store} {a : Deed} (h : actOk s a = false) (hs : storeOk s = true) : storeAct s a = s := by unfold storeAct; rw [if_neg (by simp [h]), if_pos hs]
theorem storeAct_out {s : Store} {a : Deed} (hs : storeOk s = false) : storeAct s a = noStore ∧ actOk s a = false := by
  have : actOk s a = false := by unfold actOk; rw [hs]; rfl
  exact ⟨by unfold storeAct; rw [if_neg (by simp [this]), if_neg (by simp [hs])], this⟩
theorem act_done {s : Store} {a : Deed} (h : actOk s a = true) : storeOk (storeAct s a) = true ∧ readJ (storeAct s a).log = ((readJ s.log).1 ++ [a], (storeAct s a).log.length) ∧ opened (storeAct s a) = (deskDo (opened s) a).1 ∧ (storeAct s a).log.length = s.log.length + (deedTx a).length + 1 ∧ (storeAct s a).sure = s.sure ∧ (storeAct s a).saved = s.saved := by
  obtain ⟨h1, h2, h3, h4, h5⟩ := actOk_iff.1 h
  obtain ⟨g1, g2, g3, g4⟩ := storeOk_iff.1 h1
  have hj := readJ_snoc h2 h4
  have hl : (s.log ++ deedTx a ++ [10]).length = s.log.length + (deedTx a).length + 1 := by simp; omega
  rw [storeAct_yes h]
  refine ⟨storeOk_iff.2 ⟨g1, ?_, g3, ?_⟩, hj, ?_, hl, rfl, rfl⟩
  · simp only; omega
  · simp only; omega
  · show (doAll ⟨placeOf s, []⟩ (readJ (s.log ++ deedTx a ++ [10])).1).1 = _
    rw [hj]
    simp only
    rw [doAll_snoc]
    exact if_pos h3
noncomputable def storeMend (s : Store) : Store := if storeOk s = true then ⟨s.saved, s.log.take (readJ s.log).2, min s.sure ((readJ s.log).2 : Nat)⟩ else noStore
theorem mend_done {s : Store} (h : storeOk s = true) : storeOk (storeMend s) = true ∧ readJ (storeMend s).log = ((readJ s.log).1, (storeMend s).log.length) ∧ opened (storeMend s) = opened s ∧ storeMend (storeMend s) = storeMend s ∧ (storeMend s).log.length ≤ s.log.length := by
  obtain ⟨g1, g2, g3, g4⟩ := storeOk_iff.1 h
  have hle := readJ_le s.log
  have hm := readJ_mend s.log
  have e : storeMend s = ⟨s.saved, s.log.take (readJ s.log).2, min s.sure ((readJ s.log).2 : Nat)⟩ := if_pos h
  have hlen : (s.log.take (readJ s.log).2).length = (readJ s.log).2 := by simp; omega
  have hok : storeOk (storeMend s) = true := by
    rw [e]
    exact storeOk_iff.2 ⟨g1, by simp only; omega, by simp only; omega, by simp only; omega⟩
  refine ⟨hok, ?_, ?_, ?_, ?_⟩
  · rw [e]; simp only; rw [hm, hlen]
  · rw [e]; unfold opened placeOf; simp only; rw [hm]
  · have e2 : storeMend (storeMend s) = ⟨(storeMend s).saved, (storeMend s).log.take (readJ (storeMend s).log).2, min (storeMend s).sure ((readJ (storeMend s).log).2 : Nat)⟩ := if_pos hok
    rw [e2, e]
    simp only
    rw [hm]
    congr 1
    · rw [List.take_take, Nat.min_self]
    · omega
  · rw [e]; simp only; omega
noncomputable def storeSave (s : Store) : Store := if storeOk s = true then ⟨placeTx (opened s).now, [], 0⟩ else noStore
theorem readJ_nil : readJ [] = ([], 0) := readJ_clean (by simp)
theorem new_done {p : Place} (h : placeOk p = true) : storeOk ⟨placeTx p, [], 0⟩ = true ∧ opened ⟨placeTx p, [], 0⟩ = ⟨p, []⟩ := by
  have hr := readP_some h rfl
  refine ⟨storeOk_iff.2 ⟨by simp only; rw [hr]; rfl, by simp, by simp, by simp⟩, ?_⟩
  unfold opened placeOf
  simp only
  rw [hr, readJ_nil]; rfl
theorem save_done {s : Store} (h : storeOk s = true) : storeOk (storeSave s) = true ∧ opened (storeSave s) = ⟨(opened s).now, []⟩ ∧ storeSave (storeSave s) = storeSave s ∧ storeSave s = ⟨placeTx (opened s).now, [], 0⟩ := by
  have e : storeSave s = ⟨placeTx (opened s).now, [], 0⟩ := if_pos h
  have hp := (deskOk_iff.1 (opened_ok h)).2.1
  obtain ⟨h1, h2⟩ := new_done hp
  refine ⟨by rw [e]; exact h1, by rw [e]; exact h2, ?_, e⟩
  rw [e]
  unfold storeSave
  rw [if_pos h1, h2]
/-- The first claim can be dropped, if there is one. -/
theorem drop_first {d : Desk} (h : deskOk d = true) : (deskDo d ⟨1, 0, []⟩).2 = decide (0 < d.now.story.length) := by
  obtain ⟨h1, h2, h3⟩ := deskOk_iff.1 h
  by_cases hl : 0 < d.now.story.length
  · have em : made d.now ⟨1, 0, []⟩ = ⟨d.now.people, d.now.story.eraseIdx 0⟩ := by
      unfold made
      rw [if_neg (by simp), if_pos ⟨rfl, rfl, by simp, by simp; omega⟩]; rfl
    have hg : goodDo d ⟨1, 0, []⟩ = true := by
      have hp : placeOk ⟨d.now.people, d.now.story.eraseIdx 0⟩ = true := storyOk_sub h2 (List.eraseIdx_sublist _ _)
      unfold goodDo
      rw [em, hp]
      simp only [Bool.true_and, Bool.not_eq_true', decide_eq_false_iff_not]
      intro hx
      have := congrArg (fun p => p.story.length) (placeTx_inj hp h2 hx)
      simp only [List.length_eraseIdx, hl, if_true] at this
      omega
    rw [deskDo_good h hg (by simp [isBack])]
    simp [hl]
  · have em : made d.now ⟨1, 0, []⟩ = ⟨0, []⟩ := by
      unfold made
      rw [if_neg (by simp), if_neg (fun h => by have h4 : (0 : Int) < d.now.story.length := h.2.2.2; omega), if_neg (by simp), if_neg (by simp)]
    have hg : goodDo d ⟨1, 0, []⟩ = false := by unfold goodDo; rw [em, zero_no]; rfl
    rw [deskDo_bad h hg (by simp [isBack])]
    simp [hl]
/-- What is done depends on the place alone, unless it is to be undone. -/
theorem deskDo_now {d e : Desk} (hd : deskOk d = true) (he : deskOk e = true) (hn : d.now = e.now) {a : Deed} (ha : a.kind ≠ 4) : (deskDo d a).2 = (deskDo e a).2 ∧ (deskDo d a).1.now = (deskDo e a).1.now := by
  have hb : isBack a = false := by
    simp only [isBack, decide_eq_false_iff_not]; rintro rfl; exact ha rfl
  have hg : goodDo d a = goodDo e a := by unfold goodDo; rw [hn]
  cases h : goodDo e a
  · rw [deskDo_bad hd (by rw [hg, h]) (by simp [hb]), deskDo_bad he h (by simp [hb])]; exact ⟨rfl, hn⟩
  · rw [deskDo_good hd (by rw [hg, h]) (by simp [hb]), deskDo_good he h (by simp [hb])]; exact ⟨rfl, by simp only; rw [hn]⟩
end TL

/- Drawn desks. -/
set_option linter.unusedSimpArgs false
set_option linter.unusedVariables false
set_option maxRecDepth 100000
set_option maxHeartbeats 4000000
set_option pp.maxSteps 1500
namespace TL
open Go Go.Proofs
attribute [local simp] marksV storyV codeV Claim.v Place.v Deed.v Desk.v
/-- A contract's result, read in another way. -/
theorem FnS.up {f : Nat} {m : Mem} {n : Nat} {args : List T} {post post' : T → Mem → Nat → Prop} (h : FnS Try.prog f m n args post)
    (hp : ∀ t m' n', post t m' n' → ∃ t', (∀ φ Z w v, RepT φ Z w t v → RepT φ Z w t' v) ∧ post' t' m' n') : FnS Try.prog f m n args post' := by
  refine ⟨h.1, fun φ Z w us hm hr => (h.2 φ Z w us hm hr).mono fun e w' hh => ?_⟩
  obtain ⟨v, φ', Z', m', n', t, rfl, h1, h2, h3, h4⟩ := hh
  obtain ⟨t', h5, h6⟩ := hp _ _ _ h4
  exact ⟨v, φ', Z', m', n', t', rfl, h1, h5 _ _ _ _ h2, h3, h6⟩
theorem nil_up {φ : Phi} {Z : Zs} {w : World} {a b c : T} {v : Value} (h : RepT φ Z w (.tup [.agg [a, .nil, b], c]) v) : RepT φ Z w (.tup [.agg [a, .v (.sl []), b], c]) v := by
  cases h with
  | tup h => cases h with
    | cons h1 h2 => cases h1 with
      | agg h3 => cases h3 with
        | cons h4 h5 => cases h5 with
          | cons h6 h7 => cases h6; exact .tup (.cons (.agg (.cons h4 (.cons (.v (.nil none 0)) h7))) h2)
theorem deskNewS_up (p : Place) (hp : p.small) (hf : p.fit) (m : Mem) (n : Nat) : FnS Try.prog 13 m n [.v p.v] (fun t m' n' => n ≤ n' ∧ (∀ j, j < n → m' j = m j) ∧
    t = .tup [.agg [.v (.int .i64 (deskNew p).now.people), .v (storyV (deskNew p).now.story), .nil], .v (.bool (placeOk p))]) := by
  refine (deskNewS_mut p hp hf m n).up ?_
  rintro t m' n' ⟨h1, h2, ⟨h3, rfl⟩ | ⟨h3, rfl⟩⟩
  · have e : deskNew p = ⟨p, []⟩ := if_pos h3
    rw [e, h3]
    exact ⟨_, fun _ _ _ _ h => h, h1, h2, rfl⟩
  · have e : deskNew p = noDeskV := if_neg (by simp [h3])
    rw [e, h3]
    exact ⟨_, fun _ _ _ _ h => nil_up h, h1, h2, rfl⟩
theorem do_len (d : Desk) (a : Deed) : (deskDo d a).1.past.length ≤ d.past.length + 1 := by
  rcases deskDo_ways d a with ⟨h1, e⟩ | ⟨_, hb, hp, e⟩ | ⟨h1, _, hg, e⟩ | ⟨_, _, e⟩
  · rw [e]; simp [noDeskV]
  · rw [e]; simp; omega
  · rw [e]; simp only [keep8]; split <;> simp <;> omega
  · rw [e]; simp
def DoAny (d : Desk) (m : Mem) (n : Nat) (t : T) (m' : Mem) (n' : Nat) : Prop := n ≤ n' ∧ (∀ j, j < n → m' j = m j) ∧ ∃ (y0 y1 y2 : T) (b : Bool), t = .tup [.agg [y0, y1, y2], .v (.bool b)] ∧ y0.cell = true ∧ y1.cell = true ∧ y2.cell = true ∧
  (b = true → ∃ y : Desk, deskOk y = true ∧ y0 = .v (.int .i64 y.now.people) ∧ y1 = .v (storyV y.now.story) ∧ PastT m' n n' y2 y.past ∧ y.past.length ≤ d.past.length + 1)
theorem deskDoS_any (d : Desk) (a : Deed) (P : T) (hd : deskOk d = true ∨ (d = noDeskV ∧ P = .nil)) (h7 : d.past.length ≤ 7) (ha : a.words.length ≤ 1000000000) (m : Mem) (n : Nat) (hP : PastT m 0 n P d.past) :
    FnS Try.prog 16 m n [.agg [.v (.int .i64 d.now.people), .v (storyV d.now.story), P], .v a.v] (DoAny d m n) := by
  rcases hd with hk | ⟨rfl, rfl⟩
  · refine (deskDoS_mut d a hk h7 ha P m n hP).weak ?_
    rintro t m' n' ⟨h1, h2, st, rfl, h3⟩
    exact ⟨h1, h2, _, _, _, _, rfl, rfl, rfl, h3.cell, fun _ => ⟨_, deskDo_ok d a hk, rfl, rfl, h3, do_len d a⟩⟩
  · refine (deskDoS_none a m n).weak ?_
    rintro t m' n' ⟨h1, h2, rfl⟩
    exact ⟨h1, h2, _, _, _, _, rfl, rfl, rfl, rfl, fun h => by cases h⟩
def SomeDesk (x : V) : Prop := ∃ d : Desk, d.small ∧ d.fit ∧ d.now.story.length ≤ 1000 ∧ x = d.v
structure DkEnv (m0 : Mem) (n0 rid : Nat) (bs : List UInt8) (k : Int) (s : S) (id : Nat) (d : Desk) (P : T) (p : Nat) : Prop where
  t0 : s.tm 0 = .ptr rid 0
  t1 : s.tm 1 = .v (.int .i64 k)
  t4 : s.tm 4 = .ptr n0 0
  t5 : s.tm 5 = .ptr id 0
  mu : s.mu = true
  i0 : n0 < id
  i1 : id < s.n
  mz : s.m n0 = some (.box 28 3 [.v (.int .i64 0), .nil, .nil])
  mid : s.m id = some (.box 28 3 [.v (.int .i64 d.now.people), .v (storyV d.now.story), P])
  rd : s.m rid = some (rdB bs p)
  out : ∀ j, j < n0 → j ≠ rid → s.m j = m0 j
  ok : deskOk d = true ∨ (d = noDeskV ∧ P = .nil)
  past : PastT s.m (id + 1) s.n P d.past
def LDk (m0 : Mem) (n0 rid : Nat) (bs : List UInt8) (k : Int) (p : Nat) (e : Nat) (s : S) : Prop := ∃ (c id p' : Nat) (d : Desk) (P : T), DkEnv m0 n0 rid bs k s id d P p' ∧ s.tm 7 = .v (.int .i64 c) ∧ c ≤ 4 ∧ d.past.length + c ≤ 4 ∧ p ≤ p' ∧ p' + 101 * c ≤ p + 700 ∧ (e = 1 → c = 0)
def LD6 (m0 : Mem) (n0 rid : Nat) (bs : List UInt8) (k : Int) (p c : Nat) (s : S) : Prop := ∃ (id id8 p' : Nat) (d : Desk) (P y0 y1 y2 : T) (b : Bool), DkEnv m0 n0 rid bs k s id d P p' ∧ s.tm 7 = .v (.int .i64 c) ∧ s.tm 8 = .ptr id8 0 ∧ s.tm 9 = .v (.bool b) ∧ id < id8 ∧ id8 < s.n ∧
  s.m id8 = some (.box 28 3 [y0, y1, y2]) ∧ y0.cell = true ∧ y1.cell = true ∧ y2.cell = true ∧ d.past.length + c ≤ 4 ∧ p ≤ p' ∧ p' + 101 * (c - 1) ≤ p + 700 ∧
  (b = true → ∃ y : Desk, deskOk y = true ∧ y0 = .v (.int .i64 y.now.people) ∧ y1 = .v (storyV y.now.story) ∧ PastT s.m (id + 1) s.n y2 y.past ∧ y.past.length ≤ d.past.length + 1)
theorem noDesk_deskNew {q : Place} : deskOk (deskNew q) = true ∨ (deskNew q = noDeskV ∧ T.nil = .nil) := by
  unfold deskNew; split
  · rename_i h; exact .inl (desk_new h)
  · exact .inr ⟨rfl, rfl⟩
theorem deskNew_past (q : Place) : (deskNew q).past = [] := by unfold deskNew; split <;> rfl
theorem desk_bor {mm : Mem} {x0 : Int} {st : List Claim} {P : T} {l : List Place} (hb : bor true mm 3 P = some (.sl (l.map Place.v))) : bor true mm 4 (.agg [.v (.int .i64 x0), .v (storyV st), P]) = some (Desk.v ⟨⟨x0, st⟩, l⟩) := by simp [hb]
theorem plT_bor_nil (k : Bool) (m : Mem) (d : Nat) (l : List Place) : mapO (bor k m d) (plT l ++ [.v (.int .i64 0), .nil]) = some ((l ++ [(⟨0, []⟩ : Place)]).flatMap fun p => p.v.cells) := by
  induction l with
  | nil => cases d <;> rfl
  | cons p l ih => simp [plT, mapO, ih, V.cells]
theorem row_plus {mm : Mem} {id : Nat} {l : List Place} (h : mm id = some (.box 25 2 (plT l ++ [.v (.int .i64 0), .nil]))) : bor true mm 3 (.sv id 0 (l.length + 1)) = some (.sl ((l ++ [(⟨0, []⟩ : Place)]).map Place.v)) := by
  have c1 : 0 + (l.length + 1) * 2 ≤ (plT l ++ [T.v (.int .i64 0), .nil]).length := by simp; omega
  have c2 : ((plT l ++ [T.v (.int .i64 0), .nil]).drop 0).take ((l.length + 1) * 2) = plT l ++ [.v (.int .i64 0), .nil] := by rw [List.drop_zero, List.take_of_length_le (by simp; omega)]
  show (match mm id with | some (.box _ z cs) => tst (0 + (l.length + 1) * z ≤ cs.length) (obind (mapO (TL.bor true mm 2) ((cs.drop 0).take ((l.length + 1) * z))) fun xs => tst (∀ x ∈ xs, x.cell = true) (some (V.sl (chunk z (l.length + 1) xs)))) | _ => none) = _
  rw [h]
  show tst (0 + (l.length + 1) * 2 ≤ (plT l ++ [T.v (.int .i64 0), .nil]).length) (obind (mapO (TL.bor true mm 2) (((plT l ++ [T.v (.int .i64 0), .nil]).drop 0).take ((l.length + 1) * 2))) fun xs => tst (∀ x ∈ xs, x.cell = true) (some (V.sl (chunk 2 (l.length + 1) xs)))) = _
  have e := plV_chunk (l ++ [(⟨0, []⟩ : Place)])
  rw [List.length_append, List.length_singleton] at e
  rw [tst_pos c1, c2, plT_bor_nil, obind_some, tst_pos (plV_cell _), e]
theorem desk_z (bs : List UInt8) (p : Nat) (hp : p < 500000000) (k : Int) (hk0 : 0 ≤ k) (hk : k < 100000) (m : Mem) (n rid : Nat) (hr : rid < n) (hm : m rid = some (rdB bs p)) :
    FnS Try.prog 8 m n [.ptr rid 0, .v (.int .i64 k)] (Draws SomeDesk 1000 m n rid bs p) := by
  refine Draws_of hr ⟨_, Try.func8, rfl, rfl⟩ fun hfr => ?_
  refine FnS_of (rs := [.cell 4 28]) true Try.func8 rfl rfl rfl rfl (Nat.le_of_ble_eq_true rfl) ?_
  have f1 := far hr
  simp -dsimp
  refine callS_ (place_z bs p (by omega) 0 (by omega) (by omega) _ _ rid (by omega) (by simp [hm, f1])) ?_
  rintro t m1 n1 ⟨hn1, ⟨x, ⟨q, hq1, hq2, hq3, rfl⟩, rfl⟩, p1, hp1, hp2, rfl⟩
  have small : q.small := ⟨by omega, fun c hc => by have := hq2 c hc; unfold Claim.small; omega⟩
  have g1 := far (show rid < n1 by omega)
  have g2 := far (show n < n1 by omega)
  have g3 : ¬ n = rid := by omega
  have hnok := noDesk_deskNew (q := q)
  have hnp := deskNew_past q
  simp -dsimp [g1, g2, g3]
  refine callS_ (deskNewS_up q small hq3 _ _) ?_
  rintro t m2 n2 ⟨hn2, hout2, rfl⟩
  have k0 := hout2 rid (by omega)
  have k1 := hout2 n (by omega)
  have hox : ∀ j, j < n → j ≠ rid → m2 j = m j := fun j j1 j2 => by rw [hout2 j (by omega)]; simp [far j1, j2]
  simp -dsimp [g3, Ne.symm g3, f1] at k0 k1
  generalize deskNew q = D at *
  generalize placeOk q = okq at *
  clear hout2
  obtain ⟨⟨x1, x2⟩, x3⟩ := D
  simp only at hnp
  have h1 := far (show rid < n2 by omega)
  have h2 := far (show n < n2 by omega)
  simp -dsimp [g1, g2, g3, nes]
  refine callS_ (pick_at bs p1 (by omega) _ _ _ rid (by simp [h1, k0])) ?_
  rintro t m3 n3 ⟨hn3, ⟨r, rfl, hr0, hr1⟩, rfl⟩
  have hr1 := hr1 (by decide)
  obtain ⟨r, rfl⟩ := Int.eq_ofNat_of_zero_le hr0
  have d0 : ¬ rid = n2 := by omega
  have d1 : ¬ n2 = rid := by omega
  have d2 : ¬ n2 = n := by omega
  have d3 : ¬ n = n2 := by omega
  simp -dsimp
  refine twp_loopC (LDk m n rid bs k p 0) (fun s => natOf (s.tm 7)) (LDk m n rid bs k p 1) ?_ ?_ ?_
  · refine ⟨r, n2, p1 + 1, ⟨⟨x1, x2⟩, x3⟩, .nil, ⟨by simp -dsimp, by simp -dsimp, by simp -dsimp, by simp -dsimp, by simp -dsimp, by omega, (by simp -dsimp <;> omega), by simp -dsimp [k1, g3, d0, d1, d2, d3, Ne.symm g3], by simp -dsimp [d0, d1, d2, d3], by simp -dsimp, fun j j1 j2 => ?_, hnok, .inl ⟨rfl, hnp⟩⟩, by simp -dsimp, by omega, by simp [hnp]; omega, by omega, by omega, by simp⟩
    simp -dsimp [far (show j < n2 by omega), j2, hox j j1 j2]
  · rintro s ⟨c, id, p', d, P, e, t7, hc4, hpl, hp0, hpc, hend⟩
    obtain ⟨t0, t1, t4, t5, hmu, i0, i1, mz, mid, rd, out, hok, past⟩ := e
    by_cases hc : 0 < c
    case neg =>
      have hc0 : c = 0 := by omega
      simp -dsimp [t7, hc, hc0]
      exact ⟨c, id, p', d, P, ⟨by simp -dsimp [t0], by simp -dsimp [t1], by simp -dsimp [t4], by simp -dsimp [t5], by simp -dsimp [hmu], i0, by simp -dsimp [i1], by simp -dsimp [mz], by simp -dsimp [mid], by simp -dsimp [rd], fun j j1 j2 => by simp -dsimp [out j j1 j2], hok, past⟩, by simp -dsimp [t7], hc4, hpl, hp0, hpc, fun _ => hc0⟩
    have a0 : ¬ rid = id := by omega
    have a1 : ¬ id = rid := by omega
    have a2 : ¬ n = id := by omega
    have a3 : ¬ id = n := by omega
    have a4 : ¬ n = rid := by omega
    have a5 : ¬ rid = n := by omega
    have h1 := far i1
    have h2 := far (show rid < s.n by omega)
    have h3 := far (show n < s.n by omega)
    have wc : IntKind.wrap .i64 ((c : Int) - 1) = ((c - 1 : Nat) : Int) := by rw [w64 (by omega) (by omega)]; omega
    have hmu1 : c - 1 < c := by omega
    have hms : natOf (s.tm 7) = c := by rw [t7]; simp
    have hshort : d.now.story.length ≤ 1000 := by
      rcases hok with h | ⟨rfl, _⟩
      · have := (place_fine (deskOk_iff.1 h).2.1).2.2.2; omega
      · simp [noDeskV]
    simp -dsimp [t7, hc]
    refine twp_cutQ (LD6 m n rid bs k p c) ?_ ?_
    · refine twp_drawT (.run [0, 1, 2, 3] (.alt (.run [4] (.alt (.run [5, 6, 7, 8, 9, 10, 11] .done) (.run [9, 5, 6, 7, 8, 10, 11] .done))) (.run [9, 4, 5, 6, 7, 8, 10, 11] .done))) [id] (List.replicate 12 [0]) (List.replicate 12 [0]) (by kernel_rfl) (by kernel_rfl) (by kernel_rfl) (by kernel_rfl) ?_
      simp -dsimp [t0, t5, t7, mid, rd, h1, h2, h3, a0, a1, a2, a3, a4, a5, nes]
      refine ordT_both ?_ ?_
      · simp -dsimp [t0, t5, t7, mid, rd, h1, h2, h3, a0, a1, a2, a3, a4, a5, nes]
        refine callS_ (deed_zA bs p' (by omega) d.now hshort _ _ rid (by omega) (by simp [rd, h1, h2, h3])) ?_
        rintro t m3 n3 ⟨hn3, ⟨x, ⟨a, ha, rfl⟩, rfl⟩, p3, hp3, hp4, rfl⟩
        obtain ⟨w1, w2, w3⟩ := a
        have b1 := far (show id < n3 by omega)
        have b2 := far (show rid < n3 by omega)
        have b3 := far (show n < n3 by omega)
        have b4 := far (show s.n < n3 + 1 by omega)
        simp -dsimp [t0, t5, t7, mid, rd, h1, h2, h3, a0, a1, a2, a3, a4, a5, nes, b1, b2, b3, b4]
        refine ordT_both ?_ ?_
        · simp -dsimp [t0, t5, t7, mid, rd, h1, h2, h3, a0, a1, a2, a3, a4, a5, nes, b1, b2, b3, b4]
          refine callS_ (deskDoS_any d ⟨w1, w2, w3⟩ P hok (by omega) (by simp only at ha ⊢; omega) _ _ (past.keep (by omega) (by omega) (fun j j1 j2 => by simp [show ¬ j = rid by omega, far (show j < s.n by omega), far (show j < n3 by omega)]))) ?_
          rintro t m4 n4 ⟨hn4, hout4, y0, y1, y2, b, rfl, c0, c1, c2, hy⟩
          have kid := hout4 id (by omega)
          have krid := hout4 rid (by omega)
          have kn := hout4 n (by omega)
          have kout : ∀ j, j < n → j ≠ rid → m4 j = s.m j := fun j j1 j2 => by rw [hout4 j (by omega)]; simp [j2, far (show j < s.n by omega), far (show j < n3 by omega)]
          have kpast : ∀ j, id + 1 ≤ j → j < s.n → m4 j = s.m j := fun j j1 j2 => by rw [hout4 j (by omega)]; simp [show ¬ j = rid by omega, far (show j < s.n by omega), far (show j < n3 by omega)]
          have b5 := far (show id < n4 by omega)
          have b6 := far (show rid < n4 by omega)
          have b7 := far (show n < n4 by omega)
          have b8 := far (show n3 < n4 + 1 by omega)
          have b9 := far (show s.n < n4 + 1 by omega)
          simp -dsimp [t0, t5, t7, mid, rd, h1, h2, h3, a0, a1, a2, a3, a4, a5, nes, b1, b2, b3, b4] at kid krid kn
          simp -dsimp [t0, t5, t7, mid, rd, h1, h2, h3, a0, a1, a2, a3, a4, a5, nes, b1, b2, b3, b4, b5, b6, b7, b8, b9, kid, krid, kn, c0, c1, c2]
          refine st_out fun s' ht hm' hn' hu' => ?_
          have q0 := ht 0
          have q1 := ht 1
          have q4 := ht 4
          have q5 := ht 5
          have q7 := ht 7
          have q8 := ht 8
          have q9 := ht 9
          simp -dsimp [t0, t1, t4, t5, t7] at q0 q1 q4 q5 q7 q8 q9 hm' hn' hu'
          clear ht
          refine ⟨id, n4, p3, d, P, y0, y1, y2, b, ⟨q0, q1, q4, q5, by rw [hu', hmu], i0, by omega, by rw [hm']; simp [kn, mz, b7, a2, a4, h3, b3], by rw [hm']; simp [kid, mid, b5, a1, h1, b1], by rw [hm']; simp [krid, b6, a0, h2, b2], fun j j1 j2 => ?_, hok, ?_⟩, q7, q8, q9, by omega, by omega, by rw [hm']; simp, c0, c1, c2, hpl, by omega, by omega, fun hb => ?_⟩
          · rw [hm']; simp [far (show j < n4 by omega), far (show j < s.n by omega), far (show j < n3 by omega), kout j j1 j2, out j j1 j2]
          · exact past.keep (Nat.le_refl _) (by omega) (fun j j1 j2 => by rw [hm']; simp [far (show j < n4 by omega), far (show j < s.n by omega), far (show j < n3 by omega), kpast j j1 j2])
          · obtain ⟨y, v1, v2, v3, v4, v5⟩ := hy hb
            exact ⟨y, v1, v2, v3, v4.keep (by omega) (by omega) (fun j j1 j2 => by rw [hm']; simp [show ¬ j = n4 by omega]), v5⟩
        · simp -dsimp [t0, t5, t7, mid, rd, h1, h2, h3, a0, a1, a2, a3, a4, a5, nes, b1, b2, b3, b4]
          refine callS_ (deskDoS_any d ⟨w1, w2, w3⟩ P hok (by omega) (by simp only at ha ⊢; omega) _ _ (past.keep (by omega) (by omega) (fun j j1 j2 => by simp [show ¬ j = rid by omega, far (show j < s.n by omega), far (show j < n3 by omega)]))) ?_
          rintro t m4 n4 ⟨hn4, hout4, y0, y1, y2, b, rfl, c0, c1, c2, hy⟩
          have kid := hout4 id (by omega)
          have krid := hout4 rid (by omega)
          have kn := hout4 n (by omega)
          have kout : ∀ j, j < n → j ≠ rid → m4 j = s.m j := fun j j1 j2 => by rw [hout4 j (by omega)]; simp [j2, far (show j < s.n by omega), far (show j < n3 by omega)]
          have kpast : ∀ j, id + 1 ≤ j → j < s.n → m4 j = s.m j := fun j j1 j2 => by rw [hout4 j (by omega)]; simp [show ¬ j = rid by omega, far (show j < s.n by omega), far (show j < n3 by omega)]
          have kn3 := hout4 n3 (by omega)
          simp -dsimp [nes] at kn3
          have b5 := far (show id < n4 by omega)
          have b6 := far (show rid < n4 by omega)
          have b7 := far (show n < n4 by omega)
          have b8 := far (show n3 < n4 + 1 by omega)
          have b9 := far (show s.n < n4 + 1 by omega)
          simp -dsimp [t0, t5, t7, mid, rd, h1, h2, h3, a0, a1, a2, a3, a4, a5, nes, b1, b2, b3, b4] at kid krid kn
          simp -dsimp [t0, t5, t7, mid, rd, h1, h2, h3, a0, a1, a2, a3, a4, a5, nes, b1, b2, b3, b4, b5, b6, b7, b8, b9, kid, krid, kn, kn3, c0, c1, c2]
          refine st_out fun s' ht hm' hn' hu' => ?_
          have q0 := ht 0
          have q1 := ht 1
          have q4 := ht 4
          have q5 := ht 5
          have q7 := ht 7
          have q8 := ht 8
          have q9 := ht 9
          simp -dsimp [t0, t1, t4, t5, t7] at q0 q1 q4 q5 q7 q8 q9 hm' hn' hu'
          clear ht
          refine ⟨id, n3, p3, d, P, y0, y1, y2, b, ⟨q0, q1, q4, q5, by rw [hu', hmu], i0, by omega, by rw [hm']; simp [kn, mz, b7, a2, a4, h3, b3], by rw [hm']; simp [kid, mid, b5, a1, h1, b1], by rw [hm']; simp [krid, b6, a0, h2, b2], fun j j1 j2 => ?_, hok, ?_⟩, q7, q8, q9, by omega, by omega, by rw [hm']; simp, c0, c1, c2, hpl, by omega, by omega, fun hb => ?_⟩
          · rw [hm']; simp [far (show j < n4 by omega), far (show j < s.n by omega), far (show j < n3 by omega), kout j j1 j2, out j j1 j2]
          · exact past.keep (Nat.le_refl _) (by omega) (fun j j1 j2 => by rw [hm']; simp [far (show j < n4 by omega), far (show j < s.n by omega), far (show j < n3 by omega), kpast j j1 j2])
          · obtain ⟨y, v1, v2, v3, v4, v5⟩ := hy hb
            exact ⟨y, v1, v2, v3, v4.keep (by omega) (by omega) (fun j j1 j2 => by rw [hm']; simp [show ¬ j = n3 by omega]), v5⟩
      · simp -dsimp [t0, t5, t7, mid, rd, h1, h2, h3, a0, a1, a2, a3, a4, a5, nes]
        refine callS_ (deed_zA bs p' (by omega) d.now hshort _ _ rid (by omega) (by simp [rd, h1, h2, h3])) ?_
        rintro t m3 n3 ⟨hn3, ⟨x, ⟨a, ha, rfl⟩, rfl⟩, p3, hp3, hp4, rfl⟩
        obtain ⟨w1, w2, w3⟩ := a
        have b1 := far (show id < n3 by omega)
        have b2 := far (show rid < n3 by omega)
        have b3 := far (show n < n3 by omega)
        have b4 := far (show s.n < n3 + 1 by omega)
        simp -dsimp [t0, t5, t7, mid, rd, h1, h2, h3, a0, a1, a2, a3, a4, a5, nes, b1, b2, b3, b4]
        refine callS_ (deskDoS_any d ⟨w1, w2, w3⟩ P hok (by omega) (by simp only at ha ⊢; omega) _ _ (past.keep (by omega) (by omega) (fun j j1 j2 => by simp [show ¬ j = rid by omega, far (show j < s.n by omega), far (show j < n3 by omega)]))) ?_
        rintro t m4 n4 ⟨hn4, hout4, y0, y1, y2, b, rfl, c0, c1, c2, hy⟩
        have kid := hout4 id (by omega)
        have krid := hout4 rid (by omega)
        have kn := hout4 n (by omega)
        have kout : ∀ j, j < n → j ≠ rid → m4 j = s.m j := fun j j1 j2 => by rw [hout4 j (by omega)]; simp [j2, far (show j < s.n by omega), far (show j < n3 by omega)]
        have kpast : ∀ j, id + 1 ≤ j → j < s.n → m4 j = s.m j := fun j j1 j2 => by rw [hout4 j (by omega)]; simp [show ¬ j = rid by omega, far (show j < s.n by omega), far (show j < n3 by omega)]
        have ksn := hout4 s.n (by omega)
        simp -dsimp [nes, h2, b4, a0, Ne.symm] at ksn
        have b5 := far (show id < n4 by omega)
        have b6 := far (show rid < n4 by omega)
        have b7 := far (show n < n4 by omega)
        have b8 := far (show n3 < n4 + 1 by omega)
        have b9 := far (show s.n < n4 + 1 by omega)
        simp -dsimp [t0, t5, t7, mid, rd, h1, h2, h3, a0, a1, a2, a3, a4, a5, nes, b1, b2, b3, b4] at kid krid kn
        simp -dsimp [t0, t5, t7, mid, rd, h1, h2, h3, a0, a1, a2, a3, a4, a5, nes, b1, b2, b3, b4, b5, b6, b7, b8, b9, kid, krid, kn, ksn, c0, c1, c2]
        refine st_out fun s' ht hm' hn' hu' => ?_
        have q0 := ht 0
        have q1 := ht 1
        have q4 := ht 4
        have q5 := ht 5
        have q7 := ht 7
        have q8 := ht 8
        have q9 := ht 9
        simp -dsimp [t0, t1, t4, t5, t7] at q0 q1 q4 q5 q7 q8 q9 hm' hn' hu'
        clear ht
        refine ⟨id, s.n, p3, d, P, y0, y1, y2, b, ⟨q0, q1, q4, q5, by rw [hu', hmu], i0, by omega, by rw [hm']; simp [kn, mz, b7, a2, a4, h3, b3], by rw [hm']; simp [kid, mid, b5, a1, h1, b1], by rw [hm']; simp [krid, b6, a0, h2, b2], fun j j1 j2 => ?_, hok, ?_⟩, q7, q8, q9, by omega, by omega, by rw [hm']; simp, c0, c1, c2, hpl, by omega, by omega, fun hb => ?_⟩
        · rw [hm']; simp [far (show j < n4 by omega), far (show j < s.n by omega), far (show j < n3 by omega), kout j j1 j2, out j j1 j2]
        · exact past.keep (Nat.le_refl _) (by omega) (fun j j1 j2 => by rw [hm']; simp [far (show j < n4 by omega), far (show j < s.n by omega), far (show j < n3 by omega), kpast j j1 j2])
        · obtain ⟨y, v1, v2, v3, v4, v5⟩ := hy hb
          exact ⟨y, v1, v2, v3, v4.keep (by omega) (by omega) (fun j j1 j2 => by rw [hm']; simp [show ¬ j = s.n by omega]), v5⟩
    · rintro s2 ⟨id, id8, p', d, P, y0, y1, y2, b, e, t7, t8, t9, i8, i9, m8, c0, c1, c2, hpl, hp0, hpc, hy⟩
      obtain ⟨t0, t1, t4, t5, hmu, i0, i1, mz, mid, rd, out, hok, past⟩ := e
      have wc : IntKind.wrap .i64 ((c : Int) - 1) = ((c - 1 : Nat) : Int) := by rw [w64 (by omega) (by omega)]; omega
      have hmu1 : c - 1 < c := by omega
      have h1 := far i1
      have h8 := far i9
      have a1 : ¬ id = id8 := by omega
      have a2 : ¬ id8 = id := by omega
      have a3 : ¬ n = id := by omega
      have a4 : ¬ rid = id := by omega
      cases b with
      | false =>
        simp -dsimp [t9, t7, wc, hms, hmu1]
        exact ⟨c - 1, id, p', d, P, ⟨by simp -dsimp [t0], by simp -dsimp [t1], by simp -dsimp [t4], by simp -dsimp [t5], by simp -dsimp [hmu], i0, by simp -dsimp [i1], by simp -dsimp [mz], by simp -dsimp [mid], by simp -dsimp [rd], fun j j1 j2 => by simp -dsimp [out j j1 j2], hok, past⟩, by simp -dsimp, by omega, by omega, hp0, by omega, by simp⟩
      | true =>
        obtain ⟨y, v1, rfl, rfl, v4, v5⟩ := hy rfl
        simp -dsimp [t5, t8, t9, t7, mid, m8, h1, h8, a1, a2, c2, wc, hms, hmu1]
        exact ⟨c - 1, id, p', y, y2, ⟨by simp -dsimp [t0], by simp -dsimp [t1], by simp -dsimp [t4], by simp -dsimp [t5], by simp -dsimp [hmu], i0, (by simp -dsimp <;> omega), by simp -dsimp [mz, a3], by simp -dsimp, by simp -dsimp [rd, a4], fun j j1 j2 => by simp -dsimp [out j j1 j2, show ¬ j = id by omega], .inl v1, v4.keep (Nat.le_refl _) (by simp -dsimp <;> omega) (fun j j1 j2 => by simp -dsimp [show ¬ j = id by omega])⟩, by simp -dsimp, by omega, by omega, hp0, by omega, by simp⟩
  · rintro s ⟨c, id, p', d, P, e, t7, hc4, hpl, hp0, hpc, hend⟩
    obtain ⟨t0, t1, t4, t5, hmu, i0, i1, mz, mid, rd, out, hok, past⟩ := e
    have a0 : ¬ rid = id := by omega
    have a1 : ¬ id = rid := by omega
    have a2 : ¬ n = id := by omega
    have a3 : ¬ id = n := by omega
    have a4 : ¬ n = rid := by omega
    have a5 : ¬ rid = n := by omega
    have h1 := far i1
    have h2 := far (show rid < s.n by omega)
    have h3 := far (show n < s.n by omega)
    have hPc := past.cell
    simp -dsimp [t0, t1]
    refine callS_ (odd_at bs p' (by omega) k (by omega) _ _ rid (by simp [rd])) ?_
    rintro t m3 n3 ⟨hn3, ⟨b, rfl, _⟩, p2, hp1, hp2, rfl⟩
    have b1 := far (show id < n3 by omega)
    have b2 := far (show rid < n3 by omega)
    have b3 := far (show n < n3 by omega)
    have hsm : d.small ∧ d.fit ∧ d.now.story.length ≤ 1000 ∧ d.past.length ≤ 8 := by
      rcases hok with h | ⟨rfl, _⟩
      · have := (place_fine (deskOk_iff.1 h).2.1).2.2.2
        exact ⟨(desk_fine h).1, (desk_fine h).2.1, by omega, (desk_fine h).2.2.1⟩
      · exact ⟨⟨⟨by simp [noDeskV], by simp [noDeskV]⟩, by simp [noDeskV], by simp [noDeskV]⟩, ⟨⟨by simp [noDeskV, fit], by simp [noDeskV]⟩, by simp [noDeskV]⟩, by simp [noDeskV], by simp [noDeskV]⟩
    obtain ⟨s1, s2, s3, s4⟩ := hsm
    cases b with
    | false =>
      simp -dsimp [t4, t5, mid, mz, h1, h2, h3, a0, a1, a2, a3, a4, a5, b1, b2, b3, hPc]
      refine ⟨by omega, ⟨_, desk_bor (past.bor (fun j j1 j2 => by simp [show n ≤ j by omega, show ¬ j = n by omega, show ¬ j = rid by omega]) 2), d, s1, s2, s3, rfl⟩, fun j j1 j2 => ?_, p2, by omega, by omega, ?_⟩
      · simp [show ¬ j = n by omega, j2, out j j1 j2]
      · simp [show ¬ rid = n by omega]
    | true =>
      simp -dsimp [t0, t4, t5, mid, mz, h1, h2, h3, a0, a1, a2, a3, a4, a5, b1, b2, b3, hPc]
      refine callS_ (pick_at bs p2 (by omega) _ _ _ rid (by simp)) ?_
      rintro t m4 n4 ⟨hn4, ⟨r, rfl, hr0, hr1⟩, rfl⟩
      have g1 := far (show id < n4 by omega)
      have g2 := far (show rid < n4 by omega)
      have g3 := far (show n < n4 by omega)
      by_cases r0 : r = 0
      · simp -dsimp [r0, t0, t4, t5, mid, mz, h1, h2, h3, a0, a1, a2, a3, a4, a5, b1, b2, b3, g1, g2, g3, hPc]
        refine ⟨by omega, ⟨_, desk_bor (past.bor (fun j j1 j2 => by simp [show n ≤ j by omega, show ¬ j = n by omega, show ¬ j = id by omega, show ¬ j = rid by omega]) 2), ⟨⟨0, d.now.story⟩, d.past⟩, ⟨s1.1, s1.2⟩, ⟨⟨by simp [fit], s2.1.2⟩, s2.2⟩, s3, rfl⟩, fun j j1 j2 => ?_, p2 + 1, by omega, by omega, ?_⟩
        · simp [show ¬ j = n by omega, show ¬ j = id by omega, j2, out j j1 j2]
        · simp [show ¬ rid = n by omega, show ¬ rid = id by omega]
      · by_cases r1 : r = 1
        · rcases past with ⟨rfl, hs0⟩ | ⟨pid, ex, rfl, hi0, hi1, him⟩
          · simp -dsimp [r0, r1, t0, t4, t5, mid, mz, h1, h2, h3, a0, a1, a2, a3, a4, a5, b1, b2, b3, g1, g2, g3, hPc, hmu, nes]
            refine ⟨by omega, ⟨_, desk_bor (row_plus (l := []) (by simp [show n ≤ n4 + 1 by omega, show ¬ n4 + 1 = n by omega, show ¬ n4 + 1 = id by omega, nes, plT])), ⟨d.now, [⟨0, []⟩]⟩, ⟨s1.1, by simp, by simp [Place.small]⟩, ⟨s2.1, by simp [Place.fit, fit]⟩, s3, rfl⟩, fun j j1 j2 => ?_, p2 + 1, by omega, by omega, ?_⟩
            · simp [show ¬ j = n by omega, show ¬ j = id by omega, far (show j < n4 by omega), j2, out j j1 j2]
            · simp [show ¬ rid = n by omega, show ¬ rid = id by omega, g2]
          · have c0 : ¬ pid = rid := by omega
            have c1 : ¬ pid = id := by omega
            have c2 : ¬ pid = n := by omega
            have g4 := far (show pid < n4 by omega)
            have fb : (d.past.length + 1) * 32 ≤ 140737488355328 := by omega
            simp -dsimp [r0, r1, t0, t4, t5, mid, mz, h1, h2, h3, a0, a1, a2, a3, a4, a5, b1, b2, b3, g1, g2, g3, g4, hPc, hmu, nes, him, c0, c1, c2, Ne.symm c0, Ne.symm c1, Ne.symm c2, fb]
            refine ⟨by omega, ⟨_, desk_bor (row_plus (l := d.past) (by simp [show n ≤ n4 + 1 by omega, show ¬ n4 + 1 = n by omega, show ¬ n4 + 1 = id by omega, nes])), ⟨d.now, d.past ++ [⟨0, []⟩]⟩, ⟨s1.1, by simp; omega, fun p hp => ?_⟩, ⟨s2.1, fun p hp => ?_⟩, s3, rfl⟩, fun j j1 j2 => ?_, p2 + 1, by omega, by omega, ?_⟩
            · rcases List.mem_append.1 hp with h | h
              · exact s1.2.2 p h
              · rw [List.mem_singleton.1 h]; simp [Place.small]
            · rcases List.mem_append.1 hp with h | h
              · exact s2.2 p h
              · rw [List.mem_singleton.1 h]; simp [Place.fit, fit]
            · simp [show ¬ j = n by omega, show ¬ j = id by omega, show ¬ j = pid by omega, far (show j < n4 by omega), j2, out j j1 j2]
            · simp [show ¬ rid = n by omega, show ¬ rid = id by omega, show ¬ rid = pid by omega, g2]
        · simp -dsimp [r0, r1, t0, t4, t5, mid, mz, h1, h2, h3, a0, a1, a2, a3, a4, a5, b1, b2, b3, g1, g2, g3, hPc]
          refine ⟨by omega, ⟨Desk.v ⟨⟨0, []⟩, []⟩, by simp, ⟨⟨0, []⟩, []⟩, ⟨by simp [Place.small], by simp, by simp⟩, ⟨by simp [Place.fit, fit], by simp⟩, by simp, rfl⟩, fun j j1 j2 => ?_, p2 + 1, by omega, by omega, ?_⟩
          · simp [show ¬ j = n by omega, j2, out j j1 j2]
          · simp [show ¬ rid = n by omega]
end TL

/- Desks can forget. -/
set_option linter.unusedSimpArgs false
set_option linter.unusedVariables false
set_option maxRecDepth 100000
set_option maxHeartbeats 4000000
set_option pp.maxSteps 1500
namespace TL
open Go Go.Proofs
attribute [local simp] marksV storyV codeV Claim.v Place.v Desk.v
theorem drawDeskOk_z (bs : List UInt8) (m : Mem) (n : Nat) : FnS Try.prog 4 m n [.v (codeV bs)] (Drawn SomeDesk m n) := by
  refine Drawn_of ⟨_, Try.func4, rfl, rfl⟩ fun hfr => ?_
  refine FnS_of (rs := [.cell 2 28]) false Try.func4 rfl rfl rfl rfl (Nat.le_of_ble_eq_true rfl) ?_
  simp -dsimp
  refine callS_ (open_at bs _ _) ?_
  rintro t m1 n1 ⟨rfl, rfl, rfl⟩
  simp -dsimp
  refine callS_ (desk_z (bs.take 2000) 0 (by omega) 2 (by omega) (by omega) _ _ _ (by omega) (by simp)) ?_
  rintro t m2 n2 ⟨hn2, ⟨x, ⟨d, s1, s2, s3, rfl⟩, rfl⟩, p2, hp1, hp2, rfl⟩
  have f1 := far (show n + 1 < n2 by omega)
  have f2 := far (show n < n2 by omega)
  simp -dsimp [f1, f2, nes]
  refine ⟨by omega, ⟨_, by simp <;> rfl, ⟨d, s1, s2, s3, rfl⟩⟩, fun j j1 => ?_⟩
  simp [far j1]
theorem lawDeskOk (bs : List UInt8) : FnZ Try.prog 3 [codeV bs] (.bool true) := by
  refine FnZ_of (rs := [.tmp 2]) false Try.func3 rfl rfl rfl rfl (Nat.le_of_ble_eq_true rfl) ?_
  by_cases h : (1048576 : Int) < bs.length
  · simp -dsimp [nes, h]
  simp -dsimp [nes, h]
  refine callS_ (drawDeskOk_z bs _ _) ?_
  rintro t m1 n1 ⟨hn1, ⟨x, ⟨d, hd, hf, _, rfl⟩, rfl⟩, rfl⟩
  have h1 := deskOk_fn d (by have := hd.2.1; omega) (by have := hd.1.1; omega) (fun p hp => by have := (hd.2.2 p hp).1; omega)
  have h2 := deskOkS_fn d hd hf
  have h3 := deskOk_fn ⟨d.now, []⟩ (by simp) (by have := hd.1.1; simp only; omega) (by simp)
  have h4 := deskOk_fn noDeskV (by simp [noDeskV]) (by simp [noDeskV]) (by simp [noDeskV])
  have hno : deskOk noDeskV = false := by decide
  have e3 : deskOk d = true → deskOk ⟨d.now, []⟩ = true := fun h => desk_new (deskOk_iff.1 h).2.1
  rw [hno] at h4
  have hk := ft (deskOk d)
  generalize deskOk d = o at *
  generalize deskOk ⟨d.now, []⟩ = o3 at *
  clear hd hf
  obtain ⟨⟨d1, d2⟩, d3⟩ := d
  simp -dsimp [nes]
  refine call_ h1 (by simp -dsimp) ?_
  simp -dsimp [nes]
  refine call_ h2 (by simp -dsimp) ?_
  rcases hk with rfl | rfl
  · simp -dsimp [nes]
    refine call_ h4 (by simp -dsimp [noDeskV]) ?_
    simp -dsimp [nes]
    refine call_ alive_fn (by simp -dsimp) ?_
    simp -dsimp [nes]
  · have e3 := e3 rfl
    subst e3
    simp -dsimp [nes]
    refine call_ h3 (by simp -dsimp) ?_
    simp -dsimp [nes]
    refine call_ h4 (by simp -dsimp [noDeskV]) ?_
    simp -dsimp [nes]
    refine call_ alive_fn (by simp -dsimp) ?_
    simp -dsimp [nes]
end TL

/- The library's variables at the start: this program reads none of them. -/
set_option linter.unusedVariables false
namespace TL
open Go Go.Proofs
theorem gl_start {W : World} (h : W.ShapedOpen Try.prog) : Gl Try.prog (ZA W) W := by
  have n1 : Try.prog.globalNamed "internal/bytealg.MaxLen" = none := by kernel_rfl
  have n2 : Try.prog.globalNamed "strconv.ErrSyntax" = none := by kernel_rfl
  have n3 : Try.prog.globalNamed "strconv.ErrRange" = none := by kernel_rfl
  rintro g Q (⟨e, _⟩ | ⟨e | e, _⟩)
  · rw [n1] at e; cases e
  · rw [n2] at e; cases e
  · rw [n3] at e; cases e
end TL
