/- Copies; desks. -/
import Derived.Test.YtheoggobfpgpnaaFns12
import Derived.Test.YtheoggobfpgpnaaFns9
set_option linter.unusedSimpArgs false
set_option linter.unusedVariables false
set_option maxRecDepth 100000
set_option maxHeartbeats 4000000
set_option pp.maxSteps 1500
namespace TL
open Go Go.Proofs
attribute [local simp] marksV storyV codeV Claim.v Place.v
structure Desk where
  now : Place
  past : List Place
  deriving DecidableEq
def Desk.v (d : Desk) : V := .agg [.int .i64 d.now.people, storyV d.now.story, .sl (d.past.map Place.v)]
attribute [local simp] Desk.v
def IsameMarks (a b : List Mark) (e : Nat) (s : S) : Prop := ∃ i : Nat, s.tm 0 = .v (.sl (a.map Mark.v)) ∧ s.tm 1 = .v (.sl (b.map Mark.v)) ∧ s.tm 5 = .v (.int .i64 i) ∧ i ≤ a.length ∧ a.take i = b.take i ∧ (e = 1 → i = a.length)
theorem sameMarks_fn (a b : List Mark) (hl : a.length ≤ 1048576) : FnZ Try.prog 96 [.sl (a.map Mark.v), .sl (b.map Mark.v)] (.bool (decide (a = b))) := by
  refine FnZ_of (rs := [.tmp 4]) false Try.func96 rfl rfl rfl rfl (Nat.le_of_ble_eq_true rfl) ?_
  by_cases hn : a.length = b.length
  case neg =>
    have e : decide (a = b) = false := by simp; rintro rfl; exact hn rfl
    have hn' : ¬ (a.length : Int) = b.length := by omega
    simp -dsimp [hn, hn', e]
  simp -dsimp [hn]
  refine twp_loopC (IsameMarks a b 0) (fun s => a.length - natOf (s.tm 5)) (IsameMarks a b 1) ?_ ?_ ?_
  · exact ⟨0, by simp -dsimp, by simp -dsimp, by simp -dsimp, by omega, by simp, by simp⟩
  · rintro s ⟨i, h0, h1, h5, hi, htk, hend⟩
    by_cases hlt : i < a.length
    case neg =>
      have hlt2 : ¬ i < b.length := by omega
      simp -dsimp [h0, h5, hlt, hlt2, hn]
      exact ⟨i, by simp -dsimp [h0], by simp -dsimp [h1], by simp -dsimp [h5], hi, htk, fun _ => by omega⟩
    have hlt2 : i < b.length := by omega
    have hgeta : (a.map Mark.v)[i]? = some (a[i].v) := by simp [hlt]
    have hgetb : (b.map Mark.v)[i]? = some (b[i].v) := by simp [hlt2]
    have wi : IntKind.wrap .i64 ((i : Int) + 1) = ((i + 1 : Nat) : Int) := by rw [w64 (by omega) (by omega)]; omega
    have hmu : a.length - (i + 1) < a.length - i := by omega
    simp -dsimp [h0, h5, hlt, hlt2, hn]
    refine twp_draw (List.range 9) [] (List.replicate 9 []) (List.replicate 9 []) (by kernel_rfl) (by kernel_rfl) (by kernel_rfl) (by kernel_rfl) ?_
    have va : a[i].v = .agg [.int .i64 a[i].kind, .int .i64 a[i].num] := rfl
    have vb : b[i].v = .agg [.int .i64 b[i].kind, .int .i64 b[i].num] := rfl
    by_cases k1 : a[i].kind = b[i].kind
    case neg =>
      have e : decide (a = b) = false := by simp; rintro rfl; exact k1 rfl
      simp -dsimp [List.range_succ, h0, h1, h5, hlt, hlt2, hgeta, hgetb, va, vb, k1, e]
    by_cases k2 : a[i].num = b[i].num
    case neg =>
      have e : decide (a = b) = false := by simp; rintro rfl; exact k2 rfl
      simp -dsimp [List.range_succ, h0, h1, h5, hlt, hlt2, hgeta, hgetb, va, vb, k1, k2, e]
    have hq' : a[i] = b[i] := by
      cases ea : a[i]; cases eb : b[i]; rw [ea, eb] at k1 k2; simp_all
    have htk2 := take_eq_succ hlt hlt2 htk hq'
    have hmu2 : b.length - (i + 1) < b.length - i := by omega
    simp -dsimp [List.range_succ, h0, h1, h5, hlt, hlt2, hgeta, hgetb, va, vb, k1, k2, wi, hmu, hmu2]
    exact ⟨i + 1, by simp -dsimp [h0], by simp -dsimp [h1], by simp -dsimp, by omega, htk2, by simp⟩
  · rintro s ⟨i, h0, h1, h5, hi, htk, hend⟩
    have := hend rfl
    subst this
    rw [List.take_length, hn, List.take_length] at htk
    have e : decide (a = b) = true := by simpa using htk
    simp -dsimp [e]
theorem sameClaim_fn (a b : Claim) (ha : a.small) : FnZ Try.prog 89 [a.v, b.v] (.bool (decide (a = b))) := by
  refine FnZ_of (rs := [.tmp 4]) false Try.func89 rfl rfl rfl rfl (Nat.le_of_ble_eq_true rfl) ?_
  by_cases h0 : a.who = b.who
  case neg =>
    have e : decide (a = b) = false := by cases a; cases b; simp_all
    simp -dsimp [Mark.v, h0, e]
  simp -dsimp [h0]
  refine call_ (sameMarks_fn a.says b.says ha) (by simp -dsimp) ?_
  have h1 := ft (decide (a.says = b.says))
  rcases h1 with h1 | h1
  · have e : decide (a = b) = false := by cases a; cases b; simp_all
    simp -dsimp [h1, e]
  · have e : decide (a = b) = true := by cases a; cases b; simp_all
    simp -dsimp [h1, e]
def IsameStory (a b : List Claim) (e : Nat) (s : S) : Prop := ∃ i : Nat, s.tm 0 = .v (.sl (a.map Claim.v)) ∧ s.tm 1 = .v (.sl (b.map Claim.v)) ∧ s.tm 5 = .v (.int .i64 i) ∧ i ≤ a.length ∧ a.take i = b.take i ∧ (e = 1 → i = a.length)
theorem sameStory_fn (a b : List Claim) (hl : a.length ≤ 1048576) (hs : ∀ x ∈ a, x.small) : FnZ Try.prog 66 [.sl (a.map Claim.v), .sl (b.map Claim.v)] (.bool (decide (a = b))) := by
  refine FnZ_of (rs := [.tmp 4]) false Try.func66 rfl rfl rfl rfl (Nat.le_of_ble_eq_true rfl) ?_
  by_cases hn : a.length = b.length
  case neg =>
    have e : decide (a = b) = false := by simp; rintro rfl; exact hn rfl
    have hn' : ¬ (a.length : Int) = b.length := by omega
    simp -dsimp [hn, hn', e]
  simp -dsimp [hn]
  refine twp_loopC (IsameStory a b 0) (fun s => a.length - natOf (s.tm 5)) (IsameStory a b 1) ?_ ?_ ?_
  · exact ⟨0, by simp -dsimp, by simp -dsimp, by simp -dsimp, by omega, by simp, by simp⟩
  · rintro s ⟨i, h0, h1, h5, hi, htk, hend⟩
    by_cases hlt : i < a.length
    case neg =>
      have hlt2 : ¬ i < b.length := by omega
      simp -dsimp [h0, h5, hlt, hlt2, hn]
      exact ⟨i, by simp -dsimp [h0], by simp -dsimp [h1], by simp -dsimp [h5], hi, htk, fun _ => by omega⟩
    have hlt2 : i < b.length := by omega
    have hgeta : (a.map Claim.v)[i]? = some (a[i].v) := by simp [hlt]
    have hgetb : (b.map Claim.v)[i]? = some (b[i].v) := by simp [hlt2]
    have wi : IntKind.wrap .i64 ((i : Int) + 1) = ((i + 1 : Nat) : Int) := by rw [w64 (by omega) (by omega)]; omega
    have hmu : a.length - (i + 1) < a.length - i := by omega
    simp -dsimp [h0, h5, hlt, hlt2, hn]
    refine twp_draw (List.range 10) [] (List.replicate 10 []) (List.replicate 10 []) (by kernel_rfl) (by kernel_rfl) (by kernel_rfl) (by kernel_rfl) ?_
    simp -dsimp [List.range_succ, h0, h1, h5, hlt, hlt2, hgeta, hgetb]
    refine call_ (sameClaim_fn a[i] b[i] (hs _ (List.getElem_mem _))) (by simp -dsimp [Mark.v]) ?_
    have hq := ft (decide (a[i] = b[i]))
    rcases hq with hq | hq
    · have e : decide (a = b) = false := by
        simp at hq ⊢; rintro rfl; exact hq rfl
      simp -dsimp [List.range_succ, hq, e]
    · have hq' : a[i] = b[i] := by simpa using hq
      have htk2 := take_eq_succ hlt hlt2 htk hq'
      have hmu2 : b.length - (i + 1) < b.length - i := by omega
      simp -dsimp [List.range_succ, hq, h5, wi, hmu, hmu2]
      exact ⟨i + 1, by simp -dsimp [h0], by simp -dsimp [h1], by simp -dsimp, by omega, htk2, by simp⟩
  · rintro s ⟨i, h0, h1, h5, hi, htk, hend⟩
    have := hend rfl
    subst this
    rw [List.take_length, hn, List.take_length] at htk
    have e : decide (a = b) = true := by simpa using htk
    simp -dsimp [e]
theorem samePlace_fn (a b : Place) (ha : a.small) : FnZ Try.prog 32 [a.v, b.v] (.bool (decide (a = b))) := by
  refine FnZ_of (rs := [.tmp 4]) false Try.func32 rfl rfl rfl rfl (Nat.le_of_ble_eq_true rfl) ?_
  by_cases h0 : a.people = b.people
  case neg =>
    have e : decide (a = b) = false := by cases a; cases b; simp_all
    simp -dsimp [Mark.v, h0, e]
  simp -dsimp [h0]
  refine call_ (sameStory_fn a.story b.story ha.1 ha.2) (by simp -dsimp) ?_
  have h1 := ft (decide (a.story = b.story))
  rcases h1 with h1 | h1
  · have e : decide (a = b) = false := by cases a; cases b; simp_all
    simp -dsimp [h1, e]
  · have e : decide (a = b) = true := by cases a; cases b; simp_all
    simp -dsimp [h1, e]
def Desk.small (d : Desk) : Prop := d.now.small ∧ d.past.length ≤ 1048576 ∧ ∀ p ∈ d.past, p.small
def IsameDesk (a b : Desk) (e : Nat) (s : S) : Prop := ∃ i : Nat, s.tm 2 = .ptr 0 0 ∧ s.tm 3 = .ptr 1 0 ∧ s.m 0 = some (.box 58 3 [.v (.int .i64 a.now.people), .v (storyV a.now.story), .v (.sl (a.past.map Place.v))]) ∧
  s.m 1 = some (.box 58 3 [.v (.int .i64 b.now.people), .v (storyV b.now.story), .v (.sl (b.past.map Place.v))]) ∧ s.tm 5 = .v (.int .i64 i) ∧ i ≤ a.past.length ∧ a.past.take i = b.past.take i ∧ (e = 1 → i = a.past.length)
theorem sameDesk_fn (a b : Desk) (ha : a.small) : FnZ Try.prog 29 [a.v, b.v] (.bool (decide (a = b))) := by
  refine FnZ_of (rs := [.tmp 4]) false Try.func29 rfl rfl rfl rfl (Nat.le_of_ble_eq_true rfl) ?_
  have hl := ha.2.1
  simp -dsimp
  refine call_ (samePlace_fn a.now b.now ha.1) (by simp -dsimp) ?_
  have h1 := ft (decide (a.now = b.now))
  rcases h1 with h1 | h1
  · have e : decide (a = b) = false := by cases a; cases b; simp_all
    simp -dsimp [h1, e]
  by_cases hn : a.past.length = b.past.length
  case neg =>
    have e : decide (a = b) = false := by simp; rintro rfl; exact hn rfl
    have hn' : ¬ (a.past.length : Int) = b.past.length := by omega
    simp -dsimp [h1, hn, hn', e]
  simp -dsimp [h1, hn]
  refine twp_loopC (IsameDesk a b 0) (fun s => a.past.length - natOf (s.tm 5)) (IsameDesk a b 1) ?_ ?_ ?_
  · exact ⟨0, by simp -dsimp, by simp -dsimp, by simp -dsimp, by simp -dsimp, by simp -dsimp, by omega, by simp, by simp⟩
  · rintro s ⟨i, t2, t3, m0, m1, h5, hi, htk, hend⟩
    by_cases hlt : i < a.past.length
    case neg =>
      have hlt2 : ¬ i < b.past.length := by omega
      simp -dsimp [t2, m0, h5, hlt, hlt2, hn]
      exact ⟨i, by simp -dsimp [t2], by simp -dsimp [t3], by simp -dsimp [m0], by simp -dsimp [m1], by simp -dsimp [h5], hi, htk, fun _ => by omega⟩
    have hlt2 : i < b.past.length := by omega
    have hgeta : (a.past.map Place.v)[i]? = some (a.past[i].v) := by simp [hlt]
    have hgetb : (b.past.map Place.v)[i]? = some (b.past[i].v) := by simp [hlt2]
    have wi : IntKind.wrap .i64 ((i : Int) + 1) = ((i + 1 : Nat) : Int) := by rw [w64 (by omega) (by omega)]; omega
    have hmu : a.past.length - (i + 1) < a.past.length - i := by omega
    simp -dsimp [t2, m0, h5, hlt, hlt2, hn]
    refine twp_draw (List.range 12) [0, 1] (List.replicate 12 [0, 1]) (List.replicate 12 [0, 1]) (by kernel_rfl) (by kernel_rfl) (by kernel_rfl) (by kernel_rfl) ?_
    simp -dsimp [List.range_succ, t2, t3, m0, m1, h5, hlt, hlt2, hgeta, hgetb]
    refine call_ (samePlace_fn a.past[i] b.past[i] (ha.2.2 _ (List.getElem_mem _))) (by simp -dsimp) ?_
    have hq := ft (decide (a.past[i] = b.past[i]))
    rcases hq with hq | hq
    · have e : decide (a = b) = false := by
        simp at hq ⊢; rintro rfl; exact hq rfl
      simp -dsimp [List.range_succ, hq, e]
    · have hq' : a.past[i] = b.past[i] := by simpa using hq
      have htk2 := take_eq_succ hlt hlt2 htk hq'
      have hmu2 : b.past.length - (i + 1) < b.past.length - i := by omega
      simp -dsimp [List.range_succ, hq, h5, wi, hmu, hmu2]
      exact ⟨i + 1, by simp -dsimp [t2], by simp -dsimp [t3], by simp -dsimp [m0], by simp -dsimp [m1], by simp -dsimp, by omega, htk2, by simp⟩
  · rintro s ⟨i, t2, t3, m0, m1, h5, hi, htk, hend⟩
    have := hend rfl
    subst this
    rw [List.take_length, hn, List.take_length] at htk
    have e : decide (a = b) = true := by cases a; cases b; simp_all
    simp -dsimp [e]
def noDeskV : Desk := ⟨⟨0, []⟩, []⟩
theorem noDesk_fn (a : Desk) (ha : a.small) : FnZ Try.prog 30 [a.v] (.bool (decide (a = noDeskV))) := by
  refine FnZ_of (rs := [.tmp 2]) false Try.func30 rfl rfl rfl rfl (Nat.le_of_ble_eq_true rfl) ?_
  simp -dsimp
  refine call_ (sameDesk_fn a noDeskV ha) (by simp -dsimp [noDeskV]) ?_
  simp -dsimp
/-- Copies. -/
theorem cloneMarks_fn (l : List Mark) (hl : l.length ≤ 1048576) : FnZ Try.prog 95 [marksV l] (marksV l) := by
  have b1 : l.length * 16 ≤ 140737488355328 := by omega
  refine FnZ_of (rs := [.tmp 2]) false Try.func95 rfl rfl rfl rfl (Nat.le_of_ble_eq_true rfl) ?_
  simp -dsimp [b1]
def IcopyStory (l : List Claim) (e : Nat) (s : S) : Prop := ∃ i id : Nat, s.tm 7 = .v (.sl (l.map Claim.v)) ∧ s.tm 8 = .v (.int .i64 l.length) ∧ s.tm 9 = .v (.int .i64 i) ∧ s.mu = false ∧ i ≤ l.length ∧ s.tm 3 = .loc id ∧ id < s.n ∧ s.m id = some (.arr 44 ((l.take i).map Claim.v)) ∧ (e = 1 → i = l.length)
theorem copyStory_fn (l : List Claim) (hl : l.length ≤ 1048576) (hs : ∀ c ∈ l, c.small) : FnZ Try.prog 88 [storyV l] (storyV l) := by
  refine FnZ_of (rs := [.tmp 2]) false Try.func88 rfl rfl rfl rfl (Nat.le_of_ble_eq_true rfl) ?_
  simp -dsimp
  refine twp_loopC (IcopyStory l 0) (fun s => l.length - natOf (s.tm 9)) (IcopyStory l 1) ?_ ?_ ?_
  · exact ⟨0, 0, by simp -dsimp, by simp -dsimp, by simp -dsimp, by simp -dsimp, by omega, by simp -dsimp, by simp -dsimp, by simp -dsimp, by simp⟩
  · rintro s ⟨i, id, t7, t8, t9, hmu, hi, t3, hid, hm, hend⟩
    by_cases hlt : i < l.length
    case neg =>
      simp -dsimp [t8, t9, hlt]
      exact ⟨i, id, by simp -dsimp [t7], by simp -dsimp [t8], by simp -dsimp [t9], by simp -dsimp [hmu], hi, by simp -dsimp [t3], by simp -dsimp [hid], by simp -dsimp [hm], fun _ => by omega⟩
    have hget : (l.map Claim.v)[i]? = some (l[i].v) := by simp [hlt]
    have wi : IntKind.wrap .i64 ((i : Int) + 1) = ((i + 1 : Nat) : Int) := by rw [w64 (by omega) (by omega)]; omega
    have hmu1 : l.length - (i + 1) < l.length - i := by omega
    have f1 := far hid
    have b1 : (min i l.length + 1) * 32 ≤ 140737488355328 := by omega
    simp -dsimp [t7, t8, t9, hlt, hget]
    refine twp_draw (List.range 10) [s.n] (List.replicate 10 [0]) (List.replicate 10 [0]) (by kernel_rfl) (by kernel_rfl) (by kernel_rfl) (by kernel_rfl) ?_
    simp -dsimp [List.range_succ, t3]
    refine call_ (cloneMarks_fn l[i].says (hs _ (List.getElem_mem _))) (by simp -dsimp) ?_
    simp -dsimp [List.range_succ, t3, t9, hmu, f1, hm, b1, wi, hmu1, nes]
    refine ⟨i + 1, s.n + 1 + 1 + 1, by simp -dsimp [t7], by simp -dsimp [t8], by simp -dsimp, by simp -dsimp [hmu], by omega, by simp -dsimp, by simp -dsimp, ?_, by simp⟩
    have : (l.take (i + 1)).map Claim.v = (l.take i).map Claim.v ++ [l[i].v] := by rw [List.take_succ_eq_append_getElem hlt, List.map_append]; rfl
    rw [this]; simp -dsimp
  · rintro s ⟨i, id, t7, t8, t9, hmu, hi, t3, hid, hm, hend⟩
    have := hend rfl
    subst this
    rw [List.take_length] at hm
    simp -dsimp [t3, hm]
theorem copyPlace_fn (p : Place) (hp : p.small) : FnZ Try.prog 64 [p.v] p.v := by
  refine FnZ_of (rs := [.cell 2 25]) false Try.func64 rfl rfl rfl rfl (Nat.le_of_ble_eq_true rfl) ?_
  simp -dsimp
  refine twp_draw (List.range 7) [0] (List.replicate 7 [0]) (List.replicate 7 [0]) (by kernel_rfl) (by kernel_rfl) (by kernel_rfl) (by kernel_rfl) ?_
  simp -dsimp [List.range_succ]
  refine call_ (copyStory_fn p.story hp.1 hp.2) (by simp -dsimp) ?_
  simp -dsimp [List.range_succ]
end TL
