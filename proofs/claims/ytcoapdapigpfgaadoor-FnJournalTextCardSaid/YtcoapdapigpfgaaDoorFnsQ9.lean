/- Claims, stories, places: what is one. -/
import Derived.Test.YtcoapdapigpfgaaDoorFnsQ8
set_option linter.unusedSimpArgs false
set_option linter.unusedVariables false
set_option maxRecDepth 100000
set_option maxHeartbeats 4000000
set_option pp.maxSteps 1500
namespace TL
open Go Go.Proofs
attribute [local simp] marksV storyV codeV Claim.v Place.v
theorem peopleOk_at (p : Int) : FnZ Tryd.prog 97 [.int .i64 p] (.bool (peopleOk p)) := peopleOk_fn p
def claimOk (people : Int) (c : Claim) : Bool := peopleOk people && decide (0 ≤ c.who) && decide (c.who < people) && termOk people c.says && decide (c.says.length ≤ 13)
def storyOk (people : Int) (story : List Claim) : Bool := story.all (claimOk people) && peopleOk people && decide (story.length ≤ 6)
def placeOk (p : Place) : Bool := storyOk p.people p.story
/-- Rows that fit into a machine. -/
def Claim.fine (c : Claim) : Prop := fits c.says ∧ c.says.length < 1000000000000
def Place.fine (p : Place) : Prop := p.story.length < 1000000000000 ∧ ∀ c ∈ p.story, c.fine
theorem claimOk_fn (people : Int) (c : Claim) : FnZ Tryd.prog 90 [.int .i64 people, c.v] (.bool (claimOk people c)) := by
  refine FnZ_of (rs := [.tmp 4]) false Tryd.func90 rfl rfl rfl rfl (Nat.le_of_ble_eq_true rfl) ?_
  have hk := ft (peopleOk people)
  rcases hk with hk | hk
  · simp -dsimp
    refine call_ (peopleOk_at people) (by simp -dsimp) ?_
    simp -dsimp [hk, claimOk]
  · by_cases h1 : 0 ≤ c.who
    case neg =>
      simp -dsimp
      refine call_ (peopleOk_at people) (by simp -dsimp) ?_
      simp -dsimp [hk, claimOk, h1]
    by_cases h2 : c.who < people
    case neg =>
      simp -dsimp
      refine call_ (peopleOk_at people) (by simp -dsimp) ?_
      simp -dsimp [hk, claimOk, h1, h2]
    simp -dsimp
    refine call_ (peopleOk_at people) (by simp -dsimp) ?_
    simp -dsimp [hk, h1, h2]
    refine call_ (termOk_fn people c.says) (by simp -dsimp) ?_
    have ht := ft (termOk people c.says)
    rcases ht with ht | ht
    · simp -dsimp [hk, claimOk, h1, h2, ht]
    · simp -dsimp [hk, claimOk, h1, h2, ht]
      omega
theorem claimOk_eq (people : Int) (c : Claim) : claimOk people c = (decide (0 ≤ c.who) && decide (c.who < people) && termOk people c.says && decide (c.says.length ≤ 13)) := by
  unfold claimOk termOk
  cases peopleOk people <;> simp
theorem claimOkS_fn (people : Int) (c : Claim) (hc : c.fine) : FnZ Tryd.prog 87 [.int .i64 people, c.v] (.bool (claimOk people c)) := by
  rw [claimOk_eq]
  refine FnZ_of (rs := [.tmp 4]) false Tryd.func87 rfl rfl rfl rfl (Nat.le_of_ble_eq_true rfl) ?_
  by_cases h1 : 0 ≤ c.who
  case neg => simp -dsimp [h1]
  by_cases h2 : c.who < people
  case neg => simp -dsimp [h1, h2]
  simp -dsimp [h1, h2]
  refine call_ (termOkS_fn people c.says hc.1 hc.2) (by simp -dsimp) ?_
  have ht := ft (termOk people c.says)
  rcases ht with ht | ht
  · simp -dsimp [h1, h2, ht]
  · simp -dsimp [h1, h2, ht]
    omega
def SOI (people : Int) (l : List Claim) (a b c : Nat) (e : Nat) (s : S) : Prop := ∃ i : Nat, s.tm 0 = .v (.int .i64 people) ∧ s.tm a = .v (.sl (l.map Claim.v)) ∧ (c = 0 ∨ s.tm c = .v (.int .i64 l.length)) ∧ s.tm 1 = .v (.sl (l.map Claim.v)) ∧ s.tm b = .v (.int .i64 i) ∧ i ≤ l.length ∧ (l.take i).all (claimOk people) = true ∧ (e = 1 → i = l.length)
theorem all_take_succ {α : Type} {l : List α} {f : α → Bool} {i : Nat} (h : i < l.length) : (l.take (i + 1)).all f = ((l.take i).all f && f l[i]) := by
  rw [List.take_succ_eq_append_getElem h]; simp only [List.all_append, List.all_cons, List.all_nil, Bool.and_true]
theorem all_bad {α : Type} {l : List α} {f : α → Bool} {i : Nat} (h : i < l.length) (hf : f l[i] = false) : l.all f = false := by
  rw [List.all_eq_false]; exact ⟨l[i], List.getElem_mem _, by simp [hf]⟩
theorem storyOk_fn (people : Int) (l : List Claim) (hl : l.length < 1000000000000) : FnZ Tryd.prog 67 [.int .i64 people, storyV l] (.bool (storyOk people l)) := by
  refine FnZ_of (rs := [.tmp 4]) false Tryd.func67 rfl rfl rfl rfl (Nat.le_of_ble_eq_true rfl) ?_
  simp -dsimp
  refine twp_loopC (SOI people l 7 9 8 0) (fun s => l.length - natOf (s.tm 9)) (SOI people l 7 9 8 1) ?_ ?_ ?_
  · exact ⟨0, by simp -dsimp, by simp -dsimp, .inr (by simp -dsimp), by simp -dsimp, by simp -dsimp, by simp, by simp, by simp⟩
  · rintro s ⟨i, h0, h7, h8, h1, h9, hi, hall, hend⟩
    have h8 := h8.resolve_left (by decide)
    by_cases hlt : i < l.length
    case neg =>
      simp -dsimp [h9, h8, hlt]
      exact ⟨i, by simp -dsimp [h0], by simp -dsimp [h7], .inr (by simp -dsimp [h8]), by simp -dsimp [h1], by simp -dsimp [h9], hi, hall, fun _ => by omega⟩
    have hget : (l.map Claim.v)[i]? = some l[i].v := by simp [hlt]
    have hcl : l[i].v = .agg [.int .i64 l[i].who, .sl (l[i].says.map Mark.v)] := rfl
    have hall' := all_take_succ (f := claimOk people) hlt
    have wi : IntKind.wrap .i64 ((i : Int) + 1) = ((i + 1 : Nat) : Int) := by rw [w64 (by omega) (by omega)]; omega
    have hmu : l.length - (i + 1) < l.length - i := by omega
    have hbad := all_bad (f := claimOk people) hlt
    simp -dsimp [h9, h8, h7, h0, hlt, hget]
    refine call_ (claimOk_fn people l[i]) (by simp -dsimp) ?_
    have hc := ft (claimOk people l[i])
    rcases hc with hc | hc
    · simp -dsimp [hc, storyOk, hbad hc]
    · simp -dsimp [hc, h9, wi, hmu]
      exact ⟨i + 1, by simp -dsimp [h0], by simp -dsimp [h7], .inr (by simp -dsimp [h8]), by simp -dsimp [h1], by simp -dsimp, by omega, by rw [hall', hall, hc]; rfl, by simp⟩
  · rintro s ⟨i, h0, h7, h8, h1, h9, hi, hall, hend⟩
    have := hend rfl
    subst this
    rw [List.take_length] at hall
    simp -dsimp [h0]
    refine call_ (peopleOk_at people) (by simp -dsimp) ?_
    have hk := ft (peopleOk people)
    rcases hk with hk | hk
    · simp -dsimp [storyOk, hk]
    · simp -dsimp [h1, storyOk, hk, hall]
      omega
theorem storyOkS_fn (people : Int) (l : List Claim) (hl : l.length < 1000000000000) (hf : ∀ c ∈ l, c.fine) : FnZ Tryd.prog 86 [.int .i64 people, storyV l] (.bool (storyOk people l)) := by
  refine FnZ_of (rs := [.tmp 4]) false Tryd.func86 rfl rfl rfl rfl (Nat.le_of_ble_eq_true rfl) ?_
  simp -dsimp
  refine twp_loopC (SOI people l 1 5 0 0) (fun s => l.length - natOf (s.tm 5)) (SOI people l 1 5 0 1) ?_ ?_ ?_
  · exact ⟨0, by simp -dsimp, by simp -dsimp, .inl rfl, by simp -dsimp, by simp -dsimp, by simp, by simp, by simp⟩
  · rintro s ⟨i, h0, h7, _, h1, h9, hi, hall, hend⟩
    by_cases hlt : i < l.length
    case neg =>
      simp -dsimp [h9, h1, hlt]
      exact ⟨i, by simp -dsimp [h0], by simp -dsimp [h7], .inl rfl, by simp -dsimp [h1], by simp -dsimp [h9], hi, hall, fun _ => by omega⟩
    have hget : (l.map Claim.v)[i]? = some l[i].v := by simp [hlt]
    have hcl : l[i].v = .agg [.int .i64 l[i].who, .sl (l[i].says.map Mark.v)] := rfl
    have hall' := all_take_succ (f := claimOk people) hlt
    have wi : IntKind.wrap .i64 ((i : Int) + 1) = ((i + 1 : Nat) : Int) := by rw [w64 (by omega) (by omega)]; omega
    have hmu : l.length - (i + 1) < l.length - i := by omega
    have hbad := all_bad (f := claimOk people) hlt
    simp -dsimp [h9, h1, h0, hlt, hget]
    refine call_ (claimOkS_fn people l[i] (hf _ (List.getElem_mem _))) (by simp -dsimp) ?_
    have hc := ft (claimOk people l[i])
    rcases hc with hc | hc
    · simp -dsimp [hc, storyOk, hbad hc]
    · simp -dsimp [hc, h9, wi, hmu]
      exact ⟨i + 1, by simp -dsimp [h0], by simp -dsimp [h7], .inl rfl, by simp -dsimp [h1], by simp -dsimp, by omega, by rw [hall', hall, hc]; rfl, by simp⟩
  · rintro s ⟨i, h0, h7, h8, h1, h9, hi, hall, hend⟩
    have := hend rfl
    subst this
    rw [List.take_length] at hall
    simp -dsimp [h0]
    refine call_ (l1In_fn people 1 4) (by simp -dsimp) ?_
    have hpk : inR people 1 4 = peopleOk people := rfl
    have hk := ft (peopleOk people)
    rcases hk with hk | hk
    · simp -dsimp [storyOk, hk, hpk]
    · simp -dsimp [h1, storyOk, hk, hall, hpk]
      omega
theorem placeOk_fn (p : Place) (hl : p.story.length < 1000000000000) : FnZ Tryd.prog 33 [p.v] (.bool (placeOk p)) := by
  refine FnZ_of (rs := [.tmp 2]) false Tryd.func33 rfl rfl rfl rfl (Nat.le_of_ble_eq_true rfl) ?_
  simp -dsimp
  refine call_ (storyOk_fn p.people p.story hl) (by simp -dsimp) ?_
  simp -dsimp [placeOk]
theorem placeOkS_fn (p : Place) (hp : p.fine) : FnZ Tryd.prog 59 [p.v] (.bool (placeOk p)) := by
  refine FnZ_of (rs := [.tmp 2]) false Tryd.func59 rfl rfl rfl rfl (Nat.le_of_ble_eq_true rfl) ?_
  simp -dsimp
  refine call_ (storyOkS_fn p.people p.story hp.1 hp.2) (by simp -dsimp) ?_
  simp -dsimp [placeOk]
end TL
