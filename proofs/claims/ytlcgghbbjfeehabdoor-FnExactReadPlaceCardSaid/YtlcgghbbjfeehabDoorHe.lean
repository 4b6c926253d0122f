/- TL: parts Fns9, FnsX, FnsR3, TlRow, Fns12, FnsD, Fns15, FnsR4, FnsR6, Fns3, Fns4, Fns5, Fns6, Fns10, FnsR7, FnsR8, Fns13, TlOpen, Fns14, FnsR9, FnsE1, FnsL1, FnsE2, FnsE4. -/
import Derived.Test.YtlcgghbbjfeehabDoorHd
import Derived.Test.YtlcgghbbjfeehabDoorHc
import Derived.ChangeArms
import Derived.WideShapes
import Derived.KernelRfl
import Derived.Lib.ItoaNum
import Derived.Test.YtlcgghbbjfeehabDoorShelfA
import Derived.Shelf.Strings.OnBuilder
import Derived.Shelf.Strconv.Itoa3
/- Claims, stories, places: what is one. -/
set_option linter.unusedSimpArgs false
set_option linter.unusedVariables false
set_option maxRecDepth 100000
set_option maxHeartbeats 4000000
set_option pp.maxSteps 1500
namespace TL
open Go Go.Proofs
attribute [local simp] marksV storyV codeV Claim.v Place.v
theorem peopleOk_at (p : Int) : FnZ Tryd.prog 60 [.int .i64 p] (.bool (peopleOk p)) := peopleOk_fn p
def claimOk (people : Int) (c : Claim) : Bool := peopleOk people && decide (0 ≤ c.who) && decide (c.who < people) && termOk people c.says && decide (c.says.length ≤ 13)
def storyOk (people : Int) (story : List Claim) : Bool := story.all (claimOk people) && peopleOk people && decide (story.length ≤ 6)
def placeOk (p : Place) : Bool := storyOk p.people p.story
/-- Rows that fit into a machine. -/
def Claim.fine (c : Claim) : Prop := fits c.says ∧ c.says.length < 1000000000000
def Place.fine (p : Place) : Prop := p.story.length < 1000000000000 ∧ ∀ c ∈ p.story, c.fine
theorem claimOk_fn (people : Int) (c : Claim) : FnZ Tryd.prog 64 [.int .i64 people, c.v] (.bool (claimOk people c)) := by
  refine FnZ_of (rs := [.tmp 4]) false Tryd.func64 rfl rfl rfl rfl (Nat.le_of_ble_eq_true rfl) ?_
  have hk := ft (peopleOk people)
  rcases hk with hk | hk
  · simp -dsimp
    refine call_ (peopleOk_at people) (by simp -dsimp) ?_
    simp -dsimp [hk, claimOk]
  · by_cases h1 : 0 ≤ c.who
    case neg =>
      simp -dsimp
      refine call_ (peopleOk_at people) (by simp -dsimp) ?_
      simp -dsimp [hk, claimOk, h1]
    by_cases h2 : c.who < people
    case neg =>
      simp -dsimp
      refine call_ (peopleOk_at people) (by simp -dsimp) ?_
      simp -dsimp [hk, claimOk, h1, h2]
    simp -dsimp
    refine call_ (peopleOk_at people) (by simp -dsimp) ?_
    simp -dsimp [hk, h1, h2]
    refine call_ (termOk_fn people c.says) (by simp -dsimp) ?_
    have ht := ft (termOk people c.says)
    rcases ht with ht | ht
    · simp -dsimp [hk, claimOk, h1, h2, ht]
    · simp -dsimp [hk, claimOk, h1, h2, ht]
      omega
theorem claimOk_eq (people : Int) (c : Claim) : claimOk people c = (decide (0 ≤ c.who) && decide (c.who < people) && termOk people c.says && decide (c.says.length ≤ 13)) := by
  unfold claimOk termOk
  cases peopleOk people <;> simp
theorem claimOkS_fn (people : Int) (c : Claim) (hc : c.fine) : FnZ Tryd.prog 55 [.int .i64 people, c.v] (.bool (claimOk people c)) := by
  rw [claimOk_eq]
  refine FnZ_of (rs := [.tmp 4]) false Tryd.func55 rfl rfl rfl rfl (Nat.le_of_ble_eq_true rfl) ?_
  by_cases h1 : 0 ≤ c.who
  case neg => simp -dsimp [h1]
  by_cases h2 : c.who < people
  case neg => simp -dsimp [h1, h2]
  simp -dsimp [h1, h2]
  refine call_ (termOkS_fn people c.says hc.1 hc.2) (by simp -dsimp) ?_
  have ht := ft (termOk people c.says)
  rcases ht with ht | ht
  · simp -dsimp [h1, h2, ht]
  · simp -dsimp [h1, h2, ht]
    omega
def SOI (people : Int) (l : List Claim) (a b c : Nat) (e : Nat) (s : S) : Prop := ∃ i : Nat, s.tm 0 = .v (.int .i64 people) ∧ s.tm a = .v (.sl (l.map Claim.v)) ∧ (c = 0 ∨ s.tm c = .v (.int .i64 l.length)) ∧ s.tm 1 = .v (.sl (l.map Claim.v)) ∧ s.tm b = .v (.int .i64 i) ∧ i ≤ l.length ∧ (l.take i).all (claimOk people) = true ∧ (e = 1 → i = l.length)
theorem all_take_succ {α : Type} {l : List α} {f : α → Bool} {i : Nat} (h : i < l.length) : (l.take (i + 1)).all f = ((l.take i).all f && f l[i]) := by
  rw [List.take_succ_eq_append_getElem h]; simp only [List.all_append, List.all_cons, List.all_nil, Bool.and_true]
theorem all_bad {α : Type} {l : List α} {f : α → Bool} {i : Nat} (h : i < l.length) (hf : f l[i] = false) : l.all f = false := by
  rw [List.all_eq_false]; exact ⟨l[i], List.getElem_mem _, by simp [hf]⟩
theorem storyOk_fn (people : Int) (l : List Claim) (hl : l.length < 1000000000000) : FnZ Tryd.prog 65 [.int .i64 people, storyV l] (.bool (storyOk people l)) := by
  refine FnZ_of (rs := [.tmp 4]) false Tryd.func65 rfl rfl rfl rfl (Nat.le_of_ble_eq_true rfl) ?_
  simp -dsimp
  refine twp_loopC (SOI people l 7 9 8 0) (fun s => l.length - natOf (s.tm 9)) (SOI people l 7 9 8 1) ?_ ?_ ?_
  · exact ⟨0, by simp -dsimp, by simp -dsimp, .inr (by simp -dsimp), by simp -dsimp, by simp -dsimp, by simp, by simp, by simp⟩
  · rintro s ⟨i, h0, h7, h8, h1, h9, hi, hall, hend⟩
    have h8 := h8.resolve_left (by decide)
    by_cases hlt : i < l.length
    case neg =>
      simp -dsimp [h9, h8, hlt]
      exact ⟨i, by simp -dsimp [h0], by simp -dsimp [h7], .inr (by simp -dsimp [h8]), by simp -dsimp [h1], by simp -dsimp [h9], hi, hall, fun _ => by omega⟩
    have hget : (l.map Claim.v)[i]? = some l[i].v := by simp [hlt]
    have hcl : l[i].v = .agg [.int .i64 l[i].who, .sl (l[i].says.map Mark.v)] := rfl
    have hall' := all_take_succ (f := claimOk people) hlt
    have wi : IntKind.wrap .i64 ((i : Int) + 1) = ((i + 1 : Nat) : Int) := by rw [w64 (by omega) (by omega)]; omega
    have hmu : l.length - (i + 1) < l.length - i := by omega
    have hbad := all_bad (f := claimOk people) hlt
    simp -dsimp [h9, h8, h7, h0, hlt, hget]
    refine call_ (claimOk_fn people l[i]) (by simp -dsimp) ?_
    have hc := ft (claimOk people l[i])
    rcases hc with hc | hc
    · simp -dsimp [hc, storyOk, hbad hc]
    · simp -dsimp [hc, h9, wi, hmu]
      exact ⟨i + 1, by simp -dsimp [h0], by simp -dsimp [h7], .inr (by simp -dsimp [h8]), by simp -dsimp [h1], by simp -dsimp, by omega, by rw [hall', hall, hc]; rfl, by simp⟩
  · rintro s ⟨i, h0, h7, h8, h1, h9, hi, hall, hend⟩
    have := hend rfl
    subst this
    rw [List.take_length] at hall
    simp -dsimp [h0]
    refine call_ (peopleOk_at people) (by simp -dsimp) ?_
    have hk := ft (peopleOk people)
    rcases hk with hk | hk
    · simp -dsimp [storyOk, hk]
    · simp -dsimp [h1, storyOk, hk, hall]
      omega
theorem storyOkS_fn (people : Int) (l : List Claim) (hl : l.length < 1000000000000) (hf : ∀ c ∈ l, c.fine) : FnZ Tryd.prog 56 [.int .i64 people, storyV l] (.bool (storyOk people l)) := by
  refine FnZ_of (rs := [.tmp 4]) false Tryd.func56 rfl rfl rfl rfl (Nat.le_of_ble_eq_true rfl) ?_
  simp -dsimp
  refine twp_loopC (SOI people l 1 5 0 0) (fun s => l.length - natOf (s.tm 5)) (SOI people l 1 5 0 1) ?_ ?_ ?_
  · exact ⟨0, by simp -dsimp, by simp -dsimp, .inl rfl, by simp -dsimp, by simp -dsimp, by simp, by simp, by simp⟩
  · rintro s ⟨i, h0, h7, _, h1, h9, hi, hall, hend⟩
    by_cases hlt : i < l.length
    case neg =>
      simp -dsimp [h9, h1, hlt]
      exact ⟨i, by simp -dsimp [h0], by simp -dsimp [h7], .inl rfl, by simp -dsimp [h1], by simp -dsimp [h9], hi, hall, fun _ => by omega⟩
    have hget : (l.map Claim.v)[i]? = some l[i].v := by simp [hlt]
    have hcl : l[i].v = .agg [.int .i64 l[i].who, .sl (l[i].says.map Mark.v)] := rfl
    have hall' := all_take_succ (f := claimOk people) hlt
    have wi : IntKind.wrap .i64 ((i : Int) + 1) = ((i + 1 : Nat) : Int) := by rw [w64 (by omega) (by omega)]; omega
    have hmu : l.length - (i + 1) < l.length - i := by omega
    have hbad := all_bad (f := claimOk people) hlt
    simp -dsimp [h9, h1, h0, hlt, hget]
    refine call_ (claimOkS_fn people l[i] (hf _ (List.getElem_mem _))) (by simp -dsimp) ?_
    have hc := ft (claimOk people l[i])
    rcases hc with hc | hc
    · simp -dsimp [hc, storyOk, hbad hc]
    · simp -dsimp [hc, h9, wi, hmu]
      exact ⟨i + 1, by simp -dsimp [h0], by simp -dsimp [h7], .inl rfl, by simp -dsimp [h1], by simp -dsimp, by omega, by rw [hall', hall, hc]; rfl, by simp⟩
  · rintro s ⟨i, h0, h7, h8, h1, h9, hi, hall, hend⟩
    have := hend rfl
    subst this
    rw [List.take_length] at hall
    simp -dsimp [h0]
    refine call_ (l1In_fn people 1 4) (by simp -dsimp) ?_
    have hpk : inR people 1 4 = peopleOk people := rfl
    have hk := ft (peopleOk people)
    rcases hk with hk | hk
    · simp -dsimp [storyOk, hk, hpk]
    · simp -dsimp [h1, storyOk, hk, hall, hpk]
      omega
theorem placeOk_fn (p : Place) (hl : p.story.length < 1000000000000) : FnZ Tryd.prog 42 [p.v] (.bool (placeOk p)) := by
  refine FnZ_of (rs := [.tmp 2]) false Tryd.func42 rfl rfl rfl rfl (Nat.le_of_ble_eq_true rfl) ?_
  simp -dsimp
  refine call_ (storyOk_fn p.people p.story hl) (by simp -dsimp) ?_
  simp -dsimp [placeOk]
theorem placeOkS_fn (p : Place) (hp : p.fine) : FnZ Tryd.prog 37 [p.v] (.bool (placeOk p)) := by
  refine FnZ_of (rs := [.tmp 2]) false Tryd.func37 rfl rfl rfl rfl (Nat.le_of_ble_eq_true rfl) ?_
  simp -dsimp
  refine call_ (storyOkS_fn p.people p.story hp.1 hp.2) (by simp -dsimp) ?_
  simp -dsimp [placeOk]
end TL

/- The texts of claims. -/
set_option linter.unusedSimpArgs false
set_option linter.unusedVariables false
set_option maxRecDepth 100000
set_option maxHeartbeats 4000000
set_option pp.maxSteps 1500
namespace TL
open Go Go.Proofs
attribute [local simp] marksV storyV codeV Claim.v Place.v
theorem claimOk_who {people : Int} {c : Claim} (h : claimOk people c = true) : 0 ≤ c.who ∧ c.who < 4 ∧ termOk people c.says = true ∧ c.says.length ≤ 13 := by
  simp only [claimOk, peopleOk, Bool.and_eq_true, decide_eq_true_eq] at h
  exact ⟨by omega, by omega, h.1.2, h.2⟩
/-- The text of a claim whose term is a tree. -/
def claimText (c : Claim) (T : Tm) : List UInt8 := UInt8.ofNat (97 + c.who.toNat) :: 58 :: T.text
theorem claimText_no (people : Int) (c : Claim) (h : claimOk people c = false) : FnZ Tryd.prog 43 [.int .i64 people, c.v] (.str []) := by
  refine FnZ_of (rs := [.tmp 4]) false Tryd.func43 rfl rfl rfl rfl (Nat.le_of_ble_eq_true rfl) ?_
  simp -dsimp
  refine call_ (claimOk_fn people c) (by simp -dsimp) ?_
  simp -dsimp [h]
theorem claimTextS_no (people : Int) (c : Claim) (hf : c.fine) (h : claimOk people c = false) : FnZ Tryd.prog 36 [.int .i64 people, c.v] (.str []) := by
  refine FnZ_of (rs := [.tmp 4]) false Tryd.func36 rfl rfl rfl rfl (Nat.le_of_ble_eq_true rfl) ?_
  simp -dsimp
  refine call_ (claimOkS_fn people c hf) (by simp -dsimp) ?_
  simp -dsimp [h]
theorem claimText_fn (people : Int) (c : Claim) (h : claimOk people c = true) (T : Tm) (hT : T.ok) (hm : T.marks = c.says) : FnZ Tryd.prog 43 [.int .i64 people, c.v] (.str (claimText c T)) := by
  obtain ⟨h0, h4, ht, hl⟩ := claimOk_who h
  have htx := textOf_fn T hT (by rw [hm]; omega)
  rw [hm] at htx
  have hlen := T.text_len
  rw [hm] at hlen
  have w1 : IntKind.wrap .i64 (97 + c.who) = 97 + c.who := w64 (by omega) (by omega)
  have w2 : IntKind.wrap .u8 (97 + c.who) = 97 + c.who := by rw [IntKind.wrap_u8]; omega
  have w3 : (97 + c.who).toNat = 97 + c.who.toNat := by omega
  have c1 : (1 : Int) + 1 + T.text.length ≤ 9223372036854775807 := by omega
  have c2 : (2 : Int) + T.text.length ≤ 9223372036854775807 := by omega
  unfold claimText
  generalize T.text = s at *
  refine FnZ_of (rs := [.tmp 4]) false Tryd.func43 rfl rfl rfl rfl (Nat.le_of_ble_eq_true rfl) ?_
  simp -dsimp
  refine call_ (claimOk_fn people c) (by simp -dsimp) ?_
  simp -dsimp [h]
  refine twp_draw [0, 1, 2, 3, 7, 8, 1009, 4, 5, 6, 10, 11] [0, 1] [[0], [0], [0], [0], [0], [0, 1], [0], [0], [0], [0], [0], [0]] (List.replicate 4 [0, 1] ++ [[0]] ++ List.replicate 7 [0, 1]) (by kernel_rfl) (by kernel_rfl) (by kernel_rfl) (by kernel_rfl) ?_
  simp -dsimp [List.range_succ, w1, w2, w3]
  refine pure_ htx (by simp -dsimp) ?_
  simp -dsimp [List.range_succ, w1, w2, w3, c1, c2]
theorem claimTextS_fn (people : Int) (c : Claim) (hf : c.fine) (h : claimOk people c = true) (T : Tm) (hT : T.ok) (hm : T.marks = c.says) : FnZ Tryd.prog 36 [.int .i64 people, c.v] (.str (claimText c T)) := by
  obtain ⟨h0, h4, ht, hl⟩ := claimOk_who h
  have htx := l2Text_fn T hT (by rw [hm]; omega)
  rw [hm] at htx
  have hlen := T.text_len
  rw [hm] at hlen
  have c1 : (1 : Int) + 1 + T.text.length ≤ 9223372036854775807 := by omega
  have c2 : (2 : Int) + T.text.length ≤ 9223372036854775807 := by omega
  have hw : c.who = 0 ∨ c.who = 1 ∨ c.who = 2 ∨ c.who = 3 := by omega
  have hok := claimOkS_fn people c hf
  rw [h] at hok
  unfold claimText
  generalize T.text = s at *
  obtain ⟨who, says⟩ := c
  simp only at hw
  rcases hw with rfl | rfl | rfl | rfl
  all_goals
    refine FnZ_of (rs := [.tmp 4]) false Tryd.func36 rfl rfl rfl rfl (Nat.le_of_ble_eq_true rfl) ?_
    simp -dsimp
    refine call_ hok (by simp -dsimp) ?_
    simp -dsimp
    refine twp_draw (List.range 12) [0] (List.replicate 12 [0]) (List.replicate 12 [0]) (by kernel_rfl) (by kernel_rfl) (by kernel_rfl) (by kernel_rfl) ?_
    simp -dsimp [List.range_succ, show IntKind.wrap .i64 1 = 1 from rfl, show IntKind.wrap .i64 2 = 2 from rfl, show IntKind.wrap .i64 3 = 3 from rfl, show IntKind.wrap .i64 4 = 4 from rfl]
    refine call_ htx (by simp -dsimp) ?_
    simp -dsimp [List.range_succ, c1, c2]
end TL

/- Claims, their texts, and what is read: the plain part. -/
set_option linter.unusedSimpArgs false
set_option linter.unusedVariables false
set_option maxRecDepth 100000
namespace TL
def Tm.bins : Tm → Nat
  | .tells _ => 0
  | .count _ => 0
  | .not a => a.bins
  | .bin _ a b => a.bins + b.bins + 1
theorem Tm.bins_le : ∀ T : Tm, 2 * T.bins + 1 ≤ T.marks.length
  | .tells _ => by simp [bins, marks]
  | .count _ => by simp [bins, marks]
  | .not a => by have := a.bins_le; simp [bins, marks]; omega
  | .bin k a b => by have := a.bins_le; have := b.bins_le; simp [bins, marks]; omega
theorem par_len2 (q : Bool) (T : Tm) (hq : q = true → 3 ≤ T.kind) (h : T.text.length + (if 3 ≤ T.kind then 2 else 0) ≤ T.marks.length + 2 * T.bins) : (par q T.text).length ≤ T.marks.length + 2 * T.bins := by
  cases q with
  | false => simp only [par, Bool.false_eq_true, if_false]; omega
  | true =>
    have := hq rfl
    rw [if_pos this] at h
    simp [par]; omega
theorem Tm.text_len2 : ∀ T : Tm, T.text.length + (if 3 ≤ T.kind then 2 else 0) ≤ T.marks.length + 2 * T.bins
  | .tells _ => by simp [text, marks, kind, bins]
  | .count _ => by simp [text, marks, kind, bins]
  | .not a => by
    have := par_len2 (decide (3 ≤ a.kind)) a (by simp) a.text_len2
    rw [if_neg (by simp [kind])]
    simp only [text, marks, bins, List.length_append, List.length_cons, List.length_nil]; omega
  | .bin k a b => by
    have h1 := par_len2 (decide (3 + k < a.kind)) a (by simp; omega) a.text_len2
    have h2 := par_len2 (decide (3 + k ≤ b.kind)) b (by simp; omega) b.text_len2
    rw [if_pos (by simp [kind])]
    simp only [text, marks, bins, List.length_append, List.length_cons, List.length_nil]; omega
theorem Tm.text_short (T : Tm) : T.text.length + 1 ≤ 2 * T.marks.length := by
  have := T.text_len2; have := T.bins_le
  have h : T.text.length ≤ T.marks.length + 2 * T.bins := by omega
  omega
theorem termText_len {people : Int} {t : List Mark} (h : termOk people t = true) : (termText people t).length + 1 ≤ 2 * t.length := by
  obtain ⟨T, _, h2, h3⟩ := termText_tree h
  rw [← h3, ← h2]; exact T.text_short
theorem termOk_len {people : Int} {t : List Mark} (h : termOk people t = true) : 1 ≤ t.length ∧ t.length ≤ 15 ∧ 1 ≤ people ∧ people ≤ 4 := by
  simp only [termOk, peopleOk, Bool.and_eq_true, decide_eq_true_eq] at h
  omega
/-- No blank, no newline, no comma, no dot, no colon. -/
def plain (c : UInt8) : Prop := c ≠ 32 ∧ c ≠ 10 ∧ c ≠ 44 ∧ c ≠ 46 ∧ c ≠ 58
theorem par_plain {q : Bool} {s : List UInt8} (h : ∀ c ∈ s, plain c) : ∀ c ∈ par q s, plain c := by
  cases q with
  | false => exact h
  | true =>
    intro c hc
    simp only [par, if_true, List.mem_cons, List.mem_append, List.mem_nil_iff, or_false] at hc
    rcases hc with rfl | hc | rfl
    · exact ⟨by decide, by decide, by decide, by decide, by decide⟩
    · exact h c hc
    · exact ⟨by decide, by decide, by decide, by decide, by decide⟩
theorem Tm.text_plain : ∀ T : Tm, T.ok → ∀ c ∈ T.text, plain c
  | .tells i, h, c, hc => by
    have hi : i < 4 := h
    cases List.mem_singleton.1 hc
    rcases (by omega : i = 0 ∨ i = 1 ∨ i = 2 ∨ i = 3) with rfl | rfl | rfl | rfl <;> exact ⟨by decide, by decide, by decide, by decide, by decide⟩
  | .count i, h, c, hc => by
    have hi : i < 6 := h
    cases List.mem_singleton.1 hc
    rcases (by omega : i = 0 ∨ i = 1 ∨ i = 2 ∨ i = 3 ∨ i = 4 ∨ i = 5) with rfl | rfl | rfl | rfl | rfl | rfl <;> exact ⟨by decide, by decide, by decide, by decide, by decide⟩
  | .not a, h, c, hc => by
    rcases List.mem_cons.1 hc with rfl | hc
    · exact ⟨by decide, by decide, by decide, by decide, by decide⟩
    · exact par_plain (a.text_plain h) c hc
  | .bin k a b, h, c, hc => by
    rcases List.mem_append.1 hc with hc | hc
    · exact par_plain (a.text_plain h.2.1) c hc
    rcases List.mem_cons.1 hc with rfl | hc
    · have hk := h.1
      rcases (by omega : k = 0 ∨ k = 1 ∨ k = 2) with rfl | rfl | rfl <;> exact ⟨by decide, by decide, by decide, by decide, by decide⟩
    · exact par_plain (b.text_plain h.2.2) c hc
theorem termText_plain {people : Int} {t : List Mark} (h : termOk people t = true) : ∀ c ∈ termText people t, plain c := by
  obtain ⟨T, h1, _, h3⟩ := termText_tree h
  rw [← h3]; exact T.text_plain h1
/-- The text of a claim. -/
noncomputable def claimTx (people : Int) (c : Claim) : List UInt8 := if claimOk people c = true then UInt8.ofNat (97 + c.who.toNat) :: 58 :: termText people c.says else []
theorem claimOk_all {people : Int} {c : Claim} (h : claimOk people c = true) : 1 ≤ people ∧ people ≤ 4 ∧ 0 ≤ c.who ∧ c.who < people ∧ termOk people c.says = true ∧ c.says.length ≤ 13 := by
  simp only [claimOk, peopleOk, Bool.and_eq_true, decide_eq_true_eq] at h
  exact ⟨by omega, by omega, by omega, by omega, h.1.2, h.2⟩
theorem claimOk_mk {people : Int} {c : Claim} (h0 : 0 ≤ c.who) (h1 : c.who < people) (h2 : termOk people c.says = true) (h3 : c.says.length ≤ 13) : claimOk people c = true := by
  have := termOk_len h2
  simp only [claimOk, peopleOk, Bool.and_eq_true, decide_eq_true_eq]
  exact ⟨⟨⟨⟨⟨by omega, by omega⟩, h0⟩, h1⟩, h2⟩, h3⟩
theorem claimTx_fn (people : Int) (c : Claim) : FnZ Go.Proofs.Tryd.prog 43 [.int .i64 people, c.v] (.str (claimTx people c)) := by
  have hk := ft (claimOk people c)
  rcases hk with hk | hk
  · have := claimText_no people c hk
    unfold claimTx; rw [if_neg (by simp [hk])]; exact this
  · obtain ⟨T, h1, h2, h3⟩ := termText_tree (claimOk_all hk).2.2.2.2.1
    have := claimText_fn people c hk T h1 h2
    unfold claimTx; rw [if_pos hk, ← h3]; exact this
theorem claimTxS_fn (people : Int) (c : Claim) (hf : c.fine) : FnZ Go.Proofs.Tryd.prog 36 [.int .i64 people, c.v] (.str (claimTx people c)) := by
  have hk := ft (claimOk people c)
  rcases hk with hk | hk
  · have := claimTextS_no people c hf hk
    unfold claimTx; rw [if_neg (by simp [hk])]; exact this
  · obtain ⟨T, h1, h2, h3⟩ := termText_tree (claimOk_all hk).2.2.2.2.1
    have := claimTextS_fn people c hf hk T h1 h2
    unfold claimTx; rw [if_pos hk, ← h3]; exact this
theorem letter_back {w : Int} (h0 : 0 ≤ w) (h4 : w < 4) : ((UInt8.ofNat (97 + w.toNat)).toNat : Int) - 97 = w := by
  rw [UInt8.toNat_ofNat']; omega
theorem letter_fwd (a : UInt8) (w : Int) (h : w = (a.toNat : Int) - 97) (h0 : 0 ≤ w) : UInt8.ofNat (97 + w.toNat) = a := by
  have := UInt8.toNat_lt a
  apply UInt8.toNat.inj
  rw [UInt8.toNat_ofNat']; omega
theorem claimTx_len {people : Int} {c : Claim} (h : claimOk people c = true) : 3 ≤ (claimTx people c).length ∧ (claimTx people c).length ≤ 27 ∧ (termText people c.says).length ≤ 25 ∧ 1 ≤ (termText people c.says).length := by
  obtain ⟨h1, h2, h3, h4, h5, h6⟩ := claimOk_all h
  have := termText_len h5
  have hp := List.length_pos_iff.2 (termText_pos h5)
  unfold claimTx; rw [if_pos h]; simp; omega
/-- What ReadClaim finds. -/
noncomputable def readC (people : Int) (s : List UInt8) : Option Claim := match s with
  | a :: b :: rest => if b = 58 then (readT people rest).bind fun t => if claimOk people ⟨(a.toNat : Int) - 97, t⟩ = true then some ⟨(a.toNat : Int) - 97, t⟩ else none else none
  | _ => none
theorem readC_text {people : Int} {c : Claim} (h : claimOk people c = true) : readC people (claimTx people c) = some c := by
  obtain ⟨h1, h2, h3, h4, h5, h6⟩ := claimOk_all h
  have hl := (claimTx_len h).2.2.1
  unfold claimTx; rw [if_pos h]
  unfold readC
  simp only [if_true]
  rw [readT_some (by omega) h5 rfl]
  simp only [Option.bind_some]
  rw [letter_back h3 (by omega)]
  exact if_pos h
theorem readC_is {people : Int} {s : List UInt8} {c : Claim} (h : readC people s = some c) : claimOk people c = true ∧ claimTx people c = s := by
  unfold readC at h
  split at h
  · rename_i a b rest
    split at h
    · rename_i hb
      cases e : readT people rest with
      | none => rw [e] at h; cases h
      | some t =>
        rw [e, Option.bind_some] at h
        split at h
        · rename_i hk
          cases h
          obtain ⟨_, h2, h3⟩ := readT_is e
          refine ⟨hk, ?_⟩
          obtain ⟨_, _, g3, _, _, _⟩ := claimOk_all hk
          unfold claimTx
          rw [if_pos hk, letter_fwd a _ rfl g3, hb, h3]
        · cases h
    · cases h
  · cases h
theorem readC_iff {people : Int} {s : List UInt8} {c : Claim} : readC people s = some c ↔ claimOk people c = true ∧ claimTx people c = s :=
  ⟨readC_is, fun h => by rw [← h.2]; exact readC_text h.1⟩
/-- With a further sign behind it, that no term has. -/
theorem readC_more {people : Int} {s : List UInt8} {c : Claim} {x : UInt8} (h : readC people s = some c) (hx : ¬ plain x) : readC people (s ++ [x]) = none := by
  cases e : readC people (s ++ [x]) with
  | none => rfl
  | some d =>
    obtain ⟨h1, h2⟩ := readC_is h
    obtain ⟨g1, g2⟩ := readC_is e
    obtain ⟨_, _, _, _, h5, _⟩ := claimOk_all h1
    obtain ⟨_, _, _, _, g5, _⟩ := claimOk_all g1
    exfalso
    have hp := (claimTx_len h1).2.2.2
    unfold claimTx at h2 g2
    rw [if_pos h1] at h2
    rw [if_pos g1, ← h2] at g2
    have e2 : termText people d.says = termText people c.says ++ [x] := by
      have := congrArg (List.drop 2) g2
      simpa using this
    exact hx (termText_plain g5 x (by rw [e2]; simp))
end TL

/- TL, part 22: rows that are made at once and filled one by one. -/
set_option linter.unusedVariables false
set_option linter.unusedSimpArgs false
namespace TL
open Go
theorem flat_len {k : Nat} : ∀ {bl : List (List T)}, (∀ x ∈ bl, x.length = k) → bl.flatten.length = bl.length * k
  | [], _ => by simp
  | b :: bl, h => by
    have h1 := h b (List.mem_cons_self ..)
    have h2 := flat_len (bl := bl) fun x hx => h x (List.mem_cons_of_mem _ hx)
    rw [List.flatten_cons, List.length_append, h1, h2, List.length_cons, Nat.succ_mul]; omega
theorem setAt_append (a b : List T) : ∀ (xs : List T) (off : Nat), a.length = off → xs.length ≤ b.length → setAt (a ++ b) off xs = a ++ xs ++ b.drop xs.length
  | [], off, h, _ => by simp [setAt]
  | x :: xs, off, h, hl => by
    cases b with
    | nil => simp at hl
    | cons y ys =>
      unfold setAt
      rw [List.set_append_right _ _ (by omega), show off - a.length = 0 by omega, List.set_cons_zero]
      have := setAt_append (a ++ [x]) ys xs (off + 1) (by simp; omega) (by simpa using hl)
      rw [show a ++ x :: ys = a ++ [x] ++ ys by simp, this]; simp
theorem setAt_flat {k : Nat} {bl : List (List T)} {i : Nat} {b : List T} (h : ∀ x ∈ bl, x.length = k) (hb : b.length = k) (hi : i < bl.length) : setAt bl.flatten (i * k) b = (bl.set i b).flatten := by
  have e1 : bl = bl.take i ++ bl[i] :: bl.drop (i + 1) := by rw [← List.drop_eq_getElem_cons hi, List.take_append_drop]
  have l1 : (bl.take i).flatten.length = i * k := by rw [flat_len (k := k) fun x hx => h x (List.mem_of_mem_take hx), List.length_take]; congr 1; omega
  have l2 : bl[i].length = k := h _ (List.getElem_mem _)
  have e2 : bl.flatten = (bl.take i).flatten ++ (bl[i] ++ (bl.drop (i + 1)).flatten) := by
    have e4 : bl.flatten = (bl.take i ++ bl[i] :: bl.drop (i + 1)).flatten := by rw [← e1]
    rw [e4, List.flatten_append, List.flatten_cons]
  have e3 : bl.set i b = bl.take i ++ b :: bl.drop (i + 1) := by rw [List.set_eq_take_append_cons_drop, if_pos hi]
  rw [e2, setAt_append _ _ b _ l1 (by simp; omega), e3, hb]
  rw [List.drop_append_of_le_length (by omega), List.drop_eq_nil_of_le (by omega)]
  simp
/-- The cells of an element. -/
def cellsT (x : V) : List T := x.cells.map .v
/-- A row of which the first i are filled. -/
def filled {α : Type} (v : α → V) (zs : List T) (l : List α) (i : Nat) : List (List T) := (l.take i).map (fun a => cellsT (v a)) ++ List.replicate (l.length - i) zs
/-- Elements of k cells. -/
def ElemOk {α : Type} (v : α → V) (k : Nat) : Prop := ∀ a, (v a).cells.length = k ∧ (∀ c ∈ (v a).cells, c.cell = true) ∧ (if k = 1 then (v a).cells = [v a] else v a = .agg (v a).cells)
theorem filled_len {α : Type} {v : α → V} {zs : List T} {l : List α} {i : Nat} (hi : i ≤ l.length) : (filled v zs l i).length = l.length := by
  simp [filled]; omega
theorem filled_all {α : Type} {v : α → V} {zs : List T} {l : List α} {i k : Nat} (hv : ElemOk v k) (hz : zs.length = k) : ∀ x ∈ filled v zs l i, x.length = k := by
  intro x hx
  rcases List.mem_append.1 hx with hx | hx
  · obtain ⟨a, _, rfl⟩ := List.mem_map.1 hx
    simp [cellsT, (hv a).1]
  · rw [(List.mem_replicate.1 hx).2, hz]
theorem filled_zero {α : Type} (v : α → V) (zs : List T) (l : List α) : (filled v zs l 0).flatten = (List.replicate l.length zs).flatten := by simp [filled]
theorem filled_flat_len {α : Type} {v : α → V} {zs : List T} {l : List α} {i k : Nat} (hv : ElemOk v k) (hz : zs.length = k) (hi : i ≤ l.length) : (filled v zs l i).flatten.length = l.length * k := by
  rw [flat_len (filled_all hv hz), filled_len hi]
theorem filled_set {α : Type} {v : α → V} {zs : List T} {l : List α} {i k : Nat} (hv : ElemOk v k) (hz : zs.length = k) (hi : i < l.length) : setAt (filled v zs l i).flatten (i * k) (cellsT (v l[i])) = (filled v zs l (i + 1)).flatten := by
  rw [setAt_flat (filled_all hv hz) (by simp [cellsT, (hv _).1]) (by rw [filled_len (by omega)]; exact hi)]
  congr 1
  unfold filled
  rw [List.set_append_right _ _ (by simp; omega), List.take_succ_eq_append_getElem hi]
  rw [show l.length - i = (l.length - (i + 1)) + 1 by omega, List.replicate_succ]
  simp only [List.length_map, List.length_take, Nat.min_eq_left (Nat.le_of_lt hi), Nat.sub_self, List.set_cons_zero, List.map_append, List.map_cons, List.map_nil, List.append_assoc, List.cons_append, List.nil_append]
theorem filled_end {α : Type} (v : α → V) (zs : List T) (l : List α) : filled v zs l l.length = l.map fun a => cellsT (v a) := by simp [filled]
theorem mapO_cells {k : Bool} {m : Mem} {d : Nat} : ∀ (xs : List V), mapO (bor k m d) (xs.map .v) = some xs
  | [] => rfl
  | x :: xs => by simp [mapO, mapO_cells xs]
theorem cells_flat {α : Type} (v : α → V) : ∀ l : List α, (l.map fun a => cellsT (v a)).flatten = (l.flatMap fun a => (v a).cells).map T.v
  | [] => rfl
  | x :: xs => by simp only [List.map_cons, List.flatten_cons, cells_flat v xs, List.flatMap_cons, List.map_append]; rfl
theorem chunk_elems {α : Type} {v : α → V} {k : Nat} (hv : ElemOk v k) : ∀ l : List α, chunk k l.length (l.flatMap fun a => (v a).cells) = l.map v
  | [] => rfl
  | a :: l => by
    obtain ⟨h1, h2, h3⟩ := hv a
    simp only [List.length_cons, chunk, List.flatMap_cons, List.map_cons]
    rw [List.drop_append_of_le_length (by omega), List.drop_eq_nil_of_le (by omega), List.nil_append, chunk_elems hv l]
    congr 1
    by_cases hk : k = 1
    · rw [if_pos hk] at h3 ⊢; rw [h3]; rfl
    · rw [if_neg hk] at h3 ⊢
      rw [List.take_append_of_le_length (by omega), List.take_of_length_le (by omega), ← h3]
theorem bor_filled {α : Type} {v : α → V} {k : Nat} (hv : ElemOk v k) {m : Mem} {id e : Nat} {zs : List T} {l : List α} (d : Nat) (hm : m id = some (.box e k (filled v zs l l.length).flatten)) : bor true m (d + 1) (.sv id 0 l.length) = some (.sl (l.map v)) := by
  have hlen : (l.flatMap fun a => (v a).cells).length = l.length * k := by
    induction l with
    | nil => simp
    | cons a l ih => simp only [List.flatMap_cons, List.length_append, (hv a).1, List.length_cons, Nat.succ_mul]; rw [show (l.flatMap fun a => (v a).cells).length = l.length * k from ?_]; · omega
                     clear ih hm
                     induction l with
                     | nil => simp
                     | cons b l ih => simp only [List.flatMap_cons, List.length_append, (hv b).1, List.length_cons, Nat.succ_mul, ih]; omega
  unfold bor
  rw [hm]
  simp only [if_true, filled_end, cells_flat, List.length_map, hlen, Nat.zero_add, Nat.le_refl, tst_true, List.drop_zero]
  rw [List.take_of_length_le (by simp [hlen]), mapO_cells]
  simp only [obind_some]
  rw [tst_pos, chunk_elems hv]
  intro x hx
  obtain ⟨a, _, ha⟩ := List.mem_flatMap.1 hx
  exact (hv a).2.1 x ha
end TL

/- The functions by which the exact laws measure, turn and compare their arguments. -/
set_option linter.unusedSimpArgs false
set_option linter.unusedVariables false
set_option maxRecDepth 100000
set_option maxHeartbeats 4000000
set_option pp.maxSteps 1500
namespace TL
open Go Go.Proofs
attribute [local simp] marksV storyV codeV Claim.v Place.v
theorem elemOk_mark : ElemOk Mark.v 2 := fun a => ⟨rfl, by simp [Mark.v], by simp [Mark.v]⟩
theorem elemOk_claim : ElemOk Claim.v 2 := fun a => ⟨rfl, by simp, by simp⟩
theorem elemOk_place : ElemOk Place.v 2 := fun a => ⟨rfl, by simp, by simp⟩
theorem cellsT_mark (m : Mark) : cellsT m.v = [.v (.int .i64 m.kind), .v (.int .i64 m.num)] := rfl
theorem cellsT_claim (c : Claim) : cellsT c.v = [.v (.int .i64 c.who), .v (.sl (c.says.map Mark.v))] := rfl
theorem cellsT_place (p : Place) : cellsT p.v = [.v (.int .i64 p.people), .v (.sl (p.story.map Claim.v))] := rfl
/-- What is left of a measure. -/
def szR (left : Int) (n : Nat) : Int := if left - n < 0 then -1 else left - n
def Claim.small (c : Claim) : Prop := c.says.length ≤ 1048576
def Place.small (p : Place) : Prop := p.story.length ≤ 1048576 ∧ ∀ c ∈ p.story, c.small
theorem take_eq_succ {α : Type} {a b : List α} {i : Nat} (ha : i < a.length) (hb : i < b.length) (h : a.take i = b.take i) (he : a[i] = b[i]) : a.take (i + 1) = b.take (i + 1) := by
  rw [List.take_succ_eq_append_getElem ha, List.take_succ_eq_append_getElem hb, h, he]
def ItoMarkS (l : List Mark) (a : Nat) (s : S) : Prop := ∃ i : Nat, s.tm 0 = .v (.sl (l.map Mark.v)) ∧ s.tm 3 = .sv 0 0 l.length ∧ s.tm 4 = .v (.int .i64 i) ∧ i ≤ l.length ∧ s.m 0 = some (.box 86 2 (filled Mark.v [T.v (.int .i64 0), T.v (.int .i64 0)] l i).flatten) ∧ (a = 1 → i = l.length)
def ItoClaimS (l : List Claim) (a : Nat) (s : S) : Prop := ∃ i : Nat, s.tm 0 = .v (.sl (l.map Claim.v)) ∧ s.tm 3 = .sv 0 0 l.length ∧ s.tm 4 = .v (.int .i64 i) ∧ i ≤ l.length ∧ s.m 0 = some (.box 48 2 (filled Claim.v [T.v (.int .i64 0), T.nil] l i).flatten) ∧ (a = 1 → i = l.length)
theorem eqMark_fn (a b : Mark) : FnZ Tryd.prog 96 [a.v, b.v] (.bool (decide (a = b))) := by
  refine FnZ_of (rs := [.tmp 4]) false Tryd.func96 rfl rfl rfl rfl (Nat.le_of_ble_eq_true rfl) ?_
  by_cases h0 : a.kind = b.kind
  case neg =>
    have e : decide (a = b) = false := by cases a; cases b; simp_all
    simp -dsimp [Mark.v, h0, e]
  by_cases h1 : a.num = b.num
  · have e : decide (a = b) = true := by cases a; cases b; simp_all
    simp -dsimp [Mark.v, h0, h1, e]
  · have e : decide (a = b) = false := by cases a; cases b; simp_all
    simp -dsimp [Mark.v, h0, h1, e]
def IeqMarkS (a b : List Mark) (e : Nat) (s : S) : Prop := ∃ i : Nat, s.tm 0 = .v (.sl (a.map Mark.v)) ∧ s.tm 1 = .v (.sl (b.map Mark.v)) ∧ s.tm 5 = .v (.int .i64 i) ∧ i ≤ a.length ∧ a.take i = b.take i ∧ (e = 1 → i = a.length)
theorem eqMarkS_fn (a b : List Mark) (hl : a.length ≤ 1048576) : FnZ Tryd.prog 71 [.sl (a.map Mark.v), .sl (b.map Mark.v)] (.bool (decide (a = b))) := by
  refine FnZ_of (rs := [.tmp 4]) false Tryd.func71 rfl rfl rfl rfl (Nat.le_of_ble_eq_true rfl) ?_
  by_cases hn : a.length = b.length
  case neg =>
    have e : decide (a = b) = false := by simp; rintro rfl; exact hn rfl
    have hn' : ¬ (a.length : Int) = b.length := by omega
    simp -dsimp [hn, hn', e]
  simp -dsimp [hn]
  refine twp_loopC (IeqMarkS a b 0) (fun s => a.length - natOf (s.tm 5)) (IeqMarkS a b 1) ?_ ?_ ?_
  · exact ⟨0, by simp -dsimp, by simp -dsimp, by simp -dsimp, by omega, by simp, by simp⟩
  · rintro s ⟨i, h0, h1, h5, hi, htk, hend⟩
    by_cases hlt : i < a.length
    case neg =>
      have hlt2 : ¬ i < b.length := by omega
      simp -dsimp [h0, h5, hlt, hlt2, hn]
      exact ⟨i, by simp -dsimp [h0], by simp -dsimp [h1], by simp -dsimp [h5], hi, htk, fun _ => by omega⟩
    have hlt2 : i < b.length := by omega
    have hgeta : (a.map Mark.v)[i]? = some (a[i].v) := by simp [hlt]
    have hgetb : (b.map Mark.v)[i]? = some (b[i].v) := by simp [hlt2]
    have wi : IntKind.wrap .i64 ((i : Int) + 1) = ((i + 1 : Nat) : Int) := by rw [w64 (by omega) (by omega)]; omega
    have hmu : a.length - (i + 1) < a.length - i := by omega
    simp -dsimp [h0, h5, hlt, hlt2, hn]
    refine twp_draw (List.range 10) [] (List.replicate 10 []) (List.replicate 10 []) (by kernel_rfl) (by kernel_rfl) (by kernel_rfl) (by kernel_rfl) ?_
    simp -dsimp [List.range_succ, h0, h1, h5, hlt, hlt2, hgeta, hgetb]
    refine call_ (eqMark_fn a[i] b[i]) (by simp -dsimp [Mark.v]) ?_
    have hq := ft (decide (a[i] = b[i]))
    rcases hq with hq | hq
    · have e : decide (a = b) = false := by
        simp at hq ⊢; rintro rfl; exact hq rfl
      simp -dsimp [List.range_succ, hq, e]
    · have hq' : a[i] = b[i] := by simpa using hq
      have htk2 := take_eq_succ hlt hlt2 htk hq'
      have hmu2 : b.length - (i + 1) < b.length - i := by omega
      simp -dsimp [List.range_succ, hq, h5, wi, hmu, hmu2]
      exact ⟨i + 1, by simp -dsimp [h0], by simp -dsimp [h1], by simp -dsimp, by omega, htk2, by simp⟩
  · rintro s ⟨i, h0, h1, h5, hi, htk, hend⟩
    have := hend rfl
    subst this
    rw [List.take_length, hn, List.take_length] at htk
    have e : decide (a = b) = true := by simpa using htk
    simp -dsimp [e]
theorem eqClaim_fn (a b : Claim) (ha : a.small) : FnZ Tryd.prog 46 [a.v, b.v] (.bool (decide (a = b))) := by
  refine FnZ_of (rs := [.tmp 4]) false Tryd.func46 rfl rfl rfl rfl (Nat.le_of_ble_eq_true rfl) ?_
  by_cases h0 : a.who = b.who
  case neg =>
    have e : decide (a = b) = false := by cases a; cases b; simp_all
    simp -dsimp [Mark.v, h0, e]
  simp -dsimp [h0]
  refine call_ (eqMarkS_fn a.says b.says ha) (by simp -dsimp) ?_
  have h1 := ft (decide (a.says = b.says))
  rcases h1 with h1 | h1
  · have e : decide (a = b) = false := by cases a; cases b; simp_all
    simp -dsimp [h1, e]
  · have e : decide (a = b) = true := by cases a; cases b; simp_all
    simp -dsimp [h1, e]
def IeqClaimS (a b : List Claim) (e : Nat) (s : S) : Prop := ∃ i : Nat, s.tm 0 = .v (.sl (a.map Claim.v)) ∧ s.tm 1 = .v (.sl (b.map Claim.v)) ∧ s.tm 5 = .v (.int .i64 i) ∧ i ≤ a.length ∧ a.take i = b.take i ∧ (e = 1 → i = a.length)
theorem eqClaimS_fn (a b : List Claim) (hl : a.length ≤ 1048576) (hs : ∀ x ∈ a, x.small) : FnZ Tryd.prog 27 [.sl (a.map Claim.v), .sl (b.map Claim.v)] (.bool (decide (a = b))) := by
  refine FnZ_of (rs := [.tmp 4]) false Tryd.func27 rfl rfl rfl rfl (Nat.le_of_ble_eq_true rfl) ?_
  by_cases hn : a.length = b.length
  case neg =>
    have e : decide (a = b) = false := by simp; rintro rfl; exact hn rfl
    have hn' : ¬ (a.length : Int) = b.length := by omega
    simp -dsimp [hn, hn', e]
  simp -dsimp [hn]
  refine twp_loopC (IeqClaimS a b 0) (fun s => a.length - natOf (s.tm 5)) (IeqClaimS a b 1) ?_ ?_ ?_
  · exact ⟨0, by simp -dsimp, by simp -dsimp, by simp -dsimp, by omega, by simp, by simp⟩
  · rintro s ⟨i, h0, h1, h5, hi, htk, hend⟩
    by_cases hlt : i < a.length
    case neg =>
      have hlt2 : ¬ i < b.length := by omega
      simp -dsimp [h0, h5, hlt, hlt2, hn]
      exact ⟨i, by simp -dsimp [h0], by simp -dsimp [h1], by simp -dsimp [h5], hi, htk, fun _ => by omega⟩
    have hlt2 : i < b.length := by omega
    have hgeta : (a.map Claim.v)[i]? = some (a[i].v) := by simp [hlt]
    have hgetb : (b.map Claim.v)[i]? = some (b[i].v) := by simp [hlt2]
    have wi : IntKind.wrap .i64 ((i : Int) + 1) = ((i + 1 : Nat) : Int) := by rw [w64 (by omega) (by omega)]; omega
    have hmu : a.length - (i + 1) < a.length - i := by omega
    simp -dsimp [h0, h5, hlt, hlt2, hn]
    refine twp_draw (List.range 10) [] (List.replicate 10 []) (List.replicate 10 []) (by kernel_rfl) (by kernel_rfl) (by kernel_rfl) (by kernel_rfl) ?_
    simp -dsimp [List.range_succ, h0, h1, h5, hlt, hlt2, hgeta, hgetb]
    refine call_ (eqClaim_fn a[i] b[i] (hs _ (List.getElem_mem _))) (by simp -dsimp [Mark.v]) ?_
    have hq := ft (decide (a[i] = b[i]))
    rcases hq with hq | hq
    · have e : decide (a = b) = false := by
        simp at hq ⊢; rintro rfl; exact hq rfl
      simp -dsimp [List.range_succ, hq, e]
    · have hq' : a[i] = b[i] := by simpa using hq
      have htk2 := take_eq_succ hlt hlt2 htk hq'
      have hmu2 : b.length - (i + 1) < b.length - i := by omega
      simp -dsimp [List.range_succ, hq, h5, wi, hmu, hmu2]
      exact ⟨i + 1, by simp -dsimp [h0], by simp -dsimp [h1], by simp -dsimp, by omega, htk2, by simp⟩
  · rintro s ⟨i, h0, h1, h5, hi, htk, hend⟩
    have := hend rfl
    subst this
    rw [List.take_length, hn, List.take_length] at htk
    have e : decide (a = b) = true := by simpa using htk
    simp -dsimp [e]
theorem eqPlace_fn (a b : Place) (ha : a.small) : FnZ Tryd.prog 12 [a.v, b.v] (.bool (decide (a = b))) := by
  refine FnZ_of (rs := [.tmp 4]) false Tryd.func12 rfl rfl rfl rfl (Nat.le_of_ble_eq_true rfl) ?_
  by_cases h0 : a.people = b.people
  case neg =>
    have e : decide (a = b) = false := by cases a; cases b; simp_all
    simp -dsimp [Mark.v, h0, e]
  simp -dsimp [h0]
  refine call_ (eqClaimS_fn a.story b.story ha.1 ha.2) (by simp -dsimp) ?_
  have h1 := ft (decide (a.story = b.story))
  rcases h1 with h1 | h1
  · have e : decide (a = b) = false := by cases a; cases b; simp_all
    simp -dsimp [h1, e]
  · have e : decide (a = b) = true := by cases a; cases b; simp_all
    simp -dsimp [h1, e]
end TL

/- Desks; what is one. -/
set_option linter.unusedSimpArgs false
set_option linter.unusedVariables false
set_option maxRecDepth 100000
set_option maxHeartbeats 4000000
set_option pp.maxSteps 1500
namespace TL
open Go Go.Proofs
attribute [local simp] marksV storyV codeV Claim.v Place.v
structure Desk where
  now : Place
  past : List Place
  deriving DecidableEq
def Desk.v (d : Desk) : V := .agg [.int .i64 d.now.people, storyV d.now.story, .sl (d.past.map Place.v)]
def Desk.small (d : Desk) : Prop := d.now.small ∧ d.past.length ≤ 1048576 ∧ ∀ p ∈ d.past, p.small
attribute [local simp] Desk.v
def deskOk (d : Desk) : Bool := d.past.all placeOk && placeOk d.now && decide (d.past.length ≤ 8)
end TL

/- Copies; desks. -/
set_option linter.unusedSimpArgs false
set_option linter.unusedVariables false
set_option maxRecDepth 100000
set_option maxHeartbeats 4000000
set_option pp.maxSteps 1500
namespace TL
open Go Go.Proofs
attribute [local simp] marksV storyV codeV Claim.v Place.v
attribute [local simp] Desk.v
def IsameMarks (a b : List Mark) (e : Nat) (s : S) : Prop := ∃ i : Nat, s.tm 0 = .v (.sl (a.map Mark.v)) ∧ s.tm 1 = .v (.sl (b.map Mark.v)) ∧ s.tm 5 = .v (.int .i64 i) ∧ i ≤ a.length ∧ a.take i = b.take i ∧ (e = 1 → i = a.length)
def IsameStory (a b : List Claim) (e : Nat) (s : S) : Prop := ∃ i : Nat, s.tm 0 = .v (.sl (a.map Claim.v)) ∧ s.tm 1 = .v (.sl (b.map Claim.v)) ∧ s.tm 5 = .v (.int .i64 i) ∧ i ≤ a.length ∧ a.take i = b.take i ∧ (e = 1 → i = a.length)
def noDeskV : Desk := ⟨⟨0, []⟩, []⟩
/-- Copies. -/
theorem cloneMarks_fn (l : List Mark) (hl : l.length ≤ 1048576) : FnZ Tryd.prog 63 [marksV l] (marksV l) := by
  have b1 : l.length * 16 ≤ 140737488355328 := by omega
  refine FnZ_of (rs := [.tmp 2]) false Tryd.func63 rfl rfl rfl rfl (Nat.le_of_ble_eq_true rfl) ?_
  simp -dsimp [b1]
def IcopyStory (l : List Claim) (e : Nat) (s : S) : Prop := ∃ i id : Nat, s.tm 7 = .v (.sl (l.map Claim.v)) ∧ s.tm 8 = .v (.int .i64 l.length) ∧ s.tm 9 = .v (.int .i64 i) ∧ s.mu = false ∧ i ≤ l.length ∧ s.tm 3 = .loc id ∧ id < s.n ∧ s.m id = some (.arr 48 ((l.take i).map Claim.v)) ∧ (e = 1 → i = l.length)
end TL

/- Reading terms and claims: the program. -/
set_option linter.unusedSimpArgs false
set_option linter.unusedVariables false
set_option maxRecDepth 100000
set_option maxHeartbeats 4000000
set_option pp.maxSteps 1500
namespace TL
open Go Go.Proofs
attribute [local simp] marksV storyV codeV Claim.v Place.v
theorem termText_fn (people : Int) (t : List Mark) : FnZ Tryd.prog 62 [.int .i64 people, marksV t] (.str (termText people t)) := by
  have hk := ft (termOk people t)
  rcases hk with hk | hk
  · rw [termText_no hk]
    refine FnZ_of (rs := [.tmp 4]) false Tryd.func62 rfl rfl rfl rfl (Nat.le_of_ble_eq_true rfl) ?_
    simp -dsimp
    refine call_ (termOk_fn people t) (by simp -dsimp) ?_
    simp -dsimp [hk]
  · obtain ⟨T, h1, h2, h3⟩ := termText_tree hk
    have hl := (termOk_len hk).2.1
    have ht := textOf_fn T h1 (by rw [h2]; omega)
    rw [h2, h3] at ht
    generalize termText people t = s at *
    refine FnZ_of (rs := [.tmp 4]) false Tryd.func62 rfl rfl rfl rfl (Nat.le_of_ble_eq_true rfl) ?_
    simp -dsimp
    refine call_ (termOk_fn people t) (by simp -dsimp) ?_
    simp -dsimp [hk]
    refine call_ ht (by simp -dsimp) ?_
    simp -dsimp
def optV (o : Option (List Mark)) : V := .tup [marksV (o.getD []), .bool o.isSome]
theorem readT_long {people : Int} {s : List UInt8} (h : 60 < s.length) : readT people s = none := readT_none fun t hl _ _ => by omega
theorem readT_people {people : Int} {s : List UInt8} (h : peopleOk people = false) : readT people s = none := readT_none fun t _ ht _ => by
  simp only [termOk, Bool.and_eq_true] at ht; rw [h] at ht; simp at ht
theorem peopleOk_fn' (p : Int) : FnZ Tryd.prog 60 [.int .i64 p] (.bool (peopleOk p)) := peopleOk_fn p
theorem readTerm_no (people : Int) (s : List UInt8) (hl : s.length ≤ 2000000000) (h : peopleOk people = false ∨ 60 < s.length) : FnZ Tryd.prog 40 [.int .i64 people, .str s] (.tup [.sl [], .bool false]) := by
  have hp := ft (peopleOk people)
  rcases hp with hp | hp
  · refine FnZ_of (rs := [.tmp 4, .tmp 5]) false Tryd.func40 rfl rfl rfl rfl (Nat.le_of_ble_eq_true rfl) ?_
    simp -dsimp
    refine call_ (peopleOk_fn' people) (by simp -dsimp) ?_
    simp -dsimp [hp]
  · have hl2 : (60 : Int) < s.length := by have := h.resolve_left (by simp [hp]); omega
    refine FnZ_of (rs := [.tmp 4, .tmp 5]) false Tryd.func40 rfl rfl rfl rfl (Nat.le_of_ble_eq_true rfl) ?_
    simp -dsimp
    refine call_ (peopleOk_fn' people) (by simp -dsimp) ?_
    simp -dsimp [hp, hl2]
theorem readTerm_fn (people : Int) (s : List UInt8) (hl : s.length ≤ 2000000000) : FnZ Tryd.prog 40 [.int .i64 people, .str s] (optV (readT people s)) := by
  by_cases h60 : s.length ≤ 60
  case neg =>
    have h : 60 < s.length := by omega
    rw [readT_long h]
    exact readTerm_no people s hl (.inr h)
  have hp := ft (peopleOk people)
  rcases hp with hp | hp
  · rw [readT_people hp]
    exact readTerm_no people s hl (.inl hp)
  rw [readT_code atomI_ok h60]
  have hS := readSame_all s.length (by omega) s (Nat.le_refl _)
  have hT := termText_fn people (rSame atomI s.length s).ms
  have hne : (rSame atomI s.length s).ok = true → s ≠ [] := by
    rintro h rfl; rw [rSame_nil] at h; cases h
  have hl60 : ¬ (60 : Int) < s.length := by omega
  generalize rSame atomI s.length s = r at *
  obtain ⟨ms, rest, ok⟩ := r
  simp only at hT hne ⊢
  have htt : termText people ms = s → ok = true → termOk people ms = true := fun h1 h2 => by
    have hk := ft (termOk people ms)
    rcases hk with hk | hk
    · rw [termText_no hk] at h1; exact absurd h1.symm (hne h2)
    · exact hk
  refine FnZ_of (rs := [.tmp 4, .tmp 5]) false Tryd.func40 rfl rfl rfl rfl (Nat.le_of_ble_eq_true rfl) ?_
  simp -dsimp
  refine call_ (peopleOk_fn' people) (by simp -dsimp) ?_
  simp -dsimp [hp, hl60]
  refine callS_ (hS _ _) ?_
  rintro t m2 n2 ⟨hle2, hout2, st2, rfl, hrow2, hnil2⟩
  simp only at hrow2 hnil2 ⊢
  cases ok with
  | false =>
    simp -dsimp [optV]
  | true =>
    by_cases hr : rest = []
    case neg => simp -dsimp [optV, hr]
    subst hr
    rcases hrow2 with ⟨rfl, _⟩ | ⟨i2, rfl, hj0, hj1, hmj⟩
    · exact absurd rfl (hnil2 rfl)
    simp -dsimp
    refine call_ hT (by simp -dsimp [hmj]) ?_
    by_cases he : termText people ms = s
    · have hk := htt he rfl
      simp -dsimp [he, hk, hmj, optV]
    · simp -dsimp [he, optV]
theorem claimBy_fn (people who : Int) (t : List Mark) (hl : t.length ≤ 1048576) : FnZ Tryd.prog 41 [.int .i64 people, .int .i64 who, marksV t] (.tup [(if claimOk people ⟨who, t⟩ = true then (⟨who, t⟩ : Claim) else ⟨0, []⟩).v, .bool (claimOk people ⟨who, t⟩)]) := by
  have hc := claimOk_fn people ⟨who, t⟩
  have hk := ft (claimOk people ⟨who, t⟩)
  refine FnZ_of (rs := [.cell 6 48, .tmp 7]) false Tryd.func41 rfl rfl rfl rfl (Nat.le_of_ble_eq_true rfl) ?_
  simp -dsimp
  refine call_ (cloneMarks_fn t hl) (by simp -dsimp) ?_
  simp -dsimp
  refine call_ hc (by simp -dsimp) ?_
  rcases hk with hk | hk
  · simp -dsimp [hk]
  · simp -dsimp [hk]
def optC (o : Option Claim) : V := .tup [(o.getD ⟨0, []⟩).v, .bool o.isSome]
theorem readClaim_fn (people : Int) (s : List UInt8) (hl : s.length ≤ 2000000000) : FnZ Tryd.prog 25 [.int .i64 people, .str s] (optC (readC people s)) := by
  have zero : ∀ (x : List UInt8), s.length < 3 → readC people s = none := fun _ h => by
    cases e : readC people s with
    | none => rfl
    | some c => have := readC_is e; have := (claimTx_len this.1).1; rw [(readC_is e).2] at this; omega
  by_cases h3 : s.length < 3
  · have h3' : (s.length : Int) < 3 := by omega
    rw [zero [] h3]
    refine FnZ_of (rs := [.cell 4 48, .tmp 5]) false Tryd.func25 rfl rfl rfl rfl (Nat.le_of_ble_eq_true rfl) ?_
    simp -dsimp [h3, h3', optC]
  clear zero
  match s, h3, hl with
  | [], h3, hl => simp at h3
  | [a], h3, hl => simp at h3
  | a :: b :: s, h3, hl =>
    have h3' : ¬ ((s.length : Int) + 1 + 1 < 3) := by simp at h3; omega
    have hls : s.length ≤ 2000000000 := by simp at hl; omega
    have l2 : (2 : Int) ≤ (s.length : Int) + 1 + 1 := by omega
    have l3 : ((s.length : Int) + 1 + 1).toNat = s.length + 1 + 1 := by omega
    by_cases hb : b = 58
    case neg =>
      have e : readC people (a :: b :: s) = none := if_neg hb
      have hb' : ¬ (b.toNat : Int) = 58 := fun h => hb (UInt8.toNat.inj (by show b.toNat = 58; omega))
      rw [e]
      refine FnZ_of (rs := [.cell 4 48, .tmp 5]) false Tryd.func25 rfl rfl rfl rfl (Nat.le_of_ble_eq_true rfl) ?_
      simp -dsimp [h3', hb', optC]
    subst hb
    have e : readC people (a :: 58 :: s) = (readT people s).bind fun t => if claimOk people ⟨(a.toNat : Int) - 97, t⟩ = true then some ⟨(a.toNat : Int) - 97, t⟩ else none := rfl
    rw [e]
    have ht := readTerm_fn people s hls
    have hlt := UInt8.toNat_lt a
    have w1 : IntKind.wrap .i64 ((a.toNat : Int) - 97) = (a.toNat : Int) - 97 := w64 (by omega) (by omega)
    have w2 : IntKind.wrap .i64 (a.toNat : Int) = (a.toNat : Int) := w64 (by omega) (by omega)
    have hle : ∀ t, readT people s = some t → t.length ≤ 1048576 := fun t h => by
      have := (termOk_len (readT_is h).2.1).2.1; omega
    generalize readT people s = o at *
    cases o with
    | none =>
      refine FnZ_of (rs := [.cell 4 48, .tmp 5]) false Tryd.func25 rfl rfl rfl rfl (Nat.le_of_ble_eq_true rfl) ?_
      simp -dsimp [h3', l2, l3, optC]
      refine call_ ht (by simp -dsimp) ?_
      simp -dsimp [optV, optC]
    | some t =>
      have hcb := claimBy_fn people ((a.toNat : Int) - 97) t (hle t rfl)
      have hk := ft (claimOk people ⟨(a.toNat : Int) - 97, t⟩)
      refine FnZ_of (rs := [.cell 4 48, .tmp 5]) false Tryd.func25 rfl rfl rfl rfl (Nat.le_of_ble_eq_true rfl) ?_
      simp -dsimp [h3', l2, l3, optC]
      refine call_ ht (by simp -dsimp) ?_
      simp -dsimp [optV, w1, w2]
      refine call_ hcb (by simp -dsimp) ?_
      rcases hk with hk | hk
      · simp -dsimp [hk, optC]
      · simp -dsimp [hk, optC]
end TL

/- Reading terms and claims: the reference. -/
set_option linter.unusedSimpArgs false
set_option linter.unusedVariables false
set_option maxRecDepth 100000
set_option maxHeartbeats 4000000
set_option pp.maxSteps 1500
namespace TL
open Go Go.Proofs
attribute [local simp] marksV storyV codeV Claim.v Place.v
theorem good_fits {ms : List Mark} (h : ∀ m ∈ ms, 0 ≤ m.kind ∧ m.kind ≤ 5 ∧ 0 ≤ m.num ∧ m.num ≤ 1000) : fits ms := fun m hm => by
  obtain ⟨h1, h2, h3, h4⟩ := h m hm
  exact ⟨⟨by omega, by omega⟩, ⟨by omega, by omega⟩⟩
theorem rSame_good {A : UInt8 → Option Mark} (hA : ∀ c m, A c = some m → 0 ≤ m.kind ∧ m.kind ≤ 5 ∧ 0 ≤ m.num ∧ m.num ≤ 1000) (F : Nat) : good (rSame A F) :=
  rRow_good (rRow_good (rRow_good (rPart_good hA F) (sg := 38) (k := 3) (by omega) (by omega) F) (sg := 124) (k := 4) (by omega) (by omega) F) (sg := 61) (k := 5) (by omega) (by omega) F
theorem Tm.nums : ∀ T : Tm, T.ok → ∀ m ∈ T.marks, 0 ≤ m.num ∧ m.num ≤ 5
  | .tells i, h, m, hm => by simp [marks] at hm; subst hm; simp; have : i < 4 := h; omega
  | .count n, h, m, hm => by simp [marks] at hm; subst hm; simp; have : n < 6 := h; omega
  | .not a, h, m, hm => by
    simp only [marks, List.mem_append, List.mem_singleton] at hm
    rcases hm with hm | rfl
    · exact a.nums h m hm
    · simp
  | .bin k a b, h, m, hm => by
    simp only [marks, List.mem_append, List.mem_singleton] at hm
    rcases hm with (hm | hm) | rfl
    · exact a.nums h.2.1 m hm
    · exact b.nums h.2.2 m hm
    · simp
theorem termOk_fits {people : Int} {t : List Mark} (h : termOk people t = true) : fits t := by
  obtain ⟨T, h1, h2, _⟩ := termText_tree h
  subst h2
  intro m hm
  obtain ⟨a1, a2⟩ := T.kinds h1 m hm
  obtain ⟨b1, b2⟩ := T.nums h1 m hm
  exact ⟨⟨by omega, by omega⟩, ⟨by omega, by omega⟩⟩
theorem readTermS_fn (people : Int) (s : List UInt8) : FnZ Tryd.prog 35 [.int .i64 people, .str s] (optV (readT people s)) := by
  by_cases h60 : s.length ≤ 60
  case neg =>
    have h : 60 < s.length := by omega
    have h' : (60 : Int) < s.length := by omega
    rw [readT_long h]
    refine FnZ_of (rs := [.tmp 4, .tmp 5]) false Tryd.func35 rfl rfl rfl rfl (Nat.le_of_ble_eq_true rfl) ?_
    simp -dsimp [h', optV]
  rw [readT_code atomS_ok h60]
  have hS := l2Level_all s (by omega) s.length (l2Atom_fn s (by omega) s.length) 0 (by omega) (by omega)
  have hgood := rSame_good atomS_good s.length s
  rw [List.drop_zero] at hS
  have hl60 : ¬ (60 : Int) < s.length := by omega
  generalize rSame atomS s.length s = r at *
  obtain ⟨ms, rest, ok⟩ := r
  simp only at hgood
  have hmsl : ms.length ≤ 60 := by have := hgood.1; omega
  have htS := termOkS_fn people ms (good_fits hgood.2) (by omega)
  have hl0 : s.length - 0 = s.length := rfl
  rw [hl0] at hS
  cases ok with
  | false =>
    have hne : ¬ (-1 : Int) = (s.length : Int) := by omega
    refine FnZ_of (rs := [.tmp 4, .tmp 5]) false Tryd.func35 rfl rfl rfl rfl (Nat.le_of_ble_eq_true rfl) ?_
    simp -dsimp [hl60]
    refine callS_ (hS _ _) ?_
    rintro t m2 n2 ⟨hle2, hout2, i2, xs, next2, rfl, hj0, hj1, hmj, hyl, hok2, hno2⟩
    have e1 := hno2 rfl
    simp -dsimp [e1, hne, optV]
  | true =>
    by_cases hr : rest = []
    case neg =>
      refine FnZ_of (rs := [.tmp 4, .tmp 5]) false Tryd.func35 rfl rfl rfl rfl (Nat.le_of_ble_eq_true rfl) ?_
      simp -dsimp [hl60]
      refine callS_ (hS _ _) ?_
      rintro t m2 n2 ⟨hle2, hout2, i2, xs, next2, rfl, hj0, hj1, hmj, hyl, hok2, hno2⟩
      refine (hok2 rfl).2.elim fun q3 hq => ?_
      have e1 := hq.1
      have e2 : s.drop q3 = rest := hq.2.1
      have hne0 : ¬ q3 = s.length := by intro h; rw [h, List.drop_length] at e2; exact hr e2.symm
      have hne : ¬ (q3 : Int) = (s.length : Int) := by omega
      simp -dsimp [e1, hne, hr, optV]
    subst hr
    have hk := ft (termOk people ms)
    rcases hk with hk | hk
    · refine FnZ_of (rs := [.tmp 4, .tmp 5]) false Tryd.func35 rfl rfl rfl rfl (Nat.le_of_ble_eq_true rfl) ?_
      simp -dsimp [hl60]
      refine callS_ (hS _ _) ?_
      rintro t m2 n2 ⟨hle2, hout2, i2, xs, next2, rfl, hj0, hj1, hmj, hyl, hok2, hno2⟩
      refine (hok2 rfl).2.elim fun q3 hq => ?_
      have e0 : xs = ms := (hok2 rfl).1
      have e1 := hq.1
      have e2 : s.drop q3 = [] := hq.2.1
      have e3 := hq.2.2
      have hq3 : q3 = s.length := by have := congrArg List.length e2; rw [List.length_drop] at this; simp at this; omega
      simp -dsimp [e1, hq3]
      refine call_ htS (by simp -dsimp [hmj, e0]) ?_
      simp -dsimp [hk, optV]
    · obtain ⟨T, h1, h2, h3⟩ := termText_tree hk
      have hT := l2Text_fn T h1 (by rw [h2]; omega)
      rw [h2, h3] at hT
      by_cases he : termText people ms = s
      · refine FnZ_of (rs := [.tmp 4, .tmp 5]) false Tryd.func35 rfl rfl rfl rfl (Nat.le_of_ble_eq_true rfl) ?_
        simp -dsimp [hl60]
        refine callS_ (hS _ _) ?_
        rintro t m2 n2 ⟨hle2, hout2, i2, xs, next2, rfl, hj0, hj1, hmj, hyl, hok2, hno2⟩
        refine (hok2 rfl).2.elim fun q3 hq => ?_
        have e0 : xs = ms := (hok2 rfl).1
        have e1 := hq.1
        have e2 : s.drop q3 = [] := hq.2.1
        have e3 := hq.2.2
        have hq3 : q3 = s.length := by have := congrArg List.length e2; rw [List.length_drop] at this; simp at this; omega
        simp -dsimp [e1, hq3]
        refine call_ htS (by simp -dsimp [hmj, e0]) ?_
        simp -dsimp [hk]
        refine call_ hT (by simp -dsimp [hmj, e0]) ?_
        simp -dsimp [he, hk, hmj, e0, optV]
      · refine FnZ_of (rs := [.tmp 4, .tmp 5]) false Tryd.func35 rfl rfl rfl rfl (Nat.le_of_ble_eq_true rfl) ?_
        simp -dsimp [hl60]
        refine callS_ (hS _ _) ?_
        rintro t m2 n2 ⟨hle2, hout2, i2, xs, next2, rfl, hj0, hj1, hmj, hyl, hok2, hno2⟩
        refine (hok2 rfl).2.elim fun q3 hq => ?_
        have e0 : xs = ms := (hok2 rfl).1
        have e1 := hq.1
        have e2 : s.drop q3 = [] := hq.2.1
        have e3 := hq.2.2
        have hq3 : q3 = s.length := by have := congrArg List.length e2; rw [List.length_drop] at this; simp at this; omega
        simp -dsimp [e1, hq3]
        refine call_ htS (by simp -dsimp [hmj, e0]) ?_
        simp -dsimp [hk]
        refine call_ hT (by simp -dsimp [hmj, e0]) ?_
        simp -dsimp [he, hk, optV]
theorem readClaimS_fn (people : Int) (s : List UInt8) (hl : s.length ≤ 2000000000) : FnZ Tryd.prog 22 [.int .i64 people, .str s] (optC (readC people s)) := by
  by_cases h3 : s.length < 3
  · have zero : readC people s = none := by
      cases e : readC people s with
      | none => rfl
      | some c => have := readC_is e; have := (claimTx_len this.1).1; rw [(readC_is e).2] at this; omega
    have h3' : (s.length : Int) < 3 := by omega
    rw [zero]
    refine FnZ_of (rs := [.cell 4 48, .tmp 5]) false Tryd.func22 rfl rfl rfl rfl (Nat.le_of_ble_eq_true rfl) ?_
    simp -dsimp [h3', optC]
  match s, h3, hl with
  | [], h3, hl => simp at h3
  | [a], h3, hl => simp at h3
  | a :: b :: s, h3, hl =>
    have h3' : ¬ ((s.length : Int) + 1 + 1 < 3) := by simp at h3; omega
    have l2 : (2 : Int) ≤ (s.length : Int) + 1 + 1 := by omega
    have l3 : ((s.length : Int) + 1 + 1).toNat = s.length + 1 + 1 := by omega
    have hlt := UInt8.toNat_lt a
    have w1 : IntKind.wrap .i64 ((a.toNat : Int) - 97) = (a.toNat : Int) - 97 := w64 (by omega) (by omega)
    have w2 : IntKind.wrap .i64 (a.toNat : Int) = (a.toNat : Int) := w64 (by omega) (by omega)
    have ht := readTermS_fn people s
    have e : readC people (a :: b :: s) = if b = 58 then (readT people s).bind fun t => if claimOk people ⟨(a.toNat : Int) - 97, t⟩ = true then some ⟨(a.toNat : Int) - 97, t⟩ else none else none := rfl
    have his : ∀ t, readT people s = some t → s.length ≤ 60 ∧ termOk people t = true ∧ termText people t = s := fun t h => readT_is h
    rw [e]
    generalize readT people s = o at *
    cases o with
    | none =>
      have e2 : (if b = 58 then (none : Option (List Mark)).bind (fun t => if claimOk people ⟨(a.toNat : Int) - 97, t⟩ = true then some (⟨(a.toNat : Int) - 97, t⟩ : Claim) else none) else none) = none := by split <;> rfl
      rw [e2]
      refine FnZ_of (rs := [.cell 4 48, .tmp 5]) false Tryd.func22 rfl rfl rfl rfl (Nat.le_of_ble_eq_true rfl) ?_
      simp -dsimp [h3', l2, l3]
      refine call_ ht (by simp -dsimp) ?_
      simp -dsimp [optV, w1, w2, optC]
    | some t =>
      obtain ⟨g1, g2, g3⟩ := his t rfl
      have gl := (termOk_len g2).2.1
      rw [Option.bind_some]
      have hfine : (⟨(a.toNat : Int) - 97, t⟩ : Claim).fine := by
        exact ⟨termOk_fits g2, by simp only; omega⟩
      have hct := claimTxS_fn people ⟨(a.toNat : Int) - 97, t⟩ hfine
      have hk := ft (claimOk people ⟨(a.toNat : Int) - 97, t⟩)
      rcases hk with hk | hk
      · have e2 : (if b = 58 then (if claimOk people ⟨(a.toNat : Int) - 97, t⟩ = true then some (⟨(a.toNat : Int) - 97, t⟩ : Claim) else none) else none) = none := by split <;> simp [hk]
        have e3 : claimTx people ⟨(a.toNat : Int) - 97, t⟩ = [] := by unfold claimTx; rw [if_neg (by simp [hk])]
        rw [e3] at hct
        rw [e2]
        refine FnZ_of (rs := [.cell 4 48, .tmp 5]) false Tryd.func22 rfl rfl rfl rfl (Nat.le_of_ble_eq_true rfl) ?_
        simp -dsimp [h3', l2, l3]
        refine call_ ht (by simp -dsimp) ?_
        simp -dsimp [optV, w1, w2]
        refine call_ hct (by simp -dsimp) ?_
        simp -dsimp [optC]
      · have hwho := (claimOk_all hk).2.2.1
        have e3 : claimTx people ⟨(a.toNat : Int) - 97, t⟩ = a :: 58 :: s := by
          unfold claimTx; rw [if_pos hk, letter_fwd a _ rfl hwho, g3]
        rw [e3] at hct
        by_cases hb : b = 58
        · subst hb
          rw [if_pos rfl, if_pos hk]
          refine FnZ_of (rs := [.cell 4 48, .tmp 5]) false Tryd.func22 rfl rfl rfl rfl (Nat.le_of_ble_eq_true rfl) ?_
          simp -dsimp [h3', l2, l3]
          refine call_ ht (by simp -dsimp) ?_
          simp -dsimp [optV, w1, w2]
          refine call_ hct (by simp -dsimp) ?_
          simp -dsimp [optC]
        · have hb' : ¬ 58 = b := fun h => hb h.symm
          rw [if_neg hb]
          refine FnZ_of (rs := [.cell 4 48, .tmp 5]) false Tryd.func22 rfl rfl rfl rfl (Nat.le_of_ble_eq_true rfl) ?_
          simp -dsimp [h3', l2, l3]
          refine call_ ht (by simp -dsimp) ?_
          simp -dsimp [optV, w1, w2]
          refine call_ hct (by simp -dsimp) ?_
          simp -dsimp [hb, hb', optC]
end TL

/- A drawn term: some row of marks. -/
set_option linter.unusedSimpArgs false
set_option linter.unusedVariables false
set_option maxRecDepth 100000
set_option maxHeartbeats 4000000
set_option pp.maxSteps 1500
namespace TL
open Go Go.Proofs
/-- Marks as cells. -/
def mkT : List Mark → List T
  | [] => []
  | m :: ms => .v (.int .i64 m.kind) :: .v (.int .i64 m.num) :: mkT ms
@[simp] theorem mkT_nil : mkT [] = [] := rfl
theorem mkT_append (a b : List Mark) : mkT (a ++ b) = mkT a ++ mkT b := by
  induction a with
  | nil => rfl
  | cons x xs ih => simp [mkT, ih]
@[simp] theorem mkT_length (a : List Mark) : (mkT a).length = a.length * 2 := by
  induction a with
  | nil => rfl
  | cons x xs ih => simp [mkT, ih]; omega
@[simp] theorem mkT_take (a : List Mark) : (mkT a).take (a.length * 2) = mkT a := List.take_of_length_le (by simp)
@[simp] theorem mkT_cells (a : List Mark) : allC (mkT a) := by
  induction a with
  | nil => simp
  | cons x xs ih => simp [mkT]; exact ih
theorem mkT_one (k a : Int) : [T.v (.int .i64 k), T.v (.int .i64 a)] = mkT [⟨k, a⟩] := rfl
/-- Parts as cells of a row. -/
def partsT (l : List (Nat × List Mark)) : List T := l.map fun q => .sv q.1 0 q.2.length
@[simp] theorem partsT_length (a : List (Nat × List Mark)) : (partsT a).length = a.length := by simp [partsT]
@[simp] theorem partsT_take (a : List (Nat × List Mark)) : (partsT a).take a.length = partsT a := List.take_of_length_le (by simp)
@[simp] theorem partsT_cells (a : List (Nat × List Mark)) : allC (partsT a) := by
  intro x hx; simp only [partsT, List.mem_map] at hx; obtain ⟨q, _, rfl⟩ := hx; rfl
@[simp] theorem partsT_cells_take (a : List (Nat × List Mark)) (k : Nat) : allC ((partsT a).take k) := allC_take (partsT_cells a) k
@[simp] theorem partsT_cells_drop (a : List (Nat × List Mark)) (k : Nat) : allC ((partsT a).drop k) := allC_drop (partsT_cells a) k
def sumLen (l : List (Nat × List Mark)) : Nat := (l.map fun q => q.2.length).sum
theorem sumLen_one {l : List (Nat × List Mark)} (h : ∀ q ∈ l, q.2.length = 1) : sumLen l = l.length := by
  induction l with
  | nil => rfl
  | cons x xs ih =>
    have := ih fun q hq => h q (List.mem_cons_of_mem _ hq)
    have h1 := h x (List.mem_cons_self ..)
    simp only [sumLen, List.map_cons, List.sum_cons, List.length_cons] at this ⊢; omega
theorem sumLen_append (a b : List (Nat × List Mark)) : sumLen (a ++ b) = sumLen a + sumLen b := by simp [sumLen]
theorem sumLen_set {l : List (Nat × List Mark)} {i : Nat} {q x : Nat × List Mark} (h : l[i]? = some q) : sumLen (l.set i x) + q.2.length = sumLen l + x.2.length := by
  induction l generalizing i with
  | nil => cases h
  | cons y ys ih =>
    cases i with
    | zero => cases h; simp [sumLen]; omega
    | succ i => have := ih (i := i) (by simpa using h); simp only [sumLen, List.set_cons_succ, List.map_cons, List.sum_cons] at this ⊢; omega
theorem two_split {α : Type} {l : List α} {i : Nat} (h : i + 1 < l.length) : ∃ a b, l[i]? = some a ∧ l[i + 1]? = some b ∧ l = l.take i ++ [a, b] ++ l.drop (i + 2) := by
  refine ⟨l[i], l[i + 1], List.getElem?_eq_getElem _, List.getElem?_eq_getElem _, ?_⟩
  have h1 : l.drop i = l[i] :: l.drop (i + 1) := List.drop_eq_getElem_cons (by omega)
  have h2 : l.drop (i + 1) = l[i + 1] :: l.drop (i + 2) := List.drop_eq_getElem_cons (by omega)
  rw [List.append_assoc]
  conv => lhs; rw [← List.take_append_drop i l, h1, h2]
  rfl
theorem sumLen_mem {l : List (Nat × List Mark)} {q : Nat × List Mark} (h : q ∈ l) : q.2.length ≤ sumLen l := by
  induction l with
  | nil => cases h
  | cons y ys ih =>
    rcases List.mem_cons.1 h with rfl | h
    · simp [sumLen]
    · have := ih h; simp only [sumLen, List.map_cons, List.sum_cons] at this ⊢; omega
end TL

/- Drawn claims and places. -/
set_option linter.unusedSimpArgs false
set_option linter.unusedVariables false
set_option maxRecDepth 100000
set_option maxHeartbeats 4000000
set_option pp.maxSteps 1500
namespace TL
open Go Go.Proofs
theorem mapO_mkT (k : Bool) (m : Mem) (d : Nat) (l : List Mark) : mapO (bor k m d) (mkT l) = some (l.flatMap fun x => [V.int .i64 x.kind, V.int .i64 x.num]) := by
  induction l with
  | nil => rfl
  | cons x xs ih => simp [mkT, mapO, ih]
theorem chunk_marks (l : List Mark) : chunk 2 l.length (l.flatMap fun x => [V.int .i64 x.kind, V.int .i64 x.num]) = l.map Mark.v := by
  induction l with
  | nil => rfl
  | cons x xs ih => simp [chunk, ih, Mark.v]
theorem bor_marks {m : Mem} {i e : Nat} {ms : List Mark} (d : Nat) (h : m i = some (.box e 2 (mkT ms))) : bor true m (d + 1) (.sv i 0 ms.length) = some (marksV ms) := by
  unfold bor
  simp -dsimp [h, mapO_mkT, marksV, chunk_marks]
  rw [tst_pos]
  · rw [chunk_marks]
  · intro x hx
    obtain ⟨y, _, hy⟩ := List.mem_flatMap.1 hx
    simp at hy; rcases hy with rfl | rfl <;> rfl
/-- A drawn term: pure. -/
def SomeTerm (x : V) : Prop := ∃ ms : List Mark, ms.length ≤ 20 ∧ fits ms ∧ x = marksV ms
/-- A drawn claim. -/
def SomeClaim (x : V) : Prop := ∃ c : Claim, c.says.length ≤ 20 ∧ c.fit ∧ x = c.v
end TL

/- Drawn places. -/
set_option linter.unusedSimpArgs false
set_option linter.unusedVariables false
set_option maxRecDepth 100000
set_option maxHeartbeats 4000000
set_option pp.maxSteps 1500
namespace TL
open Go Go.Proofs
def SomePlace (x : V) : Prop := ∃ q : Place, q.story.length ≤ 10 ∧ (∀ c ∈ q.story, c.says.length ≤ 20) ∧ q.fit ∧ x = q.v
theorem fitBad : Claim.fit ⟨4, [⟨0, 0⟩]⟩ := ⟨⟨by simp, by simp⟩, by simp [fits]; exact fit_mk (by omega) (by omega) (by omega) (by omega)⟩
theorem claim_cells (c : Claim) : c.v.cells = [.int .i64 c.who, marksV c.says] := rfl
end TL

/- Drawn arguments of the statements. -/
set_option linter.unusedSimpArgs false
set_option linter.unusedVariables false
set_option maxRecDepth 100000
set_option maxHeartbeats 4000000
set_option pp.maxSteps 1500
namespace TL
open Go Go.Proofs
/-- What a function that draws from a code leaves: some value of a kind. -/
def Drawn (R : V → Prop) (m : Mem) (n : Nat) (t : T) (m' : Mem) (n' : Nat) : Prop := n ≤ n' ∧ (∃ x, R x ∧ t = .v x) ∧ m' = m
def DrawnPost (R : V → Prop) (m0 : Mem) (n0 : Nat) (t : T) (m' : Mem) (n' : Nat) : Prop := n0 ≤ n' ∧ (∃ x, bor true (upper n0 m') 4 t = some x ∧ R x) ∧ ∀ j, j < n0 → m' j = m0 j
theorem Drawn_of {f : Nat} {args : List T} {R : V → Prop} {m : Mem} {n : Nat} (hf : ∃ fn, Tryd.prog.funcs[f]? = some fn ∧ (fn.name == "runtime.NumGoroutine") = false ∧ fn.body.isNone = false)
    (h : (∀ j, n ≤ j → m j = none) → FnS Tryd.prog f m n args (DrawnPost R m n)) : FnS Tryd.prog f m n args (Drawn R m n) := by
  refine FnS_fresh hf fun hfr => ?_
  refine (h hfr).frz ?_
  rintro t m' n' ⟨hn, ⟨x, hx, hR⟩, hout⟩
  refine ⟨x, m, upper n m', ?_, ?_, ?_, hx, hn, ⟨x, hR, rfl⟩, rfl⟩
  · intro j b hb
    by_cases h : j < n
    · rw [hout j h, hb]
    · rw [hfr j (by omega)] at hb; cases hb
  · intro j b hb
    by_cases h : n ≤ j
    · simpa [h] using hb
    · simp [h] at hb
  · intro j
    by_cases h : n ≤ j
    · left; exact hfr j h
    · right; simp [h]
end TL

/- The law of places. -/
set_option linter.unusedSimpArgs false
set_option linter.unusedVariables false
set_option maxRecDepth 100000
set_option maxHeartbeats 4000000
set_option pp.maxSteps 1500
namespace TL
open Go Go.Proofs
attribute [local simp] marksV storyV codeV Claim.v Place.v
def worldOk (people w : Int) : Bool := peopleOk people && decide (0 ≤ w) && decide (w < 2 ^ people.toNat)
theorem markStep_mono {people : Int} {parts q : Nat} {m : Mark} (h : markStep people parts m = some q) : markStep (people + 1) parts m = some q := by
  unfold markStep at h ⊢
  repeat' split at h
  all_goals first
    | (cases h; done)
    | (simp_all; omega)
    | simp_all
theorem marksRun_mono {people : Int} : ∀ (ms : List Mark) (parts : Nat) (q : Nat), marksRun people parts ms = some q → marksRun (people + 1) parts ms = some q
  | [], parts, q, h => h
  | m :: ms, parts, q, h => by
    simp only [marksRun] at h ⊢
    cases e : markStep people parts m with
    | none => rw [e] at h; cases h
    | some r =>
      rw [e] at h
      rw [markStep_mono e]
      exact marksRun_mono ms r q h
theorem termOk_mono {people : Int} {t : List Mark} (hp : people < 4) (h : termOk people t = true) : termOk (people + 1) t = true := by
  simp only [termOk, peopleOk, Bool.and_eq_true, decide_eq_true_eq] at h ⊢
  obtain ⟨⟨⟨⟨h1, h2⟩, h3⟩, h4⟩, h5⟩ := h
  exact ⟨⟨⟨⟨by omega, by omega⟩, h3⟩, h4⟩, marksRun_mono _ _ _ h5⟩
theorem claimOk_mono {people : Int} {c : Claim} (hp : people < 4) (h : claimOk people c = true) : claimOk (people + 1) c = true := by
  simp only [claimOk, peopleOk, Bool.and_eq_true, decide_eq_true_eq] at h ⊢
  obtain ⟨⟨⟨⟨⟨h1, h2⟩, h3⟩, h4⟩, h5⟩, h6⟩ := h
  exact ⟨⟨⟨⟨⟨by omega, by omega⟩, h3⟩, by omega⟩, termOk_mono hp h5⟩, h6⟩
theorem placeOk_mono {p : Place} (hp : p.people < 4) (h : placeOk p = true) : placeOk ⟨p.people + 1, p.story⟩ = true := by
  simp only [placeOk, storyOk, peopleOk, Bool.and_eq_true, decide_eq_true_eq, List.all_eq_true] at h ⊢
  obtain ⟨⟨h1, h2, h3⟩, h4⟩ := h
  exact ⟨⟨fun c hc => claimOk_mono hp (h1 c hc), by omega, by omega⟩, h4⟩
theorem placeOk_alone {p : Place} (h : placeOk p = true) : placeOk ⟨p.people, []⟩ = true := by
  simp only [placeOk, storyOk, peopleOk, Bool.and_eq_true, decide_eq_true_eq, List.all_eq_true] at h ⊢
  obtain ⟨⟨h1, h2, h3⟩, h4⟩ := h
  exact ⟨⟨by simp, by omega, by omega⟩, by simp⟩
end TL

/- Drawn claims; the law of their texts. -/
set_option linter.unusedSimpArgs false
set_option linter.unusedVariables false
set_option maxRecDepth 100000
set_option maxHeartbeats 4000000
set_option pp.maxSteps 1500
namespace TL
open Go Go.Proofs
attribute [local simp] marksV storyV codeV Claim.v Place.v
/-- A number of people, and a claim. -/
def SomePC (x : V) : Prop := ∃ (people : Int) (c : Claim), 1 ≤ people ∧ people ≤ 4 ∧ c.says.length ≤ 20 ∧ c.fit ∧ x = .tup [.int .i64 people, c.v]
theorem claim_fine {c : Claim} (h : c.says.length ≤ 20) (hf : c.fit) : c.fine := ⟨hf.2, by omega⟩
end TL

/- Drawn texts of claims; the law of reading them. -/
set_option linter.unusedSimpArgs false
set_option linter.unusedVariables false
set_option maxRecDepth 100000
set_option maxHeartbeats 4000000
set_option pp.maxSteps 1500
namespace TL
open Go Go.Proofs
attribute [local simp] marksV storyV codeV Claim.v Place.v
def SomePS (x : V) : Prop := ∃ (people : Int) (s : List UInt8), s.length ≤ 200 ∧ x = .tup [.int .i64 people, .str s]
theorem odd_strs : ∃ vs : List V, vs = [.str [], .str [58], .str [97], .str [33], .str [40], .str [101]] ∧ ∀ r : Int, 0 ≤ r → r < 6 → ∃ x : List UInt8, x.length ≤ 1 ∧ vs[r.toNat]? = some (.str x) := by
  refine ⟨_, rfl, fun r h0 h6 => ?_⟩
  have : r = 0 ∨ r = 1 ∨ r = 2 ∨ r = 3 ∨ r = 4 ∨ r = 5 := by omega
  rcases this with rfl | rfl | rfl | rfl | rfl | rfl
  · exact ⟨[], by simp, rfl⟩
  · exact ⟨[58], by simp, rfl⟩
  · exact ⟨[97], by simp, rfl⟩
  · exact ⟨[33], by simp, rfl⟩
  · exact ⟨[40], by simp, rfl⟩
  · exact ⟨[101], by simp, rfl⟩
theorem readC_small {people : Int} {s : List UInt8} {c : Claim} (h : readC people s = some c) : c.says.length ≤ 13 := by
  have := claimOk_all (readC_is h).1; omega
end TL

/- Measures; the exact law of PlaceOk. -/
set_option linter.unusedSimpArgs false
set_option linter.unusedVariables false
set_option maxRecDepth 100000
set_option maxHeartbeats 4000000
set_option pp.maxSteps 1500
namespace TL
open Go Go.Proofs
attribute [local simp] marksV storyV codeV Claim.v Place.v
def mid (n : Nat) : Prop := n ≤ 9223372036854775807
def Claim.mid (c : Claim) : Prop := TL.mid c.says.length
def Place.mid (p : Place) : Prop := TL.mid p.story.length ∧ ∀ c ∈ p.story, c.mid
def saysSum (l : List Claim) : Nat := (l.map fun c => c.says.length).sum
theorem saysSum_take {l : List Claim} {i : Nat} (h : i < l.length) : saysSum (l.take (i + 1)) = saysSum (l.take i) + l[i].says.length := by
  unfold saysSum; rw [List.take_succ_eq_append_getElem h, List.map_append, List.sum_append]; rfl
theorem saysSum_le (l : List Claim) (i : Nat) : saysSum (l.take i) ≤ saysSum l := by
  have e : saysSum l = saysSum (l.take i ++ l.drop i) := by rw [List.take_append_drop]
  rw [e]; unfold saysSum; rw [List.map_append, List.sum_append]; omega
def SZC (l : List Claim) (left : Int) (e : Nat) (s : S) : Prop := ∃ i : Nat, s.tm 0 = .v (.sl (l.map Claim.v)) ∧ s.tm 1 = .v (.int .i64 (left - l.length - saysSum (l.take i))) ∧ s.tm 5 = .v (.int .i64 i) ∧ i ≤ l.length ∧ 0 ≤ left - l.length - saysSum (l.take i) ∧ (e = 1 → i = l.length)
def Place.bulk (p : Place) : Nat := p.story.length + saysSum p.story
theorem saysSum_mem {l : List Claim} {c : Claim} (h : c ∈ l) : c.says.length ≤ saysSum l := by
  induction l with
  | nil => cases h
  | cons y ys ih =>
    rcases List.mem_cons.1 h with rfl | h
    · simp [saysSum]
    · have := ih h; simp only [saysSum, List.map_cons, List.sum_cons] at this ⊢; omega
theorem Place.small_of {p : Place} (h : ¬ (1048576 : Int) - p.bulk < 0) : p.small := by
  unfold Place.bulk at h
  exact ⟨by omega, fun c hc => by have := saysSum_mem hc; unfold Claim.small; omega⟩
end TL

/- TL, part 21: what the reading of an argument says: the pure value that it is. -/
set_option linter.unusedVariables false
set_option linter.unusedSimpArgs false
namespace TL
open Go Go.RowKit
/-- All that lies in memory. -/
def ZA (w : World) : Zs := fun k _ => k < w.heap.size
/-- Whatever is read at a type is a row of pure cells of a kind. -/
def Opens (P : Program) (w : World) (t : TypeId) (R : List V → Prop) : Prop :=
  ∀ (H : Type) (enc : TypeId × Value → H) (base : Nat) (sp : Nat → Bool) (held : Bool) (fuel : Nat) (cs : List Value) (x : DataW H × List MemPlace), DataW.trod enc P w base sp held fuel t cs = some x → ∃ vs, RepCs (ZA w) w vs cs ∧ R vs
section
variable {P : Program} {w : World} {t : TypeId}
theorem RepCs.append {Z : Zs} {a b : List V} {us vs : List Value} (h : RepCs Z w a us) (g : RepCs Z w b vs) : RepCs Z w (a ++ b) (us ++ vs) := by
  induction a generalizing us with
  | nil => cases h; exact g
  | cons x xs ih => cases h with | cons hc h t => exact .cons hc h (ih t)
theorem Opens.mono {R R' : List V → Prop} (h : Opens P w t R) (hr : ∀ vs, R vs → R' vs) : Opens P w t R' := fun H enc base sp held fuel cs x hx => by
  obtain ⟨vs, h1, h2⟩ := h H enc base sp held fuel cs x hx
  exact ⟨vs, h1, hr vs h2⟩
theorem opens_int {k : IntKind} (ht : P.underlying t = some (.int k)) : Opens P w t fun vs => ∃ n, vs = [.int k n] ∧ (Lit.int k n).wf = true := fun H enc base sp held fuel cs x hx => by
  obtain ⟨n, rfl, _, hw⟩ := DataW.trod_int ht hx
  exact ⟨_, .cons rfl (.int _ _) .nil, n, rfl, hw⟩
theorem opens_bool (ht : P.underlying t = some .bool) : Opens P w t fun vs => ∃ b, vs = [.bool b] := fun H enc base sp held fuel cs x hx => by
  obtain ⟨b, rfl, _⟩ := DataW.trod_bool ht hx
  exact ⟨_, .cons rfl (.bool _) .nil, b, rfl⟩
theorem opens_string (ht : P.underlying t = some .string) : Opens P w t fun vs => ∃ s : List UInt8, vs = [.str s] ∧ s.length ≤ maxLen := fun H enc base sp held fuel cs x hx => by
  obtain ⟨s, rfl, _, hs⟩ := DataW.trod_string ht hx
  exact ⟨_, .cons rfl (.str rfl) .nil, _, rfl, by simpa using hs⟩
theorem opens_slice {e : TypeId} {z : Nat} {α : Type} {v : α → V} {Q : α → Prop} (ht : P.underlying t = some (.slice e)) (hc : P.cellsOf e = z) (hz : 0 < z)
    (ho : Opens P w e fun vs => ∃ a, Q a ∧ (v a = .agg vs ∨ (z = 1 ∧ vs = [v a]))) : Opens P w t fun vs => ∃ l : List α, vs = [.sl (l.map v)] ∧ l.length ≤ maxLen ∧ ∀ a ∈ l, Q a := fun H enc base sp held fuel cs x hx => by
  rcases DataW.trod_slice ht hx with ⟨rfl, _⟩ | ⟨a, len, cap, elems, rest, n, _, rfl, rfl, hb, hl, hm, hlen, hel, _⟩
  · exact ⟨_, .cons rfl (.nil _ _) .nil, [], rfl, by simp, by simp⟩
  · have key : ∀ m k, k + m = len → ∃ (l : List α) (us : List Value), l.length = m ∧ RepEs (ZA w) w z (l.map v) us ∧ (∀ a ∈ l, Q a) ∧ ∀ i u, us[i]? = some u → w.cell? (a.add (k * z + i)) = some u := by
      intro m
      induction m with
      | zero => intro k _; exact ⟨[], [], rfl, .nil z, by simp, by simp⟩
      | succ m ih =>
        intro k hk
        obtain ⟨l, us, h1, h2, h3, h4⟩ := ih (k + 1) (by omega)
        have he := hel k (by omega)
        have : k < elems.length := by omega
        rw [List.getElem?_eq_getElem this, Option.bind_eq_some_iff] at he
        obtain ⟨ci, hci, htr⟩ := he
        obtain ⟨_, hcl, hcell⟩ := World.cells?_some hci
        obtain ⟨vs, hrep, y, hQ, hv⟩ := ho H enc base sp held n ci _ htr
        have hlz : ci.length = z := by rw [hcl, hc]
        refine ⟨y :: l, ci ++ us, by simp [h1], ?_, ?_, ?_⟩
        · rcases hv with hv | ⟨rfl, rfl⟩
          · show RepEs (ZA w) w z (v y :: l.map v) (ci ++ us)
            rw [hv]; exact .agg hrep hlz h2
          · cases hrep with | cons hcc hx' t => cases t; exact .one hcc hx' h2
        · intro b hb; rcases List.mem_cons.1 hb with rfl | hb
          · exact hQ
          · exact h3 b hb
        · intro i u hu
          by_cases hi : i < z
          · rw [List.getElem?_append_left (by omega)] at hu
            have := hcell i (by omega)
            rw [hc, add_add, hu] at this
            exact this
          · rw [List.getElem?_append_right (by omega)] at hu
            have := h4 _ u hu
            rw [hlz, show (k + 1) * z + (i - z) = k * z + i by rw [Nat.succ_mul]; omega] at this
            exact this
    obtain ⟨l, us, h1, h2, h3, h4⟩ := key len 0 (by omega)
    refine ⟨_, .cons rfl (.sl h2 (by simp [h1]) hl hm fun i u hu => ?_) .nil, l, rfl, by omega, h3⟩
    have := h4 i u hu
    rw [Nat.zero_mul, Nat.zero_add] at this
    exact ⟨this, World.block_lt_of_cell? w _ this⟩
theorem opens_struct2 {f0 f1 : Field} {R0 R1 : List V → Prop} (ht : P.underlying t = some (.struct #[f0, f1])) (o0 : f0.offset = 0) (o1 : f1.offset = P.cellsOf f0.type) (hz : P.cellsOf t = P.cellsOf f0.type + P.cellsOf f1.type)
    (h0 : Opens P w f0.type R0) (h1 : Opens P w f1.type R1) : Opens P w t fun vs => ∃ v0 v1, vs = v0 ++ v1 ∧ R0 v0 ∧ R1 v1 := fun H enc base sp held fuel cs x hx => by
  obtain ⟨xs, n, _, _, hcl, hxl, hf⟩ := DataW.trod_struct ht hx
  have e0 := hf 0 f0 rfl
  have e1 := hf 1 f1 rfl
  have hxl : xs.length = 2 := hxl
  rw [List.getElem?_eq_getElem (by omega)] at e0 e1
  obtain ⟨v0, r0, q0⟩ := h0 H enc base sp held n _ _ e0
  obtain ⟨v1, r1, q1⟩ := h1 H enc base sp held n _ _ e1
  refine ⟨v0 ++ v1, ?_, v0, v1, rfl, q0, q1⟩
  have := r0.append r1
  rw [o0, o1, List.drop_zero, List.take_of_length_le (l := cs.drop _) (by simp; omega), List.take_append_drop] at this
  exact this
theorem opens_struct3 {f0 f1 f2 : Field} {R0 R1 R2 : List V → Prop} (ht : P.underlying t = some (.struct #[f0, f1, f2])) (o0 : f0.offset = 0) (o1 : f1.offset = P.cellsOf f0.type) (o2 : f2.offset = P.cellsOf f0.type + P.cellsOf f1.type)
    (hz : P.cellsOf t = P.cellsOf f0.type + P.cellsOf f1.type + P.cellsOf f2.type)
    (h0 : Opens P w f0.type R0) (h1 : Opens P w f1.type R1) (h2 : Opens P w f2.type R2) : Opens P w t fun vs => ∃ v0 v1 v2, vs = v0 ++ v1 ++ v2 ∧ R0 v0 ∧ R1 v1 ∧ R2 v2 := fun H enc base sp held fuel cs x hx => by
  obtain ⟨xs, n, _, _, hcl, hxl, hf⟩ := DataW.trod_struct ht hx
  have e0 := hf 0 f0 rfl
  have e1 := hf 1 f1 rfl
  have e2 := hf 2 f2 rfl
  have hxl : xs.length = 3 := hxl
  rw [List.getElem?_eq_getElem (by omega)] at e0 e1 e2
  obtain ⟨v0, r0, q0⟩ := h0 H enc base sp held n _ _ e0
  obtain ⟨v1, r1, q1⟩ := h1 H enc base sp held n _ _ e1
  obtain ⟨v2, r2, q2⟩ := h2 H enc base sp held n _ _ e2
  refine ⟨v0 ++ v1 ++ v2, ?_, v0, v1, v2, rfl, q0, q1, q2⟩
  have := (r0.append r1).append r2
  rw [o0, o1, o2, List.drop_zero, List.take_of_length_le (l := cs.drop (_ + _)) (by simp; omega)] at this
  have e : cs.take (P.cellsOf f0.type) ++ (cs.drop (P.cellsOf f0.type)).take (P.cellsOf f1.type) ++ cs.drop (P.cellsOf f0.type + P.cellsOf f1.type) = cs := by
    rw [List.append_assoc, ← List.drop_drop, List.take_append_drop, List.take_append_drop]
  rw [e] at this
  exact this
theorem rep_one {R : List V → Prop} {H : Type} {enc : TypeId × Value → H} {base : Nat} {sp : Nat → Bool} {held : Bool} {v : Value} {d : DataW H} {p : List MemPlace} (ho : Opens P w t R) (h : DataW.Trod enc P w base sp held t v d p) (hv : v.cells = #[v]) : ∃ x, RepV (ZA w) w x v ∧ R [x] := by
  obtain ⟨fuel, h⟩ := h
  obtain ⟨vs, h1, h2⟩ := ho H enc base sp held fuel _ _ h
  rw [hv] at h1
  cases h1 with | cons hc hx t => cases t; exact ⟨_, hx, h2⟩
theorem rep_agg {R : List V → Prop} {H : Type} {enc : TypeId × Value → H} {base : Nat} {sp : Nat → Bool} {held : Bool} {cs : Array Value} {d : DataW H} {p : List MemPlace} (ho : Opens P w t R) (h : DataW.Trod enc P w base sp held t (.agg cs) d p) : ∃ vs, RepV (ZA w) w (.agg vs) (.agg cs) ∧ R vs := by
  obtain ⟨fuel, h⟩ := h
  obtain ⟨vs, h1, h2⟩ := ho H enc base sp held fuel _ _ h
  have h1 : RepCs (ZA w) w vs cs.toList := h1
  exact ⟨vs, by have := RepV.agg h1; simpa using this, h2⟩
/-- A law's contract over pure values, for the machine. -/
theorem law_walk {f : Nat} {args : List V} {us : List Value} (law : FnZ P f args (.bool true)) (hgl : Gl P (ZA w) w) (hr : RepVs (ZA w) w args us) :
    Calls P f us.toArray w fun e w' => e = .returned (.bool true) ∧ Below w.heap.size w w' := by
  have hc := law.2 (ZA w) w us ⟨fun _ _ h => h, hgl⟩ hr
  intro c
  obtain ⟨e, w', fr, h1, h2⟩ := hc c
  refine ⟨e, w', fr, ?_, h2⟩
  obtain ⟨v, rfl, hb, hv⟩ := h1
  cases hv
  exact ⟨rfl, hb⟩
end
end TL

/- What the arguments of the exact laws are. -/
set_option linter.unusedVariables false
set_option linter.unusedSimpArgs false
namespace TL
open Go Go.Proofs
theorem fit_wf {n : Int} (h : (Lit.int .i64 n).wf = true) : fit n := by
  simp [Lit.wf, IntKind.min, IntKind.max, IntKind.signed, IntKind.bits] at h
  unfold fit; omega
theorem opens_int' (w : World) : Opens Tryd.prog w 3 fun vs => ∃ n : Int, fit n ∧ vs = [.int .i64 n] :=
  (opens_int Tryd.underlying3).mono fun vs h => by obtain ⟨n, rfl, hw⟩ := h; exact ⟨n, fit_wf hw, rfl⟩
theorem opens_code (w : World) : Opens Tryd.prog w 60 fun vs => ∃ bs : List UInt8, vs = [codeV bs] :=
  (opens_slice (α := UInt8) (v := fun b => V.int .u8 b.toNat) (Q := fun _ => True) Tryd.underlying60 (z := 1) (by kernel_rfl) (by omega) ((opens_int Tryd.underlying5).mono fun vs h => by
    obtain ⟨n, rfl, hw⟩ := h
    refine ⟨UInt8.ofNat n.toNat, trivial, .inr ⟨rfl, ?_⟩⟩
    have e : ((UInt8.ofNat n.toNat).toNat : Int) = n := by
      simp [Lit.wf, IntKind.min, IntKind.max, IntKind.signed, IntKind.bits] at hw
      rw [UInt8.toNat_ofNat']; omega
    rw [e])).mono fun vs h => by obtain ⟨l, rfl, _, _⟩ := h; exact ⟨l, rfl⟩
end TL

/- Claims that are read, in memory of the caller's own; the exact law of reading claims. -/
set_option linter.unusedSimpArgs false
set_option linter.unusedVariables false
set_option maxRecDepth 100000
set_option maxHeartbeats 4000000
set_option pp.maxSteps 1500
namespace TL
open Go Go.Proofs
attribute [local simp] marksV storyV codeV Claim.v Place.v
theorem mkT_flat (l : List Mark) : (l.map Mark.v).flatMap (fun x => x.cells.map T.v) = mkT l := by
  induction l with
  | nil => rfl
  | cons a l ih => rw [List.map_cons, List.flatMap_cons, ih]; rfl
theorem mkT_kind (k : Int) : ∀ (l : List Mark) (i : Nat), (h : i < l.length) → (mkT l).set (i * 2) (.v (.int .i64 k)) = mkT (l.set i ⟨k, l[i].num⟩)
  | [], i, h => by simp at h
  | a :: l, 0, h => rfl
  | a :: l, i + 1, h => by
    have e : (i + 1) * 2 = i * 2 + 1 + 1 := by omega
    rw [e]
    show T.v _ :: T.v _ :: (mkT l).set (i * 2) _ = T.v _ :: T.v _ :: mkT (l.set i _)
    rw [mkT_kind k l i (by simpa using h)]; rfl
theorem mkT_num (k : Int) : ∀ (l : List Mark) (i : Nat), (h : i < l.length) → (mkT l).set (i * 2 + 1) (.v (.int .i64 k)) = mkT (l.set i ⟨l[i].kind, k⟩)
  | [], i, h => by simp at h
  | a :: l, 0, h => rfl
  | a :: l, i + 1, h => by
    have e : (i + 1) * 2 + 1 = (i * 2 + 1) + 1 + 1 := by omega
    rw [e]
    show T.v _ :: T.v _ :: (mkT l).set (i * 2 + 1) _ = T.v _ :: T.v _ :: mkT (l.set i _)
    rw [mkT_num k l i (by simpa using h)]; rfl
/-- Marks that count on from k. -/
def cnts (k : Int) : Nat → List Mark
  | 0 => []
  | n + 1 => cnts k n ++ [⟨k + 2 * n, k + 2 * n + 1⟩]
@[simp] theorem cnts_length (k : Int) (n : Nat) : (cnts k n).length = n := by
  induction n with
  | zero => rfl
  | succ n ih => simp [cnts, ih]
theorem cnts_get (k : Int) : ∀ (n i : Nat) (h : i < n), (cnts k n)[i]? = some ⟨k + 2 * i, k + 2 * i + 1⟩
  | n + 1, i, h => by
    unfold cnts
    by_cases hi : i < n
    · rw [List.getElem?_append_left (by simpa using hi)]; exact cnts_get k n i hi
    · have : i = n := by omega
      subst this
      rw [List.getElem?_append_right (by simp)]; simp
theorem cnts_step (k : Int) (l : List Mark) (i : Nat) (h : i < l.length) (a : Int) : ((cnts k i ++ l.drop i).set i ⟨k + 2 * i, a⟩).set i ⟨k + 2 * i, k + 2 * i + 1⟩ = cnts k (i + 1) ++ l.drop (i + 1) := by
  rw [List.set_set, List.set_append_right _ _ (by simp), cnts_length, Nat.sub_self, drop_cons h, List.set_cons_zero]
  simp [cnts]
def Imk (id : Nat) (l : List Mark) (k : Int) (m0 : Mem) (n0 : Nat) (e : Nat) (s : S) : Prop := ∃ i : Nat, s.tm 0 = .sv id 0 l.length ∧ s.tm 1 = .v (.int .i64 (k + 2 * i)) ∧ s.tm 5 = .v (.int .i64 i) ∧ i ≤ l.length ∧ n0 ≤ s.n ∧ s.m = updM m0 id (some (.box 86 2 (mkT (cnts k i ++ l.drop i)))) ∧ (e = 1 → i = l.length)
theorem markMarkS_fn (l : List Mark) (k : Int) (hl : l.length ≤ 1000000) (hk0 : 0 ≤ k) (hk : k ≤ 1000000) (m : Mem) (n id : Nat) (hm : m id = some (.box 86 2 (mkT l))) :
    FnS Tryd.prog 47 m n [.sv id 0 l.length, .v (.int .i64 k)] (fun t m' n' => t = .v (.int .i64 (k + 2 * l.length)) ∧ n ≤ n' ∧ m' = updM m id (some (.box 86 2 (mkT (cnts k l.length))))) := by
  refine FnS_of (rs := [.tmp 4]) false Tryd.func47 rfl rfl rfl rfl (Nat.le_of_ble_eq_true rfl) ?_
  simp -dsimp
  refine twp_loopC (Imk id l k m n 0) (fun s => l.length - natOf (s.tm 5)) (Imk id l k m n 1) ?_ ?_ ?_
  · exact ⟨0, by simp -dsimp, by simp -dsimp, by simp -dsimp, by omega, by simp -dsimp, by simp -dsimp [cnts]; exact (updM_self hm).symm, by simp⟩
  · rintro s ⟨i, t0, t1, t5, hi, hn, hmm, hend⟩
    by_cases hlt : i < l.length
    case neg =>
      simp -dsimp [t0, t5, hlt]
      exact ⟨i, by simp -dsimp [t0], by simp -dsimp [t1], by simp -dsimp [t5], hi, by simp -dsimp [hn], by simp -dsimp [hmm], fun _ => by omega⟩
    have hL : (cnts k i ++ l.drop i).length = l.length := by simp; omega
    have e1 := mkT_kind (k + 2 * i) (cnts k i ++ l.drop i) i (by omega)
    generalize hnum : ((cnts k i ++ l.drop i)[i]'(by omega)).num = nu at *
    have e2 := mkT_num (k + 2 * i + 1) ((cnts k i ++ l.drop i).set i ⟨k + 2 * i, nu⟩) i (by simp; omega)
    have e3 : (((cnts k i ++ l.drop i).set i ⟨k + 2 * i, nu⟩)[i]'(by simp; omega)).kind = k + 2 * i := by simp
    rw [e3, cnts_step k l i hlt] at e2
    have hmi : s.m id = some (.box 86 2 (mkT (cnts k i ++ l.drop i))) := by rw [hmm, updM_same]
    have hlen1 : (mkT (cnts k i ++ l.drop i)).length = l.length * 2 := by rw [mkT_length, hL]
    have hlen2 : (mkT ((cnts k i ++ l.drop i).set i ⟨k + 2 * i, nu⟩)).length = l.length * 2 := by rw [mkT_length, List.length_set, hL]
    have wi : IntKind.wrap .i64 ((i : Int) + 1) = ((i + 1 : Nat) : Int) := by rw [w64 (by omega) (by omega)]; omega
    have w1 : IntKind.wrap .i64 (k + 2 * i + 1) = k + 2 * i + 1 := w64 (by omega) (by omega)
    have w2 : IntKind.wrap .i64 (k + 2 * i + 1 + 1) = k + 2 * ((i + 1 : Nat) : Int) := by rw [w64 (by omega) (by omega)]; omega
    have hmu : l.length - (i + 1) < l.length - i := by omega
    have hlt' : (i : Int) < (l.length : Int) := by omega
    have o1 : i * 2 + 1 ≤ l.length * 2 := by omega
    have o2 : i * 2 + 1 + 1 ≤ l.length * 2 := by omega
    have o3 : i * 2 < l.length * 2 := by omega
    have o4 : i * 2 + 1 < l.length * 2 := by omega
    generalize mkT (cnts k i ++ l.drop i) = c1 at *
    generalize mkT ((cnts k i ++ l.drop i).set i ⟨k + 2 * i, nu⟩) = c2 at *
    generalize hc3 : mkT (cnts k (i + 1) ++ l.drop (i + 1)) = c3 at *
    simp -dsimp [t0, t1, t5, hlt, hlt', hmi, hlen1, hlen2, setAt, e1, e2, w1, w2, wi, hmu, o1, o2, o3, o4]
    refine st_out fun s' ht hm' hn' hu' => ?_
    have a0 := ht 0
    have a1 := ht 1
    have a5 := ht 5
    simp -dsimp [t0] at a0 a1 a5 hm' hn' hu'
    clear ht
    refine ⟨i + 1, a0, by rw [a1]; congr 3, a5, by omega, by omega, ?_, by simp⟩
    rw [hm', hmm, hc3]; simp
  · rintro s ⟨i, t0, t1, t5, hi, hn, hmm, hend⟩
    have hil := hend rfl
    rw [hil, List.drop_length, List.append_nil] at hmm
    rw [hil] at t1
    simp -dsimp [t1]
    exact ⟨hn, hmm⟩
def IhdM (k : Int) (l : Nat) (e : Nat) (s : S) : Prop := ∃ i : Nat, s.tm 0 = .v (.sl ((cnts k l).map Mark.v)) ∧ s.tm 1 = .v (.int .i64 (k + 2 * i)) ∧ s.tm 5 = .v (.int .i64 i) ∧ i ≤ l ∧ (e = 1 → i = l)
theorem heldMarkS_fn (l : Nat) (k : Int) (hl : l ≤ 1000000) (hk0 : 0 ≤ k) (hk : k ≤ 1000000) : FnZ Tryd.prog 48 [.sl ((cnts k l).map Mark.v), .int .i64 k] (.int .i64 (k + 2 * l)) := by
  refine FnZ_of (rs := [.tmp 4]) false Tryd.func48 rfl rfl rfl rfl (Nat.le_of_ble_eq_true rfl) ?_
  simp -dsimp
  refine twp_loopC (IhdM k l 0) (fun s => l - natOf (s.tm 5)) (IhdM k l 1) ?_ ?_ ?_
  · exact ⟨0, by simp -dsimp, by simp -dsimp, by simp -dsimp, by omega, by simp⟩
  · rintro s ⟨i, t0, t1, t5, hi, hend⟩
    by_cases hlt : i < l
    case neg =>
      simp -dsimp [t0, t5, hlt]
      exact ⟨i, by simp -dsimp [t0], by simp -dsimp [t1], by simp -dsimp [t5], hi, fun _ => by omega⟩
    have hget : ((cnts k l).map Mark.v)[i]? = some (Mark.v ⟨k + 2 * i, k + 2 * i + 1⟩) := by rw [List.getElem?_map, cnts_get k l i hlt]; rfl
    have hcl : ((cnts k l).map Mark.v).length = l := by simp
    have wi : IntKind.wrap .i64 ((i : Int) + 1) = ((i + 1 : Nat) : Int) := by rw [w64 (by omega) (by omega)]; omega
    have w1 : IntKind.wrap .i64 (k + 2 * i + 1) = k + 2 * i + 1 := w64 (by omega) (by omega)
    have w2 : IntKind.wrap .i64 (k + 2 * i + 1 + 1) = k + 2 * ((i + 1 : Nat) : Int) := by rw [w64 (by omega) (by omega)]; omega
    have hmu : l - (i + 1) < l - i := by omega
    generalize hrow : (cnts k l).map Mark.v = row at *
    have hlt2 : i < row.length := by omega
    have hget2 : row[i] = Mark.v ⟨k + 2 * i, k + 2 * i + 1⟩ := by rw [List.getElem?_eq_getElem hlt2] at hget; exact Option.some.inj hget
    simp -dsimp [t0, t1, t5, hlt, hlt2, hcl, hget2, w1, w2, wi, hmu]
    refine st_out fun s' ht hm' hn' hu' => ?_
    have a0 := ht 0
    have a1 := ht 1
    have a5 := ht 5
    simp -dsimp [t0] at a0 a1 a5 hm' hn' hu'
    clear ht
    exact ⟨i + 1, by rw [a0, hrow], by rw [a1]; congr 3, a5, by omega, by simp⟩
  · rintro s ⟨i, t0, t1, t5, hi, hend⟩
    have hil := hend rfl
    rw [hil] at t1
    simp -dsimp [t1]
/-- A row of marks in memory of one's own. -/
def OwnRow (m' : Mem) (n n' : Nat) (st : T) (l : List Mark) : Prop := ∃ id, st = .sv id 0 l.length ∧ n ≤ id ∧ id < n' ∧ m' id = some (.box 86 2 (mkT l))
theorem cloneMarks_own (l : List Mark) (h0 : l ≠ []) (hl : l.length ≤ 1048576) (m : Mem) (n : Nat) : FnS Tryd.prog 63 m n [.v (marksV l)] (fun t m' n' => n ≤ n' ∧ (∀ j, j < n → m' j = m j) ∧ OwnRow m' n n' t l) := by
  have b1 : l.length * 16 ≤ 140737488355328 := by omega
  have hfl := mkT_flat l
  refine FnS_of (rs := [.tmp 2]) true Tryd.func63 rfl rfl rfl rfl (Nat.le_of_ble_eq_true rfl) ?_
  simp -dsimp [b1, h0, hfl]
  exact ⟨by omega, fun j hj => by simp [far hj], n + 1, rfl, by omega, by omega, by simp⟩
theorem claimBy_own (people who : Int) (t : List Mark) (hk : claimOk people ⟨who, t⟩ = true) (m : Mem) (n : Nat) :
    FnS Tryd.prog 41 m n [.v (.int .i64 people), .v (.int .i64 who), .v (marksV t)] (fun x m' n' => n ≤ n' ∧ (∀ j, j < n → m' j = m j) ∧ ∃ st, x = .tup [.agg [.v (.int .i64 who), st], .v (.bool true)] ∧ OwnRow m' n n' st t) := by
  have hc := claimOk_fn people ⟨who, t⟩
  rw [hk] at hc
  have ht := (claimOk_all hk).2.2.2.2
  have hl := ht.2
  have h0 : t ≠ [] := by rintro rfl; have := termOk_pos ht.1; simp at this
  simp only at hl h0
  refine FnS_of (rs := [.cell 6 48, .tmp 7]) true Tryd.func41 rfl rfl rfl rfl (Nat.le_of_ble_eq_true rfl) ?_
  simp -dsimp
  refine callS_ (cloneMarks_own t h0 (by omega) _ _) ?_
  rintro x m1 n1 ⟨hn1, hout, id, rfl, hi0, hi1, hmi⟩
  have f1 := far hi1
  have f2 := far (show n < n1 by omega)
  have g1 : ¬ id = n := by omega
  have hmn := hout n (by omega)
  simp -dsimp [f1, f2, g1, Ne.symm g1] at hmn ⊢
  have hb := bor_marks (m := updM m1 n1 (some (.box 48 2 [.v (.int .i64 who), .sv id 0 t.length]))) (i := id) (e := 86) (ms := t) 2 (by simp [f1, hmi])
  refine callM_ hc (by simp -dsimp [f1, f2, hb, hmi]) rfl ?_
  simp -dsimp [f1, f2, g1, Ne.symm g1, hmn]
  refine ⟨by omega, fun j hj => ?_, id, rfl, by omega, by omega, by simp [f1, g1, hmi]⟩
  have q1 : ¬ j = n := by omega
  have q2 : ¬ j = n1 := by omega
  rw [if_neg q1, if_neg q2, hout j (by omega)]; simp [q1]
theorem readC_len' {people : Int} {s : List UInt8} {c : Claim} (h : readC people s = some c) : 3 ≤ s.length ∧ s.length ≤ 27 := by
  obtain ⟨h1, h2⟩ := readC_is h
  rw [← h2]; exact ⟨(claimTx_len h1).1, (claimTx_len h1).2.1⟩
theorem readClaim_own (people : Int) (s : List UInt8) (c : Claim) (hl : s.length ≤ 2000000000) (hr : readC people s = some c) (m : Mem) (n : Nat) :
    FnS Tryd.prog 25 m n [.v (.int .i64 people), .v (.str s)] (fun x m' n' => n ≤ n' ∧ (∀ j, j < n → m' j = m j) ∧ ∃ st, x = .tup [.agg [.v (.int .i64 c.who), st], .v (.bool true)] ∧ OwnRow m' n n' st c.says) := by
  match s, hl, hr with
  | [], hl, hr => cases hr
  | [a], hl, hr => cases hr
  | a :: b :: s, hl, hr =>
    have hlen := readC_len' hr
    simp only [List.length_cons] at hlen
    by_cases hb : b = 58
    case neg => 
      have : readC people (a :: b :: s) = none := if_neg hb
      rw [this] at hr; cases hr
    subst hb
    have e : readC people (a :: 58 :: s) = (readT people s).bind fun t => if claimOk people ⟨(a.toNat : Int) - 97, t⟩ = true then some ⟨(a.toNat : Int) - 97, t⟩ else none := rfl
    rw [e] at hr
    have ht := readTerm_fn people s (by simp at hl; omega)
    cases ho : readT people s with
    | none => rw [ho] at hr; cases hr
    | some t =>
      rw [ho, Option.bind_some] at hr
      rw [ho] at ht
      have hk := ft (claimOk people ⟨(a.toNat : Int) - 97, t⟩)
      rcases hk with hk | hk
      · rw [if_neg (by simp [hk])] at hr; cases hr
      rw [if_pos hk] at hr
      cases hr
      have hlt := UInt8.toNat_lt a
      have w1 : IntKind.wrap .i64 ((a.toNat : Int) - 97) = (a.toNat : Int) - 97 := w64 (by omega) (by omega)
      have w2 : IntKind.wrap .i64 (a.toNat : Int) = (a.toNat : Int) := w64 (by omega) (by omega)
      have h3' : ¬ ((s.length : Int) + 1 + 1 < 3) := by omega
      have l2 : (2 : Int) ≤ (s.length : Int) + 1 + 1 := by omega
      have l3 : ((s.length : Int) + 1 + 1).toNat = s.length + 1 + 1 := by omega
      have hcb := claimBy_own people ((a.toNat : Int) - 97) t hk
      refine FnS_of (rs := [.cell 4 48, .tmp 5]) true Tryd.func25 rfl rfl rfl rfl (Nat.le_of_ble_eq_true rfl) ?_
      simp -dsimp [h3', l2, l3]
      refine call_ ht (by simp -dsimp) ?_
      simp -dsimp [optV, w1, w2]
      refine callS_ (hcb _ _) ?_
      rintro x m1 n1 ⟨hn1, hout, st, rfl, id, rfl, hi0, hi1, hmi⟩
      have f2 := far (show n < n1 by omega)
      have g1 : ¬ id = n := by omega
      have hmn := hout n (by omega)
      simp -dsimp at hmn
      simp -dsimp [f2, g1, Ne.symm g1, hmn]
      refine ⟨by omega, fun j hj => ?_, id, rfl, by omega, by omega, by simp [g1, hmi]⟩
      have q1 : ¬ j = n := by omega
      rw [if_neg q1, hout j (by omega)]; simp [q1]
theorem opens_str (w : World) : Opens Tryd.prog w 9 fun vs => ∃ s : List UInt8, s.length ≤ maxLen ∧ vs = [.str s] :=
  (opens_string Tryd.underlying9).mono fun vs h => by obtain ⟨s, rfl, hl⟩ := h; exact ⟨s, hl, rfl⟩
end TL

/- Deeds and their texts: what they are. -/
set_option linter.unusedSimpArgs false
set_option linter.unusedVariables false
set_option maxRecDepth 100000
set_option maxHeartbeats 4000000
set_option pp.maxSteps 1500
namespace TL
open Go Go.Proofs
structure Deed where
  kind : Int
  num : Int
  words : List UInt8
  deriving DecidableEq
def Deed.v (a : Deed) : V := .agg [.int .i64 a.kind, .int .i64 a.num, .str a.words]
theorem deed_cells (a : Deed) : a.v.cells = [.int .i64 a.kind, .int .i64 a.num, .str a.words] := rfl
attribute [local simp] marksV storyV codeV Claim.v Place.v Deed.v
/-- The decimal text of a small number. -/
def dec (n : Int) : List UInt8 := Go.Lib.decDigits n.toNat
theorem dec_len {n : Int} (h0 : 0 ≤ n) (h : n ≤ 99) : (dec n).length ≤ 2 := by
  unfold dec
  by_cases h1 : n.toNat < 10
  · rw [Go.Lib.decDigits_one h1]; simp
  · rw [Go.Lib.decDigits_two h1 (by omega)]; simp
def txSay : List UInt8 := [115, 97, 121, 32]
def txDrop : List UInt8 := [100, 114, 111, 112, 32]
def txPeople : List UInt8 := [112, 101, 111, 112, 108, 101, 32]
def txLeast : List UInt8 := [108, 101, 97, 115, 116]
def txBack : List UInt8 := [98, 97, 99, 107]
noncomputable def deedTx (a : Deed) : List UInt8 :=
  if a.kind = 0 ∧ a.num = 0 ∧ (readC 4 a.words).isSome = true then txSay ++ a.words
  else if a.words ≠ [] ∨ a.num < 0 ∨ 99 < a.num then []
  else if a.kind = 1 then txDrop ++ dec a.num
  else if a.kind = 2 then txPeople ++ dec a.num
  else if a.kind = 3 ∧ a.num = 0 then txLeast
  else if a.kind = 4 ∧ a.num = 0 then txBack
  else []
theorem readC_len {people : Int} {s : List UInt8} {c : Claim} (h : readC people s = some c) : 3 ≤ s.length ∧ s.length ≤ 27 := by
  obtain ⟨h1, h2⟩ := readC_is h
  rw [← h2]; exact ⟨(claimTx_len h1).1, (claimTx_len h1).2.1⟩
theorem readC_nil (people : Int) : readC people [] = none := rfl
theorem deedTx_len (a : Deed) : (deedTx a).length ≤ 40 := by
  unfold deedTx
  split
  · rename_i h
    cases e : readC 4 a.words with
    | none => rw [e] at h; simp at h
    | some c => have := readC_len e; simp [txSay]; omega
  split
  · simp
  rename_i h
  have h0 : 0 ≤ a.num ∧ a.num ≤ 99 := by
    constructor
    · rcases Int.lt_or_le a.num 0 with h1 | h1
      · exact absurd (.inr (.inl h1)) h
      · exact h1
    · rcases Int.lt_or_le 99 a.num with h1 | h1
      · exact absurd (.inr (.inr h1)) h
      · exact h1
  have := dec_len h0.1 h0.2
  split
  · simp [txDrop]; omega
  split
  · simp [txPeople]; omega
  split
  · simp [txLeast]
  split
  · simp [txBack]
  · simp
/-- Numbers of the reference. -/
theorem l1Number2_fn (n : Int) (h0 : 0 ≤ n) (hn : n ≤ 99) : FnZ Tryd.prog 38 [.int .i64 n] (.str (dec n)) := by
  by_cases h : n < 10
  · have h1 := l1Number_fn n.toNat (by omega)
    have e : ((n.toNat : Nat) : Int) = n := by omega
    rw [e] at h1
    unfold dec
    rw [Go.Lib.decDigits_one (by omega)]; exact h1
  · have h1 := l1Number_fn (n.toNat / 10) (by omega)
    have e : ((n.toNat / 10 : Nat) : Int) = n / 10 := by omega
    rw [e] at h1
    have q1 : n.tdiv 10 = n / 10 := Int.tdiv_eq_ediv_of_nonneg h0
    have q2 : n.tmod 10 = n % 10 := Int.tmod_eq_emod_of_nonneg h0
    have w0 : IntKind.wrap .i64 (n / 10) = n / 10 := w64 (by omega) (by omega)
    have w1 : IntKind.wrap .i64 (48 + n % 10) = 48 + n % 10 := w64 (by omega) (by omega)
    have w2 : IntKind.wrap .u8 (48 + n % 10) = 48 + n % 10 := by rw [IntKind.wrap_u8]; omega
    have w3 : (48 + n % 10).toNat = 48 + n.toNat % 10 := by omega
    unfold dec
    rw [Go.Lib.decDigits_two (by omega) (by omega)]
    refine FnZ_of (rs := [.tmp 2]) false Tryd.func38 rfl rfl rfl rfl (Nat.le_of_ble_eq_true rfl) ?_
    simp -dsimp [h]
    refine twp_draw [0, 1, 1002, 3, 4, 5, 6, 7, 8, 9, 10] [0] (List.replicate 8 [] ++ [[0], [], []]) (List.replicate 7 [0] ++ [[], [0], [0], [0]]) (by kernel_rfl) (by kernel_rfl) (by kernel_rfl) (by kernel_rfl) ?_
    simp -dsimp [List.range_succ, q1, q2, w0, w1, w2, w3]
    refine pure_ h1 (by simp -dsimp) ?_
    simp -dsimp [List.range_succ, q1, q2, w0, w1, w2, w3]
theorem l1In_z (n a b : Int) : FnZ Tryd.prog 34 [.int .i64 n, .int .i64 a, .int .i64 b] (.bool (decide (a ≤ n) && decide (n ≤ b))) := l1In_fn n a b
theorem deedTx_out {a : Deed} (h : a.num < 0 ∨ 99 < a.num) : deedTx a = [] := by
  unfold deedTx; rw [if_neg (by omega), if_pos (.inr h)]
theorem deedTx_say {a : Deed} (h : a.kind = 0 ∧ a.num = 0 ∧ (readC 4 a.words).isSome = true) : deedTx a = txSay ++ a.words := by
  unfold deedTx; rw [if_pos h]
theorem deedTx_words {a : Deed} (h : ¬ (a.kind = 0 ∧ a.num = 0 ∧ (readC 4 a.words).isSome = true)) (hw : a.words ≠ []) : deedTx a = [] := by
  unfold deedTx; rw [if_neg h, if_pos (.inl hw)]
theorem deedTx_none {a : Deed} (h0 : 0 ≤ a.num) (h1 : a.num ≤ 99) (hw : a.words = []) : deedTx a = if a.kind = 1 then txDrop ++ dec a.num else if a.kind = 2 then txPeople ++ dec a.num else if a.kind = 3 ∧ a.num = 0 then txLeast else if a.kind = 4 ∧ a.num = 0 then txBack else [] := by
  unfold deedTx
  rw [if_neg (by rw [hw, readC_nil]; simp), if_neg (by rw [hw]; simp; omega)]
theorem readC_words {s : List UInt8} (h : (readC 4 s).isSome = true) : s ≠ [] := by
  rintro rfl; rw [readC_nil] at h; cases h
/-- The five ways of a deed. -/
theorem deed_ways (a : Deed) : (a.num < 0 ∨ 99 < a.num) ∨ (0 ≤ a.num ∧ a.num ≤ 99 ∧ ((a.words ≠ []) ∨ (a.words = [] ∧ (a.kind = 1 ∨ a.kind = 2 ∨ (a.kind = 3 ∧ a.num = 0) ∨ (a.kind = 4 ∧ a.num = 0) ∨ (¬ a.kind = 1 ∧ ¬ a.kind = 2 ∧ (¬ a.kind = 3 ∨ ¬ a.num = 0) ∧ (¬ a.kind = 4 ∨ ¬ a.num = 0)))))) := by
  by_cases h : a.num < 0 ∨ 99 < a.num
  · exact .inl h
  · refine .inr ⟨by omega, by omega, ?_⟩
    by_cases hw : a.words = []
    · refine .inr ⟨hw, by omega⟩
    · exact .inl hw
theorem deedTextS_fn (a : Deed) (hl : a.words.length ≤ 2000000000) : FnZ Tryd.prog 30 [a.v] (.str (deedTx a)) := by
  have hr := readClaimS_fn 4 a.words hl
  have hin := l1In_z a.num 0 99
  obtain ⟨kind, num, words⟩ := a
  simp only at hr hin hl
  have len5 : ∀ x : List UInt8, x.length ≤ 2 → (5 : Int) + x.length ≤ 9223372036854775807 ∧ (7 : Int) + x.length ≤ 9223372036854775807 := fun x h => ⟨by omega, by omega⟩
  have len4 : (4 : Int) + words.length ≤ 9223372036854775807 := by omega
  rcases deed_ways ⟨kind, num, words⟩ with h | ⟨h0, h1, h⟩
  · rw [deedTx_out h]
    have hb : (decide (0 ≤ num) && decide (num ≤ 99)) = false := by simp at h ⊢; omega
    refine FnZ_of (rs := [.tmp 2]) false Tryd.func30 rfl rfl rfl rfl (Nat.le_of_ble_eq_true rfl) ?_
    simp -dsimp
    refine call_ hin (by simp -dsimp) ?_
    simp -dsimp [hb]
  simp only at h0 h1 h
  have hb : (decide (0 ≤ num) && decide (num ≤ 99)) = true := by simp; omega
  have hd := dec_len h0 h1
  have hnum := l1Number2_fn num h0 h1
  obtain ⟨l5, l7⟩ := len5 _ hd
  rcases h with hw | ⟨hw, h⟩
  · by_cases hs : kind = 0 ∧ num = 0 ∧ (readC 4 words).isSome = true
    · rw [deedTx_say (a := ⟨kind, num, words⟩) hs]
      obtain ⟨rfl, rfl, h3⟩ := hs
      refine FnZ_of (rs := [.tmp 2]) false Tryd.func30 rfl rfl rfl rfl (Nat.le_of_ble_eq_true rfl) ?_
      simp -dsimp
      refine call_ hin (by simp -dsimp) ?_
      simp -dsimp [hw]
      refine call_ hr (by simp -dsimp) ?_
      simp -dsimp [optC, h3, len4, txSay]
    · rw [deedTx_words (a := ⟨kind, num, words⟩) hs hw]
      have hx : ((readC 4 words).isSome && (decide (kind = 0) && decide (num = 0))) = false := by
        rw [Bool.eq_false_iff]; intro h; simp at h; exact hs ⟨h.2.1, h.2.2, h.1⟩
      refine FnZ_of (rs := [.tmp 2]) false Tryd.func30 rfl rfl rfl rfl (Nat.le_of_ble_eq_true rfl) ?_
      simp -dsimp
      refine call_ hin (by simp -dsimp) ?_
      simp -dsimp [hb, hw]
      refine call_ hr (by simp -dsimp) ?_
      have hq := ft (readC 4 words).isSome
      rcases hq with hq | hq
      · simp -dsimp [optC, hq]
      · have hx2 : ¬ (kind = 0 ∧ num = 0) := fun h => hs ⟨h.1, h.2, hq⟩
        by_cases hk : kind = 0
        · have hn : ¬ num = 0 := fun h => hx2 ⟨hk, h⟩
          simp -dsimp [optC, hq, hk, hn]
        · simp -dsimp [optC, hq, hk]
  · subst hw
    rw [deedTx_none (a := ⟨kind, num, []⟩) h0 h1 rfl]
    simp only
    rcases h with rfl | rfl | ⟨rfl, rfl⟩ | ⟨rfl, rfl⟩ | ⟨k1, k2, k3, k4⟩
    · refine FnZ_of (rs := [.tmp 2]) false Tryd.func30 rfl rfl rfl rfl (Nat.le_of_ble_eq_true rfl) ?_
      simp -dsimp
      refine call_ hin (by simp -dsimp) ?_
      simp -dsimp [hb]
      refine call_ hnum (by simp -dsimp) ?_
      simp -dsimp [l5, txDrop]
    · refine FnZ_of (rs := [.tmp 2]) false Tryd.func30 rfl rfl rfl rfl (Nat.le_of_ble_eq_true rfl) ?_
      simp -dsimp
      refine call_ hin (by simp -dsimp) ?_
      simp -dsimp [hb]
      refine call_ hnum (by simp -dsimp) ?_
      simp -dsimp [l7, txPeople]
    · refine FnZ_of (rs := [.tmp 2]) false Tryd.func30 rfl rfl rfl rfl (Nat.le_of_ble_eq_true rfl) ?_
      simp -dsimp
      refine call_ hin (by simp -dsimp) ?_
      simp -dsimp [hb, txLeast]
    · refine FnZ_of (rs := [.tmp 2]) false Tryd.func30 rfl rfl rfl rfl (Nat.le_of_ble_eq_true rfl) ?_
      simp -dsimp
      refine call_ hin (by simp -dsimp) ?_
      simp -dsimp [hb, txBack]
    · have e : (if kind = 1 then txDrop ++ dec num else if kind = 2 then txPeople ++ dec num else if kind = 3 ∧ num = 0 then txLeast else if kind = 4 ∧ num = 0 then txBack else []) = [] := by
        rw [if_neg k1, if_neg k2, if_neg (by omega), if_neg (by omega)]
      rw [e]
      rw [readC_nil] at hr
      by_cases hn : num = 0
      · have k3' : ¬ kind = 3 := by omega
        have k4' : ¬ kind = 4 := by omega
        refine FnZ_of (rs := [.tmp 2]) false Tryd.func30 rfl rfl rfl rfl (Nat.le_of_ble_eq_true rfl) ?_
        simp -dsimp
        refine call_ hin (by simp -dsimp) ?_
        simp -dsimp [hb, k1, k2, k3', k4']
        refine call_ hr (by simp -dsimp) ?_
        simp -dsimp [optC]
      · refine FnZ_of (rs := [.tmp 2]) false Tryd.func30 rfl rfl rfl rfl (Nat.le_of_ble_eq_true rfl) ?_
        simp -dsimp
        refine call_ hin (by simp -dsimp) ?_
        simp -dsimp [hb, k1, k2, hn]
        refine call_ hr (by simp -dsimp) ?_
        simp -dsimp [optC]
end TL

/- The library's functions, off the shelf: texts joined, numbers written, prefixes cut. -/
set_option linter.unusedSimpArgs false
set_option linter.unusedVariables false
set_option maxRecDepth 100000
namespace TL
open Go Go.Proofs Go.RowKit
section
variable {P : Program}
theorem FnZ_calls {f : Nat} {args : List V} {r : V} (hf : ∃ fn, P.funcs[f]? = some fn ∧ (fn.name == "runtime.NumGoroutine") = false ∧ fn.body.isNone = false)
    (h : ∀ (Z : Zs) (w : World) (vs : List Value), ZOk P Z w → RepVs Z w args vs → Calls P f vs.toArray w fun e w' => ∃ v, e = .returned v ∧ Below w.heap.size w w' ∧ RepV (freshZ Z w.heap.size w'.heap.size) w' r v) : FnZ P f args r := ⟨hf, h⟩
theorem calls_mono {f : Nat} {args : Array Value} {w : World} {R R' : Ending → World → Prop} (h : Calls P f args w R) (hR : ∀ e w', R e w' → R' e w') : Calls P f args w R' := h.mono hR
/-- Rows of texts. -/
theorem strs_rep {Z : Zs} {w : World} {z : Nat} : ∀ (xs : List (List UInt8)) (us : List Value), RepEs Z w z (xs.map V.str) us → ∃ bs : List ByteArray, us = bs.map Value.string ∧ bs.map (·.data.toList) = xs
  | [], us, h => by cases h; exact ⟨[], rfl, rfl⟩
  | x :: xs, us, h => by
    cases h with
    | one hc h t =>
      cases h with
      | str hb =>
        obtain ⟨bs, h1, h2⟩ := strs_rep xs _ t
        exact ⟨_ :: bs, by rw [h1]; rfl, by simp [hb, h2]⟩
theorem strs_row {Z : Zs} {w : World} {xs : List (List UInt8)} {u : Value} (h : RepV Z w (.sl (xs.map V.str)) u) : (xs = [] ∧ ∃ A c, u = .slice A 0 c) ∨
    ∃ k o c, ∃ bs : List ByteArray, u = .slice (some ⟨k, o, none⟩) bs.length c ∧ bs.map (·.data.toList) = xs ∧ bs.length ≤ c ∧ bs ≠ [] ∧ (∀ (j : Nat) x, bs[j]? = some x → w.cell? ⟨k, o + j, none⟩ = some (.string x)) ∧ k < w.heap.size := by
  generalize hv : V.sl (xs.map V.str) = v at h
  cases h with
  | nil A c => left; injection hv with hv; exact ⟨by simpa using hv, A, c, rfl⟩
  | @sl z ys us ad n c h hn hc hm hz =>
    injection hv with hv
    subst hv
    obtain ⟨bs, rfl, h2⟩ := strs_rep xs us h
    have hlen : bs.length = n := by rw [← hn, ← h2]; simp
    cases bs with
    | nil => left; exact ⟨by simpa using h2.symm, some ad, c, by rw [← hlen]; rfl⟩
    | cons b bs =>
      right
      have h0 := (hz 0 (.string b) rfl).1
      obtain ⟨k, o, sp⟩ := ad
      obtain rfl : sp = none := spot_of_cell h0
      refine ⟨k, o, c, b :: bs, by rw [hlen], h2, by omega, by simp, fun j x hx => ?_, ?_⟩
      · have := (hz j (.string x) (by rw [List.getElem?_map, hx]; rfl)).1
        rw [add_lit] at this; exact this
      · unfold World.cell? at h0
        split at h0
        · rename_i hb; exact (Array.getElem?_eq_some_iff.1 hb).1
        · cases h0
  | _ => cases hv
theorem join_FnZ {ρ : Go.Shelf.Ren} (L : Go.Proofs.Lays.n156 P ρ) (X : Go.Proofs.Builder.Extra P ρ) (hf : ∃ fn, P.funcs[ρ.f 156]? = some fn ∧ (fn.name == "runtime.NumGoroutine") = false ∧ fn.body.isNone = false) (xs : List (List UInt8)) (sep : List UInt8)
    (hN : xs.length ≤ 140737488355328) (hlen : (Go.Lib.join xs sep).length ≤ 140737488355328) : FnZ P (ρ.f 156) [.sl (xs.map V.str), .str sep] (.str (Go.Lib.join xs sep)) := by
  refine FnZ_calls hf fun Z w vs hz hv => ?_
  cases hv with | cons h1 hv => cases hv with | cons h2 hv => cases hv with | nil =>
    cases h2 with
    | @str _ bsep hb =>
      rcases strs_row h1 with ⟨rfl, A, c, rfl⟩ | ⟨k, o, c, bs, rfl, h2, h3, h4, h5, h6⟩
      · refine calls_mono (Any.strings_Join_none L X A c bsep w) ?_
        rintro e w' ⟨rfl, rfl⟩
        exact ⟨_, rfl, Below.refl _ _, .str rfl⟩
      · have e : bs.map (fun x => x.data.toList) = xs := h2
        refine calls_mono (Any.strings_Join L X k o c bs bsep w h5 h6 (by rw [← e] at hN; simpa using hN) h3 (by rw [e, hb]; exact hlen)) ?_
        rintro e' w' ⟨rfl, hw⟩
        refine ⟨_, rfl, hw, .str ?_⟩
        rw [e, hb]
theorem itoa_FnZ {ρ : Go.Shelf.Ren} (L : Go.Proofs.Lays.n171 P ρ) (hf : ∃ fn, P.funcs[ρ.f 171]? = some fn ∧ (fn.name == "runtime.NumGoroutine") = false ∧ fn.body.isNone = false) (i : Nat) (hi : i < 100) : FnZ P (ρ.f 171) [.int .i64 i] (.str (Go.Lib.decDigits i)) := by
  refine FnZ_calls hf fun Z w vs hz hv => ?_
  cases hv with | cons h1 hv => cases hv with | nil =>
    cases h1
    refine calls_mono (Any.strconv_Itoa_small L i hi w) ?_
    rintro e w' ⟨rfl, rfl⟩
    exact ⟨_, rfl, Below.refl _ _, .str rfl⟩
end
theorem itoa_fn (n : Int) (h0 : 0 ≤ n) (h : n ≤ 99) : FnZ Tryd.prog 44 [.int .i64 n] (.str (dec n)) := by
  have := itoa_FnZ Tryd.lays171 ⟨_, Tryd.func44, rfl, rfl⟩ n.toNat (by omega)
  have e : ((n.toNat : Nat) : Int) = n := by omega
  rw [e] at this
  exact this
theorem join_fn (xs : List (List UInt8)) (sep : List UInt8) (hN : xs.length ≤ 140737488355328) (hlen : (Go.Lib.join xs sep).length ≤ 140737488355328) : FnZ Tryd.prog 45 [.sl (xs.map V.str), .str sep] (.str (Go.Lib.join xs sep)) :=
  join_FnZ Tryd.lays156 Tryd.Builder_Extra_156 ⟨_, Tryd.func45, rfl, rfl⟩ xs sep hN hlen
end TL

/- The program's texts of deeds. -/
set_option linter.unusedSimpArgs false
set_option linter.unusedVariables false
set_option maxRecDepth 100000
set_option maxHeartbeats 4000000
set_option pp.maxSteps 1500
namespace TL
open Go Go.Proofs
attribute [local simp] marksV storyV codeV Claim.v Place.v Deed.v
theorem deedText_fn (a : Deed) (hl : a.words.length ≤ 2000000000) : FnZ Tryd.prog 33 [a.v] (.str (deedTx a)) := by
  have hr := readClaim_fn 4 a.words hl
  obtain ⟨kind, num, words⟩ := a
  simp only at hr hl
  have len5 : ∀ x : List UInt8, x.length ≤ 2 → (5 : Int) + x.length ≤ 9223372036854775807 ∧ (7 : Int) + x.length ≤ 9223372036854775807 := fun x h => ⟨by omega, by omega⟩
  have len4 : (4 : Int) + words.length ≤ 9223372036854775807 := by omega
  by_cases hs : kind = 0 ∧ num = 0 ∧ (readC 4 words).isSome = true
  · rw [deedTx_say (a := ⟨kind, num, words⟩) hs]
    obtain ⟨rfl, rfl, h3⟩ := hs
    refine FnZ_of (rs := [.tmp 2]) false Tryd.func33 rfl rfl rfl rfl (Nat.le_of_ble_eq_true rfl) ?_
    simp -dsimp
    refine call_ hr (by simp -dsimp) ?_
    simp -dsimp [optC, h3, len4, txSay]
  have first : ∀ (X : Prop), (kind = 0 → num = 0 → (readC 4 words).isSome = false → X) → (kind = 0 → ¬ num = 0 → X) → (¬ kind = 0 → X) → X := fun X h1 h2 h3 => by
    by_cases hk : kind = 0
    · by_cases hn : num = 0
      · refine h1 hk hn ?_
        have hq := ft (readC 4 words).isSome
        rcases hq with hq | hq
        · exact hq
        · exact absurd ⟨hk, hn, hq⟩ hs
      · exact h2 hk hn
    · exact h3 hk
  -- what comes when it is not said
  have core : (words ≠ [] ∨ num < 0 ∨ 99 < num) ∨ (words = [] ∧ 0 ≤ num ∧ num ≤ 99) := by
    by_cases hw : words = []
    · by_cases hn : num < 0 ∨ 99 < num
      · exact .inl (.inr hn)
      · exact .inr ⟨hw, by omega, by omega⟩
    · exact .inl (.inl hw)
  rcases core with hc | ⟨rfl, h0, h1⟩
  · have e : deedTx ⟨kind, num, words⟩ = [] := by unfold deedTx; rw [if_neg hs, if_pos hc]
    rw [e]
    have cases3 : (¬ words = []) ∨ (words = [] ∧ num < 0) ∨ (words = [] ∧ ¬ num < 0 ∧ 99 < num) := by
      by_cases hw : words = []
      · rcases hc with h | h | h
        · exact absurd hw h
        · exact .inr (.inl ⟨hw, h⟩)
        · exact .inr (.inr ⟨hw, by omega, h⟩)
      · exact .inl hw
    refine first _ (fun hk hn hq => ?_) (fun hk hn => ?_) (fun hk => ?_)
    · subst hk; subst hn
      rcases cases3 with h | ⟨_, h⟩ | ⟨_, _, h⟩
      · refine FnZ_of (rs := [.tmp 2]) false Tryd.func33 rfl rfl rfl rfl (Nat.le_of_ble_eq_true rfl) ?_
        simp -dsimp
        refine call_ hr (by simp -dsimp) ?_
        simp -dsimp [optC, hq, h]
      · omega
      · omega
    · rcases cases3 with h | ⟨hw, h⟩ | ⟨hw, h, h2⟩
      · refine FnZ_of (rs := [.tmp 2]) false Tryd.func33 rfl rfl rfl rfl (Nat.le_of_ble_eq_true rfl) ?_
        simp -dsimp
        refine call_ hr (by simp -dsimp) ?_
        simp -dsimp [optC, hk, hn, h]
      · refine FnZ_of (rs := [.tmp 2]) false Tryd.func33 rfl rfl rfl rfl (Nat.le_of_ble_eq_true rfl) ?_
        simp -dsimp
        refine call_ hr (by simp -dsimp) ?_
        simp -dsimp [optC, hk, hn, hw, h]
      · refine FnZ_of (rs := [.tmp 2]) false Tryd.func33 rfl rfl rfl rfl (Nat.le_of_ble_eq_true rfl) ?_
        simp -dsimp
        refine call_ hr (by simp -dsimp) ?_
        simp -dsimp [optC, hk, hn, hw, h, h2]
    · rcases cases3 with h | ⟨hw, h⟩ | ⟨hw, h, h2⟩
      · refine FnZ_of (rs := [.tmp 2]) false Tryd.func33 rfl rfl rfl rfl (Nat.le_of_ble_eq_true rfl) ?_
        simp -dsimp
        refine call_ hr (by simp -dsimp) ?_
        simp -dsimp [optC, hk, h]
      · refine FnZ_of (rs := [.tmp 2]) false Tryd.func33 rfl rfl rfl rfl (Nat.le_of_ble_eq_true rfl) ?_
        simp -dsimp
        refine call_ hr (by simp -dsimp) ?_
        simp -dsimp [optC, hk, hw, h]
      · refine FnZ_of (rs := [.tmp 2]) false Tryd.func33 rfl rfl rfl rfl (Nat.le_of_ble_eq_true rfl) ?_
        simp -dsimp
        refine call_ hr (by simp -dsimp) ?_
        simp -dsimp [optC, hk, hw, h, h2]
  · rw [deedTx_none (a := ⟨kind, num, []⟩) h0 h1 rfl]
    have hd := dec_len h0 h1
    have hnum := itoa_fn num h0 h1
    obtain ⟨l5, l7⟩ := len5 _ hd
    have n0 : ¬ num < 0 := by omega
    have n1 : ¬ 99 < num := by omega
    rw [readC_nil] at hr
    simp only
    have ways : kind = 1 ∨ kind = 2 ∨ (kind = 3 ∧ num = 0) ∨ (kind = 4 ∧ num = 0) ∨ (¬ kind = 1 ∧ ¬ kind = 2 ∧ (¬ kind = 3 ∨ ¬ num = 0) ∧ (¬ kind = 4 ∨ ¬ num = 0)) := by omega
    rcases ways with rfl | rfl | ⟨rfl, rfl⟩ | ⟨rfl, rfl⟩ | ⟨k1, k2, k3, k4⟩
    · refine FnZ_of (rs := [.tmp 2]) false Tryd.func33 rfl rfl rfl rfl (Nat.le_of_ble_eq_true rfl) ?_
      simp -dsimp
      refine call_ hr (by simp -dsimp) ?_
      simp -dsimp [optC, n0, n1]
      refine call_ hnum (by simp -dsimp) ?_
      simp -dsimp [l5, txDrop]
    · refine FnZ_of (rs := [.tmp 2]) false Tryd.func33 rfl rfl rfl rfl (Nat.le_of_ble_eq_true rfl) ?_
      simp -dsimp
      refine call_ hr (by simp -dsimp) ?_
      simp -dsimp [optC, n0, n1]
      refine call_ hnum (by simp -dsimp) ?_
      simp -dsimp [l7, txPeople]
    · refine FnZ_of (rs := [.tmp 2]) false Tryd.func33 rfl rfl rfl rfl (Nat.le_of_ble_eq_true rfl) ?_
      simp -dsimp
      refine call_ hr (by simp -dsimp) ?_
      simp -dsimp [optC, txLeast]
    · refine FnZ_of (rs := [.tmp 2]) false Tryd.func33 rfl rfl rfl rfl (Nat.le_of_ble_eq_true rfl) ?_
      simp -dsimp
      refine call_ hr (by simp -dsimp) ?_
      simp -dsimp [optC, txBack]
    · have e : (if kind = 1 then txDrop ++ dec num else if kind = 2 then txPeople ++ dec num else if kind = 3 ∧ num = 0 then txLeast else if kind = 4 ∧ num = 0 then txBack else []) = [] := by
        rw [if_neg k1, if_neg k2, if_neg (by omega), if_neg (by omega)]
      rw [e]
      by_cases hn : num = 0
      · have k3' : ¬ kind = 3 := by omega
        have k4' : ¬ kind = 4 := by omega
        by_cases hk : kind = 0
        · refine FnZ_of (rs := [.tmp 2]) false Tryd.func33 rfl rfl rfl rfl (Nat.le_of_ble_eq_true rfl) ?_
          simp -dsimp
          refine call_ hr (by simp -dsimp) ?_
          simp -dsimp [optC, hn, hk]
        · refine FnZ_of (rs := [.tmp 2]) false Tryd.func33 rfl rfl rfl rfl (Nat.le_of_ble_eq_true rfl) ?_
          simp -dsimp
          refine call_ hr (by simp -dsimp) ?_
          simp -dsimp [optC, hn, hk, k1, k2, k3', k4']
      · by_cases hk : kind = 0
        · refine FnZ_of (rs := [.tmp 2]) false Tryd.func33 rfl rfl rfl rfl (Nat.le_of_ble_eq_true rfl) ?_
          simp -dsimp
          refine call_ hr (by simp -dsimp) ?_
          simp -dsimp [optC, hn, hk, n0, n1]
        · by_cases h3 : kind = 3
          · refine FnZ_of (rs := [.tmp 2]) false Tryd.func33 rfl rfl rfl rfl (Nat.le_of_ble_eq_true rfl) ?_
            simp -dsimp
            refine call_ hr (by simp -dsimp) ?_
            simp -dsimp [optC, hn, h3, n0, n1]
          · by_cases h4 : kind = 4
            · refine FnZ_of (rs := [.tmp 2]) false Tryd.func33 rfl rfl rfl rfl (Nat.le_of_ble_eq_true rfl) ?_
              simp -dsimp
              refine call_ hr (by simp -dsimp) ?_
              simp -dsimp [optC, hn, h4, n0, n1]
            · refine FnZ_of (rs := [.tmp 2]) false Tryd.func33 rfl rfl rfl rfl (Nat.le_of_ble_eq_true rfl) ?_
              simp -dsimp
              refine call_ hr (by simp -dsimp) ?_
              simp -dsimp [optC, hn, hk, h3, h4, k1, k2, n0, n1]
end TL

/- The texts of places. -/
set_option linter.unusedSimpArgs false
set_option linter.unusedVariables false
set_option maxRecDepth 100000
set_option maxHeartbeats 4000000
set_option pp.maxSteps 1500
namespace TL
open Go Go.Proofs
attribute [local simp] marksV storyV codeV Claim.v Place.v Deed.v
/-- The texts of claims with commas between them. -/
noncomputable def storyTx (people : Int) (l : List Claim) : List UInt8 := Go.Lib.join (l.map (claimTx people)) [44]
noncomputable def placeTx (p : Place) : List UInt8 := if placeOk p = true then dec p.people ++ 32 :: (if p.story = [] then [46] else storyTx p.people p.story) else []
theorem claim_cellsE (c : Claim) : c.v.cells = [.int .i64 c.who, marksV c.says] := rfl
theorem claimTx_short (people : Int) (c : Claim) : (claimTx people c).length ≤ 27 := by
  have hk := ft (claimOk people c)
  rcases hk with hk | hk
  · unfold claimTx; rw [if_neg (by simp [hk])]; simp
  · exact (claimTx_len hk).2.1
theorem joinTail_len (xs : List (List UInt8)) (h : ∀ x ∈ xs, x.length ≤ 27) : (Go.Lib.joinTail [44] xs).length ≤ 28 * xs.length := by
  induction xs with
  | nil => simp [Go.Lib.joinTail]
  | cons x xs ih =>
    have h1 := h x (List.mem_cons_self ..)
    have h2 := ih fun y hy => h y (List.mem_cons_of_mem _ hy)
    simp only [Go.Lib.joinTail, List.map_cons, List.flatten_cons, List.length_append, List.length_cons, List.length_nil] at h2 ⊢
    omega
theorem join_len (xs : List (List UInt8)) (h : ∀ x ∈ xs, x.length ≤ 27) : (Go.Lib.join xs [44]).length ≤ 28 * xs.length + 27 := by
  cases xs with
  | nil => simp [Go.Lib.join_nil]
  | cons x xs =>
    rw [Go.Lib.join_cons]
    have h1 := h x (List.mem_cons_self ..)
    have h2 := joinTail_len xs fun y hy => h y (List.mem_cons_of_mem _ hy)
    simp only [List.length_append, List.length_cons]; omega
theorem storyTx_len (people : Int) (l : List Claim) : (storyTx people l).length ≤ 28 * l.length + 27 := by
  have := join_len (l.map (claimTx people)) (fun x hx => by obtain ⟨c, _, rfl⟩ := List.mem_map.1 hx; exact claimTx_short people c)
  simpa [storyTx] using this
theorem placeOk_all {p : Place} (h : placeOk p = true) : 1 ≤ p.people ∧ p.people ≤ 4 ∧ p.story.length ≤ 6 ∧ ∀ c ∈ p.story, claimOk p.people c = true := by
  simp only [placeOk, storyOk, peopleOk, Bool.and_eq_true, decide_eq_true_eq, List.all_eq_true] at h
  exact ⟨by omega, by omega, by omega, h.1.1⟩
theorem placeTx_no {p : Place} (h : placeOk p = false) : placeTx p = [] := by unfold placeTx; rw [if_neg (by simp [h])]
/-- The program. -/
def Ipt (p : Place) (e : Nat) (s : S) : Prop := ∃ i id : Nat, s.tm 1 = .ptr 0 0 ∧ s.m 0 = some (.box 30 2 [.v (.int .i64 p.people), .v (storyV p.story)]) ∧ s.tm 3 = .loc id ∧ 0 < id ∧ id < s.n ∧ s.m id = some (.arr 9 (((p.story.take i).map (claimTx p.people)).map V.str)) ∧
  s.tm 11 = .v (.sl (p.story.map Claim.v)) ∧ s.tm 12 = .v (.int .i64 p.story.length) ∧ s.tm 13 = .v (.int .i64 i) ∧ s.mu = false ∧ i ≤ p.story.length ∧ (e = 1 → i = p.story.length)
theorem placeText_fn (p : Place) (hl : p.story.length < 1000000000000) : FnZ Tryd.prog 26 [p.v] (.str (placeTx p)) := by
  have hok := placeOk_fn p hl
  have hk := ft (placeOk p)
  rcases hk with hk | hk
  · rw [placeTx_no hk]
    refine FnZ_of (rs := [.tmp 2]) false Tryd.func26 rfl rfl rfl rfl (Nat.le_of_ble_eq_true rfl) ?_
    simp -dsimp
    refine call_ hok (by simp -dsimp) ?_
    simp -dsimp [hk]
  obtain ⟨hp1, hp4, hl6, hcl⟩ := placeOk_all hk
  have hit := itoa_fn p.people (by omega) (by omega)
  have hdl := dec_len (n := p.people) (by omega) (by omega)
  have hst := storyTx_len p.people p.story
  have e0 : placeTx p = dec p.people ++ 32 :: (if p.story = [] then [46] else storyTx p.people p.story) := by unfold placeTx; rw [if_pos hk]
  rw [e0]
  refine FnZ_of (rs := [.tmp 2]) false Tryd.func26 rfl rfl rfl rfl (Nat.le_of_ble_eq_true rfl) ?_
  simp -dsimp
  refine call_ hok (by simp -dsimp) ?_
  simp -dsimp [hk]
  refine twp_loopC (Ipt p 0) (fun s => p.story.length - natOf (s.tm 13)) (Ipt p 1) ?_ ?_ ?_
  · exact ⟨0, 1, by simp -dsimp, by simp -dsimp, by simp -dsimp, by omega, by simp -dsimp, by simp -dsimp, by simp -dsimp, by simp -dsimp, by simp -dsimp, by simp -dsimp, by omega, by simp⟩
  · rintro s ⟨i, id, t1, m0, t3, hid0, hid, hm, t11, t12, t13, hmu, hi, hend⟩
    by_cases hlt : i < p.story.length
    case neg =>
      simp -dsimp [t12, t13, hlt]
      exact ⟨i, id, by simp -dsimp [t1], by simp -dsimp [m0], by simp -dsimp [t3], hid0, by simp -dsimp [hid], by simp -dsimp [hm], by simp -dsimp [t11], by simp -dsimp [t12], by simp -dsimp [t13], by simp -dsimp [hmu], hi, fun _ => by omega⟩
    have hget : (p.story.map Claim.v)[i]? = some (p.story[i].v) := by simp [hlt]
    have wi : IntKind.wrap .i64 ((i : Int) + 1) = ((i + 1 : Nat) : Int) := by rw [w64 (by omega) (by omega)]; omega
    have hmu1 : p.story.length - (i + 1) < p.story.length - i := by omega
    have f1 := far hid
    have f0 := far (show 0 < s.n by omega)
    have g0 : ¬ id = 0 := by omega
    have b1 : (min i p.story.length + 1) * 16 ≤ 140737488355328 := by omega
    have hct := claimTx_fn p.people p.story[i]
    have hnx : ((p.story.take (i + 1)).map (claimTx p.people)).map V.str = ((p.story.take i).map (claimTx p.people)).map V.str ++ [.str (claimTx p.people p.story[i])] := by
      rw [List.take_succ_eq_append_getElem hlt, List.map_append, List.map_append]; rfl
    simp -dsimp [t1, t3, t11, t12, t13, hlt, hget, m0, hmu, f0, f1, claim_cellsE]
    refine call_ hct (by simp -dsimp) ?_
    simp -dsimp [t1, t3, t11, t12, t13, m0, hm, hmu, f0, f1, b1, wi, hmu1, nes, g0, Ne.symm g0]
    refine st_out fun s' ht hm' hn' hu' => ?_
    have a1 := ht 1
    have a3 := ht 3
    have a11 := ht 11
    have a12 := ht 12
    have a13 := ht 13
    simp -dsimp [t1, t11, t12] at a1 a3 a11 a12 a13 hm' hn' hu'
    clear ht
    refine ⟨i + 1, _, a1, by simp [hm', f0, g0, Ne.symm g0, m0], a3, by omega, by omega, ?_, a11, a12, a13, by rw [hu', hmu], by omega, by simp⟩
    rw [hnx]; simp [hm', nes]
  · rintro s ⟨i, id, t1, m0, t3, hid0, hid, hm, t11, t12, t13, hmu, hi, hend⟩
    have hil := hend rfl
    rw [hil, List.take_length] at hm
    have f1 := far hid
    have f0 := far (show 0 < s.n by omega)
    have g0 : ¬ id = 0 := by omega
    by_cases hs : p.story = []
    · have hm2 : s.m id = some (.arr 9 []) := by rw [hm, hs]; rfl
      have hj := join_fn [[46]] [44] (by simp) (by rw [Go.Lib.join_one]; simp)
      rw [Go.Lib.join_one] at hj
      have e1 : (if p.story = [] then [46] else storyTx p.people p.story) = ([46] : List UInt8) := if_pos hs
      have b1 : ((dec p.people).length : Int) + 1 ≤ 9223372036854775807 := by omega
      have b2 : ((dec p.people).length : Int) + 1 + 1 ≤ 9223372036854775807 := by omega
      have b3 : ((dec p.people).length : Int) + (1 + 1) ≤ 9223372036854775807 := by omega
      rw [e1]
      generalize dec p.people = d at *
      simp -dsimp [t1, t3, m0, hm2, hmu, f0, f1, nes, g0, Ne.symm g0]
      refine call_ hit (by simp -dsimp) ?_
      simp -dsimp [t1, t3, m0, hm2, hmu, f0, f1, nes, g0, Ne.symm g0, b1]
      refine call_ hj (by simp -dsimp [f0, f1, nes, g0]) ?_
      simp -dsimp [b1, b2, b3]
    · have hlen : ¬ ((p.story.map (claimTx p.people)).map V.str) = [] := by simpa using hs
      have hlen2 : ¬ (((p.story.map (claimTx p.people)).map V.str).length : Int) = 0 := fun h => hlen (List.length_eq_zero_iff.1 (by omega))
      have hj := join_fn (p.story.map (claimTx p.people)) [44] (by simp; omega) (Nat.le_trans hst (by omega))
      have hj : FnZ Tryd.prog 45 [.sl ((p.story.map (claimTx p.people)).map V.str), .str [44]] (.str (storyTx p.people p.story)) := hj
      have e1 : (if p.story = [] then [46] else storyTx p.people p.story) = storyTx p.people p.story := if_neg hs
      have b1 : ((dec p.people).length : Int) + 1 ≤ 9223372036854775807 := by omega
      have b2 : ((dec p.people).length : Int) + 1 + (storyTx p.people p.story).length ≤ 9223372036854775807 := by omega
      have b3 : ((dec p.people).length : Int) + (1 + (storyTx p.people p.story).length) ≤ 9223372036854775807 := by omega
      rw [e1]
      generalize dec p.people = d at *
      generalize storyTx p.people p.story = st at *
      generalize (p.story.map (claimTx p.people)).map V.str = row at *
      simp -dsimp [t1, t3, m0, hm, hmu, f0, f1, nes, g0, Ne.symm g0, hlen, hlen2]
      refine call_ hit (by simp -dsimp) ?_
      simp -dsimp [t1, t3, m0, hm, hmu, f0, f1, nes, g0, Ne.symm g0, b1]
      refine call_ hj (by simp -dsimp [hm]) ?_
      simp -dsimp [b1, b2, b3]
/-- The reference. -/
def Ispt (p : Place) (e : Nat) (s : S) : Prop := ∃ i : Nat, s.tm 1 = .ptr 0 0 ∧ s.m 0 = some (.box 30 2 [.v (.int .i64 p.people), .v (storyV p.story)]) ∧ s.tm 3 = .v (.str (storyTx p.people (p.story.take i))) ∧
  s.tm 4 = .v (.int .i64 i) ∧ s.mu = false ∧ i ≤ p.story.length ∧ (e = 1 → i = p.story.length)
@[simp] theorem storyTx_nil (people : Int) : storyTx people [] = [] := rfl
theorem storyTx_zero (people : Int) (l : List Claim) : storyTx people (l.take 0) = [] := rfl
theorem storyTx_first (people : Int) (l : List Claim) (h : 0 < l.length) : storyTx people (l.take 1) = claimTx people l[0] := by
  cases l with
  | nil => simp at h
  | cons c l => simp [storyTx, Go.Lib.join_one]
theorem join_snoc (x : List UInt8) (xs : List (List UInt8)) (y : List UInt8) : Go.Lib.join ((x :: xs) ++ [y]) [44] = Go.Lib.join (x :: xs) [44] ++ [44] ++ y := by
  rw [List.cons_append, Go.Lib.join_cons, Go.Lib.join_cons]
  simp [Go.Lib.joinTail]
theorem storyTx_next (people : Int) (l : List Claim) (i : Nat) (h0 : 0 < i) (h : i < l.length) : storyTx people (l.take (i + 1)) = storyTx people (l.take i) ++ [44] ++ claimTx people l[i] := by
  unfold storyTx
  rw [List.take_succ_eq_append_getElem h, List.map_append]
  cases l with
  | nil => simp at h
  | cons c l =>
    cases i with
    | zero => omega
    | succ i => simp only [List.take_succ_cons, List.map_cons, List.map_nil]; exact join_snoc _ _ _
theorem placeTextS_fn (p : Place) (hf : p.fine) : FnZ Tryd.prog 23 [p.v] (.str (placeTx p)) := by
  have hok := placeOkS_fn p hf
  have hk := ft (placeOk p)
  rcases hk with hk | hk
  · rw [placeTx_no hk]
    refine FnZ_of (rs := [.tmp 2]) false Tryd.func23 rfl rfl rfl rfl (Nat.le_of_ble_eq_true rfl) ?_
    simp -dsimp
    refine call_ hok (by simp -dsimp) ?_
    simp -dsimp [hk]
  obtain ⟨hp1, hp4, hl6, hcl⟩ := placeOk_all hk
  have hit := l1Number2_fn p.people (by omega) (by omega)
  have hdl := dec_len (n := p.people) (by omega) (by omega)
  have hst := storyTx_len p.people p.story
  have e0 : placeTx p = dec p.people ++ 32 :: (if p.story = [] then [46] else storyTx p.people p.story) := by unfold placeTx; rw [if_pos hk]
  rw [e0]
  refine FnZ_of (rs := [.tmp 2]) false Tryd.func23 rfl rfl rfl rfl (Nat.le_of_ble_eq_true rfl) ?_
  simp -dsimp
  refine call_ hok (by simp -dsimp) ?_
  simp -dsimp [hk]
  refine twp_loopC (Ispt p 0) (fun s => p.story.length - natOf (s.tm 4)) (Ispt p 1) ?_ ?_ ?_
  · exact ⟨0, by simp -dsimp, by simp -dsimp, by simp -dsimp [storyTx_zero], by simp -dsimp, by simp -dsimp, by omega, by simp⟩
  · rintro s ⟨i, t1, m0, t3, t4, hmu, hi, hend⟩
    by_cases hlt : i < p.story.length
    case neg =>
      simp -dsimp [t1, t4, m0, hlt]
      exact ⟨i, by simp -dsimp [t1], by simp -dsimp [m0], by simp -dsimp [t3], by simp -dsimp [t4], by simp -dsimp [hmu], hi, fun _ => by omega⟩
    have hget : (p.story.map Claim.v)[i]? = some (p.story[i].v) := by simp [hlt]
    have wi : IntKind.wrap .i64 ((i : Int) + 1) = ((i + 1 : Nat) : Int) := by rw [w64 (by omega) (by omega)]; omega
    have hmu1 : p.story.length - (i + 1) < p.story.length - i := by omega
    have hct := claimTxS_fn p.people p.story[i] (hf.2 _ (List.getElem_mem _))
    have hcl2 := claimTx_short p.people p.story[i]
    have hst2 := storyTx_len p.people (p.story.take i)
    rw [List.length_take] at hst2
    by_cases hi0 : i = 0
    · have hnx : storyTx p.people (p.story.take (i + 1)) = claimTx p.people p.story[i] := by
        subst hi0; exact storyTx_first p.people p.story hlt
      have t3' : s.tm 3 = .v (.str []) := by rw [t3, hi0]; rfl
      have hi1 : ¬ 0 < i := by omega
      have hi1' : ¬ (0 : Int) < (i : Int) := by omega
      have b2 : ((claimTx p.people p.story[i]).length : Int) ≤ 9223372036854775807 := by omega
      simp -dsimp [t1, t3', t4, m0, hlt, hi1, hi1']
      refine twp_draw (List.range 11) [0] (List.replicate 11 [0]) (List.replicate 11 [0]) (by kernel_rfl) (by kernel_rfl) (by kernel_rfl) (by kernel_rfl) ?_
      simp -dsimp [List.range_succ, t1, t3', t4, m0, hget, hlt, claim_cellsE]
      refine call_ hct (by simp -dsimp) ?_
      simp -dsimp [List.range_succ, t1, t3', t4, m0, hget, b2, wi, hmu1]
      exact ⟨i + 1, by simp -dsimp [t1], by simp -dsimp [m0], by simp -dsimp [hnx], by simp -dsimp, by simp -dsimp [hmu], by omega, by simp⟩
    · have hi1 : 0 < i := by omega
      have hi1' : (0 : Int) < (i : Int) := by omega
      have hnx := storyTx_next p.people p.story i hi1 hlt
      generalize hX : storyTx p.people (p.story.take i) = X at *
      have b0 : (X.length : Int) + 1 ≤ 9223372036854775807 := by omega
      have b1 : (X.length : Int) + 1 + (claimTx p.people p.story[i]).length ≤ 9223372036854775807 := by omega
      have b2 : (X.length : Int) + (1 + (claimTx p.people p.story[i]).length) ≤ 9223372036854775807 := by omega
      simp -dsimp [t1, t3, t4, m0, hlt, hi1, hi1', b0]
      refine twp_draw (List.range 11) [0] (List.replicate 11 [0]) (List.replicate 11 [0]) (by kernel_rfl) (by kernel_rfl) (by kernel_rfl) (by kernel_rfl) ?_
      simp -dsimp [List.range_succ, t1, t3, t4, m0, hget, hlt, claim_cellsE, b0]
      refine call_ hct (by simp -dsimp) ?_
      simp -dsimp [List.range_succ, t1, t3, t4, m0, hget, b0, b1, b2, wi, hmu1]
      exact ⟨i + 1, by simp -dsimp [t1], by simp -dsimp [m0], by simp -dsimp [hnx], by simp -dsimp, by simp -dsimp [hmu], by omega, by simp⟩
  · rintro s ⟨i, t1, m0, t3, t4, hmu, hi, hend⟩
    have hil := hend rfl
    rw [hil, List.take_length] at t3
    by_cases hs : p.story = []
    · have e1 : (if p.story = [] then [46] else storyTx p.people p.story) = ([46] : List UInt8) := if_pos hs
      have b1 : ((dec p.people).length : Int) + 1 ≤ 9223372036854775807 := by omega
      have b2 : ((dec p.people).length : Int) + 1 + 1 ≤ 9223372036854775807 := by omega
      have b3 : ((dec p.people).length : Int) + (1 + 1) ≤ 9223372036854775807 := by omega
      have hl0 : (p.story.length : Int) = 0 := by rw [hs]; rfl
      rw [e1]
      generalize dec p.people = d at *
      simp -dsimp [t1, t3, m0, hs, hl0]
      refine call_ hit (by simp -dsimp) ?_
      simp -dsimp [b1, b2, b3]
    · have e1 : (if p.story = [] then [46] else storyTx p.people p.story) = storyTx p.people p.story := if_neg hs
      have b1 : ((dec p.people).length : Int) + 1 ≤ 9223372036854775807 := by omega
      have b2 : ((dec p.people).length : Int) + 1 + (storyTx p.people p.story).length ≤ 9223372036854775807 := by omega
      have b3 : ((dec p.people).length : Int) + (1 + (storyTx p.people p.story).length) ≤ 9223372036854775807 := by omega
      rw [e1]
      generalize dec p.people = d at *
      generalize storyTx p.people p.story = st at *
      simp -dsimp [t1, t3, m0, hs]
      refine call_ hit (by simp -dsimp) ?_
      simp -dsimp [t1, t3, m0, b1, b2, b3]
end TL
