/- Claims, their texts, and what is read: the plain part. -/
import Derived.Test.YtcoapdapigpfgaaDoorFnsQR1
import Derived.Test.YtcoapdapigpfgaaDoorFnsQX
set_option linter.unusedSimpArgs false
set_option linter.unusedVariables false
set_option maxRecDepth 100000
namespace TL
def Tm.bins : Tm → Nat
  | .tells _ => 0
  | .count _ => 0
  | .not a => a.bins
  | .bin _ a b => a.bins + b.bins + 1
theorem Tm.bins_le : ∀ T : Tm, 2 * T.bins + 1 ≤ T.marks.length
  | .tells _ => by simp [bins, marks]
  | .count _ => by simp [bins, marks]
  | .not a => by have := a.bins_le; simp [bins, marks]; omega
  | .bin k a b => by have := a.bins_le; have := b.bins_le; simp [bins, marks]; omega
theorem par_len2 (q : Bool) (T : Tm) (hq : q = true → 3 ≤ T.kind) (h : T.text.length + (if 3 ≤ T.kind then 2 else 0) ≤ T.marks.length + 2 * T.bins) : (par q T.text).length ≤ T.marks.length + 2 * T.bins := by
  cases q with
  | false => simp only [par, Bool.false_eq_true, if_false]; omega
  | true =>
    have := hq rfl
    rw [if_pos this] at h
    simp [par]; omega
theorem Tm.text_len2 : ∀ T : Tm, T.text.length + (if 3 ≤ T.kind then 2 else 0) ≤ T.marks.length + 2 * T.bins
  | .tells _ => by simp [text, marks, kind, bins]
  | .count _ => by simp [text, marks, kind, bins]
  | .not a => by
    have := par_len2 (decide (3 ≤ a.kind)) a (by simp) a.text_len2
    rw [if_neg (by simp [kind])]
    simp only [text, marks, bins, List.length_append, List.length_cons, List.length_nil]; omega
  | .bin k a b => by
    have h1 := par_len2 (decide (3 + k < a.kind)) a (by simp; omega) a.text_len2
    have h2 := par_len2 (decide (3 + k ≤ b.kind)) b (by simp; omega) b.text_len2
    rw [if_pos (by simp [kind])]
    simp only [text, marks, bins, List.length_append, List.length_cons, List.length_nil]; omega
theorem Tm.text_short (T : Tm) : T.text.length + 1 ≤ 2 * T.marks.length := by
  have := T.text_len2; have := T.bins_le
  have h : T.text.length ≤ T.marks.length + 2 * T.bins := by omega
  omega
theorem termText_len {people : Int} {t : List Mark} (h : termOk people t = true) : (termText people t).length + 1 ≤ 2 * t.length := by
  obtain ⟨T, _, h2, h3⟩ := termText_tree h
  rw [← h3, ← h2]; exact T.text_short
theorem termOk_len {people : Int} {t : List Mark} (h : termOk people t = true) : 1 ≤ t.length ∧ t.length ≤ 15 ∧ 1 ≤ people ∧ people ≤ 4 := by
  simp only [termOk, peopleOk, Bool.and_eq_true, decide_eq_true_eq] at h
  omega
/-- No blank, no newline, no comma, no dot, no colon. -/
def plain (c : UInt8) : Prop := c ≠ 32 ∧ c ≠ 10 ∧ c ≠ 44 ∧ c ≠ 46 ∧ c ≠ 58
theorem par_plain {q : Bool} {s : List UInt8} (h : ∀ c ∈ s, plain c) : ∀ c ∈ par q s, plain c := by
  cases q with
  | false => exact h
  | true =>
    intro c hc
    simp only [par, if_true, List.mem_cons, List.mem_append, List.mem_nil_iff, or_false] at hc
    rcases hc with rfl | hc | rfl
    · exact ⟨by decide, by decide, by decide, by decide, by decide⟩
    · exact h c hc
    · exact ⟨by decide, by decide, by decide, by decide, by decide⟩
theorem Tm.text_plain : ∀ T : Tm, T.ok → ∀ c ∈ T.text, plain c
  | .tells i, h, c, hc => by
    have hi : i < 4 := h
    cases List.mem_singleton.1 hc
    rcases (by omega : i = 0 ∨ i = 1 ∨ i = 2 ∨ i = 3) with rfl | rfl | rfl | rfl <;> exact ⟨by decide, by decide, by decide, by decide, by decide⟩
  | .count i, h, c, hc => by
    have hi : i < 6 := h
    cases List.mem_singleton.1 hc
    rcases (by omega : i = 0 ∨ i = 1 ∨ i = 2 ∨ i = 3 ∨ i = 4 ∨ i = 5) with rfl | rfl | rfl | rfl | rfl | rfl <;> exact ⟨by decide, by decide, by decide, by decide, by decide⟩
  | .not a, h, c, hc => by
    rcases List.mem_cons.1 hc with rfl | hc
    · exact ⟨by decide, by decide, by decide, by decide, by decide⟩
    · exact par_plain (a.text_plain h) c hc
  | .bin k a b, h, c, hc => by
    rcases List.mem_append.1 hc with hc | hc
    · exact par_plain (a.text_plain h.2.1) c hc
    rcases List.mem_cons.1 hc with rfl | hc
    · have hk := h.1
      rcases (by omega : k = 0 ∨ k = 1 ∨ k = 2) with rfl | rfl | rfl <;> exact ⟨by decide, by decide, by decide, by decide, by decide⟩
    · exact par_plain (b.text_plain h.2.2) c hc
theorem termText_plain {people : Int} {t : List Mark} (h : termOk people t = true) : ∀ c ∈ termText people t, plain c := by
  obtain ⟨T, h1, _, h3⟩ := termText_tree h
  rw [← h3]; exact T.text_plain h1
/-- The text of a claim. -/
noncomputable def claimTx (people : Int) (c : Claim) : List UInt8 := if claimOk people c = true then UInt8.ofNat (97 + c.who.toNat) :: 58 :: termText people c.says else []
theorem claimOk_all {people : Int} {c : Claim} (h : claimOk people c = true) : 1 ≤ people ∧ people ≤ 4 ∧ 0 ≤ c.who ∧ c.who < people ∧ termOk people c.says = true ∧ c.says.length ≤ 13 := by
  simp only [claimOk, peopleOk, Bool.and_eq_true, decide_eq_true_eq] at h
  exact ⟨by omega, by omega, by omega, by omega, h.1.2, h.2⟩
theorem claimOk_mk {people : Int} {c : Claim} (h0 : 0 ≤ c.who) (h1 : c.who < people) (h2 : termOk people c.says = true) (h3 : c.says.length ≤ 13) : claimOk people c = true := by
  have := termOk_len h2
  simp only [claimOk, peopleOk, Bool.and_eq_true, decide_eq_true_eq]
  exact ⟨⟨⟨⟨⟨by omega, by omega⟩, h0⟩, h1⟩, h2⟩, h3⟩
theorem claimTx_fn (people : Int) (c : Claim) : FnZ Go.Proofs.Tryd.prog 62 [.int .i64 people, c.v] (.str (claimTx people c)) := by
  have hk := ft (claimOk people c)
  rcases hk with hk | hk
  · have := claimText_no people c hk
    unfold claimTx; rw [if_neg (by simp [hk])]; exact this
  · obtain ⟨T, h1, h2, h3⟩ := termText_tree (claimOk_all hk).2.2.2.2.1
    have := claimText_fn people c hk T h1 h2
    unfold claimTx; rw [if_pos hk, ← h3]; exact this
theorem claimTxS_fn (people : Int) (c : Claim) (hf : c.fine) : FnZ Go.Proofs.Tryd.prog 60 [.int .i64 people, c.v] (.str (claimTx people c)) := by
  have hk := ft (claimOk people c)
  rcases hk with hk | hk
  · have := claimTextS_no people c hf hk
    unfold claimTx; rw [if_neg (by simp [hk])]; exact this
  · obtain ⟨T, h1, h2, h3⟩ := termText_tree (claimOk_all hk).2.2.2.2.1
    have := claimTextS_fn people c hf hk T h1 h2
    unfold claimTx; rw [if_pos hk, ← h3]; exact this
theorem letter_back {w : Int} (h0 : 0 ≤ w) (h4 : w < 4) : ((UInt8.ofNat (97 + w.toNat)).toNat : Int) - 97 = w := by
  rw [UInt8.toNat_ofNat']; omega
theorem letter_fwd (a : UInt8) (w : Int) (h : w = (a.toNat : Int) - 97) (h0 : 0 ≤ w) : UInt8.ofNat (97 + w.toNat) = a := by
  have := UInt8.toNat_lt a
  apply UInt8.toNat.inj
  rw [UInt8.toNat_ofNat']; omega
theorem claimTx_len {people : Int} {c : Claim} (h : claimOk people c = true) : 3 ≤ (claimTx people c).length ∧ (claimTx people c).length ≤ 27 ∧ (termText people c.says).length ≤ 25 ∧ 1 ≤ (termText people c.says).length := by
  obtain ⟨h1, h2, h3, h4, h5, h6⟩ := claimOk_all h
  have := termText_len h5
  have hp := List.length_pos_iff.2 (termText_pos h5)
  unfold claimTx; rw [if_pos h]; simp; omega
/-- What ReadClaim finds. -/
noncomputable def readC (people : Int) (s : List UInt8) : Option Claim := match s with
  | a :: b :: rest => if b = 58 then (readT people rest).bind fun t => if claimOk people ⟨(a.toNat : Int) - 97, t⟩ = true then some ⟨(a.toNat : Int) - 97, t⟩ else none else none
  | _ => none
theorem readC_text {people : Int} {c : Claim} (h : claimOk people c = true) : readC people (claimTx people c) = some c := by
  obtain ⟨h1, h2, h3, h4, h5, h6⟩ := claimOk_all h
  have hl := (claimTx_len h).2.2.1
  unfold claimTx; rw [if_pos h]
  unfold readC
  simp only [if_true]
  rw [readT_some (by omega) h5 rfl]
  simp only [Option.bind_some]
  rw [letter_back h3 (by omega)]
  exact if_pos h
theorem readC_is {people : Int} {s : List UInt8} {c : Claim} (h : readC people s = some c) : claimOk people c = true ∧ claimTx people c = s := by
  unfold readC at h
  split at h
  · rename_i a b rest
    split at h
    · rename_i hb
      cases e : readT people rest with
      | none => rw [e] at h; cases h
      | some t =>
        rw [e, Option.bind_some] at h
        split at h
        · rename_i hk
          cases h
          obtain ⟨_, h2, h3⟩ := readT_is e
          refine ⟨hk, ?_⟩
          obtain ⟨_, _, g3, _, _, _⟩ := claimOk_all hk
          unfold claimTx
          rw [if_pos hk, letter_fwd a _ rfl g3, hb, h3]
        · cases h
    · cases h
  · cases h
theorem readC_iff {people : Int} {s : List UInt8} {c : Claim} : readC people s = some c ↔ claimOk people c = true ∧ claimTx people c = s :=
  ⟨readC_is, fun h => by rw [← h.2]; exact readC_text h.1⟩
/-- With a further sign behind it, that no term has. -/
theorem readC_more {people : Int} {s : List UInt8} {c : Claim} {x : UInt8} (h : readC people s = some c) (hx : ¬ plain x) : readC people (s ++ [x]) = none := by
  cases e : readC people (s ++ [x]) with
  | none => rfl
  | some d =>
    obtain ⟨h1, h2⟩ := readC_is h
    obtain ⟨g1, g2⟩ := readC_is e
    obtain ⟨_, _, _, _, h5, _⟩ := claimOk_all h1
    obtain ⟨_, _, _, _, g5, _⟩ := claimOk_all g1
    exfalso
    have hp := (claimTx_len h1).2.2.2
    unfold claimTx at h2 g2
    rw [if_pos h1] at h2
    rw [if_pos g1, ← h2] at g2
    have e2 : termText people d.says = termText people c.says ++ [x] := by
      have := congrArg (List.drop 2) g2
      simpa using this
    exact hx (termText_plain g5 x (by rw [e2]; simp))
end TL
