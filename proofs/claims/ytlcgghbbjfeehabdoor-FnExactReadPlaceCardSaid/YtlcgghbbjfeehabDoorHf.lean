/- TL: parts FnsE7, FnsL2, FnsE8, FnsJ5, FnsJ6, FnsE9, FnsE10, FnsE11, FnsJ7, FnsGDb, FnsGF, TlWrap, FnsFWa, FnsFWb, FnsFWc, FnsFWd. -/
import Derived.Test.YtlcgghbbjfeehabDoorHe
import Derived.Lib.Split
import Derived.Lib.SplitLaws
import Derived.Test.YtlcgghbbjfeehabDoorShelfB
import Derived.KernelRfl
import Derived.Test.YtlcgghbbjfeehabDoorHc
import Derived.HandedShaped
import Derived.LaidLaws
import Derived.Test.YtlcgghbbjfeehabDoorRows
import Derived.JoinedOf
import Derived.SevenTiedAt
/- Reading places: the plain part. -/
set_option linter.unusedSimpArgs false
set_option linter.unusedVariables false
set_option maxRecDepth 100000
namespace TL
/-- Cut at every such sign. -/
def cutGo (c : UInt8) : List UInt8 → List UInt8 → List (List UInt8)
  | acc, [] => [acc]
  | acc, x :: xs => if x = c then acc :: cutGo c [] xs else cutGo c (acc ++ [x]) xs
def cutAt (c : UInt8) (s : List UInt8) : List (List UInt8) := cutGo c [] s
theorem cutGo_clean {c : UInt8} : ∀ (x acc r : List UInt8), (∀ y ∈ x, y ≠ c) → cutGo c acc (x ++ r) = cutGo c (acc ++ x) r
  | [], acc, r, _ => by simp
  | y :: x, acc, r, h => by
    have h1 : y ≠ c := h y (List.mem_cons_self ..)
    rw [List.cons_append]
    show (if y = c then _ else _) = _
    rw [if_neg h1, cutGo_clean x _ r fun z hz => h z (List.mem_cons_of_mem _ hz)]
    simp
theorem cutAt_app {c : UInt8} {x r : List UInt8} (h : ∀ y ∈ x, y ≠ c) : cutAt c (x ++ c :: r) = x :: cutAt c r := by
  unfold cutAt
  rw [cutGo_clean x [] _ h]
  show (if c = c then _ else _) = _
  rw [if_pos rfl]; rfl
theorem cutAt_none {c : UInt8} {x : List UInt8} (h : ∀ y ∈ x, y ≠ c) : cutAt c x = [x] := by
  have := cutGo_clean x [] [] h
  rw [List.append_nil] at this
  unfold cutAt; rw [this]; rfl
theorem cut_first (c : UInt8) : ∀ s : List UInt8, (∀ y ∈ s, y ≠ c) ∨ ∃ x r, s = x ++ c :: r ∧ ∀ y ∈ x, y ≠ c
  | [] => .inl (by simp)
  | y :: s => by
    by_cases h : y = c
    · exact .inr ⟨[], s, by rw [h]; rfl, by simp⟩
    · rcases cut_first c s with h1 | ⟨x, r, h1, h2⟩
      · exact .inl fun z hz => by
          rcases List.mem_cons.1 hz with rfl | hz
          · exact h
          · exact h1 z hz
      · exact .inr ⟨y :: x, r, by rw [h1]; rfl, fun z hz => by
          rcases List.mem_cons.1 hz with rfl | hz
          · exact h
          · exact h2 z hz⟩
theorem cutGo_len (c : UInt8) : ∀ s acc, (cutGo c acc s).length ≤ s.length + 1
  | [], acc => by simp [cutGo]
  | x :: s, acc => by
    show (if x = c then acc :: cutGo c [] s else cutGo c (acc ++ [x]) s).length ≤ _
    have h1 := cutGo_len c s []
    have h2 := cutGo_len c s (acc ++ [x])
    split
    · simp only [List.length_cons]; omega
    · simp only [List.length_cons]; omega
theorem cutAt_len (c : UInt8) (s : List UInt8) : (cutAt c s).length ≤ s.length + 1 := cutGo_len c s []
theorem cutGo_piece (c : UInt8) : ∀ s acc, ∀ x ∈ cutGo c acc s, x.length ≤ acc.length + s.length
  | [], acc, x, h => by
    cases List.mem_singleton.1 h; simp
  | y :: s, acc, x, h => by
    have h : x ∈ (if y = c then acc :: cutGo c [] s else cutGo c (acc ++ [y]) s) := h
    split at h
    · rcases List.mem_cons.1 h with rfl | h
      · simp
      · have := cutGo_piece c s [] x h; simp at this ⊢; omega
    · have := cutGo_piece c s _ x h; simp at this ⊢; omega
theorem cutAt_piece {c : UInt8} {s x : List UInt8} (h : x ∈ cutAt c s) : x.length ≤ s.length := by
  have := cutGo_piece c s [] x h; simpa using this
theorem occ_head {c : UInt8} {s : List UInt8} {j : Nat} : Go.Lib.occAt s [c] j = (s[j]? == some c) := by
  unfold Go.Lib.occAt
  have e : (s.drop j).head? = s[j]? := by simp
  cases h : s.drop j with
  | nil => rw [h] at e; rw [← e]; rfl
  | cons y r =>
    rw [h] at e; rw [← e]
    simp only [List.isPrefixOf, List.head?_cons, Bool.and_true]
    by_cases hy : c = y
    · simp [hy]
    · have hy2 : ¬ y = c := fun h => hy h.symm
      have e1 : (c == y) = false := by simp [hy]
      rw [e1]; simp [hy2]
theorem index_clean {c : UInt8} {s : List UInt8} (h : ∀ y ∈ s, y ≠ c) : Go.Lib.index s [c] = -1 := by
  refine Go.Lib.index_none fun j _ => ?_
  rw [occ_head]
  cases e : s[j]? with
  | none => rfl
  | some y => have := h y (List.mem_of_getElem? e); simpa using this
theorem index_at {c : UInt8} {x r : List UInt8} (h : ∀ y ∈ x, y ≠ c) : Go.Lib.index (x ++ c :: r) [c] = (x.length : Nat) := by
  refine Go.Lib.index_first (by simp) ?_ fun j hj => ?_
  · rw [occ_head]; simp
  · rw [occ_head, List.getElem?_append_left hj]
    have := h x[j] (List.getElem_mem hj)
    simpa [hj] using this
theorem splitK_cut (c : UInt8) : ∀ (n : Nat) (s : List UInt8), s.length ≤ n → Go.Lib.splitK [c] 0 (Go.Lib.count s [c]) s = cutAt c s
  | n, s, hn => by
    rcases cut_first c s with h | ⟨x, r, rfl, h⟩
    · rw [cutAt_none h, Go.Lib.count_miss (index_clean h)]; rfl
    · have hi := index_at (r := r) h
      have hne : ([c] : List UInt8) ≠ [] := by simp
      have hd : (x ++ c :: r).drop (x.length + [c].length) = r := by
        rw [List.drop_append, List.drop_of_length_le (by simp)]; simp
      rw [cutAt_app h, Go.Lib.count_hit hne hi, hd, Nat.add_comm, Go.Lib.splitK, hi]
      rw [if_neg (by simp)]
      have e1 : ((x.length : Nat) : Int).toNat = x.length := by omega
      rw [e1, hd, Nat.add_zero]
      cases n with
      | zero => simp at hn
      | succ n =>
        rw [splitK_cut c n r (by simp at hn; omega)]
        congr 1
        rw [List.take_append_of_le_length (Nat.le_refl _), List.take_length]
theorem split_is_cut (c : UInt8) (s : List UInt8) : Go.Lib.splitK [c] 0 (Go.Lib.count s [c]) s = cutAt c s := splitK_cut c s.length s (Nat.le_refl _)
theorem cut_join {c : UInt8} : ∀ (xs : List (List UInt8)) (x : List UInt8), (∀ y ∈ x, y ≠ c) → (∀ z ∈ xs, ∀ y ∈ z, y ≠ c) → cutAt c (Go.Lib.join (x :: xs) [c]) = x :: xs
  | [], x, h, _ => by rw [Go.Lib.join_one]; exact cutAt_none h
  | z :: xs, x, h, hs => by
    have e : Go.Lib.join (x :: z :: xs) [c] = x ++ c :: Go.Lib.join (z :: xs) [c] := by
      rw [Go.Lib.join_cons, Go.Lib.join_cons]
      simp [Go.Lib.joinTail]
    rw [e, cutAt_app h, cut_join xs z (hs z (List.mem_cons_self ..)) fun w hw => hs w (List.mem_cons_of_mem _ hw)]
/-! Claims' texts. -/
theorem ofNat_plain {w : Int} (h0 : 0 ≤ w) (h4 : w < 4) : plain (UInt8.ofNat (97 + w.toNat)) := by
  rcases (by omega : w = 0 ∨ w = 1 ∨ w = 2 ∨ w = 3) with rfl | rfl | rfl | rfl <;> exact ⟨by decide, by decide, by decide, by decide, by decide⟩
theorem claimTx_clean {people : Int} {c : Claim} (h : claimOk people c = true) : ∀ y ∈ claimTx people c, y ≠ 44 ∧ y ≠ 32 ∧ y ≠ 10 ∧ y ≠ 46 := by
  obtain ⟨h1, h2, h3, h4, h5, h6⟩ := claimOk_all h
  intro y hy
  unfold claimTx at hy
  rw [if_pos h] at hy
  rcases List.mem_cons.1 hy with rfl | hy
  · have := ofNat_plain h3 (by omega); exact ⟨this.2.2.1, this.1, this.2.1, this.2.2.2.1⟩
  rcases List.mem_cons.1 hy with rfl | hy
  · exact ⟨by decide, by decide, by decide, by decide⟩
  · have := termText_plain h5 y hy; exact ⟨this.2.2.1, this.1, this.2.1, this.2.2.2.1⟩
theorem join_mem {y c : UInt8} : ∀ (xs : List (List UInt8)), y ∈ Go.Lib.join xs [c] → y = c ∨ ∃ x ∈ xs, y ∈ x
  | [], h => by rw [Go.Lib.join_nil] at h; simp at h
  | [x], h => by rw [Go.Lib.join_one] at h; exact .inr ⟨x, by simp, h⟩
  | x :: z :: xs, h => by
    have e : Go.Lib.join (x :: z :: xs) [c] = x ++ c :: Go.Lib.join (z :: xs) [c] := by
      rw [Go.Lib.join_cons, Go.Lib.join_cons]
      simp [Go.Lib.joinTail]
    rw [e] at h
    rcases List.mem_append.1 h with h | h
    · exact .inr ⟨x, by simp, h⟩
    rcases List.mem_cons.1 h with h | h
    · exact .inl h
    · rcases join_mem _ h with h | ⟨w, hw, h⟩
      · exact .inl h
      · exact .inr ⟨w, List.mem_cons_of_mem _ hw, h⟩
theorem story_cut {people : Int} {l : List Claim} (hl : l ≠ []) (h : ∀ c ∈ l, claimOk people c = true) : cutAt 44 (storyTx people l) = l.map (claimTx people) := by
  cases l with
  | nil => exact absurd rfl hl
  | cons c l =>
    unfold storyTx
    rw [List.map_cons]
    refine cut_join _ _ (fun y hy => (claimTx_clean (h c (List.mem_cons_self ..)) y hy).1) fun z hz y hy => ?_
    obtain ⟨d, hd, rfl⟩ := List.mem_map.1 hz
    exact (claimTx_clean (h d (List.mem_cons_of_mem _ hd)) y hy).1
theorem story_plain {people : Int} {l : List Claim} (h : ∀ c ∈ l, claimOk people c = true) : ∀ y ∈ storyTx people l, y ≠ 32 ∧ y ≠ 10 ∧ y ≠ 46 := fun y hy => by
  rcases join_mem _ hy with rfl | ⟨x, hx, hy⟩
  · exact ⟨by decide, by decide, by decide⟩
  · obtain ⟨d, hd, rfl⟩ := List.mem_map.1 hx
    have := claimTx_clean (h d hd) y hy
    exact ⟨this.2.1, this.2.2.1, this.2.2.2⟩
theorem story_reads {people : Int} {l : List Claim} (hl : l ≠ []) (h : ∀ c ∈ l, claimOk people c = true) : (cutAt 44 (storyTx people l)).map (readC people) = l.map some := by
  rw [story_cut hl h, List.map_map]
  exact List.map_congr_left fun c hc => readC_text (h c hc)
/-- What stands behind the blank. -/
noncomputable def restTx (p : Place) : List UInt8 := if p.story = [] then [46] else storyTx p.people p.story
theorem dec_digit {n : Int} (h0 : 1 ≤ n) (h4 : n ≤ 4) : dec n = [UInt8.ofNat (48 + n.toNat)] := by
  unfold dec Go.Lib.decDigits; rcases (by omega : n = 1 ∨ n = 2 ∨ n = 3 ∨ n = 4) with rfl | rfl | rfl | rfl <;> rfl
theorem placeTx_shape {p : Place} (h : placeOk p = true) : placeTx p = UInt8.ofNat (48 + p.people.toNat) :: 32 :: restTx p := by
  obtain ⟨h1, h2, _, _⟩ := placeOk_all h
  unfold placeTx restTx
  rw [if_pos h, dec_digit h1 h2]; rfl
theorem story_pos {p : Place} (h : placeOk p = true) (hs : p.story ≠ []) : 3 ≤ (storyTx p.people p.story).length := by
  obtain ⟨h1, h2, _, h4⟩ := placeOk_all h
  obtain ⟨people, story⟩ := p
  cases story with
  | nil => exact absurd rfl hs
  | cons c l =>
    have := (claimTx_len (h4 c (List.mem_cons_self ..))).1
    unfold storyTx
    rw [List.map_cons, Go.Lib.join_cons]
    simp only [List.length_append]; simp only at this ⊢; omega
theorem restTx_dot {p : Place} (h : placeOk p = true) : restTx p = [46] ↔ p.story = [] := by
  unfold restTx
  constructor
  · intro e
    by_cases hs : p.story = []
    · exact hs
    · rw [if_neg hs] at e
      have := story_pos h hs; rw [e] at this; simp at this
  · intro e; rw [if_pos e]
theorem restTx_pos {p : Place} (h : placeOk p = true) : restTx p ≠ [] := by
  unfold restTx
  split
  · simp
  · rename_i hs; intro e; have := story_pos h hs; rw [e] at this; simp at this
theorem restTx_plain {p : Place} (h : placeOk p = true) : ∀ y ∈ restTx p, y ≠ 32 ∧ y ≠ 10 := by
  obtain ⟨_, _, _, h4⟩ := placeOk_all h
  unfold restTx
  split
  · intro y hy; cases List.mem_singleton.1 hy; exact ⟨by decide, by decide⟩
  · intro y hy; have := story_plain h4 y hy; exact ⟨this.1, this.2.1⟩
theorem rest_reads {p : Place} (h : placeOk p = true) (hd : restTx p ≠ [46]) : (cutAt 44 (restTx p)).map (readC p.people) = p.story.map some := by
  obtain ⟨_, _, _, h4⟩ := placeOk_all h
  have hs : p.story ≠ [] := fun e => hd ((restTx_dot h).2 e)
  unfold restTx
  rw [if_neg hs]
  exact story_reads hs h4
theorem digit_inj {a b : Int} (ha : 1 ≤ a) (ha4 : a ≤ 4) (hb : 1 ≤ b) (hb4 : b ≤ 4) (h : UInt8.ofNat (48 + a.toNat) = UInt8.ofNat (48 + b.toNat)) : a = b := by
  have := congrArg UInt8.toNat h
  rw [UInt8.toNat_ofNat', UInt8.toNat_ofNat'] at this; omega
theorem map_some_inj {l m : List Claim} (h : l.map some = m.map some) : l = m := by
  have := congrArg (List.filterMap id) h
  simpa [List.filterMap_map] using this
theorem placeTx_inj {p q : Place} (hp : placeOk p = true) (hq : placeOk q = true) (h : placeTx p = placeTx q) : p = q := by
  rw [placeTx_shape hp, placeTx_shape hq] at h
  obtain ⟨a1, a2, _, _⟩ := placeOk_all hp
  obtain ⟨b1, b2, _, _⟩ := placeOk_all hq
  have h1 := (List.cons.inj h).1
  have h2 := (List.cons.inj (List.cons.inj h).2).2
  have e1 := digit_inj a1 a2 b1 b2 h1
  have e2 : p.story = q.story := by
    by_cases hd : restTx p = [46]
    · rw [(restTx_dot hp).1 hd, (restTx_dot hq).1 (by rw [← h2]; exact hd)]
    · have r1 := rest_reads hp hd
      have r2 := rest_reads hq (by rw [← h2]; exact hd)
      rw [← h2, ← e1, r1] at r2
      exact map_some_inj r2
  obtain ⟨pp, ps⟩ := p
  obtain ⟨qp, qs⟩ := q
  simp only at e1 e2
  rw [e1, e2]
theorem placeTx_pos {p : Place} (h : placeOk p = true) : placeTx p ≠ [] := by rw [placeTx_shape h]; simp
theorem placeTx_ok {p : Place} (h : placeTx p ≠ []) : placeOk p = true := by
  have hk := ft (placeOk p)
  rcases hk with hk | hk
  · exact absurd (placeTx_no hk) h
  · exact hk
/-- What ReadPlace finds. -/
noncomputable def readP (s : List UInt8) : Option Place := by
  classical exact if h : ∃ p, placeOk p = true ∧ placeTx p = s then some (Classical.choose h) else none
theorem readP_some {s : List UInt8} {p : Place} (h : placeOk p = true) (hs : placeTx p = s) : readP s = some p := by
  have hx : ∃ p, placeOk p = true ∧ placeTx p = s := ⟨p, h, hs⟩
  unfold readP; rw [dif_pos hx]
  have := Classical.choose_spec hx
  exact congrArg some (placeTx_inj this.1 h (by rw [this.2, hs]))
theorem readP_is {s : List UInt8} {p : Place} (h : readP s = some p) : placeOk p = true ∧ placeTx p = s := by
  unfold readP at h
  split at h
  · rename_i hx; cases h; exact Classical.choose_spec hx
  · cases h
theorem readP_none {s : List UInt8} (h : ∀ p, placeOk p = true → placeTx p ≠ s) : readP s = none := by
  unfold readP; rw [dif_neg]; rintro ⟨p, h1, h2⟩; exact h p h1 h2
/-- How a text falls apart. -/
def parts (s : List UInt8) (D : Int) (rest : List UInt8) : Prop := s ≠ [] ∧ ∀ p, placeOk p = true → placeTx p = s → D = p.people ∧ rest = restTx p
theorem readP_piece {s rest : List UInt8} {D : Int} (h : parts s D rest) (hd : rest ≠ [46]) (x : List UInt8) (hx : x ∈ cutAt 44 rest) (hn : readC D x = none) : readP s = none := by
  refine readP_none fun p hp hs => ?_
  obtain ⟨rfl, rfl⟩ := h.2 p hp hs
  have := rest_reads hp hd
  have hm : readC p.people x ∈ (cutAt 44 (restTx p)).map (readC p.people) := List.mem_map_of_mem hx
  rw [this, hn] at hm
  simp at hm
theorem readP_end {s rest : List UInt8} {D : Int} {l : List Claim} (h : parts s D rest) (hl : rest = [46] ∧ l = [] ∨ rest ≠ [46] ∧ (cutAt 44 rest).map (readC D) = l.map some) :
    readP s = if placeTx ⟨D, l⟩ = s then some ⟨D, l⟩ else none := by
  split
  · rename_i hs
    exact readP_some (placeTx_ok (by rw [hs]; exact h.1)) hs
  · rename_i hne
    refine readP_none fun p hp hs => hne ?_
    obtain ⟨rfl, rfl⟩ := h.2 p hp hs
    have e : p.story = l := by
      rcases hl with ⟨h1, h2⟩ | ⟨h1, h2⟩
      · rw [h2]; exact (restTx_dot hp).1 h1
      · rw [rest_reads hp h1] at h2; exact map_some_inj h2
    rw [← e]; exact hs
theorem parts_one {a : UInt8} {rest : List UInt8} : parts (a :: 32 :: rest) ((a.toNat : Int) - 48) rest := ⟨by simp, fun p hp hs => by
  obtain ⟨h1, h2, _, _⟩ := placeOk_all hp
  rw [placeTx_shape hp] at hs
  have e1 := (List.cons.inj hs).1
  have e2 := (List.cons.inj (List.cons.inj hs).2).2
  refine ⟨?_, e2.symm⟩
  have := congrArg UInt8.toNat e1
  rw [UInt8.toNat_ofNat'] at this; omega⟩
theorem last_in {p w s : List UInt8} {c : UInt8} (hw : w ≠ []) (h : p ++ w = s ++ [c]) : c ∈ w := by
  have h1 := congrArg List.getLast? h
  rw [List.getLast?_append, List.getLast?_append] at h1
  cases e : w.getLast? with
  | none => exact absurd (List.getLast?_eq_none_iff.1 e) hw
  | some y =>
    rw [e] at h1
    simp at h1
    rw [← h1]; exact List.mem_of_getLast? e
/-- With a further sign behind it, that no place has at its end. -/
theorem readP_more {s : List UInt8} {c : UInt8} (hc : c = 32 ∨ c = 10) : readP (s ++ [c]) = none := readP_none fun p hp hs => by
  rw [placeTx_shape hp] at hs
  have h1 : [UInt8.ofNat (48 + p.people.toNat), 32] ++ restTx p = s ++ [c] := hs
  have := restTx_plain hp c (last_in (restTx_pos hp) h1)
  rcases hc with rfl | rfl
  · exact this.1 rfl
  · exact this.2 rfl
end TL

/- The library's functions, off the shelf: texts split. -/
set_option linter.unusedSimpArgs false
set_option linter.unusedVariables false
set_option maxRecDepth 100000
namespace TL
open Go Go.Proofs Go.RowKit
section
variable {P : Program}
theorem strs_new {Z : Zs} {w : World} : ∀ (bs : List ByteArray), RepEs Z w 1 ((bs.map (·.data.toList)).map V.str) (bs.map Value.string)
  | [] => .nil 1
  | b :: bs => .one rfl (.str rfl) (strs_new bs)
theorem strs_alloc {Z : Zs} {w : World} (bs : List ByteArray) (t : TypeId) (hl : bs.length ≤ maxLen) :
    RepV (freshZ Z w.heap.size (w.alloc (.cells (bs.map Value.string).toArray t)).heap.size) (w.alloc (.cells (bs.map Value.string).toArray t)) (.sl ((bs.map (·.data.toList)).map V.str)) (.slice (some ⟨w.heap.size, 0, none⟩) bs.length bs.length) := by
  refine .sl (strs_new bs) (by simp) (Nat.le_refl _) hl fun i u hu => ?_
  rw [add_lit]
  refine ⟨?_, .inr ⟨Nat.le_refl _, ?_⟩⟩
  · rw [World.cell?_alloc_new]
    simpa using hu
  · show w.heap.size < (w.heap.push _).size
    simp
theorem split_FnZ {ρ : Go.Shelf.Ren} (L : Go.Proofs.Lays.n146 P ρ) (hi9 : (P.info? (ρ.t 9)).map (fun i => (i.zero, i.size, i.bytes)) = some (some (.string ByteArray.empty), 1, 16)) (hf : ∃ fn, P.funcs[ρ.f 146]? = some fn ∧ (fn.name == "runtime.NumGoroutine") = false ∧ fn.body.isNone = false)
    (hg : P.globalNamed "internal/bytealg.MaxLen" = some (ρ.g 1)) (s : List UInt8) (c : UInt8) (hs : s.length < 4294967281) : FnZ P (ρ.f 146) [.str s, .str [c]] (.sl ((cutAt c s).map V.str)) := by
  refine FnZ_calls hf fun Z w vs hz hv => ?_
  cases hv with | cons h1 hv => cases hv with | cons h2 hv => cases hv with | nil =>
    cases h1 with
    | @str _ b hb =>
      cases h2 with
      | @str _ bsep hb2 =>
        have hq : GQ P (ρ.g 1) (fun v => ∃ m, v = .int .i64 m) := GQ.maxLen hg
        obtain ⟨_, v, hc, m, rfl⟩ := hz.gl _ _ hq
        have hsz : b.size = s.length := by rw [← hb]; rfl
        have hsz2 : bsep.size = 1 := by have := congrArg List.length hb2; simpa using this
        have e1 : (Go.Lib.splitB bsep 0 (Go.Lib.countB b bsep) b).map (·.data.toList) = cutAt c s := by
          rw [Go.Lib.splitB_data]
          show Go.Lib.splitK bsep.data.toList 0 (Go.Lib.count b.data.toList bsep.data.toList) b.data.toList = _
          rw [hb, hb2]; exact split_is_cut c s
        have hlen := Go.Lib.splitB_all bsep (by omega) 0 _ b rfl
        have hle := cutAt_len c s
        have hlen2 : (Go.Lib.splitB bsep 0 (Go.Lib.countB b bsep) b).length = (cutAt c s).length := by rw [← e1, List.length_map]
        refine calls_mono (Any.strings_Split L hi9 b bsep m w (by omega) hc (by omega)) ?_
        rintro e w' ⟨rfl, rfl⟩
        refine ⟨_, rfl, (Below.refl _ _).alloc (Nat.le_refl _) _, ?_⟩
        rw [← hlen, ← e1]
        exact strs_alloc _ _ (by rw [hlen2]; simp only [maxLen]; omega)
end
theorem split_fn (s : List UInt8) (c : UInt8) (hs : s.length < 4294967281) : FnZ Tryd.prog 24 [.str s, .str [c]] (.sl ((cutAt c s).map V.str)) :=
  split_FnZ Tryd.lays146 (by kernel_rfl) ⟨_, Tryd.func24, rfl, rfl⟩ (by kernel_rfl) s c hs
end TL

/- Reading places: the program. -/
set_option linter.unusedSimpArgs false
set_option linter.unusedVariables false
set_option maxRecDepth 100000
set_option maxHeartbeats 4000000
set_option pp.maxSteps 1500
namespace TL
open Go Go.Proofs
attribute [local simp] marksV storyV codeV Claim.v Place.v
def optP (o : Option Place) : V := .tup [(o.getD ⟨0, []⟩).v, .bool o.isSome]
theorem readP_short {s : List UInt8} (h : s.length < 3) : readP s = none := readP_none fun p hp hs => by
  rw [placeTx_shape hp] at hs
  have := restTx_pos hp
  have h1 := List.length_pos_iff.2 this
  rw [← hs] at h; simp only [List.length_cons] at h; omega
theorem readP_blank {a b : UInt8} {s : List UInt8} (h : b ≠ 32) : readP (a :: b :: s) = none := readP_none fun p hp hs => by
  rw [placeTx_shape hp] at hs
  exact h (List.cons.inj (List.cons.inj hs).2).1.symm
theorem reads_next {D : Int} {ps : List (List UInt8)} {i : Nat} {l : List Claim} {c : Claim} (hi : i < ps.length) (h : (ps.take i).map (readC D) = l.map some) (hc : readC D ps[i] = some c) : (ps.take (i + 1)).map (readC D) = (l ++ [c]).map some := by
  rw [List.take_succ_eq_append_getElem hi, List.map_append, List.map_append, h]
  simp [hc]
theorem reads_len {D : Int} {ps : List (List UInt8)} {i : Nat} {l : List Claim} (h : (ps.take i).map (readC D) = l.map some) : l.length ≤ i := by
  have := congrArg List.length h
  rw [List.length_map, List.length_map, List.length_take] at this; omega
def Irp (s rest : List UInt8) (D : Int) (e : Nat) (x : S) : Prop := ∃ (i : Nat) (l : List Claim) (row : T), x.tm 0 = .v (.str s) ∧ x.tm 2 = .ptr 0 0 ∧ x.m 0 = some (.box 30 2 [.v (.int .i64 0), .nil]) ∧ x.tm 4 = .ptr 1 0 ∧
  x.m 1 = some (.box 30 2 [.v (.int .i64 D), row]) ∧ (row = .nil ∧ l = [] ∨ ∃ id, row = .loc id ∧ 1 < id ∧ id < x.n ∧ x.m id = some (.arr 48 (l.map Claim.v))) ∧
  x.tm 28 = .v (.sl ((cutAt 44 rest).map V.str)) ∧ x.tm 29 = .v (.int .i64 (cutAt 44 rest).length) ∧ x.tm 30 = .v (.int .i64 i) ∧ x.mu = false ∧ 1 < x.n ∧ i ≤ (cutAt 44 rest).length ∧ ((cutAt 44 rest).take i).map (readC D) = l.map some ∧ (e = 1 → i = (cutAt 44 rest).length)
theorem readPlace_fn (s : List UInt8) (hl : s.length ≤ 2000000000) : FnZ Tryd.prog 11 [.str s] (optP (readP s)) := by
  by_cases h3 : s.length < 3
  · have h3' : (s.length : Int) < 3 := by omega
    rw [readP_short h3]
    refine FnZ_of (rs := [.cell 2 30, .tmp 3]) false Tryd.func11 rfl rfl rfl rfl (Nat.le_of_ble_eq_true rfl) ?_
    simp -dsimp [h3, h3', optP]
  match s, h3, hl with
  | [], h3, hl => simp at h3
  | [a], h3, hl => simp at h3
  | a :: b :: rest, h3, hl =>
    have h3' : ¬ ((rest.length : Int) + 1 + 1 < 3) := by simp at h3; omega
    have hls : rest.length ≤ 2000000000 := by simp at hl; omega
    have l2 : (2 : Int) ≤ (rest.length : Int) + 1 + 1 := by omega
    have l3 : ((rest.length : Int) + 1 + 1).toNat = rest.length + 1 + 1 := by omega
    have l4 : (0 : Int) < (rest.length : Int) + 1 + 1 := by omega
    have l5 : (1 : Int) < (rest.length : Int) + 1 + 1 := by omega
    by_cases hb : b = 32
    case neg =>
      have hb' : ¬ (b.toNat : Int) = 32 := fun h => hb (UInt8.toNat.inj (by show b.toNat = 32; omega))
      rw [readP_blank hb]
      refine FnZ_of (rs := [.cell 2 30, .tmp 3]) false Tryd.func11 rfl rfl rfl rfl (Nat.le_of_ble_eq_true rfl) ?_
      simp -dsimp [h3', l4, l5, hb', optP]
    subst hb
    have hlt := UInt8.toNat_lt a
    have w1 : IntKind.wrap .i64 ((a.toNat : Int) - 48) = (a.toNat : Int) - 48 := w64 (by omega) (by omega)
    have w2 : IntKind.wrap .i64 (a.toNat : Int) = (a.toNat : Int) := w64 (by omega) (by omega)
    have hpt := parts_one (a := a) (rest := rest)
    have hsl : (a :: 32 :: rest).length = rest.length + 1 + 1 := rfl
    generalize hD : (a.toNat : Int) - 48 = D at *
    by_cases hd : rest = [46]
    · have he := readP_end (l := []) hpt (.inl ⟨hd, rfl⟩)
      have hT := placeText_fn ⟨D, []⟩ (by simp)
      rw [he]
      subst hd
      clear he hpt
      generalize placeTx ⟨D, []⟩ = tx at *
      refine FnZ_of (rs := [.cell 2 30, .tmp 3]) false Tryd.func11 rfl rfl rfl rfl (Nat.le_of_ble_eq_true rfl) ?_
      by_cases hx : tx = [a, 32, 46]
      · simp -dsimp [w1, w2, hD]
        refine call_ hT (by simp -dsimp) ?_
        simp -dsimp [hx, optP]
      · simp -dsimp [w1, w2, hD]
        refine call_ hT (by simp -dsimp) ?_
        simp -dsimp [hx, optP]
    have hsp := split_fn rest 44 (by omega)
    refine FnZ_of (rs := [.cell 2 30, .tmp 3]) false Tryd.func11 rfl rfl rfl rfl (Nat.le_of_ble_eq_true rfl) ?_
    simp -dsimp [h3', l2, l3, l4, l5, w1, w2, hD, hd]
    refine call_ hsp (by simp -dsimp) ?_
    simp -dsimp [h3', l2, l3, l4, l5, w1, w2, hD, hd]
    refine twp_loopC (Irp (a :: 32 :: rest) rest D 0) (fun x => (cutAt 44 rest).length - natOf (x.tm 30)) (Irp (a :: 32 :: rest) rest D 1) ?_ ?_ ?_
    · exact ⟨0, [], .nil, by simp -dsimp, by simp -dsimp, by simp -dsimp, by simp -dsimp, by simp -dsimp, .inl ⟨rfl, rfl⟩, by simp -dsimp, by simp -dsimp, by simp -dsimp, by simp -dsimp, by simp -dsimp, by omega, by simp, by simp⟩
    · rintro x ⟨i, l, row, t0, t2, m0, t4, m1, hrow, t28, t29, t30, hmu, hn, hi, hrd, hend⟩
      by_cases hlt : i < (cutAt 44 rest).length
      case neg =>
        simp -dsimp [t29, t30, hlt]
        exact ⟨i, l, row, by simp -dsimp [t0], by simp -dsimp [t2], by simp -dsimp [m0], by simp -dsimp [t4], by simp -dsimp [m1], by simpa -dsimp using hrow, by simp -dsimp [t28], by simp -dsimp [t29], by simp -dsimp [t30], by simp -dsimp [hmu], by simp -dsimp [hn], hi, hrd, fun _ => by omega⟩
      have hget : ((cutAt 44 rest).map V.str)[i]? = some (.str (cutAt 44 rest)[i]) := by simp [hlt]
      have wi : IntKind.wrap .i64 ((i : Int) + 1) = ((i + 1 : Nat) : Int) := by
        have := cutAt_len 44 rest
        rw [w64 (by omega) (by omega)]; omega
      have hmu1 : (cutAt 44 rest).length - (i + 1) < (cutAt 44 rest).length - i := by omega
      have hpl := cutAt_piece (List.getElem_mem hlt)
      have hrc := readClaim_fn D (cutAt 44 rest)[i] (by omega)
      have hmem := List.getElem_mem hlt
      have hnx : ∀ c, readC D (cutAt 44 rest)[i] = some c → _ := fun c => reads_next (c := c) hlt hrd
      have hno := readP_piece hpt hd _ hmem
      have hll := reads_len hrd
      have hcl := cutAt_len 44 rest
      have f0 := far (show 0 < x.n by omega)
      have f1 := far hn
      generalize readC D (cutAt 44 rest)[i] = o at *
      cases o with
      | none =>
        rw [hno rfl]
        simp -dsimp [t28, t29, t30, t4, m1, hlt, hget, f1]
        refine call_ hrc (by simp -dsimp) ?_
        simp -dsimp [optC, optP, t2, m0, f0, f1]
      | some c =>
        have hn1 := hnx c rfl
        clear hnx hno
        rcases hrow with ⟨rfl, rfl⟩ | ⟨id, rfl, hid1, hid, hm⟩
        · simp -dsimp [t28, t29, t30, t4, m1, hlt, hget, f1]
          refine call_ hrc (by simp -dsimp) ?_
          simp -dsimp [optC, optP, t2, t4, t30, m0, m1, hmu, f0, f1, wi, hmu1, nes]
          refine st_out fun s' ht hm' hn' hu' => ?_
          have a0 := ht 0
          have a2 := ht 2
          have a4 := ht 4
          have a28 := ht 28
          have a29 := ht 29
          have a30 := ht 30
          simp -dsimp [t0, t2, t4, t28, t29, wi] at a0 a2 a4 a28 a29 a30 hm' hn' hu'
          clear ht
          refine ⟨i + 1, _, .loc (x.n + 1 + 1 + 1), a0, a2, by simp [hm', f0, nes, m0], a4, by simp [hm', f1, nes, m1], .inr ⟨_, rfl, by omega, by omega, ?_⟩, a28, a29, a30, by rw [hu', hmu], by omega, by omega, hn1, by simp⟩
          simp [hm', nes]
        · have f2 := far hid
          have g0 : ¬ id = 0 := by omega
          have g1 : ¬ id = 1 := by omega
          have b1 : (l.length + 1) * 32 ≤ 140737488355328 := by omega
          simp -dsimp [t28, t29, t30, t4, m1, hlt, hget, f1]
          refine call_ hrc (by simp -dsimp) ?_
          simp -dsimp [optC, optP, t2, t4, t30, m0, m1, hm, hmu, f0, f1, f2, b1, wi, hmu1, nes, g0, g1, Ne.symm g0, Ne.symm g1]
          refine st_out fun s' ht hm' hn' hu' => ?_
          have a0 := ht 0
          have a2 := ht 2
          have a4 := ht 4
          have a28 := ht 28
          have a29 := ht 29
          have a30 := ht 30
          simp -dsimp [t0, t2, t4, t28, t29, wi] at a0 a2 a4 a28 a29 a30 hm' hn' hu'
          clear ht
          refine ⟨i + 1, _, .loc (x.n + 1 + 1 + 1), a0, a2, by simp [hm', f0, nes, Ne.symm g0, Ne.symm g1, f0, m0], a4, by simp [hm', f1, nes, Ne.symm g1, f1, m1], .inr ⟨_, rfl, by omega, by omega, ?_⟩, a28, a29, a30, by rw [hu', hmu], by omega, by omega, hn1, by simp⟩
          simp [hm', nes]
    · rintro x ⟨i, l, row, t0, t2, m0, t4, m1, hrow, t28, t29, t30, hmu, hn, hi, hrd, hend⟩
      have hil := hend rfl
      have hll := reads_len hrd
      have hcl := cutAt_len 44 rest
      rw [hil, List.take_length] at hrd
      have he := readP_end hpt (.inr ⟨hd, hrd⟩)
      have hT := placeText_fn ⟨D, l⟩ (by simp only; omega)
      rw [he]
      clear he hpt
      generalize placeTx ⟨D, l⟩ = tx at *
      have f0 := far (show 0 < x.n by omega)
      have f1 := far hn
      rcases hrow with ⟨rfl, rfl⟩ | ⟨id, rfl, hid1, hid, hm⟩
      · by_cases hx : tx = a :: 32 :: rest
        · simp -dsimp [t4, m1, f1]
          refine call_ hT (by simp -dsimp) ?_
          simp -dsimp [t0, t2, t4, m0, m1, hx, optP]
        · simp -dsimp [t4, m1, f1]
          refine call_ hT (by simp -dsimp) ?_
          simp -dsimp [t0, t2, t4, m0, m1, hx, optP]
      · have f2 := far hid
        have g0 : ¬ id = 0 := by omega
        have g1 : ¬ id = 1 := by omega
        by_cases hx : tx = a :: 32 :: rest
        · simp -dsimp [t4, m1, f1]
          refine call_ hT (by simp -dsimp [hm]) ?_
          simp -dsimp [t0, t2, t4, m0, m1, hm, hx, optP, g0, g1, f0, f1, f2]
        · simp -dsimp [t4, m1, f1]
          refine call_ hT (by simp -dsimp [hm]) ?_
          simp -dsimp [t0, t2, t4, m0, m1, hm, hx, optP, g0, g1, f0, f1, f2]
end TL

/- Rows of claims whose rows of marks are the caller's own: marked, and held. -/
set_option linter.unusedSimpArgs false
set_option linter.unusedVariables false
set_option maxRecDepth 100000
set_option maxHeartbeats 4000000
set_option pp.maxSteps 1500
namespace TL
open Go Go.Proofs
attribute [local simp] marksV storyV codeV Claim.v Place.v
def clT : List Claim → List Nat → List T
  | c :: l, j :: js => .v (.int .i64 c.who) :: .sv j 0 c.says.length :: clT l js
  | _, _ => []
@[simp] theorem clT_nil (js : List Nat) : clT [] js = [] := by cases js <;> rfl
@[simp] theorem clT_cons (c : Claim) (l : List Claim) (j : Nat) (js : List Nat) : clT (c :: l) (j :: js) = .v (.int .i64 c.who) :: .sv j 0 c.says.length :: clT l js := rfl
theorem clT_app : ∀ (A B : List Claim) (ja jb : List Nat), A.length = ja.length → clT (A ++ B) (ja ++ jb) = clT A ja ++ clT B jb
  | [], B, [], jb, h => rfl
  | c :: A, B, j :: ja, jb, h => by simp [clT_app A B ja jb (by simpa using h)]
  | [], B, j :: ja, jb, h => by simp at h
  | c :: A, B, [], jb, h => by simp at h
theorem clT_len : ∀ (A : List Claim) (ja : List Nat), A.length = ja.length → (clT A ja).length = A.length * 2
  | [], [], h => rfl
  | c :: A, j :: ja, h => by simp [clT_len A ja (by simpa using h)]; omega
  | [], j :: ja, h => by simp at h
  | c :: A, [], h => by simp at h
theorem clT_cells : ∀ (A : List Claim) (ja : List Nat), allC (clT A ja)
  | [], ja => by simp
  | c :: A, [] => by simp [clT]
  | c :: A, j :: ja => by simp; exact clT_cells A ja
/-- The rows of marks lie where the ids say. -/
def Says (m : Mem) : List Claim → List Nat → Prop
  | [], [] => True
  | c :: l, j :: js => m j = some (.box 86 2 (mkT c.says)) ∧ Says m l js
  | _, _ => False
theorem Says.len {m : Mem} : ∀ {l : List Claim} {js : List Nat}, Says m l js → l.length = js.length
  | [], [], _ => rfl
  | c :: l, j :: js, h => by simp [Says.len h.2]
  | [], j :: js, h => h.elim
  | c :: l, [], h => h.elim
theorem Says.keep {m m' : Mem} : ∀ {l : List Claim} {js : List Nat}, Says m l js → (∀ j ∈ js, m' j = m j) → Says m' l js
  | [], [], _, _ => trivial
  | c :: l, j :: js, h, hk => ⟨by rw [hk j (by simp)]; exact h.1, h.2.keep fun x hx => hk x (by simp [hx])⟩
  | [], j :: js, h, _ => h.elim
  | c :: l, [], h, _ => h.elim
theorem Says.app {m : Mem} : ∀ {A B : List Claim} {ja jb : List Nat}, A.length = ja.length → (Says m (A ++ B) (ja ++ jb) ↔ Says m A ja ∧ Says m B jb)
  | [], B, [], jb, h => by simp [Says]
  | c :: A, B, j :: ja, jb, h => by
    have := Says.app (m := m) (A := A) (B := B) (ja := ja) (jb := jb) (by simpa using h)
    simp only [List.cons_append, Says, this, and_assoc]
  | [], B, j :: ja, jb, h => by simp at h
  | c :: A, B, [], jb, h => by simp at h
theorem clT_bor {m : Mem} (d : Nat) : ∀ {l : List Claim} {js : List Nat}, Says m l js → mapO (bor true m (d + 1)) (clT l js) = some (l.flatMap fun c => c.v.cells)
  | [], [], _ => rfl
  | c :: l, j :: js, h => by
    have e := bor_marks (m := m) (i := j) (e := 86) (ms := c.says) d h.1
    have e2 := clT_bor d h.2
    simp only [marksV] at e
    simp [mapO, e, e2, V.cells]
  | [], j :: js, h => h.elim
  | c :: l, [], h => h.elim
theorem clV_cell (l : List Claim) : ∀ x ∈ (l.flatMap fun c => c.v.cells), x.cell = true := by
  intro x hx
  obtain ⟨p, _, hp⟩ := List.mem_flatMap.1 hx
  simp [V.cells] at hp
  rcases hp with rfl | rfl <;> rfl
theorem clV_chunk (l : List Claim) : chunk 2 l.length (l.flatMap fun c => c.v.cells) = l.map Claim.v := by
  induction l with
  | nil => rfl
  | cons x xs ih => simp [chunk, V.cells]; simpa [V.cells] using ih
theorem bor_claims {m : Mem} {i e : Nat} {l : List Claim} {js : List Nat} (d : Nat) (h : m i = some (.box e 2 (clT l js))) (hs : Says m l js) : bor true m (d + 2) (.sv i 0 l.length) = some (.sl (l.map Claim.v)) := by
  have hl := clT_len l js hs.len
  have c1 : 0 + l.length * 2 ≤ (clT l js).length := by omega
  show (match m i with | some (.box _ z cs) => tst (0 + l.length * z ≤ cs.length) (obind (mapO (TL.bor true m (d + 1)) ((cs.drop 0).take (l.length * z))) fun xs => tst (∀ x ∈ xs, x.cell = true) (some (V.sl (chunk z l.length xs)))) | _ => none) = _
  rw [h]
  show tst (0 + l.length * 2 ≤ (clT l js).length) (obind (mapO (TL.bor true m (d + 1)) (((clT l js).drop 0).take (l.length * 2))) fun xs => tst (∀ x ∈ xs, x.cell = true) (some (V.sl (chunk 2 l.length xs)))) = _
  rw [tst_pos c1, List.drop_zero, List.take_of_length_le (by omega), clT_bor d hs, obind_some, tst_pos (clV_cell l), clV_chunk]
/-! Marks. -/
def mkc (k : Int) : List Claim → List Claim
  | [] => []
  | c :: l => ⟨k, cnts (k + 1) c.says.length⟩ :: mkc (k + 1 + 2 * c.says.length) l
def mkn (k : Int) : List Claim → Int
  | [] => k
  | c :: l => mkn (k + 1 + 2 * c.says.length) l
theorem mkn_ge : ∀ (l : List Claim) (k : Int), k + l.length ≤ mkn k l
  | [], k => by simp [mkn]
  | c :: l, k => by have := mkn_ge l (k + 1 + 2 * c.says.length); simp only [mkn, List.length_cons]; omega
@[simp] theorem mkc_length : ∀ (l : List Claim) (k : Int), (mkc k l).length = l.length
  | [], k => rfl
  | c :: l, k => by simp [mkc, mkc_length l]
def Imc (id : Nat) (l : List Claim) (js : List Nat) (k : Int) (m0 : Mem) (n0 : Nat) (e : Nat) (s : S) : Prop := ∃ (i : Nat) (A B : List Claim) (ja jb : List Nat) (kk : Int), s.tm 0 = .sv id 0 l.length ∧ s.tm 1 = .v (.int .i64 kk) ∧ s.tm 5 = .v (.int .i64 i) ∧ A.length = i ∧ ja.length = i ∧ i + B.length = l.length ∧ ja ++ jb = js ∧
  n0 ≤ s.n ∧ s.m id = some (.box 48 2 (clT (A ++ B) js)) ∧ Says s.m (A ++ B) js ∧ mkc k l = A ++ mkc kk B ∧ mkn k l = mkn kk B ∧ 0 ≤ kk ∧ (∀ j, j < n0 → j ≠ id → j ∉ js → s.m j = m0 j) ∧ (∀ c ∈ B, c.says.length ≤ 1000000) ∧ (e = 1 → B = [])
theorem cell_set (A : List T) (x y : T) (B : List T) (i : Nat) (h : A.length = i) : (A ++ x :: B).set i y = A ++ y :: B := by
  rw [List.set_append_right _ _ (by omega), h, Nat.sub_self]; rfl
theorem markClaimS_fn (l : List Claim) (js : List Nat) (k : Int) (hk0 : 0 ≤ k) (hk : mkn k l ≤ 1000000) (m : Mem) (n id : Nat) (hid : id < n) (hjs : ∀ j ∈ js, j < n) (hnd : js.Nodup) (hin : id ∉ js) (hm : m id = some (.box 48 2 (clT l js))) (hs : Says m l js) (hl : ∀ c ∈ l, c.says.length ≤ 1000000) :
    FnS Tryd.prog 28 m n [.sv id 0 l.length, .v (.int .i64 k)] (fun t m' n' => t = .v (.int .i64 (mkn k l)) ∧ n ≤ n' ∧ m' id = some (.box 48 2 (clT (mkc k l) js)) ∧ Says m' (mkc k l) js ∧ ∀ j, j < n → j ≠ id → j ∉ js → m' j = m j) := by
  refine FnS_of (rs := [.tmp 4]) false Tryd.func28 rfl rfl rfl rfl (Nat.le_of_ble_eq_true rfl) ?_
  have hge := mkn_ge l k
  simp -dsimp
  refine twp_loopC (Imc id l js k m n 0) (fun s => l.length - natOf (s.tm 5)) (Imc id l js k m n 1) ?_ ?_ ?_
  · exact ⟨0, [], l, [], js, k, by simp -dsimp, by simp -dsimp, by simp -dsimp, rfl, rfl, by omega, rfl, by simp -dsimp, by simpa -dsimp using hm, by simpa -dsimp using hs, rfl, rfl, hk0, fun j _ _ _ => by simp -dsimp, hl, by simp⟩
  · rintro s ⟨i, A, B, ja, jb, kk, t0, t1, t5, hA, hja, hB, hjj, hn, hmm, hss, hmk, hmn, hk1, hout, hbl, hend⟩
    cases B with
    | nil =>
      have hlt : ¬ i < l.length := by simp at hB; omega
      simp -dsimp [t0, t5, hlt]
      exact ⟨i, A, [], ja, jb, kk, by simp -dsimp [t0], by simp -dsimp [t1], by simp -dsimp [t5], hA, hja, hB, hjj, by simp -dsimp [hn], by simp -dsimp [hmm], hss, hmk, hmn, hk1, fun j j1 j2 j3 => by simp -dsimp [hout j j1 j2 j3], hbl, fun _ => rfl⟩
    | cons c B =>
      have hlt : i < l.length := by simp at hB; omega
      have hlen := hss.len
      cases jb with
      | nil => exfalso; rw [← hjj] at hlen; simp at hlen; omega
      | cons j jb =>
        subst hjj
        have hAj : A.length = ja.length := by omega
        have hjm : j ∈ ja ++ j :: jb := by simp
        have hsA := (Says.app hAj).1 hss
        have hjj := hsA.2.1
        have hji : ¬ j = id := fun e => hin (e ▸ hjm)
        have hij : ¬ id = j := fun e => hji e.symm
        have hjn := hjs j hjm
        have ecl : clT (A ++ c :: B) (ja ++ j :: jb) = clT A ja ++ .v (.int .i64 c.who) :: .sv j 0 c.says.length :: clT B jb := by rw [clT_app _ _ _ _ hAj]; rfl
        have hAl : (clT A ja).length = i * 2 := by rw [clT_len _ _ hAj, hA]
        have hset := cell_set (clT A ja) (.v (.int .i64 c.who)) (.v (.int .i64 kk)) (.sv j 0 c.says.length :: clT B jb) (i * 2) hAl
        have hll : (clT A ja ++ T.v (.int .i64 c.who) :: .sv j 0 c.says.length :: clT B jb).length = i * 2 + 2 + (clT B jb).length := by simp [hAl]; omega
        have hg1 : (clT A ja ++ T.v (.int .i64 kk) :: .sv j 0 c.says.length :: clT B jb)[i * 2 + 1]? = some (.sv j 0 c.says.length) := by
          rw [List.getElem?_append_right (by omega), hAl]; simp
        have hcl := hbl c (by simp)
        have hmnl := mkn_ge B (kk + 1 + 2 * c.says.length)
        have hmn2 : mkn k l = mkn (kk + 1 + 2 * c.says.length) B := hmn
        rw [hmn2] at hk
        have wi : IntKind.wrap .i64 ((i : Int) + 1) = ((i + 1 : Nat) : Int) := by rw [w64 (by omega) (by omega)]; omega
        have w1 : IntKind.wrap .i64 (kk + 1) = kk + 1 := w64 (by omega) (by omega)
        have hmu : l.length - (i + 1) < l.length - i := by omega
        have hlt' : (i : Int) < (l.length : Int) := by omega
        have f1 := far (show id < s.n by omega)
        have f2 := far (show j < s.n by omega)
        rw [ecl] at hmm
        have o1 : i * 2 + 1 ≤ i * 2 + 2 + (clT B jb).length := by omega
        have o2 : i * 2 + 1 + 1 ≤ i * 2 + 2 + (clT B jb).length := by omega
        have o3 : i * 2 < i * 2 + 2 + (clT B jb).length := by omega
        generalize hc1 : clT A ja ++ T.v (.int .i64 c.who) :: .sv j 0 c.says.length :: clT B jb = c1 at *
        generalize hc2 : clT A ja ++ T.v (.int .i64 kk) :: .sv j 0 c.says.length :: clT B jb = c2 at *
        simp -dsimp [t0, t1, t5, hlt, hlt', hmm, hll, setAt, hset, hg1, w1, wi, hmu, o1, o2, o3]
        refine callS_ (markMarkS_fn c.says (kk + 1) hcl (by omega) (by omega) _ _ j (by simp [hji, hjj])) ?_
        rintro t m2 n2 ⟨rfl, hn2, rfl⟩
        have g1 := far (show id < n2 by omega)
        simp -dsimp [t0, t1, t5, wi, hmu]
        refine st_out fun s' ht hm' hn' hu' => ?_
        have a0 := ht 0
        have a1 := ht 1
        have a5 := ht 5
        simp -dsimp [t0, wi] at a0 a1 a5 hm' hn' hu'
        clear ht
        have nj : j ∉ ja ∧ j ∉ jb := by
          rw [List.nodup_append] at hnd
          exact ⟨fun h => hnd.2.2 j h j (by simp) rfl, (List.nodup_cons.1 hnd.2.1).1⟩
        refine ⟨i + 1, A ++ [⟨kk, cnts (kk + 1) c.says.length⟩], B, ja ++ [j], jb, kk + 1 + 2 * c.says.length, a0, by rw [a1], a5, by simp [hA], by simp [hja], by simp at hB ⊢; omega, by simp, by omega, ?_, ?_, ?_, hmn, by omega, fun x x1 x2 x3 => ?_, fun x hx => hbl x (by simp [hx]), by simp⟩
        · have e : A ++ [(⟨kk, cnts (kk + 1) c.says.length⟩ : Claim)] ++ B = A ++ ⟨kk, cnts (kk + 1) c.says.length⟩ :: B := by simp
          rw [e, clT_app _ _ _ _ hAj, clT_cons, cnts_length, hc2]
          simp [hm', hij]
        · have e : A ++ [(⟨kk, cnts (kk + 1) c.says.length⟩ : Claim)] ++ B = A ++ ⟨kk, cnts (kk + 1) c.says.length⟩ :: B := by simp
          rw [e]
          refine (Says.app hAj).2 ⟨hsA.1.keep fun x hx => ?_, by simp [hm'], hsA.2.2.keep fun x hx => ?_⟩
          · have y1 : ¬ x = j := fun h => nj.1 (h ▸ hx)
            have y2 : ¬ x = id := fun h => hin (h ▸ by simp [hx])
            simp [hm', y1, y2]
          · have y1 : ¬ x = j := fun h => nj.2 (h ▸ hx)
            have y2 : ¬ x = id := fun h => hin (h ▸ by simp [hx])
            simp [hm', y1, y2]
        · rw [hmk]; simp [mkc]
        · have y1 : ¬ x = j := fun h => x3 (h ▸ hjm)
          simp [hm', y1, x2, hout x x1 x2 x3]
  · rintro s ⟨i, A, B, ja, jb, kk, t0, t1, t5, hA, hja, hB, hjj, hn, hmm, hss, hmk, hmn, hk1, hout, hbl, hend⟩
    have hb := hend rfl
    subst hb
    rw [List.append_nil] at hmm hss
    have e1 : mkc k l = A := by rw [hmk]; simp [mkc]
    have e2 : mkn k l = kk := hmn
    rw [e1, e2]
    simp -dsimp [t1]
    exact ⟨hn, hmm, hss, hout⟩
def Ihc (l : List Claim) (k : Int) (e : Nat) (s : S) : Prop := ∃ (i : Nat) (A B : List Claim) (kk : Int), s.tm 0 = .v (.sl ((mkc k l).map Claim.v)) ∧ s.tm 1 = .v (.int .i64 kk) ∧ s.tm 5 = .v (.int .i64 i) ∧ A.length = i ∧ i + B.length = l.length ∧ mkc k l = A ++ mkc kk B ∧ mkn k l = mkn kk B ∧ 0 ≤ kk ∧ (∀ c ∈ B, c.says.length ≤ 1000000) ∧ (e = 1 → B = [])
theorem heldClaimS_fn (l : List Claim) (k : Int) (hk0 : 0 ≤ k) (hk : mkn k l ≤ 1000000) (hl : ∀ c ∈ l, c.says.length ≤ 1000000) : FnZ Tryd.prog 29 [.sl ((mkc k l).map Claim.v), .int .i64 k] (.int .i64 (mkn k l)) := by
  refine FnZ_of (rs := [.tmp 4]) false Tryd.func29 rfl rfl rfl rfl (Nat.le_of_ble_eq_true rfl) ?_
  have hge := mkn_ge l k
  simp -dsimp
  refine twp_loopC (Ihc l k 0) (fun s => l.length - natOf (s.tm 5)) (Ihc l k 1) ?_ ?_ ?_
  · exact ⟨0, [], l, k, by simp -dsimp, by simp -dsimp, by simp -dsimp, rfl, by omega, rfl, rfl, hk0, hl, by simp⟩
  · rintro s ⟨i, A, B, kk, t0, t1, t5, hA, hB, hmk, hmn, hk1, hbl, hend⟩
    have hcl : ((mkc k l).map Claim.v).length = l.length := by simp
    cases B with
    | nil =>
      have hlt : ¬ i < l.length := by simp at hB; omega
      simp -dsimp [t0, t5, hlt]
      exact ⟨i, A, [], kk, by simp -dsimp [t0], by simp -dsimp [t1], by simp -dsimp [t5], hA, hB, hmk, hmn, hk1, hbl, fun _ => rfl⟩
    | cons c B =>
      have hlt : i < l.length := by simp at hB; omega
      have hget : ((mkc k l).map Claim.v)[i]? = some (Claim.v ⟨kk, cnts (kk + 1) c.says.length⟩) := by
        rw [hmk, List.getElem?_map, List.getElem?_append_right (by omega), hA, Nat.sub_self]; rfl
      have hcc := hbl c (by simp)
      have hmnl := mkn_ge B (kk + 1 + 2 * c.says.length)
      have hmn2 : mkn k l = mkn (kk + 1 + 2 * c.says.length) B := hmn
      have hmk2 : mkc k l = (A ++ [⟨kk, cnts (kk + 1) c.says.length⟩]) ++ mkc (kk + 1 + 2 * c.says.length) B := by rw [hmk]; simp [mkc]
      rw [hmn2] at hk
      have wi : IntKind.wrap .i64 ((i : Int) + 1) = ((i + 1 : Nat) : Int) := by rw [w64 (by omega) (by omega)]; omega
      have w1 : IntKind.wrap .i64 (kk + 1) = kk + 1 := w64 (by omega) (by omega)
      have hmu : l.length - (i + 1) < l.length - i := by omega
      have hneg : ¬ kk + 1 + 2 * (c.says.length : Int) < 0 := by omega
      have hheld := heldMarkS_fn c.says.length (kk + 1) hcc (by omega) (by omega)
      generalize hrow : (mkc k l).map Claim.v = row at *
      have hlt2 : i < row.length := by omega
      have hget2 : row[i] = Claim.v ⟨kk, cnts (kk + 1) c.says.length⟩ := by rw [List.getElem?_eq_getElem hlt2] at hget; exact Option.some.inj hget
      simp -dsimp [t0, t1, t5, hlt, hlt2, hcl, hget2, w1, wi, hmu]
      refine call_ hheld (by simp -dsimp) ?_
      simp -dsimp [t0, t1, t5, hlt, hlt2, hcl, hget2, w1, wi, hmu, hneg]
      refine st_out fun s' ht hm' hn' hu' => ?_
      have a0 := ht 0
      have a1 := ht 1
      have a5 := ht 5
      simp -dsimp [t0, wi] at a0 a1 a5 hm' hn' hu'
      clear ht
      exact ⟨i + 1, A ++ [⟨kk, cnts (kk + 1) c.says.length⟩], B, kk + 1 + 2 * c.says.length, by rw [a0, hrow], by rw [a1], a5, by simp [hA], by simp at hB ⊢; omega, hmk2, hmn2, by omega, fun x hx => hbl x (by simp [hx]), by simp⟩
  · rintro s ⟨i, A, B, kk, t0, t1, t5, hA, hB, hmk, hmn, hk1, hbl, hend⟩
    have hb := hend rfl
    subst hb
    have e2 : mkn k l = kk := hmn
    rw [e2]
    simp -dsimp [t1]
end TL

/- Places that are read, in memory of the caller's own. -/
set_option linter.unusedSimpArgs false
set_option linter.unusedVariables false
set_option maxRecDepth 100000
set_option maxHeartbeats 4000000
set_option pp.maxSteps 1500
namespace TL
open Go Go.Proofs
attribute [local simp] marksV storyV codeV Claim.v Place.v
def OwnRowC (m : Mem) (lo hi : Nat) (st : T) (l : List Claim) (js : List Nat) : Prop := (∀ j ∈ js, lo ≤ j ∧ j < hi) ∧ js.Nodup ∧ Says m l js ∧ ((st = .nil ∧ l = [] ∧ js = []) ∨ ∃ id, st = .sv id 0 l.length ∧ lo ≤ id ∧ id < hi ∧ id ∉ js ∧ m id = some (.box 48 2 (clT l js)))
def OwnP (p : Place) (m : Mem) (n : Nat) (t : T) (m' : Mem) (n' : Nat) : Prop := n ≤ n' ∧ (∀ j, j < n → m' j = m j) ∧ ∃ st js, t = .tup [.agg [.v (.int .i64 p.people), st], .v (.bool true)] ∧ OwnRowC m' n n' st p.story js
def Irpo (s rest : List UInt8) (D : Int) (m : Mem) (n : Nat) (e : Nat) (x : S) : Prop := ∃ (i : Nat) (l : List Claim) (js : List Nat) (row : T), x.tm 0 = .v (.str s) ∧ x.tm 2 = .ptr n 0 ∧ x.m n = some (.box 30 2 [.v (.int .i64 0), .nil]) ∧ x.tm 4 = .ptr (n + 1) 0 ∧
  x.m (n + 1) = some (.box 30 2 [.v (.int .i64 D), row]) ∧ OwnRowC x.m (n + 1 + 1) x.n row l js ∧
  x.tm 28 = .v (.sl ((cutAt 44 rest).map V.str)) ∧ x.tm 29 = .v (.int .i64 (cutAt 44 rest).length) ∧ x.tm 30 = .v (.int .i64 i) ∧ x.mu = true ∧ n + 1 + 1 ≤ x.n ∧ i ≤ (cutAt 44 rest).length ∧ ((cutAt 44 rest).take i).map (readC D) = l.map some ∧ (∀ j, j < n → x.m j = m j) ∧ (e = 1 → i = (cutAt 44 rest).length)
theorem readPlace_own (s : List UInt8) (hl : s.length ≤ 2000000000) (p : Place) (hr : readP s = some p) (m : Mem) (n : Nat) : FnS Tryd.prog 11 m n [.v (.str s)] (OwnP p m n) := by
  by_cases h3 : s.length < 3
  · rw [readP_short h3] at hr; cases hr
  match s, h3, hl, hr with
  | [], h3, hl, hr => simp at h3
  | [a], h3, hl, hr => simp at h3
  | a :: b :: rest, h3, hl, hr =>
    have h3' : ¬ ((rest.length : Int) + 1 + 1 < 3) := by simp at h3; omega
    have hls : rest.length ≤ 2000000000 := by simp at hl; omega
    have l2 : (2 : Int) ≤ (rest.length : Int) + 1 + 1 := by omega
    have l3 : ((rest.length : Int) + 1 + 1).toNat = rest.length + 1 + 1 := by omega
    have l4 : (0 : Int) < (rest.length : Int) + 1 + 1 := by omega
    have l5 : (1 : Int) < (rest.length : Int) + 1 + 1 := by omega
    by_cases hb : b = 32
    case neg => rw [readP_blank hb] at hr; cases hr
    subst hb
    have hlt := UInt8.toNat_lt a
    have w1 : IntKind.wrap .i64 ((a.toNat : Int) - 48) = (a.toNat : Int) - 48 := w64 (by omega) (by omega)
    have w2 : IntKind.wrap .i64 (a.toNat : Int) = (a.toNat : Int) := w64 (by omega) (by omega)
    have hpt := parts_one (a := a) (rest := rest)
    have hsl : (a :: 32 :: rest).length = rest.length + 1 + 1 := rfl
    generalize hD : (a.toNat : Int) - 48 = D at *
    have e0 : ¬ n = n + 1 := by omega
    have e5 : ¬ n + 1 = n := by omega
    by_cases hd : rest = [46]
    · have he := readP_end (l := []) hpt (.inl ⟨hd, rfl⟩)
      have hT := placeText_fn ⟨D, []⟩ (by simp)
      rw [he] at hr
      subst hd
      clear he hpt
      by_cases hx : placeTx ⟨D, []⟩ = [a, 32, 46]
      case neg => simp [hx] at hr
      have hp : p = ⟨D, []⟩ := by simp [hx] at hr; exact hr.symm
      subst hp
      generalize placeTx ⟨D, []⟩ = tx at *
      refine FnS_of (rs := [.cell 2 30, .tmp 3]) true Tryd.func11 rfl rfl rfl rfl (Nat.le_of_ble_eq_true rfl) ?_
      simp -dsimp [w1, w2, hD, nes, e0, e5]
      refine call_ hT (by simp -dsimp) ?_
      simp -dsimp [hx, nes, e0, e5]
      exact ⟨by omega, fun j j1 => by simp [far j1], _, _, rfl, by simp, List.nodup_nil, trivial, .inl ⟨rfl, rfl, rfl⟩⟩
    have hsp := split_fn rest 44 (by omega)
    refine FnS_of (rs := [.cell 2 30, .tmp 3]) true Tryd.func11 rfl rfl rfl rfl (Nat.le_of_ble_eq_true rfl) ?_
    simp -dsimp [h3', l2, l3, l4, l5, w1, w2, hD, hd, nes, e0, e5]
    refine call_ hsp (by simp -dsimp) ?_
    simp -dsimp [h3', l2, l3, l4, l5, w1, w2, hD, hd, nes, e0, e5]
    refine twp_loopC (Irpo (a :: 32 :: rest) rest D m n 0) (fun x => (cutAt 44 rest).length - natOf (x.tm 30)) (Irpo (a :: 32 :: rest) rest D m n 1) ?_ ?_ ?_
    · exact ⟨0, [], [], .nil, by simp -dsimp, by simp -dsimp, by simp -dsimp [nes, e0, e5], by simp -dsimp, by simp -dsimp [nes, e0, e5], ⟨by simp, List.nodup_nil, trivial, .inl ⟨rfl, rfl, rfl⟩⟩, by simp -dsimp, by simp -dsimp, by simp -dsimp, by simp -dsimp, by simp -dsimp <;> omega, by omega, by simp, fun j j1 => by simp -dsimp [far j1], by simp⟩
    · rintro x ⟨i, l, js, row, t0, t2, m0, t4, m1, hrow, t28, t29, t30, hmu, hn, hi, hrd, hout, hend⟩
      by_cases hlt : i < (cutAt 44 rest).length
      case neg =>
        simp -dsimp [t29, t30, hlt]
        exact ⟨i, l, js, row, by simp -dsimp [t0], by simp -dsimp [t2], by simp -dsimp [m0], by simp -dsimp [t4], by simp -dsimp [m1], hrow, by simp -dsimp [t28], by simp -dsimp [t29], by simp -dsimp [t30], by simp -dsimp [hmu], by simp -dsimp; omega, hi, hrd, fun j j1 => by simp -dsimp [hout j j1], fun _ => by omega⟩
      have hget : ((cutAt 44 rest).map V.str)[i]? = some (.str (cutAt 44 rest)[i]) := by simp [hlt]
      have wi : IntKind.wrap .i64 ((i : Int) + 1) = ((i + 1 : Nat) : Int) := by
        have := cutAt_len 44 rest
        rw [w64 (by omega) (by omega)]; omega
      have hmu1 : (cutAt 44 rest).length - (i + 1) < (cutAt 44 rest).length - i := by omega
      have hpl := cutAt_piece (List.getElem_mem hlt)
      have hmem := List.getElem_mem hlt
      have hnx : ∀ c, readC D (cutAt 44 rest)[i] = some c → _ := fun c => reads_next (c := c) hlt hrd
      have hno := readP_piece hpt hd _ hmem
      have hll := reads_len hrd
      have hcl := cutAt_len 44 rest
      have f0 := far (show n < x.n by omega)
      have f1 := far (show n + 1 < x.n by omega)
      have hsome : ∃ c, readC D (cutAt 44 rest)[i] = some c := by
        cases ho : readC D (cutAt 44 rest)[i] with
        | none => rw [hno ho] at hr; cases hr
        | some c => exact ⟨c, rfl⟩
      refine hsome.elim fun c hc => ?_
      have hrc := fun m n => readClaim_own D (cutAt 44 rest)[i] c (by omega) hc m n
      have hn1 := hnx c hc
      clear hnx hno hsome
      obtain ⟨r1, r2, r3, r4⟩ := hrow
      have r5 := clT_len l js r3.len
      have r6 := clT_cells l js
      have b1 : (l.length + 1) * 32 ≤ 140737488355328 := by omega
      simp -dsimp [t28, t29, t30, t4, m1, hlt, hget, f0, f1]
      refine callS_ (hrc _ _) ?_
      rintro t m2 n2 ⟨hn2, hout2, st, rfl, id2, rfl, i0, i1, him2⟩
      have k0 := hout2 n (by omega)
      have k1 := hout2 (n + 1) (by omega)
      have g0 := far (show n < n2 by omega)
      have g1 := far (show n + 1 < n2 by omega)
      have g2 := far i1
      rcases r4 with ⟨rfl, rfl, rfl⟩ | ⟨id, rfl, j0, j1, j2, him⟩
      · simp -dsimp [t2, t4, t30, m0, m1, k0, k1, hmu, g0, g1, g2, wi, hmu1, nes, e0, e5]
        refine st_out fun s' ht hm' hn' hu' => ?_
        have a0 := ht 0
        have a2 := ht 2
        have a4 := ht 4
        have a28 := ht 28
        have a29 := ht 29
        have a30 := ht 30
        simp -dsimp [t0, t2, t4, t28, t29, wi] at a0 a2 a4 a28 a29 a30 hm' hn' hu'
        clear ht
        refine ⟨i + 1, [c], [id2], .sv (n2 + 1 + 1 + 1) 0 1, a0, a2, by simp [hm', nes, e0, e5, g0, k0, m0], a4, by simp [hm', nes, e5, g1], ⟨fun j hj => by rw [List.mem_singleton.1 hj]; omega, by simp, ⟨by simp [hm', nes, g2, show ¬ id2 = n + 1 by omega, him2], trivial⟩, .inr ⟨n2 + 1 + 1 + 1, by simp, by omega, by omega, by simp; omega, ?_⟩⟩, a28, a29, a30, by rw [hu', hmu], by omega, by omega, by simpa using hn1, fun j j1 => ?_, by simp⟩
        · simp [hm', nes, show ¬ n2 + 1 + 1 = n by omega]
        · simp [hm', far (show j < n2 by omega), show ¬ j = n + 1 by omega, hout2 j (by omega), hout j j1]
      · have g3 := far (show id < n2 by omega)
        have c0 : ¬ id = n := by omega
        have c1 : ¬ id = n + 1 := by omega
        have k2 := hout2 id (by omega)
        simp -dsimp [t2, t4, t30, m0, m1, k0, k1, k2, him, hmu, g0, g1, g2, g3, r5, r6, b1, c0, c1, Ne.symm c0, Ne.symm c1, wi, hmu1, nes, e0, e5]
        refine st_out fun s' ht hm' hn' hu' => ?_
        have a0 := ht 0
        have a2 := ht 2
        have a4 := ht 4
        have a28 := ht 28
        have a29 := ht 29
        have a30 := ht 30
        simp -dsimp [t0, t2, t4, t28, t29, wi] at a0 a2 a4 a28 a29 a30 hm' hn' hu'
        clear ht
        have hjs : ∀ j ∈ js, s'.m j = x.m j := fun j hj => by
          have q1 := r1 j hj
          have q2 : ¬ j = id := fun e => j2 (e ▸ hj)
          simp [hm', far (show j < n2 by omega), show ¬ j = n + 1 by omega, q2, hout2 j (by omega)]
        refine ⟨i + 1, l ++ [c], js ++ [id2], .sv (n2 + 1 + 1 + 1) 0 (l.length + 1), a0, a2, by simp [hm', nes, e0, e5, g0, Ne.symm c0, k0, m0], a4, by simp [hm', nes, e5, g1], ⟨fun j hj => ?_, ?_, ?_, .inr ⟨n2 + 1 + 1 + 1, by simp, by omega, by omega, ?_, ?_⟩⟩, a28, a29, a30, by rw [hu', hmu], by omega, by omega, hn1, fun j j1 => ?_, by simp⟩
        · rcases List.mem_append.1 hj with hj | hj
          · have := r1 j hj; omega
          · rw [List.mem_singleton.1 hj]; omega
        · rw [List.nodup_append]
          refine ⟨r2, by simp, fun y hy z hz => ?_⟩
          rw [List.mem_singleton.1 hz]
          have := r1 y hy
          omega
        · refine (Says.app r3.len).2 ⟨r3.keep hjs, ⟨by simp [hm', nes, g2, show ¬ id2 = n + 1 by omega, show ¬ id2 = id by omega, him2], trivial⟩⟩
        · intro hj
          rcases List.mem_append.1 hj with hj | hj
          · have := r1 _ hj; omega
          · have := List.mem_singleton.1 hj; omega
        · rw [clT_app _ _ _ _ r3.len]
          simp [hm', nes, show ¬ n2 + 1 + 1 = n by omega, List.take_of_length_le (show (clT l js).length ≤ l.length * 2 by omega)]
        · simp [hm', far (show j < n2 by omega), show ¬ j = n + 1 by omega, show ¬ j = id by omega, hout2 j (by omega), hout j j1]
    · rintro x ⟨i, l, js, row, t0, t2, m0, t4, m1, hrow, t28, t29, t30, hmu, hn, hi, hrd, hout, hend⟩
      have hil := hend rfl
      have hll := reads_len hrd
      have hcl := cutAt_len 44 rest
      rw [hil, List.take_length] at hrd
      have he := readP_end hpt (.inr ⟨hd, hrd⟩)
      have hT := placeText_fn ⟨D, l⟩ (by simp only; omega)
      rw [he] at hr
      have hx : placeTx ⟨D, l⟩ = a :: 32 :: rest := by
        by_cases hx : placeTx ⟨D, l⟩ = a :: 32 :: rest
        · exact hx
        · rw [if_neg hx] at hr; cases hr
      rw [if_pos hx] at hr
      cases hr
      clear he hpt
      have f0 := far (show n < x.n by omega)
      have f1 := far (show n + 1 < x.n by omega)
      have hro := hrow
      obtain ⟨r1, r2, r3, r4⟩ := hrow
      rcases r4 with ⟨rfl, rfl, rfl⟩ | ⟨id, rfl, j0, j1, j2, him⟩
      · simp -dsimp [t4, m1, f1]
        refine call_ hT (by simp -dsimp) ?_
        simp -dsimp [t0, t2, t4, m0, m1, hx, e0, e5, nes]
        exact ⟨by omega, fun j jj => by simp [show ¬ j = n by omega, hout j jj], _, _, rfl, by simp, List.nodup_nil, trivial, .inl ⟨rfl, rfl, rfl⟩⟩
      · have hb := bor_claims 1 him r3
        have c0 : ¬ id = n := by omega
        have c1 : ¬ id = n + 1 := by omega
        simp -dsimp [t4, m1, f1]
        refine callM_ hT (by simp -dsimp [hb]) rfl ?_
        simp -dsimp [t0, t2, t4, m0, m1, hx, e0, e5, nes]
        refine ⟨by omega, fun j jj => by simp [show ¬ j = n by omega, hout j jj], _, js, rfl, fun j hj => ?_, r2, r3.keep fun j hj => ?_, .inr ⟨id, rfl, by omega, by omega, j2, by simp [c0, him]⟩⟩
        · have := r1 j hj; omega
        · have := r1 j hj
          simp [show ¬ j = n by omega]
end TL

/- Reading places: the reference. -/
set_option linter.unusedSimpArgs false
set_option linter.unusedVariables false
set_option maxRecDepth 100000
set_option maxHeartbeats 4000000
set_option pp.maxSteps 1500
namespace TL
open Go Go.Proofs
attribute [local simp] marksV storyV codeV Claim.v Place.v
/-! Cutting. -/
def Icut (c : UInt8) (w : List UInt8) (e : Nat) (s : S) : Prop := ∃ (i f id : Nat) (ps : List (List UInt8)), s.tm 0 = .v (.str w) ∧ s.tm 1 = .v (.int .u8 c.toNat) ∧ s.tm 5 = .loc id ∧ id < s.n ∧ s.m id = some (.arr 9 (ps.map V.str)) ∧
  s.tm 6 = .v (.int .i64 f) ∧ s.tm 7 = .v (.int .i64 i) ∧ s.mu = false ∧ f ≤ i ∧ i ≤ w.length ∧ ps.length ≤ i ∧ ps ++ cutGo c ((w.take i).drop f) (w.drop i) = cutAt c w ∧ (e = 1 → i = w.length)
theorem l1Cut_fn (w : List UInt8) (c : UInt8) (hl : w.length ≤ 2000000000) : FnZ Tryd.prog 20 [.str w, .int .u8 c.toNat] (.sl ((cutAt c w).map V.str)) := by
  refine FnZ_of (rs := [.tmp 4]) false Tryd.func20 rfl rfl rfl rfl (Nat.le_of_ble_eq_true rfl) ?_
  simp -dsimp
  refine twp_loopC (Icut c w 0) (fun s => w.length - natOf (s.tm 7)) (Icut c w 1) ?_ ?_ ?_
  · exact ⟨0, 0, 0, [], by simp -dsimp, by simp -dsimp, by simp -dsimp, by simp -dsimp, by simp -dsimp, by simp -dsimp, by simp -dsimp, by simp -dsimp, by omega, by omega, by simp, by simp [cutAt], by simp⟩
  · rintro s ⟨i, f, id, ps, t0, t1, t5, hid, hm, t6, t7, hmu, hf, hi, hps, hcut, hend⟩
    by_cases hlt : i < w.length
    case neg =>
      simp -dsimp [t0, t7, hlt]
      exact ⟨i, f, id, ps, by simp -dsimp [t0], by simp -dsimp [t1], by simp -dsimp [t5], by simp -dsimp [hid], by simp -dsimp [hm], by simp -dsimp [t6], by simp -dsimp [t7], by simp -dsimp [hmu], hf, hi, hps, hcut, fun _ => by omega⟩
    have hget : w[i]? = some w[i] := by simp [hlt]
    have wi : IntKind.wrap .i64 ((i : Int) + 1) = ((i + 1 : Nat) : Int) := by rw [w64 (by omega) (by omega)]; omega
    have hmu1 : w.length - (i + 1) < w.length - i := by omega
    have f1 := far hid
    have b1 : (ps.length + 1) * 16 ≤ 140737488355328 := by omega
    have b2 : (f : Int) ≤ i := by omega
    have b3 : (i : Int) ≤ w.length := by omega
    rw [List.drop_eq_getElem_cons hlt] at hcut
    by_cases hc : w[i] = c
    · have hn : (ps ++ [(w.take i).drop f]) ++ cutGo c ((w.take (i + 1)).drop (i + 1)) (w.drop (i + 1)) = cutAt c w := by
        rw [← hcut]
        have e1 : cutGo c ((w.take i).drop f) (w[i] :: w.drop (i + 1)) = (w.take i).drop f :: cutGo c [] (w.drop (i + 1)) := by
          show (if w[i] = c then _ else _) = _
          rw [if_pos hc]
        have e2 : (w.take (i + 1)).drop (i + 1) = [] := List.drop_eq_nil_of_le (by rw [List.length_take]; omega)
        rw [e1, e2]; simp
      have f0 : ¬ id = s.n + 1 := by omega
      simp -dsimp [t0, t1, t5, t6, t7, hlt, hget, hc, hf, hi, hm, hmu, b1, wi, hmu1, f1, nes]
      refine st_out fun s' ht hm' hn' hu' => ?_
      have a0 := ht 0
      have a1 := ht 1
      have a5 := ht 5
      have a6 := ht 6
      have a7 := ht 7
      simp -dsimp [t0, t1, t5, t7, wi, hc] at a0 a1 a5 a6 a7 hm' hn' hu'
      clear ht
      refine ⟨i + 1, i + 1, _, ps ++ [(w.take i).drop f], a0, a1, a5, by omega, ?_, a6, a7, by rw [hu', hmu], by omega, by omega, by simp; omega, hn, by simp⟩
      simp [hm', nes]
    · have hc' : ¬ (w[i].toNat : Int) = c.toNat := fun h => hc (UInt8.toNat.inj (by omega))
      have hn : ps ++ cutGo c ((w.take (i + 1)).drop f) (w.drop (i + 1)) = cutAt c w := by
        rw [← hcut]
        have e1 : cutGo c ((w.take i).drop f) (w[i] :: w.drop (i + 1)) = cutGo c ((w.take i).drop f ++ [w[i]]) (w.drop (i + 1)) := by
          show (if w[i] = c then _ else _) = _
          rw [if_neg hc]
        have e2 : (w.take (i + 1)).drop f = (w.take i).drop f ++ [w[i]] := by
          rw [List.take_succ_eq_append_getElem hlt, List.drop_append_of_le_length (by rw [List.length_take]; omega)]
        rw [e1, e2]
      simp -dsimp [t0, t1, t5, t6, t7, hlt, hget, hc, hc', wi, hmu1]
      exact ⟨i + 1, f, id, ps, by simp -dsimp [t0], by simp -dsimp [t1], by simp -dsimp [t5], by simp -dsimp [hid], by simp -dsimp [hm], by simp -dsimp [t6], by simp -dsimp, by simp -dsimp [hmu], by omega, by omega, by omega, hn, by simp⟩
  · rintro s ⟨i, f, id, ps, t0, t1, t5, hid, hm, t6, t7, hmu, hf, hi, hps, hcut, hend⟩
    have hil := hend rfl
    subst hil
    have f1 := far hid
    have b1 : (ps.length + 1) * 16 ≤ 140737488355328 := by omega
    have b2 : (f : Int) ≤ w.length := by omega
    rw [List.take_length, List.drop_length] at hcut
    have hcut : ps ++ [w.drop f] = cutAt c w := hcut
    rw [← hcut]
    simp -dsimp [t0, t5, t6, b1, b2, hm, hmu, f1, nes]
end TL

/- Numbers read: the reference. -/
set_option linter.unusedSimpArgs false
set_option linter.unusedVariables false
set_option maxRecDepth 100000
set_option maxHeartbeats 4000000
set_option pp.maxSteps 1500
namespace TL
open Go Go.Proofs
attribute [local simp] marksV storyV codeV Claim.v Place.v
/-! Numbers. -/
def digGo : Nat → List UInt8 → Int
  | acc, [] => acc
  | acc, c :: r => if c.toNat < 48 ∨ 57 < c.toNat then -1 else digGo (10 * acc + (c.toNat - 48)) r
def digS (s : List UInt8) : Int := if (1 ≤ s.length ∧ s.length ≤ 6) ∧ ¬ (1 < s.length ∧ s.head? = some 48) then digGo 0 s else -1
def Idig (w : List UInt8) (e : Nat) (s : S) : Prop := ∃ i acc : Nat, s.tm 0 = .v (.str w) ∧ s.tm 3 = .v (.int .i64 acc) ∧ s.tm 4 = .v (.int .i64 i) ∧ i ≤ w.length ∧ acc < 10 ^ i ∧ digGo acc (w.drop i) = digGo 0 w ∧ (e = 1 → i = w.length)
theorem l1Digits_fn (w : List UInt8) (hl : w.length ≤ 2000000000) : FnZ Tryd.prog 21 [.str w] (.int .i64 (digS w)) := by
  have hin := l1In_z w.length 1 6
  by_cases h1 : 1 ≤ w.length ∧ w.length ≤ 6
  case neg =>
    have e : digS w = -1 := by unfold digS; rw [if_neg fun h => h1 h.1]
    have e2 : (decide ((1 : Int) ≤ w.length) && decide ((w.length : Int) ≤ 6)) = false := by
      rw [Bool.and_eq_false_iff]; simp only [decide_eq_false_iff_not]; omega
    rw [e2] at hin
    rw [e]
    refine FnZ_of (rs := [.tmp 2]) false Tryd.func21 rfl rfl rfl rfl (Nat.le_of_ble_eq_true rfl) ?_
    simp -dsimp
    refine call_ hin (by simp -dsimp) ?_
    simp -dsimp
  have e2 : (decide ((1 : Int) ≤ w.length) && decide ((w.length : Int) ≤ 6)) = true := by
    rw [Bool.and_eq_true, decide_eq_true_eq, decide_eq_true_eq]; omega
  rw [e2] at hin
  by_cases h2 : 1 < w.length ∧ w.head? = some 48
  · have e : digS w = -1 := by unfold digS; rw [if_neg fun h => h.2 h2]
    match w, h2 with
    | c :: r, h2 =>
      have hc : c = 48 := by simpa using h2.2
      subst hc
      have l1 : (1 : Int) < (r.length : Int) + 1 := by have := h2.1; simp only [List.length_cons] at this; omega
      have l2 : 0 < r.length := by omega
      rw [e]
      refine FnZ_of (rs := [.tmp 2]) false Tryd.func21 rfl rfl rfl rfl (Nat.le_of_ble_eq_true rfl) ?_
      simp -dsimp
      refine call_ hin (by simp -dsimp) ?_
      simp -dsimp [l1, l2]
  have e : digS w = digGo 0 w := by unfold digS; rw [if_pos ⟨h1, h2⟩]
  rw [e]
  have h6 : w.length ≤ 6 := h1.2
  refine FnZ_of (rs := [.tmp 2]) false Tryd.func21 rfl rfl rfl rfl (Nat.le_of_ble_eq_true rfl) ?_
  simp -dsimp
  refine call_ hin (by simp -dsimp) ?_
  by_cases hl1 : 1 < w.length
  case' pos =>
    have l1 : (1 : Int) < w.length := by omega
    have l0 : 0 < w.length := by omega
    have hc : ¬ w[0] = 48 := fun h => h2 ⟨hl1, by rw [List.head?_eq_getElem?, List.getElem?_eq_getElem l0, h]⟩
    have hc2 : ¬ (w[0].toNat : Int) = 48 := fun h => hc (UInt8.toNat.inj (by show w[0].toNat = 48; omega))
    simp -dsimp [l1, l0, hc2, hl1]
  case' neg =>
    have l1 : ¬ (1 : Int) < w.length := by omega
    simp -dsimp [l1, hl1]
  all_goals
      clear l1 h1 h2 hin hl hl1 e e2
      refine twp_loopC (Idig w 0) (fun s => w.length - natOf (s.tm 4)) (Idig w 1) ?_ ?_ ?_
      · exact ⟨0, 0, by simp -dsimp, by simp -dsimp, by simp -dsimp, by omega, by simp, by simp, by simp⟩
      · rintro s ⟨i, acc, t0, t3, t4, hi, hac, hd, hend⟩
        by_cases hlt : i < w.length
        case neg =>
          simp -dsimp [t0, t4, hlt]
          exact ⟨i, acc, by simp -dsimp [t0], by simp -dsimp [t3], by simp -dsimp [t4], hi, hac, hd, fun _ => by omega⟩
        have hget : w[i]? = some w[i] := by simp [hlt]
        have wi : IntKind.wrap .i64 ((i : Int) + 1) = ((i + 1 : Nat) : Int) := by rw [w64 (by omega) (by omega)]; omega
        have hmu1 : w.length - (i + 1) < w.length - i := by omega
        have hp : 10 ^ i ≤ 10 ^ 6 := Nat.pow_le_pow_right (by omega) (by omega)
        have hp6 : (10 : Nat) ^ 6 = 1000000 := rfl
        have hps : 10 ^ (i + 1) = 10 * 10 ^ i := by rw [Nat.pow_succ]; omega
        have hb := UInt8.toNat_lt w[i]
        rw [List.drop_eq_getElem_cons hlt] at hd
        have hd : (if w[i].toNat < 48 ∨ 57 < w[i].toNat then -1 else digGo (10 * acc + (w[i].toNat - 48)) (w.drop (i + 1))) = digGo 0 w := hd
        by_cases hlo : w[i].toNat < 48
        · have hlo' : (w[i].toNat : Int) < 48 := by omega
          rw [if_pos (.inl hlo)] at hd
          rw [← hd]
          simp -dsimp [t0, t4, hlt, hget, hlo, hlo']
        by_cases hhi : 57 < w[i].toNat
        · have hlo' : ¬ (w[i].toNat : Int) < 48 := by omega
          have hhi' : (57 : Int) < (w[i].toNat : Int) := by omega
          rw [if_pos (.inr hhi)] at hd
          rw [← hd]
          simp -dsimp [t0, t4, hlt, hget, hlo, hlo', hhi, hhi']
        · have hlo' : ¬ (w[i].toNat : Int) < 48 := by omega
          have hhi' : ¬ (57 : Int) < (w[i].toNat : Int) := by omega
          rw [if_neg (by omega)] at hd
          have w1 : IntKind.wrap .i64 (10 * (acc : Int)) = 10 * (acc : Int) := w64 (by omega) (by omega)
          have w2 : IntKind.wrap .u8 ((w[i].toNat : Int) - 48) = (w[i].toNat : Int) - 48 := by rw [IntKind.wrap_u8]; omega
          have w3 : IntKind.wrap .i64 ((w[i].toNat : Int) - 48) = (w[i].toNat : Int) - 48 := w64 (by omega) (by omega)
          have w4 : IntKind.wrap .i64 (10 * (acc : Int) + ((w[i].toNat : Int) - 48)) = ((10 * acc + (w[i].toNat - 48) : Nat) : Int) := by rw [w64 (by omega) (by omega)]; omega
          simp -dsimp [t0, t3, t4, hlt, hget, hlo, hlo', hhi, hhi', w1, w2, w3, w4, wi, hmu1]
          exact ⟨i + 1, 10 * acc + (w[i].toNat - 48), by simp -dsimp [t0], by simp -dsimp, by simp -dsimp, by omega, by omega, hd, by simp⟩
      · rintro s ⟨i, acc, t0, t3, t4, hi, hac, hd, hend⟩
        have hil := hend rfl
        rw [hil, List.drop_length] at hd
        rw [← hd]
        simp -dsimp [t3, digGo]
end TL

/- Places read: the reference. -/
set_option linter.unusedSimpArgs false
set_option linter.unusedVariables false
set_option maxRecDepth 100000
set_option maxHeartbeats 4000000
set_option pp.maxSteps 1500
namespace TL
open Go Go.Proofs
attribute [local simp] marksV storyV codeV Claim.v Place.v
/-! Places. -/
theorem cut32_text {p : Place} (h : placeOk p = true) : cutAt 32 (placeTx p) = [[UInt8.ofNat (48 + p.people.toNat)], restTx p] := by
  obtain ⟨h1, h2, _, _⟩ := placeOk_all h
  rw [placeTx_shape h]
  have hd : ∀ y ∈ [UInt8.ofNat (48 + p.people.toNat)], y ≠ 32 := fun y hy => by
    rw [List.mem_singleton.1 hy]
    rcases (by omega : p.people = 1 ∨ p.people = 2 ∨ p.people = 3 ∨ p.people = 4) with e | e | e | e <;> rw [e] <;> decide
  have := cutAt_app (r := restTx p) hd
  rw [cutAt_none fun y hy => (restTx_plain h y hy).1] at this
  exact this
theorem digS_digit {n : Int} (h0 : 1 ≤ n) (h4 : n ≤ 4) : digS [UInt8.ofNat (48 + n.toNat)] = n := by
  rcases (by omega : n = 1 ∨ n = 2 ∨ n = 3 ∨ n = 4) with rfl | rfl | rfl | rfl <;> rfl
theorem parts_two {s x rest : List UInt8} (h : cutAt 32 s = [x, rest]) : parts s (digS x) rest := ⟨(fun e => by rw [e] at h; cases h), fun p hp hs => by
  obtain ⟨h1, h2, _, _⟩ := placeOk_all hp
  rw [← hs, cut32_text hp] at h
  injection h with h3 h4
  injection h4 with h5 _
  rw [← h3, digS_digit h1 h2]
  exact ⟨rfl, h5.symm⟩⟩
theorem readP_parts {s : List UInt8} (h : (cutAt 32 s).length ≠ 2) : readP s = none := readP_none fun p hp hs => by
  rw [← hs, cut32_text hp] at h; exact h rfl
theorem reads_ok {D : Int} {ps : List (List UInt8)} {l : List Claim} (h : ps.map (readC D) = l.map some) : ∀ c ∈ l, claimOk D c = true := fun c hc => by
  have : some c ∈ ps.map (readC D) := by rw [h]; exact List.mem_map_of_mem hc
  obtain ⟨x, _, hx⟩ := List.mem_map.1 this
  exact (readC_is hx).1
theorem claimOk_fine {D : Int} {c : Claim} (h : claimOk D c = true) : c.fine := by
  obtain ⟨_, _, _, _, h5, h6⟩ := claimOk_all h
  exact ⟨termOk_fits h5, by omega⟩
def Isrp (s x rest : List UInt8) (D : Int) (e : Nat) (y : S) : Prop := ∃ (i : Nat) (l : List Claim) (row : T), y.tm 0 = .v (.str s) ∧ y.tm 2 = .ptr 0 0 ∧ y.m 0 = some (.box 30 2 [.v (.int .i64 0), .nil]) ∧ y.tm 5 = .ptr 1 0 ∧
  y.m 1 = some (.box 30 2 [.v (.int .i64 D), row]) ∧ (row = .nil ∧ l = [] ∨ ∃ id, row = .loc id ∧ 1 < id ∧ id < y.n ∧ y.m id = some (.arr 48 (l.map Claim.v))) ∧
  y.tm 4 = .v (.sl [.str x, .str rest]) ∧ y.tm 6 = .v (.sl ((cutAt 44 rest).map V.str)) ∧ y.tm 7 = .v (.int .i64 i) ∧ y.mu = false ∧ 1 < y.n ∧ i ≤ (cutAt 44 rest).length ∧ ((cutAt 44 rest).take i).map (readC D) = l.map some ∧ (rest = [46] → l = []) ∧ (e = 1 → rest = [46] ∨ i = (cutAt 44 rest).length)
theorem readPlaceS_fn (s : List UInt8) (hl : s.length ≤ 2000000000) : FnZ Tryd.prog 10 [.str s] (optP (readP s)) := by
  have hcut := l1Cut_fn s 32 hl
  have e32 : (((32 : UInt8).toNat : Nat) : Int) = 32 := rfl
  have e44 : (((44 : UInt8).toNat : Nat) : Int) = 44 := rfl
  rw [e32] at hcut
  by_cases h2 : (cutAt 32 s).length = 2
  case neg =>
    rw [readP_parts h2]
    have h2' : ¬ ((cutAt 32 s).length : Int) = 2 := by omega
    refine FnZ_of (rs := [.cell 2 30, .tmp 3]) false Tryd.func10 rfl rfl rfl rfl (Nat.le_of_ble_eq_true rfl) ?_
    simp -dsimp
    refine call_ hcut (by simp -dsimp) ?_
    simp -dsimp [h2, h2', optP]
  have h3 : ∃ x rest, cutAt 32 s = [x, rest] := by
    generalize cutAt 32 s = ps at h2
    match ps, h2 with
    | [x, r], _ => exact ⟨x, r, rfl⟩
  refine h3.elim fun x h4 => h4.elim fun rest h5 => ?_
  clear h3 h4 h2
  have hxl : x.length ≤ s.length := cutAt_piece (c := 32) (by rw [h5]; simp)
  have hrl : rest.length ≤ s.length := cutAt_piece (c := 32) (by rw [h5]; simp)
  have hpt := parts_two h5
  rw [h5] at hcut
  clear h5
  have hdg := l1Digits_fn x (by omega)
  have hct2 := l1Cut_fn rest 44 (by omega)
  rw [e44] at hct2
  generalize digS x = D at *
  refine FnZ_of (rs := [.cell 2 30, .tmp 3]) false Tryd.func10 rfl rfl rfl rfl (Nat.le_of_ble_eq_true rfl) ?_
  simp -dsimp
  refine call_ hcut (by simp -dsimp) ?_
  simp -dsimp
  refine call_ hdg (by simp -dsimp) ?_
  simp -dsimp
  refine call_ hct2 (by simp -dsimp) ?_
  simp -dsimp
  refine twp_loopC (Isrp s x rest D 0) (fun y => (cutAt 44 rest).length - natOf (y.tm 7)) (Isrp s x rest D 1) ?_ ?_ ?_
  · exact ⟨0, [], .nil, by simp -dsimp, by simp -dsimp, by simp -dsimp, by simp -dsimp, by simp -dsimp, .inl ⟨rfl, rfl⟩, by simp -dsimp, by simp -dsimp, by simp -dsimp, by simp -dsimp, by simp -dsimp, by omega, by simp, by simp, by simp⟩
  · rintro y ⟨i, l, row, t0, t2, m0, t5, m1, hrow, t4, t6, t7, hmu, hn, hi, hrd, hdot, hend⟩
    by_cases hlt : i < (cutAt 44 rest).length
    case neg =>
      simp -dsimp [t4, t6, t7, hlt]
      exact ⟨i, l, row, by simp -dsimp [t0], by simp -dsimp [t2], by simp -dsimp [m0], by simp -dsimp [t5], by simp -dsimp [m1], by simpa -dsimp using hrow, by simp -dsimp [t4], by simp -dsimp [t6], by simp -dsimp [t7], by simp -dsimp [hmu], by simp -dsimp [hn], hi, hrd, hdot, fun _ => .inr (by omega)⟩
    by_cases hd : rest = [46]
    · have hlt2 : i < (cutAt 44 [46]).length := by rw [← hd]; exact hlt
      simp -dsimp [t4, t6, t7, hlt, hlt2, hd]
      exact ⟨i, l, row, by simp -dsimp [t0], by simp -dsimp [t2], by simp -dsimp [m0], by simp -dsimp [t5], by simp -dsimp [m1], by simpa -dsimp using hrow, by simp -dsimp [t4, hd], by simp -dsimp [t6, hd], by simp -dsimp [t7], by simp -dsimp [hmu], by simp -dsimp [hn], by rw [← hd]; exact hi, by rw [← hd]; exact hrd, fun _ => hdot hd, fun _ => .inl rfl⟩
    have hget : ((cutAt 44 rest).map V.str)[i]? = some (.str (cutAt 44 rest)[i]) := by simp [hlt]
    have hcl := cutAt_len 44 rest
    have wi : IntKind.wrap .i64 ((i : Int) + 1) = ((i + 1 : Nat) : Int) := by rw [w64 (by omega) (by omega)]; omega
    have hmu1 : (cutAt 44 rest).length - (i + 1) < (cutAt 44 rest).length - i := by omega
    have hmem := List.getElem_mem hlt
    have hpl := cutAt_piece hmem
    have hrc := readClaimS_fn D (cutAt 44 rest)[i] (by omega)
    have hnx : ∀ c, readC D (cutAt 44 rest)[i] = some c → _ := fun c => reads_next (c := c) hlt hrd
    have hno := readP_piece hpt hd _ hmem
    have hll := reads_len hrd
    have f0 := far (show 0 < y.n by omega)
    have f1 := far hn
    generalize readC D (cutAt 44 rest)[i] = o at *
    cases o with
    | none =>
      rw [hno rfl]
      simp -dsimp [t4, t6, t7, hlt, hget, hd]
      refine twp_draw [0, 1, 2, 3, 4, 5, 1006, 7, 8, 9, 10, 11, 12] [1] (List.replicate 13 [0]) (List.replicate 13 [0]) (by kernel_rfl) (by kernel_rfl) (by kernel_rfl) (by kernel_rfl) ?_
      simp -dsimp [t4, t5, t6, t7, hlt, hget, m1, f0, f1, nes]
      refine pure_ hrc (by simp -dsimp) ?_
      simp -dsimp [optC, optP, t2, m0, f0, f1, nes]
    | some c =>
      have hn1 := hnx c rfl
      clear hnx hno
      rcases hrow with ⟨rfl, rfl⟩ | ⟨id, rfl, hid1, hid, hm⟩
      · simp -dsimp [t4, t6, t7, hlt, hget, hd]
        refine twp_draw [0, 1, 2, 3, 4, 5, 1006, 7, 8, 9, 10, 11, 12] [1] (List.replicate 13 [0]) (List.replicate 13 [0]) (by kernel_rfl) (by kernel_rfl) (by kernel_rfl) (by kernel_rfl) ?_
        simp -dsimp [t4, t5, t6, t7, hlt, hget, m1, f0, f1, nes]
        refine pure_ hrc (by simp -dsimp) ?_
        simp -dsimp [optC, optP, t2, t5, t7, m0, m1, hmu, f0, f1, wi, hmu1, nes]
        refine st_out fun s' ht hm' hn' hu' => ?_
        have a0 := ht 0
        have a2 := ht 2
        have a4 := ht 4
        have a5 := ht 5
        have a6 := ht 6
        have a7 := ht 7
        simp -dsimp [t0, t2, t4, t5, t6, wi] at a0 a2 a4 a5 a6 a7 hm' hn' hu'
        clear ht
        refine ⟨i + 1, _, .loc (y.n + 1 + 1 + 1), a0, a2, by simp [hm', f0, nes, m0], a5, by simp [hm', f1, nes, m1], .inr ⟨_, rfl, by omega, by omega, ?_⟩, a4, a6, a7, by rw [hu', hmu], by omega, by omega, hn1, fun h => absurd h hd, by simp⟩
        simp [hm', nes]
      · have f2 := far hid
        have g0 : ¬ id = 0 := by omega
        have g1 : ¬ id = 1 := by omega
        have b1 : (l.length + 1) * 32 ≤ 140737488355328 := by omega
        simp -dsimp [t4, t6, t7, hlt, hget, hd]
        refine twp_draw [0, 1, 2, 3, 4, 5, 1006, 7, 8, 9, 10, 11, 12] [1] (List.replicate 13 [0]) (List.replicate 13 [0]) (by kernel_rfl) (by kernel_rfl) (by kernel_rfl) (by kernel_rfl) ?_
        simp -dsimp [t4, t5, t6, t7, hlt, hget, m1, f0, f1, nes]
        refine pure_ hrc (by simp -dsimp) ?_
        simp -dsimp [optC, optP, t2, t5, t7, m0, m1, hm, hmu, f0, f1, f2, b1, wi, hmu1, nes, g0, g1, Ne.symm g0, Ne.symm g1]
        refine st_out fun s' ht hm' hn' hu' => ?_
        have a0 := ht 0
        have a2 := ht 2
        have a4 := ht 4
        have a5 := ht 5
        have a6 := ht 6
        have a7 := ht 7
        simp -dsimp [t0, t2, t4, t5, t6, wi] at a0 a2 a4 a5 a6 a7 hm' hn' hu'
        clear ht
        refine ⟨i + 1, _, .loc (y.n + 1 + 1 + 1), a0, a2, by simp [hm', f0, nes, Ne.symm g0, m0], a5, by simp [hm', f1, nes, Ne.symm g1, m1], .inr ⟨_, rfl, by omega, by omega, ?_⟩, a4, a6, a7, by rw [hu', hmu], by omega, by omega, hn1, fun h => absurd h hd, by simp⟩
        simp [hm', nes]
  · rintro y ⟨i, l, row, t0, t2, m0, t5, m1, hrow, t4, t6, t7, hmu, hn, hi, hrd, hdot, hend⟩
    have hll := reads_len hrd
    have hcl := cutAt_len 44 rest
    have hcase : rest = [46] ∧ l = [] ∨ rest ≠ [46] ∧ (cutAt 44 rest).map (readC D) = l.map some := by
      by_cases hd : rest = [46]
      · exact .inl ⟨hd, hdot hd⟩
      · have := (hend rfl).resolve_left hd
        rw [this, List.take_length] at hrd
        exact .inr ⟨hd, hrd⟩
    have hfine : (⟨D, l⟩ : Place).fine := ⟨by simp only; omega, fun c hc => claimOk_fine (reads_ok hrd c hc)⟩
    have he := readP_end hpt hcase
    have hT := placeTextS_fn ⟨D, l⟩ hfine
    rw [he]
    clear he hpt
    generalize placeTx ⟨D, l⟩ = tx at *
    have f0 := far (show 0 < y.n by omega)
    have f1 := far hn
    rcases hrow with ⟨rfl, rfl⟩ | ⟨id, rfl, hid1, hid, hm⟩
    · by_cases hx : tx = s
      · simp -dsimp [t5, m1, f1]
        refine call_ hT (by simp -dsimp) ?_
        simp -dsimp [t0, t2, t5, m0, m1, hx, optP]
      · simp -dsimp [t5, m1, f1]
        refine call_ hT (by simp -dsimp) ?_
        simp -dsimp [t0, t2, t5, m0, m1, hx, optP]
    · have f2 := far hid
      have g0 : ¬ id = 0 := by omega
      have g1 : ¬ id = 1 := by omega
      by_cases hx : tx = s
      · simp -dsimp [t5, m1, f1]
        refine call_ hT (by simp -dsimp [hm]) ?_
        simp -dsimp [t0, t2, t5, m0, m1, hm, hx, optP, g0, g1, f0, f1, f2]
      · simp -dsimp [t5, m1, f1]
        refine call_ hT (by simp -dsimp [hm]) ?_
        simp -dsimp [t0, t2, t5, m0, m1, hm, hx, optP, g0, g1, f0, f1, f2]
end TL

/- The exact law of reading places. -/
set_option linter.unusedSimpArgs false
set_option linter.unusedVariables false
set_option maxRecDepth 100000
set_option maxHeartbeats 4000000
set_option pp.maxSteps 1500
namespace TL
open Go Go.Proofs
attribute [local simp] marksV storyV codeV Claim.v Place.v
theorem OwnRowC.cell {m : Mem} {lo hi : Nat} {st : T} {l : List Claim} {js : List Nat} (h : OwnRowC m lo hi st l js) : st.cell = true := by
  rcases h.2.2.2 with ⟨rfl, _⟩ | ⟨id, rfl, _⟩ <;> rfl
theorem OwnRowC.cells {m : Mem} {lo hi : Nat} {st : T} {l : List Claim} {js : List Nat} (h : OwnRowC m lo hi st l js) : st.cells = [st] := by
  rcases h.2.2.2 with ⟨rfl, _⟩ | ⟨id, rfl, _⟩ <;> rfl
theorem OwnRowC.keep {m m' : Mem} {lo hi : Nat} {st : T} {l : List Claim} {js : List Nat} (h : OwnRowC m lo hi st l js) (hk : ∀ j, lo ≤ j → j < hi → m' j = m j) : OwnRowC m' lo hi st l js := by
  obtain ⟨h1, h2, h3, h4⟩ := h
  refine ⟨h1, h2, h3.keep fun j hj => hk j (h1 j hj).1 (h1 j hj).2, ?_⟩
  rcases h4 with h4 | ⟨id, e, i0, i1, i2, i3⟩
  · exact .inl h4
  · exact .inr ⟨id, e, i0, i1, i2, by rw [hk id i0 i1, i3]⟩
theorem OwnRowC.bor {m : Mem} {lo hi : Nat} {st : T} {l : List Claim} {js : List Nat} (h : OwnRowC m lo hi st l js) (d : Nat) : TL.bor true m (d + 2) st = some (.sl (l.map Claim.v)) := by
  obtain ⟨h1, h2, h3, h4⟩ := h
  rcases h4 with ⟨rfl, rfl, rfl⟩ | ⟨id, rfl, i0, i1, i2, i3⟩
  · rfl
  · exact bor_claims d i3 h3
theorem markClaimS_nil (m : Mem) (n : Nat) (k : Int) : FnS Tryd.prog 28 m n [.nil, .v (.int .i64 k)] (fun t m' n' => t = .v (.int .i64 k) ∧ n ≤ n' ∧ m' = m) := by
  refine FnS_of (rs := [.tmp 4]) false Tryd.func28 rfl rfl rfl rfl (Nat.le_of_ble_eq_true rfl) ?_
  simp -dsimp
  refine twp_loopC (fun s => s.tm 0 = .nil ∧ s.tm 1 = .v (.int .i64 k) ∧ s.tm 5 = .v (.int .i64 0) ∧ s.m = m ∧ n ≤ s.n) (fun s => 0) (fun s => s.tm 1 = .v (.int .i64 k) ∧ s.m = m ∧ n ≤ s.n) ?_ ?_ ?_
  · simp -dsimp
  · rintro s ⟨t0, t1, t5, hm, hn⟩
    simp -dsimp [t0, t1, t5, hm, hn]
  · rintro s ⟨t1, hm, hn⟩
    simp -dsimp [t1, hm, hn]
theorem markPlace_own (p : Place) (k : Int) (hk0 : 0 ≤ k) (hk : mkn k p.story ≤ 1000000) (hl : ∀ c ∈ p.story, c.says.length ≤ 1000000) (m : Mem) (lo hi n : Nat) (hlo : hi ≤ n) (st : T) (js : List Nat) (h : OwnRowC m lo hi st p.story js) :
    FnS Tryd.prog 13 m n [.agg [.v (.int .i64 p.people), st], .v (.int .i64 k)] (fun t m' n' => t = .v (.int .i64 (mkn k p.story)) ∧ n ≤ n' ∧ OwnRowC m' lo hi st (mkc k p.story) js ∧ ∀ j, j < n → j < lo ∨ hi ≤ j → m' j = m j) := by
  have hc := h.cell
  have hcs := h.cells
  refine FnS_of (rs := [.tmp 4]) false Tryd.func13 rfl rfl rfl rfl (Nat.le_of_ble_eq_true rfl) ?_
  obtain ⟨h1, h2, h3, h4⟩ := h
  rcases h4 with ⟨rfl, e, rfl⟩ | ⟨id, rfl, i0, i1, i2, i3⟩
  · simp -dsimp [nes]
    refine callS_ (markClaimS_nil _ _ k) ?_
    rintro t m2 n2 ⟨rfl, hn2, rfl⟩
    simp -dsimp [e, mkn, mkc]
    exact ⟨by omega, ⟨by simp, List.nodup_nil, trivial, .inl ⟨rfl, rfl, rfl⟩⟩, fun j j1 _ => by simp [show ¬ j = n by omega]⟩
  · simp -dsimp [nes, hc, hcs]
    refine callS_ (markClaimS_fn p.story js k hk0 hk _ _ id (by omega) (fun j hj => by have := (h1 j hj).2; omega) h2 i2 (by simp [show ¬ id = n by omega, i3]) (h3.keep fun j hj => by have := (h1 j hj).2; simp [show ¬ j = n by omega]) hl) ?_
    rintro t m2 n2 ⟨rfl, hn2, e1, e2, e3⟩
    simp -dsimp
    refine ⟨by omega, ⟨h1, h2, e2, .inr ⟨id, by simp, i0, i1, i2, e1⟩⟩, fun j j1 j2 => ?_⟩
    have q1 : j ∉ js := fun hj => by have := h1 j hj; omega
    rw [e3 j (by omega) (by omega) q1]; simp [show ¬ j = n by omega]
theorem heldPlace_fn (q : Int) (l : List Claim) (k : Int) (hk0 : 0 ≤ k) (hk : mkn k l ≤ 1000000) (hl : ∀ c ∈ l, c.says.length ≤ 1000000) : FnZ Tryd.prog 14 [(⟨q, mkc k l⟩ : Place).v, .int .i64 k] (.int .i64 (mkn k l)) := by
  have h := heldClaimS_fn l k hk0 hk hl
  have hge := mkn_ge l k
  have h0 : ¬ mkn k l < 0 := by omega
  refine FnZ_of (rs := [.tmp 4]) false Tryd.func14 rfl rfl rfl rfl (Nat.le_of_ble_eq_true rfl) ?_
  simp -dsimp
  refine call_ h (by simp -dsimp) ?_
  simp -dsimp [h0]
theorem markPlace_no (q k : Int) : FnZ Tryd.prog 13 [(⟨q, []⟩ : Place).v, .int .i64 k] (.int .i64 k) := by
  have h : FnZ Tryd.prog 28 [.sl [], .int .i64 k] (.int .i64 k) := by
    refine FnZ_of (rs := [.tmp 4]) false Tryd.func28 rfl rfl rfl rfl (Nat.le_of_ble_eq_true rfl) ?_
    simp -dsimp
    refine twp_loopC (fun s => s.tm 0 = .v (.sl []) ∧ s.tm 1 = .v (.int .i64 k) ∧ s.tm 5 = .v (.int .i64 0)) (fun s => 0) (fun s => s.tm 1 = .v (.int .i64 k)) ?_ ?_ ?_
    · simp -dsimp
    · rintro s ⟨t0, t1, t5⟩
      simp -dsimp [t0, t1, t5]
    · rintro s t1
      simp -dsimp [t1]
  refine FnZ_of (rs := [.tmp 4]) false Tryd.func13 rfl rfl rfl rfl (Nat.le_of_ble_eq_true rfl) ?_
  simp -dsimp
  refine call_ h (by simp -dsimp) ?_
  simp -dsimp
theorem mkn_le (M : Nat) : ∀ (l : List Claim) (k : Int), (∀ c ∈ l, c.says.length ≤ M) → mkn k l ≤ k + l.length * (1 + 2 * M)
  | [], k, _ => by simp [mkn]
  | c :: l, k, h => by
    have h1 := h c (by simp)
    have h2 := mkn_le M l (k + 1 + 2 * c.says.length) (fun x hx => h x (by simp [hx]))
    simp only [mkn, List.length_cons]
    have e : ((l.length + 1 : Nat) : Int) * (1 + 2 * (M : Int)) = (l.length : Int) * (1 + 2 * M) + (1 + 2 * M) := by rw [Int.natCast_add, Int.add_mul]; simp
    rw [e]; omega
theorem lawExactReadPlace (s : List UInt8) : FnZ Tryd.prog 4 [.str s] (.bool true) := by
  by_cases hl : (1048576 : Int) < s.length
  · refine FnZ_of (rs := [.tmp 2]) false Tryd.func4 rfl rfl rfl rfl (Nat.le_of_ble_eq_true rfl) ?_
    have hl' : 1048576 < s.length := by omega
    simp -dsimp [hl, hl']
  have hl' : ¬ 1048576 < s.length := by omega
  have h1 := readPlaceS_fn s (by omega)
  have h3 := readPlace_fn s (by omega)
  cases ho : readP s with
  | none =>
    rw [ho] at h1 h3
    have h4 := eqPlace_fn ⟨0, []⟩ ⟨0, []⟩ ⟨by simp, by simp⟩
    have h5 := markPlace_no 0 1
    have h6 := heldPlace_fn 0 [] 1 (by omega) (by simp [mkn]) (by simp)
    simp only [mkc, mkn] at h6
    refine FnZ_of (rs := [.tmp 2]) false Tryd.func4 rfl rfl rfl rfl (Nat.le_of_ble_eq_true rfl) ?_
    simp -dsimp [hl, hl', nes]
    refine call_ h1 (by simp -dsimp) ?_
    simp -dsimp [optP, nes]
    refine call_ h3 (by simp -dsimp) ?_
    simp -dsimp [optP, nes]
    refine call_ h4 (by simp -dsimp) ?_
    simp -dsimp [nes]
    refine call_ h5 (by simp -dsimp) ?_
    simp -dsimp [nes]
    refine call_ h6 (by simp -dsimp) ?_
    simp -dsimp [nes]
    refine call_ h3 (by simp -dsimp) ?_
    simp -dsimp [optP, nes]
    refine call_ h4 (by simp -dsimp) ?_
    simp -dsimp [nes]
    refine call_ h6 (by simp -dsimp) ?_
    simp -dsimp [nes]
  | some p =>
    rw [ho] at h1 h3
    have hp := (readP_is ho).1
    obtain ⟨q1, q2, q3, q4⟩ := placeOk_all hp
    have hs13 : ∀ c ∈ p.story, c.says.length ≤ 13 := fun c hc => (claimOk_all (q4 c hc)).2.2.2.2.2
    have hs6 : ∀ c ∈ p.story, c.says.length ≤ 1000000 := fun c hc => by have := hs13 c hc; omega
    have hmn : mkn 1 p.story ≤ 1000000 := by have := mkn_le 13 p.story 1 hs13; omega
    have hge := mkn_ge p.story 1
    have small : p.small := ⟨by omega, fun c hc => by have := hs13 c hc; unfold Claim.small; omega⟩
    have h2 := fun m n => readPlace_own s (by omega) p ho m n
    have h4 := eqPlace_fn p p small
    have h6 := heldPlace_fn p.people p.story 1 (by omega) hmn hs6
    have h0 : ¬ mkn 1 p.story < 0 := by omega
    have h5 := fun m lo hi n hlo st js h => markPlace_own p 1 (by omega) hmn hs6 m lo hi n hlo st js h
    refine FnZ_of (rs := [.tmp 2]) false Tryd.func4 rfl rfl rfl rfl (Nat.le_of_ble_eq_true rfl) ?_
    simp -dsimp [hl, hl', nes]
    refine call_ h1 (by simp -dsimp) ?_
    simp -dsimp [optP, nes]
    refine callS_ (h2 _ _) ?_
    rintro t m1 n1 ⟨hn1, hout, st, js, rfl, hrow⟩
    have k0 := hout 0 (by omega)
    simp -dsimp [nes] at k0
    have hc := hrow.cell
    have hcs := hrow.cells
    have f0 := far (show 0 < n1 by omega)
    have z0 : ¬ n1 = 0 := by omega
    have hrow1 : OwnRowC (updM m1 n1 (some (.box 30 2 [.v (.int .i64 p.people), st]))) (0 + 1 + 1) n1 st p.story js := by
      refine OwnRowC.keep (by simpa using hrow) fun j j1 j2 => by simp [show ¬ j = n1 by omega]
    have hb1 := hrow1.bor 1
    simp -dsimp [nes, hc, hcs, k0, f0, z0]
    refine callM_ h4 (by simp -dsimp [hb1]) rfl ?_
    simp -dsimp [nes, hc, hcs, k0, f0, z0]
    refine callS_ (h5 _ (0 + 1 + 1) n1 _ (by omega) st js hrow1) ?_
    rintro t m2 n2 ⟨rfl, hn2, hrow2, hout2⟩
    have k1 := hout2 0 (by omega) (.inl (by omega))
    have k2 := hout2 n1 (by omega) (.inr (Nat.le_refl _))
    simp -dsimp [nes, k0, z0, f0] at k1 k2
    have hb2 := hrow2.bor 1
    have g0 := far (show 0 < n2 by omega)
    have g1 := far (show n1 < n2 by omega)
    simp -dsimp [nes, hc, hcs, k1, k2, f0, z0]
    refine callM_ h6 (by simp -dsimp [hb2]) rfl ?_
    simp -dsimp [nes, hc, hcs, k1, k2, h0, f0, z0]
    refine call_ h3 (by simp -dsimp) ?_
    simp -dsimp [optP, nes, hc, hcs, k1, k2, h0, f0, z0, g0, g1]
    refine call_ h4 (by simp -dsimp) ?_
    have hb3 := (hrow2.keep (m' := updM m2 n2 (some (.box 30 2 [.v (.int .i64 p.people), .v (.sl (p.story.map Claim.v))]))) fun j j1 j2 => by simp [show ¬ j = n2 by omega]).bor 1
    simp -dsimp [nes, hc, hcs, k1, k2, h0, f0, z0, g0, g1]
    refine callM_ h6 (by simp -dsimp [hb3]) rfl ?_
    simp -dsimp [nes, hc, hcs, k1, k2, h0, f0, z0, g0, g1]
theorem exactReadPlace_row (s : List UInt8) (h : s.length ≤ maxLen) : FnZ Tryd.prog 4 [.str s] (.bool true) := lawExactReadPlace s
end TL

/- A cell lies in its block. -/
namespace TL
open Go
theorem lt_of_cell {W : World} {g : Nat} {v : Value} (h : W.cell? ⟨g, 0, none⟩ = some v) : g < W.heap.size := by
  unfold World.cell? at h
  split at h
  · rename_i hb; exact (Array.getElem?_eq_some_iff.1 hb).1
  · cases h
end TL

/- The library's variables at the start: what the world's shape gives. -/
namespace TL
open Go Go.Proofs
theorem gl_start {W : World} (h : W.ShapedOpen Tryd.prog) : Gl Tryd.prog (ZA W) W := by
  have n1 : Tryd.prog.globalNamed "internal/bytealg.MaxLen" = some 0 := by kernel_rfl
  have hm : ∃ m, W.cell? ⟨0, 0, none⟩ = some (.int .i64 m) := Tryd.laysM145.s1_3 W h
  rintro g Q ⟨e, rfl⟩
  rw [n1] at e; cases e
  obtain ⟨m, hm⟩ := hm
  exact ⟨lt_of_cell hm, _, hm, m, rfl⟩
end TL

/- The wrap of a row that lists variables, the world's shape kept too. -/
namespace TL
open Go
variable {H : Type} {enc : TypeId × Value → H}
theorem wrapLS {a : Assume} {C : Checked} {os : Os} {f : FuncId} {fn : Func} {s : ChangeSpec} {conds : List PathCond} {apart fresh handsOn again : Bool} {X : World → Array Value → Prop}
    (hX : ∀ (w w' : World) (args : Array Value), w.heap = w'.heap → X w args → X w' args)
    (own : ownKnob C.prog.godebug = none) (started : os.Started) (noInit : C.prog.inits.idxOf? f = none) (hfn : C.prog.funcs[f]? = some fn)
    (witness : ∃ (w : World) (tape : Tape) (i : Input), w.os = os ∧ (w.forCall tape i).Shaped C.prog ∧ i.vars = [] ∧ Input.okWide C.prog (w.forCall tape i) .any w.heap.size f i ∧
      ((s.pre enc C.prog fn conds apart (w.forCall tape i).memory i.args ∧ X (w.forCall tape i).memory i.args) ∧ sizedMet enc C.prog fn (OpenSpec.ofChange s) apart (w.forCall tape i).memory i.args) ∧ a.holds C.prog (lone (Frame.enter C.prog f i.args .normal) [] (w.forCall tape i)))
    (contract : ∀ (W : World) (base : Nat) (args : Array Value) (ds gs : List (DataW H)) (before : List MemPlace),
      (∀ (j : Nat) t v, fn.params[j]? = some t → args[j]? = some v → Value.okWide C.prog W .any base t v) →
      DataW.Whole enc C.prog fn.params.toList s.vars apart W args.toList ds gs before → X W args → W.ShapedOpen C.prog →
      Calls C.prog f args W fun e W' => ∃ v, e = .returned v ∧ s.post enc C.prog fn apart fresh handsOn again W args v W') :
    ReturnsInHanded a C os f .any (fun w args => (s.pre enc C.prog fn conds apart w args ∧ X w args) ∧ sizedMet enc C.prog fn (OpenSpec.ofChange s) apart w args) (s.post enc C.prog fn apart fresh handsOn again) := by
  refine returnsInHanded_of_calls own started noInit witness ?_
  intro w tape i _ hsh _ hok hpre _
  obtain ⟨_, _, _, fn', hfn', _, _, _, _, hval⟩ := hok
  have e : fn' = fn := Option.some.inj (hfn'.symm.trans hfn)
  subst e
  obtain ⟨⟨⟨ds, gs, before, hw, _⟩, hx⟩, _⟩ := hpre
  have hw' := DataW.Whole.of_heap (w' := w.forCall tape i) (by rfl) hw
  refine (contract (w.forCall tape i) w.heap.size i.args ds gs before hval hw' (hX _ _ _ (by rfl) hx) hsh).mono fun e W' ⟨v, he, hp⟩ => ?_
  subst he
  exact ChangeSpec.post_blind hp
end TL

/- A closed fact of the program. -/
set_option maxRecDepth 100000
namespace Go.Proofs.YtlcgghbbjfeehabDoor.wide
open Go
theorem may_enter : Tryd.pinned.checked.prog.mayEnter = true := by kernel_rfl
end Go.Proofs.YtlcgghbbjfeehabDoor.wide

/- A closed fact of the program. -/
set_option maxRecDepth 100000
namespace Go.Proofs.YtlcgghbbjfeehabDoor.wide
open Go
theorem lifts_are : Tryd.pinned.checked.prog.liftsFinal = Rows.fnExactReadJournalRow.lifted := by kernel_rfl
end Go.Proofs.YtlcgghbbjfeehabDoor.wide

/- A closed fact of the program. -/
set_option maxRecDepth 100000
namespace Go.Proofs.YtlcgghbbjfeehabDoor.wide
open Go
theorem make_is : Tryd.pinned.checked.prog.make = some Rows.fnExactReadJournalRow.make := by kernel_rfl
end Go.Proofs.YtlcgghbbjfeehabDoor.wide

/- A closed fact of the program. -/
set_option maxRecDepth 100000
namespace Go.Proofs.YtlcgghbbjfeehabDoor.wide
open Go
theorem main_is : Tryd.pinned.checked.prog.mainIs = some (true, "92c2fdf8d1ac7926b4795e35771ebcc280f76ce8c1d6e7d6c4c88b31a180205a".toList) := by kernel_rfl
theorem looks_are : true = Tryd.pinned.checked.prog.looks [] := by kernel_rfl
end Go.Proofs.YtlcgghbbjfeehabDoor.wide
