/- TL: parts FnsE7, FnsL2, FnsE8, FnsE9, FnsE10, FnsE14, Fns3, Fns4, Fns5, Fns6, Fns10, FnsB1, FnsB2, FnsB3, FnsB4. -/
import Derived.Test.YtjcmndkbepamhaaGreatDoorHe
import Derived.Lib.Split
import Derived.Lib.SplitLaws
import Derived.Test.YtjcmndkbepamhaaGreatDoorShelfB
import Derived.KernelRfl
import Derived.Test.YtjcmndkbepamhaaGreatDoorHc
import Derived.Lib.ItoaNum
import Derived.Lib.AtoiAll
import Derived.Test.YtjcmndkbepamhaaGreatDoorHd
/- Reading places: the plain part. -/
set_option linter.unusedSimpArgs false
set_option linter.unusedVariables false
set_option maxRecDepth 100000
namespace TL
/-- Cut at every such sign. -/
def cutGo (c : UInt8) : List UInt8 → List UInt8 → List (List UInt8)
  | acc, [] => [acc]
  | acc, x :: xs => if x = c then acc :: cutGo c [] xs else cutGo c (acc ++ [x]) xs
def cutAt (c : UInt8) (s : List UInt8) : List (List UInt8) := cutGo c [] s
theorem cutGo_clean {c : UInt8} : ∀ (x acc r : List UInt8), (∀ y ∈ x, y ≠ c) → cutGo c acc (x ++ r) = cutGo c (acc ++ x) r
  | [], acc, r, _ => by simp
  | y :: x, acc, r, h => by
    have h1 : y ≠ c := h y (List.mem_cons_self ..)
    rw [List.cons_append]
    show (if y = c then _ else _) = _
    rw [if_neg h1, cutGo_clean x _ r fun z hz => h z (List.mem_cons_of_mem _ hz)]
    simp
theorem cutAt_app {c : UInt8} {x r : List UInt8} (h : ∀ y ∈ x, y ≠ c) : cutAt c (x ++ c :: r) = x :: cutAt c r := by
  unfold cutAt
  rw [cutGo_clean x [] _ h]
  show (if c = c then _ else _) = _
  rw [if_pos rfl]; rfl
theorem cutAt_none {c : UInt8} {x : List UInt8} (h : ∀ y ∈ x, y ≠ c) : cutAt c x = [x] := by
  have := cutGo_clean x [] [] h
  rw [List.append_nil] at this
  unfold cutAt; rw [this]; rfl
theorem cut_first (c : UInt8) : ∀ s : List UInt8, (∀ y ∈ s, y ≠ c) ∨ ∃ x r, s = x ++ c :: r ∧ ∀ y ∈ x, y ≠ c
  | [] => .inl (by simp)
  | y :: s => by
    by_cases h : y = c
    · exact .inr ⟨[], s, by rw [h]; rfl, by simp⟩
    · rcases cut_first c s with h1 | ⟨x, r, h1, h2⟩
      · exact .inl fun z hz => by
          rcases List.mem_cons.1 hz with rfl | hz
          · exact h
          · exact h1 z hz
      · exact .inr ⟨y :: x, r, by rw [h1]; rfl, fun z hz => by
          rcases List.mem_cons.1 hz with rfl | hz
          · exact h
          · exact h2 z hz⟩
theorem cutGo_len (c : UInt8) : ∀ s acc, (cutGo c acc s).length ≤ s.length + 1
  | [], acc => by simp [cutGo]
  | x :: s, acc => by
    show (if x = c then acc :: cutGo c [] s else cutGo c (acc ++ [x]) s).length ≤ _
    have h1 := cutGo_len c s []
    have h2 := cutGo_len c s (acc ++ [x])
    split
    · simp only [List.length_cons]; omega
    · simp only [List.length_cons]; omega
theorem cutAt_len (c : UInt8) (s : List UInt8) : (cutAt c s).length ≤ s.length + 1 := cutGo_len c s []
theorem cutGo_piece (c : UInt8) : ∀ s acc, ∀ x ∈ cutGo c acc s, x.length ≤ acc.length + s.length
  | [], acc, x, h => by
    cases List.mem_singleton.1 h; simp
  | y :: s, acc, x, h => by
    have h : x ∈ (if y = c then acc :: cutGo c [] s else cutGo c (acc ++ [y]) s) := h
    split at h
    · rcases List.mem_cons.1 h with rfl | h
      · simp
      · have := cutGo_piece c s [] x h; simp at this ⊢; omega
    · have := cutGo_piece c s _ x h; simp at this ⊢; omega
theorem cutAt_piece {c : UInt8} {s x : List UInt8} (h : x ∈ cutAt c s) : x.length ≤ s.length := by
  have := cutGo_piece c s [] x h; simpa using this
theorem occ_head {c : UInt8} {s : List UInt8} {j : Nat} : Go.Lib.occAt s [c] j = (s[j]? == some c) := by
  unfold Go.Lib.occAt
  have e : (s.drop j).head? = s[j]? := by simp
  cases h : s.drop j with
  | nil => rw [h] at e; rw [← e]; rfl
  | cons y r =>
    rw [h] at e; rw [← e]
    simp only [List.isPrefixOf, List.head?_cons, Bool.and_true]
    by_cases hy : c = y
    · simp [hy]
    · have hy2 : ¬ y = c := fun h => hy h.symm
      have e1 : (c == y) = false := by simp [hy]
      rw [e1]; simp [hy2]
theorem index_clean {c : UInt8} {s : List UInt8} (h : ∀ y ∈ s, y ≠ c) : Go.Lib.index s [c] = -1 := by
  refine Go.Lib.index_none fun j _ => ?_
  rw [occ_head]
  cases e : s[j]? with
  | none => rfl
  | some y => have := h y (List.mem_of_getElem? e); simpa using this
theorem index_at {c : UInt8} {x r : List UInt8} (h : ∀ y ∈ x, y ≠ c) : Go.Lib.index (x ++ c :: r) [c] = (x.length : Nat) := by
  refine Go.Lib.index_first (by simp) ?_ fun j hj => ?_
  · rw [occ_head]; simp
  · rw [occ_head, List.getElem?_append_left hj]
    have := h x[j] (List.getElem_mem hj)
    simpa [hj] using this
theorem splitK_cut (c : UInt8) : ∀ (n : Nat) (s : List UInt8), s.length ≤ n → Go.Lib.splitK [c] 0 (Go.Lib.count s [c]) s = cutAt c s
  | n, s, hn => by
    rcases cut_first c s with h | ⟨x, r, rfl, h⟩
    · rw [cutAt_none h, Go.Lib.count_miss (index_clean h)]; rfl
    · have hi := index_at (r := r) h
      have hne : ([c] : List UInt8) ≠ [] := by simp
      have hd : (x ++ c :: r).drop (x.length + [c].length) = r := by
        rw [List.drop_append, List.drop_of_length_le (by simp)]; simp
      rw [cutAt_app h, Go.Lib.count_hit hne hi, hd, Nat.add_comm, Go.Lib.splitK, hi]
      rw [if_neg (by simp)]
      have e1 : ((x.length : Nat) : Int).toNat = x.length := by omega
      rw [e1, hd, Nat.add_zero]
      cases n with
      | zero => simp at hn
      | succ n =>
        rw [splitK_cut c n r (by simp at hn; omega)]
        congr 1
        rw [List.take_append_of_le_length (Nat.le_refl _), List.take_length]
theorem split_is_cut (c : UInt8) (s : List UInt8) : Go.Lib.splitK [c] 0 (Go.Lib.count s [c]) s = cutAt c s := splitK_cut c s.length s (Nat.le_refl _)
theorem cut_join {c : UInt8} : ∀ (xs : List (List UInt8)) (x : List UInt8), (∀ y ∈ x, y ≠ c) → (∀ z ∈ xs, ∀ y ∈ z, y ≠ c) → cutAt c (Go.Lib.join (x :: xs) [c]) = x :: xs
  | [], x, h, _ => by rw [Go.Lib.join_one]; exact cutAt_none h
  | z :: xs, x, h, hs => by
    have e : Go.Lib.join (x :: z :: xs) [c] = x ++ c :: Go.Lib.join (z :: xs) [c] := by
      rw [Go.Lib.join_cons, Go.Lib.join_cons]
      simp [Go.Lib.joinTail]
    rw [e, cutAt_app h, cut_join xs z (hs z (List.mem_cons_self ..)) fun w hw => hs w (List.mem_cons_of_mem _ hw)]
/-! Claims' texts. -/
theorem ofNat_plain {w : Int} (h0 : 0 ≤ w) (h4 : w < 4) : plain (UInt8.ofNat (97 + w.toNat)) := by
  rcases (by omega : w = 0 ∨ w = 1 ∨ w = 2 ∨ w = 3) with rfl | rfl | rfl | rfl <;> exact ⟨by decide, by decide, by decide, by decide, by decide⟩
theorem claimTx_clean {people : Int} {c : Claim} (h : claimOk people c = true) : ∀ y ∈ claimTx people c, y ≠ 44 ∧ y ≠ 32 ∧ y ≠ 10 ∧ y ≠ 46 := by
  obtain ⟨h1, h2, h3, h4, h5, h6⟩ := claimOk_all h
  intro y hy
  unfold claimTx at hy
  rw [if_pos h] at hy
  rcases List.mem_cons.1 hy with rfl | hy
  · have := ofNat_plain h3 (by omega); exact ⟨this.2.2.1, this.1, this.2.1, this.2.2.2.1⟩
  rcases List.mem_cons.1 hy with rfl | hy
  · exact ⟨by decide, by decide, by decide, by decide⟩
  · have := termText_plain h5 y hy; exact ⟨this.2.2.1, this.1, this.2.1, this.2.2.2.1⟩
theorem join_mem {y c : UInt8} : ∀ (xs : List (List UInt8)), y ∈ Go.Lib.join xs [c] → y = c ∨ ∃ x ∈ xs, y ∈ x
  | [], h => by rw [Go.Lib.join_nil] at h; simp at h
  | [x], h => by rw [Go.Lib.join_one] at h; exact .inr ⟨x, by simp, h⟩
  | x :: z :: xs, h => by
    have e : Go.Lib.join (x :: z :: xs) [c] = x ++ c :: Go.Lib.join (z :: xs) [c] := by
      rw [Go.Lib.join_cons, Go.Lib.join_cons]
      simp [Go.Lib.joinTail]
    rw [e] at h
    rcases List.mem_append.1 h with h | h
    · exact .inr ⟨x, by simp, h⟩
    rcases List.mem_cons.1 h with h | h
    · exact .inl h
    · rcases join_mem _ h with h | ⟨w, hw, h⟩
      · exact .inl h
      · exact .inr ⟨w, List.mem_cons_of_mem _ hw, h⟩
theorem story_cut {people : Int} {l : List Claim} (hl : l ≠ []) (h : ∀ c ∈ l, claimOk people c = true) : cutAt 44 (storyTx people l) = l.map (claimTx people) := by
  cases l with
  | nil => exact absurd rfl hl
  | cons c l =>
    unfold storyTx
    rw [List.map_cons]
    refine cut_join _ _ (fun y hy => (claimTx_clean (h c (List.mem_cons_self ..)) y hy).1) fun z hz y hy => ?_
    obtain ⟨d, hd, rfl⟩ := List.mem_map.1 hz
    exact (claimTx_clean (h d (List.mem_cons_of_mem _ hd)) y hy).1
theorem story_plain {people : Int} {l : List Claim} (h : ∀ c ∈ l, claimOk people c = true) : ∀ y ∈ storyTx people l, y ≠ 32 ∧ y ≠ 10 ∧ y ≠ 46 := fun y hy => by
  rcases join_mem _ hy with rfl | ⟨x, hx, hy⟩
  · exact ⟨by decide, by decide, by decide⟩
  · obtain ⟨d, hd, rfl⟩ := List.mem_map.1 hx
    have := claimTx_clean (h d hd) y hy
    exact ⟨this.2.1, this.2.2.1, this.2.2.2⟩
theorem story_reads {people : Int} {l : List Claim} (hl : l ≠ []) (h : ∀ c ∈ l, claimOk people c = true) : (cutAt 44 (storyTx people l)).map (readC people) = l.map some := by
  rw [story_cut hl h, List.map_map]
  exact List.map_congr_left fun c hc => readC_text (h c hc)
/-- What stands behind the blank. -/
noncomputable def restTx (p : Place) : List UInt8 := if p.story = [] then [46] else storyTx p.people p.story
theorem dec_digit {n : Int} (h0 : 1 ≤ n) (h4 : n ≤ 4) : dec n = [UInt8.ofNat (48 + n.toNat)] := by
  unfold dec Go.Lib.decDigits; rcases (by omega : n = 1 ∨ n = 2 ∨ n = 3 ∨ n = 4) with rfl | rfl | rfl | rfl <;> rfl
theorem placeTx_shape {p : Place} (h : placeOk p = true) : placeTx p = UInt8.ofNat (48 + p.people.toNat) :: 32 :: restTx p := by
  obtain ⟨h1, h2, _, _⟩ := placeOk_all h
  unfold placeTx restTx
  rw [if_pos h, dec_digit h1 h2]; rfl
theorem story_pos {p : Place} (h : placeOk p = true) (hs : p.story ≠ []) : 3 ≤ (storyTx p.people p.story).length := by
  obtain ⟨h1, h2, _, h4⟩ := placeOk_all h
  obtain ⟨people, story⟩ := p
  cases story with
  | nil => exact absurd rfl hs
  | cons c l =>
    have := (claimTx_len (h4 c (List.mem_cons_self ..))).1
    unfold storyTx
    rw [List.map_cons, Go.Lib.join_cons]
    simp only [List.length_append]; simp only at this ⊢; omega
theorem restTx_dot {p : Place} (h : placeOk p = true) : restTx p = [46] ↔ p.story = [] := by
  unfold restTx
  constructor
  · intro e
    by_cases hs : p.story = []
    · exact hs
    · rw [if_neg hs] at e
      have := story_pos h hs; rw [e] at this; simp at this
  · intro e; rw [if_pos e]
theorem restTx_pos {p : Place} (h : placeOk p = true) : restTx p ≠ [] := by
  unfold restTx
  split
  · simp
  · rename_i hs; intro e; have := story_pos h hs; rw [e] at this; simp at this
theorem restTx_plain {p : Place} (h : placeOk p = true) : ∀ y ∈ restTx p, y ≠ 32 ∧ y ≠ 10 := by
  obtain ⟨_, _, _, h4⟩ := placeOk_all h
  unfold restTx
  split
  · intro y hy; cases List.mem_singleton.1 hy; exact ⟨by decide, by decide⟩
  · intro y hy; have := story_plain h4 y hy; exact ⟨this.1, this.2.1⟩
theorem rest_reads {p : Place} (h : placeOk p = true) (hd : restTx p ≠ [46]) : (cutAt 44 (restTx p)).map (readC p.people) = p.story.map some := by
  obtain ⟨_, _, _, h4⟩ := placeOk_all h
  have hs : p.story ≠ [] := fun e => hd ((restTx_dot h).2 e)
  unfold restTx
  rw [if_neg hs]
  exact story_reads hs h4
theorem digit_inj {a b : Int} (ha : 1 ≤ a) (ha4 : a ≤ 4) (hb : 1 ≤ b) (hb4 : b ≤ 4) (h : UInt8.ofNat (48 + a.toNat) = UInt8.ofNat (48 + b.toNat)) : a = b := by
  have := congrArg UInt8.toNat h
  rw [UInt8.toNat_ofNat', UInt8.toNat_ofNat'] at this; omega
theorem map_some_inj {l m : List Claim} (h : l.map some = m.map some) : l = m := by
  have := congrArg (List.filterMap id) h
  simpa [List.filterMap_map] using this
theorem placeTx_inj {p q : Place} (hp : placeOk p = true) (hq : placeOk q = true) (h : placeTx p = placeTx q) : p = q := by
  rw [placeTx_shape hp, placeTx_shape hq] at h
  obtain ⟨a1, a2, _, _⟩ := placeOk_all hp
  obtain ⟨b1, b2, _, _⟩ := placeOk_all hq
  have h1 := (List.cons.inj h).1
  have h2 := (List.cons.inj (List.cons.inj h).2).2
  have e1 := digit_inj a1 a2 b1 b2 h1
  have e2 : p.story = q.story := by
    by_cases hd : restTx p = [46]
    · rw [(restTx_dot hp).1 hd, (restTx_dot hq).1 (by rw [← h2]; exact hd)]
    · have r1 := rest_reads hp hd
      have r2 := rest_reads hq (by rw [← h2]; exact hd)
      rw [← h2, ← e1, r1] at r2
      exact map_some_inj r2
  obtain ⟨pp, ps⟩ := p
  obtain ⟨qp, qs⟩ := q
  simp only at e1 e2
  rw [e1, e2]
theorem placeTx_pos {p : Place} (h : placeOk p = true) : placeTx p ≠ [] := by rw [placeTx_shape h]; simp
theorem placeTx_ok {p : Place} (h : placeTx p ≠ []) : placeOk p = true := by
  have hk := ft (placeOk p)
  rcases hk with hk | hk
  · exact absurd (placeTx_no hk) h
  · exact hk
/-- What ReadPlace finds. -/
noncomputable def readP (s : List UInt8) : Option Place := by
  classical exact if h : ∃ p, placeOk p = true ∧ placeTx p = s then some (Classical.choose h) else none
theorem readP_some {s : List UInt8} {p : Place} (h : placeOk p = true) (hs : placeTx p = s) : readP s = some p := by
  have hx : ∃ p, placeOk p = true ∧ placeTx p = s := ⟨p, h, hs⟩
  unfold readP; rw [dif_pos hx]
  have := Classical.choose_spec hx
  exact congrArg some (placeTx_inj this.1 h (by rw [this.2, hs]))
theorem readP_is {s : List UInt8} {p : Place} (h : readP s = some p) : placeOk p = true ∧ placeTx p = s := by
  unfold readP at h
  split at h
  · rename_i hx; cases h; exact Classical.choose_spec hx
  · cases h
theorem readP_none {s : List UInt8} (h : ∀ p, placeOk p = true → placeTx p ≠ s) : readP s = none := by
  unfold readP; rw [dif_neg]; rintro ⟨p, h1, h2⟩; exact h p h1 h2
/-- How a text falls apart. -/
def parts (s : List UInt8) (D : Int) (rest : List UInt8) : Prop := s ≠ [] ∧ ∀ p, placeOk p = true → placeTx p = s → D = p.people ∧ rest = restTx p
theorem readP_piece {s rest : List UInt8} {D : Int} (h : parts s D rest) (hd : rest ≠ [46]) (x : List UInt8) (hx : x ∈ cutAt 44 rest) (hn : readC D x = none) : readP s = none := by
  refine readP_none fun p hp hs => ?_
  obtain ⟨rfl, rfl⟩ := h.2 p hp hs
  have := rest_reads hp hd
  have hm : readC p.people x ∈ (cutAt 44 (restTx p)).map (readC p.people) := List.mem_map_of_mem hx
  rw [this, hn] at hm
  simp at hm
theorem readP_end {s rest : List UInt8} {D : Int} {l : List Claim} (h : parts s D rest) (hl : rest = [46] ∧ l = [] ∨ rest ≠ [46] ∧ (cutAt 44 rest).map (readC D) = l.map some) :
    readP s = if placeTx ⟨D, l⟩ = s then some ⟨D, l⟩ else none := by
  split
  · rename_i hs
    exact readP_some (placeTx_ok (by rw [hs]; exact h.1)) hs
  · rename_i hne
    refine readP_none fun p hp hs => hne ?_
    obtain ⟨rfl, rfl⟩ := h.2 p hp hs
    have e : p.story = l := by
      rcases hl with ⟨h1, h2⟩ | ⟨h1, h2⟩
      · rw [h2]; exact (restTx_dot hp).1 h1
      · rw [rest_reads hp h1] at h2; exact map_some_inj h2
    rw [← e]; exact hs
theorem parts_one {a : UInt8} {rest : List UInt8} : parts (a :: 32 :: rest) ((a.toNat : Int) - 48) rest := ⟨by simp, fun p hp hs => by
  obtain ⟨h1, h2, _, _⟩ := placeOk_all hp
  rw [placeTx_shape hp] at hs
  have e1 := (List.cons.inj hs).1
  have e2 := (List.cons.inj (List.cons.inj hs).2).2
  refine ⟨?_, e2.symm⟩
  have := congrArg UInt8.toNat e1
  rw [UInt8.toNat_ofNat'] at this; omega⟩
theorem last_in {p w s : List UInt8} {c : UInt8} (hw : w ≠ []) (h : p ++ w = s ++ [c]) : c ∈ w := by
  have h1 := congrArg List.getLast? h
  rw [List.getLast?_append, List.getLast?_append] at h1
  cases e : w.getLast? with
  | none => exact absurd (List.getLast?_eq_none_iff.1 e) hw
  | some y =>
    rw [e] at h1
    simp at h1
    rw [← h1]; exact List.mem_of_getLast? e
/-- With a further sign behind it, that no place has at its end. -/
theorem readP_more {s : List UInt8} {c : UInt8} (hc : c = 32 ∨ c = 10) : readP (s ++ [c]) = none := readP_none fun p hp hs => by
  rw [placeTx_shape hp] at hs
  have h1 : [UInt8.ofNat (48 + p.people.toNat), 32] ++ restTx p = s ++ [c] := hs
  have := restTx_plain hp c (last_in (restTx_pos hp) h1)
  rcases hc with rfl | rfl
  · exact this.1 rfl
  · exact this.2 rfl
end TL

/- The library's functions, off the shelf: texts split. -/
set_option linter.unusedSimpArgs false
set_option linter.unusedVariables false
set_option maxRecDepth 100000
namespace TL
open Go Go.Proofs Go.RowKit
section
variable {P : Program}
theorem strs_new {Z : Zs} {w : World} : ∀ (bs : List ByteArray), RepEs Z w 1 ((bs.map (·.data.toList)).map V.str) (bs.map Value.string)
  | [] => .nil 1
  | b :: bs => .one rfl (.str rfl) (strs_new bs)
theorem strs_alloc {Z : Zs} {w : World} (bs : List ByteArray) (t : TypeId) (hl : bs.length ≤ maxLen) :
    RepV (freshZ Z w.heap.size (w.alloc (.cells (bs.map Value.string).toArray t)).heap.size) (w.alloc (.cells (bs.map Value.string).toArray t)) (.sl ((bs.map (·.data.toList)).map V.str)) (.slice (some ⟨w.heap.size, 0, none⟩) bs.length bs.length) := by
  refine .sl (strs_new bs) (by simp) (Nat.le_refl _) hl fun i u hu => ?_
  rw [add_lit]
  refine ⟨?_, .inr ⟨Nat.le_refl _, ?_⟩⟩
  · rw [World.cell?_alloc_new]
    simpa using hu
  · show w.heap.size < (w.heap.push _).size
    simp
theorem split_FnZ {ρ : Go.Shelf.Ren} (L : Go.Proofs.Lays.n146 P ρ) (hi9 : (P.info? (ρ.t 9)).map (fun i => (i.zero, i.size, i.bytes)) = some (some (.string ByteArray.empty), 1, 16)) (hf : ∃ fn, P.funcs[ρ.f 146]? = some fn ∧ (fn.name == "runtime.NumGoroutine") = false ∧ fn.body.isNone = false)
    (hg : P.globalNamed "internal/bytealg.MaxLen" = some (ρ.g 1)) (s : List UInt8) (c : UInt8) (hs : s.length < 4294967281) : FnZ P (ρ.f 146) [.str s, .str [c]] (.sl ((cutAt c s).map V.str)) := by
  refine FnZ_calls hf fun Z w vs hz hv => ?_
  cases hv with | cons h1 hv => cases hv with | cons h2 hv => cases hv with | nil =>
    cases h1 with
    | @str _ b hb =>
      cases h2 with
      | @str _ bsep hb2 =>
        have hq : GQ P (ρ.g 1) (fun v => ∃ m, v = .int .i64 m) := GQ.maxLen hg
        obtain ⟨_, v, hc, m, rfl⟩ := hz.gl _ _ hq
        have hsz : b.size = s.length := by rw [← hb]; rfl
        have hsz2 : bsep.size = 1 := by have := congrArg List.length hb2; simpa using this
        have e1 : (Go.Lib.splitB bsep 0 (Go.Lib.countB b bsep) b).map (·.data.toList) = cutAt c s := by
          rw [Go.Lib.splitB_data]
          show Go.Lib.splitK bsep.data.toList 0 (Go.Lib.count b.data.toList bsep.data.toList) b.data.toList = _
          rw [hb, hb2]; exact split_is_cut c s
        have hlen := Go.Lib.splitB_all bsep (by omega) 0 _ b rfl
        have hle := cutAt_len c s
        have hlen2 : (Go.Lib.splitB bsep 0 (Go.Lib.countB b bsep) b).length = (cutAt c s).length := by rw [← e1, List.length_map]
        refine calls_mono (Any.strings_Split L hi9 b bsep m w (by omega) hc (by omega)) ?_
        rintro e w' ⟨rfl, rfl⟩
        refine ⟨_, rfl, (Below.refl _ _).alloc (Nat.le_refl _) _, ?_⟩
        rw [← hlen, ← e1]
        exact strs_alloc _ _ (by rw [hlen2]; simp only [maxLen]; omega)
end
theorem split_fn (s : List UInt8) (c : UInt8) (hs : s.length < 4294967281) : FnZ Tryz.prog 83 [.str s, .str [c]] (.sl ((cutAt c s).map V.str)) :=
  split_FnZ Tryz.lays146 (by kernel_rfl) ⟨_, Tryz.func83, rfl, rfl⟩ (by kernel_rfl) s c hs
end TL

/- Reading places: the program. -/
set_option linter.unusedSimpArgs false
set_option linter.unusedVariables false
set_option maxRecDepth 100000
set_option maxHeartbeats 4000000
set_option pp.maxSteps 1500
namespace TL
open Go Go.Proofs
attribute [local simp] marksV storyV codeV Claim.v Place.v
def optP (o : Option Place) : V := .tup [(o.getD ⟨0, []⟩).v, .bool o.isSome]
theorem readP_short {s : List UInt8} (h : s.length < 3) : readP s = none := readP_none fun p hp hs => by
  rw [placeTx_shape hp] at hs
  have := restTx_pos hp
  have h1 := List.length_pos_iff.2 this
  rw [← hs] at h; simp only [List.length_cons] at h; omega
theorem readP_blank {a b : UInt8} {s : List UInt8} (h : b ≠ 32) : readP (a :: b :: s) = none := readP_none fun p hp hs => by
  rw [placeTx_shape hp] at hs
  exact h (List.cons.inj (List.cons.inj hs).2).1.symm
theorem reads_next {D : Int} {ps : List (List UInt8)} {i : Nat} {l : List Claim} {c : Claim} (hi : i < ps.length) (h : (ps.take i).map (readC D) = l.map some) (hc : readC D ps[i] = some c) : (ps.take (i + 1)).map (readC D) = (l ++ [c]).map some := by
  rw [List.take_succ_eq_append_getElem hi, List.map_append, List.map_append, h]
  simp [hc]
theorem reads_len {D : Int} {ps : List (List UInt8)} {i : Nat} {l : List Claim} (h : (ps.take i).map (readC D) = l.map some) : l.length ≤ i := by
  have := congrArg List.length h
  rw [List.length_map, List.length_map, List.length_take] at this; omega
def Irp (s rest : List UInt8) (D : Int) (e : Nat) (x : S) : Prop := ∃ (i : Nat) (l : List Claim) (row : T), x.tm 0 = .v (.str s) ∧ x.tm 2 = .ptr 0 0 ∧ x.m 0 = some (.box 48 2 [.v (.int .i64 0), .nil]) ∧ x.tm 4 = .ptr 1 0 ∧
  x.m 1 = some (.box 48 2 [.v (.int .i64 D), row]) ∧ (row = .nil ∧ l = [] ∨ ∃ id, row = .loc id ∧ 1 < id ∧ id < x.n ∧ x.m id = some (.arr 89 (l.map Claim.v))) ∧
  x.tm 28 = .v (.sl ((cutAt 44 rest).map V.str)) ∧ x.tm 29 = .v (.int .i64 (cutAt 44 rest).length) ∧ x.tm 30 = .v (.int .i64 i) ∧ x.mu = false ∧ 1 < x.n ∧ i ≤ (cutAt 44 rest).length ∧ ((cutAt 44 rest).take i).map (readC D) = l.map some ∧ (e = 1 → i = (cutAt 44 rest).length)
theorem readPlace_fn (s : List UInt8) (hl : s.length ≤ 2000000000) : FnZ Tryz.prog 52 [.str s] (optP (readP s)) := by
  by_cases h3 : s.length < 3
  · have h3' : (s.length : Int) < 3 := by omega
    rw [readP_short h3]
    refine FnZ_of (rs := [.cell 2 48, .tmp 3]) false Tryz.func52 rfl rfl rfl rfl (Nat.le_of_ble_eq_true rfl) ?_
    simp -dsimp [h3, h3', optP]
  match s, h3, hl with
  | [], h3, hl => simp at h3
  | [a], h3, hl => simp at h3
  | a :: b :: rest, h3, hl =>
    have h3' : ¬ ((rest.length : Int) + 1 + 1 < 3) := by simp at h3; omega
    have hls : rest.length ≤ 2000000000 := by simp at hl; omega
    have l2 : (2 : Int) ≤ (rest.length : Int) + 1 + 1 := by omega
    have l3 : ((rest.length : Int) + 1 + 1).toNat = rest.length + 1 + 1 := by omega
    have l4 : (0 : Int) < (rest.length : Int) + 1 + 1 := by omega
    have l5 : (1 : Int) < (rest.length : Int) + 1 + 1 := by omega
    by_cases hb : b = 32
    case neg =>
      have hb' : ¬ (b.toNat : Int) = 32 := fun h => hb (UInt8.toNat.inj (by show b.toNat = 32; omega))
      rw [readP_blank hb]
      refine FnZ_of (rs := [.cell 2 48, .tmp 3]) false Tryz.func52 rfl rfl rfl rfl (Nat.le_of_ble_eq_true rfl) ?_
      simp -dsimp [h3', l4, l5, hb', optP]
    subst hb
    have hlt := UInt8.toNat_lt a
    have w1 : IntKind.wrap .i64 ((a.toNat : Int) - 48) = (a.toNat : Int) - 48 := w64 (by omega) (by omega)
    have w2 : IntKind.wrap .i64 (a.toNat : Int) = (a.toNat : Int) := w64 (by omega) (by omega)
    have hpt := parts_one (a := a) (rest := rest)
    have hsl : (a :: 32 :: rest).length = rest.length + 1 + 1 := rfl
    generalize hD : (a.toNat : Int) - 48 = D at *
    by_cases hd : rest = [46]
    · have he := readP_end (l := []) hpt (.inl ⟨hd, rfl⟩)
      have hT := placeText_fn ⟨D, []⟩ (by simp)
      rw [he]
      subst hd
      clear he hpt
      generalize placeTx ⟨D, []⟩ = tx at *
      refine FnZ_of (rs := [.cell 2 48, .tmp 3]) false Tryz.func52 rfl rfl rfl rfl (Nat.le_of_ble_eq_true rfl) ?_
      by_cases hx : tx = [a, 32, 46]
      · simp -dsimp [w1, w2, hD]
        refine call_ hT (by simp -dsimp) ?_
        simp -dsimp [hx, optP]
      · simp -dsimp [w1, w2, hD]
        refine call_ hT (by simp -dsimp) ?_
        simp -dsimp [hx, optP]
    have hsp := split_fn rest 44 (by omega)
    refine FnZ_of (rs := [.cell 2 48, .tmp 3]) false Tryz.func52 rfl rfl rfl rfl (Nat.le_of_ble_eq_true rfl) ?_
    simp -dsimp [h3', l2, l3, l4, l5, w1, w2, hD, hd]
    refine call_ hsp (by simp -dsimp) ?_
    simp -dsimp [h3', l2, l3, l4, l5, w1, w2, hD, hd]
    refine twp_loopC (Irp (a :: 32 :: rest) rest D 0) (fun x => (cutAt 44 rest).length - natOf (x.tm 30)) (Irp (a :: 32 :: rest) rest D 1) ?_ ?_ ?_
    · exact ⟨0, [], .nil, by simp -dsimp, by simp -dsimp, by simp -dsimp, by simp -dsimp, by simp -dsimp, .inl ⟨rfl, rfl⟩, by simp -dsimp, by simp -dsimp, by simp -dsimp, by simp -dsimp, by simp -dsimp, by omega, by simp, by simp⟩
    · rintro x ⟨i, l, row, t0, t2, m0, t4, m1, hrow, t28, t29, t30, hmu, hn, hi, hrd, hend⟩
      by_cases hlt : i < (cutAt 44 rest).length
      case neg =>
        simp -dsimp [t29, t30, hlt]
        exact ⟨i, l, row, by simp -dsimp [t0], by simp -dsimp [t2], by simp -dsimp [m0], by simp -dsimp [t4], by simp -dsimp [m1], by simpa -dsimp using hrow, by simp -dsimp [t28], by simp -dsimp [t29], by simp -dsimp [t30], by simp -dsimp [hmu], by simp -dsimp [hn], hi, hrd, fun _ => by omega⟩
      have hget : ((cutAt 44 rest).map V.str)[i]? = some (.str (cutAt 44 rest)[i]) := by simp [hlt]
      have wi : IntKind.wrap .i64 ((i : Int) + 1) = ((i + 1 : Nat) : Int) := by
        have := cutAt_len 44 rest
        rw [w64 (by omega) (by omega)]; omega
      have hmu1 : (cutAt 44 rest).length - (i + 1) < (cutAt 44 rest).length - i := by omega
      have hpl := cutAt_piece (List.getElem_mem hlt)
      have hrc := readClaim_fn D (cutAt 44 rest)[i] (by omega)
      have hmem := List.getElem_mem hlt
      have hnx : ∀ c, readC D (cutAt 44 rest)[i] = some c → _ := fun c => reads_next (c := c) hlt hrd
      have hno := readP_piece hpt hd _ hmem
      have hll := reads_len hrd
      have hcl := cutAt_len 44 rest
      have f0 := far (show 0 < x.n by omega)
      have f1 := far hn
      generalize readC D (cutAt 44 rest)[i] = o at *
      cases o with
      | none =>
        rw [hno rfl]
        simp -dsimp [t28, t29, t30, t4, m1, hlt, hget, f1]
        refine call_ hrc (by simp -dsimp) ?_
        simp -dsimp [optC, optP, t2, m0, f0, f1]
      | some c =>
        have hn1 := hnx c rfl
        clear hnx hno
        rcases hrow with ⟨rfl, rfl⟩ | ⟨id, rfl, hid1, hid, hm⟩
        · simp -dsimp [t28, t29, t30, t4, m1, hlt, hget, f1]
          refine call_ hrc (by simp -dsimp) ?_
          simp -dsimp [optC, optP, t2, t4, t30, m0, m1, hmu, f0, f1, wi, hmu1, nes]
          refine st_out fun s' ht hm' hn' hu' => ?_
          have a0 := ht 0
          have a2 := ht 2
          have a4 := ht 4
          have a28 := ht 28
          have a29 := ht 29
          have a30 := ht 30
          simp -dsimp [t0, t2, t4, t28, t29, wi] at a0 a2 a4 a28 a29 a30 hm' hn' hu'
          clear ht
          refine ⟨i + 1, _, .loc (x.n + 1 + 1 + 1), a0, a2, by simp [hm', f0, nes, m0], a4, by simp [hm', f1, nes, m1], .inr ⟨_, rfl, by omega, by omega, ?_⟩, a28, a29, a30, by rw [hu', hmu], by omega, by omega, hn1, by simp⟩
          simp [hm', nes]
        · have f2 := far hid
          have g0 : ¬ id = 0 := by omega
          have g1 : ¬ id = 1 := by omega
          have b1 : (l.length + 1) * 32 ≤ 140737488355328 := by omega
          simp -dsimp [t28, t29, t30, t4, m1, hlt, hget, f1]
          refine call_ hrc (by simp -dsimp) ?_
          simp -dsimp [optC, optP, t2, t4, t30, m0, m1, hm, hmu, f0, f1, f2, b1, wi, hmu1, nes, g0, g1, Ne.symm g0, Ne.symm g1]
          refine st_out fun s' ht hm' hn' hu' => ?_
          have a0 := ht 0
          have a2 := ht 2
          have a4 := ht 4
          have a28 := ht 28
          have a29 := ht 29
          have a30 := ht 30
          simp -dsimp [t0, t2, t4, t28, t29, wi] at a0 a2 a4 a28 a29 a30 hm' hn' hu'
          clear ht
          refine ⟨i + 1, _, .loc (x.n + 1 + 1 + 1), a0, a2, by simp [hm', f0, nes, Ne.symm g0, Ne.symm g1, f0, m0], a4, by simp [hm', f1, nes, Ne.symm g1, f1, m1], .inr ⟨_, rfl, by omega, by omega, ?_⟩, a28, a29, a30, by rw [hu', hmu], by omega, by omega, hn1, by simp⟩
          simp [hm', nes]
    · rintro x ⟨i, l, row, t0, t2, m0, t4, m1, hrow, t28, t29, t30, hmu, hn, hi, hrd, hend⟩
      have hil := hend rfl
      have hll := reads_len hrd
      have hcl := cutAt_len 44 rest
      rw [hil, List.take_length] at hrd
      have he := readP_end hpt (.inr ⟨hd, hrd⟩)
      have hT := placeText_fn ⟨D, l⟩ (by simp only; omega)
      rw [he]
      clear he hpt
      generalize placeTx ⟨D, l⟩ = tx at *
      have f0 := far (show 0 < x.n by omega)
      have f1 := far hn
      rcases hrow with ⟨rfl, rfl⟩ | ⟨id, rfl, hid1, hid, hm⟩
      · by_cases hx : tx = a :: 32 :: rest
        · simp -dsimp [t4, m1, f1]
          refine call_ hT (by simp -dsimp) ?_
          simp -dsimp [t0, t2, t4, m0, m1, hx, optP]
        · simp -dsimp [t4, m1, f1]
          refine call_ hT (by simp -dsimp) ?_
          simp -dsimp [t0, t2, t4, m0, m1, hx, optP]
      · have f2 := far hid
        have g0 : ¬ id = 0 := by omega
        have g1 : ¬ id = 1 := by omega
        by_cases hx : tx = a :: 32 :: rest
        · simp -dsimp [t4, m1, f1]
          refine call_ hT (by simp -dsimp [hm]) ?_
          simp -dsimp [t0, t2, t4, m0, m1, hm, hx, optP, g0, g1, f0, f1, f2]
        · simp -dsimp [t4, m1, f1]
          refine call_ hT (by simp -dsimp [hm]) ?_
          simp -dsimp [t0, t2, t4, m0, m1, hm, hx, optP, g0, g1, f0, f1, f2]
end TL

/- Reading places: the reference. -/
set_option linter.unusedSimpArgs false
set_option linter.unusedVariables false
set_option maxRecDepth 100000
set_option maxHeartbeats 4000000
set_option pp.maxSteps 1500
namespace TL
open Go Go.Proofs
attribute [local simp] marksV storyV codeV Claim.v Place.v
/-! Cutting. -/
def Icut (c : UInt8) (w : List UInt8) (e : Nat) (s : S) : Prop := ∃ (i f id : Nat) (ps : List (List UInt8)), s.tm 0 = .v (.str w) ∧ s.tm 1 = .v (.int .u8 c.toNat) ∧ s.tm 5 = .loc id ∧ id < s.n ∧ s.m id = some (.arr 9 (ps.map V.str)) ∧
  s.tm 6 = .v (.int .i64 f) ∧ s.tm 7 = .v (.int .i64 i) ∧ s.mu = false ∧ f ≤ i ∧ i ≤ w.length ∧ ps.length ≤ i ∧ ps ++ cutGo c ((w.take i).drop f) (w.drop i) = cutAt c w ∧ (e = 1 → i = w.length)
theorem l1Cut_fn (w : List UInt8) (c : UInt8) (hl : w.length ≤ 2000000000) : FnZ Tryz.prog 84 [.str w, .int .u8 c.toNat] (.sl ((cutAt c w).map V.str)) := by
  refine FnZ_of (rs := [.tmp 4]) false Tryz.func84 rfl rfl rfl rfl (Nat.le_of_ble_eq_true rfl) ?_
  simp -dsimp
  refine twp_loopC (Icut c w 0) (fun s => w.length - natOf (s.tm 7)) (Icut c w 1) ?_ ?_ ?_
  · exact ⟨0, 0, 0, [], by simp -dsimp, by simp -dsimp, by simp -dsimp, by simp -dsimp, by simp -dsimp, by simp -dsimp, by simp -dsimp, by simp -dsimp, by omega, by omega, by simp, by simp [cutAt], by simp⟩
  · rintro s ⟨i, f, id, ps, t0, t1, t5, hid, hm, t6, t7, hmu, hf, hi, hps, hcut, hend⟩
    by_cases hlt : i < w.length
    case neg =>
      simp -dsimp [t0, t7, hlt]
      exact ⟨i, f, id, ps, by simp -dsimp [t0], by simp -dsimp [t1], by simp -dsimp [t5], by simp -dsimp [hid], by simp -dsimp [hm], by simp -dsimp [t6], by simp -dsimp [t7], by simp -dsimp [hmu], hf, hi, hps, hcut, fun _ => by omega⟩
    have hget : w[i]? = some w[i] := by simp [hlt]
    have wi : IntKind.wrap .i64 ((i : Int) + 1) = ((i + 1 : Nat) : Int) := by rw [w64 (by omega) (by omega)]; omega
    have hmu1 : w.length - (i + 1) < w.length - i := by omega
    have f1 := far hid
    have b1 : (ps.length + 1) * 16 ≤ 140737488355328 := by omega
    have b2 : (f : Int) ≤ i := by omega
    have b3 : (i : Int) ≤ w.length := by omega
    rw [List.drop_eq_getElem_cons hlt] at hcut
    by_cases hc : w[i] = c
    · have hn : (ps ++ [(w.take i).drop f]) ++ cutGo c ((w.take (i + 1)).drop (i + 1)) (w.drop (i + 1)) = cutAt c w := by
        rw [← hcut]
        have e1 : cutGo c ((w.take i).drop f) (w[i] :: w.drop (i + 1)) = (w.take i).drop f :: cutGo c [] (w.drop (i + 1)) := by
          show (if w[i] = c then _ else _) = _
          rw [if_pos hc]
        have e2 : (w.take (i + 1)).drop (i + 1) = [] := List.drop_eq_nil_of_le (by rw [List.length_take]; omega)
        rw [e1, e2]; simp
      have f0 : ¬ id = s.n + 1 := by omega
      simp -dsimp [t0, t1, t5, t6, t7, hlt, hget, hc, hf, hi, hm, hmu, b1, wi, hmu1, f1, nes]
      refine st_out fun s' ht hm' hn' hu' => ?_
      have a0 := ht 0
      have a1 := ht 1
      have a5 := ht 5
      have a6 := ht 6
      have a7 := ht 7
      simp -dsimp [t0, t1, t5, t7, wi, hc] at a0 a1 a5 a6 a7 hm' hn' hu'
      clear ht
      refine ⟨i + 1, i + 1, _, ps ++ [(w.take i).drop f], a0, a1, a5, by omega, ?_, a6, a7, by rw [hu', hmu], by omega, by omega, by simp; omega, hn, by simp⟩
      simp [hm', nes]
    · have hc' : ¬ (w[i].toNat : Int) = c.toNat := fun h => hc (UInt8.toNat.inj (by omega))
      have hn : ps ++ cutGo c ((w.take (i + 1)).drop f) (w.drop (i + 1)) = cutAt c w := by
        rw [← hcut]
        have e1 : cutGo c ((w.take i).drop f) (w[i] :: w.drop (i + 1)) = cutGo c ((w.take i).drop f ++ [w[i]]) (w.drop (i + 1)) := by
          show (if w[i] = c then _ else _) = _
          rw [if_neg hc]
        have e2 : (w.take (i + 1)).drop f = (w.take i).drop f ++ [w[i]] := by
          rw [List.take_succ_eq_append_getElem hlt, List.drop_append_of_le_length (by rw [List.length_take]; omega)]
        rw [e1, e2]
      simp -dsimp [t0, t1, t5, t6, t7, hlt, hget, hc, hc', wi, hmu1]
      exact ⟨i + 1, f, id, ps, by simp -dsimp [t0], by simp -dsimp [t1], by simp -dsimp [t5], by simp -dsimp [hid], by simp -dsimp [hm], by simp -dsimp [t6], by simp -dsimp, by simp -dsimp [hmu], by omega, by omega, by omega, hn, by simp⟩
  · rintro s ⟨i, f, id, ps, t0, t1, t5, hid, hm, t6, t7, hmu, hf, hi, hps, hcut, hend⟩
    have hil := hend rfl
    subst hil
    have f1 := far hid
    have b1 : (ps.length + 1) * 16 ≤ 140737488355328 := by omega
    have b2 : (f : Int) ≤ w.length := by omega
    rw [List.take_length, List.drop_length] at hcut
    have hcut : ps ++ [w.drop f] = cutAt c w := hcut
    rw [← hcut]
    simp -dsimp [t0, t5, t6, b1, b2, hm, hmu, f1, nes]
end TL

/- Numbers read: the reference. -/
set_option linter.unusedSimpArgs false
set_option linter.unusedVariables false
set_option maxRecDepth 100000
set_option maxHeartbeats 4000000
set_option pp.maxSteps 1500
namespace TL
open Go Go.Proofs
attribute [local simp] marksV storyV codeV Claim.v Place.v
/-! Numbers. -/
def digGo : Nat → List UInt8 → Int
  | acc, [] => acc
  | acc, c :: r => if c.toNat < 48 ∨ 57 < c.toNat then -1 else digGo (10 * acc + (c.toNat - 48)) r
def digS (s : List UInt8) : Int := if (1 ≤ s.length ∧ s.length ≤ 6) ∧ ¬ (1 < s.length ∧ s.head? = some 48) then digGo 0 s else -1
def Idig (w : List UInt8) (e : Nat) (s : S) : Prop := ∃ i acc : Nat, s.tm 0 = .v (.str w) ∧ s.tm 3 = .v (.int .i64 acc) ∧ s.tm 4 = .v (.int .i64 i) ∧ i ≤ w.length ∧ acc < 10 ^ i ∧ digGo acc (w.drop i) = digGo 0 w ∧ (e = 1 → i = w.length)
theorem l1Digits_fn (w : List UInt8) (hl : w.length ≤ 2000000000) : FnZ Tryz.prog 85 [.str w] (.int .i64 (digS w)) := by
  have hin := l1In_z w.length 1 6
  by_cases h1 : 1 ≤ w.length ∧ w.length ≤ 6
  case neg =>
    have e : digS w = -1 := by unfold digS; rw [if_neg fun h => h1 h.1]
    have e2 : (decide ((1 : Int) ≤ w.length) && decide ((w.length : Int) ≤ 6)) = false := by
      rw [Bool.and_eq_false_iff]; simp only [decide_eq_false_iff_not]; omega
    rw [e2] at hin
    rw [e]
    refine FnZ_of (rs := [.tmp 2]) false Tryz.func85 rfl rfl rfl rfl (Nat.le_of_ble_eq_true rfl) ?_
    simp -dsimp
    refine call_ hin (by simp -dsimp) ?_
    simp -dsimp
  have e2 : (decide ((1 : Int) ≤ w.length) && decide ((w.length : Int) ≤ 6)) = true := by
    rw [Bool.and_eq_true, decide_eq_true_eq, decide_eq_true_eq]; omega
  rw [e2] at hin
  by_cases h2 : 1 < w.length ∧ w.head? = some 48
  · have e : digS w = -1 := by unfold digS; rw [if_neg fun h => h.2 h2]
    match w, h2 with
    | c :: r, h2 =>
      have hc : c = 48 := by simpa using h2.2
      subst hc
      have l1 : (1 : Int) < (r.length : Int) + 1 := by have := h2.1; simp only [List.length_cons] at this; omega
      have l2 : 0 < r.length := by omega
      rw [e]
      refine FnZ_of (rs := [.tmp 2]) false Tryz.func85 rfl rfl rfl rfl (Nat.le_of_ble_eq_true rfl) ?_
      simp -dsimp
      refine call_ hin (by simp -dsimp) ?_
      simp -dsimp [l1, l2]
  have e : digS w = digGo 0 w := by unfold digS; rw [if_pos ⟨h1, h2⟩]
  rw [e]
  have h6 : w.length ≤ 6 := h1.2
  refine FnZ_of (rs := [.tmp 2]) false Tryz.func85 rfl rfl rfl rfl (Nat.le_of_ble_eq_true rfl) ?_
  simp -dsimp
  refine call_ hin (by simp -dsimp) ?_
  by_cases hl1 : 1 < w.length
  case' pos =>
    have l1 : (1 : Int) < w.length := by omega
    have l0 : 0 < w.length := by omega
    have hc : ¬ w[0] = 48 := fun h => h2 ⟨hl1, by rw [List.head?_eq_getElem?, List.getElem?_eq_getElem l0, h]⟩
    have hc2 : ¬ (w[0].toNat : Int) = 48 := fun h => hc (UInt8.toNat.inj (by show w[0].toNat = 48; omega))
    simp -dsimp [l1, l0, hc2, hl1]
  case' neg =>
    have l1 : ¬ (1 : Int) < w.length := by omega
    simp -dsimp [l1, hl1]
  all_goals
      clear l1 h1 h2 hin hl hl1 e e2
      refine twp_loopC (Idig w 0) (fun s => w.length - natOf (s.tm 4)) (Idig w 1) ?_ ?_ ?_
      · exact ⟨0, 0, by simp -dsimp, by simp -dsimp, by simp -dsimp, by omega, by simp, by simp, by simp⟩
      · rintro s ⟨i, acc, t0, t3, t4, hi, hac, hd, hend⟩
        by_cases hlt : i < w.length
        case neg =>
          simp -dsimp [t0, t4, hlt]
          exact ⟨i, acc, by simp -dsimp [t0], by simp -dsimp [t3], by simp -dsimp [t4], hi, hac, hd, fun _ => by omega⟩
        have hget : w[i]? = some w[i] := by simp [hlt]
        have wi : IntKind.wrap .i64 ((i : Int) + 1) = ((i + 1 : Nat) : Int) := by rw [w64 (by omega) (by omega)]; omega
        have hmu1 : w.length - (i + 1) < w.length - i := by omega
        have hp : 10 ^ i ≤ 10 ^ 6 := Nat.pow_le_pow_right (by omega) (by omega)
        have hp6 : (10 : Nat) ^ 6 = 1000000 := rfl
        have hps : 10 ^ (i + 1) = 10 * 10 ^ i := by rw [Nat.pow_succ]; omega
        have hb := UInt8.toNat_lt w[i]
        rw [List.drop_eq_getElem_cons hlt] at hd
        have hd : (if w[i].toNat < 48 ∨ 57 < w[i].toNat then -1 else digGo (10 * acc + (w[i].toNat - 48)) (w.drop (i + 1))) = digGo 0 w := hd
        by_cases hlo : w[i].toNat < 48
        · have hlo' : (w[i].toNat : Int) < 48 := by omega
          rw [if_pos (.inl hlo)] at hd
          rw [← hd]
          simp -dsimp [t0, t4, hlt, hget, hlo, hlo']
        by_cases hhi : 57 < w[i].toNat
        · have hlo' : ¬ (w[i].toNat : Int) < 48 := by omega
          have hhi' : (57 : Int) < (w[i].toNat : Int) := by omega
          rw [if_pos (.inr hhi)] at hd
          rw [← hd]
          simp -dsimp [t0, t4, hlt, hget, hlo, hlo', hhi, hhi']
        · have hlo' : ¬ (w[i].toNat : Int) < 48 := by omega
          have hhi' : ¬ (57 : Int) < (w[i].toNat : Int) := by omega
          rw [if_neg (by omega)] at hd
          have w1 : IntKind.wrap .i64 (10 * (acc : Int)) = 10 * (acc : Int) := w64 (by omega) (by omega)
          have w2 : IntKind.wrap .u8 ((w[i].toNat : Int) - 48) = (w[i].toNat : Int) - 48 := by rw [IntKind.wrap_u8]; omega
          have w3 : IntKind.wrap .i64 ((w[i].toNat : Int) - 48) = (w[i].toNat : Int) - 48 := w64 (by omega) (by omega)
          have w4 : IntKind.wrap .i64 (10 * (acc : Int) + ((w[i].toNat : Int) - 48)) = ((10 * acc + (w[i].toNat - 48) : Nat) : Int) := by rw [w64 (by omega) (by omega)]; omega
          simp -dsimp [t0, t3, t4, hlt, hget, hlo, hlo', hhi, hhi', w1, w2, w3, w4, wi, hmu1]
          exact ⟨i + 1, 10 * acc + (w[i].toNat - 48), by simp -dsimp [t0], by simp -dsimp, by simp -dsimp, by omega, by omega, hd, by simp⟩
      · rintro s ⟨i, acc, t0, t3, t4, hi, hac, hd, hend⟩
        have hil := hend rfl
        rw [hil, List.drop_length] at hd
        rw [← hd]
        simp -dsimp [t3, digGo]
end TL

/- Deeds read: the plain part. -/
set_option linter.unusedSimpArgs false
set_option linter.unusedVariables false
set_option maxRecDepth 100000
namespace TL
open Go Go.Proofs
/-! Small numbers in figures. -/
open Go.Lib in
def atoiV (s : List UInt8) : Int := match atoiAll s with
  | .ok v => v
  | .range => atoiSat s
  | _ => 0
def goodDec (n : Nat) (l : List UInt8) : Bool := decide (digS l = (n : Int)) && decide (Go.Lib.atoiAll l = .ok (n : Int)) && l.all fun y => decide (y ≠ 32) && decide (y ≠ 10)
theorem good_one : ∀ n : Fin 10, goodDec n.val [UInt8.ofNat (48 + n.val)] = true := by decide +kernel
theorem good_two : ∀ n : Fin 100, ¬ n.val < 10 → goodDec n.val [UInt8.ofNat (48 + n.val / 10), UInt8.ofNat (48 + n.val % 10)] = true := by decide +kernel
theorem good_dec {n : Int} (h0 : 0 ≤ n) (h : n ≤ 99) : digS (dec n) = n ∧ Go.Lib.atoiAll (dec n) = .ok n ∧ ∀ y ∈ dec n, y ≠ 32 ∧ y ≠ 10 := by
  have e : ((n.toNat : Nat) : Int) = n := by omega
  have hg : goodDec n.toNat (dec n) = true := by
    unfold dec
    by_cases h1 : n.toNat < 10
    · rw [Go.Lib.decDigits_one h1]; exact good_one ⟨n.toNat, h1⟩
    · rw [Go.Lib.decDigits_two h1 (by omega)]; exact good_two ⟨n.toNat, by omega⟩ h1
  simp only [goodDec, Bool.and_eq_true, decide_eq_true_eq, List.all_eq_true, e] at hg
  exact ⟨hg.1.1, hg.1.2, hg.2⟩
theorem atoiV_dec {n : Int} (h0 : 0 ≤ n) (h : n ≤ 99) : atoiV (dec n) = n := by
  unfold atoiV; rw [(good_dec h0 h).2.1]
theorem dec_inj {a b : Int} (ha : 0 ≤ a) (ha9 : a ≤ 99) (hb : 0 ≤ b) (hb9 : b ≤ 99) (h : dec a = dec b) : a = b := by
  rw [← atoiV_dec ha ha9, ← atoiV_dec hb hb9, h]
/-! What deeds have a text. -/
theorem deed_cases {a : Deed} (h : deedTx a ≠ []) :
    (∃ w, a = ⟨0, 0, w⟩ ∧ (∃ c, readC 4 w = some c) ∧ deedTx a = txSay ++ w) ∨ (∃ n, 0 ≤ n ∧ n ≤ 99 ∧ a = ⟨1, n, []⟩ ∧ deedTx a = txDrop ++ dec n) ∨ (∃ n, 0 ≤ n ∧ n ≤ 99 ∧ a = ⟨2, n, []⟩ ∧ deedTx a = txPeople ++ dec n) ∨
    (a = ⟨3, 0, []⟩ ∧ deedTx a = txLeast) ∨ (a = ⟨4, 0, []⟩ ∧ deedTx a = txBack) := by
  obtain ⟨k, n, w⟩ := a
  unfold deedTx at h ⊢
  simp only at h ⊢
  split at h
  · rename_i h1
    obtain ⟨rfl, rfl, h3⟩ := h1
    refine .inl ⟨w, rfl, ?_, by rw [if_pos ⟨rfl, rfl, h3⟩]⟩
    cases e : readC 4 w with
    | none => rw [e] at h3; cases h3
    | some c => exact ⟨c, rfl⟩
  rename_i h1
  rw [if_neg h1]
  split at h
  · exact absurd rfl h
  rename_i h2
  rw [if_neg h2]
  have hw : w = [] := by
    cases w with
    | nil => rfl
    | cons x w => exact absurd (.inl (by simp)) h2
  have h0 : 0 ≤ n := by
    rcases Int.lt_or_le n 0 with h | h
    · exact absurd (.inr (.inl h)) h2
    · exact h
  have h9 : n ≤ 99 := by
    rcases Int.lt_or_le 99 n with h | h
    · exact absurd (.inr (.inr h)) h2
    · exact h
  subst hw
  split at h
  · rename_i h3; subst h3; exact .inr (.inl ⟨n, h0, h9, rfl, if_pos rfl⟩)
  rename_i h3
  split at h
  · rename_i h4; subst h4; exact .inr (.inr (.inl ⟨n, h0, h9, rfl, by rw [if_neg h3, if_pos rfl]⟩))
  rename_i h4
  split at h
  · rename_i h5; obtain ⟨rfl, rfl⟩ := h5; exact .inr (.inr (.inr (.inl ⟨rfl, by rw [if_neg h3, if_neg h4, if_pos ⟨rfl, rfl⟩]⟩)))
  rename_i h5
  split at h
  · rename_i h6; obtain ⟨rfl, rfl⟩ := h6; exact .inr (.inr (.inr (.inr ⟨rfl, by rw [if_neg h3, if_neg h4, if_neg h5, if_pos ⟨rfl, rfl⟩]⟩)))
  · exact absurd rfl h
theorem readC_clean {people : Int} {w : List UInt8} {c : Claim} (h : readC people w = some c) : ∀ y ∈ w, y ≠ 32 ∧ y ≠ 10 := by
  obtain ⟨h1, h2⟩ := readC_is h
  intro y hy
  rw [← h2] at hy
  have := claimTx_clean h1 y hy
  exact ⟨this.2.1, this.2.2.1⟩
/-! A text's first word, and what stands behind it. -/
theorem cut_clean {c : UInt8} {s : List UInt8} (h : ∀ y ∈ s, y ≠ c) : Go.Lib.cut s [c] = (s, [], false) := by
  unfold Go.Lib.cut; rw [index_clean h]; rfl
theorem cut_at {c : UInt8} {x r : List UInt8} (h : ∀ y ∈ x, y ≠ c) : Go.Lib.cut (x ++ c :: r) [c] = (x, r, true) := by
  unfold Go.Lib.cut
  rw [index_at h, if_pos (by omega)]
  have e1 : ((x.length : Nat) : Int).toNat = x.length := by omega
  rw [e1, List.take_left]
  congr 2
  rw [List.drop_append, List.drop_of_length_le (by simp)]; simp
def deedW (w r : List UInt8) : Option Deed :=
  if w = [115, 97, 121] then some ⟨0, 0, r⟩ else if w = [100, 114, 111, 112] then some ⟨1, atoiV r, []⟩ else if w = [112, 101, 111, 112, 108, 101] then some ⟨2, atoiV r, []⟩
  else if w = [108, 101, 97, 115, 116] then some ⟨3, 0, []⟩ else if w = [98, 97, 99, 107] then some ⟨4, 0, []⟩ else none
def deedI (s : List UInt8) : Option Deed := deedW (Go.Lib.cut s [32]).1 (Go.Lib.cut s [32]).2.1
theorem deedI_of {a : Deed} (h : deedTx a ≠ []) : deedI (deedTx a) = some a := by
  unfold deedI
  rcases deed_cases h with ⟨w, rfl, ⟨c, hc⟩, e⟩ | ⟨n, h0, h9, rfl, e⟩ | ⟨n, h0, h9, rfl, e⟩ | ⟨rfl, e⟩ | ⟨rfl, e⟩
  · have := cut_at (c := 32) (x := [115, 97, 121]) (r := w) (by decide)
    rw [e]
    show deedW (Go.Lib.cut ([115, 97, 121] ++ 32 :: w) [32]).1 _ = _
    have e2 : txSay ++ w = [115, 97, 121] ++ 32 :: w := rfl
    rw [e2, this]; rfl
  · have := cut_at (c := 32) (x := [100, 114, 111, 112]) (r := dec n) (by decide)
    have e2 : txDrop ++ dec n = [100, 114, 111, 112] ++ 32 :: dec n := rfl
    rw [e, e2, this]
    show some (⟨1, atoiV (dec n), []⟩ : Deed) = _
    rw [atoiV_dec h0 h9]
  · have := cut_at (c := 32) (x := [112, 101, 111, 112, 108, 101]) (r := dec n) (by decide)
    have e2 : txPeople ++ dec n = [112, 101, 111, 112, 108, 101] ++ 32 :: dec n := rfl
    rw [e, e2, this]
    show some (⟨2, atoiV (dec n), []⟩ : Deed) = _
    rw [atoiV_dec h0 h9]
  · rw [e, cut_clean (by decide)]; rfl
  · rw [e, cut_clean (by decide)]; rfl
theorem deedTx_inj {a b : Deed} (h : deedTx a ≠ []) (e : deedTx a = deedTx b) : a = b := by
  have h1 := deedI_of h
  rw [e, deedI_of (by rw [← e]; exact h)] at h1
  exact (Option.some.inj h1).symm
/-- What ReadDeed finds. -/
noncomputable def readD (s : List UInt8) : Option Deed := by
  classical exact if h : ∃ a, s ≠ [] ∧ deedTx a = s then some (Classical.choose h) else none
theorem readD_some {s : List UInt8} {a : Deed} (h : s ≠ []) (e : deedTx a = s) : readD s = some a := by
  have hx : ∃ a, s ≠ [] ∧ deedTx a = s := ⟨a, h, e⟩
  unfold readD; rw [dif_pos hx]
  have := Classical.choose_spec hx
  exact congrArg some (deedTx_inj (by rw [this.2]; exact h) (by rw [this.2, e]))
theorem readD_is {s : List UInt8} {a : Deed} (h : readD s = some a) : s ≠ [] ∧ deedTx a = s := by
  unfold readD at h
  split at h
  · rename_i hx; cases h; exact Classical.choose_spec hx
  · cases h
theorem readD_none {s : List UInt8} (h : ∀ a, s ≠ [] → deedTx a ≠ s) : readD s = none := by
  unfold readD; rw [dif_neg]; rintro ⟨a, h1, h2⟩; exact h a h1 h2
theorem readD_off {s : List UInt8} (h : deedI s = none) : readD s = none := readD_none fun a h1 h2 => by
  have := deedI_of (a := a) (by rw [h2]; exact h1)
  rw [h2, h] at this; cases this
theorem readD_on {s : List UInt8} {a : Deed} (h : deedI s = some a) (hs : s ≠ []) : readD s = if deedTx a = s then some a else none := by
  split
  · rename_i h1; exact readD_some hs h1
  · rename_i h1
    refine readD_none fun b h2 h3 => h1 ?_
    have := deedI_of (a := b) (by rw [h3]; exact h2)
    rw [h3, h] at this
    rw [Option.some.inj this]; exact h3
/-! The reference's candidates. -/
def deedS (s : List UInt8) : List Deed := [⟨3, 0, []⟩, ⟨4, 0, []⟩] ++ match cutAt 32 s with
  | [_, r] => [⟨0, 0, r⟩, ⟨1, digS r, []⟩, ⟨2, digS r, []⟩]
  | _ => []
theorem cut_word {x r : List UInt8} (hx : ∀ y ∈ x, y ≠ (32 : UInt8)) (hr : ∀ y ∈ r, y ≠ (32 : UInt8)) : cutAt 32 (x ++ 32 :: r) = [x, r] := by
  rw [cutAt_app hx, cutAt_none hr]
theorem deedS_of {a : Deed} (h : deedTx a ≠ []) : a ∈ deedS (deedTx a) := by
  unfold deedS
  rcases deed_cases h with ⟨w, rfl, ⟨c, hc⟩, e⟩ | ⟨n, h0, h9, rfl, e⟩ | ⟨n, h0, h9, rfl, e⟩ | ⟨rfl, e⟩ | ⟨rfl, e⟩
  · have e2 : txSay ++ w = [115, 97, 121] ++ 32 :: w := rfl
    rw [e, e2, cut_word (by decide) fun y hy => (readC_clean hc y hy).1]; simp
  · have e2 : txDrop ++ dec n = [100, 114, 111, 112] ++ 32 :: dec n := rfl
    rw [e, e2, cut_word (by decide) fun y hy => ((good_dec h0 h9).2.2 y hy).1]; simp [(good_dec h0 h9).1]
  · have e2 : txPeople ++ dec n = [112, 101, 111, 112, 108, 101] ++ 32 :: dec n := rfl
    rw [e, e2, cut_word (by decide) fun y hy => ((good_dec h0 h9).2.2 y hy).1]; simp [(good_dec h0 h9).1]
  · simp
  · simp
theorem readD_none' {s : List UInt8} (h : ∀ a ∈ deedS s, s ≠ [] → deedTx a ≠ s) : readD s = none := readD_none fun a h1 h2 => by
  have := deedS_of (a := a) (by rw [h2]; exact h1)
  rw [h2] at this
  exact h a this h1 h2
theorem cutR_len (s : List UInt8) (c : List UInt8) : (Go.Lib.cut s c).2.1.length ≤ s.length := by
  unfold Go.Lib.cut
  split
  · simp
  · simp
theorem cutW_nil {s : List UInt8} (h : (Go.Lib.cut s [32]).1 ≠ []) : s ≠ [] := fun e => by
  rw [e, cut_clean (by simp)] at h; exact h rfl
end TL

/- A drawn term: some row of marks. -/
set_option linter.unusedSimpArgs false
set_option linter.unusedVariables false
set_option maxRecDepth 100000
set_option maxHeartbeats 4000000
set_option pp.maxSteps 1500
namespace TL
open Go Go.Proofs
/-- Marks as cells. -/
def mkT : List Mark → List T
  | [] => []
  | m :: ms => .v (.int .i64 m.kind) :: .v (.int .i64 m.num) :: mkT ms
@[simp] theorem mkT_nil : mkT [] = [] := rfl
theorem mkT_append (a b : List Mark) : mkT (a ++ b) = mkT a ++ mkT b := by
  induction a with
  | nil => rfl
  | cons x xs ih => simp [mkT, ih]
@[simp] theorem mkT_length (a : List Mark) : (mkT a).length = a.length * 2 := by
  induction a with
  | nil => rfl
  | cons x xs ih => simp [mkT, ih]; omega
@[simp] theorem mkT_take (a : List Mark) : (mkT a).take (a.length * 2) = mkT a := List.take_of_length_le (by simp)
@[simp] theorem mkT_cells (a : List Mark) : allC (mkT a) := by
  induction a with
  | nil => simp
  | cons x xs ih => simp [mkT]; exact ih
theorem mkT_one (k a : Int) : [T.v (.int .i64 k), T.v (.int .i64 a)] = mkT [⟨k, a⟩] := rfl
/-- Parts as cells of a row. -/
def partsT (l : List (Nat × List Mark)) : List T := l.map fun q => .sv q.1 0 q.2.length
@[simp] theorem partsT_length (a : List (Nat × List Mark)) : (partsT a).length = a.length := by simp [partsT]
@[simp] theorem partsT_take (a : List (Nat × List Mark)) : (partsT a).take a.length = partsT a := List.take_of_length_le (by simp)
@[simp] theorem partsT_cells (a : List (Nat × List Mark)) : allC (partsT a) := by
  intro x hx; simp only [partsT, List.mem_map] at hx; obtain ⟨q, _, rfl⟩ := hx; rfl
@[simp] theorem partsT_cells_take (a : List (Nat × List Mark)) (k : Nat) : allC ((partsT a).take k) := allC_take (partsT_cells a) k
@[simp] theorem partsT_cells_drop (a : List (Nat × List Mark)) (k : Nat) : allC ((partsT a).drop k) := allC_drop (partsT_cells a) k
structure TEnv (m0 : Mem) (n0 rid : Nat) (bs : List UInt8) (s : S) (pid : Nat) (parts : List (Nat × List Mark)) (p : Nat) : Prop where
  mu : s.mu = true
  n : n0 ≤ s.n
  pid0 : n0 ≤ pid
  pid1 : pid < s.n
  row : s.m pid = some (.box 87 1 (partsT parts))
  each : ∀ q ∈ parts, n0 ≤ q.1 ∧ q.1 < s.n ∧ q.1 ≠ pid ∧ s.m q.1 = some (.box 110 2 (mkT q.2)) ∧ 1 ≤ q.2.length ∧ fits q.2
  rd : s.m rid = some (rdB bs p)
  out : ∀ j, j < n0 → j ≠ rid → s.m j = m0 j
theorem TEnv.push {m0 : Mem} {n0 rid : Nat} {bs : List UInt8} {s s' : S} {pid p q n1 : Nat} {parts : List (Nat × List Mark)} (h : TEnv m0 n0 rid bs s pid parts p) (hn : s.n ≤ n1) (hr : rid < n0) (mk : Mark) (hmk : mk.fit) (x : Option Blk)
    (hmu : s'.mu = true) (hn' : s'.n = n1 + 1 + 1 + 1) (hm : ∀ j, s'.m j = if j = n1 + 1 + 1 then some (.box 87 1 (partsT parts ++ [.sv n1 0 1])) else if j = pid then none else if j = n1 + 1 then x else if j = n1 then some (.box 110 2 [.v (.int .i64 mk.kind), .v (.int .i64 mk.num)])
      else if j = rid then some (rdB bs q) else s.m j) : TEnv m0 n0 rid bs s' (n1 + 1 + 1) (parts ++ [(n1, [mk])]) q := by
  have hp0 := h.pid0
  have hp1 := h.pid1
  have hnn := h.n
  refine ⟨hmu, by omega, by omega, by omega, ?_, ?_, ?_, ?_⟩
  · rw [hm, if_pos rfl]; simp [partsT]
  · intro y hy
    rcases List.mem_append.1 hy with hy | hy
    · obtain ⟨e1, e2, e3, e4, e5⟩ := h.each y hy
      refine ⟨e1, by omega, by omega, ?_, e5⟩
      rw [hm, if_neg (by omega), if_neg e3, if_neg (by omega), if_neg (by omega), if_neg (by omega), e4]
    · cases List.mem_singleton.1 hy
      refine ⟨by omega, by omega, by omega, ?_, by simpa using hmk⟩
      rw [hm, if_neg (by omega), if_neg (by omega), if_neg (by omega), if_pos rfl]; rfl
  · rw [hm, if_neg (by omega), if_neg (by omega), if_neg (by omega), if_neg (by omega), if_pos rfl]
  · intro j h1 h2
    rw [hm, if_neg (by omega), if_neg (by omega), if_neg (by omega), if_neg (by omega), if_neg (by omega), h.out j h1 h2]
theorem TEnv.read {m0 : Mem} {n0 rid : Nat} {bs : List UInt8} {s s' : S} {pid p q : Nat} {parts : List (Nat × List Mark)} (h : TEnv m0 n0 rid bs s pid parts p) (hr : rid < n0)
    (hmu : s'.mu = true) (hn : s.n ≤ s'.n) (hm : s'.m = updM s.m rid (some (rdB bs q))) : TEnv m0 n0 rid bs s' pid parts q := by
  have hp0 := h.pid0
  have hp1 := h.pid1
  have hnn := h.n
  refine ⟨hmu, by omega, by omega, by omega, ?_, ?_, ?_, ?_⟩
  · rw [hm, updM_ne _ _ (by omega), h.row]
  · intro y hy
    obtain ⟨e1, e2, e3, e4, e5⟩ := h.each y hy
    exact ⟨e1, by omega, e3, by rw [hm, updM_ne _ _ (by omega), e4], e5⟩
  · rw [hm, updM_same]
  · intro j h1 h2
    rw [hm, updM_ne _ _ h2, h.out j h1 h2]
theorem TEnv.next {m0 : Mem} {n0 rid : Nat} {bs : List UInt8} {s s' : S} {pid pid' p q n1 : Nat} {parts parts' : List (Nat × List Mark)} (h : TEnv m0 n0 rid bs s pid parts p) (hr : rid < n0)
    (hmu : s'.mu = true) (hn1 : s.n ≤ n1) (hn : n1 ≤ s'.n) (hpid : pid' = pid ∨ n1 ≤ pid') (hpl : pid' < s'.n) (hrow : s'.m pid' = some (.box 87 1 (partsT parts'))) (hrd : s'.m rid = some (rdB bs q))
    (hout : ∀ j, j < n1 → j ≠ rid → j ≠ pid → s'.m j = s.m j)
    (hall : ∀ y ∈ parts', y ∈ parts ∨ (n1 ≤ y.1 ∧ y.1 < s'.n ∧ y.1 ≠ pid' ∧ s'.m y.1 = some (.box 110 2 (mkT y.2)) ∧ 1 ≤ y.2.length ∧ fits y.2)) : TEnv m0 n0 rid bs s' pid' parts' q := by
  have hp0 := h.pid0
  have hp1 := h.pid1
  have hnn := h.n
  refine ⟨hmu, by omega, by omega, hpl, hrow, ?_, hrd, ?_⟩
  · intro y hy
    rcases hall y hy with hy | ⟨e1, e2, e3, e4, e5⟩
    · obtain ⟨e1, e2, e3, e4, e5⟩ := h.each y hy
      exact ⟨e1, by omega, by omega, by rw [hout _ (by omega) (by omega) e3, e4], e5⟩
    · exact ⟨by omega, e2, e3, e4, e5⟩
  · intro j h1 h2
    rw [hout j (by omega) h2 (by omega), h.out j h1 h2]
def TI1 (m0 : Mem) (n0 rid : Nat) (bs : List UInt8) (p : Nat) (people k : Int) (s : S) : Prop := ∃ (parts : List (Nat × List Mark)) (pid c p' : Nat),
  s.tm 0 = .ptr rid 0 ∧ s.tm 1 = .v (.int .i64 people) ∧ s.tm 2 = .v (.int .i64 k) ∧ s.tm 7 = .sv pid 0 parts.length ∧ s.tm 8 = .v (.int .i64 c) ∧ parts.length + c ≤ 4 ∧ 1 ≤ parts.length + c ∧ p ≤ p' ∧ p' + 2 * c ≤ p + 9 ∧
  TEnv m0 n0 rid bs s pid parts p' ∧ ∀ q ∈ parts, q.2.length = 1
def TI2 (m0 : Mem) (n0 rid : Nat) (bs : List UInt8) (p : Nat) (people k : Int) (s : S) : Prop := ∃ (parts : List (Nat × List Mark)) (pid p' : Nat),
  s.tm 0 = .ptr rid 0 ∧ s.tm 1 = .v (.int .i64 people) ∧ s.tm 2 = .v (.int .i64 k) ∧ s.tm 7 = .sv pid 0 parts.length ∧ 1 ≤ parts.length ∧ parts.length ≤ 4 ∧ p ≤ p' ∧ p' ≤ p + 9 ∧
  TEnv m0 n0 rid bs s pid parts p' ∧ ∀ q ∈ parts, q.2.length = 1
def sumLen (l : List (Nat × List Mark)) : Nat := (l.map fun q => q.2.length).sum
theorem sumLen_one {l : List (Nat × List Mark)} (h : ∀ q ∈ l, q.2.length = 1) : sumLen l = l.length := by
  induction l with
  | nil => rfl
  | cons x xs ih =>
    have := ih fun q hq => h q (List.mem_cons_of_mem _ hq)
    have h1 := h x (List.mem_cons_self ..)
    simp only [sumLen, List.map_cons, List.sum_cons, List.length_cons] at this ⊢; omega
theorem sumLen_append (a b : List (Nat × List Mark)) : sumLen (a ++ b) = sumLen a + sumLen b := by simp [sumLen]
theorem sumLen_set {l : List (Nat × List Mark)} {i : Nat} {q x : Nat × List Mark} (h : l[i]? = some q) : sumLen (l.set i x) + q.2.length = sumLen l + x.2.length := by
  induction l generalizing i with
  | nil => cases h
  | cons y ys ih =>
    cases i with
    | zero => cases h; simp [sumLen]; omega
    | succ i => have := ih (i := i) (by simpa using h); simp only [sumLen, List.set_cons_succ, List.map_cons, List.sum_cons] at this ⊢; omega
theorem two_split {α : Type} {l : List α} {i : Nat} (h : i + 1 < l.length) : ∃ a b, l[i]? = some a ∧ l[i + 1]? = some b ∧ l = l.take i ++ [a, b] ++ l.drop (i + 2) := by
  refine ⟨l[i], l[i + 1], List.getElem?_eq_getElem _, List.getElem?_eq_getElem _, ?_⟩
  have h1 : l.drop i = l[i] :: l.drop (i + 1) := List.drop_eq_getElem_cons (by omega)
  have h2 : l.drop (i + 1) = l[i + 1] :: l.drop (i + 2) := List.drop_eq_getElem_cons (by omega)
  rw [List.append_assoc]
  conv => lhs; rw [← List.take_append_drop i l, h1, h2]
  rfl
theorem sumLen_mem {l : List (Nat × List Mark)} {q : Nat × List Mark} (h : q ∈ l) : q.2.length ≤ sumLen l := by
  induction l with
  | nil => cases h
  | cons y ys ih =>
    rcases List.mem_cons.1 h with rfl | h
    · simp [sumLen]
    · have := ih h; simp only [sumLen, List.map_cons, List.sum_cons] at this ⊢; omega
def TI3 (m0 : Mem) (n0 rid : Nat) (bs : List UInt8) (p : Nat) (k : Int) (s : S) : Prop := ∃ (parts : List (Nat × List Mark)) (pid left p' : Nat),
  s.tm 0 = .ptr rid 0 ∧ s.tm 2 = .v (.int .i64 k) ∧ s.tm 7 = .sv pid 0 parts.length ∧ s.tm 9 = .v (.int .i64 left) ∧ 1 ≤ parts.length ∧ sumLen parts + left + parts.length ≤ 11 ∧ p ≤ p' ∧ p' + 3 * (left + parts.length) ≤ p + 30 ∧
  TEnv m0 n0 rid bs s pid parts p'
def TIC (m0 : Mem) (n0 rid : Nat) (bs : List UInt8) (p : Nat) (k : Int) (c M : Nat) (s : S) : Prop := ∃ (parts : List (Nat × List Mark)) (pid left ap p' : Nat),
  s.tm 0 = .ptr rid 0 ∧ s.tm 2 = .v (.int .i64 k) ∧ s.tm 7 = .sv pid 0 parts.length ∧ s.tm 9 = .v (.int .i64 left) ∧ s.tm 10 = .v (.int .i64 ap) ∧ ap + 1 < parts.length ∧ left + parts.length = M ∧ sumLen parts + left + parts.length ≤ 11 ∧ p ≤ p' ∧ p' + 3 * (left + parts.length) ≤ p + 30 + c ∧
  TEnv m0 n0 rid bs s pid parts p'
def TI4 (m0 : Mem) (n0 rid : Nat) (bs : List UInt8) (p : Nat) (k : Int) (s : S) : Prop := ∃ (x : Nat × List Mark) (pid p' : Nat),
  s.tm 0 = .ptr rid 0 ∧ s.tm 2 = .v (.int .i64 k) ∧ s.tm 7 = .sv pid 0 1 ∧ x.2.length ≤ 10 ∧ p ≤ p' ∧ p' ≤ p + 30 ∧
  TEnv m0 n0 rid bs s pid [x] p'
def TI5 (m0 : Mem) (n0 rid : Nat) (bs : List UInt8) (p : Nat) (k : Int) (c : Nat) (s : S) : Prop := ∃ (i : Nat) (ms : List Mark) (p' : Nat),
  s.tm 0 = .ptr rid 0 ∧ s.tm 2 = .v (.int .i64 k) ∧ s.tm 13 = .sv i 0 ms.length ∧ fits ms ∧ 1 ≤ ms.length ∧ ms.length ≤ 10 + c ∧ p ≤ p' ∧ p' ≤ p + 31 ∧ s.mu = true ∧ n0 ≤ i ∧ i < s.n ∧ n0 ≤ s.n ∧
  s.m i = some (.box 110 2 (mkT ms)) ∧ s.m rid = some (rdB bs p') ∧ (∀ j, j < n0 → j ≠ rid → s.m j = m0 j)
def TermPost (m0 : Mem) (n0 rid : Nat) (bs : List UInt8) (p : Nat) (t : T) (m' : Mem) (n' : Nat) : Prop := n0 ≤ n' ∧ ∃ i ms, t = .sv i 0 ms.length ∧ n0 ≤ i ∧ i < n' ∧ m' i = some (.box 110 2 (mkT ms)) ∧ ms.length ≤ 20 ∧ fits ms ∧
      (∀ j, j < n0 → j ≠ rid → m' j = m0 j) ∧ ∃ p', p ≤ p' ∧ p' ≤ p + 40 ∧ m' rid = some (rdB bs p')
theorem term_at (bs : List UInt8) (p : Nat) (hp : p < 900000000) (people k : Int) (hk : k < 1000000) (m : Mem) (n rid : Nat) (hr : rid < n) (hm : m rid = some (rdB bs p)) :
    FnS Tryz.prog 107 m n [.ptr rid 0, .v (.int .i64 people), .v (.int .i64 k)] (TermPost m n rid bs p) := by
  refine FnS_fresh ⟨_, Tryz.func107, rfl, rfl⟩ fun hfr => ?_
  refine FnS_of (rs := [.tmp 6]) true Tryz.func107 rfl rfl rfl rfl (Nat.le_of_ble_eq_true rfl) ?_
  simp -dsimp
  refine callS_ (pick_at bs p (by omega) _ _ _ rid (by simp [hm]; omega)) ?_
  rintro t m' n' ⟨hn', ⟨r, rfl, hr0, hr1⟩, rfl⟩
  simp -dsimp
  refine twp_loopC (TI1 m n rid bs p (min (max people 1) 4) k) (fun s => natOf (s.tm 8)) (TI2 m n rid bs p (min (max people 1) 4) k) ?_ ?_ ?_
  · refine ⟨[], n, (1 + r).toNat, p + 1, by simp, by simp, by simp, by simp, ?_, by simp; omega, by simp; omega, by omega, by omega, ⟨by simp, by simp; omega, by simp, by simp; omega, ?_, by simp, ?_, ?_⟩, by simp⟩
    · simp; rw [w64 (by omega) (by omega)]; omega
    · have a1 : ¬ n = rid := by omega
      simp [a1, partsT]
    · simp
    · intro j j1 j2
      have j3 : ¬ j = n := by omega
      simp [j2, j3]
  · rintro s ⟨parts, pid, c, p', h0, h1, h2, h7, h8, hc, hpc, hp0, hpp, h, hone⟩
    have hrow := h.row
    have hrd := h.rd
    have hmu := h.mu
    have hpid := h.pid1
    have hnn := h.n
    by_cases hc0 : c = 0
    · subst hc0
      simp -dsimp [h8]
      exact ⟨parts, pid, p', by simp [h0], by simp [h1], by simp [h2], by simp [h7], by omega, by omega, by omega, by omega, ⟨h.mu, h.n, h.pid0, h.pid1, h.row, h.each, h.rd, h.out⟩, hone⟩
    · have hc1 : 0 < c := by omega
      simp -dsimp [h0, h1, h2, h7, h8, hc1]
      refine callS_ (pick_at bs p' (by omega) _ _ _ rid hrd) ?_
      rintro t m' n' ⟨hn', ⟨r, rfl, hr0, hr1⟩, rfl⟩
      simp -dsimp [h0, h1, h2, h7, h8, hc1]
      have a5 : ¬ pid = rid := by have := h.pid0; omega
      have a6 : ¬ rid = pid := by have := h.pid0; omega
      have hpw : IntKind.wrap .i64 (min (max people 1) 4 + 2) = min (max people 1) 4 + 2 := w64 (by omega) (by omega)
      have wc : IntKind.wrap .i64 ((c : Int) - 1) = ((c - 1 : Nat) : Int) := by rw [w64 (by omega) (by omega)]; omega
      have f3 : (parts.length + 1) * 24 ≤ 140737488355328 := by omega
      have f4 : c - 1 < c := by omega
      refine iteP_intro (fun hb => ?_) (fun hb => ?_)
      · simp -dsimp [h0, h1, h2, h7, h8, hc1]
        refine callS_ (pick_at bs (p' + 1) (by omega) _ _ _ rid (by simp)) ?_
        rintro t m'' n'' ⟨hn'', ⟨r2, rfl, hr2, hr3⟩, rfl⟩
        rw [hpw] at hr3
        have f1 := far (show pid < n'' by omega)
        have f2 := far (show rid < n'' by omega)
        simp -dsimp [h0, h1, h2, h7, h8, hc1, hmu, hrow, f1, f2, f3, a5, wc, f4]
        refine ⟨parts ++ [(n'', [⟨1, r2⟩])], n'' + 1 + 1, c - 1, p' + 1 + 1, by simp [h0], by simp [h1], by simp [h2], by simp, by simp, by simp; omega, by simp; omega, by omega, by omega, ?_, ?_⟩
        · exact h.push (by omega) hr ⟨1, r2⟩ (fit_mk (by omega) (by omega) hr2 (by omega)) _ (by simp [hmu]) (by simp) (fun j => by simp; rfl)
        · intro q hq; rcases List.mem_append.1 hq with hq | hq
          · exact hone q hq
          · cases List.mem_singleton.1 hq; rfl
      · simp -dsimp [h0, h1, h2, h7, h8, hc1]
        refine callS_ (pick_at bs (p' + 1) (by omega) _ _ _ rid (by simp)) ?_
        rintro t m'' n'' ⟨hn'', ⟨r2, rfl, hr2, hr3⟩, rfl⟩
        have f1 := far (show pid < n'' by omega)
        have f2 := far (show rid < n'' by omega)
        simp -dsimp [h0, h1, h2, h7, h8, hc1, hmu, hrow, f1, f2, f3, a5, wc, f4]
        refine ⟨parts ++ [(n'', [⟨0, r2⟩])], n'' + 1 + 1, c - 1, p' + 1 + 1, by simp [h0], by simp [h1], by simp [h2], by simp, by simp, by simp; omega, by simp; omega, by omega, by omega, ?_, ?_⟩
        · exact h.push (by omega) hr ⟨0, r2⟩ (fit_mk (by omega) (by omega) hr2 (by omega)) _ (by simp [hmu]) (by simp) (fun j => by simp; rfl)
        · intro q hq; rcases List.mem_append.1 hq with hq | hq
          · exact hone q hq
          · cases List.mem_singleton.1 hq; rfl
  · rintro s ⟨parts, pid, p', h0, h1, h2, h7, hc, hpc, hp0, hpp, h, hone⟩
    simp -dsimp
    refine twp_loopC (TI3 m n rid bs p k) (fun s => natOf (s.tm 9) + natOf (s.tm 7)) (TI4 m n rid bs p k) ?_ ?_ ?_
    · refine ⟨parts, pid, 3, p', by simp [h0], by simp [h2], by simp [h7], by simp, by omega, ?_, by omega, by omega, ⟨h.mu, h.n, h.pid0, h.pid1, h.row, h.each, h.rd, h.out⟩⟩
      rw [sumLen_one hone]; omega
    · rintro s ⟨parts, pid, left, p', h0, h2, h7, h9, hl, hs, hp0, hpp, h⟩
      have hrow := h.row
      have hrd := h.rd
      have hmu := h.mu
      have hpid := h.pid1
      have hnn := h.n
      by_cases hl1 : parts.length = 1
      · simp -dsimp [h7, hl1]
        obtain ⟨x, rfl⟩ := List.length_eq_one_iff.1 hl1
        have : sumLen [x] = x.2.length := by simp [sumLen]
        exact ⟨x, pid, p', by simp [h0], by simp [h2], by simp [h7], by omega, by omega, by omega, ⟨h.mu, h.n, h.pid0, h.pid1, h.row, h.each, h.rd, h.out⟩⟩
      · have hl2 : 1 < parts.length := by omega
        have hl3 : (1 : Int) < parts.length := by omega
        have wl : IntKind.wrap .i64 ((parts.length : Int) - 1) = ((parts.length - 1 : Nat) : Int) := by rw [w64 (by omega) (by omega)]; omega
        simp -dsimp [h0, h7, hl3, wl]
        refine callS_ (pick_at bs p' (by omega) _ _ _ rid hrd) ?_
        rintro t m' n' ⟨hn', ⟨r, rfl, hr0, hr1⟩, rfl⟩
        obtain ⟨r, rfl⟩ := Int.eq_ofNat_of_zero_le hr0
        have hμ : natOf (s.tm 9) + natOf (s.tm 7) = left + parts.length := by simp [h7, h9]
        refine opsP_mono (Q := TIC m n rid bs p k 1 (left + parts.length)) ?_ _ _ ?_
        · intro s5 hs5
          simp only [thenP_normal]
          refine twp_cut (TIC m n rid bs p k 2 (left + parts.length)) ?_ ?_
          · obtain ⟨parts, pid, left, ap, p', h0, h2, h7, h9, h10, hat, hM, hs, hp0, hpp, h⟩ := hs5
            have hrow := h.row
            have hrd := h.rd
            have hmu := h.mu
            have hpid := h.pid1
            have hpid0 := h.pid0
            have hnn := h.n
            by_cases hl0 : left = 0
            · subst hl0
              simp -dsimp [h9]
              exact ⟨parts, pid, 0, ap, p', by simp [h0], by simp [h2], by simp [h7], by simp [h9], by simp [h10], by omega, by omega, by omega, by omega, by omega, ⟨h.mu, h.n, h.pid0, h.pid1, h.row, h.each, h.rd, h.out⟩⟩
            · have hl1 : 0 < left := by omega
              simp -dsimp [h0, h9, hl1]
              refine callS_ (pick_at bs p' (by omega) _ _ _ rid hrd) ?_
              rintro t m' n1 ⟨hn1, ⟨r, rfl, hr0, hr1⟩, rfl⟩
              by_cases hr2 : r = 0
              · obtain ⟨q, hq⟩ : ∃ q, parts[ap]? = some q := ⟨parts[ap], List.getElem?_eq_getElem _⟩
                have hg : (partsT parts)[ap]? = some (.sv q.1 0 q.2.length) := by simp [partsT, hq]
                have hg2 : (partsT parts)[ap]'(by simp; omega) = .sv q.1 0 q.2.length := Option.some_inj.1 ((List.getElem?_eq_getElem _).symm.trans hg)
                obtain ⟨e1, e2, e3, e4, e5⟩ := h.each q (List.mem_of_getElem? hq)
                have hsum := sumLen_set (x := (n1 + 1 + 1 + 1, q.2 ++ [⟨2, 0⟩])) hq
                have hqs : q.2.length ≤ sumLen parts := sumLen_mem (List.mem_of_getElem? hq)
                have f1 := far (show pid < n1 by omega)
                have f2 := far (show rid < n1 by omega)
                have f3 := far (show q.1 < n1 by omega)
                have a1 : ¬ pid = rid := by omega
                have a2 : ¬ q.1 = rid := by omega
                have wl : IntKind.wrap .i64 ((left : Int) - 1) = ((left - 1 : Nat) : Int) := by rw [w64 (by omega) (by omega)]; omega
                have b1 : (q.2.length) * 16 ≤ 140737488355328 := by omega
                have b2 : (q.2.length + 1) * 16 ≤ 140737488355328 := by omega
                have hat1 : ap < parts.length := by omega
                have hat2 : ap + 1 ≤ parts.length := by omega
                simp -dsimp [h0, h7, h9, h10, hr2, hl1, hmu, hrow, hg, hg2, e4, f1, f2, f3, a1, a2, e3, wl, b1, b2, hat, hat1, hat2]
                refine ⟨?_, by omega⟩
                refine st_out fun s' ht hm' hn' hu' => ?_
                have t0 := ht 0
                have t2 := ht 2
                have t7 := ht 7
                have t9 := ht 9
                simp -dsimp [h0, h2, h7] at t0 t2 t7 t9 hm' hn' hu'
                clear ht
                refine ⟨parts.set ap (n1 + 1 + 1 + 1, q.2 ++ [⟨2, 0⟩]), pid, left - 1, p' + 1, t0, t2, by simp [t7], t9, by simp; omega, by simp at hsum ⊢; omega, by omega, by simp; omega, ?_⟩
                refine h.next hr (by rw [hu', hmu]) hn1 (by omega) (.inl rfl) (by omega) ?_ ?_ ?_ ?_
                · simp [hm', partsT, List.map_set]
                · simp [hm', f1, f2, a1, Ne.symm a1]
                · intro j j1 j2 j3
                  simp [hm', far j1, j2, j3]
                · intro y hy
                  rcases List.mem_or_eq_of_mem_set hy with hy | rfl
                  · exact .inl hy
                  · right; have := fit_mk (k := 2) (a := 0) (by omega) (by omega) (by omega) (by omega); simp [hm', f1, mkT_append, mkT, e5.2, this]; omega
              · simp -dsimp [hr2]
                exact ⟨parts, pid, left, ap, p' + 1, by simp [h0], by simp [h2], by simp [h7], by simp [h9], by simp [h10], by omega, by omega, by omega, by omega, by omega, h.read hr (by simp [hmu]) (by simp; omega) (by simp)⟩
          · rintro s6 ⟨parts, pid, left, ap, p', h0, h2, h7, h9, h10, hat, hM, hs, hp0, hpp, h⟩
            have hrow := h.row
            have hrd := h.rd
            have hmu := h.mu
            have hpid := h.pid1
            have hpid0 := h.pid0
            have hnn := h.n
            obtain ⟨q1, q2, hq1, hq2, hsplit⟩ := two_split hat
            have hg1 : (partsT parts)[ap]? = some (.sv q1.1 0 q1.2.length) := by simp [partsT, hq1]
            have hg1' : (partsT parts)[ap]'(by simp; omega) = .sv q1.1 0 q1.2.length := Option.some_inj.1 ((List.getElem?_eq_getElem _).symm.trans hg1)
            have hg2 : (partsT parts)[ap + 1]? = some (.sv q2.1 0 q2.2.length) := by simp [partsT, hq2]
            have hg2' : (partsT parts)[ap + 1]'(by simp; omega) = .sv q2.1 0 q2.2.length := Option.some_inj.1 ((List.getElem?_eq_getElem _).symm.trans hg2)
            obtain ⟨e1, e2, e3, e4, e5⟩ := h.each q1 (List.mem_of_getElem? hq1)
            obtain ⟨d1, d2, d3, d4, d5⟩ := h.each q2 (List.mem_of_getElem? hq2)
            have hsum : sumLen (parts.take ap) + (q1.2.length + q2.2.length) + sumLen (parts.drop (ap + 2)) = sumLen parts := by
              conv => rhs; rw [hsplit]
              simp [sumLen]; omega
            have f1 := far hpid
            have f2 := far (show rid < s6.n by omega)
            have f3 := far e2
            have f4 := far d2
            have a1 : ¬ pid = rid := by omega
            have a2 : ¬ q1.1 = rid := by omega
            have a3 : ¬ q2.1 = rid := by omega
            have w1 : IntKind.wrap .i64 ((ap : Int) + 1) = ((ap + 1 : Nat) : Int) := by rw [w64 (by omega) (by omega)]; omega
            have w2 : (0 : Int) ≤ (ap : Int) + 1 := by omega
            have w3 : (ap : Int) + 1 < parts.length := by omega
            have w4 : ((ap : Int) + 1).toNat = ap + 1 := by omega
            have b1 : (q1.2.length) * 16 ≤ 140737488355328 := by omega
            have b2 : (q1.2.length + q2.2.length) * 16 ≤ 140737488355328 := by omega
            have hat1 : ap < parts.length := by omega
            have hat2 : ap + 1 ≤ parts.length := by omega
            have hat3 : ap + 1 + 1 ≤ parts.length := by omega
            simp only [twp_seq]
            refine twp_draw [1, 2, 3, 4, 6, 7, 8, 9, 10, 12, 0, 5, 11, 13, 14, 15, 16, 17, 18] [pid] (List.replicate 19 [0]) (List.replicate 19 [0]) (by kernel_rfl) (by kernel_rfl) (by kernel_rfl) (by kernel_rfl) ?_
            simp -dsimp [List.range_succ, h0, h7, h10, hmu, hrow, hg1, hg1', hg2, hg2', e4, d4, f1, f2, f3, f4, a1, a2, a3, e3, d3, w1, w2, w3, w4, b1, b2, hat, hat1, hat2, hat3]
            refine callS_ (pick_at bs p' (by omega) _ _ _ rid (by simp [f1, f2, hrd])) ?_
            rintro t m' n1 ⟨hn1, ⟨r, rfl, hr0, hr1⟩, rfl⟩
            have g1 := far (show pid < n1 by omega)
            have g2 := far (show rid < n1 by omega)
            have g5 := far (show s6.n + 1 + 1 < n1 by omega)
            have hr9 := hr1 (by omega)
            have w9 : IntKind.wrap .i64 (3 + r) = 3 + r := w64 (by omega) (by omega)
            have c1 : (q1.2.length + q2.2.length) * 2 ≤ q1.2.length * 2 + q2.2.length * 2 := by omega
            have c2 : (q1.2.length + q2.2.length + 1) * 16 ≤ 140737488355328 := by omega
            have c3 : List.take ((q1.2.length + q2.2.length) * 2) (mkT q1.2 ++ mkT q2.2) = mkT q1.2 ++ mkT q2.2 := List.take_of_length_le (by simp; omega)
            have c4 : ap * 24 ≤ 140737488355328 := by omega
            have c5 : (ap + 1) * 24 ≤ 140737488355328 := by omega
            have c6 : (ap + 1 + (parts.length - (ap + 2))) * 24 ≤ 140737488355328 := by omega
            have c7 : ap ≤ parts.length := by omega
            have c8 : (0 : Int) ≤ ap := by omega
            have c9 : (ap : Int) ≤ parts.length := by omega
            have w5 : IntKind.wrap .i64 ((ap : Int) + 2) = ((ap + 2 : Nat) : Int) := by rw [w64 (by omega) (by omega)]; omega
            have w6 : (0 : Int) ≤ (ap : Int) + 2 := by omega
            have w7 : (ap : Int) + 2 ≤ parts.length := by omega
            have w8 : ((ap : Int) + 2).toNat = ap + 2 := by omega
            have c10 : ap + 2 + (parts.length - (ap + 2)) ≤ parts.length := by omega
            have c11 : List.take (parts.length - (ap + 2)) (List.drop (ap + 2) (partsT parts)) = List.drop (ap + 2) (partsT parts) := List.take_of_length_le (by simp)
            simp -dsimp [List.range_succ, h0, h7, h10, hmu, hrow, f1, f2, f3, f4, g1, g2, g5, a1, c11, c1, c2, c3, c4, c5, c6, c7, c8, c9, c10, w5, w6, w7, w8]
            refine ⟨?_, by first | omega | (simp [h9]; omega)⟩
            refine st_out fun s' ht hm' hn' hu' => ?_
            have t0 := ht 0
            have t2 := ht 2
            have t7 := ht 7
            have t9 := ht 9
            simp -dsimp [h0, h2, h9] at t0 t2 t7 t9 hm' hn' hu'
            clear ht
            have hlen : (parts.take ap ++ [(n1 + 1, q1.2 ++ q2.2 ++ [(⟨IntKind.wrap .i64 (3 + r), 0⟩ : Mark)])] ++ parts.drop (ap + 2)).length = ap + 1 + (parts.length - (ap + 2)) := by
              simp; omega
            refine ⟨parts.take ap ++ [(n1 + 1, q1.2 ++ q2.2 ++ [(⟨IntKind.wrap .i64 (3 + r), 0⟩ : Mark)])] ++ parts.drop (ap + 2), n1 + 1 + 1 + 1 + 1 + 1 + 1, left, p' + 1, t0, t2, by rw [t7, hlen], t9, by omega, ?_, by omega, by omega, ?_⟩
            · have : sumLen [(n1 + 1, q1.2 ++ q2.2 ++ [(⟨IntKind.wrap .i64 (3 + r), 0⟩ : Mark)])] = q1.2.length + q2.2.length + 1 := by simp [sumLen]; omega
              rw [hlen, sumLen_append, sumLen_append, this]; omega
            refine h.next hr (by rw [hu', hmu]) (Nat.le_refl _) (by omega) (.inr (by omega)) (by omega) ?_ ?_ ?_ ?_
            · have e1 : List.take (ap + 1) (List.take ap (List.take ap (partsT parts)) ++ [T.sv (n1 + 1) 0 (q1.2.length + q2.2.length + 1)]) = List.take ap (partsT parts) ++ [T.sv (n1 + 1) 0 (q1.2.length + q2.2.length + 1)] := by
                rw [List.take_take, Nat.min_self]; exact List.take_of_length_le (by simp; omega)
              have e2 : partsT (parts.take ap ++ [(n1 + 1, q1.2 ++ q2.2 ++ [⟨IntKind.wrap .i64 (3 + r), 0⟩])] ++ parts.drop (ap + 2)) = List.take ap (partsT parts) ++ [T.sv (n1 + 1) 0 (q1.2.length + q2.2.length + 1)] ++ List.drop (ap + 2) (partsT parts) := by
                simp [partsT, List.map_take, List.map_drop]; omega
              rw [e2, hm']; simp [e1]
            · simp [hm', f2, g2, Ne.symm a1]
            · intro j j1 j2 j3
              have j4 := far (show j < n1 by omega)
              simp [hm', far j1, j2, j3, j4]
            · intro y hy
              rcases List.mem_append.1 hy with hy | hy
              · rcases List.mem_append.1 hy with hy | hy
                · exact .inl (List.mem_of_mem_take hy)
                · cases List.mem_singleton.1 hy
                  right; have := fit_mk (k := IntKind.wrap .i64 (3 + r)) (a := 0) (by rw [w9]; omega) (by rw [w9]; omega) (by omega) (by omega); simp [hm', f1, g1, mkT_append, mkT, e5.2, d5.2, this]; omega
              · exact .inl (List.mem_of_mem_drop hy)
        · simp -dsimp
          exact ⟨parts, pid, left, r, p' + 1, by simp [h0], by simp [h2], by simp [h7], by simp [h9], by simp, by omega, rfl, by omega, by omega, by omega, h.read hr (by simp [hmu]) (by simp; omega) (by simp)⟩
    · rintro s ⟨x, pid, p', h0, h2, h7, hx, hp0, hpp, h⟩
      have hrow := h.row
      have hrd := h.rd
      have hmu := h.mu
      have hpid := h.pid1
      have hpid0 := h.pid0
      have hnn := h.n
      obtain ⟨e1, e2, e3, e4, e5⟩ := h.each x (List.mem_singleton.2 rfl)
      simp -dsimp [h0, h7, hrow, partsT]
      refine callS_ (pick_at bs p' (by omega) _ _ _ rid hrd) ?_
      rintro t m' n1 ⟨hn1, ⟨r, rfl, hr0, hr1⟩, rfl⟩
      refine opsP_mono (Q := fun s => (∃ b : Bool, s.tm 112 = .v (.bool b)) ∧ TI5 m n rid bs p k 0 s) ?_ _ _ ?_
      · rintro s7 ⟨⟨b, h112⟩, hs7⟩
        simp only [thenP_normal]
        refine twp_cutQ (TI5 m n rid bs p k 1) ?_ ?_
        · obtain ⟨i, ms, p', h0, h2, h13, hfit, hl1, hl2, hp0, hpp, hmu, hi0, hi, hnn, hrow, hrd, hout⟩ := hs7
          cases b with
          | false =>
            simp -dsimp [h112]
            exact ⟨i, ms, p', h0, h2, h13, hfit, hl1, by omega, hp0, hpp, hmu, hi0, hi, hnn, hrow, hrd, hout⟩
          | true =>
            have f1 := far hi
            have f2 := far (show rid < s7.n by omega)
            have b1 : (ms.length + 1) * 16 ≤ 140737488355328 := by omega
            simp -dsimp [h112, h13, hmu, hrow, f1, f2, b1]
            refine st_out fun s' ht hm' hn' hu' => ?_
            have t0 := ht 0
            have t2 := ht 2
            have t13 := ht 13
            simp -dsimp [h0, h2] at t0 t2 t13 hm' hn' hu'
            clear ht
            refine ⟨s7.n + 1, ms ++ [⟨2, 0⟩], p', t0, t2, by simp [t13], by simp [hfit]; exact fit_mk (by omega) (by omega) (by omega) (by omega), by simp, by simp; omega, hp0, hpp, by rw [hu', hmu], by omega, by omega, by omega, ?_, ?_, ?_⟩
            · simp [hm', mkT_append, mkT]
            · simp [hm', f2, hrd]; omega
            · intro j j1 j2
              have j4 := far (show j < s7.n by omega)
              simp [hm', j4, hout j j1 j2]; omega
        · clear hs7 h112
          rintro s8 ⟨i, ms, p', h0, h2, h13, hfit, hl1, hl2, hp0, hpp, hmu, hi0, hi, hnn, hrow, hrd, hout⟩
          simp -dsimp [h0, h2]
          refine callS_ (odd_at bs p' (by omega) k hk _ _ rid hrd) ?_
          rintro t m' n2 ⟨hn2, ⟨b, rfl, hb0⟩, p2, hp1, hp2, rfl⟩
          cases b with
          | false =>
            simp -dsimp [h13]
            have a1 : ¬ i = rid := by omega
            refine ⟨by omega, i, ms, rfl, hi0, by omega, by simp [a1, hrow], by omega, hfit, fun j j1 j2 => by simp [j2, hout j j1 j2], p2, by omega, by omega, by simp⟩
          | true =>
            simp -dsimp [h0, h13]
            refine callS_ (pick_at bs p2 (by omega) _ _ _ rid (by simp)) ?_
            rintro t m' n3 ⟨hn3, ⟨r, rfl, hr0, hr1⟩, rfl⟩
            by_cases hr00 : r = 0
            · have f2 := far (show rid < n3 by omega)
              simp -dsimp [hr00, hmu]
              refine ⟨by omega, n3, [], rfl, by omega, by omega, by simp, by simp, by simp, fun j j1 j2 => ?_, p2 + 1, by omega, by omega, by simp [f2]⟩
              have j4 := far (show j < n3 by omega)
              simp [j2, j4, hout j j1 j2]
            · by_cases hr01 : r = 1
              · have f1 := far (show i < n3 by omega)
                have f2 := far (show rid < n3 by omega)
                have b1 : (ms.length + 1) * 16 ≤ 140737488355328 := by omega
                have a1 : ¬ i = rid := by omega
                have a2 : ¬ rid = i := by omega
                simp -dsimp [hr01, hmu, h13, hrow, f1, f2, a1, b1]
                refine ⟨by omega, n3 + 1, ms ++ [⟨5, 0⟩], by simp, by omega, by omega, by simp [mkT_append, mkT], by simp; omega, by simp [hfit]; exact fit_mk (by omega) (by omega) (by omega) (by omega), fun j j1 j2 => ?_, p2 + 1, by omega, by omega, by simp [f2, a2]⟩
                have j4 := far (show j < n3 by omega)
                have j5 : ¬ j = i := by omega
                simp [j2, j4, j5, hout j j1 j2]
              · have a1 : ¬ i = rid := by omega
                have b1 : 0 < ms.length := by omega
                have b2 : 2 ≤ ms.length * 2 := by omega
                simp -dsimp [hr00, hr01, h13, h0, hrow, a1, b1]
                refine callS_ (pick_at bs (p2 + 1) (by omega) _ _ _ rid (by simp)) ?_
                rintro t m' n4 ⟨hn4, ⟨r2, rfl, hr2, hr3⟩, rfl⟩
                have f1 := far (show i < n4 by omega)
                have f2 := far (show rid < n4 by omega)
                simp -dsimp [hmu, h13, hrow, f1, f2, a1, b1, b2]
                obtain ⟨x0, rest, rfl⟩ : ∃ x0 rest, ms = x0 :: rest := by
                  cases ms with
                  | nil => simp at hl1
                  | cons a b => exact ⟨a, b, rfl⟩
                refine ⟨by omega, i, ⟨r2, 6⟩ :: rest, rfl, hi0, by omega, by simp [mkT], by simp at hl2 ⊢; omega, by simp at hfit ⊢; exact ⟨fit_mk hr2 (by have := hr3 (by omega); omega) (by omega) (by omega), hfit.2⟩, fun j j1 j2 => ?_, p2 + 1 + 1, by omega, by omega, by simp [f2]; omega⟩
                have j5 : ¬ j = i := by omega
                simp [j2, j5, hout j j1 j2]
      · simp -dsimp
        refine ⟨x.1, x.2, p' + 1, by simp [h0], by simp [h2], by simp, e5.2, e5.1, by omega, by omega, by omega, by simp [hmu], by omega, by simp; omega, by simp; omega, ?_, by simp, ?_⟩
        · have a1 : ¬ x.1 = rid := by omega
          simp [a1, e4]
        · intro j j1 j2
          simp [j2, h.out j j1 j2]
end TL

/- Drawn claims and places. -/
set_option linter.unusedSimpArgs false
set_option linter.unusedVariables false
set_option maxRecDepth 100000
set_option maxHeartbeats 4000000
set_option pp.maxSteps 1500
namespace TL
open Go Go.Proofs
theorem mapO_mkT (k : Bool) (m : Mem) (d : Nat) (l : List Mark) : mapO (bor k m d) (mkT l) = some (l.flatMap fun x => [V.int .i64 x.kind, V.int .i64 x.num]) := by
  induction l with
  | nil => rfl
  | cons x xs ih => simp [mkT, mapO, ih]
theorem chunk_marks (l : List Mark) : chunk 2 l.length (l.flatMap fun x => [V.int .i64 x.kind, V.int .i64 x.num]) = l.map Mark.v := by
  induction l with
  | nil => rfl
  | cons x xs ih => simp [chunk, ih, Mark.v]
theorem bor_marks {m : Mem} {i e : Nat} {ms : List Mark} (d : Nat) (h : m i = some (.box e 2 (mkT ms))) : bor true m (d + 1) (.sv i 0 ms.length) = some (marksV ms) := by
  unfold bor
  simp -dsimp [h, mapO_mkT, marksV, chunk_marks]
  rw [tst_pos]
  · rw [chunk_marks]
  · intro x hx
    obtain ⟨y, _, hy⟩ := List.mem_flatMap.1 hx
    simp at hy; rcases hy with rfl | rfl <;> rfl
/-- What a drawing function leaves. -/
def DrawPost (R : V → Prop) (K : Nat) (m0 : Mem) (n0 rid : Nat) (bs : List UInt8) (p : Nat) (t : T) (m' : Mem) (n' : Nat) : Prop := n0 ≤ n' ∧ (∃ x, bor true (upper n0 m') 4 t = some x ∧ R x) ∧
  (∀ j, j < n0 → j ≠ rid → m' j = m0 j) ∧ ∃ p', p ≤ p' ∧ p' ≤ p + K ∧ m' rid = some (rdB bs p')
/-- A drawing function's contract: some value of a kind. -/
def Draws (R : V → Prop) (K : Nat) (m : Mem) (n rid : Nat) (bs : List UInt8) (p : Nat) (t : T) (m' : Mem) (n' : Nat) : Prop := n ≤ n' ∧ (∃ x, R x ∧ t = .v x) ∧ RdTo K m rid bs p m'
theorem Draws_of {f : Nat} {args : List T} {R : V → Prop} {K : Nat} {m : Mem} {n rid : Nat} {bs : List UInt8} {p : Nat} (hr : rid < n) (hf : ∃ fn, Tryz.prog.funcs[f]? = some fn ∧ (fn.name == "runtime.NumGoroutine") = false ∧ fn.body.isNone = false)
    (h : (∀ j, n ≤ j → m j = none) → FnS Tryz.prog f m n args (DrawPost R K m n rid bs p)) : FnS Tryz.prog f m n args (Draws R K m n rid bs p) := by
  refine FnS_fresh hf fun hfr => ?_
  refine (h hfr).frz ?_
  rintro t m' n' ⟨hn, ⟨x, hx, hR⟩, hout, p', hp1, hp2, hrd⟩
  refine ⟨x, updM m rid (some (rdB bs p')), upper n m', ?_, ?_, ?_, hx, hn, ⟨x, hR, rfl⟩, p', hp1, hp2, rfl⟩
  · intro j b hb
    by_cases hj : j = rid
    · subst hj; simp at hb; rw [hrd, hb]
    · rw [updM_ne _ _ hj] at hb
      have : j < n := by
        by_cases h : j < n
        · exact h
        · rw [hfr j (by omega)] at hb; cases hb
      rw [hout j this hj, hb]
  · intro j b hb
    by_cases h : n ≤ j
    · simpa [h] using hb
    · simp [h] at hb
  · intro j
    by_cases h : n ≤ j
    · left; rw [updM_ne _ _ (by omega), hfr j h]
    · right; simp [h]
/-- A drawn term: pure. -/
def SomeTerm (x : V) : Prop := ∃ ms : List Mark, ms.length ≤ 20 ∧ fits ms ∧ x = marksV ms
theorem term_z (bs : List UInt8) (p : Nat) (hp : p < 900000000) (people k : Int) (hk : k < 1000000) (m : Mem) (n rid : Nat) (hr : rid < n) (hm : m rid = some (rdB bs p)) :
    FnS Tryz.prog 107 m n [.ptr rid 0, .v (.int .i64 people), .v (.int .i64 k)] (Draws SomeTerm 40 m n rid bs p) := by
  refine Draws_of hr ⟨_, Tryz.func107, rfl, rfl⟩ fun hfr => (term_at bs p hp people k hk m n rid hr hm).weak ?_
  rintro t m' n' ⟨hn, i, ms, rfl, hi, hi', hrow, hl, hfit, hout, p', hp1, hp2, hrd⟩
  exact ⟨hn, ⟨marksV ms, bor_marks (e := 110) 3 (by simp [hi, hrow]), ms, hl, hfit, rfl⟩, hout, p', hp1, hp2, hrd⟩
/-- A drawn claim. -/
def SomeClaim (x : V) : Prop := ∃ c : Claim, c.says.length ≤ 20 ∧ c.fit ∧ x = c.v
theorem claim_z (bs : List UInt8) (p : Nat) (hp : p < 800000000) (people k : Int) (hpe : people < 1000000) (hk0 : 0 ≤ k) (hk : k < 100000) (m : Mem) (n rid : Nat) (hr : rid < n) (hm : m rid = some (rdB bs p)) :
    FnS Tryz.prog 87 m n [.ptr rid 0, .v (.int .i64 people), .v (.int .i64 k)] (Draws SomeClaim 50 m n rid bs p) := by
  refine Draws_of hr ⟨_, Tryz.func87, rfl, rfl⟩ fun hfr => ?_
  refine FnS_of (rs := [.cell 6 89]) false Tryz.func87 rfl rfl rfl rfl (Nat.le_of_ble_eq_true rfl) ?_
  have f1 := far hr
  have wk : IntKind.wrap .i64 (k * 2) = k * 2 := w64 (by omega) (by omega)
  simp -dsimp [wk]
  refine callS_ (pick_at bs p (by omega) _ _ _ rid (by simp [hm]; omega)) ?_
  rintro t m1 n1 ⟨hn1, ⟨r, rfl, hr0, hr1⟩, rfl⟩
  have hr1 := hr1 (by omega)
  simp -dsimp [wk]
  refine callS_ (term_z bs (p + 1) (by omega) _ _ (by omega) _ _ rid (by omega) (by simp)) ?_
  rintro t m2 n2 ⟨hn2, ⟨x, ⟨ms, hl, hfit, rfl⟩, rfl⟩, p2, hp1, hp2, rfl⟩
  have f2 := far (show rid < n2 by omega)
  have f3 := far (show n < n2 by omega)
  simp -dsimp [f1, f2, f3, marksV]
  refine callS_ (odd_at bs p2 (by omega) k (by omega) _ _ rid (by simp [f1, f2, f3])) ?_
  rintro t m3 n3 ⟨hn3, ⟨b, rfl, hb0⟩, p3, hp3, hp4, rfl⟩
  cases b with
  | false =>
    simp -dsimp [f1, f2, f3]
    refine ⟨by omega, ⟨_, by simp; rfl, ⟨r, ms⟩, hl, ⟨⟨by simp only; omega, by simp only; omega⟩, hfit⟩, rfl⟩, fun j j1 j2 => ?_, p3, by omega, by omega, by simp [f1]⟩
    simp [far j1, far (show j < n2 by omega), j2]
  | true => 
    have f4 := far (show n2 < n3 by omega)
    have f5 := far (show n < n3 by omega)
    have f6 := far (show rid < n3 by omega)
    simp -dsimp [f1, f2, f3, f4, f5, f6]
    refine callS_ (pick_at bs p3 (by omega) _ _ _ rid (by simp [f1, f2, f3, f4, f5, f6])) ?_
    rintro t m4 n4 ⟨hn4, ⟨r2, rfl, hr2, hr3⟩, rfl⟩
    have f7 := far (show n3 < n4 by omega)
    have hr4 : r2 = 0 ∨ r2 = 1 := by have := hr3 (by decide); omega
    rcases hr4 with rfl | rfl
    · simp -dsimp [f1, f2, f3, f4, f5, f6, f7]
      refine ⟨by omega, ⟨_, by simp; rfl, ⟨-1, ms⟩, hl, ⟨⟨by simp, by simp⟩, hfit⟩, rfl⟩, fun j j1 j2 => ?_, p3 + 1, by omega, by omega, by simp [f1, f2, f3, f4, f5, f6]⟩
      simp [far j1, far (show j < n2 by omega), far (show j < n3 by omega), j2]
    · simp -dsimp [f1, f2, f3, f4, f5, f6, f7]
      refine ⟨by omega, ⟨_, by simp; rfl, ⟨4, ms⟩, hl, ⟨⟨by simp, by simp⟩, hfit⟩, rfl⟩, fun j j1 j2 => ?_, p3 + 1, by omega, by omega, by simp [f1, f2, f3, f4, f5, f6]⟩
      simp [far j1, far (show j < n2 by omega), far (show j < n3 by omega), j2]
end TL

/- Drawn places. -/
set_option linter.unusedSimpArgs false
set_option linter.unusedVariables false
set_option maxRecDepth 100000
set_option maxHeartbeats 4000000
set_option pp.maxSteps 1500
namespace TL
open Go Go.Proofs
def SomePlace (x : V) : Prop := ∃ q : Place, q.story.length ≤ 10 ∧ (∀ c ∈ q.story, c.says.length ≤ 20) ∧ q.fit ∧ x = q.v
def PI1 (m0 : Mem) (n0 rid : Nat) (bs : List UInt8) (p : Nat) (k : Int) (a : Nat) (s : S) : Prop := ∃ (people : Int) (story : List Claim) (st : T) (pid c p' : Nat),
  s.tm 0 = .ptr rid 0 ∧ s.tm 1 = .v (.int .i64 k) ∧ s.tm 4 = .ptr n0 0 ∧ s.tm 5 = .ptr pid 0 ∧ (a = 1 → s.tm 6 = .v (.int .i64 c)) ∧ s.mu = false ∧ n0 < pid ∧ pid < s.n ∧ (∃ z, s.m n0 = some (.box 48 2 [.v (.int .i64 0), z])) ∧
  s.m pid = some (.box 48 2 [.v (.int .i64 people), st]) ∧ IsRow s.m (n0 + 1) s.n 89 st (story.map Claim.v) ∧ st ≠ .loc pid ∧ story.length + c ≤ 3 ∧ p ≤ p' ∧ p' + 50 * c ≤ p + 160 ∧ (∀ x ∈ story, x.says.length ≤ 20) ∧ 1 ≤ people ∧ people ≤ 4 ∧ (∀ x ∈ story, x.fit) ∧
  s.m rid = some (rdB bs p') ∧ (∀ j, j < n0 → j ≠ rid → s.m j = m0 j)
theorem fitBad : Claim.fit ⟨4, [⟨0, 0⟩]⟩ := ⟨⟨by simp, by simp⟩, by simp [fits]; exact fit_mk (by omega) (by omega) (by omega) (by omega)⟩
theorem claim_cells (c : Claim) : c.v.cells = [.int .i64 c.who, marksV c.says] := rfl
theorem place_z (bs : List UInt8) (p : Nat) (hp : p < 700000000) (k : Int) (hk0 : 0 ≤ k) (hk : k < 100000) (m : Mem) (n rid : Nat) (hr : rid < n) (hm : m rid = some (rdB bs p)) :
    FnS Tryz.prog 57 m n [.ptr rid 0, .v (.int .i64 k)] (Draws SomePlace 200 m n rid bs p) := by
  refine Draws_of hr ⟨_, Tryz.func57, rfl, rfl⟩ fun hfr => ?_
  refine FnS_of (rs := [.cell 4 48]) false Tryz.func57 rfl rfl rfl rfl (Nat.le_of_ble_eq_true rfl) ?_
  have f1 := far hr
  simp -dsimp
  refine callS_ (pick_at bs p (by omega) _ _ _ rid (by simp [hm]; omega)) ?_
  rintro t m1 n1 ⟨hn1, ⟨r, rfl, hr0, hr1⟩, rfl⟩
  have hr1 := hr1 (by decide)
  have w1 : IntKind.wrap .i64 (1 + r) = 1 + r := w64 (by omega) (by omega)
  have f2 := far (show n < n1 by omega)
  have f3 := far (show rid < n1 by omega)
  simp -dsimp [f1, f2, f3]
  refine callS_ (pick_at bs (p + 1) (by omega) _ _ _ rid (by simp [f3])) ?_
  rintro t m2 n2 ⟨hn2, ⟨c, rfl, hc0, hc1⟩, rfl⟩
  simp -dsimp
  refine twp_loopC (PI1 m n rid bs p k 1) (fun s => natOf (s.tm 6)) (PI1 m n rid bs p k 0) ?_ ?_ ?_
  · obtain ⟨c, rfl⟩ := Int.eq_ofNat_of_zero_le hc0
    have := hc1 (by decide)
    refine ⟨1 + r, [], .nil, n1, c, p + 1 + 1, by simp, by simp, by simp, by simp, by simp, by simp, by omega, by simp; omega, ⟨.nil, ?_⟩, by simp [f3, w1], .inl ⟨rfl, rfl⟩, by simp, by simp; omega, by omega, by omega, by simp, by omega, by omega, by simp, by simp, fun j j1 j2 => ?_⟩
    · simp [f1, f2, f3]
    · simp [far j1, far (show j < n1 by omega), j2]
  · rintro s ⟨people, story, st, pid, c, p', h0, h1, h4, h5, h6, hmu, hp0, hp1, ⟨z, hz⟩, hrow, hst, hne, hl, hpa, hpb, hsays, hpe0, hpe1, hfit, hrd, hout⟩
    have h6 := h6 rfl
    by_cases hc : c = 0
    · subst hc
      simp -dsimp [h6]
      exact ⟨people, story, st, pid, 0, p', h0, h1, h4, h5, fun h => by simp at h, hmu, hp0, hp1, ⟨z, hz⟩, hrow, hst, hne, hl, hpa, hpb, hsays, hpe0, hpe1, hfit, hrd, hout⟩
    · have hc1 : 0 < c := by omega
      have wc : IntKind.wrap .i64 ((c : Int) - 1) = ((c - 1 : Nat) : Int) := by rw [w64 (by omega) (by omega)]; omega
      have a1 : ¬ pid = rid := by omega
      simp -dsimp [h6, hc1]
      refine twp_draw (List.range 10) [pid] (List.replicate 10 [0]) (List.replicate 9 [0] ++ [[]]) (by kernel_rfl) (by kernel_rfl) (by kernel_rfl) (by kernel_rfl) ?_
      simp -dsimp [List.range_succ, h0, h5, hrow]
      refine callS_ (claim_z bs p' (by omega) _ _ (by omega) (by omega) (by omega) _ _ rid (by omega) hrd) ?_
      rintro t m3 n3 ⟨hn3, ⟨x, ⟨cl, hcl, hcf, rfl⟩, rfl⟩, p2, hp2, hp3, rfl⟩
      have f4 := far (show pid < n3 by omega)
      have f5 := far (show rid < n3 by omega)
      rcases hst with ⟨rfl, hs0⟩ | ⟨i, rfl, hi0, hi1, hi⟩
      · simp -dsimp [List.range_succ, h0, h5, hrow, a1, f4, f5, hmu, claim_cells, marksV, wc, hc1, h6]
        refine ⟨?_, by omega⟩
        refine st_out fun s' ht hm' hn' hu' => ?_
        have t0 := ht 0
        have t1 := ht 1
        have t4 := ht 4
        have t5 := ht 5
        have t6 := ht 6
        simp -dsimp [h0, h1, h4, h5] at t0 t1 t4 t5 t6 hm' hn' hu'
        clear ht
        have hs1 : story = [] := List.map_eq_nil_iff.1 hs0
        subst hs1
        refine ⟨people, [cl], .loc (n3 + 1), pid, c - 1, p2, t0, t1, t4, t5, fun _ => t6, by rw [hu', hmu], hp0, by omega, ⟨z, ?_⟩, by simp [hm'], .inr ⟨n3 + 1, rfl, by omega, by omega, by simp [hm', f4]⟩, by simp; omega, by simp at hl ⊢; omega, by omega, by omega, by simpa using hcl, hpe0, hpe1, by simpa using hcf, by simp [hm', f5]; omega, fun j j1 j2 => ?_⟩
        · have b2 : ¬ n = pid := by omega
          have b3 : ¬ n = rid := by omega
          simp [hm', far (show n < n3 by omega), b2, b3, hz]
        · have b2 : ¬ j = pid := by omega
          simp [hm', far (show j < n3 by omega), b2, j2, hout j j1 j2]
      · have f6 := far (show i < n3 by omega)
        have a2 : ¬ i = rid := by omega
        have a3 : ¬ pid = i := by rintro rfl; exact hne rfl
        have b1 : (story.length + 1) * 32 ≤ 140737488355328 := by omega
        simp -dsimp [List.range_succ, h0, h5, hrow, a1, a2, a3, f4, f5, f6, hi, hmu, claim_cells, marksV, wc, hc1, b1, h6]
        refine ⟨?_, by omega⟩
        refine st_out fun s' ht hm' hn' hu' => ?_
        have t0 := ht 0
        have t1 := ht 1
        have t4 := ht 4
        have t5 := ht 5
        have t6 := ht 6
        simp -dsimp [h0, h1, h4, h5] at t0 t1 t4 t5 t6 hm' hn' hu'
        clear ht
        refine ⟨people, story ++ [cl], .loc (n3 + 1), pid, c - 1, p2, t0, t1, t4, t5, fun _ => t6, by rw [hu', hmu], hp0, by omega, ⟨z, ?_⟩, by simp [hm'], .inr ⟨n3 + 1, rfl, by omega, by omega, by simp [hm', f4, f6]⟩, by simp; omega, by simp; omega, by omega, by omega, ?_, hpe0, hpe1, ?_, by simp [hm', f5, Ne.symm a2]; omega, fun j j1 j2 => ?_⟩
        · have b2 : ¬ n = pid := by omega
          have b3 : ¬ n = rid := by omega
          have b4 : ¬ n = i := by omega
          simp [hm', far (show n < n3 by omega), b2, b3, b4, hz]
        · intro y hy
          rcases List.mem_append.1 hy with hy | hy
          · exact hsays y hy
          · cases List.mem_singleton.1 hy; exact hcl
        · intro y hy
          rcases List.mem_append.1 hy with hy | hy
          · exact hfit y hy
          · cases List.mem_singleton.1 hy; exact hcf
        · have b2 : ¬ j = pid := by omega
          have b4 : ¬ j = i := by omega
          simp [hm', far (show j < n3 by omega), b2, b4, j2, hout j j1 j2]
  · rintro s ⟨people, story, st, pid, c, p', h0, h1, h4, h5, h6, hmu, hp0, hp1, ⟨z, hz⟩, hrow, hst, hne, hl, hpa, hpb, hsays, hpe0, hpe1, hfit, hrd, hout⟩
    simp -dsimp [h0, h1]
    refine callS_ (odd_at bs p' (by omega) k (by omega) _ _ rid hrd) ?_
    rintro t m3 n3 ⟨hn3, ⟨b, rfl, hb0⟩, p2, hp2, hp3, rfl⟩
    have hcell := hst.cell
    have a1 : ¬ pid = rid := by omega
    have a2 : ¬ n = pid := by omega
    have a3 : ¬ n = rid := by omega
    have f4 := far (show pid < n3 by omega)
    have f5 := far (show rid < n3 by omega)
    have f6 := far (show n < n3 by omega)
    cases b with
    | false =>
      simp -dsimp [h4, h5, hrow, a1, a2, a3, hz, hcell]
      refine ⟨by omega, ⟨_, ?_, ⟨people, story⟩, by simp; omega, hsays, ⟨⟨by simp only; omega, by simp only; omega⟩, hfit⟩, rfl⟩, fun j j1 j2 => ?_, p2, by omega, by omega, by simp [f1]⟩
      · rw [bor_agg]
        simp -dsimp only [mapO, bor_v, hst.bor (n0 := n) (m' := updM (updM s.m rid (some (rdB bs p2))) n (some (Blk.box 48 2 [T.v (V.int IntKind.i64 people), st]))) (by omega) (fun i _ i1 i2 => by rw [updM_ne _ _ (by omega), updM_ne _ _ (by omega)])]
        rfl
      · simp [far j1, j2, hout j j1 j2]
    | true =>
      simp -dsimp [h0]
      refine callS_ (pick_at bs p2 (by omega) _ _ _ rid (by simp)) ?_
      rintro t m4 n4 ⟨hn4, ⟨r2, rfl, hr2, hr3⟩, rfl⟩
      have hr4 : r2 = 0 ∨ r2 = 1 ∨ r2 = 2 := by have := hr3 (by decide); omega
      rcases hr4 with rfl | rfl | rfl
      · rcases hst with ⟨rfl, hs0⟩ | ⟨i, rfl, hi0, hi1, hi⟩
        · simp -dsimp [h4, h5, hrow, a1, a2, a3, hz, hmu, far (show pid < n4 by omega), far (show n < n4 by omega)]
          refine ⟨by omega, ⟨_, by simp [far (show pid < n4 by omega), far (show n < n4 by omega), show n ≤ n4 + 1 + 1 by omega]; rfl, ⟨people, [⟨4, [⟨0, 0⟩]⟩]⟩, by simp, by simp, ⟨⟨by simp only; omega, by simp only; omega⟩, by simpa using fitBad⟩, rfl⟩, fun j j1 j2 => ?_, p2 + 1, by omega, by omega, by simp [f1, Ne.symm a1, far (show rid < n4 by omega)]⟩
          have b2 : ¬ j = pid := by omega
          simp [far j1, far (show j < n4 by omega), j2, b2, hout j j1 j2]
        · have b1 : (story.length + 1) * 32 ≤ 140737488355328 := by omega
          have b2 : ¬ i = rid := by omega
          have b3 : ¬ pid = i := by rintro rfl; exact hne rfl
          have b4 : ¬ n = i := by omega
          simp -dsimp [h4, h5, hrow, a1, a2, a3, hz, hmu, b1, b2, b3, b4, hi, far (show pid < n4 by omega), far (show n < n4 by omega), far (show i < n4 by omega), claim_cells, marksV]
          refine ⟨by omega, ⟨(⟨people, story ++ [⟨4, [⟨0, 0⟩]⟩]⟩ : Place).v, by simp [show n ≤ n4 + 1 + 1 by omega, far (show pid < n4 by omega), far (show n < n4 by omega), far (show i < n4 by omega), Place.v, storyV, Claim.v, marksV, Mark.v], ⟨people, story ++ [⟨4, [⟨0, 0⟩]⟩]⟩, by simp; omega, ?_, ⟨⟨by simp only; omega, by simp only; omega⟩, ?_⟩, rfl⟩, fun j j1 j2 => ?_, p2 + 1, by omega, by omega, by simp [f1, Ne.symm a1, Ne.symm b2, far (show rid < n4 by omega)]⟩
          · intro y hy
            rcases List.mem_append.1 hy with hy | hy
            · exact hsays y hy
            · cases List.mem_singleton.1 hy; simp
          · intro y hy
            rcases List.mem_append.1 hy with hy | hy
            · exact hfit y hy
            · cases List.mem_singleton.1 hy; exact fitBad
          · have c2 : ¬ j = pid := by omega
            have c3 : ¬ j = i := by omega
            simp [far j1, far (show j < n4 by omega), j2, c2, c3, hout j j1 j2]
      · simp -dsimp [h4, h5, hrow, a1, a2, a3, hz, hcell]
        refine ⟨by omega, ⟨_, ?_, ⟨5, story⟩, by simp; omega, hsays, ⟨⟨by simp, by simp⟩, hfit⟩, rfl⟩, fun j j1 j2 => ?_, p2 + 1, by omega, by omega, by simp [f1, Ne.symm a1]⟩
        · rw [bor_agg]
          simp -dsimp only [mapO, bor_v, hst.bor (n0 := n) (m' := updM (updM (updM s.m rid (some (rdB bs (p2 + 1)))) pid (some (Blk.box 48 2 [T.v (V.int IntKind.i64 5), st]))) n (some (Blk.box 48 2 [T.v (V.int IntKind.i64 5), st]))) (by omega) (fun i hi i1 i2 => by rw [updM_ne _ _ (by omega), updM_ne _ _ (by rintro rfl; exact hne hi), updM_ne _ _ (by omega)])]
          rfl
        · have b2 : ¬ j = pid := by omega
          simp [far j1, j2, b2, hout j j1 j2]
      · simp -dsimp [h4, h5, hrow, a1, a2, a3, hz]
        refine ⟨by omega, ⟨_, by simp; rfl, ⟨0, []⟩, by simp, by simp, ⟨⟨by simp, by simp⟩, by simp⟩, rfl⟩, fun j j1 j2 => ?_, p2 + 1, by omega, by omega, by simp [f1]⟩
        simp [far j1, j2, hout j j1 j2]
end TL

/- Drawn arguments of the statements. -/
set_option linter.unusedSimpArgs false
set_option linter.unusedVariables false
set_option maxRecDepth 100000
set_option maxHeartbeats 4000000
set_option pp.maxSteps 1500
namespace TL
open Go Go.Proofs
/-- What a function that draws from a code leaves: some value of a kind. -/
def Drawn (R : V → Prop) (m : Mem) (n : Nat) (t : T) (m' : Mem) (n' : Nat) : Prop := n ≤ n' ∧ (∃ x, R x ∧ t = .v x) ∧ m' = m
def DrawnPost (R : V → Prop) (m0 : Mem) (n0 : Nat) (t : T) (m' : Mem) (n' : Nat) : Prop := n0 ≤ n' ∧ (∃ x, bor true (upper n0 m') 4 t = some x ∧ R x) ∧ ∀ j, j < n0 → m' j = m0 j
theorem Drawn_of {f : Nat} {args : List T} {R : V → Prop} {m : Mem} {n : Nat} (hf : ∃ fn, Tryz.prog.funcs[f]? = some fn ∧ (fn.name == "runtime.NumGoroutine") = false ∧ fn.body.isNone = false)
    (h : (∀ j, n ≤ j → m j = none) → FnS Tryz.prog f m n args (DrawnPost R m n)) : FnS Tryz.prog f m n args (Drawn R m n) := by
  refine FnS_fresh hf fun hfr => ?_
  refine (h hfr).frz ?_
  rintro t m' n' ⟨hn, ⟨x, hx, hR⟩, hout⟩
  refine ⟨x, m, upper n m', ?_, ?_, ?_, hx, hn, ⟨x, hR, rfl⟩, rfl⟩
  · intro j b hb
    by_cases h : j < n
    · rw [hout j h, hb]
    · rw [hfr j (by omega)] at hb; cases hb
  · intro j b hb
    by_cases h : n ≤ j
    · simpa [h] using hb
    · simp [h] at hb
  · intro j
    by_cases h : n ≤ j
    · left; exact hfr j h
    · right; simp [h]
theorem open_at (bs : List UInt8) (m : Mem) (n : Nat) : FnS Tryz.prog 51 m n [.v (codeV bs)] (fun t m' n' => t = .ptr n 0 ∧ n' = n + 1 ∧ m' = updM m n (some (rdB (bs.take 2000) 0))) := open_fn bs m n
end TL

/- The law of places. -/
set_option linter.unusedSimpArgs false
set_option linter.unusedVariables false
set_option maxRecDepth 100000
set_option maxHeartbeats 4000000
set_option pp.maxSteps 1500
namespace TL
open Go Go.Proofs
attribute [local simp] marksV storyV codeV Claim.v Place.v
def worldOk (people w : Int) : Bool := peopleOk people && decide (0 ≤ w) && decide (w < 2 ^ people.toNat)
theorem worldOk_fn (people w : Int) : FnZ Tryz.prog 55 [.int .i64 people, .int .i64 w] (.bool (worldOk people w)) := by
  have hk := ft (peopleOk people)
  rcases hk with hk | hk
  · refine FnZ_of (rs := [.tmp 4]) false Tryz.func55 rfl rfl rfl rfl (Nat.le_of_ble_eq_true rfl) ?_
    simp -dsimp
    refine call_ (peopleOk_at people) (by simp -dsimp) ?_
    simp -dsimp [hk, worldOk]
  · by_cases h1 : 0 ≤ w
    · have h2 : people = 1 ∨ people = 2 ∨ people = 3 ∨ people = 4 := by simp [peopleOk] at hk; omega
      rcases h2 with rfl | rfl | rfl | rfl
      all_goals
        refine FnZ_of (rs := [.tmp 4]) false Tryz.func55 rfl rfl rfl rfl (Nat.le_of_ble_eq_true rfl) ?_
        simp -dsimp
        refine call_ (peopleOk_at _) (by simp -dsimp <;> rfl) ?_
        simp -dsimp [hk, worldOk, h1]
        rfl
    · refine FnZ_of (rs := [.tmp 4]) false Tryz.func55 rfl rfl rfl rfl (Nat.le_of_ble_eq_true rfl) ?_
      simp -dsimp
      refine call_ (peopleOk_at people) (by simp -dsimp) ?_
      simp -dsimp [hk, worldOk, h1]
theorem alive_fn : FnZ Tryz.prog 24 [] (.bool true) := by
  refine FnZ_of (rs := [.tmp 0]) false Tryz.func24 rfl rfl rfl rfl (Nat.le_of_ble_eq_true rfl) ?_
  have e1 : worldOk 1 1 = true := by decide
  have e2 : worldOk 1 2 = false := by decide
  simp -dsimp
  refine call_ (worldOk_fn 1 1) (by simp -dsimp) ?_
  simp -dsimp [e1]
  refine call_ (worldOk_fn 1 2) (by simp -dsimp) ?_
  simp -dsimp [e2]
theorem markStep_mono {people : Int} {parts q : Nat} {m : Mark} (h : markStep people parts m = some q) : markStep (people + 1) parts m = some q := by
  unfold markStep at h ⊢
  repeat' split at h
  all_goals first
    | (cases h; done)
    | (simp_all; omega)
    | simp_all
theorem marksRun_mono {people : Int} : ∀ (ms : List Mark) (parts : Nat) (q : Nat), marksRun people parts ms = some q → marksRun (people + 1) parts ms = some q
  | [], parts, q, h => h
  | m :: ms, parts, q, h => by
    simp only [marksRun] at h ⊢
    cases e : markStep people parts m with
    | none => rw [e] at h; cases h
    | some r =>
      rw [e] at h
      rw [markStep_mono e]
      exact marksRun_mono ms r q h
theorem termOk_mono {people : Int} {t : List Mark} (hp : people < 4) (h : termOk people t = true) : termOk (people + 1) t = true := by
  simp only [termOk, peopleOk, Bool.and_eq_true, decide_eq_true_eq] at h ⊢
  obtain ⟨⟨⟨⟨h1, h2⟩, h3⟩, h4⟩, h5⟩ := h
  exact ⟨⟨⟨⟨by omega, by omega⟩, h3⟩, h4⟩, marksRun_mono _ _ _ h5⟩
theorem claimOk_mono {people : Int} {c : Claim} (hp : people < 4) (h : claimOk people c = true) : claimOk (people + 1) c = true := by
  simp only [claimOk, peopleOk, Bool.and_eq_true, decide_eq_true_eq] at h ⊢
  obtain ⟨⟨⟨⟨⟨h1, h2⟩, h3⟩, h4⟩, h5⟩, h6⟩ := h
  exact ⟨⟨⟨⟨⟨by omega, by omega⟩, h3⟩, by omega⟩, termOk_mono hp h5⟩, h6⟩
theorem placeOk_mono {p : Place} (hp : p.people < 4) (h : placeOk p = true) : placeOk ⟨p.people + 1, p.story⟩ = true := by
  simp only [placeOk, storyOk, peopleOk, Bool.and_eq_true, decide_eq_true_eq, List.all_eq_true] at h ⊢
  obtain ⟨⟨h1, h2, h3⟩, h4⟩ := h
  exact ⟨⟨fun c hc => claimOk_mono hp (h1 c hc), by omega, by omega⟩, h4⟩
theorem placeOk_alone {p : Place} (h : placeOk p = true) : placeOk ⟨p.people, []⟩ = true := by
  simp only [placeOk, storyOk, peopleOk, Bool.and_eq_true, decide_eq_true_eq, List.all_eq_true] at h ⊢
  obtain ⟨⟨h1, h2, h3⟩, h4⟩ := h
  exact ⟨⟨by simp, by omega, by omega⟩, by simp⟩
end TL

/- Tables of worlds as numbers. -/
set_option linter.unusedSimpArgs false
set_option linter.unusedVariables false
set_option maxRecDepth 100000
set_option maxHeartbeats 4000000
set_option pp.maxSteps 1500
namespace TL
open Go Go.Proofs
attribute [local simp] marksV storyV codeV Claim.v Place.v
/-- The table of all worlds below n for which something holds. -/
def tabN : Nat → (Nat → Bool) → Nat
  | 0, _ => 0
  | n + 1, f => if f n then tabN n f ||| 2 ^ n else tabN n f
theorem tabN_lt (f : Nat → Bool) : ∀ n, tabN n f < 2 ^ n
  | 0 => by simp [tabN]
  | n + 1 => by
    have h := tabN_lt f n
    have h2 : 2 ^ n < 2 ^ (n + 1) := Nat.pow_lt_pow_right (by omega) (by omega)
    unfold tabN; split
    · exact Nat.or_lt_two_pow (by omega) h2
    · omega
theorem testBit_tabN (f : Nat → Bool) (i : Nat) : ∀ n, (tabN n f).testBit i = (decide (i < n) && f i)
  | 0 => by simp [tabN]
  | n + 1 => by
    have ih := testBit_tabN f i n
    unfold tabN
    split
    · rename_i hf
      rw [Nat.testBit_or, ih, Nat.testBit_two_pow]
      by_cases h : n = i
      · subst h; simp [hf]
      · have : (i < n + 1) ↔ (i < n) := by omega
        simp [h, this]
    · rename_i hf
      rw [ih]
      by_cases h : n = i
      · subst h; simp [hf]
      · have : (i < n + 1) ↔ (i < n) := by omega
        simp [this]
theorem and_nat {a b : Nat} (ha : a < 4611686018427387904) (hb : b < 4611686018427387904) : IntKind.wrap .i64 ((((a : Int) % 2 ^ IntKind.i64.bits).toNat &&& ((b : Int) % 2 ^ IntKind.i64.bits).toNat : Nat) : Int) = ((a &&& b : Nat) : Int) := by
  have e1 : ((a : Int) % 2 ^ IntKind.i64.bits).toNat = a := by simp only [IntKind.bits]; omega
  have e2 : ((b : Int) % 2 ^ IntKind.i64.bits).toNat = b := by simp only [IntKind.bits]; omega
  have h : a &&& b ≤ a := Nat.and_le_left
  rw [e1, e2, w64 (by omega) (by omega)]
theorem or_nat {a b : Nat} (ha : a < 4611686018427387904) (hb : b < 4611686018427387904) : IntKind.wrap .i64 ((((a : Int) % 2 ^ IntKind.i64.bits).toNat ||| ((b : Int) % 2 ^ IntKind.i64.bits).toNat : Nat) : Int) = ((a ||| b : Nat) : Int) := by
  have e1 : ((a : Int) % 2 ^ IntKind.i64.bits).toNat = a := by simp only [IntKind.bits]; omega
  have e2 : ((b : Int) % 2 ^ IntKind.i64.bits).toNat = b := by simp only [IntKind.bits]; omega
  have h : a ||| b < 2 ^ 62 := Nat.or_lt_two_pow (by omega) (by omega)
  rw [e1, e2, w64 (by omega) (by omega)]
theorem and_nn {a b : Nat} (ha : a < 4611686018427387904) (hb : b < 4611686018427387904) : IntKind.wrap .i64 ((a % 2 ^ IntKind.i64.bits &&& b % 2 ^ IntKind.i64.bits : Nat) : Int) = ((a &&& b : Nat) : Int) := by
  have e1 : a % 2 ^ IntKind.i64.bits = a := Nat.mod_eq_of_lt (by simp only [IntKind.bits]; omega)
  have e2 : b % 2 ^ IntKind.i64.bits = b := Nat.mod_eq_of_lt (by simp only [IntKind.bits]; omega)
  rw [e1, e2, w64 (by omega) (by have : a &&& b ≤ a := Nat.and_le_left; omega)]
theorem and_ni {a b : Nat} {x : Int} (hx : x = b) (ha : a < 4611686018427387904) (hb : b < 4611686018427387904) : IntKind.wrap .i64 ((a % 2 ^ IntKind.i64.bits &&& (x % 2 ^ IntKind.i64.bits).toNat : Nat) : Int) = ((a &&& b : Nat) : Int) := by
  subst hx
  have e2 : ((b : Int) % 2 ^ IntKind.i64.bits).toNat = b % 2 ^ IntKind.i64.bits := by simp only [IntKind.bits]; omega
  rw [e2, and_nn ha hb]
theorem or_nn {a b : Nat} (ha : a < 4611686018427387904) (hb : b < 4611686018427387904) : IntKind.wrap .i64 ((a % 2 ^ IntKind.i64.bits ||| b % 2 ^ IntKind.i64.bits : Nat) : Int) = ((a ||| b : Nat) : Int) := by
  have e1 : a % 2 ^ IntKind.i64.bits = a := Nat.mod_eq_of_lt (by simp only [IntKind.bits]; omega)
  have e2 : b % 2 ^ IntKind.i64.bits = b := Nat.mod_eq_of_lt (by simp only [IntKind.bits]; omega)
  rw [e1, e2, w64 (by omega) (by have : a ||| b < 2 ^ 62 := Nat.or_lt_two_pow (by omega) (by omega); omega)]
theorem or_ni {a b : Nat} {x : Int} (hx : x = b) (ha : a < 4611686018427387904) (hb : b < 4611686018427387904) : IntKind.wrap .i64 ((a % 2 ^ IntKind.i64.bits ||| (x % 2 ^ IntKind.i64.bits).toNat : Nat) : Int) = ((a ||| b : Nat) : Int) := by
  subst hx
  have e2 : ((b : Int) % 2 ^ IntKind.i64.bits).toNat = b % 2 ^ IntKind.i64.bits := by simp only [IntKind.bits]; omega
  rw [e2, or_nn ha hb]
def tableOk (people t : Int) : Bool := peopleOk people && decide (0 ≤ t) && decide (t < 2 ^ (2 ^ people.toNat))
def Itb (N : Nat) (f : Nat) (cap : List V) (g : Nat → Bool) (e : Nat) (s : S) : Prop := ∃ w : Nat, s.tm 1 = .v (.fn f cap) ∧ s.tm 8 = .v (.int .i64 N) ∧ s.tm 9 = .v (.int .i64 w) ∧ s.tm 5 = .v (.int .i64 (tabN w g)) ∧ w ≤ N ∧ (e = 1 → w = N)
theorem tableBy_fn (p : Nat) (hp1 : 1 ≤ p) (hp4 : p ≤ 4) (f : Nat) (cap : List V) (g : Nat → Bool) (hg : ∀ w : Nat, w < 2 ^ p → FnZ Tryz.prog f (.int .i64 (w : Int) :: cap) (.bool (g w))) : FnZ Tryz.prog 150 [.int .i64 p, .fn f cap] (.int .i64 (tabN (2 ^ p) g)) := by
  have hN : 2 ^ p ≤ 16 := by
    have : p = 1 ∨ p = 2 ∨ p = 3 ∨ p = 4 := by omega
    rcases this with rfl | rfl | rfl | rfl <;> simp
  have ws : IntKind.wrap .i64 (2 ^ min p IntKind.i64.bits) = ((2 ^ p : Nat) : Int) := by
    have : p = 1 ∨ p = 2 ∨ p = 3 ∨ p = 4 := by omega
    rcases this with rfl | rfl | rfl | rfl <;> rfl
  generalize hNN : 2 ^ p = N at *
  refine FnZ_of (rs := [.tmp 4]) false Tryz.func150 rfl rfl rfl rfl (Nat.le_of_ble_eq_true rfl) ?_
  have hp0 : ¬ (p : Int) < 0 := by omega
  simp -dsimp [ws, hp0]
  refine twp_loopC (Itb N f cap g 0) (fun s => N - natOf (s.tm 9)) (Itb N f cap g 1) ?_ ?_ ?_
  · exact ⟨0, by simp -dsimp, by simp -dsimp, by simp -dsimp, by simp -dsimp [tabN], by omega, by simp⟩
  · rintro s ⟨w, t1, t8, t9, t5, hw, hend⟩
    by_cases hlt : w < N
    case neg =>
      simp -dsimp [t8, t9, hlt]
      exact ⟨w, by simp -dsimp [t1], by simp -dsimp [t8], by simp -dsimp [t9], by simp -dsimp [t5], hw, fun _ => by omega⟩
    have wi : IntKind.wrap .i64 ((w : Int) + 1) = ((w + 1 : Nat) : Int) := by rw [w64 (by omega) (by omega)]; omega
    have hmu : N - (w + 1) < N - w := by omega
    have hb := tabN_lt g w
    have hp : 2 ^ w ≤ 2 ^ 16 := Nat.pow_le_pow_right (by omega) (by omega)
    have h2 : (2 : Nat) ^ w < 4611686018427387904 := by omega
    have wsh : IntKind.wrap .i64 (2 ^ min w IntKind.i64.bits) = ((2 ^ w : Nat) : Int) := by
      rw [Nat.min_eq_left (by simp [IntKind.bits]; omega), w64]
      · simp
      · have : (0 : Int) ≤ 2 ^ w := Int.pow_nonneg (by omega)
        omega
      · have : ((2 ^ w : Nat) : Int) = (2 : Int) ^ w := by simp
        omega
    have hor := or_ni (a := tabN w g) (b := 2 ^ w) (x := (2 : Int) ^ w) (by simp) (by omega) h2
    simp -dsimp [t1, t8, t9, hlt]
    refine call_ (hg w hlt) (by simpa using mapO_pure _ _ (.int .i64 w :: cap)) ?_
    have hgw := ft (g w)
    rcases hgw with hgw | hgw
    · have ht : tabN (w + 1) g = tabN w g := by simp [tabN, hgw]
      simp -dsimp [hgw, t5, t9, wi, hmu]
      exact ⟨w + 1, by simp -dsimp [t1], by simp -dsimp [t8], by simp -dsimp, by simp -dsimp [t5, ht], by omega, by simp⟩
    · have ht : tabN (w + 1) g = tabN w g ||| 2 ^ w := by simp [tabN, hgw]
      simp -dsimp [hgw, t5, t9, wi, hmu, wsh, hor, show ¬ (w : Int) < 0 by omega]
      exact ⟨w + 1, by simp -dsimp [t1], by simp -dsimp [t8], by simp -dsimp, by simp -dsimp [ht], by omega, by simp⟩
  · rintro s ⟨w, t1, t8, t9, t5, hw, hend⟩
    have := hend rfl
    subst this
    simp -dsimp [t5]
end TL

/- Asked tables. -/
set_option linter.unusedSimpArgs false
set_option linter.unusedVariables false
set_option maxRecDepth 100000
set_option maxHeartbeats 4000000
set_option pp.maxSteps 1500
namespace TL
open Go Go.Proofs
attribute [local simp] marksV storyV codeV Claim.v Place.v
def sameKind (who whom : Nat) (yes : Bool) (w : Nat) : Bool := (w.testBit who == w.testBit whom) == yes
@[simp] theorem bor_ptr (m : Mem) (d id : Nat) : bor true m (d + 1) (.ptr id 0) = match m id with
    | some (.box _ _ cs) => obind (mapO (bor true m d) cs) fun xs => tst (∀ x ∈ xs, x.cell = true) (some (.ref xs))
    | _ => none := by
  conv => lhs; unfold bor
  simp only [if_true]
  cases m id with
  | none => rfl
  | some b => cases b <;> rfl
theorem shr_nat (w i : Nat) (hi : i < 60) : (w : Int).fdiv (2 ^ min i IntKind.i64.bits) = ((w / 2 ^ i : Nat) : Int) := by
  have e : min i IntKind.i64.bits = i := Nat.min_eq_left (by simp [IntKind.bits]; omega)
  have e2 : ((2 ^ i : Nat) : Int) = (2 : Int) ^ i := by simp
  rw [e, ← e2, Int.fdiv_eq_ediv_of_nonneg _ (Int.natCast_nonneg _)]
  rfl
theorem div_bit (w i : Nat) : w / 2 ^ i % 2 = if w.testBit i then 1 else 0 := by
  rw [Nat.testBit_eq_decide_div_mod_eq]
  have := Nat.mod_two_eq_zero_or_one (w / 2 ^ i)
  rcases this with h | h <;> simp [h]
theorem bit1 (w i : Nat) (hw : w < 4611686018427387904) (hi : i < 60) : IntKind.wrap .i64 ((((w : Int).fdiv (2 ^ min i IntKind.i64.bits) % 2 ^ IntKind.i64.bits).toNat &&& 1 % 2 ^ IntKind.i64.bits : Nat) : Int) = if w.testBit i then 1 else 0 := by
  rw [shr_nat w i hi]
  have h1 : w / 2 ^ i ≤ w := Nat.div_le_self _ _
  have e1 : (((w / 2 ^ i : Nat) : Int) % 2 ^ IntKind.i64.bits).toNat = w / 2 ^ i := by
    generalize w / 2 ^ i = q at *
    simp only [IntKind.bits]; omega
  have e2 : 1 % 2 ^ IntKind.i64.bits = 1 := by rfl
  rw [e1, e2, Nat.and_one_is_mod, div_bit]
  split <;> rfl
theorem bit2 (w i : Nat) (hi : i < 60) : ((w : Int).fdiv (2 ^ min i IntKind.i64.bits)).tmod 2 = if w.testBit i then 1 else 0 := by
  rw [shr_nat w i hi, Int.tmod_eq_emod_of_nonneg (Int.natCast_nonneg _)]
  have : ((w / 2 ^ i : Nat) : Int) % 2 = ((w / 2 ^ i % 2 : Nat) : Int) := by omega
  rw [this, div_bit]
  split <;> rfl
/-- The table of the worlds in which one says of another one so. -/
def askMask (p who whom : Nat) (yes : Bool) : Nat := tabN (2 ^ p) (sameKind who whom yes)
def asked (people t who whom : Int) (yes : Bool) : Int :=
  if tableOk people t = true ∧ 0 ≤ who ∧ who < people ∧ 0 ≤ whom ∧ whom < people then ((t.toNat &&& askMask people.toNat who.toNat whom.toNat yes : Nat) : Int) else -1
theorem tableOk_spec {people t : Int} (h : tableOk people t = true) : ∃ p n : Nat, people = p ∧ t = n ∧ 1 ≤ p ∧ p ≤ 4 ∧ n < 2 ^ 2 ^ p := by
  simp only [tableOk, peopleOk, Bool.and_eq_true, decide_eq_true_eq] at h
  obtain ⟨⟨⟨h1, h2⟩, h3⟩, h4⟩ := h
  refine ⟨people.toNat, t.toNat, by omega, by omega, by omega, by omega, ?_⟩
  generalize people.toNat = p at *
  have e : ((2 ^ 2 ^ p : Nat) : Int) = (2 : Int) ^ 2 ^ p := by simp
  rw [← e] at h4; omega
theorem table_small {p n : Nat} (hp : p ≤ 4) (h : n < 2 ^ 2 ^ p) : n < 65536 := by
  have : 2 ^ p ≤ 2 ^ 4 := Nat.pow_le_pow_right (by omega) hp
  have : 2 ^ 2 ^ p ≤ 2 ^ 2 ^ 4 := Nat.pow_le_pow_right (by omega) this
  have : (2 : Nat) ^ 2 ^ 4 = 65536 := by decide
  omega
end TL

/- Asked tables: the reference. -/
set_option linter.unusedSimpArgs false
set_option linter.unusedVariables false
set_option maxRecDepth 100000
set_option maxHeartbeats 4000000
set_option pp.maxSteps 1500
namespace TL
open Go Go.Proofs
attribute [local simp] marksV storyV codeV Claim.v Place.v
def Ia13 (N n who whom : Nat) (people : Int) (yes : Bool) (g : Nat → Bool) (e : Nat) (s : S) : Prop := ∃ w : Nat, s.tm 0 = .v (.int .i64 people) ∧ s.tm 1 = .v (.int .i64 n) ∧ s.tm 2 = .v (.int .i64 who) ∧ s.tm 3 = .v (.int .i64 whom) ∧ s.tm 4 = .v (.bool yes) ∧ s.tm 12 = .v (.int .i64 w) ∧ s.tm 11 = .v (.int .i64 (tabN w g)) ∧ w ≤ N ∧ (e = 1 → w = N)
theorem shl_fact {w : Nat} (h : w < 60) : IntKind.wrap .i64 (2 ^ min w IntKind.i64.bits) = (2 : Int) ^ w := by
  have h1 : (2 : Nat) ^ w ≤ 2 ^ 59 := Nat.pow_le_pow_right (by omega) (by omega)
  have e : ((2 ^ w : Nat) : Int) = (2 : Int) ^ w := by simp
  have h3 := Int.natCast_nonneg (2 ^ w)
  have h4 : ((2 ^ w : Nat) : Int) ≤ ((2 ^ 59 : Nat) : Int) := Int.ofNat_le.mpr h1
  rw [Nat.min_eq_left (by simp [IntKind.bits]; omega), ← e]
  generalize ((2 ^ w : Nat) : Int) = q at *
  rw [w64 (by omega) (by omega)]
end TL

/- Majorities, turned tables, drawn tables. -/
set_option linter.unusedSimpArgs false
set_option linter.unusedVariables false
set_option maxRecDepth 100000
set_option maxHeartbeats 4000000
set_option pp.maxSteps 1500
namespace TL
open Go Go.Proofs
attribute [local simp] marksV storyV codeV Claim.v Place.v
/-- How many bits are set. -/
def cnt (n : Nat) : Nat := if h : n = 0 then 0 else n % 2 + cnt (n / 2)
theorem cnt_step {n : Nat} (h : 0 < n) : cnt n = n % 2 + cnt (n / 2) := by rw [cnt, dif_neg (by omega)]
theorem cnt_zero : cnt 0 = 0 := by rw [cnt]; rfl
def Ihd (w : Nat) (e : Nat) (s : S) : Prop := ∃ x q : Nat, s.tm 0 = .v (.int .i64 x) ∧ s.tm 3 = .v (.int .i64 q) ∧ q + cnt x = cnt w ∧ q + x ≤ w ∧ (e = 1 → x = 0)
theorem l1Heads_fn (w : Nat) (hw : w < 4611686018427387904) : FnZ Tryz.prog 190 [.int .i64 w] (.int .i64 (cnt w)) := by
  refine FnZ_of (rs := [.tmp 2]) false Tryz.func190 rfl rfl rfl rfl (Nat.le_of_ble_eq_true rfl) ?_
  simp -dsimp
  refine twp_loopC (Ihd w 0) (fun s => natOf (s.tm 0)) (Ihd w 1) ?_ ?_ ?_
  · exact ⟨w, 0, by simp -dsimp, by simp -dsimp, by omega, by omega, by simp⟩
  · rintro s ⟨x, q, t0, t3, hq, hx, hend⟩
    by_cases h0 : 0 < x
    case neg =>
      simp -dsimp [t0, h0]
      exact ⟨x, q, by simp -dsimp [t0], by simp -dsimp [t3], hq, hx, fun _ => by omega⟩
    have e1 : (x : Int).tmod 2 = ((x % 2 : Nat) : Int) := by rw [Int.tmod_eq_emod_of_nonneg (by omega)]; omega
    have e2 : (x : Int).tdiv 2 = ((x / 2 : Nat) : Int) := by rw [Int.tdiv_eq_ediv_of_nonneg (by omega)]; omega
    have hs := cnt_step h0
    generalize hr : x % 2 = r at *
    generalize hy : x / 2 = y at *
    have w1 : IntKind.wrap .i64 ((q : Int) + r) = ((q + r : Nat) : Int) := by rw [w64 (by omega) (by omega)]; omega
    have w2 : IntKind.wrap .i64 (y : Int) = (y : Int) := by rw [w64 (by omega) (by omega)]
    have hmu : y < x := by omega
    simp -dsimp [t0, t3, h0, e1, e2, w1, w2, hmu]
    exact ⟨y, q + r, by simp -dsimp, by simp -dsimp, by omega, by omega, by simp⟩
  · rintro s ⟨x, q, t0, t3, hq, hx, hend⟩
    have := hend rfl
    subst this
    rw [cnt_zero] at hq
    have : q = cnt w := by omega
    subst this
    simp -dsimp [t3]
def majOf (p : Nat) : Nat := tabN (2 ^ p) fun w => decide (p < 2 * cnt w)
def majority (people : Int) : Int := if peopleOk people then (majOf people.toNat : Int) else -1
theorem cnt_le (w : Nat) : cnt w ≤ w := by
  induction w using Nat.strongRecOn with
  | _ w ih =>
    by_cases h : 0 < w
    · rw [cnt_step h]; have := ih (w / 2) (by omega); omega
    · have : w = 0 := by omega
      subst this; rw [cnt_zero]; omega
theorem peopleOk_spec {people : Int} (h : peopleOk people = true) : ∃ p : Nat, people = p ∧ 1 ≤ p ∧ p ≤ 4 := by
  simp only [peopleOk, Bool.and_eq_true, decide_eq_true_eq] at h
  exact ⟨people.toNat, by omega, by omega, by omega⟩
def Imaj (N : Nat) (p : Nat) (g : Nat → Bool) (e : Nat) (s : S) : Prop := ∃ w : Nat, s.tm 0 = .v (.int .i64 p) ∧ s.tm 4 = .v (.int .i64 w) ∧ s.tm 3 = .v (.int .i64 (tabN w g)) ∧ w ≤ N ∧ (e = 1 → w = N)
/-- The table in which everybody is the other way. -/
def turned (p n : Nat) : Nat := tabN (2 ^ p) fun j => n.testBit (2 ^ p - 1 - j)
def Itn (N n : Nat) (p : Nat) (e : Nat) (s : S) : Prop := ∃ w : Nat, s.tm 0 = .v (.int .i64 p) ∧ s.tm 1 = .v (.int .i64 n) ∧ s.tm 6 = .v (.int .i64 w) ∧ s.tm 5 = .v (.int .i64 (tabN N fun j => decide (N - 1 - j < w) && n.testBit (N - 1 - j))) ∧ w ≤ N ∧ (e = 1 → w = N)
theorem turn_step {N n w : Nat} (hw : w < N) : (tabN N fun j => decide (N - 1 - j < w + 1) && n.testBit (N - 1 - j)) = (tabN N fun j => decide (N - 1 - j < w) && n.testBit (N - 1 - j)) ||| ((if n.testBit w then 1 else 0) * 2 ^ (N - 1 - w)) := by
  apply Nat.eq_of_testBit_eq
  intro i
  rw [Nat.testBit_or, testBit_tabN, testBit_tabN]
  by_cases h1 : i < N
  · by_cases h2 : i = N - 1 - w
    · subst h2
      have e1 : N - 1 - (N - 1 - w) = w := by omega
      rw [e1]
      cases n.testBit w <;> simp [h1]
    · have e2 : (N - 1 - i < w + 1) ↔ (N - 1 - i < w) := by omega
      have e3 : ((if n.testBit w then 1 else 0) * 2 ^ (N - 1 - w)).testBit i = false := by
        cases n.testBit w
        · simp
        · simp [Nat.testBit_two_pow]; omega
      rw [e3]; simp [e2]
  · have e3 : ((if n.testBit w then 1 else 0) * 2 ^ (N - 1 - w)).testBit i = false := by
      cases n.testBit w
      · simp
      · simp [Nat.testBit_two_pow]; omega
    rw [e3]; simp [h1]
/-- Two numbers. -/
def SomeTwo (x : V) : Prop := ∃ a b : Int, x = .tup [.int .i64 a, .int .i64 b]
def Itb20 (bs : List UInt8) (p rid n0 : Nat) (m0 : Mem) (N : Nat) (thin : Int) (e : Nat) (s : S) : Prop := ∃ (w p' q : Nat) (x : Int), s.tm 0 = .ptr rid 0 ∧ s.tm 4 = .v (.int .i64 q) ∧ s.tm 5 = .v (.int .i64 x) ∧ s.tm 6 = .v (.int .i64 thin) ∧ s.tm 7 = .v (.int .i64 w) ∧ w ≤ N ∧ 1 ≤ q ∧ q ≤ 4 ∧ 2 ^ q = N ∧
  p ≤ p' ∧ p' ≤ p + w ∧ n0 ≤ s.n ∧ s.m = updM m0 rid (some (rdB bs p')) ∧ (e = 1 → w = N)
/-- A number of people, a table, two of them and an answer. -/
def SomeAsk (x : V) : Prop := ∃ (a b c d : Int) (e : Bool), x = .tup [.int .i64 a, .int .i64 b, .int .i64 c, .int .i64 d, .bool e]
end TL
