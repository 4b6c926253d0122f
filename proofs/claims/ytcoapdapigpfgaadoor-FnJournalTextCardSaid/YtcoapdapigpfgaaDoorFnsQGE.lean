/- TL: parts FnsQE7, FnsQL2, FnsQE8, FnsQE9, FnsQE10. -/
import Derived.Test.YtcoapdapigpfgaaDoorFnsQE4
import Derived.Lib.Split
import Derived.Lib.SplitLaws
import Derived.Test.YtcoapdapigpfgaaDoorFnsQL1
import Derived.Test.YtcoapdapigpfgaaDoorFnsQGD
import Derived.Test.YtcoapdapigpfgaaDoorFnsQGB
/- Reading places: the plain part. -/
set_option linter.unusedSimpArgs false
set_option linter.unusedVariables false
set_option maxRecDepth 100000
namespace TL
/-- Cut at every such sign. -/
def cutGo (c : UInt8) : List UInt8 → List UInt8 → List (List UInt8)
  | acc, [] => [acc]
  | acc, x :: xs => if x = c then acc :: cutGo c [] xs else cutGo c (acc ++ [x]) xs
def cutAt (c : UInt8) (s : List UInt8) : List (List UInt8) := cutGo c [] s
theorem cutGo_clean {c : UInt8} : ∀ (x acc r : List UInt8), (∀ y ∈ x, y ≠ c) → cutGo c acc (x ++ r) = cutGo c (acc ++ x) r
  | [], acc, r, _ => by simp
  | y :: x, acc, r, h => by
    have h1 : y ≠ c := h y (List.mem_cons_self ..)
    rw [List.cons_append]
    show (if y = c then _ else _) = _
    rw [if_neg h1, cutGo_clean x _ r fun z hz => h z (List.mem_cons_of_mem _ hz)]
    simp
theorem cutAt_app {c : UInt8} {x r : List UInt8} (h : ∀ y ∈ x, y ≠ c) : cutAt c (x ++ c :: r) = x :: cutAt c r := by
  unfold cutAt
  rw [cutGo_clean x [] _ h]
  show (if c = c then _ else _) = _
  rw [if_pos rfl]; rfl
theorem cutAt_none {c : UInt8} {x : List UInt8} (h : ∀ y ∈ x, y ≠ c) : cutAt c x = [x] := by
  have := cutGo_clean x [] [] h
  rw [List.append_nil] at this
  unfold cutAt; rw [this]; rfl
theorem cut_first (c : UInt8) : ∀ s : List UInt8, (∀ y ∈ s, y ≠ c) ∨ ∃ x r, s = x ++ c :: r ∧ ∀ y ∈ x, y ≠ c
  | [] => .inl (by simp)
  | y :: s => by
    by_cases h : y = c
    · exact .inr ⟨[], s, by rw [h]; rfl, by simp⟩
    · rcases cut_first c s with h1 | ⟨x, r, h1, h2⟩
      · exact .inl fun z hz => by
          rcases List.mem_cons.1 hz with rfl | hz
          · exact h
          · exact h1 z hz
      · exact .inr ⟨y :: x, r, by rw [h1]; rfl, fun z hz => by
          rcases List.mem_cons.1 hz with rfl | hz
          · exact h
          · exact h2 z hz⟩
theorem cutGo_len (c : UInt8) : ∀ s acc, (cutGo c acc s).length ≤ s.length + 1
  | [], acc => by simp [cutGo]
  | x :: s, acc => by
    show (if x = c then acc :: cutGo c [] s else cutGo c (acc ++ [x]) s).length ≤ _
    have h1 := cutGo_len c s []
    have h2 := cutGo_len c s (acc ++ [x])
    split
    · simp only [List.length_cons]; omega
    · simp only [List.length_cons]; omega
theorem cutAt_len (c : UInt8) (s : List UInt8) : (cutAt c s).length ≤ s.length + 1 := cutGo_len c s []
theorem cutGo_piece (c : UInt8) : ∀ s acc, ∀ x ∈ cutGo c acc s, x.length ≤ acc.length + s.length
  | [], acc, x, h => by
    cases List.mem_singleton.1 h; simp
  | y :: s, acc, x, h => by
    have h : x ∈ (if y = c then acc :: cutGo c [] s else cutGo c (acc ++ [y]) s) := h
    split at h
    · rcases List.mem_cons.1 h with rfl | h
      · simp
      · have := cutGo_piece c s [] x h; simp at this ⊢; omega
    · have := cutGo_piece c s _ x h; simp at this ⊢; omega
theorem cutAt_piece {c : UInt8} {s x : List UInt8} (h : x ∈ cutAt c s) : x.length ≤ s.length := by
  have := cutGo_piece c s [] x h; simpa using this
theorem occ_head {c : UInt8} {s : List UInt8} {j : Nat} : Go.Lib.occAt s [c] j = (s[j]? == some c) := by
  unfold Go.Lib.occAt
  have e : (s.drop j).head? = s[j]? := by simp
  cases h : s.drop j with
  | nil => rw [h] at e; rw [← e]; rfl
  | cons y r =>
    rw [h] at e; rw [← e]
    simp only [List.isPrefixOf, List.head?_cons, Bool.and_true]
    by_cases hy : c = y
    · simp [hy]
    · have hy2 : ¬ y = c := fun h => hy h.symm
      have e1 : (c == y) = false := by simp [hy]
      rw [e1]; simp [hy2]
theorem index_clean {c : UInt8} {s : List UInt8} (h : ∀ y ∈ s, y ≠ c) : Go.Lib.index s [c] = -1 := by
  refine Go.Lib.index_none fun j _ => ?_
  rw [occ_head]
  cases e : s[j]? with
  | none => rfl
  | some y => have := h y (List.mem_of_getElem? e); simpa using this
theorem index_at {c : UInt8} {x r : List UInt8} (h : ∀ y ∈ x, y ≠ c) : Go.Lib.index (x ++ c :: r) [c] = (x.length : Nat) := by
  refine Go.Lib.index_first (by simp) ?_ fun j hj => ?_
  · rw [occ_head]; simp
  · rw [occ_head, List.getElem?_append_left hj]
    have := h x[j] (List.getElem_mem hj)
    simpa [hj] using this
theorem splitK_cut (c : UInt8) : ∀ (n : Nat) (s : List UInt8), s.length ≤ n → Go.Lib.splitK [c] 0 (Go.Lib.count s [c]) s = cutAt c s
  | n, s, hn => by
    rcases cut_first c s with h | ⟨x, r, rfl, h⟩
    · rw [cutAt_none h, Go.Lib.count_miss (index_clean h)]; rfl
    · have hi := index_at (r := r) h
      have hne : ([c] : List UInt8) ≠ [] := by simp
      have hd : (x ++ c :: r).drop (x.length + [c].length) = r := by
        rw [List.drop_append, List.drop_of_length_le (by simp)]; simp
      rw [cutAt_app h, Go.Lib.count_hit hne hi, hd, Nat.add_comm, Go.Lib.splitK, hi]
      rw [if_neg (by simp)]
      have e1 : ((x.length : Nat) : Int).toNat = x.length := by omega
      rw [e1, hd, Nat.add_zero]
      cases n with
      | zero => simp at hn
      | succ n =>
        rw [splitK_cut c n r (by simp at hn; omega)]
        congr 1
        rw [List.take_append_of_le_length (Nat.le_refl _), List.take_length]
theorem split_is_cut (c : UInt8) (s : List UInt8) : Go.Lib.splitK [c] 0 (Go.Lib.count s [c]) s = cutAt c s := splitK_cut c s.length s (Nat.le_refl _)
theorem cut_join {c : UInt8} : ∀ (xs : List (List UInt8)) (x : List UInt8), (∀ y ∈ x, y ≠ c) → (∀ z ∈ xs, ∀ y ∈ z, y ≠ c) → cutAt c (Go.Lib.join (x :: xs) [c]) = x :: xs
  | [], x, h, _ => by rw [Go.Lib.join_one]; exact cutAt_none h
  | z :: xs, x, h, hs => by
    have e : Go.Lib.join (x :: z :: xs) [c] = x ++ c :: Go.Lib.join (z :: xs) [c] := by
      rw [Go.Lib.join_cons, Go.Lib.join_cons]
      simp [Go.Lib.joinTail]
    rw [e, cutAt_app h, cut_join xs z (hs z (List.mem_cons_self ..)) fun w hw => hs w (List.mem_cons_of_mem _ hw)]
/-! Claims' texts. -/
theorem ofNat_plain {w : Int} (h0 : 0 ≤ w) (h4 : w < 4) : plain (UInt8.ofNat (97 + w.toNat)) := by
  rcases (by omega : w = 0 ∨ w = 1 ∨ w = 2 ∨ w = 3) with rfl | rfl | rfl | rfl <;> exact ⟨by decide, by decide, by decide, by decide, by decide⟩
theorem claimTx_clean {people : Int} {c : Claim} (h : claimOk people c = true) : ∀ y ∈ claimTx people c, y ≠ 44 ∧ y ≠ 32 ∧ y ≠ 10 ∧ y ≠ 46 := by
  obtain ⟨h1, h2, h3, h4, h5, h6⟩ := claimOk_all h
  intro y hy
  unfold claimTx at hy
  rw [if_pos h] at hy
  rcases List.mem_cons.1 hy with rfl | hy
  · have := ofNat_plain h3 (by omega); exact ⟨this.2.2.1, this.1, this.2.1, this.2.2.2.1⟩
  rcases List.mem_cons.1 hy with rfl | hy
  · exact ⟨by decide, by decide, by decide, by decide⟩
  · have := termText_plain h5 y hy; exact ⟨this.2.2.1, this.1, this.2.1, this.2.2.2.1⟩
theorem join_mem {y c : UInt8} : ∀ (xs : List (List UInt8)), y ∈ Go.Lib.join xs [c] → y = c ∨ ∃ x ∈ xs, y ∈ x
  | [], h => by rw [Go.Lib.join_nil] at h; simp at h
  | [x], h => by rw [Go.Lib.join_one] at h; exact .inr ⟨x, by simp, h⟩
  | x :: z :: xs, h => by
    have e : Go.Lib.join (x :: z :: xs) [c] = x ++ c :: Go.Lib.join (z :: xs) [c] := by
      rw [Go.Lib.join_cons, Go.Lib.join_cons]
      simp [Go.Lib.joinTail]
    rw [e] at h
    rcases List.mem_append.1 h with h | h
    · exact .inr ⟨x, by simp, h⟩
    rcases List.mem_cons.1 h with h | h
    · exact .inl h
    · rcases join_mem _ h with h | ⟨w, hw, h⟩
      · exact .inl h
      · exact .inr ⟨w, List.mem_cons_of_mem _ hw, h⟩
theorem story_cut {people : Int} {l : List Claim} (hl : l ≠ []) (h : ∀ c ∈ l, claimOk people c = true) : cutAt 44 (storyTx people l) = l.map (claimTx people) := by
  cases l with
  | nil => exact absurd rfl hl
  | cons c l =>
    unfold storyTx
    rw [List.map_cons]
    refine cut_join _ _ (fun y hy => (claimTx_clean (h c (List.mem_cons_self ..)) y hy).1) fun z hz y hy => ?_
    obtain ⟨d, hd, rfl⟩ := List.mem_map.1 hz
    exact (claimTx_clean (h d (List.mem_cons_of_mem _ hd)) y hy).1
theorem story_plain {people : Int} {l : List Claim} (h : ∀ c ∈ l, claimOk people c = true) : ∀ y ∈ storyTx people l, y ≠ 32 ∧ y ≠ 10 ∧ y ≠ 46 := fun y hy => by
  rcases join_mem _ hy with rfl | ⟨x, hx, hy⟩
  · exact ⟨by decide, by decide, by decide⟩
  · obtain ⟨d, hd, rfl⟩ := List.mem_map.1 hx
    have := claimTx_clean (h d hd) y hy
    exact ⟨this.2.1, this.2.2.1, this.2.2.2⟩
theorem story_reads {people : Int} {l : List Claim} (hl : l ≠ []) (h : ∀ c ∈ l, claimOk people c = true) : (cutAt 44 (storyTx people l)).map (readC people) = l.map some := by
  rw [story_cut hl h, List.map_map]
  exact List.map_congr_left fun c hc => readC_text (h c hc)
/-- What stands behind the blank. -/
noncomputable def restTx (p : Place) : List UInt8 := if p.story = [] then [46] else storyTx p.people p.story
theorem dec_digit {n : Int} (h0 : 1 ≤ n) (h4 : n ≤ 4) : dec n = [UInt8.ofNat (48 + n.toNat)] := by
  unfold dec Go.Lib.decDigits; rcases (by omega : n = 1 ∨ n = 2 ∨ n = 3 ∨ n = 4) with rfl | rfl | rfl | rfl <;> rfl
theorem placeTx_shape {p : Place} (h : placeOk p = true) : placeTx p = UInt8.ofNat (48 + p.people.toNat) :: 32 :: restTx p := by
  obtain ⟨h1, h2, _, _⟩ := placeOk_all h
  unfold placeTx restTx
  rw [if_pos h, dec_digit h1 h2]; rfl
theorem story_pos {p : Place} (h : placeOk p = true) (hs : p.story ≠ []) : 3 ≤ (storyTx p.people p.story).length := by
  obtain ⟨h1, h2, _, h4⟩ := placeOk_all h
  obtain ⟨people, story⟩ := p
  cases story with
  | nil => exact absurd rfl hs
  | cons c l =>
    have := (claimTx_len (h4 c (List.mem_cons_self ..))).1
    unfold storyTx
    rw [List.map_cons, Go.Lib.join_cons]
    simp only [List.length_append]; simp only at this ⊢; omega
theorem restTx_dot {p : Place} (h : placeOk p = true) : restTx p = [46] ↔ p.story = [] := by
  unfold restTx
  constructor
  · intro e
    by_cases hs : p.story = []
    · exact hs
    · rw [if_neg hs] at e
      have := story_pos h hs; rw [e] at this; simp at this
  · intro e; rw [if_pos e]
theorem restTx_pos {p : Place} (h : placeOk p = true) : restTx p ≠ [] := by
  unfold restTx
  split
  · simp
  · rename_i hs; intro e; have := story_pos h hs; rw [e] at this; simp at this
theorem restTx_plain {p : Place} (h : placeOk p = true) : ∀ y ∈ restTx p, y ≠ 32 ∧ y ≠ 10 := by
  obtain ⟨_, _, _, h4⟩ := placeOk_all h
  unfold restTx
  split
  · intro y hy; cases List.mem_singleton.1 hy; exact ⟨by decide, by decide⟩
  · intro y hy; have := story_plain h4 y hy; exact ⟨this.1, this.2.1⟩
theorem rest_reads {p : Place} (h : placeOk p = true) (hd : restTx p ≠ [46]) : (cutAt 44 (restTx p)).map (readC p.people) = p.story.map some := by
  obtain ⟨_, _, _, h4⟩ := placeOk_all h
  have hs : p.story ≠ [] := fun e => hd ((restTx_dot h).2 e)
  unfold restTx
  rw [if_neg hs]
  exact story_reads hs h4
theorem digit_inj {a b : Int} (ha : 1 ≤ a) (ha4 : a ≤ 4) (hb : 1 ≤ b) (hb4 : b ≤ 4) (h : UInt8.ofNat (48 + a.toNat) = UInt8.ofNat (48 + b.toNat)) : a = b := by
  have := congrArg UInt8.toNat h
  rw [UInt8.toNat_ofNat', UInt8.toNat_ofNat'] at this; omega
theorem map_some_inj {l m : List Claim} (h : l.map some = m.map some) : l = m := by
  have := congrArg (List.filterMap id) h
  simpa [List.filterMap_map] using this
theorem placeTx_inj {p q : Place} (hp : placeOk p = true) (hq : placeOk q = true) (h : placeTx p = placeTx q) : p = q := by
  rw [placeTx_shape hp, placeTx_shape hq] at h
  obtain ⟨a1, a2, _, _⟩ := placeOk_all hp
  obtain ⟨b1, b2, _, _⟩ := placeOk_all hq
  have h1 := (List.cons.inj h).1
  have h2 := (List.cons.inj (List.cons.inj h).2).2
  have e1 := digit_inj a1 a2 b1 b2 h1
  have e2 : p.story = q.story := by
    by_cases hd : restTx p = [46]
    · rw [(restTx_dot hp).1 hd, (restTx_dot hq).1 (by rw [← h2]; exact hd)]
    · have r1 := rest_reads hp hd
      have r2 := rest_reads hq (by rw [← h2]; exact hd)
      rw [← h2, ← e1, r1] at r2
      exact map_some_inj r2
  obtain ⟨pp, ps⟩ := p
  obtain ⟨qp, qs⟩ := q
  simp only at e1 e2
  rw [e1, e2]
theorem placeTx_pos {p : Place} (h : placeOk p = true) : placeTx p ≠ [] := by rw [placeTx_shape h]; simp
theorem placeTx_ok {p : Place} (h : placeTx p ≠ []) : placeOk p = true := by
  have hk := ft (placeOk p)
  rcases hk with hk | hk
  · exact absurd (placeTx_no hk) h
  · exact hk
/-- What ReadPlace finds. -/
noncomputable def readP (s : List UInt8) : Option Place := by
  classical exact if h : ∃ p, placeOk p = true ∧ placeTx p = s then some (Classical.choose h) else none
theorem readP_some {s : List UInt8} {p : Place} (h : placeOk p = true) (hs : placeTx p = s) : readP s = some p := by
  have hx : ∃ p, placeOk p = true ∧ placeTx p = s := ⟨p, h, hs⟩
  unfold readP; rw [dif_pos hx]
  have := Classical.choose_spec hx
  exact congrArg some (placeTx_inj this.1 h (by rw [this.2, hs]))
theorem readP_is {s : List UInt8} {p : Place} (h : readP s = some p) : placeOk p = true ∧ placeTx p = s := by
  unfold readP at h
  split at h
  · rename_i hx; cases h; exact Classical.choose_spec hx
  · cases h
theorem readP_none {s : List UInt8} (h : ∀ p, placeOk p = true → placeTx p ≠ s) : readP s = none := by
  unfold readP; rw [dif_neg]; rintro ⟨p, h1, h2⟩; exact h p h1 h2
/-- How a text falls apart. -/
def parts (s : List UInt8) (D : Int) (rest : List UInt8) : Prop := s ≠ [] ∧ ∀ p, placeOk p = true → placeTx p = s → D = p.people ∧ rest = restTx p
theorem readP_piece {s rest : List UInt8} {D : Int} (h : parts s D rest) (hd : rest ≠ [46]) (x : List UInt8) (hx : x ∈ cutAt 44 rest) (hn : readC D x = none) : readP s = none := by
  refine readP_none fun p hp hs => ?_
  obtain ⟨rfl, rfl⟩ := h.2 p hp hs
  have := rest_reads hp hd
  have hm : readC p.people x ∈ (cutAt 44 (restTx p)).map (readC p.people) := List.mem_map_of_mem hx
  rw [this, hn] at hm
  simp at hm
theorem readP_end {s rest : List UInt8} {D : Int} {l : List Claim} (h : parts s D rest) (hl : rest = [46] ∧ l = [] ∨ rest ≠ [46] ∧ (cutAt 44 rest).map (readC D) = l.map some) :
    readP s = if placeTx ⟨D, l⟩ = s then some ⟨D, l⟩ else none := by
  split
  · rename_i hs
    exact readP_some (placeTx_ok (by rw [hs]; exact h.1)) hs
  · rename_i hne
    refine readP_none fun p hp hs => hne ?_
    obtain ⟨rfl, rfl⟩ := h.2 p hp hs
    have e : p.story = l := by
      rcases hl with ⟨h1, h2⟩ | ⟨h1, h2⟩
      · rw [h2]; exact (restTx_dot hp).1 h1
      · rw [rest_reads hp h1] at h2; exact map_some_inj h2
    rw [← e]; exact hs
theorem parts_one {a : UInt8} {rest : List UInt8} : parts (a :: 32 :: rest) ((a.toNat : Int) - 48) rest := ⟨by simp, fun p hp hs => by
  obtain ⟨h1, h2, _, _⟩ := placeOk_all hp
  rw [placeTx_shape hp] at hs
  have e1 := (List.cons.inj hs).1
  have e2 := (List.cons.inj (List.cons.inj hs).2).2
  refine ⟨?_, e2.symm⟩
  have := congrArg UInt8.toNat e1
  rw [UInt8.toNat_ofNat'] at this; omega⟩
end TL

/- The library's functions, off the shelf: texts split. -/
set_option linter.unusedSimpArgs false
set_option linter.unusedVariables false
set_option maxRecDepth 100000
namespace TL
open Go Go.Proofs Go.RowKit
section
variable {P : Program}
theorem strs_new {Z : Zs} {w : World} : ∀ (bs : List ByteArray), RepEs Z w 1 ((bs.map (·.data.toList)).map V.str) (bs.map Value.string)
  | [] => .nil 1
  | b :: bs => .one rfl (.str rfl) (strs_new bs)
theorem strs_alloc {Z : Zs} {w : World} (bs : List ByteArray) (t : TypeId) (hl : bs.length ≤ maxLen) :
    RepV (freshZ Z w.heap.size (w.alloc (.cells (bs.map Value.string).toArray t)).heap.size) (w.alloc (.cells (bs.map Value.string).toArray t)) (.sl ((bs.map (·.data.toList)).map V.str)) (.slice (some ⟨w.heap.size, 0, none⟩) bs.length bs.length) := by
  refine .sl (strs_new bs) (by simp) (Nat.le_refl _) hl fun i u hu => ?_
  rw [add_lit]
  refine ⟨?_, .inr ⟨Nat.le_refl _, ?_⟩⟩
  · rw [World.cell?_alloc_new]
    simpa using hu
  · show w.heap.size < (w.heap.push _).size
    simp
theorem split_FnZ {ρ : Go.Shelf.Ren} (L : Go.Proofs.Lays.n146 P ρ) (hi9 : (P.info? (ρ.t 9)).map (fun i => (i.zero, i.size, i.bytes)) = some (some (.string ByteArray.empty), 1, 16)) (hf : ∃ fn, P.funcs[ρ.f 146]? = some fn ∧ (fn.name == "runtime.NumGoroutine") = false ∧ fn.body.isNone = false)
    (hg : P.globalNamed "internal/bytealg.MaxLen" = some (ρ.g 1)) (s : List UInt8) (c : UInt8) (hs : s.length < 4294967281) : FnZ P (ρ.f 146) [.str s, .str [c]] (.sl ((cutAt c s).map V.str)) := by
  refine FnZ_calls hf fun Z w vs hz hv => ?_
  cases hv with | cons h1 hv => cases hv with | cons h2 hv => cases hv with | nil =>
    cases h1 with
    | @str _ b hb =>
      cases h2 with
      | @str _ bsep hb2 =>
        have hq : GQ P (ρ.g 1) (fun v => ∃ m, v = .int .i64 m) := GQ.maxLen hg
        obtain ⟨_, v, hc, m, rfl⟩ := hz.gl _ _ hq
        have hsz : b.size = s.length := by rw [← hb]; rfl
        have hsz2 : bsep.size = 1 := by have := congrArg List.length hb2; simpa using this
        have e1 : (Go.Lib.splitB bsep 0 (Go.Lib.countB b bsep) b).map (·.data.toList) = cutAt c s := by
          rw [Go.Lib.splitB_data]
          show Go.Lib.splitK bsep.data.toList 0 (Go.Lib.count b.data.toList bsep.data.toList) b.data.toList = _
          rw [hb, hb2]; exact split_is_cut c s
        have hlen := Go.Lib.splitB_all bsep (by omega) 0 _ b rfl
        have hle := cutAt_len c s
        have hlen2 : (Go.Lib.splitB bsep 0 (Go.Lib.countB b bsep) b).length = (cutAt c s).length := by rw [← e1, List.length_map]
        refine calls_mono (Any.strings_Split L hi9 b bsep m w (by omega) hc (by omega)) ?_
        rintro e w' ⟨rfl, rfl⟩
        refine ⟨_, rfl, (Below.refl _ _).alloc (Nat.le_refl _) _, ?_⟩
        rw [← hlen, ← e1]
        exact strs_alloc _ _ (by rw [hlen2]; simp only [maxLen]; omega)
end
theorem split_fn (s : List UInt8) (c : UInt8) (hs : s.length < 4294967281) : FnZ Tryd.prog 69 [.str s, .str [c]] (.sl ((cutAt c s).map V.str)) :=
  split_FnZ Tryd.lays146 (by kernel_rfl) ⟨_, Tryd.func69, rfl, rfl⟩ (by kernel_rfl) s c hs
end TL

/- Reading places: the program. -/
set_option linter.unusedSimpArgs false
set_option linter.unusedVariables false
set_option maxRecDepth 100000
set_option maxHeartbeats 4000000
set_option pp.maxSteps 1500
namespace TL
open Go Go.Proofs
attribute [local simp] marksV storyV codeV Claim.v Place.v
def optP (o : Option Place) : V := .tup [(o.getD ⟨0, []⟩).v, .bool o.isSome]
theorem readP_short {s : List UInt8} (h : s.length < 3) : readP s = none := readP_none fun p hp hs => by
  rw [placeTx_shape hp] at hs
  have := restTx_pos hp
  have h1 := List.length_pos_iff.2 this
  rw [← hs] at h; simp only [List.length_cons] at h; omega
theorem readP_blank {a b : UInt8} {s : List UInt8} (h : b ≠ 32) : readP (a :: b :: s) = none := readP_none fun p hp hs => by
  rw [placeTx_shape hp] at hs
  exact h (List.cons.inj (List.cons.inj hs).2).1.symm
theorem reads_next {D : Int} {ps : List (List UInt8)} {i : Nat} {l : List Claim} {c : Claim} (hi : i < ps.length) (h : (ps.take i).map (readC D) = l.map some) (hc : readC D ps[i] = some c) : (ps.take (i + 1)).map (readC D) = (l ++ [c]).map some := by
  rw [List.take_succ_eq_append_getElem hi, List.map_append, List.map_append, h]
  simp [hc]
theorem reads_len {D : Int} {ps : List (List UInt8)} {i : Nat} {l : List Claim} (h : (ps.take i).map (readC D) = l.map some) : l.length ≤ i := by
  have := congrArg List.length h
  rw [List.length_map, List.length_map, List.length_take] at this; omega
def Irp (s rest : List UInt8) (D : Int) (e : Nat) (x : S) : Prop := ∃ (i : Nat) (l : List Claim) (row : T), x.tm 0 = .v (.str s) ∧ x.tm 2 = .ptr 0 0 ∧ x.m 0 = some (.box 36 2 [.v (.int .i64 0), .nil]) ∧ x.tm 4 = .ptr 1 0 ∧
  x.m 1 = some (.box 36 2 [.v (.int .i64 D), row]) ∧ (row = .nil ∧ l = [] ∨ ∃ id, row = .loc id ∧ 1 < id ∧ id < x.n ∧ x.m id = some (.arr 80 (l.map Claim.v))) ∧
  x.tm 28 = .v (.sl ((cutAt 44 rest).map V.str)) ∧ x.tm 29 = .v (.int .i64 (cutAt 44 rest).length) ∧ x.tm 30 = .v (.int .i64 i) ∧ x.mu = false ∧ 1 < x.n ∧ i ≤ (cutAt 44 rest).length ∧ ((cutAt 44 rest).take i).map (readC D) = l.map some ∧ (e = 1 → i = (cutAt 44 rest).length)
theorem readPlace_fn (s : List UInt8) (hl : s.length ≤ 2000000000) : FnZ Tryd.prog 35 [.str s] (optP (readP s)) := by
  by_cases h3 : s.length < 3
  · have h3' : (s.length : Int) < 3 := by omega
    rw [readP_short h3]
    refine FnZ_of (rs := [.cell 2 36, .tmp 3]) false Tryd.func35 rfl rfl rfl rfl (Nat.le_of_ble_eq_true rfl) ?_
    simp -dsimp [h3, h3', optP]
  match s, h3, hl with
  | [], h3, hl => simp at h3
  | [a], h3, hl => simp at h3
  | a :: b :: rest, h3, hl =>
    have h3' : ¬ ((rest.length : Int) + 1 + 1 < 3) := by simp at h3; omega
    have hls : rest.length ≤ 2000000000 := by simp at hl; omega
    have l2 : (2 : Int) ≤ (rest.length : Int) + 1 + 1 := by omega
    have l3 : ((rest.length : Int) + 1 + 1).toNat = rest.length + 1 + 1 := by omega
    have l4 : (0 : Int) < (rest.length : Int) + 1 + 1 := by omega
    have l5 : (1 : Int) < (rest.length : Int) + 1 + 1 := by omega
    by_cases hb : b = 32
    case neg =>
      have hb' : ¬ (b.toNat : Int) = 32 := fun h => hb (UInt8.toNat.inj (by show b.toNat = 32; omega))
      rw [readP_blank hb]
      refine FnZ_of (rs := [.cell 2 36, .tmp 3]) false Tryd.func35 rfl rfl rfl rfl (Nat.le_of_ble_eq_true rfl) ?_
      simp -dsimp [h3', l4, l5, hb', optP]
    subst hb
    have hlt := UInt8.toNat_lt a
    have w1 : IntKind.wrap .i64 ((a.toNat : Int) - 48) = (a.toNat : Int) - 48 := w64 (by omega) (by omega)
    have w2 : IntKind.wrap .i64 (a.toNat : Int) = (a.toNat : Int) := w64 (by omega) (by omega)
    have hpt := parts_one (a := a) (rest := rest)
    have hsl : (a :: 32 :: rest).length = rest.length + 1 + 1 := rfl
    generalize hD : (a.toNat : Int) - 48 = D at *
    by_cases hd : rest = [46]
    · have he := readP_end (l := []) hpt (.inl ⟨hd, rfl⟩)
      have hT := placeText_fn ⟨D, []⟩ (by simp)
      rw [he]
      subst hd
      clear he hpt
      generalize placeTx ⟨D, []⟩ = tx at *
      refine FnZ_of (rs := [.cell 2 36, .tmp 3]) false Tryd.func35 rfl rfl rfl rfl (Nat.le_of_ble_eq_true rfl) ?_
      by_cases hx : tx = [a, 32, 46]
      · simp -dsimp [w1, w2, hD]
        refine call_ hT (by simp -dsimp) ?_
        simp -dsimp [hx, optP]
      · simp -dsimp [w1, w2, hD]
        refine call_ hT (by simp -dsimp) ?_
        simp -dsimp [hx, optP]
    have hsp := split_fn rest 44 (by omega)
    refine FnZ_of (rs := [.cell 2 36, .tmp 3]) false Tryd.func35 rfl rfl rfl rfl (Nat.le_of_ble_eq_true rfl) ?_
    simp -dsimp [h3', l2, l3, l4, l5, w1, w2, hD, hd]
    refine call_ hsp (by simp -dsimp) ?_
    simp -dsimp [h3', l2, l3, l4, l5, w1, w2, hD, hd]
    refine twp_loopC (Irp (a :: 32 :: rest) rest D 0) (fun x => (cutAt 44 rest).length - natOf (x.tm 30)) (Irp (a :: 32 :: rest) rest D 1) ?_ ?_ ?_
    · exact ⟨0, [], .nil, by simp -dsimp, by simp -dsimp, by simp -dsimp, by simp -dsimp, by simp -dsimp, .inl ⟨rfl, rfl⟩, by simp -dsimp, by simp -dsimp, by simp -dsimp, by simp -dsimp, by simp -dsimp, by omega, by simp, by simp⟩
    · rintro x ⟨i, l, row, t0, t2, m0, t4, m1, hrow, t28, t29, t30, hmu, hn, hi, hrd, hend⟩
      by_cases hlt : i < (cutAt 44 rest).length
      case neg =>
        simp -dsimp [t29, t30, hlt]
        exact ⟨i, l, row, by simp -dsimp [t0], by simp -dsimp [t2], by simp -dsimp [m0], by simp -dsimp [t4], by simp -dsimp [m1], by simpa -dsimp using hrow, by simp -dsimp [t28], by simp -dsimp [t29], by simp -dsimp [t30], by simp -dsimp [hmu], by simp -dsimp [hn], hi, hrd, fun _ => by omega⟩
      have hget : ((cutAt 44 rest).map V.str)[i]? = some (.str (cutAt 44 rest)[i]) := by simp [hlt]
      have wi : IntKind.wrap .i64 ((i : Int) + 1) = ((i + 1 : Nat) : Int) := by
        have := cutAt_len 44 rest
        rw [w64 (by omega) (by omega)]; omega
      have hmu1 : (cutAt 44 rest).length - (i + 1) < (cutAt 44 rest).length - i := by omega
      have hpl := cutAt_piece (List.getElem_mem hlt)
      have hrc := readClaim_fn D (cutAt 44 rest)[i] (by omega)
      have hmem := List.getElem_mem hlt
      have hnx : ∀ c, readC D (cutAt 44 rest)[i] = some c → _ := fun c => reads_next (c := c) hlt hrd
      have hno := readP_piece hpt hd _ hmem
      have hll := reads_len hrd
      have hcl := cutAt_len 44 rest
      have f0 := far (show 0 < x.n by omega)
      have f1 := far hn
      generalize readC D (cutAt 44 rest)[i] = o at *
      cases o with
      | none =>
        rw [hno rfl]
        simp -dsimp [t28, t29, t30, t4, m1, hlt, hget, f1]
        refine call_ hrc (by simp -dsimp) ?_
        simp -dsimp [optC, optP, t2, m0, f0, f1]
      | some c =>
        have hn1 := hnx c rfl
        clear hnx hno
        rcases hrow with ⟨rfl, rfl⟩ | ⟨id, rfl, hid1, hid, hm⟩
        · simp -dsimp [t28, t29, t30, t4, m1, hlt, hget, f1]
          refine call_ hrc (by simp -dsimp) ?_
          simp -dsimp [optC, optP, t2, t4, t30, m0, m1, hmu, f0, f1, wi, hmu1, nes]
          refine st_out fun s' ht hm' hn' hu' => ?_
          have a0 := ht 0
          have a2 := ht 2
          have a4 := ht 4
          have a28 := ht 28
          have a29 := ht 29
          have a30 := ht 30
          simp -dsimp [t0, t2, t4, t28, t29, wi] at a0 a2 a4 a28 a29 a30 hm' hn' hu'
          clear ht
          refine ⟨i + 1, _, .loc (x.n + 1 + 1 + 1), a0, a2, by simp [hm', f0, nes, m0], a4, by simp [hm', f1, nes, m1], .inr ⟨_, rfl, by omega, by omega, ?_⟩, a28, a29, a30, by rw [hu', hmu], by omega, by omega, hn1, by simp⟩
          simp [hm', nes]
        · have f2 := far hid
          have g0 : ¬ id = 0 := by omega
          have g1 : ¬ id = 1 := by omega
          have b1 : (l.length + 1) * 32 ≤ 140737488355328 := by omega
          simp -dsimp [t28, t29, t30, t4, m1, hlt, hget, f1]
          refine call_ hrc (by simp -dsimp) ?_
          simp -dsimp [optC, optP, t2, t4, t30, m0, m1, hm, hmu, f0, f1, f2, b1, wi, hmu1, nes, g0, g1, Ne.symm g0, Ne.symm g1]
          refine st_out fun s' ht hm' hn' hu' => ?_
          have a0 := ht 0
          have a2 := ht 2
          have a4 := ht 4
          have a28 := ht 28
          have a29 := ht 29
          have a30 := ht 30
          simp -dsimp [t0, t2, t4, t28, t29, wi] at a0 a2 a4 a28 a29 a30 hm' hn' hu'
          clear ht
          refine ⟨i + 1, _, .loc (x.n + 1 + 1 + 1), a0, a2, by simp [hm', f0, nes, Ne.symm g0, Ne.symm g1, f0, m0], a4, by simp [hm', f1, nes, Ne.symm g1, f1, m1], .inr ⟨_, rfl, by omega, by omega, ?_⟩, a28, a29, a30, by rw [hu', hmu], by omega, by omega, hn1, by simp⟩
          simp [hm', nes]
    · rintro x ⟨i, l, row, t0, t2, m0, t4, m1, hrow, t28, t29, t30, hmu, hn, hi, hrd, hend⟩
      have hil := hend rfl
      have hll := reads_len hrd
      have hcl := cutAt_len 44 rest
      rw [hil, List.take_length] at hrd
      have he := readP_end hpt (.inr ⟨hd, hrd⟩)
      have hT := placeText_fn ⟨D, l⟩ (by simp only; omega)
      rw [he]
      clear he hpt
      generalize placeTx ⟨D, l⟩ = tx at *
      have f0 := far (show 0 < x.n by omega)
      have f1 := far hn
      rcases hrow with ⟨rfl, rfl⟩ | ⟨id, rfl, hid1, hid, hm⟩
      · by_cases hx : tx = a :: 32 :: rest
        · simp -dsimp [t4, m1, f1]
          refine call_ hT (by simp -dsimp) ?_
          simp -dsimp [t0, t2, t4, m0, m1, hx, optP]
        · simp -dsimp [t4, m1, f1]
          refine call_ hT (by simp -dsimp) ?_
          simp -dsimp [t0, t2, t4, m0, m1, hx, optP]
      · have f2 := far hid
        have g0 : ¬ id = 0 := by omega
        have g1 : ¬ id = 1 := by omega
        by_cases hx : tx = a :: 32 :: rest
        · simp -dsimp [t4, m1, f1]
          refine call_ hT (by simp -dsimp [hm]) ?_
          simp -dsimp [t0, t2, t4, m0, m1, hm, hx, optP, g0, g1, f0, f1, f2]
        · simp -dsimp [t4, m1, f1]
          refine call_ hT (by simp -dsimp [hm]) ?_
          simp -dsimp [t0, t2, t4, m0, m1, hm, hx, optP, g0, g1, f0, f1, f2]
end TL

/- Reading places: the reference. -/
set_option linter.unusedSimpArgs false
set_option linter.unusedVariables false
set_option maxRecDepth 100000
set_option maxHeartbeats 4000000
set_option pp.maxSteps 1500
namespace TL
open Go Go.Proofs
attribute [local simp] marksV storyV codeV Claim.v Place.v
/-! Cutting. -/
def Icut (c : UInt8) (w : List UInt8) (e : Nat) (s : S) : Prop := ∃ (i f id : Nat) (ps : List (List UInt8)), s.tm 0 = .v (.str w) ∧ s.tm 1 = .v (.int .u8 c.toNat) ∧ s.tm 5 = .loc id ∧ id < s.n ∧ s.m id = some (.arr 9 (ps.map V.str)) ∧
  s.tm 6 = .v (.int .i64 f) ∧ s.tm 7 = .v (.int .i64 i) ∧ s.mu = false ∧ f ≤ i ∧ i ≤ w.length ∧ ps.length ≤ i ∧ ps ++ cutGo c ((w.take i).drop f) (w.drop i) = cutAt c w ∧ (e = 1 → i = w.length)
theorem l1Cut_fn (w : List UInt8) (c : UInt8) (hl : w.length ≤ 2000000000) : FnZ Tryd.prog 72 [.str w, .int .u8 c.toNat] (.sl ((cutAt c w).map V.str)) := by
  refine FnZ_of (rs := [.tmp 4]) false Tryd.func72 rfl rfl rfl rfl (Nat.le_of_ble_eq_true rfl) ?_
  simp -dsimp
  refine twp_loopC (Icut c w 0) (fun s => w.length - natOf (s.tm 7)) (Icut c w 1) ?_ ?_ ?_
  · exact ⟨0, 0, 0, [], by simp -dsimp, by simp -dsimp, by simp -dsimp, by simp -dsimp, by simp -dsimp, by simp -dsimp, by simp -dsimp, by simp -dsimp, by omega, by omega, by simp, by simp [cutAt], by simp⟩
  · rintro s ⟨i, f, id, ps, t0, t1, t5, hid, hm, t6, t7, hmu, hf, hi, hps, hcut, hend⟩
    by_cases hlt : i < w.length
    case neg =>
      simp -dsimp [t0, t7, hlt]
      exact ⟨i, f, id, ps, by simp -dsimp [t0], by simp -dsimp [t1], by simp -dsimp [t5], by simp -dsimp [hid], by simp -dsimp [hm], by simp -dsimp [t6], by simp -dsimp [t7], by simp -dsimp [hmu], hf, hi, hps, hcut, fun _ => by omega⟩
    have hget : w[i]? = some w[i] := by simp [hlt]
    have wi : IntKind.wrap .i64 ((i : Int) + 1) = ((i + 1 : Nat) : Int) := by rw [w64 (by omega) (by omega)]; omega
    have hmu1 : w.length - (i + 1) < w.length - i := by omega
    have f1 := far hid
    have b1 : (ps.length + 1) * 16 ≤ 140737488355328 := by omega
    have b2 : (f : Int) ≤ i := by omega
    have b3 : (i : Int) ≤ w.length := by omega
    rw [List.drop_eq_getElem_cons hlt] at hcut
    by_cases hc : w[i] = c
    · have hn : (ps ++ [(w.take i).drop f]) ++ cutGo c ((w.take (i + 1)).drop (i + 1)) (w.drop (i + 1)) = cutAt c w := by
        rw [← hcut]
        have e1 : cutGo c ((w.take i).drop f) (w[i] :: w.drop (i + 1)) = (w.take i).drop f :: cutGo c [] (w.drop (i + 1)) := by
          show (if w[i] = c then _ else _) = _
          rw [if_pos hc]
        have e2 : (w.take (i + 1)).drop (i + 1) = [] := List.drop_eq_nil_of_le (by rw [List.length_take]; omega)
        rw [e1, e2]; simp
      have f0 : ¬ id = s.n + 1 := by omega
      simp -dsimp [t0, t1, t5, t6, t7, hlt, hget, hc, hf, hi, hm, hmu, b1, wi, hmu1, f1, nes]
      refine st_out fun s' ht hm' hn' hu' => ?_
      have a0 := ht 0
      have a1 := ht 1
      have a5 := ht 5
      have a6 := ht 6
      have a7 := ht 7
      simp -dsimp [t0, t1, t5, t7, wi, hc] at a0 a1 a5 a6 a7 hm' hn' hu'
      clear ht
      refine ⟨i + 1, i + 1, _, ps ++ [(w.take i).drop f], a0, a1, a5, by omega, ?_, a6, a7, by rw [hu', hmu], by omega, by omega, by simp; omega, hn, by simp⟩
      simp [hm', nes]
    · have hc' : ¬ (w[i].toNat : Int) = c.toNat := fun h => hc (UInt8.toNat.inj (by omega))
      have hn : ps ++ cutGo c ((w.take (i + 1)).drop f) (w.drop (i + 1)) = cutAt c w := by
        rw [← hcut]
        have e1 : cutGo c ((w.take i).drop f) (w[i] :: w.drop (i + 1)) = cutGo c ((w.take i).drop f ++ [w[i]]) (w.drop (i + 1)) := by
          show (if w[i] = c then _ else _) = _
          rw [if_neg hc]
        have e2 : (w.take (i + 1)).drop f = (w.take i).drop f ++ [w[i]] := by
          rw [List.take_succ_eq_append_getElem hlt, List.drop_append_of_le_length (by rw [List.length_take]; omega)]
        rw [e1, e2]
      simp -dsimp [t0, t1, t5, t6, t7, hlt, hget, hc, hc', wi, hmu1]
      exact ⟨i + 1, f, id, ps, by simp -dsimp [t0], by simp -dsimp [t1], by simp -dsimp [t5], by simp -dsimp [hid], by simp -dsimp [hm], by simp -dsimp [t6], by simp -dsimp, by simp -dsimp [hmu], by omega, by omega, by omega, hn, by simp⟩
  · rintro s ⟨i, f, id, ps, t0, t1, t5, hid, hm, t6, t7, hmu, hf, hi, hps, hcut, hend⟩
    have hil := hend rfl
    subst hil
    have f1 := far hid
    have b1 : (ps.length + 1) * 16 ≤ 140737488355328 := by omega
    have b2 : (f : Int) ≤ w.length := by omega
    rw [List.take_length, List.drop_length] at hcut
    have hcut : ps ++ [w.drop f] = cutAt c w := hcut
    rw [← hcut]
    simp -dsimp [t0, t5, t6, b1, b2, hm, hmu, f1, nes]
end TL

/- Numbers read: the reference. -/
set_option linter.unusedSimpArgs false
set_option linter.unusedVariables false
set_option maxRecDepth 100000
set_option maxHeartbeats 4000000
set_option pp.maxSteps 1500
namespace TL
open Go Go.Proofs
attribute [local simp] marksV storyV codeV Claim.v Place.v
/-! Numbers. -/
def digGo : Nat → List UInt8 → Int
  | acc, [] => acc
  | acc, c :: r => if c.toNat < 48 ∨ 57 < c.toNat then -1 else digGo (10 * acc + (c.toNat - 48)) r
def digS (s : List UInt8) : Int := if (1 ≤ s.length ∧ s.length ≤ 6) ∧ ¬ (1 < s.length ∧ s.head? = some 48) then digGo 0 s else -1
def Idig (w : List UInt8) (e : Nat) (s : S) : Prop := ∃ i acc : Nat, s.tm 0 = .v (.str w) ∧ s.tm 3 = .v (.int .i64 acc) ∧ s.tm 4 = .v (.int .i64 i) ∧ i ≤ w.length ∧ acc < 10 ^ i ∧ digGo acc (w.drop i) = digGo 0 w ∧ (e = 1 → i = w.length)
theorem l1Digits_fn (w : List UInt8) (hl : w.length ≤ 2000000000) : FnZ Tryd.prog 73 [.str w] (.int .i64 (digS w)) := by
  have hin := l1In_z w.length 1 6
  by_cases h1 : 1 ≤ w.length ∧ w.length ≤ 6
  case neg =>
    have e : digS w = -1 := by unfold digS; rw [if_neg fun h => h1 h.1]
    have e2 : (decide ((1 : Int) ≤ w.length) && decide ((w.length : Int) ≤ 6)) = false := by
      rw [Bool.and_eq_false_iff]; simp only [decide_eq_false_iff_not]; omega
    rw [e2] at hin
    rw [e]
    refine FnZ_of (rs := [.tmp 2]) false Tryd.func73 rfl rfl rfl rfl (Nat.le_of_ble_eq_true rfl) ?_
    simp -dsimp
    refine call_ hin (by simp -dsimp) ?_
    simp -dsimp
  have e2 : (decide ((1 : Int) ≤ w.length) && decide ((w.length : Int) ≤ 6)) = true := by
    rw [Bool.and_eq_true, decide_eq_true_eq, decide_eq_true_eq]; omega
  rw [e2] at hin
  by_cases h2 : 1 < w.length ∧ w.head? = some 48
  · have e : digS w = -1 := by unfold digS; rw [if_neg fun h => h.2 h2]
    match w, h2 with
    | c :: r, h2 =>
      have hc : c = 48 := by simpa using h2.2
      subst hc
      have l1 : (1 : Int) < (r.length : Int) + 1 := by have := h2.1; simp only [List.length_cons] at this; omega
      have l2 : 0 < r.length := by omega
      rw [e]
      refine FnZ_of (rs := [.tmp 2]) false Tryd.func73 rfl rfl rfl rfl (Nat.le_of_ble_eq_true rfl) ?_
      simp -dsimp
      refine call_ hin (by simp -dsimp) ?_
      simp -dsimp [l1, l2]
  have e : digS w = digGo 0 w := by unfold digS; rw [if_pos ⟨h1, h2⟩]
  rw [e]
  have h6 : w.length ≤ 6 := h1.2
  refine FnZ_of (rs := [.tmp 2]) false Tryd.func73 rfl rfl rfl rfl (Nat.le_of_ble_eq_true rfl) ?_
  simp -dsimp
  refine call_ hin (by simp -dsimp) ?_
  by_cases hl1 : 1 < w.length
  case' pos =>
    have l1 : (1 : Int) < w.length := by omega
    have l0 : 0 < w.length := by omega
    have hc : ¬ w[0] = 48 := fun h => h2 ⟨hl1, by rw [List.head?_eq_getElem?, List.getElem?_eq_getElem l0, h]⟩
    have hc2 : ¬ (w[0].toNat : Int) = 48 := fun h => hc (UInt8.toNat.inj (by show w[0].toNat = 48; omega))
    simp -dsimp [l1, l0, hc2, hl1]
  case' neg =>
    have l1 : ¬ (1 : Int) < w.length := by omega
    simp -dsimp [l1, hl1]
  all_goals
      clear l1 h1 h2 hin hl hl1 e e2
      refine twp_loopC (Idig w 0) (fun s => w.length - natOf (s.tm 4)) (Idig w 1) ?_ ?_ ?_
      · exact ⟨0, 0, by simp -dsimp, by simp -dsimp, by simp -dsimp, by omega, by simp, by simp, by simp⟩
      · rintro s ⟨i, acc, t0, t3, t4, hi, hac, hd, hend⟩
        by_cases hlt : i < w.length
        case neg =>
          simp -dsimp [t0, t4, hlt]
          exact ⟨i, acc, by simp -dsimp [t0], by simp -dsimp [t3], by simp -dsimp [t4], hi, hac, hd, fun _ => by omega⟩
        have hget : w[i]? = some w[i] := by simp [hlt]
        have wi : IntKind.wrap .i64 ((i : Int) + 1) = ((i + 1 : Nat) : Int) := by rw [w64 (by omega) (by omega)]; omega
        have hmu1 : w.length - (i + 1) < w.length - i := by omega
        have hp : 10 ^ i ≤ 10 ^ 6 := Nat.pow_le_pow_right (by omega) (by omega)
        have hp6 : (10 : Nat) ^ 6 = 1000000 := rfl
        have hps : 10 ^ (i + 1) = 10 * 10 ^ i := by rw [Nat.pow_succ]; omega
        have hb := UInt8.toNat_lt w[i]
        rw [List.drop_eq_getElem_cons hlt] at hd
        have hd : (if w[i].toNat < 48 ∨ 57 < w[i].toNat then -1 else digGo (10 * acc + (w[i].toNat - 48)) (w.drop (i + 1))) = digGo 0 w := hd
        by_cases hlo : w[i].toNat < 48
        · have hlo' : (w[i].toNat : Int) < 48 := by omega
          rw [if_pos (.inl hlo)] at hd
          rw [← hd]
          simp -dsimp [t0, t4, hlt, hget, hlo, hlo']
        by_cases hhi : 57 < w[i].toNat
        · have hlo' : ¬ (w[i].toNat : Int) < 48 := by omega
          have hhi' : (57 : Int) < (w[i].toNat : Int) := by omega
          rw [if_pos (.inr hhi)] at hd
          rw [← hd]
          simp -dsimp [t0, t4, hlt, hget, hlo, hlo', hhi, hhi']
        · have hlo' : ¬ (w[i].toNat : Int) < 48 := by omega
          have hhi' : ¬ (57 : Int) < (w[i].toNat : Int) := by omega
          rw [if_neg (by omega)] at hd
          have w1 : IntKind.wrap .i64 (10 * (acc : Int)) = 10 * (acc : Int) := w64 (by omega) (by omega)
          have w2 : IntKind.wrap .u8 ((w[i].toNat : Int) - 48) = (w[i].toNat : Int) - 48 := by rw [IntKind.wrap_u8]; omega
          have w3 : IntKind.wrap .i64 ((w[i].toNat : Int) - 48) = (w[i].toNat : Int) - 48 := w64 (by omega) (by omega)
          have w4 : IntKind.wrap .i64 (10 * (acc : Int) + ((w[i].toNat : Int) - 48)) = ((10 * acc + (w[i].toNat - 48) : Nat) : Int) := by rw [w64 (by omega) (by omega)]; omega
          simp -dsimp [t0, t3, t4, hlt, hget, hlo, hlo', hhi, hhi', w1, w2, w3, w4, wi, hmu1]
          exact ⟨i + 1, 10 * acc + (w[i].toNat - 48), by simp -dsimp [t0], by simp -dsimp, by simp -dsimp, by omega, by omega, hd, by simp⟩
      · rintro s ⟨i, acc, t0, t3, t4, hi, hac, hd, hend⟩
        have hil := hend rfl
        rw [hil, List.drop_length] at hd
        rw [← hd]
        simp -dsimp [t3, digGo]
end TL
