/- TL, part 7: a change in one block; stores; appends. -/
import Derived.Test.YtcoapdapigpfgaaTlMem2
set_option linter.unusedVariables false
set_option linter.unusedSimpArgs false
namespace TL
open Go Go.RowKit

section
variable {P : Program} {φ φ' : Phi} {Z Z' : Zs} {m m' : Mem} {n : Nat} {w w' : World}

theorem RelM.change (hm : RelM P φ Z m n w) {i0 j0 g : Nat} {b0 : Blk} {v0 : Value} (hi : m i0 = some b0) (hro : isRo b0 = false) (hv : φ i0 = some v0) (hg : blkOf v0 = some g)
    (he : Ext φ φ') (hok : PhiOk φ') (hfr : ∀ i, n ≤ i → φ' i = none) (hs : SubZ Z Z') (hZ : ∀ k o, Z' k o → Z k o ∨ k = g) (hk : KeepZ Z w w')
    (hos : w'.os = w.os) (htape : w'.tape = w.tape) (hout : w'.output = w.output) (hsize : w'.heap.size = w.heap.size) (hheap : ∀ k, k ≠ g → w'.heap[k]? = w.heap[k]?)
    (hm' : ∀ j b, m' j = some b → (m j = some b ∧ j ≠ i0) ∨ ∃ v, φ' j = some v ∧ RelB P φ' Z' w' v b ∧ (isRo b = true ∨ (blkOf v = some g ∧ j = j0))) :
    RelM P φ' Z' m' n w' ∧ Step φ Z m w φ' Z' m' w' := by
  obtain ⟨v0', hv0', hb0⟩ := hm.blk _ _ hi
  rw [hv] at hv0'; cases hv0'
  have hglt : g < w.heap.size := hb0.lt hro hg
  -- another block that the old memory owns
  have far : ∀ j b v k, m j = some b → j ≠ i0 → isRo b = false → φ j = some v → blkOf v = some k → k ≠ g := fun j b v k hj hne hr hv' hk' e => by
    subst e; exact hne (hm.ne j i0 b b0 v v0 k hj hi hv' hv hk' hg hr hro)
  have hown : ∀ k, Owned φ' m' k → Owned φ m k := by
    rintro k ⟨j, b, v, hj, hr, hv', hb⟩
    rcases hm' j b hj with ⟨h1, _⟩ | ⟨v1, h2, h3, h4⟩
    · obtain ⟨u, hu, _⟩ := hm.blk j b h1
      have := he j u hu; rw [hv'] at this; cases this
      exact ⟨j, b, v, h1, hr, hu, hb⟩
    · rw [hv'] at h2; cases h2
      rcases h4 with h4 | ⟨h4, _⟩
      · rw [hr] at h4; cases h4
      · rw [hb] at h4; cases h4; exact ⟨i0, b0, v0, hi, hro, hv, hg⟩
  refine ⟨⟨hok, hfr, ?_, ?_, ?_⟩, ⟨he, hs, hk, hos, htape, hout, Nat.le_of_eq hsize.symm, ?_, fun k _ h => hown k h, ?_⟩⟩
  · intro j b hj
    rcases hm' j b hj with ⟨h1, hne⟩ | ⟨v, h2, h3, _⟩
    · obtain ⟨u, hu, hr⟩ := hm.blk j b h1
      refine ⟨u, he j u hu, hr.keep he hs hk fun hro' k hk' => ?_⟩
      have hne' := far j b u k h1 hne hro' hu hk'
      exact ⟨hheap k hne', fun o hz => (hZ k o hz).resolve_right hne'⟩
    · exact ⟨v, h2, h3⟩
  · intro i j a b u v k h1 h2 h3 h4 h5 h6 h7 h8
    rcases hm' i a h1 with ⟨g1, n1⟩ | ⟨v1, g1, _, g2⟩ <;> rcases hm' j b h2 with ⟨g3, n2⟩ | ⟨v2, g3, _, g4⟩
    · obtain ⟨u', hu, _⟩ := hm.blk i a g1
      have := he i u' hu; rw [h3] at this; cases this
      obtain ⟨v', hv', _⟩ := hm.blk j b g3
      have := he j v' hv'; rw [h4] at this; cases this
      exact hm.ne i j a b u v k g1 g3 hu hv' h5 h6 h7 h8
    · rcases g4 with g4 | ⟨g4, _⟩
      · rw [h8] at g4; cases g4
      · rw [h4] at g3; cases g3; rw [h6] at g4; cases g4
        obtain ⟨u', hu, _⟩ := hm.blk i a g1
        have := he i u' hu; rw [h3] at this; cases this
        exact absurd rfl (far i a u _ g1 n1 h7 hu h5)
    · rcases g2 with g2 | ⟨g2, _⟩
      · rw [h7] at g2; cases g2
      · rw [h3] at g1; cases g1; rw [h5] at g2; cases g2
        obtain ⟨v', hv', _⟩ := hm.blk j b g3
        have := he j v' hv'; rw [h4] at this; cases this
        exact absurd rfl (far j b v _ g3 n2 h8 hv' h6)
    · rcases g2 with g2 | ⟨_, g2⟩
      · rw [h7] at g2; cases g2
      · rcases g4 with g4 | ⟨_, g4⟩
        · rw [h8] at g4; cases g4
        · rw [g2, g4]
  · refine ⟨fun k o hz => ?_, hm.zlt.gl.keep hs hk⟩
    rw [hsize]
    rcases hZ k o hz with h | h
    · exact hm.zlt.lt k o h
    · rw [h]; exact hglt
  · intro k hk' ho
    exact hheap k fun e => ho (by subst e; exact ⟨i0, b0, v0, hi, hro, hv, hg⟩)
  · intro k o hz
    rcases hZ k o hz with h | h
    · exact .inl h
    · exact .inr (.inr (by subst h; exact ⟨i0, b0, v0, hi, hro, hv, hg⟩))

/-- A store into a variable or a row of the frame's own. -/
theorem RelM.store_ (hm : RelM P φ Z m n w) {i e z g : Nat} {cs cs' : List T} {v : Value} {cur cur' : Array Value} (hi : m i = some (.box e z cs)) (hv : φ i = some v) (hg : blkOf v = some g) (hcur : w.heap[g]? = some (.cells cur e (0, 0)))
    (hs : cur'.size = cur.size) (hl : cs'.length ≤ cur.size) (hr : RepTs φ Z w cs' (cur'.toList.take cs'.length)) (hc : allC cs') :
    RelM P φ Z (updM m i (some (.box e z cs'))) n (w.setRow g cur') ∧ Step φ Z m w φ Z (updM m i (some (.box e z cs'))) (w.setRow g cur') := by
  obtain ⟨v', hv', hb⟩ := hm.blk _ _ hi
  rw [hv] at hv'; cases hv'
  obtain ⟨h1, h2, k, cur0, h3, h4, h5, h6, h7, h8, h9⟩ := hb
  rw [hg] at h3; cases h3
  rw [hcur] at h4; cases h4
  have hk : KeepZ Z w (w.setRow g cur') := keepZ_of_heap fun k o hz => setRow_other w g k cur' (by rintro rfl; exact h8 o hz)
  refine hm.change (i0 := i) (j0 := i) hi rfl hv hg (fun _ _ h => h) hm.ok hm.fresh (fun _ _ h => h) (fun _ _ h => .inl h) hk rfl rfl rfl (by simp) (fun k hk => setRow_other w g k cur' hk) fun j b hj => ?_
  by_cases hji : j = i
  · subst hji
    rw [updM_same] at hj; cases hj
    refine .inr ⟨v, hv, ⟨h1, h2, g, cur', hg, setRow_heap w g cur cur' e _ hcur, by rw [hs]; exact hl, hr.mono (fun _ _ h => h) (fun _ _ h => h) hk, hc, h8, ?_⟩, .inr ⟨hg, rfl⟩⟩
    rcases h9 with h9 | ⟨n', c, h9, h10⟩
    · exact .inl h9
    · exact .inr ⟨n', c, h9, by rw [hs]; exact h10.1, h10.2⟩
  · rw [updM_ne _ _ hji] at hj
    exact .inl ⟨hj, hji⟩
end

section
variable {P : Program} (w : World)
/-- append onto a row of the frame's own: what it comes to, and where it lies. -/
theorem run_append_tl (t ty e : TypeId) (i : TypeInfo) (z : Value) (ht : P.underlying t = some (.slice e)) (hi : P.info? e = some i) (hz : i.zero = some z) (hzs : z.cells.size = i.size) (hsz : 0 < i.size)
    (v : Value) (n : Nat) (xs : List Value) (hown : w.ownsRow 0 e i.size v n xs)
    (A : Option Addr) (m c : Nat) (news : List Value) (hl : news.length = m * i.size) (hA : 0 < m → ∃ a, A = some a ∧ ∀ j u, news[j]? = some u → w.cell? (a.add j) = some u) (h1 : ∀ u ∈ news, u.oneCell' = true)
    (hbytes : (n + m) * i.bytes ≤ 140737488355328) (h63 : n + m ≤ maxLen) :
    ∃ v' w', (Builtin.append_ #[t, t] ty #[v, .slice A m c]).run P w = .ok v' w' ∧ w'.ownsRow 0 e i.size v' (n + m) (xs ++ news) ∧
      ((m = 0 ∧ v' = v ∧ w' = w) ∨
       (∃ g cur cap cur', v = .slice (some ⟨g, 0, none⟩) n cap ∧ v' = .slice (some ⟨g, 0, none⟩) (n + m) cap ∧ w.heap[g]? = some (.cells cur e (0, 0)) ∧ w' = w.setRow g cur' ∧ cur'.size = cur.size) ∨
       (∃ cap cur', v' = .slice (some ⟨w.heap.size, 0, none⟩) (n + m) cap ∧ w' = w.drew.alloc (.cells cur' e) ∧ n + m ≤ cap ∧ cap ≤ maxLen ∧ cur'.size = cap * i.size ∧ cur'.toList.take ((n + m) * i.size) = xs ++ news)) := by
  have hsmall : n + m ≤ 9223372036854775807 := by simp only [maxLen] at h63; omega
  have hlen : (xs ++ news).length = (n + m) * i.size := by rw [List.length_append, hown.1, hl, Nat.add_mul]
  by_cases hm : m = 0
  · subst hm
    obtain rfl : news = [] := List.eq_nil_of_length_eq_zero (by simpa using hl)
    have hr : (Builtin.append_ #[t, t] ty #[v, .slice A 0 c]).run P w = .ok v w := by
      rcases hown.2 with ⟨rfl, rfl⟩ | ⟨g, cap, cur, rfl, _, _, hnc, _⟩ <;> cases A <;>
        simp [Builtin.append_, run_underlying ht, Go.sizeOf, typeInfo, hi, Builtin.lenOf, Builtin.firstCells, loadCells, loadCellsFrom, storeCells, *]
    exact ⟨v, w, hr, by simpa using hown, .inl ⟨rfl, rfl, rfl⟩⟩
  obtain ⟨a, rfl, hnews⟩ := hA (by omega)
  have grown : ∀ (old : Nat), old < n + m →
      (w.drew.alloc (.cells (xs.toArray ++ news.toArray ++ Builtin.zeroCells z.cells (grownCap w (n + m) old e - (n + m))) e)).ownsRow 0 e i.size
        (.slice (some ⟨w.heap.size, 0, none⟩) (n + m) (grownCap w (n + m) old e)) (n + m) (xs ++ news) ∧ n + m ≤ grownCap w (n + m) old e ∧ grownCap w (n + m) old e ≤ maxLen ∧
      (xs.toArray ++ news.toArray ++ Builtin.zeroCells z.cells (grownCap w (n + m) old e - (n + m))).size = grownCap w (n + m) old e * i.size ∧
      (xs.toArray ++ news.toArray ++ Builtin.zeroCells z.cells (grownCap w (n + m) old e - (n + m))).toList.take ((n + m) * i.size) = xs ++ news := by
    intro old ho
    have hge := grownCap_ge w (n + m) old e
    have hcm : grownCap w (n + m) old e ≤ maxLen := grownCap_le_maxLen w (n + m) old e h63
    have hs : (xs.toArray ++ news.toArray ++ Builtin.zeroCells z.cells (grownCap w (n + m) old e - (n + m))).size = grownCap w (n + m) old e * i.size := by
      simp only [Array.size_append, List.size_toArray, size_zeroCells, hzs, hown.1, hl, ← Nat.add_mul]
      congr 1
      omega
    have htk : (xs.toArray ++ news.toArray ++ Builtin.zeroCells z.cells (grownCap w (n + m) old e - (n + m))).toList.take ((n + m) * i.size) = xs ++ news := by
      simp only [Array.toList_append, List.append_assoc]
      rw [← List.append_assoc, ← hlen]
      exact List.take_left
    exact ⟨⟨hlen, .inr ⟨w.heap.size, _, _, rfl, Nat.zero_le _, heap_alloc_new w.drew _, hge, hcm, hs, htk⟩⟩, hge, hcm, hs, htk⟩
  rcases hown.2 with ⟨rfl, rfl⟩ | ⟨g, cap, cur, rfl, hbg, hg, hnc, hcm, hcs, htake⟩
  · obtain rfl : xs = [] := List.eq_nil_of_length_eq_zero (by simpa using hown.1)
    have hr := run_append_nil (P := P) w t ty e i z ht hi hz a m c news hl hnews (by omega) (by omega) (by have hb := hbytes; simp only [Nat.zero_add] at hb; omega)
    have hgr := grown 0 (by omega)
    simp only [Nat.zero_add, List.nil_append, Array.empty_append] at hgr ⊢
    exact ⟨_, _, hr, hgr.1, .inr (.inr ⟨_, _, rfl, rfl, hgr.2.1, hgr.2.2.1, hgr.2.2.2.1, hgr.2.2.2.2⟩)⟩
  · by_cases hroom : n + m ≤ cap
    · have hfit : n * i.size + news.length ≤ cur.size := by rw [hl, hcs, ← Nat.add_mul]; exact Nat.mul_le_mul_right _ hroom
      have hr := run_append_room (P := P) w t ty e i ht hi g n cap cur hg a m c news hl hnews h1 hroom hfit
      have hsz' : (cur.toList.take (n * i.size) ++ news ++ cur.toList.drop (n * i.size + news.length)).toArray.size = cur.size := by
        simp only [List.size_toArray, List.length_append, List.length_take, List.length_drop, Array.length_toList]; omega
      refine ⟨_, _, hr, ⟨hlen, .inr ⟨g, cap, _, rfl, hbg, setRow_heap w g cur _ e _ hg, hroom, hcm, by rw [hsz', hcs], ?_⟩⟩, .inr (.inl ⟨g, cur, cap, _, rfl, rfl, hg, rfl, hsz'⟩)⟩
      rw [htake, ← hlen]
      exact List.take_left
    · have holds : ∀ j u, xs[j]? = some u → w.cell? ((⟨g, 0, none⟩ : Addr).add j) = some u := hown.cells (g := g) rfl
      have hr := run_append_grow (P := P) w t ty e i z ht hi hz ⟨g, 0, none⟩ n cap xs hown.1 holds a m c news hl hnews (by omega) (by omega) (growslice_fits (by omega) hbytes)
      have hgr := grown cap (by omega)
      exact ⟨_, _, hr, hgr.1, .inr (.inr ⟨_, _, rfl, rfl, hgr.2.1, hgr.2.2.1, hgr.2.2.2.1, hgr.2.2.2.2⟩)⟩
end
end TL
