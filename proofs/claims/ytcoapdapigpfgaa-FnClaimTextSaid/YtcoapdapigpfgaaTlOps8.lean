/- TL, part 15: append to rows that may change. -/
import Derived.Test.YtcoapdapigpfgaaTlOps7
set_option linter.unusedVariables false
set_option linter.unusedSimpArgs false
namespace TL
open Go Go.RowKit

section
variable {P : Program} {φ φ' : Phi} {Z Z' : Zs} {m m' : Mem} {n : Nat} {w : World}

theorem RepEs.toTs {z : Nat} {xs : List V} {us : List Value} (h : RepEs Z w z xs us) : RepTs φ Z w (xs.flatMap fun x => x.cells.map .v) us := by
  induction xs generalizing us z with
  | nil => cases h; exact .nil
  | cons x xs ih =>
    cases h with
    | agg h hl t => rw [List.flatMap_cons]; exact h.toTs.append (ih t)
    | @one _ u us _ hc h t =>
      rw [List.flatMap_cons]
      have : x.cells = [x] := by cases x <;> first | rfl | simp [V.cell] at hc
      rw [this]
      exact RepTs.append (a := [.v x]) (us := [u]) (.cons (.v h) .nil) (ih t)

/-- The cells that are appended. -/
theorem ecells_sound (hm : RelM P φ Z m n w) {k : Nat} {y : T} {u : Value} {nn : Nat} {ys : List T} (h : RepT φ Z w y u) (hk : 0 < k) (hx : ecells m k y = some (nn, ys)) :
    ∃ A c news, u = .slice A nn c ∧ RepTs φ Z w ys news ∧ news.length = nn * k ∧ (0 < nn → ∃ a, A = some a ∧ ∀ j v, news[j]? = some v → w.cell? (a.add j) = some v) := by
  have general : (obind (elems m y) fun xs => tst (allZ k xs) (some (xs.length, xs.flatMap fun x => x.cells.map T.v))) = some (nn, ys) →
      ∃ A c news, u = .slice A nn c ∧ RepTs φ Z w ys news ∧ news.length = nn * k ∧ (0 < nn → ∃ a, A = some a ∧ ∀ j v, news[j]? = some v → w.cell? (a.add j) = some v) := by
    intro hx
    obtain ⟨xs, hxs, hx⟩ := obind_eq hx
    obtain ⟨ha, hx⟩ := tst_eq hx
    cases hx
    obtain ⟨A, mm, c, news, rfl, n1, rfl, n3⟩ := news_of (elems_rep hm h hxs) ha
    exact ⟨A, c, news, rfl, n1.toTs, n1.length, n3⟩
  unfold ecells at hx
  split at hx
  · rename_i id co len
    split at hx
    · rename_i e z cs hi
      obtain ⟨⟨rfl, hle⟩, hx⟩ := tst_eq hx
      cases hx
      obtain ⟨v, hv, h1, h2, g, cur, h3, h4, h5, h6, h7, h8, h9⟩ := hm.blk _ _ hi
      cases h with
      | @sv _ _ _ g' n' c' c'' A hq hl hmx ha h0 =>
        rw [hv] at hq; cases hq
        cases h3
        have hlen := h6.length
        refine ⟨A, c'', ((cur.toList.take cs.length).drop co).take (nn * z), rfl, (h6.drop co).take _, ?_, fun hp => ⟨_, ha hp, fun j v hj => ?_⟩⟩
        · rw [List.length_take, List.length_drop, ← hlen]; omega
        · rw [add_lit, cell_of_row w _ _ cur e (0, 0) h4]
          rw [List.getElem?_take] at hj
          split at hj
          · rw [List.getElem?_drop, List.getElem?_take] at hj
            split at hj
            · simpa using hj
            · cases hj
          · cases hj
    · cases hx
  · exact general hx

theorem boxUpd {e : TypeId} {z : Nat} {cs : List T} {v : Value} {g : Nat} {cur : Array Value} (hz : 0 < z) (hsz : sz P e = some z) (hg : blkOf v = some g) (hh : w.heap[g]? = some (.cells cur e (0, 0))) (hl : cs.length ≤ cur.size)
    (hr : RepTs φ Z w cs (cur.toList.take cs.length)) (hc : allC cs) (hnz : ∀ o, ¬ Z g o) {n' c : Nat} (hv : v = .slice (some ⟨g, 0, none⟩) n' c) (hcs : cur.size = c * z) (hcm : c ≤ maxLen) : RelB P φ Z w v (.box e z cs) :=
  ⟨hz, hsz, g, cur, hg, hh, hl, hr, hc, hnz, .inr ⟨n', c, hv, hcs, hcm⟩⟩

theorem appMut_sound (hm : RelM P φ Z m n w) {i co len t ty e k by_ nn z : Nat} {e' : TypeId} {cs ys : List T} {v y : Value} {yt : T} {E : Eff} (ht : elT P t = some e) (hk : szz P e = some k) (hb : bytes P e = some by_)
    (hi : m i = some (.box e' z cs)) (h : RepT φ Z w (.sv i co len) v) (hy : RepT φ Z w yt y) (hys : ecells m k yt = some (nn, ys)) (hx : appMut e k by_ i n co len e' z cs nn ys = some E) :
    Done P φ Z m (n + 1) w ((do pure (.value (← Builtin.append_ #[t, t] ty #[v, y])) : Sem Next).run P w) E := by
  unfold appMut at hx
  obtain ⟨⟨hee, hzk, hk0, hby, hco, hle, hbound, hac⟩, hx1⟩ := tst_eq hx
  clear hx
  subst hee hzk hco
  cases hx1
  obtain ⟨inf, zz, g1, g2, g3, g4⟩ := szz_spec hk
  have hbi : inf.bytes = by_ := by simpa [bytes, g1] using hb
  obtain ⟨v0, hv, h1, hsz, g, cur, h3, h4, h5, h6, h7, h8, h9⟩ := hm.blk _ _ hi
  obtain ⟨A, c, news, rfl, n1, n2, n3⟩ := ecells_sound hm hy hk0 hys
  cases h with
  | @sv _ _ _ g' n' c' c'' A' hq hl hmx ha h0 =>
    obtain ⟨rfl, rfl⟩ := h0 rfl
    rw [hv] at hq; cases hq
    cases h3
    obtain ⟨hcz, hcm⟩ : cur.size = c'' * z ∧ c'' ≤ maxLen := by
      rcases h9 with h9 | ⟨a, b, h9, h10, h11⟩
      · cases h9
      · cases h9; exact ⟨h10, h11⟩
    have hown : w.ownsRow 0 e' z (.slice (some ⟨g', 0, none⟩) len c'') len (cur.toList.take (len * z)) :=
      ⟨by rw [List.length_take, Array.length_toList]; omega, .inr ⟨g', c'', cur, rfl, Nat.zero_le _, h4, hl, hcm, hcz, rfl⟩⟩
    obtain ⟨v1, w1, hrun, hown1, halt⟩ := run_append_tl (P := P) w t ty e' inf zz (und_of_elT ht) g1 g2 g3 (by omega) (.slice (some ⟨g', 0, none⟩) len c'') len (cur.toList.take (len * z)) (by rw [g4]; exact hown) A nn c news (by rw [g4]; exact n2) n3 (n1.ones hm.ok hac) (by rw [hbi]; exact hbound) (le_maxLen_of hby hbound)
    rw [g4] at hown1
    have hr : ((do pure (.value (← Builtin.append_ #[t, t] ty #[.slice (some ⟨g', 0, none⟩) len c'', .slice A nn c])) : Sem Next).run P w) = .ok (.value v1) w1 := by simp only [Sem.run_bind, hrun, Result.andThen_ok, Sem.run_pure]
    have hφn : φ n = none := hm.fresh n (Nat.le_refl _)
    have h1c : v1.oneCell' = true := by rcases hown1.2 with ⟨rfl, _⟩ | ⟨_, _, _, rfl, _⟩ <;> rfl
    have ext : Ext φ (updP φ n v1) := ext_updP v1 hφn
    have ok' : PhiOk (updP φ n v1) := fun j u hu => by
      by_cases hj : j = n
      · subst hj; rw [updP_same] at hu; cases hu; exact h1c
      · rw [updP_ne _ _ hj] at hu; exact hm.ok j u hu
    have fr' : ∀ j, n + 1 ≤ j → updP φ n v1 j = none := fun j hj => by rw [updP_ne _ _ (by omega)]; exact hm.fresh j (by omega)
    have hltake : (cs.take (len * z)).length = len * z := by rw [List.length_take]; omega
    have hyl : ys.length = nn * z := by rw [n1.length, n2]
    have hcsl : (cs.take (len * z) ++ ys).length = (len + nn) * z := by rw [List.length_append, hltake, hyl, Nat.add_mul]
    have hall : allC (cs.take (len * z) ++ ys) := fun q hq => by
      rcases List.mem_append.1 hq with hq | hq
      · exact h7 q (List.mem_of_mem_take hq)
      · exact hac q hq
    have holdT : RepTs φ Z w (cs.take (len * z)) (cur.toList.take (len * z)) := by
      have := h6.take (len * z)
      rwa [List.take_take, Nat.min_eq_left (by omega)] at this
    -- the block stays
    have stay : ∀ (cur' : Array Value) (c1 : Nat), w1.heap[g']? = some (.cells cur' e' (0, 0)) → cur'.toList.take ((len + nn) * z) = cur.toList.take (len * z) ++ news → v1 = .slice (some ⟨g', 0, none⟩) (len + nn) c'' → len + nn ≤ c'' → cur'.size = cur.size → KeepZ Z w w1 → w1.os = w.os → w1.tape = w.tape → w1.output = w.output → w1.heap.size = w.heap.size → (∀ k, k ≠ g' → w1.heap[k]? = w.heap[k]?) →
        Done P φ Z m (n + 1) w ((do pure (.value (← Builtin.append_ #[t, t] ty #[.slice (some ⟨g', 0, none⟩) len c'', .slice A nn c])) : Sem Next).run P w) ⟨.sv n 0 (len + nn), [(i, none), (n, some (.box e' z (cs.take (len * z) ++ ys)))]⟩ := by
      intro cur' c1 hcur' htk hv1 hcap hcs hkeep hos htape hout hsize hheap
      have key := hm.succ.change (i0 := i) (j0 := n) (g := g') (Z' := Z) (m' := updM (updM m i none) n (some (.box e' z (cs.take (len * z) ++ ys)))) hi rfl hv rfl ext ok' fr' (fun _ _ h => h) (fun _ _ h => .inl h) hkeep hos htape hout hsize hheap (fun j b hj => by
        by_cases hjn : j = n
        · subst hjn
          rw [updM_same] at hj; cases hj
          have hsp : (len + nn) * z ≤ c'' * z := Nat.mul_le_mul_right _ hcap
          refine .inr ⟨v1, updP_same _ _ _, boxUpd (g := g') (cur := cur') (n' := len + nn) (c := c'') h1 hsz (by rw [hv1]; rfl) hcur' (by rw [hcsl, hcs, hcz]; exact hsp) ?_ hall h8 hv1 (by rw [hcs, hcz]) hcm, .inr ⟨by rw [hv1]; rfl, rfl⟩⟩
          rw [hcsl, htk]
          exact (holdT.append n1).mono ext (fun _ _ h => h) hkeep
        · rw [updM_ne _ _ hjn] at hj
          by_cases hji : j = i
          · subst hji; rw [updM_same] at hj; cases hj
          · rw [updM_ne _ _ hji] at hj; exact .inl ⟨hj, hji⟩)
      refine ⟨v1, w1, _, Z, .inl hr, key.1, ?_, key.2⟩
      rw [hv1]
      exact .sv (by rw [updP_same]) hcap hcm (fun _ => rfl) fun _ => ⟨rfl, rfl⟩
    rcases halt with ⟨h0, rfl, rfl⟩ | ⟨q, cur0, cap, cur', hq, rfl, hh, rfl, hcs⟩ | ⟨cap, cur', rfl, rfl, hcap, hcm1, hcs, htk⟩
    · subst h0
      obtain rfl : news = [] := List.eq_nil_of_length_eq_zero (by simpa using n2)
      exact stay cur 0 h4 (by simp) rfl hl rfl (keep_refl _ _) rfl rfl rfl rfl fun _ _ => rfl
    · cases hq
      rw [h4] at hh; cases hh
      have hcur' := setRow_heap w g' cur cur' e' _ h4
      rcases hown1.2 with ⟨hq, _⟩ | ⟨q, cap, cur2, hq, _, hh2, hcap2, _, _, htk2⟩
      · cases hq
      · cases hq
        rw [hcur'] at hh2; cases hh2
        exact stay _ 0 hcur' htk2 rfl hcap2 hcs (keepZ_of_heap fun k o hz => setRow_other w g' k cur' (by rintro rfl; exact h8 o hz)) rfl rfl rfl (by simp) fun k hk => setRow_other w g' k cur' hk
    · have key := hm.succ.quiet (φ' := φ) (m' := updM m i none) (fun _ _ h => h) hm.ok hm.succ.fresh (fun j b hj => by
        by_cases hji : j = i
        · subst hji; rw [updM_same] at hj; cases hj
        · rw [updM_ne _ _ hji] at hj; exact .inl hj)
      have hts : RepTs φ Z w.drew (cs.take (len * z) ++ ys) (cur'.toList.take (cs.take (len * z) ++ ys).length) := by
        rw [hcsl, ← g4, htk]
        rw [g4]
        exact RepTs.mono (φ := φ) (φ' := φ) (Z := Z) (Z' := Z) (w := w) (w' := w.drew) (fun _ _ h => h) (fun _ _ h => h) (fun _ _ _ => rfl) (holdT.append n1)
      have hsp : (len + nn) * z ≤ cap * z := Nat.mul_le_mul_right _ hcap
      obtain ⟨q1, q2⟩ := key.1.drew.allocMut (id := n) (by omega) hφn (e := e') (z := z) (cs := cs.take (len * z) ++ ys) (cur := cur') (v := .slice (some ⟨w.heap.size, 0, none⟩) (len + nn) cap) h1 hsz (by rw [hcsl, hcs, g4]; exact hsp) hts hall
        (.inr ⟨_, _, rfl, by rw [hcs, g4], hcm1⟩)
      exact ⟨_, _, _, _, .inl hr, q1, .sv (updP_same _ _ _) hcap hcm1 (fun _ => rfl) (fun _ => ⟨rfl, rfl⟩), (key.2.trans (Step.drew _ _ _ _)).trans q2⟩

theorem appNilMut_sound (hm : RelM P φ Z m n w) {t ty e k by_ nn : Nat} {ys : List T} {y : Value} {yt : T} {E : Eff} (ht : elT P t = some e) (hk : szz P e = some k) (hb : bytes P e = some by_)
    (hy : RepT φ Z w yt y) (hys : ecells m k yt = some (nn, ys)) (hx : appNilMut e k by_ n nn ys = some E) :
    Done P φ Z m (n + 1) w ((do pure (.value (← Builtin.append_ #[t, t] ty #[.slice none 0 0, y])) : Sem Next).run P w) E := by
  unfold appNilMut at hx
  obtain ⟨⟨hk0, hby, hnn, hbound, hac⟩, hx⟩ := tst_eq hx
  cases hx
  obtain ⟨inf, zz, g1, g2, g3, g4⟩ := szz_spec hk
  have hbi : inf.bytes = by_ := by simpa [bytes, g1] using hb
  have hsz : sz P e = some k := by simp [sz, g1, g4]
  obtain ⟨A, c, news, rfl, n1, n2, n3⟩ := ecells_sound hm hy hk0 hys
  obtain ⟨v1, w1, hrun, hown, halt⟩ := run_append_tl (P := P) w t ty e inf zz (und_of_elT ht) g1 g2 g3 (by omega) (.slice none 0 0) 0 [] (World.ownsRow_nil _ _ _ _) A nn c news (by rw [g4]; exact n2) n3 (n1.ones hm.ok hac) (by rw [hbi, Nat.zero_add]; exact hbound) (by rw [Nat.zero_add]; exact le_maxLen_of hby hbound)
  have hr : ((do pure (.value (← Builtin.append_ #[t, t] ty #[.slice none 0 0, .slice A nn c])) : Sem Next).run P w) = .ok (.value v1) w1 := by simp only [Sem.run_bind, hrun, Result.andThen_ok, Sem.run_pure]
  have hφn : φ n = none := hm.fresh n (Nat.le_refl _)
  simp only [Nat.zero_add, List.nil_append] at halt
  rcases halt with ⟨h0, _, _⟩ | ⟨g, cur, cap, cur', h, _⟩ | ⟨cap, cur', rfl, rfl, hcap, hcm, hcs, htk⟩
  · omega
  · cases h
  · have hyl : ys.length = nn * k := by rw [n1.length, n2]
    have hts : RepTs φ Z w.drew ys (cur'.toList.take ys.length) := by
      rw [hyl, ← g4, htk]
      exact RepTs.mono (φ := φ) (φ' := φ) (Z := Z) (Z' := Z) (w := w) (w' := w.drew) (fun _ _ h => h) (fun _ _ h => h) (fun _ _ _ => rfl) n1
    have hsp : nn * k ≤ cap * k := Nat.mul_le_mul_right _ hcap
    obtain ⟨q1, q2⟩ := hm.succ.drew.allocMut (id := n) (by omega) hφn (e := e) (z := k) (cs := ys) (cur := cur') (v := .slice (some ⟨w.heap.size, 0, none⟩) nn cap) hk0 hsz (by rw [hyl, hcs, g4]; exact hsp) hts hac (.inr ⟨_, _, rfl, by rw [hcs, g4], hcm⟩)
    exact ⟨_, _, _, _, .inl hr, q1, .sv (updP_same _ _ _) hcap hcm (fun _ => rfl) (fun _ => ⟨rfl, rfl⟩), (Step.drew _ _ _ _).trans q2⟩

theorem evAppend_sound (hm : RelM P φ Z m n w) {t ty : Nat} {x y : T} {u v : Value} {mu : Bool} {E : Eff} (h : RepT φ Z w x u) (hy : RepT φ Z w y v) (hx : evAppend P mu t m n y x = some E) :
    Done P φ Z m (n + 1) w ((do pure (.value (← Builtin.append_ #[t, t] ty #[u, v])) : Sem Next).run P w) E := by
  unfold evAppend at hx
  split at hx
  · obtain ⟨e, he, hx⟩ := obind_eq hx
    obtain ⟨k, hk, hx⟩ := obind_eq hx
    obtain ⟨by_, hb, hx⟩ := obind_eq hx
    split at hx
    · rename_i hi
      obtain ⟨⟨nn, ys⟩, hp, hx⟩ := obind_eq hx
      exact appMut_sound hm he hk hb hi h hy hp hx
    · cases hx
  · obtain ⟨e, he, hx⟩ := obind_eq hx
    obtain ⟨k, hk, hx⟩ := obind_eq hx
    obtain ⟨by_, hb, hx⟩ := obind_eq hx
    split at hx
    · rename_i hi
      obtain ⟨ys, hp, hx⟩ := obind_eq hx
      cases h with
      | loc h => exact appArr_sound hm he hk hb hi h (elems_rep hm hy hp) hx
    · cases hx
  · obtain ⟨e, he, hx⟩ := obind_eq hx
    obtain ⟨k, hk, hx⟩ := obind_eq hx
    obtain ⟨by_, hb, hx⟩ := obind_eq hx
    cases h
    split at hx
    · obtain ⟨⟨nn, ys⟩, hp, hx⟩ := obind_eq hx
      exact appNilMut_sound hm he hk hb hy hp hx
    · obtain ⟨ys, hp, hx⟩ := obind_eq hx
      exact appNil_sound hm he hk hb (elems_rep hm hy hp) hx
  · cases hx
end
end TL
