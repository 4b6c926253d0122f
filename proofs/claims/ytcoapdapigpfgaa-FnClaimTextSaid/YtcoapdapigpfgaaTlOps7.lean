/- TL, part 14: append. -/
import Derived.Test.YtcoapdapigpfgaaTlOps6
set_option linter.unusedVariables false
set_option linter.unusedSimpArgs false
namespace TL
open Go Go.RowKit

section
variable {P : Program} {φ φ' : Phi} {Z Z' : Zs} {m m' : Mem} {n : Nat} {w : World}

theorem szz_spec {t k : Nat} (h : szz P t = some k) : ∃ i z, P.info? t = some i ∧ i.zero = some z ∧ z.cells.size = i.size ∧ i.size = k := by
  unfold szz at h
  cases hi : P.info? t with
  | none => simp [hi] at h
  | some i =>
    cases hz : i.zero with
    | none => simp [hi, hz] at h
    | some z =>
      simp only [hi, hz, Option.bind_some] at h
      split at h
      · rename_i h1; cases h; exact ⟨i, z, rfl, hz, h1, rfl⟩
      · cases h
theorem RelM.quiet (hm : RelM P φ Z m n w) (he : Ext φ φ') (hok : PhiOk φ') (hfr : ∀ i, n ≤ i → φ' i = none)
    (hm' : ∀ j b, m' j = some b → m j = some b ∨ ∃ v, φ' j = some v ∧ RelB P φ' Z w v b ∧ (isRo b = true ∨ blkOf v = none)) :
    RelM P φ' Z m' n w ∧ Step φ Z m w φ' Z m' w := by
  have old : ∀ j b v k, m' j = some b → isRo b = false → φ' j = some v → blkOf v = some k → m j = some b ∧ φ j = some v := by
    intro j b v k hj hr hv hk
    rcases hm' j b hj with h | ⟨v1, h1, _, h3⟩
    · obtain ⟨u, hu, _⟩ := hm.blk j b h
      have := he j u hu; rw [hv] at this; cases this
      exact ⟨h, hu⟩
    · rw [hv] at h1; cases h1
      rcases h3 with h3 | h3
      · rw [hr] at h3; cases h3
      · rw [hk] at h3; cases h3
  refine ⟨⟨hok, hfr, ?_, ?_, hm.zlt⟩, ⟨he, fun _ _ h => h, fun _ _ _ => rfl, rfl, rfl, rfl, Nat.le_refl _, fun _ _ _ => rfl, ?_, fun _ _ h => .inl h⟩⟩
  · intro j b hj
    rcases hm' j b hj with h | ⟨v, h1, h2, _⟩
    · obtain ⟨u, hu, hr⟩ := hm.blk j b h
      exact ⟨u, he j u hu, hr.keep he (fun _ _ h => h) (fun _ _ _ => rfl) fun _ _ _ => ⟨rfl, fun _ h => h⟩⟩
    · exact ⟨v, h1, h2⟩
  · intro i j a b u v k h1 h2 h3 h4 h5 h6 h7 h8
    obtain ⟨g1, g2⟩ := old i a u k h1 h7 h3 h5
    obtain ⟨g3, g4⟩ := old j b v k h2 h8 h4 h6
    exact hm.ne i j a b u v k g1 g3 g2 g4 h5 h6 h7 h8
  · rintro k hk ⟨j, b, v, h1, h2, h3, h4⟩
    obtain ⟨g1, g2⟩ := old j b v k h1 h2 h3 h4
    exact ⟨j, b, v, g1, h2, g2, h4⟩
theorem RelM.drew (hm : RelM P φ Z m n w) : RelM P φ Z m n w.drew :=
  ⟨hm.ok, hm.fresh, fun i b h => by
    obtain ⟨v, h1, h2⟩ := hm.blk i b h
    exact ⟨v, h1, h2.keep (fun _ _ h => h) (fun _ _ h => h) (fun _ _ _ => rfl) fun _ _ _ => ⟨rfl, fun _ h => h⟩⟩, hm.ne, ⟨hm.zlt.lt, hm.zlt.gl.keep (fun _ _ h => h) fun _ _ _ => rfl⟩⟩
theorem Step.drew (φ : Phi) (Z : Zs) (m : Mem) (w : World) : Step φ Z m w φ Z m w.drew :=
  ⟨fun _ _ h => h, fun _ _ h => h, fun _ _ _ => rfl, rfl, rfl, rfl, Nat.le_refl _, fun _ _ _ => rfl, fun _ _ h => h, fun _ _ h => .inl h⟩

/-- What is appended. -/
theorem news_of {k : Nat} {ys : List V} {u : Value} (h : RepV Z w (.sl ys) u) (ha : allZ k ys) :
    ∃ A mm c news, u = .slice A mm c ∧ RepEs Z w k ys news ∧ mm = ys.length ∧ (0 < mm → ∃ a, A = some a ∧ ∀ j u, news[j]? = some u → w.cell? (a.add j) = some u) := by
  cases h with
  | nil A c => exact ⟨A, 0, c, [], rfl, .nil k, rfl, fun h => by omega⟩
  | @sl z xs us ad n c h hn hc hm hz =>
    by_cases he : ys = []
    · subst he
      cases h
      exact ⟨_, _, _, [], rfl, .nil k, hn.symm, fun h => ⟨_, rfl, fun j u hu => by simp at hu⟩⟩
    · have := allZ_z h ha he
      subst this
      exact ⟨_, _, _, us, rfl, h, hn.symm, fun _ => ⟨_, rfl, fun j u hu => (hz j u hu).1⟩⟩
theorem le_maxLen_of {a b : Nat} (hb : 0 < b) (h : a * b ≤ 140737488355328) : a ≤ maxLen := by
  have : a * 1 ≤ a * b := Nat.mul_le_mul_left a hb
  simp only [maxLen]; omega

theorem updU {m : Mem} {i j : Nat} {a b : Blk} (x : Option Blk) : (updM (updM m i x) j (some a)) i = (if i = j then some a else x) := by
  unfold updM; simp

/-- append to a row of pure elements. -/
theorem appArr_sound (hm : RelM P φ Z m n w) {i t ty e k by_ : Nat} {e' : TypeId} {xs ys : List V} {v y : Value} {E : Eff} (ht : elT P t = some e) (hk : szz P e = some k) (hb : bytes P e = some by_)
    (hi : m i = some (.arr e' xs)) (hv : φ i = some v) (hy : RepV Z w (.sl ys) y) (hx : appArr e k by_ i n e' xs ys = some E) :
    Done P φ Z m (n + 1) w ((do pure (.value (← Builtin.append_ #[t, t] ty #[v, y])) : Sem Next).run P w) E := by
  unfold appArr at hx
  obtain ⟨⟨hee, hk0, hby, ha, hbound⟩, hx⟩ := tst_eq hx
  subst hee
  cases hx
  obtain ⟨inf, z, g1, g2, g3, g4⟩ := szz_spec hk
  have hbi : inf.bytes = by_ := by simpa [bytes, g1] using hb
  obtain ⟨v', hv', us, z', b1, b2, b3, b4, b5⟩ := hm.blk _ _ hi
  rw [hv] at hv'; cases hv'
  have hsz : sz P e' = some k := by simp [sz, g1, g4]
  rw [hsz] at b1; cases b1
  obtain ⟨A, mm, c, news, rfl, n1, rfl, n3⟩ := news_of hy ha
  have hnl : news.length = ys.length * inf.size := by rw [n1.length, g4]
  have hni : n ≠ i := fun h => by have := hm.fresh n (Nat.le_refl _); rw [h, hv] at this; cases this
  obtain ⟨v1, w1, hrun, hown, halt⟩ := run_append_tl (P := P) w t ty e' inf z (und_of_elT ht) g1 g2 g3 (by omega) v xs.length us (by rw [g4]; exact b3) A ys.length c news hnl n3 n1.ones (by rw [hbi]; exact hbound) (le_maxLen_of hby hbound)
  rw [g4] at hown
  have hr : ((do pure (.value (← Builtin.append_ #[t, t] ty #[v, .slice A ys.length c])) : Sem Next).run P w) = .ok (.value v1) w1 := by simp only [Sem.run_bind, hrun, Result.andThen_ok, Sem.run_pure]
  have happ : (xs ++ ys).length = xs.length + ys.length := List.length_append
  have hφn : φ n = none := hm.fresh n (Nat.le_refl _)
  have hread : RepV Z w (.sl xs) v := RelB.reads (P := P) (φ := φ) (b := .arr e' xs) ⟨us, k, hsz, b2, b3, b4, b5⟩ (.inl ⟨_, rfl⟩)
  have h1c : v1.oneCell' = true := by
    rcases hown.2 with ⟨rfl, _⟩ | ⟨_, _, _, rfl, _⟩ <;> rfl
  have ext : Ext φ (updP φ n v1) := ext_updP v1 hφn
  have ok' : PhiOk (updP φ n v1) := fun j u hu => by
    by_cases hj : j = n
    · subst hj; rw [updP_same] at hu; cases hu; exact h1c
    · rw [updP_ne _ _ hj] at hu; exact hm.ok j u hu
  have fr' : ∀ j, n + 1 ≤ j → updP φ n v1 j = none := fun j hj => by rw [updP_ne _ _ (by omega)]; exact hm.fresh j (by omega)
  -- the block stays the row's own
  have stay : ∀ (g : Nat) (Z' : Zs), blkOf v = some g → blkOf v1 = some g → SubZ Z Z' → (∀ k o, Z' k o → Z k o ∨ k = g) → (∀ o, Z' g o ↔ o < (xs.length + ys.length) * k) → KeepZ Z w w1 → w1.os = w.os → w1.tape = w.tape → w1.output = w.output → w1.heap.size = w.heap.size → (∀ k, k ≠ g → w1.heap[k]? = w.heap[k]?) →
      Done P φ Z m (n + 1) w ((do pure (.value (← Builtin.append_ #[t, t] ty #[v, .slice A ys.length c])) : Sem Next).run P w) ⟨.loc n, [(i, some (.ro xs)), (n, some (.arr e' (xs ++ ys)))]⟩ := by
    intro g Z' hg hg1 hs hZ hiff hkeep hos htape hout hsize hheap
    have key := hm.succ.change (i0 := i) (j0 := n) (g := g) (m' := updM (updM m i (some (.ro xs))) n (some (.arr e' (xs ++ ys)))) hi rfl hv hg ext ok' fr' hs hZ hkeep hos htape hout hsize hheap (fun j b hj => by
      by_cases hjn : j = n
      · subst hjn
        rw [updM_same] at hj; cases hj
        refine .inr ⟨v1, updP_same _ _ _, ⟨us ++ news, k, hsz, b2, by rw [happ]; exact hown, (b4.mono hs hkeep).append (n1.mono hs hkeep), fun q hq o => ?_⟩, .inr ⟨hg1, rfl⟩⟩
        rw [hg1] at hq; cases hq; rw [happ]; exact hiff o
      · rw [updM_ne _ _ hjn] at hj
        by_cases hji : j = i
        · subst hji
          rw [updM_same] at hj; cases hj
          exact .inr ⟨v, ext _ _ hv, hread.mono hs hkeep, .inl rfl⟩
        · rw [updM_ne _ _ hji] at hj; exact .inl ⟨hj, hji⟩)
    exact ⟨v1, w1, _, Z', .inl hr, key.1, .loc (updP_same _ _ _), key.2⟩
  rcases halt with ⟨h0, rfl, rfl⟩ | ⟨g, cur, cap, cur', rfl, rfl, hg, rfl, hcs⟩ | ⟨cap, cur', rfl, rfl, hcap, hcm, hcs, htk⟩
  · cases hg : blkOf v1 with
    | some g => exact stay g Z hg hg (fun _ _ h => h) (fun _ _ h => .inl h) (fun o => by rw [b5 g hg o, h0, Nat.add_zero]) (keep_refl _ _) rfl rfl rfl rfl fun _ _ => rfl
    | none =>
      have key := hm.succ.quiet (m' := updM (updM m i (some (.ro xs))) n (some (.arr e' (xs ++ ys)))) ext ok' fr' (fun j b hj => by
        by_cases hjn : j = n
        · subst hjn
          rw [updM_same] at hj; cases hj
          exact .inr ⟨v1, updP_same _ _ _, ⟨us ++ news, k, hsz, b2, by rw [happ]; exact hown, b4.append n1, fun q hq => by rw [hg] at hq; cases hq⟩, .inr hg⟩
        · rw [updM_ne _ _ hjn] at hj
          by_cases hji : j = i
          · subst hji
            rw [updM_same] at hj; cases hj
            exact .inr ⟨v1, ext _ _ hv, hread, .inl rfl⟩
          · rw [updM_ne _ _ hji] at hj; exact .inl hj)
      exact ⟨v1, _, _, Z, .inl hr, key.1, .loc (updP_same _ _ _), key.2⟩
  · have hz0 : ∀ o, Z g o ↔ o < xs.length * k := fun o => b5 g rfl o
    refine stay g (fun k' o => Z k' o ∨ (k' = g ∧ o < (xs.length + ys.length) * k)) rfl rfl (fun _ _ h => .inl h) (fun _ _ h => h.imp id (·.1)) (fun o => ?_) ?_ rfl rfl rfl (by simp) fun q hq => setRow_other w g q cur' hq
    · constructor
      · rintro (h | h)
        · have := (hz0 o).1 h; rw [Nat.add_mul]; omega
        · exact h.2
      · exact fun h => .inr ⟨rfl, h⟩
    · intro q o hz
      by_cases hq : q = g
      · subst hq
        have ho := (hz0 o).1 hz
        have hul : us.length = xs.length * k := b3.1
        obtain ⟨u, hu⟩ : ∃ u, us[o]? = some u := ⟨us[o]'(by omega), List.getElem?_eq_getElem (by omega)⟩
        have e1 := b3.cells (g := q) rfl o u hu
        have e2 := hown.cells (g := q) rfl o u (by rw [List.getElem?_append_left (by omega)]; exact hu)
        rw [add_lit, Nat.zero_add] at e1 e2
        rw [e1, e2]
      · exact World.cell?_of_block (w := w) (setRow_other w g q cur' hq)
  · have key := hm.succ.quiet (φ' := φ) (m' := updM m i (some (.ro xs))) (fun _ _ h => h) hm.ok hm.succ.fresh (fun j b hj => by
      by_cases hji : j = i
      · subst hji
        rw [updM_same] at hj; cases hj
        exact .inr ⟨v, hv, hread, .inl rfl⟩
      · rw [updM_ne _ _ hji] at hj; exact .inl hj)
    have hes : RepEs Z w.drew k (xs ++ ys) (us ++ news) := RepEs.mono (Z := Z) (Z' := Z) (w := w) (w' := w.drew) (fun _ _ h => h) (fun _ _ _ => rfl) (b4.append n1)
    obtain ⟨q1, q2⟩ := key.1.drew.allocArr (id := n) (by omega) hφn (e := e') (z := k) (cur := cur') (c := cap) b2 hsz hes (by rw [happ]; exact hcap) hcm (by rw [hcs, g4]) (by rw [happ, ← g4]; exact htk)
    rw [happ] at q1 q2
    exact ⟨_, _, _, _, .inl hr, q1, .loc (updP_same _ _ _), (key.2.trans (Step.drew _ _ _ _)).trans q2⟩

/-- append to nothing. -/
theorem appNil_sound (hm : RelM P φ Z m n w) {t ty e k by_ : Nat} {ys : List V} {y : Value} {E : Eff} (ht : elT P t = some e) (hk : szz P e = some k) (hb : bytes P e = some by_)
    (hy : RepV Z w (.sl ys) y) (hx : appNil e k by_ n ys = some E) :
    Done P φ Z m (n + 1) w ((do pure (.value (← Builtin.append_ #[t, t] ty #[.slice none 0 0, y])) : Sem Next).run P w) E := by
  unfold appNil at hx
  obtain ⟨⟨hk0, hby, ha, hbound⟩, hx⟩ := tst_eq hx
  cases hx
  obtain ⟨inf, z, g1, g2, g3, g4⟩ := szz_spec hk
  have hbi : inf.bytes = by_ := by simpa [bytes, g1] using hb
  have hsz : sz P e = some k := by simp [sz, g1, g4]
  obtain ⟨A, mm, c, news, rfl, n1, rfl, n3⟩ := news_of hy ha
  have hnl : news.length = ys.length * inf.size := by rw [n1.length, g4]
  obtain ⟨v1, w1, hrun, hown, halt⟩ := run_append_tl (P := P) w t ty e inf z (und_of_elT ht) g1 g2 g3 (by omega) (.slice none 0 0) 0 [] (World.ownsRow_nil _ _ _ _) A ys.length c news hnl n3 n1.ones (by rw [hbi, Nat.zero_add]; exact hbound) (by rw [Nat.zero_add]; exact le_maxLen_of hby hbound)
  rw [g4] at hown
  have hr : ((do pure (.value (← Builtin.append_ #[t, t] ty #[.slice none 0 0, .slice A ys.length c])) : Sem Next).run P w) = .ok (.value v1) w1 := by simp only [Sem.run_bind, hrun, Result.andThen_ok, Sem.run_pure]
  have hφn : φ n = none := hm.fresh n (Nat.le_refl _)
  simp only [Nat.zero_add, List.nil_append] at halt hown
  rcases halt with ⟨h0, rfl, rfl⟩ | ⟨g, cur, cap, cur', h, _⟩ | ⟨cap, cur', rfl, rfl, hcap, hcm, hcs, htk⟩
  · have key := hm.succ.quiet (φ' := updP φ n (.slice none 0 0)) (m' := updM m n (some (.arr e ys))) (ext_updP _ hφn) (fun j u hu => by
        by_cases hj : j = n
        · subst hj; rw [updP_same] at hu; cases hu; rfl
        · rw [updP_ne _ _ hj] at hu; exact hm.ok j u hu) (fun j hj => by rw [updP_ne _ _ (by omega)]; exact hm.fresh j (by omega)) (fun j b hj => by
        by_cases hjn : j = n
        · subst hjn
          rw [updM_same] at hj; cases hj
          exact .inr ⟨_, updP_same _ _ _, ⟨news, k, hsz, hk0, hown, n1, fun q hq => by cases hq⟩, .inr rfl⟩
        · rw [updM_ne _ _ hjn] at hj; exact .inl hj)
    exact ⟨_, _, _, Z, .inl hr, key.1, .loc (updP_same _ _ _), key.2⟩
  · cases h
  · have hes : RepEs Z w.drew k ys news := RepEs.mono (Z := Z) (Z' := Z) (w := w) (w' := w.drew) (fun _ _ h => h) (fun _ _ _ => rfl) n1
    obtain ⟨q1, q2⟩ := hm.succ.drew.allocArr (id := n) (by omega) hφn (e := e) (z := k) (cur := cur') (c := cap) hk0 hsz hes hcap hcm (by rw [hcs, g4]) (by rw [← g4]; exact htk)
    exact ⟨_, _, _, _, .inl hr, q1, .loc (updP_same _ _ _), (Step.drew _ _ _ _).trans q2⟩
end
end TL
