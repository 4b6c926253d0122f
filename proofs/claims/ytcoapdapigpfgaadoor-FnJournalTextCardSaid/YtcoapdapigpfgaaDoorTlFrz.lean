/- TL, part 19: results that nobody writes any more. -/
import Derived.Test.YtcoapdapigpfgaaDoorTlFn
set_option linter.unusedVariables false
set_option linter.unusedSimpArgs false
namespace TL
open Go Go.RowKit
variable {P : Program}

theorem RelM.frz {φ : Phi} {Z : Zs} {m m2 dm : Mem} {n : Nat} {w : World} (hm : RelM P φ Z m n w) (h2 : LeM m2 m) (hd : LeM dm m) (hx : ∀ i, m2 i = none ∨ dm i = none) :
    RelM P φ (fun k o => Z k o ∨ Owned φ dm k) m2 n w := by
  refine ⟨hm.ok, hm.fresh, fun i b hb => ?_, fun i j a b u v k ha hb => hm.ne i j a b u v k (h2 _ _ ha) (h2 _ _ hb), ⟨fun k o h => ?_, hm.zlt.gl.keep (fun _ _ h => .inl h) fun _ _ _ => rfl⟩⟩
  · obtain ⟨v, hv, hr⟩ := hm.blk i b (h2 i b hb)
    refine ⟨v, hv, hr.keep (fun _ _ h => h) (fun _ _ h => .inl h) (fun _ _ _ => rfl) fun hro k hk => ⟨rfl, fun o ho => ho.resolve_right ?_⟩⟩
    rintro ⟨j, c, u, hc, hcr, hu, huk⟩
    have he := hm.ne i j b c v u k (h2 _ _ hb) (hd _ _ hc) hv hu hk huk hro hcr
    subst he
    rcases hx i with h | h
    · rw [h] at hb; cases hb
    · rw [h] at hc; cases hc
  · rcases h with h | ⟨i, b, v, h1, h3, h4, h5⟩
    · exact hm.zlt.lt k o h
    · exact hm.owned_lt ⟨i, b, v, hd _ _ h1, h3, h4, h5⟩

theorem RelM.le {φ : Phi} {Z : Zs} {m m2 : Mem} {n : Nat} {w : World} (hm : RelM P φ Z m n w) (h2 : LeM m2 m) : RelM P φ Z m2 n w :=
  ⟨hm.ok, hm.fresh, fun i b hb => hm.blk i b (h2 i b hb), fun i j a b u v k ha hb => hm.ne i j a b u v k (h2 _ _ ha) (h2 _ _ hb), hm.zlt⟩

/-- A result whose memory is given away: what it names is read from then on, by whomever. -/
theorem FnS.frz {f : Nat} {m : Mem} {n : Nat} {args : List T} {post post' : T → Mem → Nat → Prop} (h : FnS P f m n args post)
    (hp : ∀ t m' n', post t m' n' → ∃ x m2 dm, LeM m2 m' ∧ LeM dm m' ∧ (∀ i, m2 i = none ∨ dm i = none) ∧ bor true dm 4 t = some x ∧ post' (.v x) m2 n') : FnS P f m n args post' := by
  refine ⟨h.1, fun φ Z w us hm hr c => ?_⟩
  obtain ⟨e, w', fr, hh, h5⟩ := h.2 φ Z w us hm hr c
  refine ⟨e, w', fr, ?_, h5⟩
  obtain ⟨v, φ', Z', m', n', t, rfl, h1, h2, h3, h4⟩ := hh
  obtain ⟨x, m2, dm, l2, ld, hx, hb, hq⟩ := hp t m' n' h4
  have hz := h1.frz l2 ld hx
  refine ⟨v, φ', _, m2, n', .v x, rfl, hz, .v (bor_sound (h1.le ld) (k := true) (fun k o h => .inl h) (fun _ g hg o => .inr hg) 4 _ _ _ h2 hb), ?_, hq⟩
  have own : ∀ k, k < w.heap.size → Owned φ' m' k → Owned φ m k := h3.own
  have ownd : ∀ k, Owned φ' dm k → Owned φ' m' k := fun k ⟨i, b, v, a1, a2⟩ => ⟨i, b, v, ld _ _ a1, a2⟩
  refine ⟨h3.ext, fun k o hz => .inl (h3.sub k o hz), h3.keep, h3.os, h3.tape, h3.output, h3.size, h3.out, fun k hk ⟨i, b, v, a1, a2⟩ => h3.own k hk ⟨i, b, v, l2 _ _ a1, a2⟩, fun k o hzn => ?_⟩
  rcases hzn with hzn | hzn
  · exact h3.znew k o hzn
  · by_cases hk : k < w.heap.size
    · exact .inr (.inr (own k hk (ownd k hzn)))
    · exact .inr (.inl (by omega))
/-- The same contract with less said. -/
theorem FnS.weak {f : Nat} {m : Mem} {n : Nat} {args : List T} {post post' : T → Mem → Nat → Prop} (h : FnS P f m n args post) (hp : ∀ t m' n', post t m' n' → post' t m' n') : FnS P f m n args post' := by
  refine ⟨h.1, fun φ Z w us hm hr c => ?_⟩
  obtain ⟨e, w', fr, hh, h5⟩ := h.2 φ Z w us hm hr c
  refine ⟨e, w', fr, ?_, h5⟩
  obtain ⟨v, φ', Z', m', n', t, rfl, h1, h2, h3, h4⟩ := hh
  exact ⟨v, φ', Z', m', n', t, rfl, h1, h2, h3, hp _ _ _ h4⟩
end TL
