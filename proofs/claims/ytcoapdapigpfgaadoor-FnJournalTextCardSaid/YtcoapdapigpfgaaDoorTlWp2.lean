/- TL, part 21: the transformer is sound. -/
import Derived.Test.YtcoapdapigpfgaaDoorTlDraw
set_option linter.unusedVariables false
set_option linter.unusedSimpArgs false
namespace TL
open Go Go.RowKit

section
variable {P : Program} {N : Nat} {φ1 : Phi} {m1 : Mem} {Z0 : Zs} {w0 : World}

theorem twp_sound : ∀ (c : Code), dstsOk N c = true → ∀ (Q : TExit → S → Prop) (s : S) (a : Act) (w : World), RelF P N φ1 m1 Z0 w0 s a w → twp P c Q s → c.wp P (QC P N φ1 m1 Z0 w0 Q) a w := by
  intro c
  induction c with
  | skip => intro _ Q s a w h hc; exact wp_skip ⟨s, h, by unfold twp at hc; exact hc⟩
  | ret => intro _ Q s a w h hc; exact wp_ret ⟨s, h, by unfold twp at hc; exact hc⟩
  | exit i => intro _ Q s a w h hc; exact wp_exit ⟨s, h, by unfold twp at hc; exact hc⟩
  | seq x y ihx ihy =>
    intro hd Q s a w h hc
    simp only [dstsOk, Bool.and_eq_true] at hd
    unfold twp at hc
    refine wp_seq (wp_mono (ihx hd.1 _ s a w h hc) ?_)
    intro e a' w' hq
    cases e with
    | normal => obtain ⟨s', h', hc'⟩ := hq; exact ihy hd.2 Q s' a' w' h' hc'
    | exit i => exact hq
    | ret => exact hq
    | _ => exact hq.elim
  | cond q x y ihx ihy =>
    intro hd Q s a w h hc
    simp only [dstsOk, Bool.and_eq_true] at hd
    unfold twp at hc
    obtain ⟨b, hb, hc⟩ := hc
    have hb' : a.eval q = .bool b := by
      obtain ⟨φ, Z, hm, htm, _⟩ := h
      exact boolOf_rep (eval_rep htm q) hb
    refine wp_cond hb' ?_
    cases b
    · exact ihy hd.2 Q s a w h hc
    · exact ihx hd.1 Q s a w h hc
  | block i x ih =>
    intro hd Q s a w h hc
    unfold twp at hc
    refine wp_block (wp_mono (ih hd _ s a w h hc) ?_)
    intro e a' w' hq
    cases e with
    | normal => exact hq
    | exit j =>
      obtain ⟨s', h', hc'⟩ := hq
      simp only [blockP] at hc'
      simp only [Exit.inBlock]
      split
      · rename_i hj; rw [if_pos hj] at hc'; exact ⟨s', h', hc'⟩
      · rename_i hj; rw [if_neg hj] at hc'; exact ⟨s', h', hc'⟩
    | ret => exact hq
    | _ => exact hq.elim
  | loop x ih =>
    intro hd Q s a w h hc
    unfold twp at hc
    obtain ⟨I, μ, hI, hround⟩ := hc
    refine wp_loop_ghost (fun k a w => ∃ s, RelF P N φ1 m1 Z0 w0 s a w ∧ I s ∧ μ s = k) (μ s) ⟨s, h, hI, rfl⟩ ?_
    rintro k a w ⟨s, h, hI, rfl⟩
    refine wp_mono (ih hd _ s a w h (hround s hI)) ?_
    intro e a' w' hq
    cases e with
    | normal => obtain ⟨s', h', hc'⟩ := hq; exact ⟨μ s', hc'.2, s', h', hc'.1, rfl⟩
    | exit i => exact hq
    | ret => exact hq
    | _ => exact hq.elim
  | region i ops draw =>
    intro hd Q s a w h hc
    unfold twp at hc
    cases draw
    · rw [if_neg (by simp)] at hc
      exact wp_region_list (opsP_sound hd _ hd s a w h hc)
    · rw [if_pos rfl] at hc; exact drawP_sound hd h hc
  | _ => intro _ Q s a w h hc; unfold twp at hc; exact hc.elim
end
end TL
