/- TL, part 16: every operation. -/
import Derived.Test.YtcoapdapigpfgaaTlOps8
set_option linter.unusedVariables false
set_option linter.unusedSimpArgs false
namespace TL
open Go Go.RowKit

section
variable {P : Program} {φ φ' : Phi} {Z Z' : Zs} {m m' : Mem} {n : Nat} {w : World}

theorem Done.val {s : Sem Value} {x : T} {v : Value} (hm : RelM P φ Z m n w) (hr : s.run P w = .ok v w) (hx : RepT φ Z w x v) : Done P φ Z m n w ((do pure (.value (← s)) : Sem Next).run P w) ⟨x, []⟩ :=
  Done.same hm (by simp only [Sem.run_bind, hr, Result.andThen_ok, Sem.run_pure]) hx

theorem Done.up {r : Result Next} {E : Eff} (h : Done P φ Z m (n + 1) w r E) (hu : E.us ≠ []) : Done P φ Z m (bump n E.us) w r E := by
  cases hE : E.us with
  | nil => exact absurd hE hu
  | cons x xs => exact h
theorem us_alloc {t : Nat} {E : Eff} (hx : evAlloc P t n = some E) : E.us ≠ [] := by
  unfold evAlloc at hx
  obtain ⟨zs, _, hx⟩ := obind_eq hx
  obtain ⟨k, _, hx⟩ := obind_eq hx
  obtain ⟨_, hx⟩ := tst_eq hx
  cases hx; simp
theorem us_box {t : Nat} {x : T} {E : Eff} (hx : evBox P t n x = some E) : E.us ≠ [] := by
  unfold evBox at hx
  obtain ⟨k, _, hx⟩ := obind_eq hx
  obtain ⟨_, hx⟩ := tst_eq hx
  cases hx; simp
theorem us_buildSlice {t len : Nat} {parts : List (Nat × T)} {mu : Bool} {E : Eff} (hx : evBuildSlice P mu t m n len parts = some E) : E.us ≠ [] := by
  unfold evBuildSlice at hx
  obtain ⟨e, _, hx⟩ := obind_eq hx
  obtain ⟨xs, _, hx⟩ := obind_eq hx
  obtain ⟨_, hx⟩ := tst_eq hx
  unfold newRow at hx
  obtain ⟨k, _, hx⟩ := obind_eq hx
  obtain ⟨_, hx⟩ := tst_eq hx
  split at hx
  · obtain ⟨_, hx⟩ := tst_eq hx; cases hx; simp
  · obtain ⟨vs, _, hx⟩ := obind_eq hx
    obtain ⟨_, hx⟩ := tst_eq hx; cases hx; simp
theorem us_make {t : Nat} {l c : T} {E : Eff} (hx : evMake P t n l c = some E) : E.us ≠ [] := by
  unfold evMake at hx
  split at hx
  · obtain ⟨e, _, hx⟩ := obind_eq hx
    obtain ⟨k, _, hx⟩ := obind_eq hx
    obtain ⟨b, _, hx⟩ := obind_eq hx
    obtain ⟨z, _, hx⟩ := obind_eq hx
    obtain ⟨_, hx⟩ := tst_eq hx
    cases hx; simp
  · cases hx
theorem us_append {t : Nat} {x y : T} {mu : Bool} {E : Eff} (hx : evAppend P mu t m n y x = some E) : E.us ≠ [] := by
  unfold evAppend at hx
  split at hx
  · obtain ⟨e, _, hx⟩ := obind_eq hx
    obtain ⟨k, _, hx⟩ := obind_eq hx
    obtain ⟨b, _, hx⟩ := obind_eq hx
    split at hx
    · obtain ⟨p, _, hx⟩ := obind_eq hx
      unfold appMut at hx
      obtain ⟨_, hx⟩ := tst_eq hx
      cases hx; simp
    · cases hx
  · obtain ⟨e, _, hx⟩ := obind_eq hx
    obtain ⟨k, _, hx⟩ := obind_eq hx
    obtain ⟨b, _, hx⟩ := obind_eq hx
    split at hx
    · obtain ⟨p, _, hx⟩ := obind_eq hx
      unfold appArr at hx
      obtain ⟨_, hx⟩ := tst_eq hx
      cases hx; simp
    · cases hx
  · obtain ⟨e, _, hx⟩ := obind_eq hx
    obtain ⟨k, _, hx⟩ := obind_eq hx
    obtain ⟨b, _, hx⟩ := obind_eq hx
    split at hx
    · obtain ⟨p, _, hx⟩ := obind_eq hx
      unfold appNilMut at hx
      obtain ⟨_, hx⟩ := tst_eq hx
      cases hx; simp
    · obtain ⟨p, _, hx⟩ := obind_eq hx
      unfold appNil at hx
      obtain ⟨_, hx⟩ := tst_eq hx
      cases hx; simp
  · cases hx

theorem RepTs.of {ρ : Operand → T} {ev : Operand → Value} (h : ∀ o, RepT φ Z w (ρ o) (ev o)) : ∀ l : List Operand, RepTs φ Z w (l.map ρ) (l.map ev)
  | [] => .nil
  | p :: l => .cons (h _) (RepTs.of h l)

theorem evLen_sound (hm : RelM P φ Z m n w) {ts : Array TypeId} {t ty : Nat} {l : List Nat} {x : T} {u : Value} {E : Eff} (hts : ts.toList = t :: l) (h : RepT φ Z w x u) (hx : evLen P t m x = some E) :
    Done P φ Z m (bump n E.us) w ((do pure (.value (← Builtin.len_ ts ty #[u])) : Sem Next).run P w) E := by
  have h0 : ts[0]? = some t := by rw [← Array.getElem?_toList, hts]; rfl
  have general : (obind (elT P t) fun _ => obind (slLen m x) fun n => some (⟨.v (.int .i64 n), []⟩ : Eff)) = some E → Done P φ Z m (bump n E.us) w ((do pure (.value (← Builtin.len_ ts ty #[u])) : Sem Next).run P w) E := by
    intro hx
    obtain ⟨e, he, hx⟩ := obind_eq hx
    obtain ⟨k, hk, hx⟩ := obind_eq hx
    cases hx
    have hu : ∃ A c, u = .slice A k c := by
      unfold slLen at hk
      split at hk
      · cases hk; cases h; exact ⟨_, _, rfl⟩
      · simp only [Option.map_eq_some_iff] at hk
        obtain ⟨xs, hxs, rfl⟩ := hk
        have hr := elems_rep hm h hxs
        cases hr with
        | nil A c => exact ⟨_, _, rfl⟩
        | sl h hn => exact ⟨_, _, by rw [hn]⟩
    obtain ⟨A, c, rfl⟩ := hu
    refine Done.val hm (v := .int .i64 k) ?_ (rep_int _ _)
    simp [Builtin.len_, h0, run_underlying (und_of_elT he), goInt]
  unfold evLen at hx
  split at hx
  · obtain ⟨s, rfl, rfl⟩ := str_rep h
    obtain ⟨h1, hx⟩ := tst_eq hx
    cases hx
    refine Done.val hm (v := .int .i64 s.size) ?_ (rep_int _ _)
    simp [Builtin.len_, h0, run_underlying (und_of_isStr h1), goInt]
  · exact general hx

theorem evBuiltin_sound (hm : RelM P φ Z m n w) {b : Builtin} {ts : Array TypeId} {ty : Nat} {cs : Array Bool} {xs : List T} {us : List Value} {mu : Bool} {E : Eff} (h : RepTs φ Z w xs us) (hx : evBuiltin P mu b ts.toList m n xs = some E) :
    Done P φ Z m (bump n E.us) w ((Go.builtin b ts ty cs us.toArray).run P w) E := by
  unfold evBuiltin at hx
  split at hx
  · cases h with | cons h t => cases t with | nil =>
    split at hx
    · rename_i hts
      exact evLen_sound hm hts h hx
    · cases hx
  · cases h with | cons h t => cases t with | cons g t => cases t with | nil =>
    split at hx
    · rename_i t t' hts
      obtain ⟨htt, hx1⟩ := tst_eq hx
      subst htt
      have : ts = #[t, t] := by apply Array.ext'; simpa using hts
      subst this
      exact (evAppend_sound hm h g hx1).up (us_append hx1)
    · cases hx
  · cases h with | cons h t => cases t with | cons g t => cases t with | nil =>
    obtain rfl := int_rep h; obtain rfl := int_rep g
    rename_i a b
    cases hx
    refine Done.val hm (v := .int .i64 (max a b)) ?_ (rep_int _ _)
    simp only [Builtin.max_, List.foldlM_cons, List.foldlM_nil, Builtin.max2, Sem.run_bind, Sem.run_pure, Result.andThen_ok]
    congr 2; rw [Int.max_def]; split <;> split <;> omega
  · cases h with | cons h t => cases t with | cons g t => cases t with | nil =>
    obtain rfl := int_rep h; obtain rfl := int_rep g
    rename_i a b
    cases hx
    refine Done.val hm (v := .int .i64 (min a b)) ?_ (rep_int _ _)
    simp only [Builtin.min_, List.foldlM_cons, List.foldlM_nil, Builtin.min2, Sem.run_bind, Sem.run_pure, Result.andThen_ok]
    congr 2; rw [Int.min_def]; split <;> split <;> omega
  · cases hx

theorem opF_sound (hm : RelM P φ Z m n w) {mu : Bool} {ρ : Operand → T} {ev : Operand → Value} (hρ : ∀ o, RepT φ Z w (ρ o) (ev o)) (o : Oper) {E : Eff} (hx : opF P mu ρ m n o.op = some E) :
    Done P φ Z m (bump n E.us) w ((execOp ev o).run P w) E := by
  obtain ⟨dst, op, ty, pos, af, gd⟩ := o
  simp only at hx
  unfold execOp
  cases op with
  | move x => simp only [opF] at hx; cases hx; exact Done.same hm (by simp) (hρ x)
  | assign x => simp only [opF] at hx; cases hx; exact Done.same hm (by simp) (hρ x)
  | pick c a b =>
    simp only [opF] at hx
    obtain ⟨q, hq, hx⟩ := obind_eq hx; cases hx
    have := boolOf_rep (hρ c) hq
    cases q
    · exact Done.same hm (v := ev b) (by simp [this, asBool]) (hρ b)
    · exact Done.same hm (v := ev a) (by simp [this, asBool]) (hρ a)
  | alloc t => exact (evAlloc_sound hm hx).up (us_alloc hx)
  | box t x => exact (evBox_sound hm (hρ x) hx).up (us_box hx)
  | build t parts =>
    simp only [opF] at hx
    obtain ⟨x, h, hx⟩ := obind_eq hx; cases hx
    obtain ⟨v, h1, h2⟩ := evBuild_sound hm (RepPs.of hρ parts.toList) h
    refine Done.val hm (v := v) ?_ h2
    rw [← h1]; congr 2; apply Array.ext'; simp
  | buildSlice t len parts =>
    simp only [opF] at hx
    have h1 := evBuildSlice_sound hm (RepPs.of hρ parts.toList) hx
    have e : (List.map (fun p => (p.1, ev p.2)) parts.toList).toArray = (parts.map fun (i, x) => (i, ev x)) := by apply Array.ext'; simp
    rw [e] at h1; exact h1.up (us_buildSlice hx)
  | load t a =>
    simp only [opF] at hx
    obtain ⟨x, h, hx⟩ := obind_eq hx; cases hx
    obtain ⟨v, h1, h2⟩ := evLoad_sound hm (hρ a) h
    exact Done.val hm h1 h2
  | store t a x =>
    simp only [opF] at hx
    obtain ⟨u, h, hx⟩ := obind_eq hx; cases hx
    obtain ⟨w', h1, h2, h3⟩ := evStore_sound hm (hρ a) (hρ x) h
    exact ⟨undef, w', φ, Z, .inr ⟨by simp only [Sem.run_bind, h1, Result.andThen_ok, Sem.run_pure], rfl⟩, h2.succ, .v (.any _), h3⟩
  | nilCheck x =>
    simp only [opF] at hx
    obtain ⟨y, h, hx⟩ := obind_eq hx; cases hx
    obtain ⟨rfl, ad, had⟩ := evNilCheck_sound (hρ x) h
    exact Done.same hm (v := ev x) (by simp [had]) (hρ x)
  | binOp op t x y q =>
    simp only [opF] at hx
    obtain ⟨z, h, hx⟩ := obind_eq hx; cases hx
    obtain ⟨v, h1, h2⟩ := evBin_sound hm x y (hρ x) (hρ y) h
    exact Done.val hm h1 h2
  | unOp op t x =>
    cases op <;> simp only [opF] at hx <;> first | (cases hx; done) | skip
    · obtain ⟨z, h, hx⟩ := obind_eq hx; cases hx
      unfold evNeg at h
      split at h
      · rename_i k q hq
        cases h
        have hr := hρ x
        rw [hq] at hr
        have := int_rep hr
        exact Done.val hm (v := .int k (k.wrap (0 - q))) (by rw [this]; simp only [Op.unary, Op.intArith, Sem.run_pure]) (rep_int _ _)
      · cases h
    · obtain ⟨z, h, hx⟩ := obind_eq hx; cases hx
      have := boolOf_rep (hρ x) h
      exact Done.val hm (v := .bool (!z)) (by rw [this]; simp only [Op.unary, Sem.run_pure]) (rep_bool _)
  | convert src dst x =>
    simp only [opF] at hx
    obtain ⟨z, h, hx⟩ := obind_eq hx; cases hx
    obtain ⟨v, h1, h2⟩ := evConvert_sound hm (hρ x) h
    exact Done.val hm h1 h2
  | makeFunc f first cap =>
    cases f <;> simp only [opF] at hx <;> first | (cases hx; done) | skip
    rename_i q
    obtain ⟨hf, hx1⟩ := tst_eq hx
    subst hf; cases hx1
    refine Done.val hm (v := .func (.func q) #[] (cap.map ev)) (by simp [Instr.makeFunc]) ?_
    have := RepT.fn (f := q) (RepTs.of hρ cap.toList)
    rw [show cap.map ev = (cap.toList.map ev).toArray by apply Array.ext'; simp]
    exact this
  | makeSlice t l c => exact (evMake_sound hm (hρ l) (hρ c) hx).up (us_make hx)
  | slice t x lo hi mx =>
    cases mx <;> simp only [opF] at hx
    · obtain ⟨z, h, hx⟩ := obind_eq hx; cases hx
      obtain ⟨v, h1, h2⟩ := evSlice_sound hm (hρ x) (ulo := lo.map ev) (uhi := hi.map ev) (fun t ht => by
        cases lo with
        | none => cases ht
        | some q => cases ht; exact ⟨_, rfl, hρ q⟩) (fun ht => by cases lo with
        | none => rfl
        | some q => cases ht) (fun t ht => by
        cases hi with
        | none => cases ht
        | some q => cases ht; exact ⟨_, rfl, hρ q⟩) (fun ht => by cases hi with
        | none => rfl
        | some q => cases ht) h
      exact Done.val hm h1 h2
    · cases hx
  | fieldAddr t x f =>
    simp only [opF] at hx
    obtain ⟨z, h, hx⟩ := obind_eq hx; cases hx
    obtain ⟨v, h1, h2⟩ := evFieldAddr_sound (P := P) (hρ x) h
    exact Done.val hm h1 h2
  | indexAddr t x i =>
    simp only [opF] at hx
    obtain ⟨z, h, hx⟩ := obind_eq hx; cases hx
    obtain ⟨v, h1, h2⟩ := evIndexAddr_sound hm (hρ x) (hρ i) h
    exact Done.val hm h1 h2
  | index t x i =>
    simp only [opF] at hx
    obtain ⟨z, h, hx⟩ := obind_eq hx; cases hx
    obtain ⟨v, h1, h2⟩ := evIndex_sound (P := P) (hρ x) (hρ i) h
    exact Done.val hm h1 h2
  | extract x i =>
    simp only [opF] at hx
    obtain ⟨z, h, hx⟩ := obind_eq hx; cases hx
    obtain ⟨v, h1, h2⟩ := evExtract_sound (P := P) (hρ x) h
    exact Done.val hm h1 h2
  | call c =>
    obtain ⟨callee, args, ats⟩ := c
    cases callee with
    | builtin b =>
      simp only [opF] at hx
      have h := RepTs.of hρ args.toList
      have h1 := evBuiltin_sound (ty := ty) (cs := args.map fun | .const _ => true | _ => false) hm h hx
      simp only [resolve, Sem.run_bind, Sem.run_pure, Result.andThen_ok, invoke]
      rw [show args.map ev = (args.toList.map ev).toArray by apply Array.ext'; simp]
      exact h1
    | _ => cases hx
  | _ => cases hx
end
end TL
