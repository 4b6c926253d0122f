/- TL, part 17: the transformer is sound. -/
import Derived.Laws.Cover3
import Derived.Test.YtcoapdapigpfgaaDoorTlGb
import Derived.Test.YtcoapdapigpfgaaDoorTlTwp
set_option linter.unusedVariables false
set_option linter.unusedSimpArgs false
namespace TL
open Go Go.RowKit

section
variable {P : Program} {N : Nat} {φ1 : Phi} {m1 : Mem} {Z0 : Zs} {w0 : World}

abbrev φ0 : Phi := fun _ => none
abbrev m0 : Mem := fun _ => none

/-- The frame and the abstract state, a call begun in w0. -/
def RelF (P : Program) (N : Nat) (φ1 : Phi) (m1 : Mem) (Z0 : Zs) (w0 : World) (s : S) (a : Act) (w : World) : Prop :=
  ∃ φ Z, RelM P φ Z s.m s.n w ∧ (∀ t, RepT φ Z w (s.tm t) (a.tmps.getD t undef)) ∧ a.tmps.size = N ∧ a.defers = [] ∧ Step φ1 Z0 m1 w0 φ Z s.m w

def dstOk (N : Nat) (o : Oper) : Bool := match o.dst with
  | some d => decide (d < N)
  | none => true
def dstsOk (N : Nat) : Code → Bool
  | .seq a b => dstsOk N a && dstsOk N b
  | .cond _ a b => dstsOk N a && dstsOk N b
  | .block _ c => dstsOk N c
  | .loop c => dstsOk N c
  | .region _ ops _ => ops.toList.all (dstOk N)
  | _ => true

theorem getD_put (a : Array Value) (d t : Nat) (v u : Value) (h : d < a.size) : (a.setIfInBounds d v).getD t u = if t = d then v else a.getD t u := by
  simp only [Array.getD_eq_getD_getElem?, Array.getElem?_setIfInBounds]
  by_cases ht : d = t
  · subst ht; simp [h]
  · rw [if_neg ht, if_neg (fun h => ht h.symm)]
theorem tm_put_rel {φ : Phi} {Z : Zs} {w : World} {f : Nat → T} {a : Act} {x : T} {v : Value} (h : ∀ t, RepT φ Z w (f t) (a.tmps.getD t undef)) (hx : RepT φ Z w x v) {dst : Option Nat} (hd : ∀ d, dst = some d → d < a.tmps.size) :
    (∀ t, RepT φ Z w ((match dst with | some d => updT f d x | none => f) t) ((a.put dst v).tmps.getD t undef)) ∧ (a.put dst v).tmps.size = a.tmps.size ∧ (a.put dst v).defers = a.defers := by
  cases dst with
  | none => exact ⟨h, rfl, rfl⟩
  | some d =>
    refine ⟨fun t => ?_, by simp [Act.put], rfl⟩
    simp only [Act.put, updT]
    rw [getD_put _ _ _ _ _ (hd d rfl)]
    by_cases ht : t = d
    · rw [if_pos ht, if_pos ht]; exact hx
    · rw [if_neg ht, if_neg ht]; exact h t
theorem dst_lt {o : Oper} (h : dstOk N o = true) : ∀ d, o.dst = some d → d < N := by
  intro d hd; simpa [dstOk, hd] using h

theorem eval_rep {φ : Phi} {Z : Zs} {w : World} {s : S} {a : Act} (h : ∀ t, RepT φ Z w (s.tm t) (a.tmps.getD t undef)) (x : Operand) : RepT φ Z w (s.ev x) (a.eval x) := by
  cases x with
  | tmp t => exact h t
  | const v => exact const_rep v
  | global g => exact .v (.any _)
  | func f => exact RepT.fn (us := []) .nil

theorem RepVs.append {Z : Zs} {w : World} {a b : List V} {us vs : List Value} (h : RepVs Z w a us) (g : RepVs Z w b vs) : RepVs Z w (a ++ b) (us ++ vs) := by
  induction a generalizing us with
  | nil => cases h; exact g
  | cons x xs ih => cases h with | cons h t => exact .cons h (ih t)
theorem RepVs.toTs {φ : Phi} {Z : Zs} {w : World} {a : List V} {us : List Value} (h : RepVs Z w a us) : RepTs φ Z w (a.map .v) us := by
  induction a generalizing us with
  | nil => cases h; exact .nil
  | cons x xs ih => cases h with | cons h t => exact .cons (.v h) (ih t)

/-- Behind a call. -/
theorem after_call {φ : Phi} {Z : Zs} {m : Mem} {n : Nat} {w w' : World} (hm : RelM P φ Z m n w) (hb : Below w.heap.size w w') :
    RelM P φ (freshZ Z w.heap.size w'.heap.size) m n w' ∧ Step φ Z m w φ (freshZ Z w.heap.size w'.heap.size) m w' := by
  have hk : KeepZ Z w w' := keepZ_of_heap fun k o hz => hb.block k (hm.zlt.lt k o hz)
  have hs : SubZ Z (freshZ Z w.heap.size w'.heap.size) := fun k o h => .inl h
  refine ⟨⟨hm.ok, hm.fresh, fun i b hi => ?_, hm.ne, ⟨fun k o hz => ?_, hm.zlt.gl.keep hs hk⟩⟩, ⟨fun _ _ h => h, hs, hk, hb.os, hb.tape, hb.output, hb.size, fun k hk _ => hb.block k hk, fun _ _ h => h, fun k o hz => hz.imp id fun h => .inl h.1⟩⟩
  · obtain ⟨v, hv, hr⟩ := hm.blk i b hi
    refine ⟨v, hv, hr.keep (fun _ _ h => h) hs hk fun hro k hk => ?_⟩
    have hlt := hr.lt hro hk
    exact ⟨hb.block k hlt, fun o hz => hz.resolve_right fun h => by omega⟩
  · rcases hz with h | h
    · exact Nat.lt_of_lt_of_le (hm.zlt.lt k o h) hb.size
    · exact h.2

theorem RepTs.mono' {φ : Phi} {Z Z' : Zs} {w w' : World} (hs : SubZ Z Z') (hk : KeepZ Z w w') {a : Act} {f : Nat → T} (h : ∀ t, RepT φ Z w (f t) (a.tmps.getD t undef)) {φ' : Phi} (he : Ext φ φ') : ∀ t, RepT φ' Z' w' (f t) (a.tmps.getD t undef) :=
  fun t => (h t).mono he hs hk

theorem enters {f : Nat} (h : ∃ fn, P.funcs[f]? = some fn ∧ (fn.name == "runtime.NumGoroutine") = false ∧ fn.body.isNone = false) (args : Array Value) (w : World) : (callFunc f args).run P w = .ok (.enter f args) w := by
  obtain ⟨fn, h1, h2, h3⟩ := h
  have h2' : fn.name ≠ "runtime.NumGoroutine" := by simpa using h2
  have h3' : fn.body ≠ none := by intro h; rw [h] at h3; cases h3
  simp [callFunc, h1, h2', h3']

theorem callP_sound {s : S} {a : Act} {w : World} {o : Oper} {K : S → Prop} {next : Act → World → Prop} {Q : Exit → Act → World → Prop} (h : RelF P N φ1 m1 Z0 w0 s a w) (ho : dstOk N o = true) {f : Nat} {args : List T} {us : List Value}
    (hrep : ∀ φ Z, (∀ t, RepT φ Z w (s.tm t) (a.tmps.getD t undef)) → RepTs φ Z w args us) (hrun : (execOp a.eval o).run P w = (callFunc f us.toArray).run P w) (hc : callP P f s.m s.n args fun t m n => K (s.aft o.dst t m n))
    (hk : ∀ s' a' w', RelF P N φ1 m1 Z0 w0 s' a' w' → K s' → next a' w') : o.wp P a w next Q := by
  obtain ⟨φ, Z, hm, htm, hsz, hdf, hst⟩ := h
  have hargs := hrep φ Z htm
  have mono : ∀ (R R' : Ending → World → Prop), (∀ e w', R e w' → R' e w') → Calls P f us.toArray w R → Calls P f us.toArray w R' :=
    fun R R' hR h cs => let ⟨e, w', fr, h1, h2⟩ := h cs; ⟨e, w', fr, hR _ _ h1, h2⟩
  have fin : ∀ φ' Z' m' n' t v w', RelM P φ' Z' m' n' w' → RepT φ' Z' w' t v → Step φ Z s.m w φ' Z' m' w' → K (s.aft o.dst t m' n') → next (a.put o.dst v) w' := by
    intro φ' Z' m' n' t v w' q1 hr q2 hK
    have htm' := RepTs.mono' q2.sub q2.keep htm q2.ext
    obtain ⟨t1, t2, t3⟩ := tm_put_rel htm' hr (dst := o.dst) (fun d hd => by rw [hsz]; exact dst_lt ho d hd)
    exact hk (s.aft o.dst t m' n') _ _ ⟨φ', Z', q1, t1, by rw [t2, hsz], by rw [t3, hdf], hst.trans q2⟩ hK
  unfold Oper.wp
  rcases hc with ⟨vs, r, hfn, hb, hK⟩ | ⟨post, hfn, hK⟩
  · rw [hrun, enters hfn.1]
    rw [Oper.upon_enter]
    have fin' : ∀ v w', Below w.heap.size w w' → RepV (freshZ Z w.heap.size w'.heap.size) w' r v → next (a.put o.dst v) w' := by
      intro v w' hbl hr
      obtain ⟨q1, q2⟩ := after_call hm hbl
      exact fin _ _ _ _ _ v w' q1 (.v hr) q2 hK
    rcases hb with hb | ⟨hb, hfl⟩
    · have hv := bors_sound hm (k := false) (Zb := Z) (fun _ _ h => h) (by simp) args us vs hargs hb
      refine mono _ _ ?_ (hfn.2 Z w us hm.zlt hv)
      rintro e w' ⟨v, rfl, h1, h2⟩
      exact fin' v w' h1 h2
    · have hv := bors_sound hm (k := true) (Zb := fun k _ => k < w.heap.size) (fun k o h => hm.zlt.lt k o h) (fun _ g hg o => hm.owned_lt hg) args us vs hargs hb
      refine mono _ _ ?_ (hfn.2 _ w us ⟨fun k o h => h, hm.zlt.gl.keep (fun k o h => hm.zlt.lt k o h) fun _ _ _ => rfl⟩ hv)
      rintro e w' ⟨v, rfl, h1, h2⟩
      exact fin' v w' h1 (flat_rep hfl h2)
  · rw [hrun, enters hfn.1]
    rw [Oper.upon_enter]
    refine mono _ _ ?_ (hfn.2 φ Z w us hm hargs)
    rintro e w' ⟨v, φ', Z', m', n', t, rfl, h1, h2, h3, h4⟩
    exact fin _ _ _ _ _ v w' h1 h2 h3 (hK t m' n' h4)

theorem nil_run {φ : Phi} {Z : Zs} {w : World} {t : TypeId} {x : T} {u : Value} {xo yo : Operand} (he : (elT P t).isSome = true) (h : RepT φ Z w x u) (hx : (∃ xs, x = .v (.sl xs)) ∨ x = .nil) :
    ∃ b : Bool, ((∀ xs, x = .v (.sl xs) → b = true → xs = []) ∧ (x = .nil → b = true)) ∧
      (eqGuard .eql t xo yo u (.slice none 0 0)).run P w = .ok () w ∧ (binOp .eql t u (.slice none 0 0)).run P w = .ok (.bool b) w ∧ (eqGuard .neq t xo yo u (.slice none 0 0)).run P w = .ok () w ∧ (binOp .neq t u (.slice none 0 0)).run P w = .ok (.bool !b) w := by
  have ht : ∃ e, P.underlying t = some (.slice e) := by
    unfold elT at he
    cases hu : P.underlying t with
    | none => simp [hu] at he
    | some d => cases d <;> simp_all
  obtain ⟨e, ht⟩ := ht
  have run : ∀ (A : Option Addr) (l c : Nat), (eqGuard .eql t xo yo (.slice A l c) (.slice none 0 0)).run P w = .ok () w ∧ (binOp .eql t (.slice A l c) (.slice none 0 0)).run P w = .ok (.bool A.isNone) w ∧ (eqGuard .neq t xo yo (.slice A l c) (.slice none 0 0)).run P w = .ok () w ∧ (binOp .neq t (.slice A l c) (.slice none 0 0)).run P w = .ok (.bool !A.isNone) w := by
    intro A l c
    have g1 : (eqGuard .eql t xo yo (.slice A l c) (.slice none 0 0)).run P w = .ok () w := by simp [eqGuard]
    have g2 : (eqGuard .neq t xo yo (.slice A l c) (.slice none 0 0)).run P w = .ok () w := by simp [eqGuard]
    have b1 : binOp .eql t (.slice A l c) (.slice none 0 0) = (do pure (.bool (← Op.equal t (.slice A l c) (.slice none 0 0)))) := rfl
    have b2 : binOp .neq t (.slice A l c) (.slice none 0 0) = (do pure (.bool (!(← Op.equal t (.slice A l c) (.slice none 0 0))))) := rfl
    have e := run_equal_slice_nil w t e A l c ht
    refine ⟨g1, ?_, g2, ?_⟩
    · simp only [Sem.run_bind, b1, e, Result.andThen_ok, Sem.run_pure]
    · simp only [Sem.run_bind, b2, e, Result.andThen_ok, Sem.run_pure]
  rcases hx with ⟨xs, rfl⟩ | rfl
  · cases h with | v h =>
    cases h with
    | nil A c => exact ⟨A.isNone, ⟨fun xs h _ => (by cases h; rfl), fun h => (by cases h)⟩, run A 0 c⟩
    | sl h hn hc hm hz => exact ⟨false, ⟨fun xs _ h => (by cases h), fun h => (by cases h)⟩, run _ _ _⟩
  · cases h
    exact ⟨true, ⟨fun xs h => (by cases h), fun _ => rfl⟩, run _ _ _⟩
theorem nilP_sound {s : S} {a : Act} {w : World} {o : Oper} {K : S → Prop} {next : Act → World → Prop} {Q : Exit → Act → World → Prop} {t : TypeId} {x : Operand} {g : Bool → Bool} (h : RelF P N φ1 m1 Z0 w0 s a w) (ho : dstOk N o = true)
    (hc : nilP P t (s.ev x) fun b => K (s.app o.dst ⟨.v (.bool (g b)), []⟩))
    (hrun : ∀ u, u = a.eval x → ∀ b : Bool, ((eqGuard .eql t x (.const (.slice none 0 0)) u (.slice none 0 0)).run P w = .ok () w ∧ (binOp .eql t u (.slice none 0 0)).run P w = .ok (.bool b) w ∧ (eqGuard .neq t x (.const (.slice none 0 0)) u (.slice none 0 0)).run P w = .ok () w ∧ (binOp .neq t u (.slice none 0 0)).run P w = .ok (.bool !b) w) → (execOp a.eval o).run P w = .ok (.value (.bool (g b))) w)
    (hk : ∀ s' a' w', RelF P N φ1 m1 Z0 w0 s' a' w' → K s' → next a' w') : o.wp P a w next Q := by
  obtain ⟨φ, Z, hm, htm, hsz, hdf, hst⟩ := h
  obtain ⟨he, hc⟩ := hc
  have hx := eval_rep htm x
  have hor : (∃ xs, s.ev x = .v (.sl xs)) ∨ s.ev x = .nil := by
    split at hc
    · rename_i xs e; exact .inl ⟨xs, e⟩
    · rename_i e; exact .inr e
    · exact hc.elim
  obtain ⟨b, ⟨hb1, hb2⟩, hr⟩ := nil_run (xo := x) (yo := .const (.slice none 0 0)) he hx hor
  have hK : K (s.app o.dst ⟨.v (.bool (g b)), []⟩) := by
    split at hc
    · rename_i xs e; exact hc b (hb1 xs e)
    · rename_i e; rw [hb2 e]; exact hc
    · exact hc.elim
  have hgo := hrun _ rfl b hr
  obtain ⟨t1, t2, t3⟩ := tm_put_rel htm (x := .v (.bool (g b))) (v := .bool (g b)) (.v (.bool _)) (dst := o.dst) (fun d hd => by rw [hsz]; exact dst_lt ho d hd)
  unfold Oper.wp
  rw [hgo, Oper.upon_value]
  exact hk (s.app o.dst ⟨.v (.bool (g b)), []⟩) _ _ ⟨φ, Z, hm, t1, by rw [t2, hsz], by rw [t3, hdf], hst⟩ hK

theorem opP_sound {s : S} {a : Act} {w : World} {o : Oper} {K : S → Prop} {next : Act → World → Prop} {Q : Exit → Act → World → Prop} (h : RelF P N φ1 m1 Z0 w0 s a w) (ho : dstOk N o = true) (hc : opP P s o K)
    (hk : ∀ s' a' w', RelF P N φ1 m1 Z0 w0 s' a' w' → K s' → next a' w') : o.wp P a w next Q := by
  unfold opP at hc
  split at hc
  · rename_i g args ts hop
    have run : ∀ f us, a.eval g = .func (.func f) #[] us → (execOp a.eval o).run P w = (callFunc f ((args.toList.map a.eval) ++ us.toList).toArray).run P w := by
      intro f us hg
      unfold execOp
      simp only [hop, resolve, hg, Deferred.ofValue, Sem.run_bind, Sem.run_pure, Result.andThen_ok, invoke]
      congr 2
      apply Array.ext'; simp
    split at hc
    · rename_i f cap hg
      have hre : ∀ φ Z, (∀ t, RepT φ Z w (s.tm t) (a.tmps.getD t undef)) → ∃ us, a.eval g = .func (.func f) #[] us ∧ RepTs φ Z w cap us.toList := by
        intro φ Z htm
        have := eval_rep htm g
        rw [hg] at this
        generalize a.eval g = u at this ⊢
        cases this with
        | fn h => exact ⟨_, rfl, h⟩
      have h' := h
      obtain ⟨φ, Z, _, htm, _⟩ := h'
      obtain ⟨us, e1, _⟩ := hre φ Z htm
      refine callP_sound h ho (fun φ Z htm => ?_) (run f us e1) hc hk
      obtain ⟨us', e2, h2⟩ := hre φ Z htm
      rw [e1] at e2; cases e2
      exact (RepTs.of (eval_rep htm) args.toList).append h2
    · rename_i f cap hg
      have hre : ∀ φ Z, (∀ t, RepT φ Z w (s.tm t) (a.tmps.getD t undef)) → ∃ us, a.eval g = .func (.func f) #[] us ∧ RepVs Z w cap us.toList := by
        intro φ Z htm
        have := eval_rep htm g
        rw [hg] at this
        generalize a.eval g = u at this ⊢
        cases this with
        | v h => cases h with | fn h => exact ⟨_, rfl, h⟩
      have h' := h
      obtain ⟨φ, Z, _, htm, _⟩ := h'
      obtain ⟨us, e1, _⟩ := hre φ Z htm
      refine callP_sound h ho (fun φ Z htm => ?_) (run f us e1) hc hk
      obtain ⟨us', e2, h2⟩ := hre φ Z htm
      rw [e1] at e2; cases e2
      exact (RepTs.of (eval_rep htm) args.toList).append h2.toTs
    · exact hc.elim
  · rename_i t x ty hop
    refine nilP_sound h ho hc (fun u hu b hb => ?_) hk
    unfold execOp
    obtain ⟨q1, q2, q3, q4⟩ := hb
    rw [hu] at q1 q2 q3 q4
    have e : a.eval (.const (.slice none 0 0)) = .slice none 0 0 := rfl
    simp only [hop, e, Sem.run_bind, q1, q2, Result.andThen_ok, Sem.run_pure]
  · rename_i t x ty hop
    refine nilP_sound h ho (K := fun s => K s) (g := fun b => !b) hc (fun u hu b hb => ?_) hk
    unfold execOp
    obtain ⟨q1, q2, q3, q4⟩ := hb
    rw [hu] at q1 q2 q3 q4
    have e : a.eval (.const (.slice none 0 0)) = .slice none 0 0 := rfl
    simp only [hop, e, Sem.run_bind, q3, q4, Result.andThen_ok, Sem.run_pure]
  · obtain ⟨E, hE, hK⟩ := hc
    obtain ⟨φ, Z, hm, htm, hsz, hdf, hst⟩ := h
    obtain ⟨v, w', φ', Z', hr, q1, q2, q3⟩ := opF_sound hm (eval_rep htm) o hE
    have htm' := RepTs.mono' q3.sub q3.keep htm q3.ext
    obtain ⟨t1, t2, t3⟩ := tm_put_rel htm' q2 (dst := o.dst) (fun d hd => by rw [hsz]; exact dst_lt ho d hd)
    have hnext := hk (s.app o.dst E) _ _ ⟨φ', Z', q1, t1, by rw [t2, hsz], by rw [t3, hdf], hst.trans q3⟩ hK
    unfold Oper.wp
    rcases hr with hr | ⟨hr, rfl⟩
    · rw [hr, Oper.upon_value]; exact hnext
    · rw [hr, Oper.upon_skip]; exact hnext

/-- What is behind a piece of code. -/
def QC (P : Program) (N : Nat) (φ1 : Phi) (m1 : Mem) (Z0 : Zs) (w0 : World) (Q : TExit → S → Prop) : Exit → Act → World → Prop
  | .normal, a, w => ∃ s, RelF P N φ1 m1 Z0 w0 s a w ∧ Q .normal s
  | .exit i, a, w => ∃ s, RelF P N φ1 m1 Z0 w0 s a w ∧ Q (.exit i) s
  | .ret, a, w => ∃ s, RelF P N φ1 m1 Z0 w0 s a w ∧ Q .ret s
  | _, _, _ => False

theorem put_any {s : S} {a : Act} {w : World} {o : Oper} (h : RelF P N φ1 m1 Z0 w0 s a w) (ho : dstOk N o = true) : RelF P N φ1 m1 Z0 w0 (s.put o.dst und) (a.put o.dst undef) w := by
  obtain ⟨φ, Z, hm, htm, hsz, hdf, hst⟩ := h
  obtain ⟨t1, t2, t3⟩ := tm_put_rel htm (show RepT φ Z w und undef from .v (RepV.tup (us := []) .nil)) (dst := o.dst) (fun d hd => by rw [hsz]; exact dst_lt ho d hd)
  exact ⟨φ, Z, hm, t1, by rw [t2, hsz], by rw [t3, hdf], hst⟩

theorem guard_sound {s : S} {a : Act} {w : World} {ops : Array Oper} {o : Oper} {g : Bool} (h : RelF P N φ1 m1 Z0 w0 s a w) (hall : ops.toList.all (dstOk N) = true) (hg : guardB ops.toList s o.guard = some g) : Region.wanted o (yielded ops a.tmps) = g := by
  obtain ⟨φ, Z, hm, htm, hsz, hdf, hst⟩ := h
  unfold Region.wanted
  cases hgd : o.guard with
  | none => rw [hgd] at hg; simp [guardB] at hg; simp [hg]
  | some p =>
    obtain ⟨j, b⟩ := p
    rw [hgd] at hg
    simp only [guardB] at hg
    obtain ⟨d, hd, hg⟩ := obind_eq hg
    unfold dstOf at hd
    rw [Array.getElem?_toList] at hd
    have hlt : d < a.tmps.size := by
      rw [hsz]
      cases hj : ops[j]? with
      | none => simp [hj] at hd
      | some q =>
        have hq : q ∈ ops.toList := by rw [Array.mem_toList_iff]; exact Array.mem_of_getElem? hj
        exact dst_lt (List.all_eq_true.1 hall q hq) d (by simpa [hj] using hd)
    have hr := htm d
    rw [Array.getD_eq_getD_getElem?, Array.getElem?_eq_getElem hlt, Option.getD_some] at hr
    unfold guardOf at hg
    split at hg
    · rename_i c hc
      rw [hc] at hr
      cases hg
      cases hr with | v hr =>
      have : a.tmps[d]? = some (.bool c) := by
        rw [Array.getElem?_eq_getElem hlt]
        generalize a.tmps[d] = u at hr
        cases hr; rfl
      simp only [yielded, hd, Option.bind_some, this]
      cases c <;> cases b <;> rfl
    · rename_i hc
      rw [hc] at hr
      cases hg
      cases hr with | v hr =>
      have : a.tmps[d]? = some (.tuple #[]) := by
        rw [Array.getElem?_eq_getElem hlt]
        generalize a.tmps[d] = u at hr
        cases hr with | tup h => cases h; rfl
      simp only [yielded, hd, Option.bind_some, this]
      rfl
    · cases hg

theorem opsP_sound {Q : TExit → S → Prop} {ops : Array Oper} (hall : ops.toList.all (dstOk N) = true) : ∀ (l : List Oper), l.all (dstOk N) = true → ∀ (s : S) (a : Act) (w : World), RelF P N φ1 m1 Z0 w0 s a w → opsP P ops.toList l (Q .normal) s →
    wpList P ops (QC P N φ1 m1 Z0 w0 Q) l a w := by
  intro l
  induction l with
  | nil => intro _ s a w h hc; exact ⟨s, h, hc⟩
  | cons o rest ih =>
    intro hl s a w h hc
    rw [List.all_cons, Bool.and_eq_true] at hl
    unfold opsP at hc
    obtain ⟨g, hg, hc⟩ := hc
    unfold wpList
    rw [guard_sound h hall hg]
    cases g
    · rw [if_neg (by simp)]
      exact ih hl.2 _ _ _ (put_any h hl.1) (show opsP P ops.toList rest (Q .normal) (s.put o.dst und) from hc)
    · rw [if_pos rfl]
      exact .inl (opP_sound h hl.1 (show opP P s o (fun s' => opsP P ops.toList rest (Q .normal) s') from hc) fun s' a' w' hr hK => ih hl.2 s' a' w' hr hK)

end
end TL
