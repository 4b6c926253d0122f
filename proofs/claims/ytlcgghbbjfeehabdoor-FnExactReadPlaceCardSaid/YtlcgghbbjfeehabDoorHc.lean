/- TL: parts TlFn, TlFrz, TlRun, TlCut, TlFacts, Fns1, Fns2, Fns7. -/
import Derived.Test.YtlcgghbbjfeehabDoorHb
import Derived.Test.YtlcgghbbjfeehabDoorChecked
/- TL, part 18: from the code to the contract. -/
set_option linter.unusedVariables false
set_option linter.unusedSimpArgs false
namespace TL
open Go Go.RowKit

section
variable {P : Program}

def resOf (tmps : Array Value) : ResultVar → Sem Value
  | .tmp t => pure (tmps.getD t undef)
  | .cell a t => do loadVar t (← asAddr (tmps.getD a undef))

def resV : List Value → Value
  | [u] => u
  | us => .tuple us.toArray
theorem loadAt_asAddr {t : Nat} {u v : Value} {w : World} (h : (Instr.loadAt t u).run P w = .ok v w) : (do loadVar t (← asAddr u)).run P w = .ok v w := by
  unfold Instr.loadAt Instr.sureAddr at h
  unfold asAddr
  cases u with
  | pointer p =>
    cases p with
    | none => simp at h
    | some ad => simpa using h
  | _ => simp at h
theorem outs_sound {φ : Phi} {Z Zb : Zs} {w : World} {s : S} {tmps : Array Value} (hm : RelM P φ Z s.m s.n w) (htm : ∀ t, RepT φ Z w (s.tm t) (tmps.getD t undef)) (hs : SubZ Z Zb) (ho : ∀ g, Owned φ s.m g → ∀ o, Zb g o) :
    ∀ (rs : List ResultVar) (vs : List V), outs P s rs = some vs → ∃ us, (rs.mapM (resOf tmps)).run P w = .ok us w ∧ RepVs Zb w vs us
  | [], vs, h => by cases h; exact ⟨[], by simp, .nil⟩
  | .tmp t :: rs, vs, h => by
    simp only [outs] at h
    obtain ⟨x, hx, h⟩ := obind_eq h
    obtain ⟨xs, hxs, h⟩ := obind_eq h
    cases h
    obtain ⟨us, h1, h2⟩ := outs_sound hm htm hs ho rs xs hxs
    exact ⟨_ :: us, by simp [List.mapM_cons, resOf, h1], .cons (bor_sound hm (k := true) hs (fun _ => ho) 4 _ _ _ (htm t) hx) h2⟩
  | .cell a t :: rs, vs, h => by
    simp only [outs] at h
    obtain ⟨y, hy, h⟩ := obind_eq h
    obtain ⟨x, hx, h⟩ := obind_eq h
    obtain ⟨xs, hxs, h⟩ := obind_eq h
    cases h
    obtain ⟨us, h1, h2⟩ := outs_sound hm htm hs ho rs xs hxs
    obtain ⟨v, h3, h4⟩ := evLoad_sound hm (htm a) hy
    have h5 : (resOf tmps (.cell a t)).run P w = .ok v w := loadAt_asAddr h3
    exact ⟨v :: us, by simp [List.mapM_cons, h5, h1], .cons (bor_sound hm (k := true) hs (fun _ => ho) 4 _ _ _ h4 hx) h2⟩

theorem results_outs {fn : Func} {tmps : Array Value} {w : World} {us : List Value} (h : (fn.results.toList.mapM (resOf tmps)).run P w = .ok us w) : (results fn tmps).run P w = .ok (resV us) w := by
  have e : fn.results.mapM (resOf tmps) = List.toArray <$> fn.results.toList.mapM (resOf tmps) := by
    rw [← List.mapM_toArray]
  have e2 : (fn.results.mapM (resOf tmps)).run P w = .ok us.toArray w := by rw [e]; simp [h]
  have e3 : results fn tmps = (do let vs ← fn.results.mapM (resOf tmps); pure (if h : vs.size = 1 then vs[0] else .tuple vs)) := by
    unfold results
    congr 1
  rw [e3, Sem.run_bind, e2]
  rcases us with _ | ⟨u, _ | ⟨v, us⟩⟩ <;> simp [resV]

theorem rep_outV {Z : Zs} {w : World} {vs : List V} {us : List Value} (h : RepVs Z w vs us) : RepV Z w (outV vs) (resV us) := by
  cases h with
  | nil => exact .tup .nil
  | cons h t =>
    cases t with
    | nil => exact h
    | cons g t => exact .tup (.cons h (.cons g t))

/-- The start of a call. -/
def start (mu : Bool) (args : List V) : S := ⟨fun t => (args.map T.v).getD t (.v .any), fun _ => none, 0, mu⟩

theorem start_rel {mu : Bool} {args : List V} {vs : List Value} {Z : Zs} {w : World} {N : Nat} (hz : ZOk P Z w) (h : RepVs Z w args vs) (hN : args.length ≤ N) :
    RelF P N φ0 m0 Z w (start mu args) { tmps := vs.toArray ++ Array.replicate (N - vs.toArray.size) undef, defers := [] } w := by
  have hl := h.length
  refine ⟨φ0, Z, ⟨fun i u h => (by simp at h), fun _ _ => rfl, fun i b h => (by simp [start] at h), fun i j a b u v k h => (by simp [start] at h), hz⟩, fun t => ?_, ?_, rfl, Step.refl _ _ _ _⟩
  · have hT := h.toTs (φ := φ0)
    simp only [start]
    rw [Array.getD_eq_getD_getElem?, List.getD_eq_getElem?_getD]
    by_cases ht : t < vs.length
    · obtain ⟨u, hu, hr⟩ := hT.get t ((args.map T.v)[t]'(by simp; omega)) (List.getElem?_eq_getElem _)
      rw [List.getElem?_eq_getElem (by simp; omega), Array.getElem?_append_left (by simpa using ht), List.getElem?_toArray, hu]
      exact hr
    · rw [List.getElem?_eq_none (by simp; omega), Array.getElem?_append_right (by simp; omega)]
      refine .v ?_
      exact .any _
  · simp; omega

theorem FnZ_of {f : Nat} {fn : Func} {c : Code} {rs : List ResultVar} {args : List V} {r : V} (mu : Bool) (hf : P.funcs[f]? = some fn) (hb : fn.body = some c) (hr : fn.results.toList = rs) (hn : (fn.name == "runtime.NumGoroutine") = false)
    (hd : dstsOk fn.ntmps c = true) (ha : args.length ≤ fn.ntmps) (h : twp P c (fun e s => retP P rs (fun v => v = r) e s) (start mu args)) : FnZ P f args r := by
  refine ⟨⟨fn, hf, hn, by rw [hb]; rfl⟩, fun Z w vs hz hv => ?_⟩
  refine calls_of_wp hf hb (wp_mono (twp_sound c hd _ _ _ _ (start_rel (N := fn.ntmps) (mu := mu) hz hv ha) h) ?_)
  have fin : ∀ s a w', RelF P fn.ntmps φ0 m0 Z w s a w' → bindP (outs P s rs) (fun vs => outV vs = r) → a.defers = [] ∧ ∃ v, (results fn a.tmps).run P w' = .ok v w' ∧
      ∃ v', Ending.returned v = .returned v' ∧ Below w.heap.size w w' ∧ RepV (freshZ Z w.heap.size w'.heap.size) w' r v' := by
    rintro s a w' ⟨φ, Z', hm, htm, hsz, hdf, hst⟩ ⟨xs, hxs, rfl⟩
    have no : ∀ k, ¬ Owned φ0 m0 k := fun k ⟨i, b, v, h1, _⟩ => by cases h1
    have hsub : SubZ Z' (freshZ Z w.heap.size w'.heap.size) := fun k o hz' => by
      rcases hst.znew k o hz' with h1 | h1 | h1
      · exact .inl h1
      · exact .inr ⟨h1, hm.zlt.lt k o hz'⟩
      · exact absurd h1 (no k)
    have hown : ∀ g, Owned φ s.m g → ∀ o, freshZ Z w.heap.size w'.heap.size g o := fun g hg o => by
      refine .inr ⟨?_, hm.owned_lt hg⟩
      rcases Nat.lt_or_ge g w.heap.size with h1 | h1
      · exact absurd (hst.own g h1 hg) (no g)
      · exact h1
    obtain ⟨us, h1, h2⟩ := outs_sound hm htm hsub hown rs xs hxs
    rw [← hr] at h1
    exact ⟨hdf, _, results_outs h1, _, rfl, ⟨hst.os, hst.tape, hst.output, hst.size, fun k hk => hst.out k hk (no k)⟩, rep_outV h2⟩
  intro e a w' hq
  cases e with
  | normal => obtain ⟨s, h1, h2⟩ := hq; exact fin s a w' h1 h2
  | ret => obtain ⟨s, h1, h2⟩ := hq; exact fin s a w' h1 h2
  | exit i => obtain ⟨s, h1, h2⟩ := hq; exact h2.elim
  | _ => exact hq.elim

@[simp] theorem retP_normal {rs : List ResultVar} {R : V → Prop} {s : S} : retP P rs R .normal s = bindP (outs P s rs) fun vs => R (outV vs) := nrfl
@[simp] theorem retP_ret {rs : List ResultVar} {R : V → Prop} {s : S} : retP P rs R .ret s = bindP (outs P s rs) fun vs => R (outV vs) := nrfl
@[simp] theorem retP_exit {rs : List ResultVar} {R : V → Prop} {s : S} {i : Nat} : retP P rs R (.exit i) s = False := nrfl
@[simp] theorem outs_nil {s : S} : outs P s [] = some [] := rfl
@[simp] theorem outs_tmp {s : S} {t : Nat} {rs : List ResultVar} : outs P s (.tmp t :: rs) = obind (bor true s.m 4 (s.tm t)) fun x => obind (outs P s rs) fun xs => some (x :: xs) := rfl
@[simp] theorem outs_cell {s : S} {a t : Nat} {rs : List ResultVar} : outs P s (.cell a t :: rs) = obind (evLoad P t s.m (s.tm a)) fun y => obind (bor true s.m 4 y) fun x => obind (outs P s rs) fun xs => some (x :: xs) := rfl
@[simp] theorem outV_one {x : V} : outV [x] = x := rfl
@[simp] theorem outV_none : outV [] = .tup [] := rfl
@[simp] theorem outV_two {x y : V} {xs : List V} : outV (x :: y :: xs) = .tup (x :: y :: xs) := rfl
@[simp] theorem start_tm {mu : Bool} {args : List V} {t : Nat} : (start mu args).tm t = (args.map T.v).getD t (.v .any) := rfl
@[simp] theorem start_m {mu : Bool} {args : List V} : (start mu args).m = fun _ => none := rfl
@[simp] theorem start_n {mu : Bool} {args : List V} : (start mu args).n = 0 := rfl
@[simp] theorem start_mu {mu : Bool} {args : List V} : (start mu args).mu = mu := rfl

/-- Calls. -/
theorem call_ {f : Nat} {m : Mem} {n : Nat} {args : List T} {k : T → Mem → Nat → Prop} {vs : List V} {r : V} (h : FnZ P f vs r) (ha : mapO (bor false m 4) args = some vs) (hk : k (.v r) m n) : callP P f m n args k := .inl ⟨vs, r, h, .inl ha, hk⟩
theorem callM_ {f : Nat} {m : Mem} {n : Nat} {args : List T} {k : T → Mem → Nat → Prop} {vs : List V} {r : V} (h : FnZ P f vs r) (ha : mapO (bor true m 4) args = some vs) (hp : r.flat = true) (hk : k (.v r) m n) : callP P f m n args k := .inl ⟨vs, r, h, .inr ⟨ha, hp⟩, hk⟩
theorem callS_ {f : Nat} {m : Mem} {n : Nat} {args : List T} {k : T → Mem → Nat → Prop} {post : T → Mem → Nat → Prop} (h : FnS P f m n args post) (hk : ∀ t m' n', post t m' n' → k t m' n') : callP P f m n args k := .inr ⟨post, h, hk⟩

/-- What a function's results are to its caller. -/
def outT (P : Program) (s : S) : List ResultVar → Option (List T)
  | [] => some []
  | .tmp t :: rs => obind (outT P s rs) fun xs => some (s.tm t :: xs)
  | .cell a t :: rs => obind (evLoad P t s.m (s.tm a)) fun y => obind (outT P s rs) fun xs => some (y :: xs)
def outTV : List T → T
  | [x] => x
  | xs => .tup xs
@[simp] theorem outT_nil {s : S} : outT P s [] = some [] := rfl
@[simp] theorem outT_tmp {s : S} {t : Nat} {rs : List ResultVar} : outT P s (.tmp t :: rs) = obind (outT P s rs) fun xs => some (s.tm t :: xs) := rfl
@[simp] theorem outT_cell {s : S} {a t : Nat} {rs : List ResultVar} : outT P s (.cell a t :: rs) = obind (evLoad P t s.m (s.tm a)) fun y => obind (outT P s rs) fun xs => some (y :: xs) := rfl
@[simp] theorem outTV_one {x : T} : outTV [x] = x := rfl
@[simp] theorem outTV_none : outTV [] = .tup [] := rfl
@[simp] theorem outTV_two {x y : T} {xs : List T} : outTV (x :: y :: xs) = .tup (x :: y :: xs) := rfl
/-- The end of a function with memory. -/
def retS (P : Program) (rs : List ResultVar) (R : T → Mem → Nat → Prop) (e : TExit) (s : S) [Hd R] [Hd s] : Prop :=
  match e with
  | .exit _ => False
  | _ => bindP (outT P s rs) fun ts => R (outTV ts) s.m s.n
@[simp] theorem retS_normal {rs : List ResultVar} {R : T → Mem → Nat → Prop} {s : S} : retS P rs R .normal s = bindP (outT P s rs) fun vs => R (outTV vs) s.m s.n := nrfl
@[simp] theorem retS_ret {rs : List ResultVar} {R : T → Mem → Nat → Prop} {s : S} : retS P rs R .ret s = bindP (outT P s rs) fun vs => R (outTV vs) s.m s.n := nrfl
@[simp] theorem retS_exit {rs : List ResultVar} {R : T → Mem → Nat → Prop} {s : S} {i : Nat} : retS P rs R (.exit i) s = False := nrfl

theorem outT_sound {φ : Phi} {Z : Zs} {w : World} {s : S} {tmps : Array Value} (hm : RelM P φ Z s.m s.n w) (htm : ∀ t, RepT φ Z w (s.tm t) (tmps.getD t undef)) :
    ∀ (rs : List ResultVar) (vs : List T), outT P s rs = some vs → ∃ us, (rs.mapM (resOf tmps)).run P w = .ok us w ∧ RepTs φ Z w vs us
  | [], vs, h => by cases h; exact ⟨[], by simp, .nil⟩
  | .tmp t :: rs, vs, h => by
    simp only [outT] at h
    obtain ⟨xs, hxs, h⟩ := obind_eq h
    cases h
    obtain ⟨us, h1, h2⟩ := outT_sound hm htm rs xs hxs
    exact ⟨_ :: us, by simp [List.mapM_cons, resOf, h1], .cons (htm t) h2⟩
  | .cell a t :: rs, vs, h => by
    simp only [outT] at h
    obtain ⟨y, hy, h⟩ := obind_eq h
    obtain ⟨xs, hxs, h⟩ := obind_eq h
    cases h
    obtain ⟨us, h1, h2⟩ := outT_sound hm htm rs xs hxs
    obtain ⟨v, h3, h4⟩ := evLoad_sound hm (htm a) hy
    have h5 : (resOf tmps (.cell a t)).run P w = .ok v w := loadAt_asAddr h3
    exact ⟨v :: us, by simp [List.mapM_cons, h5, h1], .cons h4 h2⟩
theorem rep_outTV {φ : Phi} {Z : Zs} {w : World} {vs : List T} {us : List Value} (h : RepTs φ Z w vs us) : RepT φ Z w (outTV vs) (resV us) := by
  cases h with
  | nil => exact RepT.tup (us := []) .nil
  | cons h t =>
    cases t with
    | nil => exact h
    | cons g t => exact .tup (.cons h (.cons g t))

/-- The start of a call with memory. -/
def startS (mu : Bool) (m : Mem) (n : Nat) (args : List T) : S := ⟨fun t => args.getD t (.v .any), m, n, mu⟩
@[simp] theorem startS_tm {mu : Bool} {m : Mem} {n : Nat} {args : List T} {t : Nat} : (startS mu m n args).tm t = args.getD t (.v .any) := rfl
@[simp] theorem startS_m {mu : Bool} {m : Mem} {n : Nat} {args : List T} : (startS mu m n args).m = m := rfl
@[simp] theorem startS_n {mu : Bool} {m : Mem} {n : Nat} {args : List T} : (startS mu m n args).n = n := rfl
@[simp] theorem startS_mu {mu : Bool} {m : Mem} {n : Nat} {args : List T} : (startS mu m n args).mu = mu := rfl
theorem startS_rel {mu : Bool} {m : Mem} {n : Nat} {args : List T} {vs : List Value} {φ : Phi} {Z : Zs} {w : World} {N : Nat} (hm : RelM P φ Z m n w) (h : RepTs φ Z w args vs) (hN : args.length ≤ N) :
    RelF P N φ m Z w (startS mu m n args) { tmps := vs.toArray ++ Array.replicate (N - vs.toArray.size) undef, defers := [] } w := by
  have hl := h.length
  refine ⟨φ, Z, hm, fun t => ?_, ?_, rfl, Step.refl _ _ _ _⟩
  · simp only [startS]
    rw [Array.getD_eq_getD_getElem?, List.getD_eq_getElem?_getD]
    by_cases ht : t < vs.length
    · obtain ⟨u, hu, hr⟩ := h.get t (args[t]'(by omega)) (List.getElem?_eq_getElem _)
      rw [List.getElem?_eq_getElem (by omega), Array.getElem?_append_left (by simpa using ht), List.getElem?_toArray, hu]
      exact hr
    · rw [List.getElem?_eq_none (by omega), Array.getElem?_append_right (by simp; omega)]
      refine .v ?_
      exact .any _
  · simp; omega

theorem FnS_of {f : Nat} {fn : Func} {c : Code} {rs : List ResultVar} {m : Mem} {n : Nat} {args : List T} {post : T → Mem → Nat → Prop} (mu : Bool) (hf : P.funcs[f]? = some fn) (hb : fn.body = some c) (hr : fn.results.toList = rs) (hn : (fn.name == "runtime.NumGoroutine") = false)
    (hd : dstsOk fn.ntmps c = true) (ha : args.length ≤ fn.ntmps) (h : twp P c (fun e s => retS P rs post e s) (startS mu m n args)) : FnS P f m n args post := by
  refine ⟨⟨fn, hf, hn, by rw [hb]; rfl⟩, fun φ Z w vs hm hv => ?_⟩
  refine calls_of_wp hf hb (wp_mono (twp_sound c hd _ _ _ _ (startS_rel (N := fn.ntmps) (mu := mu) hm hv ha) h) ?_)
  have fin : ∀ s a w', RelF P fn.ntmps φ m Z w s a w' → bindP (outT P s rs) (fun vs => post (outTV vs) s.m s.n) → a.defers = [] ∧ ∃ v, (results fn a.tmps).run P w' = .ok v w' ∧
      ∃ v' φ' Z' m' n' t, Ending.returned v = .returned v' ∧ RelM P φ' Z' m' n' w' ∧ RepT φ' Z' w' t v' ∧ Step φ Z m w φ' Z' m' w' ∧ post t m' n' := by
    rintro s a w' ⟨φ', Z', hm', htm, hsz, hdf, hst⟩ ⟨xs, hxs, hp⟩
    obtain ⟨us, h1, h2⟩ := outT_sound hm' htm rs xs hxs
    rw [← hr] at h1
    exact ⟨hdf, _, results_outs h1, _, φ', Z', s.m, s.n, _, rfl, hm', rep_outTV h2, hst, hp⟩
  intro e a w' hq
  cases e with
  | normal => obtain ⟨s, h1, h2⟩ := hq; exact fin s a w' h1 h2
  | ret => obtain ⟨s, h1, h2⟩ := hq; exact fin s a w' h1 h2
  | exit i => obtain ⟨s, h1, h2⟩ := hq; exact h2.elim
  | _ => exact hq.elim
end
end TL

/- TL, part 19: results that nobody writes any more. -/
set_option linter.unusedVariables false
set_option linter.unusedSimpArgs false
namespace TL
open Go Go.RowKit
variable {P : Program}

theorem RelM.frz {φ : Phi} {Z : Zs} {m m2 dm : Mem} {n : Nat} {w : World} (hm : RelM P φ Z m n w) (h2 : LeM m2 m) (hd : LeM dm m) (hx : ∀ i, m2 i = none ∨ dm i = none) :
    RelM P φ (fun k o => Z k o ∨ Owned φ dm k) m2 n w := by
  refine ⟨hm.ok, hm.fresh, fun i b hb => ?_, fun i j a b u v k ha hb => hm.ne i j a b u v k (h2 _ _ ha) (h2 _ _ hb), ⟨fun k o h => ?_, hm.zlt.gl.keep (fun _ _ h => .inl h) fun _ _ _ => rfl⟩⟩
  · obtain ⟨v, hv, hr⟩ := hm.blk i b (h2 i b hb)
    refine ⟨v, hv, hr.keep (fun _ _ h => h) (fun _ _ h => .inl h) (fun _ _ _ => rfl) fun hro k hk => ⟨rfl, fun o ho => ho.resolve_right ?_⟩⟩
    rintro ⟨j, c, u, hc, hcr, hu, huk⟩
    have he := hm.ne i j b c v u k (h2 _ _ hb) (hd _ _ hc) hv hu hk huk hro hcr
    subst he
    rcases hx i with h | h
    · rw [h] at hb; cases hb
    · rw [h] at hc; cases hc
  · rcases h with h | ⟨i, b, v, h1, h3, h4, h5⟩
    · exact hm.zlt.lt k o h
    · exact hm.owned_lt ⟨i, b, v, hd _ _ h1, h3, h4, h5⟩

theorem RelM.le {φ : Phi} {Z : Zs} {m m2 : Mem} {n : Nat} {w : World} (hm : RelM P φ Z m n w) (h2 : LeM m2 m) : RelM P φ Z m2 n w :=
  ⟨hm.ok, hm.fresh, fun i b hb => hm.blk i b (h2 i b hb), fun i j a b u v k ha hb => hm.ne i j a b u v k (h2 _ _ ha) (h2 _ _ hb), hm.zlt⟩

/-- A result whose memory is given away: what it names is read from then on, by whomever. -/
theorem FnS.frz {f : Nat} {m : Mem} {n : Nat} {args : List T} {post post' : T → Mem → Nat → Prop} (h : FnS P f m n args post)
    (hp : ∀ t m' n', post t m' n' → ∃ x m2 dm, LeM m2 m' ∧ LeM dm m' ∧ (∀ i, m2 i = none ∨ dm i = none) ∧ bor true dm 4 t = some x ∧ post' (.v x) m2 n') : FnS P f m n args post' := by
  refine ⟨h.1, fun φ Z w us hm hr c => ?_⟩
  obtain ⟨e, w', fr, hh, h5⟩ := h.2 φ Z w us hm hr c
  refine ⟨e, w', fr, ?_, h5⟩
  obtain ⟨v, φ', Z', m', n', t, rfl, h1, h2, h3, h4⟩ := hh
  obtain ⟨x, m2, dm, l2, ld, hx, hb, hq⟩ := hp t m' n' h4
  have hz := h1.frz l2 ld hx
  refine ⟨v, φ', _, m2, n', .v x, rfl, hz, .v (bor_sound (h1.le ld) (k := true) (fun k o h => .inl h) (fun _ g hg o => .inr hg) 4 _ _ _ h2 hb), ?_, hq⟩
  have own : ∀ k, k < w.heap.size → Owned φ' m' k → Owned φ m k := h3.own
  have ownd : ∀ k, Owned φ' dm k → Owned φ' m' k := fun k ⟨i, b, v, a1, a2⟩ => ⟨i, b, v, ld _ _ a1, a2⟩
  refine ⟨h3.ext, fun k o hz => .inl (h3.sub k o hz), h3.keep, h3.os, h3.tape, h3.output, h3.size, h3.out, fun k hk ⟨i, b, v, a1, a2⟩ => h3.own k hk ⟨i, b, v, l2 _ _ a1, a2⟩, fun k o hzn => ?_⟩
  rcases hzn with hzn | hzn
  · exact h3.znew k o hzn
  · by_cases hk : k < w.heap.size
    · exact .inr (.inr (own k hk (ownd k hzn)))
    · exact .inr (.inl (by omega))
/-- The same contract with less said. -/
theorem FnS.weak {f : Nat} {m : Mem} {n : Nat} {args : List T} {post post' : T → Mem → Nat → Prop} (h : FnS P f m n args post) (hp : ∀ t m' n', post t m' n' → post' t m' n') : FnS P f m n args post' := by
  refine ⟨h.1, fun φ Z w us hm hr c => ?_⟩
  obtain ⟨e, w', fr, hh, h5⟩ := h.2 φ Z w us hm hr c
  refine ⟨e, w', fr, ?_, h5⟩
  obtain ⟨v, φ', Z', m', n', t, rfl, h1, h2, h3, h4⟩ := hh
  exact ⟨v, φ', Z', m', n', t, rfl, h1, h2, h3, hp _ _ _ h4⟩
end TL

/- TL, part 3: the rules by which simp runs the code. -/
namespace TL
open Go

section
variable {P : Program} {Q : TExit → S → Prop} {s : S}
@[simp] theorem twp_skip : twp P .skip Q s = Q .normal s := by simp [twp]
@[simp] theorem twp_seq (a b : Code) : twp P (.seq a b) Q s = twp P a (fun e s => thenP (fun s => twp P b Q s) Q e s) s := by simp [twp]
@[simp] theorem twp_cond (c : Operand) (a b : Code) : twp P (.cond c a b) Q s = bindP (boolOf (s.ev c)) fun q => iteP q (twp P a Q s) (twp P b Q s) := by simp [twp]
@[simp] theorem twp_block (i : Nat) (c : Code) : twp P (.block i c) Q s = twp P c (fun e s => blockP i Q e s) s := by simp [twp]
@[simp] theorem twp_exit (i : Nat) : twp P (.exit i) Q s = Q (.exit i) s := by simp [twp]
@[simp] theorem twp_ret : twp P .ret Q s = Q .ret s := by simp [twp]
@[simp] theorem twp_region (i : Nat) (l : List Oper) : twp P (.region i l.toArray false) Q s = opsP P l l (fun s => Q .normal s) s := by simp [twp]
@[simp] theorem thenP_normal (A : S → Prop) : thenP A Q .normal s = A s := nrfl
@[simp] theorem thenP_exit (A : S → Prop) (i : Nat) : thenP A Q (.exit i) s = Q (.exit i) s := nrfl
@[simp] theorem thenP_ret (A : S → Prop) : thenP A Q .ret s = Q .ret s := nrfl
@[simp] theorem blockP_normal (i : Nat) : blockP i Q .normal s = Q .normal s := nrfl
@[simp] theorem blockP_exit_same (i : Nat) : blockP i Q (.exit i) s = Q .normal s := if_pos rfl
@[simp] theorem blockP_exit (i j : Nat) : blockP i Q (.exit j) s = iteP (decide (j = i)) (Q .normal s) (Q (.exit j) s) := by simp [blockP, iteP]
@[simp] theorem blockP_ret (i : Nat) : blockP i Q .ret s = Q .ret s := nrfl
theorem twp_draw {i : Nat} {l : List Oper} (ord ids : List Nat) (L K : List (List Nat)) (hf : P.follows .mixedOrders = true) (hn : Region.noSelect l.toArray = true) (hl : ord.length = l.toArray.size) (hk : ordOk l.toArray L K ord (Array.replicate l.toArray.size false) = true) (h : ordP P l ids L K (fun s => Q .normal s) ord s) : twp P (.region i l.toArray true) Q s := by
  unfold twp; rw [if_pos rfl]; exact ⟨hf, .inl ⟨ord, ids, L, K, hn, hl, hk, h⟩⟩
theorem twp_drawT {i : Nat} {l : List Oper} (t : OT) (ids : List Nat) (L K : List (List Nat)) (hf : P.follows .mixedOrders = true) (hn : Region.noSelect l.toArray = true) (hl : t.size = l.toArray.size) (hk : otOk l.toArray L K t false (Array.replicate l.toArray.size false) = true) (h : ordT P l ids L K (fun s => Q .normal s) t s) : twp P (.region i l.toArray true) Q s := by
  unfold twp; rw [if_pos rfl]; exact ⟨hf, .inr ⟨t, ids, L, K, hn, hl, hk, h⟩⟩
@[simp] theorem ordT_done (all : List Oper) (ids : List Nat) (L K : List (List Nat)) (Q : S → Prop) : ordT P all ids L K Q .done s = Q s := nrfl
@[simp] theorem ordT_run (all : List Oper) (ids : List Nat) (L K : List (List Nat)) (Q : S → Prop) (l : List Nat) (r : OT) : ordT P all ids L K Q (.run l r) s = ordP P all ids L K (fun s => ordT P all ids L K Q r s) l s := nrfl
theorem ordT_alt (all : List Oper) (ids : List Nat) (L K : List (List Nat)) (Q : S → Prop) (a b : OT) : ordT P all ids L K Q (.alt a b) s = (ordT P all ids L K Q a s ∧ ordT P all ids L K Q b s) := nrfl
theorem ordT_both {all : List Oper} {ids : List Nat} {L K : List (List Nat)} {Q : S → Prop} {a b : OT} (h : ordT P all ids L K Q a s) (g : ordT P all ids L K Q b s) : ordT P all ids L K Q (.alt a b) s := ⟨h, g⟩
theorem twp_loop {c : Code} (I : S → Prop) (μ : S → Nat) (h : I s) (hs : ∀ s, I s → twp P c (fun e s1 => thenP (fun s' => I s' ∧ μ s' < μ s) Q e s1) s) : twp P (.loop c) Q s := by
  unfold twp; exact ⟨I, μ, h, hs⟩
end

section
variable {P : Program} {s : S}
@[simp] theorem opsP_nil (all : List Oper) (Q : S → Prop) : opsP P all [] Q s = Q s := nrfl
@[simp] theorem opsP_cons (all rest : List Oper) (o : Oper) (Q : S → Prop) : opsP P all (o :: rest) Q s = bindP (guardB all s o.guard) fun g => iteP g (opP P s o fun s' => opsP P all rest Q s') (opsP P all rest Q (s.put o.dst und)) := nrfl
@[simp] theorem opsP_cons_g (all rest : List Oper) (d : Option Nat) (op : Op) (ty : TypeId) (pos : String) (af : Array Edge) (Q : S → Prop) : opsP P all (⟨d, op, ty, pos, af, none⟩ :: rest) Q s = opP P s ⟨d, op, ty, pos, af, none⟩ fun s' => opsP P all rest Q s' := by simp [guardB]
@[simp] theorem guardB_none (all : List Oper) : guardB all s none = some true := rfl
@[simp] theorem guardB_some (all : List Oper) (j : Nat) (b : Bool) : guardB all s (some (j, b)) = obind (dstOf all j) fun d => guardOf b (s.tm d) := rfl
@[simp] theorem dstOf_zero (o : Oper) (all : List Oper) : dstOf (o :: all) 0 = o.dst := by simp [dstOf]
@[simp] theorem dstOf_succ (o : Oper) (all : List Oper) (j : Nat) : dstOf (o :: all) (j + 1) = dstOf all j := by simp [dstOf]
@[simp] theorem opAt_zero (o : Oper) (all : List Oper) : opAt (o :: all) 0 = some o := by simp [opAt]
@[simp] theorem opAt_succ (o : Oper) (all : List Oper) (j : Nat) : opAt (o :: all) (j + 1) = opAt all j := by simp [opAt]
@[simp] theorem ordP_nil (all : List Oper) (ids : List Nat) (L K : List (List Nat)) (Q : S → Prop) : ordP P all ids L K Q [] s = Q s := nrfl
theorem ordP_cons (all : List Oper) (ids : List Nat) (L K : List (List Nat)) (Q : S → Prop) (i : Nat) (rest : List Nat) : ordP P all ids L K Q (i :: rest) s = iteP (decide (1000 ≤ i)) (bindP (opAt all (i - 1000)) fun o => bindP (guardB all s o.guard) fun g => iteP g (pureC P s o fun d x => ordP P all ids L K Q rest (s.put d x)) (ordP P all ids L K Q rest (s.put o.dst und)))
      (bindP (opAt all i) fun o => bindP (guardB all s o.guard) fun g => iteP g
      (iteP (isVal o.op) (opP P (s.rs (idsAt ids L i)) o fun s' => ordP P all ids L K Q rest (s'.wm s.m s.n)) (opP P s o fun s' => keepP (idsAt ids K i) s.m s'.m ∧ ordP P all ids L K Q rest s'))
      (ordP P all ids L K Q rest (s.put o.dst und))) := nrfl
attribute [simp] isVal idsAt
@[simp] theorem keepP_nil (m m' : Mem) : keepP [] m m' = True := by simp [keepP]
@[simp] theorem keepP_cons (m m' : Mem) (i : Nat) (l : List Nat) : keepP (i :: l) m m' = (m' i = m i ∧ keepP l m m') := by simp [keepP]
@[simp] theorem rst_nil (m : Mem) (i : Nat) : rst m [] i = none := by simp [rst]
@[simp] theorem rst_cons (m : Mem) (i j : Nat) (l : List Nat) : rst m (j :: l) i = if i = j then m i else rst m l i := by
  by_cases h : i = j <;> simp [rst, h]
@[simp] theorem tm_rs (l : List Nat) : (s.rs l).tm = s.tm := rfl
@[simp] theorem m_rs (l : List Nat) : (s.rs l).m = rst s.m l := rfl
@[simp] theorem n_rs (l : List Nat) : (s.rs l).n = s.n := rfl
@[simp] theorem mu_rs (l : List Nat) : (s.rs l).mu = s.mu := rfl
@[simp] theorem tm_wm (m : Mem) (n : Nat) : (s.wm m n).tm = s.tm := rfl
@[simp] theorem m_wm (m : Mem) (n : Nat) : (s.wm m n).m = m := rfl
@[simp] theorem n_wm (m : Mem) (n : Nat) : (s.wm m n).n = n := rfl
@[simp] theorem mu_wm (m : Mem) (n : Nat) : (s.wm m n).mu = s.mu := rfl
@[simp] theorem boolOf_bool (b : Bool) : boolOf (.v (.bool b)) = some b := rfl
@[simp] theorem ev_tmp (t : Nat) : s.ev (.tmp t) = s.tm t := rfl
@[simp] theorem ev_const (v : Value) : s.ev (.const v) = const v := rfl
@[simp] theorem ev_func (f : Nat) : s.ev (.func f) = .fn f [] := rfl
@[simp] theorem const_bool (b : Bool) : const (.bool b) = .v (.bool b) := rfl
@[simp] theorem const_int (k : IntKind) (n : Int) : const (.int k n) = .v (.int k n) := rfl
@[simp] theorem const_str (b : ByteArray) : const (.string b) = .v (.str b.data.toList) := rfl
@[simp] theorem const_nil : const (.slice none 0 0) = .nil := rfl
@[simp] theorem const_agg (l : List Value) : const (.agg l.toArray) = .agg (l.map constCell) := by simp [const]
@[simp] theorem constCell_bool (b : Bool) : constCell (.bool b) = .v (.bool b) := rfl
@[simp] theorem constCell_int (k : IntKind) (n : Int) : constCell (.int k n) = .v (.int k n) := rfl
@[simp] theorem constCell_str (b : ByteArray) : constCell (.string b) = .v (.str b.data.toList) := rfl
@[simp] theorem constCell_nil : constCell (.slice none 0 0) = .nil := rfl
@[simp] theorem tm_app (d : Nat) (E : Eff) (t : Nat) : (s.app (some d) E).tm t = if t = d then E.val else s.tm t := rfl
@[simp] theorem tm_app_none (E : Eff) : (s.app none E).tm = s.tm := rfl
@[simp] theorem m_app (d : Option Nat) (E : Eff) : (s.app d E).m = applyUs s.m E.us := rfl
@[simp] theorem n_app (d : Option Nat) (E : Eff) : (s.app d E).n = bump s.n E.us := rfl
@[simp] theorem bump_nil (n : Nat) : bump n [] = n := rfl
@[simp] theorem bump_cons (n : Nat) (x : Nat × Option Blk) (xs : List (Nat × Option Blk)) : bump n (x :: xs) = n + 1 := rfl
@[simp] theorem const_ptr : const (.pointer none) = .v .any := rfl
@[simp] theorem mu_app (d : Option Nat) (E : Eff) : (s.app d E).mu = s.mu := rfl
@[simp] theorem tm_aft (d : Nat) (x : T) (m : Mem) (n : Nat) (t : Nat) : (s.aft (some d) x m n).tm t = if t = d then x else s.tm t := rfl
@[simp] theorem tm_aft_none (x : T) (m : Mem) (n : Nat) : (s.aft none x m n).tm = s.tm := rfl
@[simp] theorem m_aft (d : Option Nat) (x : T) (m : Mem) (n : Nat) : (s.aft d x m n).m = m := rfl
@[simp] theorem n_aft (d : Option Nat) (x : T) (m : Mem) (n : Nat) : (s.aft d x m n).n = n := rfl
@[simp] theorem mu_aft (d : Option Nat) (x : T) (m : Mem) (n : Nat) : (s.aft d x m n).mu = s.mu := rfl
@[simp] theorem tm_put (d : Nat) (x : T) (t : Nat) : (s.put (some d) x).tm t = if t = d then x else s.tm t := rfl
@[simp] theorem tm_put_none (x : T) : (s.put none x).tm = s.tm := rfl
@[simp] theorem m_put (d : Option Nat) (x : T) : (s.put d x).m = s.m := rfl
@[simp] theorem n_put (d : Option Nat) (x : T) : (s.put d x).n = s.n := rfl
@[simp] theorem mu_put (d : Option Nat) (x : T) : (s.put d x).mu = s.mu := rfl
@[simp] theorem applyUs_nil (m : Mem) : applyUs m [] = m := rfl
@[simp] theorem applyUs_cons (m : Mem) (i : Nat) (b : Option Blk) (us : List (Nat × Option Blk)) : applyUs m ((i, b) :: us) = applyUs (updM m i b) us := rfl
end

section
variable {P : Program} {s : S} {d : Option Nat} {ty : TypeId} {pos : String} {af : Array Edge} {gd : Option (Nat × Bool)} {K : S → Prop}
def callV (P : Program) (s : S) (args : List T) (d : Option Nat) (K : S → Prop) [Hd s] [Hd args] [Hd K] : T → Prop
  | .fn f cap => callP P f s.m s.n (args ++ cap) fun t m n => K (s.aft d t m n)
  | .v (.fn f cap) => callP P f s.m s.n (args ++ cap.map .v) fun t m n => K (s.aft d t m n)
  | _ => False
@[simp] theorem callV_fn (args cap : List T) (f : Nat) : callV P s args d K (.fn f cap) = callP P f s.m s.n (args ++ cap) fun t m n => K (s.aft d t m n) := nrfl
@[simp] theorem callV_vfn (args : List T) (cap : List V) (f : Nat) : callV P s args d K (.v (.fn f cap)) = callP P f s.m s.n (args ++ cap.map .v) fun t m n => K (s.aft d t m n) := nrfl
@[simp] theorem opP_call (g : Operand) (args : Array Operand) (ts : Array TypeId) : opP P s ⟨d, .call ⟨.value g, args, ts⟩, ty, pos, af, gd⟩ K = callV P s (args.toList.map s.ev) d K (s.ev g) := by
  unfold opP callV; simp only; split <;> simp_all
@[simp] theorem opP_builtin (b : Builtin) (args : Array Operand) (ts : Array TypeId) : opP P s ⟨d, .call ⟨.builtin b, args, ts⟩, ty, pos, af, gd⟩ K = bindP (evBuiltin P s.mu b ts.toList s.m s.n (args.toList.map s.ev)) fun E => K (s.app d E) := nrfl
@[simp] theorem opP_move (x : Operand) : opP P s ⟨d, .move x, ty, pos, af, gd⟩ K = bindP (some (s.ev x)) fun x => K (s.app d ⟨x, []⟩) := by simp [opP, opF]
@[simp] theorem opP_assign (x : Operand) : opP P s ⟨d, .assign x, ty, pos, af, gd⟩ K = bindP (some (s.ev x)) fun x => K (s.app d ⟨x, []⟩) := by simp [opP, opF]
@[simp] theorem opP_pick (c a b : Operand) : opP P s ⟨d, .pick c a b, ty, pos, af, gd⟩ K = bindP (obind (boolOf (s.ev c)) fun q => some (evPick q (s.ev a) (s.ev b))) fun x => K (s.app d ⟨x, []⟩) := by
  simp only [opP, opF]; cases boolOf (s.ev c) <;> simp
@[simp] theorem opP_not (t : TypeId) (x : Operand) : opP P s ⟨d, .unOp .not t x, ty, pos, af, gd⟩ K = bindP (boolOf (s.ev x)) fun b => K (s.app d ⟨.v (.bool !b), []⟩) := by
  simp only [opP, opF]; cases boolOf (s.ev x) <;> simp
@[simp] theorem opP_alloc (t : TypeId) : opP P s ⟨d, .alloc t, ty, pos, af, gd⟩ K = bindP (evAlloc P t s.n) fun E => K (s.app d E) := nrfl
@[simp] theorem opP_box (t : TypeId) (x : Operand) : opP P s ⟨d, .box t x, ty, pos, af, gd⟩ K = bindP (evBox P t s.n (s.ev x)) fun E => K (s.app d E) := nrfl
@[simp] theorem opP_buildSlice (t : TypeId) (len : Nat) (l : List (Nat × Operand)) : opP P s ⟨d, .buildSlice t len l.toArray, ty, pos, af, gd⟩ K = bindP (evBuildSlice P s.mu t s.m s.n len (l.map fun p => (p.1, s.ev p.2))) fun E => K (s.app d E) := nrfl
@[simp] theorem opP_makeFunc (f : Nat) (cap : List Operand) : opP P s ⟨d, .makeFunc (.func f) #[] cap.toArray, ty, pos, af, gd⟩ K = bindP (some (T.fn f (cap.map s.ev))) fun x => K (s.app d ⟨x, []⟩) := by simp [opP, opF]
@[simp] theorem opP_makeSlice (t : TypeId) (x y : Operand) : opP P s ⟨d, .makeSlice t x y, ty, pos, af, gd⟩ K = bindP (evMake P t s.n (s.ev x) (s.ev y)) fun E => K (s.app d E) := nrfl
@[simp] theorem opP_store (t : TypeId) (a x : Operand) : opP P s ⟨d, .store t a x, ty, pos, af, gd⟩ K = bindP (evStore P t s.m (s.ev x) (s.ev a)) fun u => K (s.app d ⟨.v .any, [u]⟩) := by
  simp only [opP, opF]; cases evStore P t s.m (s.ev x) (s.ev a) <;> simp
@[simp] theorem opP_build (t : TypeId) (l : List (Nat × Operand)) : opP P s ⟨d, .build t l.toArray, ty, pos, af, gd⟩ K = bindP (evBuild P t (l.map fun p => (p.1, s.ev p.2))) fun x => K (s.app d ⟨x, []⟩) := by
  simp only [opP, opF]; cases evBuild P t (l.map fun p => (p.1, s.ev p.2)) <;> simp
@[simp] theorem opP_load (t : TypeId) (a : Operand) : opP P s ⟨d, .load t a, ty, pos, af, gd⟩ K = bindP (evLoad P t s.m (s.ev a)) fun x => K (s.app d ⟨x, []⟩) := by
  simp only [opP, opF]; cases evLoad P t s.m (s.ev a) <;> simp
@[simp] theorem opP_nilCheck (x : Operand) : opP P s ⟨d, .nilCheck x, ty, pos, af, gd⟩ K = bindP (evNilCheck (s.ev x)) fun x => K (s.app d ⟨x, []⟩) := by
  simp only [opP, opF]; cases evNilCheck (s.ev x) <;> simp
@[simp] theorem opP_binOp_tmp (op : BinOp) (t t' : TypeId) (x : Operand) (j : Nat) : opP P s ⟨d, .binOp op t x (.tmp j) t', ty, pos, af, gd⟩ K = bindP (evBin P s.m op t (s.ev x) (s.ev (.tmp j))) fun x => K (s.app d ⟨x, []⟩) := by
  have e : opP P s ⟨d, .binOp op t x (.tmp j) t', ty, pos, af, gd⟩ K = bindP (obind (evBin P s.m op t (s.ev x) (s.ev (.tmp j))) fun x => some ⟨x, []⟩) fun E => K (s.app d E) := by cases op <;> rfl
  rw [e]; cases evBin P s.m op t (s.ev x) (s.ev (.tmp j)) <;> simp
@[simp] theorem opP_binOp_int (op : BinOp) (t t' : TypeId) (x : Operand) (k : IntKind) (n : Int) : opP P s ⟨d, .binOp op t x (.const (.int k n)) t', ty, pos, af, gd⟩ K = bindP (evBin P s.m op t (s.ev x) (s.ev (.const (.int k n)))) fun x => K (s.app d ⟨x, []⟩) := by
  have e : opP P s ⟨d, .binOp op t x (.const (.int k n)) t', ty, pos, af, gd⟩ K = bindP (obind (evBin P s.m op t (s.ev x) (s.ev (.const (.int k n)))) fun x => some ⟨x, []⟩) fun E => K (s.app d E) := by cases op <;> rfl
  rw [e]; cases evBin P s.m op t (s.ev x) (s.ev (.const (.int k n))) <;> simp
@[simp] theorem opP_binOp_bool (op : BinOp) (t t' : TypeId) (x : Operand) (b : Bool) : opP P s ⟨d, .binOp op t x (.const (.bool b)) t', ty, pos, af, gd⟩ K = bindP (evBin P s.m op t (s.ev x) (s.ev (.const (.bool b)))) fun x => K (s.app d ⟨x, []⟩) := by
  have e : opP P s ⟨d, .binOp op t x (.const (.bool b)) t', ty, pos, af, gd⟩ K = bindP (obind (evBin P s.m op t (s.ev x) (s.ev (.const (.bool b)))) fun x => some ⟨x, []⟩) fun E => K (s.app d E) := by cases op <;> rfl
  rw [e]; cases evBin P s.m op t (s.ev x) (s.ev (.const (.bool b))) <;> simp
@[simp] theorem opP_binOp_str (op : BinOp) (t t' : TypeId) (x : Operand) (b : ByteArray) : opP P s ⟨d, .binOp op t x (.const (.string b)) t', ty, pos, af, gd⟩ K = bindP (evBin P s.m op t (s.ev x) (s.ev (.const (.string b)))) fun x => K (s.app d ⟨x, []⟩) := by
  have e : opP P s ⟨d, .binOp op t x (.const (.string b)) t', ty, pos, af, gd⟩ K = bindP (obind (evBin P s.m op t (s.ev x) (s.ev (.const (.string b)))) fun x => some ⟨x, []⟩) fun E => K (s.app d E) := by cases op <;> rfl
  rw [e]; cases evBin P s.m op t (s.ev x) (s.ev (.const (.string b))) <;> simp
@[simp] theorem opP_binOp_agg (op : BinOp) (t t' : TypeId) (x : Operand) (b : Array Value) : opP P s ⟨d, .binOp op t x (.const (.agg b)) t', ty, pos, af, gd⟩ K = bindP (evBin P s.m op t (s.ev x) (s.ev (.const (.agg b)))) fun x => K (s.app d ⟨x, []⟩) := by
  have e : opP P s ⟨d, .binOp op t x (.const (.agg b)) t', ty, pos, af, gd⟩ K = bindP (obind (evBin P s.m op t (s.ev x) (s.ev (.const (.agg b)))) fun x => some ⟨x, []⟩) fun E => K (s.app d E) := by cases op <;> rfl
  rw [e]; cases evBin P s.m op t (s.ev x) (s.ev (.const (.agg b))) <;> simp
@[simp] theorem opP_eqNil (t t' : TypeId) (x : Operand) : opP P s ⟨d, .binOp .eql t x (.const (.slice none 0 0)) t', ty, pos, af, gd⟩ K = nilP P t (s.ev x) fun b => K (s.app d ⟨.v (.bool b), []⟩) := nrfl
@[simp] theorem opP_neNil (t t' : TypeId) (x : Operand) : opP P s ⟨d, .binOp .neq t x (.const (.slice none 0 0)) t', ty, pos, af, gd⟩ K = nilP P t (s.ev x) fun b => K (s.app d ⟨.v (.bool !b), []⟩) := nrfl
@[simp] theorem nilP_sl (t : TypeId) (xs : List V) (k : Bool → Prop) : nilP P t (.v (.sl xs)) k = ((elT P t).isSome = true ∧ ∀ b : Bool, (b = true → xs = []) → k b) := nrfl
@[simp] theorem nilP_nil (t : TypeId) (k : Bool → Prop) : nilP P t .nil k = ((elT P t).isSome = true ∧ k true) := nrfl
@[simp] theorem opP_neg (t : TypeId) (x : Operand) : opP P s ⟨d, .unOp .neg t x, ty, pos, af, gd⟩ K = bindP (evNeg (s.ev x)) fun x => K (s.app d ⟨x, []⟩) := by
  simp only [opP, opF]; cases evNeg (s.ev x) <;> simp
@[simp] theorem opP_convert (t t' : TypeId) (x : Operand) : opP P s ⟨d, .convert t t' x, ty, pos, af, gd⟩ K = bindP (evConvert P t t' s.m (s.ev x)) fun x => K (s.app d ⟨x, []⟩) := by
  simp only [opP, opF]; cases evConvert P t t' s.m (s.ev x) <;> simp
@[simp] theorem opP_slice (t : TypeId) (x : Operand) (lo hi : Option Operand) : opP P s ⟨d, .slice t x lo hi none, ty, pos, af, gd⟩ K = bindP (evSlice P t s.m (lo.map s.ev) (hi.map s.ev) (s.ev x)) fun x => K (s.app d ⟨x, []⟩) := by
  simp only [opP, opF]; cases evSlice P t s.m (lo.map s.ev) (hi.map s.ev) (s.ev x) <;> simp
@[simp] theorem opP_clip (t : TypeId) (x mx : Operand) (lo hi : Option Operand) : opP P s ⟨d, .slice t x lo hi (some mx), ty, pos, af, gd⟩ K = bindP (evClip P t (lo.map s.ev) (hi.map s.ev) (s.ev mx) (s.ev x)) fun x => K (s.app d ⟨x, []⟩) := by
  simp only [opP, opF]; cases evClip P t (lo.map s.ev) (hi.map s.ev) (s.ev mx) (s.ev x) <;> simp
@[simp] theorem opP_fieldAddr (t : TypeId) (x : Operand) (f : Nat) : opP P s ⟨d, .fieldAddr t x f, ty, pos, af, gd⟩ K = bindP (evFieldAddr P t f (s.ev x)) fun x => K (s.app d ⟨x, []⟩) := by
  simp only [opP, opF]; cases evFieldAddr P t f (s.ev x) <;> simp
@[simp] theorem opP_field (t : TypeId) (x : Operand) (f : Nat) : opP P s ⟨d, .field t x f, ty, pos, af, gd⟩ K = bindP (evField P t f (s.ev x)) fun x => K (s.app d ⟨x, []⟩) := by
  simp only [opP, opF]; cases evField P t f (s.ev x) <;> simp
@[simp] theorem opP_indexAddr (t : TypeId) (x i : Operand) : opP P s ⟨d, .indexAddr t x i, ty, pos, af, gd⟩ K = bindP (evIndexAddr P t s.m (s.ev x) (s.ev i)) fun x => K (s.app d ⟨x, []⟩) := by
  simp only [opP, opF]; cases evIndexAddr P t s.m (s.ev x) (s.ev i) <;> simp
@[simp] theorem opP_index (t : TypeId) (x i : Operand) : opP P s ⟨d, .index t x i, ty, pos, af, gd⟩ K = bindP (evIndex P t (s.ev i) (s.ev x)) fun x => K (s.app d ⟨x, []⟩) := by
  simp only [opP, opF]; cases evIndex P t (s.ev i) (s.ev x) <;> simp
@[simp] theorem opP_extract (x : Operand) (i : Nat) : opP P s ⟨d, .extract x i, ty, pos, af, gd⟩ K = bindP (evExtract i (s.ev x)) fun x => K (s.app d ⟨x, []⟩) := by
  simp only [opP, opF]; cases evExtract i (s.ev x) <;> simp
end

/-! evaluation -/
@[simp] theorem cells_agg (cs : List T) : (T.agg cs).cells = cs := rfl
@[simp] theorem cells_vagg (cs : List V) : (T.v (.agg cs)).cells = cs.map .v := rfl
@[simp] theorem vcells_int (k : IntKind) (n : Int) : (V.int k n).cells = [.int k n] := rfl
@[simp] theorem cells_vint (k : IntKind) (n : Int) : (T.v (.int k n)).cells = [.v (.int k n)] := rfl
@[simp] theorem vcells_bool (b : Bool) : (V.bool b).cells = [.bool b] := rfl
@[simp] theorem cells_vbool (b : Bool) : (T.v (.bool b)).cells = [.v (.bool b)] := rfl
@[simp] theorem vcells_str (b : List UInt8) : (V.str b).cells = [.str b] := rfl
@[simp] theorem cells_vstr (b : List UInt8) : (T.v (.str b)).cells = [.v (.str b)] := rfl
@[simp] theorem vcells_sl (b : List V) : (V.sl b).cells = [.sl b] := rfl
@[simp] theorem cells_vsl (b : List V) : (T.v (.sl b)).cells = [.v (.sl b)] := rfl
@[simp] theorem vcells_ref (b : List V) : (V.ref b).cells = [.ref b] := rfl
@[simp] theorem cells_vref (b : List V) : (T.v (.ref b)).cells = [.v (.ref b)] := rfl
@[simp] theorem vcells_fn (f : Nat) (b : List V) : (V.fn f b).cells = [.fn f b] := rfl
@[simp] theorem cells_vfn (f : Nat) (b : List V) : (T.v (.fn f b)).cells = [.v (.fn f b)] := rfl
@[simp] theorem vcells_agg (cs : List V) : (V.agg cs).cells = cs := rfl
@[simp] theorem cells_loc (i : Nat) : (T.loc i).cells = [.loc i] := rfl
@[simp] theorem cells_nil  : (T.nil).cells = [.nil] := rfl
@[simp] theorem cells_sv (i j k : Nat) : (T.sv i j k).cells = [.sv i j k] := rfl
@[simp] theorem cells_ptr (i j : Nat) : (T.ptr i j).cells = [.ptr i j] := rfl
@[simp] theorem cells_fptr (c : List V) (i : Nat) : (T.fptr c i).cells = [.fptr c i] := rfl
@[simp] theorem cells_fn (f : Nat) (c : List T) : (T.fn f c).cells = [.fn f c] := rfl
@[simp] theorem vcell_bool (b : Bool) : (V.bool b).cell = true := rfl
@[simp] theorem vcell_int (k : IntKind) (n : Int) : (V.int k n).cell = true := rfl
@[simp] theorem vcell_str (b : List UInt8) : (V.str b).cell = true := rfl
@[simp] theorem vcell_sl (b : List V) : (V.sl b).cell = true := rfl
@[simp] theorem vcell_ref (b : List V) : (V.ref b).cell = true := rfl
@[simp] theorem vcell_fn (f : Nat) (b : List V) : (V.fn f b).cell = true := rfl
@[simp] theorem vcell_agg (b : List V) : (V.agg b).cell = false := rfl
@[simp] theorem vcell_tup (b : List V) : (V.tup b).cell = false := rfl
@[simp] theorem vcell_any : V.any.cell = false := rfl
@[simp] theorem tcell_v (x : V) : (T.v x).cell = x.cell := rfl
@[simp] theorem tcell_nil : T.nil.cell = true := rfl
@[simp] theorem tcell_loc (i : Nat) : (T.loc i).cell = true := rfl
@[simp] theorem tcell_sv (i j k : Nat) : (T.sv i j k).cell = true := rfl
@[simp] theorem tcell_ptr (i j : Nat) : (T.ptr i j).cell = true := rfl
@[simp] theorem tcell_fptr (c : List V) (i : Nat) : (T.fptr c i).cell = true := rfl
@[simp] theorem tcell_fn (f : Nat) (c : List T) : (T.fn f c).cell = true := rfl
@[simp] theorem tcell_agg (c : List T) : (T.agg c).cell = false := rfl
@[simp] theorem tcell_tup (c : List T) : (T.tup c).cell = false := rfl
@[simp] theorem allC_nil : allC [] ↔ True := by simp [allC]
@[simp] theorem allC_cons (x : T) (xs : List T) : allC (x :: xs) ↔ x.cell = true ∧ allC xs := by simp [allC]
@[simp] theorem allC_append (a b : List T) : allC (a ++ b) ↔ allC a ∧ allC b := by simp [allC, or_imp, forall_and]
@[simp] theorem allC_map {α : Type} (f : α → T) (l : List α) : allC (l.map f) ↔ ∀ a ∈ l, (f a).cell = true := by simp [allC]
@[simp] theorem allZ_nil (k : Nat) : allZ k [] ↔ True := by simp [allZ]
@[simp] theorem allZ_cons (k : Nat) (x : V) (xs : List V) : allZ k (x :: xs) ↔ (x.cells.length = k ∧ ∀ c ∈ x.cells, c.cell = true) ∧ allZ k xs := by simp [allZ]
@[simp] theorem allZ_append (k : Nat) (a b : List V) : allZ k (a ++ b) ↔ allZ k a ∧ allZ k b := ⟨fun h => ⟨fun x hx => h x (List.mem_append_left _ hx), fun x hx => h x (List.mem_append_right _ hx)⟩, fun h x hx => (List.mem_append.1 hx).elim (h.1 x) (h.2 x)⟩
@[simp] theorem allZ_map {α : Type} (k : Nat) (f : α → V) (l : List α) : allZ k (l.map f) ↔ ∀ a ∈ l, (f a).cells.length = k ∧ ∀ c ∈ (f a).cells, c.cell = true := by simp [allZ]
theorem allC_take {l : List T} (h : allC l) (n : Nat) : allC (l.take n) := fun x hx => h x (List.mem_of_mem_take hx)
theorem allC_drop {l : List T} (h : allC l) (n : Nat) : allC (l.drop n) := fun x hx => h x (List.mem_of_mem_drop hx)
attribute [simp] V.flat flatL mapO evNilCheck evFieldAddr evField evIndex evExtract evNeg evBuild evAlloc evBox evBuildSlice evLoad cutV cutT evStore fpAt evIndexAddr evSlice bnd slRange placeC inOrder newRow appMut appArr appNil appNilMut evAppend evMake toBytes evConvert evLen evBuiltin structEq evBin elems slLen ecells setAt bin intBin cellsEq evPick
@[simp] theorem bor_v (k : Bool) (m : Mem) (d : Nat) (x : V) : bor k m d (.v x) = some x := by cases d <;> rfl
@[simp] theorem bor_nil (k : Bool) (m : Mem) (d : Nat) : bor k m d .nil = some (.sl []) := by cases d <;> rfl
@[simp] theorem bor_loc (k : Bool) (m : Mem) (d : Nat) (id : Nat) : bor k m d (.loc id) = match m id with
    | some (.arr _ xs) => some (.sl xs)
    | some (.ro xs) => some (.sl xs)
    | _ => none := by
  cases d <;> (unfold bor; split <;> simp_all)
@[simp] theorem bor_agg (k : Bool) (m : Mem) (d : Nat) (cs : List T) : bor k m (d + 1) (.agg cs) = obind (mapO (bor k m d) cs) fun xs => tst (∀ x ∈ xs, x.cell = true) (some (.agg xs)) := by simp [bor]
@[simp] theorem bor_tup (k : Bool) (m : Mem) (d : Nat) (cs : List T) : bor k m (d + 1) (.tup cs) = (mapO (bor k m d) cs).map .tup := by simp [bor]
@[simp] theorem bor_fn (k : Bool) (m : Mem) (d : Nat) (f : Nat) (cs : List T) : bor k m (d + 1) (.fn f cs) = (mapO (bor k m d) cs).map (.fn f) := by simp [bor]
@[simp] theorem bor_fptr (k : Bool) (m : Mem) (d : Nat) (cs : List V) : bor k m d (.fptr cs 0) = some (.ref cs) := by cases d <;> rfl

end TL

/- TL, part 20: the transformer is monotone; cuts. -/
set_option linter.unusedVariables false
set_option linter.unusedSimpArgs false
namespace TL
open Go Go.RowKit
variable {P : Program}

theorem bindP_mono {α : Type} {o : Option α} {k k' : α → Prop} (h : ∀ x, k x → k' x) (g : bindP o k) : bindP o k' := by
  obtain ⟨x, h1, h2⟩ := g; exact ⟨x, h1, h x h2⟩
theorem iteP_mono {c : Bool} {A B A' B' : Prop} (h : A → A') (g : B → B') (i : iteP c A B) : iteP c A' B' := by
  cases c
  · exact g i
  · exact h i
theorem opsP_mono {all : List Oper} {Q Q' : S → Prop} (h : ∀ s, Q s → Q' s) : ∀ (l : List Oper) (s : S), opsP P all l Q s → opsP P all l Q' s
  | [], s, g => h s g
  | o :: rest, s, g => by
    unfold opsP at g ⊢
    exact bindP_mono (fun b => iteP_mono (opP_mono fun s' => opsP_mono h rest s') (opsP_mono h rest _)) g
theorem pureC_mono {s : S} {o : Oper} {k k' : Option Nat → T → Prop} (h : ∀ d x, k d x → k' d x) (g : pureC P s o k) : pureC P s o k' := by
  unfold pureC at g ⊢
  split at g
  · obtain ⟨vs, r, h1, h2, h3⟩ := g; exact ⟨vs, r, h1, h2, h _ _ h3⟩
  · obtain ⟨ps, e, vs, h1, h2, h3⟩ := g; exact ⟨ps, e, vs, h1, h2, h _ _ h3⟩
  · exact g
theorem ordP_mono {all : List Oper} {ids : List Nat} {L K : List (List Nat)} {Q Q' : S → Prop} (h : ∀ s, Q s → Q' s) : ∀ (l : List Nat) (s : S), ordP P all ids L K Q l s → ordP P all ids L K Q' l s
  | [], s, g => h s g
  | i :: rest, s, g => by
    unfold ordP at g ⊢
    exact iteP_mono (bindP_mono fun o => bindP_mono fun b => iteP_mono (pureC_mono fun d x => ordP_mono h rest _) (ordP_mono h rest _)) (bindP_mono fun o => bindP_mono fun b => iteP_mono (iteP_mono (opP_mono fun s' => ordP_mono h rest _) (opP_mono fun s' => fun ⟨a, b⟩ => ⟨a, ordP_mono h rest _ b⟩)) (ordP_mono h rest _)) g
theorem ordT_mono {all : List Oper} {ids : List Nat} {L K : List (List Nat)} {Q Q' : S → Prop} (h : ∀ s, Q s → Q' s) : ∀ (t : OT) (s : S), ordT P all ids L K Q t s → ordT P all ids L K Q' t s
  | .done, s, g => h s g
  | .run l r, s, g => by
    unfold ordT at g ⊢
    exact ordP_mono (fun s => ordT_mono h r s) l s g
  | .alt a b, s, g => by
    unfold ordT at g ⊢
    exact ⟨ordT_mono h a s g.1, ordT_mono h b s g.2⟩
theorem twp_mono : ∀ (c : Code) {Q Q' : TExit → S → Prop} {s : S}, (∀ e s, Q e s → Q' e s) → twp P c Q s → twp P c Q' s
  | .skip, Q, Q', s, h, g => by simp only [twp] at g ⊢; exact h _ _ g
  | .seq a b, Q, Q', s, h, g => by
    simp only [twp] at g ⊢
    refine twp_mono a (fun e s g => ?_) g
    cases e with
    | normal => exact twp_mono b h g
    | exit i => exact h _ _ g
    | ret => exact h _ _ g
  | .cond c x y, Q, Q', s, h, g => by
    simp only [twp] at g ⊢
    exact bindP_mono (fun b => iteP_mono (twp_mono x h) (twp_mono y h)) g
  | .block i c, Q, Q', s, h, g => by
    simp only [twp] at g ⊢
    refine twp_mono c (fun e s g => ?_) g
    cases e with
    | normal => exact h _ _ g
    | ret => exact h _ _ g
    | exit j =>
      by_cases hj : j = i
      · simp only [blockP, hj, if_true] at g ⊢; exact h _ _ g
      · simp only [blockP, hj, if_false] at g ⊢; exact h _ _ g
  | .loop c, Q, Q', s, h, g => by
    simp only [twp] at g ⊢
    obtain ⟨I, μ, h1, h2⟩ := g
    refine ⟨I, μ, h1, fun s hs => twp_mono c (fun e s1 g => ?_) (h2 s hs)⟩
    cases e with
    | normal => exact g
    | exit i => exact h _ _ g
    | ret => exact h _ _ g
  | .exit i, Q, Q', s, h, g => by simp only [twp] at g ⊢; exact h _ _ g
  | .ret, Q, Q', s, h, g => by simp only [twp] at g ⊢; exact h _ _ g
  | .region i ops d, Q, Q', s, h, g => by
    simp only [twp] at g ⊢
    cases d with
    | true =>
      obtain ⟨h0, ⟨ord, ids, L, K, h1, h2, h3, h4⟩ | ⟨t, ids, L, K, h1, h2, h3, h4⟩⟩ := g
      · exact ⟨h0, .inl ⟨ord, ids, L, K, h1, h2, h3, ordP_mono (fun s => h _ s) _ _ h4⟩⟩
      · exact ⟨h0, .inr ⟨t, ids, L, K, h1, h2, h3, ordT_mono (fun s => h _ s) _ _ h4⟩⟩
    | false => exact opsP_mono (fun s => h _ s) _ _ g
  | .rangeFunc .., Q, Q', s, h, g => by simp [twp] at g
  | .scope .., Q, Q', s, h, g => by simp [twp] at g
  | .label .., Q, Q', s, h, g => by simp [twp] at g
  | .goto .., Q, Q', s, h, g => by simp [twp] at g

theorem bindP_congr {α : Type} {o : Option α} {k k' : α → Prop} (h : ∀ x, k x = k' x) : bindP o k = bindP o k' := by
  have e : k = k' := funext h
  subst e; rfl
theorem iteP_congr {c : Bool} {A B A' B' : Prop} (h : A = A') (g : B = B') : iteP c A B = iteP c A' B' := by subst h; subst g; rfl
theorem iteP_congr' {c : Bool} {A B A' : Prop} (h : c = true → A = A') : iteP c A B = iteP c A' B := by
  cases c
  · rfl
  · rw [h rfl]
/-- The value of an operation that makes and changes nothing. -/
def opW (P : Program) (mu : Bool) (ρ : Operand → T) (m : Mem) (n : Nat) (op : Op) : Option T := (opF P mu ρ m n op).bind fun E => some E.val
def opV (P : Program) (s : S) (l : List Nat) (o : Oper) (k : Option Nat → T → Prop) [Hd s] [Hd o] [Hd k] : Prop := bindP (opW P s.mu s.ev (rst s.m l) s.n o.op) fun x => k o.dst x
@[simp] theorem opV_mk {s : S} {l : List Nat} {d : Option Nat} {op : Op} {ty : TypeId} {pos : String} {af : Array Edge} {gd : Option (Nat × Bool)} {k : Option Nat → T → Prop} :
    opV P s l ⟨d, op, ty, pos, af, gd⟩ k = bindP (opW P s.mu s.ev (rst s.m l) s.n op) fun x => k d x := nrfl
section
variable {mu : Bool} {ρ : Operand → T} {m : Mem} {n : Nat}
@[simp] theorem opW_move (x : Operand) : opW P mu ρ m n (.move x) = some (ρ x) := rfl
@[simp] theorem opW_assign (x : Operand) : opW P mu ρ m n (.assign x) = some (ρ x) := rfl
@[simp] theorem opW_pick (c a b : Operand) : opW P mu ρ m n (.pick c a b) = obind (boolOf (ρ c)) fun q => some (evPick q (ρ a) (ρ b)) := by simp only [opW, opF]; cases boolOf (ρ c) <;> rfl
@[simp] theorem opW_not (t : TypeId) (x : Operand) : opW P mu ρ m n (.unOp .not t x) = obind (boolOf (ρ x)) fun b => some (.v (.bool !b)) := by simp only [opW, opF]; cases boolOf (ρ x) <;> rfl
@[simp] theorem opW_neg (t : TypeId) (x : Operand) : opW P mu ρ m n (.unOp .neg t x) = evNeg (ρ x) := by simp only [opW, opF]; cases evNeg (ρ x) <;> rfl
@[simp] theorem opW_load (t : TypeId) (a : Operand) : opW P mu ρ m n (.load t a) = evLoad P t m (ρ a) := by simp only [opW, opF]; cases evLoad P t m (ρ a) <;> rfl
@[simp] theorem opW_nilCheck (x : Operand) : opW P mu ρ m n (.nilCheck x) = evNilCheck (ρ x) := by simp only [opW, opF]; cases evNilCheck (ρ x) <;> rfl
@[simp] theorem opW_binOp (op : BinOp) (t t' : TypeId) (x y : Operand) : opW P mu ρ m n (.binOp op t x y t') = evBin P m op t (ρ x) (ρ y) := by simp only [opW, opF]; cases evBin P m op t (ρ x) (ρ y) <;> rfl
@[simp] theorem opW_convert (t t' : TypeId) (x : Operand) : opW P mu ρ m n (.convert t t' x) = evConvert P t t' m (ρ x) := by simp only [opW, opF]; cases evConvert P t t' m (ρ x) <;> rfl
@[simp] theorem opW_slice (t : TypeId) (x : Operand) (lo hi : Option Operand) : opW P mu ρ m n (.slice t x lo hi none) = evSlice P t m (lo.map ρ) (hi.map ρ) (ρ x) := by simp only [opW, opF]; cases evSlice P t m (lo.map ρ) (hi.map ρ) (ρ x) <;> rfl
@[simp] theorem opW_fieldAddr (t : TypeId) (x : Operand) (f : Nat) : opW P mu ρ m n (.fieldAddr t x f) = evFieldAddr P t f (ρ x) := by simp only [opW, opF]; cases evFieldAddr P t f (ρ x) <;> rfl
@[simp] theorem opW_indexAddr (t : TypeId) (x i : Operand) : opW P mu ρ m n (.indexAddr t x i) = evIndexAddr P t m (ρ x) (ρ i) := by simp only [opW, opF]; cases evIndexAddr P t m (ρ x) (ρ i) <;> rfl
@[simp] theorem opW_index (t : TypeId) (x i : Operand) : opW P mu ρ m n (.index t x i) = evIndex P t (ρ i) (ρ x) := by simp only [opW, opF]; cases evIndex P t (ρ i) (ρ x) <;> rfl
@[simp] theorem opW_field (t : TypeId) (x : Operand) (f : Nat) : opW P mu ρ m n (.field t x f) = evField P t f (ρ x) := by simp only [opW, opF]; cases evField P t f (ρ x) <;> rfl
@[simp] theorem opW_extract (x : Operand) (i : Nat) : opW P mu ρ m n (.extract x i) = evExtract i (ρ x) := by simp only [opW, opF]; cases evExtract i (ρ x) <;> rfl
@[simp] theorem opW_build (t : TypeId) (l : List (Nat × Operand)) : opW P mu ρ m n (.build t l.toArray) = evBuild P t (l.map fun p => (p.1, ρ p.2)) := by simp only [opW, opF]; cases evBuild P t (l.map fun p => (p.1, ρ p.2)) <;> rfl
@[simp] theorem opW_makeFunc (f : Nat) (cap : List Operand) : opW P mu ρ m n (.makeFunc (.func f) #[] cap.toArray) = some (.fn f (cap.map ρ)) := by simp [opW, opF]
@[simp] theorem opW_builtin (b : Builtin) (args : Array Operand) (ts : Array TypeId) : opW P mu ρ m n (.call ⟨.builtin b, args, ts⟩) = obind (evBuiltin P mu b ts.toList m n (args.toList.map ρ)) fun E => some E.val := rfl
end
@[simp] theorem ordP_cons' {s : S} (all : List Oper) (ids : List Nat) (L K : List (List Nat)) (Q : S → Prop) (i : Nat) (rest : List Nat) : ordP P all ids L K Q (i :: rest) s = iteP (decide (1000 ≤ i)) (bindP (opAt all (i - 1000)) fun o => bindP (guardB all s o.guard) fun g => iteP g (pureC P s o fun d x => ordP P all ids L K Q rest (s.put d x)) (ordP P all ids L K Q rest (s.put o.dst und)))
      (bindP (opAt all i) fun o => bindP (guardB all s o.guard) fun g => iteP g
      (iteP (isVal o.op) (opV P s (idsAt ids L i) o fun d x => ordP P all ids L K Q rest (s.put d x)) (opP P s o fun s' => keepP (idsAt ids K i) s.m s'.m ∧ ordP P all ids L K Q rest s'))
      (ordP P all ids L K Q rest (s.put o.dst und))) := by
  rw [ordP_cons]
  have key : ∀ o : Oper, isVal o.op = true → (opP P (s.rs (idsAt ids L i)) o fun s' => ordP P all ids L K Q rest (s'.wm s.m s.n)) = (opV P s (idsAt ids L i) o fun d x => ordP P all ids L K Q rest (s.put d x)) := by
    intro o ho
    refine propext ⟨fun h => ?_, fun h => ?_⟩
    · obtain ⟨E, h1, h2⟩ := (opP_val ho).1 h
      exact ⟨E.val, by unfold opW; rw [show opF P s.mu s.ev (rst s.m (idsAt ids L i)) s.n o.op = some E from h1]; rfl, h2⟩
    · obtain ⟨x, h1, h2⟩ := h
      unfold opW at h1
      cases e : opF P s.mu s.ev (rst s.m (idsAt ids L i)) s.n o.op with
      | none => rw [e] at h1; cases h1
      | some E =>
        rw [e] at h1; cases h1
        exact (opP_val ho).2 ⟨E, e, h2⟩
  refine iteP_congr rfl (bindP_congr fun o => bindP_congr fun g => iteP_congr (iteP_congr' fun hv => key o hv) rfl)
@[simp] theorem pureC_bld {s : S} {d : Option Nat} {t : TypeId} {len : Nat} {parts : Array (Nat × Operand)} {ty : TypeId} {pos : String} {af : Array Edge} {gd : Option (Nat × Bool)} {k : Option Nat → T → Prop} :
    pureC P s ⟨d, .buildSlice t len parts, ty, pos, af, gd⟩ k = bldQ P t len (parts.toList.map fun p => (p.1, s.ev p.2)) fun vs => k d (.v (.sl vs)) := nrfl
theorem bld_ {t : TypeId} {len : Nat} {xs : List (Nat × T)} {k : List V → Prop} (ps : List (Nat × V)) (e : TypeId) (vs : List V) (h1 : xs = ps.map (fun q => (q.1, T.v q.2))) (h2 : evBuildSlice P false t (fun _ => none) 0 len (ps.map fun q => (q.1, T.v q.2)) = some ⟨.loc 0, [(0, some (.arr e vs))]⟩) (h3 : k vs) : bldQ P t len xs k := ⟨ps, e, vs, h1, h2, h3⟩
@[simp] theorem pureC_mk {s : S} {d : Option Nat} {f : Nat} {args : Array Operand} {ts : Array TypeId} {ty : TypeId} {pos : String} {af : Array Edge} {gd : Option (Nat × Bool)} {k : Option Nat → T → Prop} :
    pureC P s ⟨d, .call ⟨.value (.func f), args, ts⟩, ty, pos, af, gd⟩ k = pureQ P f (args.toList.map s.ev) fun r => k d (.v r) := nrfl
theorem pure_ {f : Nat} {args : List T} {k : V → Prop} {vs : List V} {r : V} (h : FnZ P f vs r) (ha : args = vs.map .v) (hk : k r) : pureQ P f args k := ⟨vs, r, h, ha, hk⟩
/-- A cut behind a part. -/
theorem twp_cut {a b : Code} {Q : TExit → S → Prop} {s : S} (I : S → Prop) (h : twp P a (fun e s1 => thenP I Q e s1) s) (g : ∀ s, I s → twp P b Q s) : twp P (.seq a b) Q s := by
  simp only [twp_seq]
  refine twp_mono a (fun e s g' => ?_) h
  cases e with
  | normal => exact g s g'
  | exit i => exact g'
  | ret => exact g'
theorem twp_cutQ {a : Code} {A : S → Prop} {Q : TExit → S → Prop} {s : S} (I : S → Prop) (h : twp P a (fun e s1 => thenP I Q e s1) s) (g : ∀ s, I s → A s) : twp P a (fun e s1 => thenP A Q e s1) s := by
  refine twp_mono a (fun e s g' => ?_) h
  cases e with
  | normal => exact g s g'
  | exit i => exact g'
  | ret => exact g'
/-- A loop in its block, with a cut behind it. -/
theorem twp_loopC {c : Code} {i : Nat} {A : S → Prop} {Q : TExit → S → Prop} {s : S} (I : S → Prop) (μ : S → Nat) (J : S → Prop) (hi : I s)
    (hs : ∀ s, I s → twp P c (fun e s1 => thenP (fun s' => I s' ∧ μ s' < μ s) (fun e s => blockP i (fun e s1 => thenP J Q e s1) e s) e s1) s)
    (hj : ∀ s, J s → A s) : twp P (.loop c) (fun e s => blockP i (fun e s1 => thenP A Q e s1) e s) s := by
  refine twp_mono (.loop c) (fun e s g' => ?_) (twp_loop I μ hi hs)
  have key : ∀ e s, thenP J Q e s → thenP A Q e s := fun e s g => by
    cases e with
    | normal => exact hj s g
    | exit i => exact g
    | ret => exact g
  cases e with
  | normal => exact key .normal s g'
  | ret => exact key .ret s g'
  | exit j =>
    by_cases hj : j = i
    · simp only [blockP, hj, if_true] at g' ⊢; exact key _ _ g'
    · simp only [blockP, hj, if_false] at g' ⊢; exact key _ _ g'
/-- The state is put away: what is known of it is told first. -/
theorem st_out {I : S → Prop} {s : S} (h : ∀ s' : S, (∀ t, s'.tm t = s.tm t) → s'.m = s.m → s'.n = s.n → s'.mu = s.mu → I s') : I s := h s (fun _ => rfl) rfl rfl rfl
/-- Memory holds nothing beyond its end. -/
theorem FnS_fresh {f : Nat} {m : Mem} {n : Nat} {args : List T} {post : T → Mem → Nat → Prop} (hf : ∃ fn, P.funcs[f]? = some fn ∧ (fn.name == "runtime.NumGoroutine") = false ∧ fn.body.isNone = false) (h : (∀ j, n ≤ j → m j = none) → FnS P f m n args post) : FnS P f m n args post := by
  refine ⟨hf, fun φ Z w us hm hr => (h fun j hj => ?_).2 φ Z w us hm hr⟩
  cases e : m j with
  | none => rfl
  | some b =>
    obtain ⟨v, hv, _⟩ := hm.blk j b e
    rw [hm.fresh j hj] at hv; cases hv
end TL

/- Facts about the types of this seat. -/
namespace TL
open Go Go.Proofs
@[simp] theorem sz_1 : sz Tryd.prog 1 = some 1 := by kernel_rfl
@[simp] theorem bytes_1 : bytes Tryd.prog 1 = some 8 := by kernel_rfl
@[simp] theorem szz_1 : szz Tryd.prog 1 = some 1 := by kernel_rfl
@[simp] theorem isAg_1 : isAg Tryd.prog 1 = some false := by kernel_rfl
@[simp] theorem zeroC_1 : zeroC Tryd.prog 1 = some [.v .any] := by kernel_rfl
@[simp] theorem sz_2 : sz Tryd.prog 2 = some 1 := by kernel_rfl
@[simp] theorem bytes_2 : bytes Tryd.prog 2 = some 8 := by kernel_rfl
@[simp] theorem szz_2 : szz Tryd.prog 2 = some 1 := by kernel_rfl
@[simp] theorem isAg_2 : isAg Tryd.prog 2 = some false := by kernel_rfl
@[simp] theorem intK_2 : intK Tryd.prog 2 = some .i64 := by kernel_rfl
@[simp] theorem zeroC_2 : zeroC Tryd.prog 2 = some [.v (.int .i64 0)] := by kernel_rfl
@[simp] theorem sz_3 : sz Tryd.prog 3 = some 1 := by kernel_rfl
@[simp] theorem bytes_3 : bytes Tryd.prog 3 = some 8 := by kernel_rfl
@[simp] theorem szz_3 : szz Tryd.prog 3 = some 1 := by kernel_rfl
@[simp] theorem isAg_3 : isAg Tryd.prog 3 = some false := by kernel_rfl
@[simp] theorem intK_3 : intK Tryd.prog 3 = some .i64 := by kernel_rfl
@[simp] theorem zeroC_3 : zeroC Tryd.prog 3 = some [.v (.int .i64 0)] := by kernel_rfl
@[simp] theorem sz_4 : sz Tryd.prog 4 = some 1 := by kernel_rfl
@[simp] theorem bytes_4 : bytes Tryd.prog 4 = some 1 := by kernel_rfl
@[simp] theorem szz_4 : szz Tryd.prog 4 = some 1 := by kernel_rfl
@[simp] theorem isAg_4 : isAg Tryd.prog 4 = some false := by kernel_rfl
@[simp] theorem isBool_4 : isBool Tryd.prog 4 = some true := by kernel_rfl
@[simp] theorem zeroC_4 : zeroC Tryd.prog 4 = some [.v (.bool false)] := by kernel_rfl
@[simp] theorem sz_5 : sz Tryd.prog 5 = some 1 := by kernel_rfl
@[simp] theorem bytes_5 : bytes Tryd.prog 5 = some 1 := by kernel_rfl
@[simp] theorem szz_5 : szz Tryd.prog 5 = some 1 := by kernel_rfl
@[simp] theorem isAg_5 : isAg Tryd.prog 5 = some false := by kernel_rfl
@[simp] theorem intK_5 : intK Tryd.prog 5 = some .u8 := by kernel_rfl
@[simp] theorem zeroC_5 : zeroC Tryd.prog 5 = some [.v (.int .u8 0)] := by kernel_rfl
@[simp] theorem sz_9 : sz Tryd.prog 9 = some 1 := by kernel_rfl
@[simp] theorem bytes_9 : bytes Tryd.prog 9 = some 16 := by kernel_rfl
@[simp] theorem szz_9 : szz Tryd.prog 9 = some 1 := by kernel_rfl
@[simp] theorem isAg_9 : isAg Tryd.prog 9 = some false := by kernel_rfl
@[simp] theorem isStr_9 : isStr Tryd.prog 9 = some true := by kernel_rfl
@[simp] theorem zeroC_9 : zeroC Tryd.prog 9 = some [.v (.str [])] := by kernel_rfl
@[simp] theorem sz_12 : sz Tryd.prog 12 = some 1 := by kernel_rfl
@[simp] theorem bytes_12 : bytes Tryd.prog 12 = some 8 := by kernel_rfl
@[simp] theorem szz_12 : szz Tryd.prog 12 = some 1 := by kernel_rfl
@[simp] theorem isAg_12 : isAg Tryd.prog 12 = some false := by kernel_rfl
@[simp] theorem intK_12 : intK Tryd.prog 12 = some .u64 := by kernel_rfl
@[simp] theorem zeroC_12 : zeroC Tryd.prog 12 = some [.v (.int .u64 0)] := by kernel_rfl
@[simp] theorem sz_21 : sz Tryd.prog 21 = some 1 := by kernel_rfl
@[simp] theorem bytes_21 : bytes Tryd.prog 21 = some 4 := by kernel_rfl
@[simp] theorem szz_21 : szz Tryd.prog 21 = some 1 := by kernel_rfl
@[simp] theorem isAg_21 : isAg Tryd.prog 21 = some false := by kernel_rfl
@[simp] theorem intK_21 : intK Tryd.prog 21 = some .i32 := by kernel_rfl
@[simp] theorem zeroC_21 : zeroC Tryd.prog 21 = some [.v (.int .i32 0)] := by kernel_rfl
@[simp] theorem sz_22 : sz Tryd.prog 22 = some 1 := by kernel_rfl
@[simp] theorem bytes_22 : bytes Tryd.prog 22 = some 24 := by kernel_rfl
@[simp] theorem szz_22 : szz Tryd.prog 22 = some 1 := by kernel_rfl
@[simp] theorem isAg_22 : isAg Tryd.prog 22 = some false := by kernel_rfl
@[simp] theorem elT_22 : elT Tryd.prog 22 = some 36 := by kernel_rfl
@[simp] theorem isStr_22 : isStr Tryd.prog 22 = some false := by kernel_rfl
@[simp] theorem zeroC_22 : zeroC Tryd.prog 22 = some [.nil] := by kernel_rfl
@[simp] theorem sz_24 : sz Tryd.prog 24 = some 1 := by kernel_rfl
@[simp] theorem bytes_24 : bytes Tryd.prog 24 = some 8 := by kernel_rfl
@[simp] theorem szz_24 : szz Tryd.prog 24 = some 1 := by kernel_rfl
@[simp] theorem isAg_24 : isAg Tryd.prog 24 = some false := by kernel_rfl
@[simp] theorem zeroC_24 : zeroC Tryd.prog 24 = some [.v .any] := by kernel_rfl
@[simp] theorem sz_25 : sz Tryd.prog 25 = some 1 := by kernel_rfl
@[simp] theorem bytes_25 : bytes Tryd.prog 25 = some 8 := by kernel_rfl
@[simp] theorem szz_25 : szz Tryd.prog 25 = some 1 := by kernel_rfl
@[simp] theorem isAg_25 : isAg Tryd.prog 25 = some false := by kernel_rfl
@[simp] theorem zeroC_25 : zeroC Tryd.prog 25 = some [.v .any] := by kernel_rfl
@[simp] theorem sz_26 : sz Tryd.prog 26 = some 1 := by kernel_rfl
@[simp] theorem bytes_26 : bytes Tryd.prog 26 = some 8 := by kernel_rfl
@[simp] theorem szz_26 : szz Tryd.prog 26 = some 1 := by kernel_rfl
@[simp] theorem isAg_26 : isAg Tryd.prog 26 = some false := by kernel_rfl
@[simp] theorem zeroC_26 : zeroC Tryd.prog 26 = some [.v .any] := by kernel_rfl
@[simp] theorem sz_27 : sz Tryd.prog 27 = some 1 := by kernel_rfl
@[simp] theorem bytes_27 : bytes Tryd.prog 27 = some 8 := by kernel_rfl
@[simp] theorem szz_27 : szz Tryd.prog 27 = some 1 := by kernel_rfl
@[simp] theorem isAg_27 : isAg Tryd.prog 27 = some false := by kernel_rfl
@[simp] theorem zeroC_27 : zeroC Tryd.prog 27 = some [.v .any] := by kernel_rfl
@[simp] theorem sz_28 : sz Tryd.prog 28 = some 1 := by kernel_rfl
@[simp] theorem bytes_28 : bytes Tryd.prog 28 = some 24 := by kernel_rfl
@[simp] theorem szz_28 : szz Tryd.prog 28 = some 1 := by kernel_rfl
@[simp] theorem isAg_28 : isAg Tryd.prog 28 = some false := by kernel_rfl
@[simp] theorem elT_28 : elT Tryd.prog 28 = some 48 := by kernel_rfl
@[simp] theorem isStr_28 : isStr Tryd.prog 28 = some false := by kernel_rfl
@[simp] theorem zeroC_28 : zeroC Tryd.prog 28 = some [.nil] := by kernel_rfl
@[simp] theorem sz_29 : sz Tryd.prog 29 = some 2 := by kernel_rfl
@[simp] theorem bytes_29 : bytes Tryd.prog 29 = some 32 := by kernel_rfl
@[simp] theorem szz_29 : szz Tryd.prog 29 = some 2 := by kernel_rfl
@[simp] theorem isAg_29 : isAg Tryd.prog 29 = some true := by kernel_rfl
@[simp] theorem zeroC_29 : zeroC Tryd.prog 29 = some [.v (.int .i64 0), .nil] := by kernel_rfl
@[simp] theorem fieldsOk_29 : fieldsOk Tryd.prog 29 = true := by kernel_rfl
@[simp] theorem fo_29_0 : fo Tryd.prog 29 0 = some 0 := by kernel_rfl
@[simp] theorem fld_29_0 : fld Tryd.prog 29 0 = some (3, 0) := by kernel_rfl
@[simp] theorem fsz_29_0 : fsz Tryd.prog 29 0 = some 1 := by kernel_rfl
@[simp] theorem fo_29_1 : fo Tryd.prog 29 1 = some 1 := by kernel_rfl
@[simp] theorem fld_29_1 : fld Tryd.prog 29 1 = some (28, 1) := by kernel_rfl
@[simp] theorem fsz_29_1 : fsz Tryd.prog 29 1 = some 1 := by kernel_rfl
@[simp] theorem sz_30 : sz Tryd.prog 30 = some 2 := by kernel_rfl
@[simp] theorem bytes_30 : bytes Tryd.prog 30 = some 32 := by kernel_rfl
@[simp] theorem szz_30 : szz Tryd.prog 30 = some 2 := by kernel_rfl
@[simp] theorem isAg_30 : isAg Tryd.prog 30 = some true := by kernel_rfl
@[simp] theorem zeroC_30 : zeroC Tryd.prog 30 = some [.v (.int .i64 0), .nil] := by kernel_rfl
@[simp] theorem fieldsOk_30 : fieldsOk Tryd.prog 30 = true := by kernel_rfl
@[simp] theorem fo_30_0 : fo Tryd.prog 30 0 = some 0 := by kernel_rfl
@[simp] theorem fld_30_0 : fld Tryd.prog 30 0 = some (3, 0) := by kernel_rfl
@[simp] theorem fsz_30_0 : fsz Tryd.prog 30 0 = some 1 := by kernel_rfl
@[simp] theorem fo_30_1 : fo Tryd.prog 30 1 = some 1 := by kernel_rfl
@[simp] theorem fld_30_1 : fld Tryd.prog 30 1 = some (28, 1) := by kernel_rfl
@[simp] theorem fsz_30_1 : fsz Tryd.prog 30 1 = some 1 := by kernel_rfl
@[simp] theorem sz_32 : sz Tryd.prog 32 = some 1 := by kernel_rfl
@[simp] theorem bytes_32 : bytes Tryd.prog 32 = some 8 := by kernel_rfl
@[simp] theorem szz_32 : szz Tryd.prog 32 = some 1 := by kernel_rfl
@[simp] theorem isAg_32 : isAg Tryd.prog 32 = some false := by kernel_rfl
@[simp] theorem zeroC_32 : zeroC Tryd.prog 32 = some [.v .any] := by kernel_rfl
@[simp] theorem sz_33 : sz Tryd.prog 33 = some 1 := by kernel_rfl
@[simp] theorem bytes_33 : bytes Tryd.prog 33 = some 8 := by kernel_rfl
@[simp] theorem szz_33 : szz Tryd.prog 33 = some 1 := by kernel_rfl
@[simp] theorem isAg_33 : isAg Tryd.prog 33 = some false := by kernel_rfl
@[simp] theorem zeroC_33 : zeroC Tryd.prog 33 = some [.v .any] := by kernel_rfl
@[simp] theorem sz_34 : sz Tryd.prog 34 = some 1 := by kernel_rfl
@[simp] theorem bytes_34 : bytes Tryd.prog 34 = some 8 := by kernel_rfl
@[simp] theorem szz_34 : szz Tryd.prog 34 = some 1 := by kernel_rfl
@[simp] theorem isAg_34 : isAg Tryd.prog 34 = some false := by kernel_rfl
@[simp] theorem zeroC_34 : zeroC Tryd.prog 34 = some [.v .any] := by kernel_rfl
@[simp] theorem sz_35 : sz Tryd.prog 35 = some 3 := by kernel_rfl
@[simp] theorem bytes_35 : bytes Tryd.prog 35 = some 32 := by kernel_rfl
@[simp] theorem szz_35 : szz Tryd.prog 35 = some 3 := by kernel_rfl
@[simp] theorem isAg_35 : isAg Tryd.prog 35 = some true := by kernel_rfl
@[simp] theorem zeroC_35 : zeroC Tryd.prog 35 = some [.v (.int .i64 0), .v (.int .i64 0), .v (.str [])] := by kernel_rfl
@[simp] theorem fieldsOk_35 : fieldsOk Tryd.prog 35 = true := by kernel_rfl
@[simp] theorem eqKinds_35 : eqKinds Tryd.prog 35 = some [1, 1, 2] := by kernel_rfl
@[simp] theorem fo_35_0 : fo Tryd.prog 35 0 = some 0 := by kernel_rfl
@[simp] theorem fld_35_0 : fld Tryd.prog 35 0 = some (3, 0) := by kernel_rfl
@[simp] theorem fsz_35_0 : fsz Tryd.prog 35 0 = some 1 := by kernel_rfl
@[simp] theorem fo_35_1 : fo Tryd.prog 35 1 = some 1 := by kernel_rfl
@[simp] theorem fld_35_1 : fld Tryd.prog 35 1 = some (3, 1) := by kernel_rfl
@[simp] theorem fsz_35_1 : fsz Tryd.prog 35 1 = some 1 := by kernel_rfl
@[simp] theorem fo_35_2 : fo Tryd.prog 35 2 = some 2 := by kernel_rfl
@[simp] theorem fld_35_2 : fld Tryd.prog 35 2 = some (9, 2) := by kernel_rfl
@[simp] theorem fsz_35_2 : fsz Tryd.prog 35 2 = some 1 := by kernel_rfl
@[simp] theorem sz_36 : sz Tryd.prog 36 = some 3 := by kernel_rfl
@[simp] theorem bytes_36 : bytes Tryd.prog 36 = some 32 := by kernel_rfl
@[simp] theorem szz_36 : szz Tryd.prog 36 = some 3 := by kernel_rfl
@[simp] theorem isAg_36 : isAg Tryd.prog 36 = some true := by kernel_rfl
@[simp] theorem zeroC_36 : zeroC Tryd.prog 36 = some [.v (.int .i64 0), .v (.int .i64 0), .v (.str [])] := by kernel_rfl
@[simp] theorem fieldsOk_36 : fieldsOk Tryd.prog 36 = true := by kernel_rfl
@[simp] theorem eqKinds_36 : eqKinds Tryd.prog 36 = some [1, 1, 2] := by kernel_rfl
@[simp] theorem fo_36_0 : fo Tryd.prog 36 0 = some 0 := by kernel_rfl
@[simp] theorem fld_36_0 : fld Tryd.prog 36 0 = some (3, 0) := by kernel_rfl
@[simp] theorem fsz_36_0 : fsz Tryd.prog 36 0 = some 1 := by kernel_rfl
@[simp] theorem fo_36_1 : fo Tryd.prog 36 1 = some 1 := by kernel_rfl
@[simp] theorem fld_36_1 : fld Tryd.prog 36 1 = some (3, 1) := by kernel_rfl
@[simp] theorem fsz_36_1 : fsz Tryd.prog 36 1 = some 1 := by kernel_rfl
@[simp] theorem fo_36_2 : fo Tryd.prog 36 2 = some 2 := by kernel_rfl
@[simp] theorem fld_36_2 : fld Tryd.prog 36 2 = some (9, 2) := by kernel_rfl
@[simp] theorem fsz_36_2 : fsz Tryd.prog 36 2 = some 1 := by kernel_rfl
@[simp] theorem sz_38 : sz Tryd.prog 38 = some 1 := by kernel_rfl
@[simp] theorem bytes_38 : bytes Tryd.prog 38 = some 8 := by kernel_rfl
@[simp] theorem szz_38 : szz Tryd.prog 38 = some 1 := by kernel_rfl
@[simp] theorem isAg_38 : isAg Tryd.prog 38 = some false := by kernel_rfl
@[simp] theorem zeroC_38 : zeroC Tryd.prog 38 = some [.v .any] := by kernel_rfl
@[simp] theorem sz_40 : sz Tryd.prog 40 = some 1 := by kernel_rfl
@[simp] theorem bytes_40 : bytes Tryd.prog 40 = some 8 := by kernel_rfl
@[simp] theorem szz_40 : szz Tryd.prog 40 = some 1 := by kernel_rfl
@[simp] theorem isAg_40 : isAg Tryd.prog 40 = some false := by kernel_rfl
@[simp] theorem zeroC_40 : zeroC Tryd.prog 40 = some [.v .any] := by kernel_rfl
@[simp] theorem sz_41 : sz Tryd.prog 41 = some 1 := by kernel_rfl
@[simp] theorem bytes_41 : bytes Tryd.prog 41 = some 8 := by kernel_rfl
@[simp] theorem szz_41 : szz Tryd.prog 41 = some 1 := by kernel_rfl
@[simp] theorem isAg_41 : isAg Tryd.prog 41 = some false := by kernel_rfl
@[simp] theorem zeroC_41 : zeroC Tryd.prog 41 = some [.v .any] := by kernel_rfl
@[simp] theorem sz_42 : sz Tryd.prog 42 = some 1 := by kernel_rfl
@[simp] theorem bytes_42 : bytes Tryd.prog 42 = some 8 := by kernel_rfl
@[simp] theorem szz_42 : szz Tryd.prog 42 = some 1 := by kernel_rfl
@[simp] theorem isAg_42 : isAg Tryd.prog 42 = some false := by kernel_rfl
@[simp] theorem zeroC_42 : zeroC Tryd.prog 42 = some [.v .any] := by kernel_rfl
@[simp] theorem sz_43 : sz Tryd.prog 43 = some 1 := by kernel_rfl
@[simp] theorem bytes_43 : bytes Tryd.prog 43 = some 24 := by kernel_rfl
@[simp] theorem szz_43 : szz Tryd.prog 43 = some 1 := by kernel_rfl
@[simp] theorem isAg_43 : isAg Tryd.prog 43 = some false := by kernel_rfl
@[simp] theorem elT_43 : elT Tryd.prog 43 = some 9 := by kernel_rfl
@[simp] theorem isStr_43 : isStr Tryd.prog 43 = some false := by kernel_rfl
@[simp] theorem zeroC_43 : zeroC Tryd.prog 43 = some [.nil] := by kernel_rfl
@[simp] theorem sz_44 : sz Tryd.prog 44 = some 1 := by kernel_rfl
@[simp] theorem bytes_44 : bytes Tryd.prog 44 = some 8 := by kernel_rfl
@[simp] theorem szz_44 : szz Tryd.prog 44 = some 1 := by kernel_rfl
@[simp] theorem isAg_44 : isAg Tryd.prog 44 = some false := by kernel_rfl
@[simp] theorem zeroC_44 : zeroC Tryd.prog 44 = some [.v .any] := by kernel_rfl
@[simp] theorem sz_45 : sz Tryd.prog 45 = some 1 := by kernel_rfl
@[simp] theorem bytes_45 : bytes Tryd.prog 45 = some 8 := by kernel_rfl
@[simp] theorem szz_45 : szz Tryd.prog 45 = some 1 := by kernel_rfl
@[simp] theorem isAg_45 : isAg Tryd.prog 45 = some false := by kernel_rfl
@[simp] theorem zeroC_45 : zeroC Tryd.prog 45 = some [.v .any] := by kernel_rfl
@[simp] theorem sz_46 : sz Tryd.prog 46 = some 1 := by kernel_rfl
@[simp] theorem bytes_46 : bytes Tryd.prog 46 = some 24 := by kernel_rfl
@[simp] theorem szz_46 : szz Tryd.prog 46 = some 1 := by kernel_rfl
@[simp] theorem isAg_46 : isAg Tryd.prog 46 = some false := by kernel_rfl
@[simp] theorem elT_46 : elT Tryd.prog 46 = some 86 := by kernel_rfl
@[simp] theorem isStr_46 : isStr Tryd.prog 46 = some false := by kernel_rfl
@[simp] theorem zeroC_46 : zeroC Tryd.prog 46 = some [.nil] := by kernel_rfl
@[simp] theorem sz_47 : sz Tryd.prog 47 = some 2 := by kernel_rfl
@[simp] theorem bytes_47 : bytes Tryd.prog 47 = some 32 := by kernel_rfl
@[simp] theorem szz_47 : szz Tryd.prog 47 = some 2 := by kernel_rfl
@[simp] theorem isAg_47 : isAg Tryd.prog 47 = some true := by kernel_rfl
@[simp] theorem zeroC_47 : zeroC Tryd.prog 47 = some [.v (.int .i64 0), .nil] := by kernel_rfl
@[simp] theorem fieldsOk_47 : fieldsOk Tryd.prog 47 = true := by kernel_rfl
@[simp] theorem fo_47_0 : fo Tryd.prog 47 0 = some 0 := by kernel_rfl
@[simp] theorem fld_47_0 : fld Tryd.prog 47 0 = some (3, 0) := by kernel_rfl
@[simp] theorem fsz_47_0 : fsz Tryd.prog 47 0 = some 1 := by kernel_rfl
@[simp] theorem fo_47_1 : fo Tryd.prog 47 1 = some 1 := by kernel_rfl
@[simp] theorem fld_47_1 : fld Tryd.prog 47 1 = some (46, 1) := by kernel_rfl
@[simp] theorem fsz_47_1 : fsz Tryd.prog 47 1 = some 1 := by kernel_rfl
@[simp] theorem sz_48 : sz Tryd.prog 48 = some 2 := by kernel_rfl
@[simp] theorem bytes_48 : bytes Tryd.prog 48 = some 32 := by kernel_rfl
@[simp] theorem szz_48 : szz Tryd.prog 48 = some 2 := by kernel_rfl
@[simp] theorem isAg_48 : isAg Tryd.prog 48 = some true := by kernel_rfl
@[simp] theorem zeroC_48 : zeroC Tryd.prog 48 = some [.v (.int .i64 0), .nil] := by kernel_rfl
@[simp] theorem fieldsOk_48 : fieldsOk Tryd.prog 48 = true := by kernel_rfl
@[simp] theorem fo_48_0 : fo Tryd.prog 48 0 = some 0 := by kernel_rfl
@[simp] theorem fld_48_0 : fld Tryd.prog 48 0 = some (3, 0) := by kernel_rfl
@[simp] theorem fsz_48_0 : fsz Tryd.prog 48 0 = some 1 := by kernel_rfl
@[simp] theorem fo_48_1 : fo Tryd.prog 48 1 = some 1 := by kernel_rfl
@[simp] theorem fld_48_1 : fld Tryd.prog 48 1 = some (46, 1) := by kernel_rfl
@[simp] theorem fsz_48_1 : fsz Tryd.prog 48 1 = some 1 := by kernel_rfl
@[simp] theorem sz_50 : sz Tryd.prog 50 = some 1 := by kernel_rfl
@[simp] theorem bytes_50 : bytes Tryd.prog 50 = some 8 := by kernel_rfl
@[simp] theorem szz_50 : szz Tryd.prog 50 = some 1 := by kernel_rfl
@[simp] theorem isAg_50 : isAg Tryd.prog 50 = some false := by kernel_rfl
@[simp] theorem zeroC_50 : zeroC Tryd.prog 50 = some [.v .any] := by kernel_rfl
@[simp] theorem sz_51 : sz Tryd.prog 51 = some 1 := by kernel_rfl
@[simp] theorem bytes_51 : bytes Tryd.prog 51 = some 8 := by kernel_rfl
@[simp] theorem szz_51 : szz Tryd.prog 51 = some 1 := by kernel_rfl
@[simp] theorem isAg_51 : isAg Tryd.prog 51 = some false := by kernel_rfl
@[simp] theorem zeroC_51 : zeroC Tryd.prog 51 = some [.v .any] := by kernel_rfl
@[simp] theorem sz_52 : sz Tryd.prog 52 = some 1 := by kernel_rfl
@[simp] theorem bytes_52 : bytes Tryd.prog 52 = some 8 := by kernel_rfl
@[simp] theorem szz_52 : szz Tryd.prog 52 = some 1 := by kernel_rfl
@[simp] theorem isAg_52 : isAg Tryd.prog 52 = some false := by kernel_rfl
@[simp] theorem zeroC_52 : zeroC Tryd.prog 52 = some [.v .any] := by kernel_rfl
@[simp] theorem sz_53 : sz Tryd.prog 53 = some 1 := by kernel_rfl
@[simp] theorem bytes_53 : bytes Tryd.prog 53 = some 8 := by kernel_rfl
@[simp] theorem szz_53 : szz Tryd.prog 53 = some 1 := by kernel_rfl
@[simp] theorem isAg_53 : isAg Tryd.prog 53 = some false := by kernel_rfl
@[simp] theorem zeroC_53 : zeroC Tryd.prog 53 = some [.v .any] := by kernel_rfl
@[simp] theorem sz_54 : sz Tryd.prog 54 = some 1 := by kernel_rfl
@[simp] theorem bytes_54 : bytes Tryd.prog 54 = some 8 := by kernel_rfl
@[simp] theorem szz_54 : szz Tryd.prog 54 = some 1 := by kernel_rfl
@[simp] theorem isAg_54 : isAg Tryd.prog 54 = some false := by kernel_rfl
@[simp] theorem zeroC_54 : zeroC Tryd.prog 54 = some [.v .any] := by kernel_rfl
@[simp] theorem sz_55 : sz Tryd.prog 55 = some 1 := by kernel_rfl
@[simp] theorem bytes_55 : bytes Tryd.prog 55 = some 8 := by kernel_rfl
@[simp] theorem szz_55 : szz Tryd.prog 55 = some 1 := by kernel_rfl
@[simp] theorem isAg_55 : isAg Tryd.prog 55 = some false := by kernel_rfl
@[simp] theorem zeroC_55 : zeroC Tryd.prog 55 = some [.v .any] := by kernel_rfl
@[simp] theorem sz_59 : sz Tryd.prog 59 = some 1 := by kernel_rfl
@[simp] theorem bytes_59 : bytes Tryd.prog 59 = some 8 := by kernel_rfl
@[simp] theorem szz_59 : szz Tryd.prog 59 = some 1 := by kernel_rfl
@[simp] theorem isAg_59 : isAg Tryd.prog 59 = some false := by kernel_rfl
@[simp] theorem zeroC_59 : zeroC Tryd.prog 59 = some [.v .any] := by kernel_rfl
@[simp] theorem sz_60 : sz Tryd.prog 60 = some 1 := by kernel_rfl
@[simp] theorem bytes_60 : bytes Tryd.prog 60 = some 24 := by kernel_rfl
@[simp] theorem szz_60 : szz Tryd.prog 60 = some 1 := by kernel_rfl
@[simp] theorem isAg_60 : isAg Tryd.prog 60 = some false := by kernel_rfl
@[simp] theorem elT_60 : elT Tryd.prog 60 = some 5 := by kernel_rfl
@[simp] theorem isStr_60 : isStr Tryd.prog 60 = some false := by kernel_rfl
@[simp] theorem zeroC_60 : zeroC Tryd.prog 60 = some [.nil] := by kernel_rfl
@[simp] theorem sz_61 : sz Tryd.prog 61 = some 1 := by kernel_rfl
@[simp] theorem bytes_61 : bytes Tryd.prog 61 = some 8 := by kernel_rfl
@[simp] theorem szz_61 : szz Tryd.prog 61 = some 1 := by kernel_rfl
@[simp] theorem isAg_61 : isAg Tryd.prog 61 = some false := by kernel_rfl
@[simp] theorem zeroC_61 : zeroC Tryd.prog 61 = some [.v .any] := by kernel_rfl
@[simp] theorem sz_63 : sz Tryd.prog 63 = some 1 := by kernel_rfl
@[simp] theorem bytes_63 : bytes Tryd.prog 63 = some 8 := by kernel_rfl
@[simp] theorem szz_63 : szz Tryd.prog 63 = some 1 := by kernel_rfl
@[simp] theorem isAg_63 : isAg Tryd.prog 63 = some false := by kernel_rfl
@[simp] theorem zeroC_63 : zeroC Tryd.prog 63 = some [.v .any] := by kernel_rfl
@[simp] theorem sz_64 : sz Tryd.prog 64 = some 1 := by kernel_rfl
@[simp] theorem bytes_64 : bytes Tryd.prog 64 = some 8 := by kernel_rfl
@[simp] theorem szz_64 : szz Tryd.prog 64 = some 1 := by kernel_rfl
@[simp] theorem isAg_64 : isAg Tryd.prog 64 = some false := by kernel_rfl
@[simp] theorem zeroC_64 : zeroC Tryd.prog 64 = some [.v .any] := by kernel_rfl
@[simp] theorem sz_65 : sz Tryd.prog 65 = some 1 := by kernel_rfl
@[simp] theorem bytes_65 : bytes Tryd.prog 65 = some 8 := by kernel_rfl
@[simp] theorem szz_65 : szz Tryd.prog 65 = some 1 := by kernel_rfl
@[simp] theorem isAg_65 : isAg Tryd.prog 65 = some false := by kernel_rfl
@[simp] theorem zeroC_65 : zeroC Tryd.prog 65 = some [.v .any] := by kernel_rfl
@[simp] theorem sz_66 : sz Tryd.prog 66 = some 1 := by kernel_rfl
@[simp] theorem bytes_66 : bytes Tryd.prog 66 = some 8 := by kernel_rfl
@[simp] theorem szz_66 : szz Tryd.prog 66 = some 1 := by kernel_rfl
@[simp] theorem isAg_66 : isAg Tryd.prog 66 = some false := by kernel_rfl
@[simp] theorem zeroC_66 : zeroC Tryd.prog 66 = some [.v .any] := by kernel_rfl
@[simp] theorem sz_67 : sz Tryd.prog 67 = some 1 := by kernel_rfl
@[simp] theorem bytes_67 : bytes Tryd.prog 67 = some 8 := by kernel_rfl
@[simp] theorem szz_67 : szz Tryd.prog 67 = some 1 := by kernel_rfl
@[simp] theorem isAg_67 : isAg Tryd.prog 67 = some false := by kernel_rfl
@[simp] theorem zeroC_67 : zeroC Tryd.prog 67 = some [.v .any] := by kernel_rfl
@[simp] theorem sz_68 : sz Tryd.prog 68 = some 1 := by kernel_rfl
@[simp] theorem bytes_68 : bytes Tryd.prog 68 = some 8 := by kernel_rfl
@[simp] theorem szz_68 : szz Tryd.prog 68 = some 1 := by kernel_rfl
@[simp] theorem isAg_68 : isAg Tryd.prog 68 = some false := by kernel_rfl
@[simp] theorem zeroC_68 : zeroC Tryd.prog 68 = some [.v .any] := by kernel_rfl
@[simp] theorem sz_69 : sz Tryd.prog 69 = some 1 := by kernel_rfl
@[simp] theorem bytes_69 : bytes Tryd.prog 69 = some 8 := by kernel_rfl
@[simp] theorem szz_69 : szz Tryd.prog 69 = some 1 := by kernel_rfl
@[simp] theorem isAg_69 : isAg Tryd.prog 69 = some false := by kernel_rfl
@[simp] theorem zeroC_69 : zeroC Tryd.prog 69 = some [.v .any] := by kernel_rfl
@[simp] theorem sz_70 : sz Tryd.prog 70 = some 1 := by kernel_rfl
@[simp] theorem bytes_70 : bytes Tryd.prog 70 = some 8 := by kernel_rfl
@[simp] theorem szz_70 : szz Tryd.prog 70 = some 1 := by kernel_rfl
@[simp] theorem isAg_70 : isAg Tryd.prog 70 = some false := by kernel_rfl
@[simp] theorem zeroC_70 : zeroC Tryd.prog 70 = some [.v .any] := by kernel_rfl
@[simp] theorem sz_71 : sz Tryd.prog 71 = some 1 := by kernel_rfl
@[simp] theorem bytes_71 : bytes Tryd.prog 71 = some 8 := by kernel_rfl
@[simp] theorem szz_71 : szz Tryd.prog 71 = some 1 := by kernel_rfl
@[simp] theorem isAg_71 : isAg Tryd.prog 71 = some false := by kernel_rfl
@[simp] theorem zeroC_71 : zeroC Tryd.prog 71 = some [.v .any] := by kernel_rfl
@[simp] theorem sz_72 : sz Tryd.prog 72 = some 1 := by kernel_rfl
@[simp] theorem bytes_72 : bytes Tryd.prog 72 = some 8 := by kernel_rfl
@[simp] theorem szz_72 : szz Tryd.prog 72 = some 1 := by kernel_rfl
@[simp] theorem isAg_72 : isAg Tryd.prog 72 = some false := by kernel_rfl
@[simp] theorem zeroC_72 : zeroC Tryd.prog 72 = some [.v .any] := by kernel_rfl
@[simp] theorem sz_74 : sz Tryd.prog 74 = some 1 := by kernel_rfl
@[simp] theorem bytes_74 : bytes Tryd.prog 74 = some 8 := by kernel_rfl
@[simp] theorem szz_74 : szz Tryd.prog 74 = some 1 := by kernel_rfl
@[simp] theorem isAg_74 : isAg Tryd.prog 74 = some false := by kernel_rfl
@[simp] theorem zeroC_74 : zeroC Tryd.prog 74 = some [.v .any] := by kernel_rfl
@[simp] theorem sz_75 : sz Tryd.prog 75 = some 1 := by kernel_rfl
@[simp] theorem bytes_75 : bytes Tryd.prog 75 = some 8 := by kernel_rfl
@[simp] theorem szz_75 : szz Tryd.prog 75 = some 1 := by kernel_rfl
@[simp] theorem isAg_75 : isAg Tryd.prog 75 = some false := by kernel_rfl
@[simp] theorem zeroC_75 : zeroC Tryd.prog 75 = some [.v .any] := by kernel_rfl
@[simp] theorem sz_76 : sz Tryd.prog 76 = some 1 := by kernel_rfl
@[simp] theorem bytes_76 : bytes Tryd.prog 76 = some 8 := by kernel_rfl
@[simp] theorem szz_76 : szz Tryd.prog 76 = some 1 := by kernel_rfl
@[simp] theorem isAg_76 : isAg Tryd.prog 76 = some false := by kernel_rfl
@[simp] theorem zeroC_76 : zeroC Tryd.prog 76 = some [.v .any] := by kernel_rfl
@[simp] theorem sz_77 : sz Tryd.prog 77 = some 1 := by kernel_rfl
@[simp] theorem bytes_77 : bytes Tryd.prog 77 = some 8 := by kernel_rfl
@[simp] theorem szz_77 : szz Tryd.prog 77 = some 1 := by kernel_rfl
@[simp] theorem isAg_77 : isAg Tryd.prog 77 = some false := by kernel_rfl
@[simp] theorem zeroC_77 : zeroC Tryd.prog 77 = some [.v .any] := by kernel_rfl
@[simp] theorem sz_78 : sz Tryd.prog 78 = some 1 := by kernel_rfl
@[simp] theorem bytes_78 : bytes Tryd.prog 78 = some 8 := by kernel_rfl
@[simp] theorem szz_78 : szz Tryd.prog 78 = some 1 := by kernel_rfl
@[simp] theorem isAg_78 : isAg Tryd.prog 78 = some false := by kernel_rfl
@[simp] theorem zeroC_78 : zeroC Tryd.prog 78 = some [.v .any] := by kernel_rfl
@[simp] theorem sz_79 : sz Tryd.prog 79 = some 1 := by kernel_rfl
@[simp] theorem bytes_79 : bytes Tryd.prog 79 = some 8 := by kernel_rfl
@[simp] theorem szz_79 : szz Tryd.prog 79 = some 1 := by kernel_rfl
@[simp] theorem isAg_79 : isAg Tryd.prog 79 = some false := by kernel_rfl
@[simp] theorem zeroC_79 : zeroC Tryd.prog 79 = some [.v .any] := by kernel_rfl
@[simp] theorem sz_80 : sz Tryd.prog 80 = some 1 := by kernel_rfl
@[simp] theorem bytes_80 : bytes Tryd.prog 80 = some 8 := by kernel_rfl
@[simp] theorem szz_80 : szz Tryd.prog 80 = some 1 := by kernel_rfl
@[simp] theorem isAg_80 : isAg Tryd.prog 80 = some false := by kernel_rfl
@[simp] theorem zeroC_80 : zeroC Tryd.prog 80 = some [.v .any] := by kernel_rfl
@[simp] theorem sz_82 : sz Tryd.prog 82 = some 1 := by kernel_rfl
@[simp] theorem bytes_82 : bytes Tryd.prog 82 = some 8 := by kernel_rfl
@[simp] theorem szz_82 : szz Tryd.prog 82 = some 1 := by kernel_rfl
@[simp] theorem isAg_82 : isAg Tryd.prog 82 = some false := by kernel_rfl
@[simp] theorem zeroC_82 : zeroC Tryd.prog 82 = some [.v .any] := by kernel_rfl
@[simp] theorem sz_83 : sz Tryd.prog 83 = some 1 := by kernel_rfl
@[simp] theorem bytes_83 : bytes Tryd.prog 83 = some 8 := by kernel_rfl
@[simp] theorem szz_83 : szz Tryd.prog 83 = some 1 := by kernel_rfl
@[simp] theorem isAg_83 : isAg Tryd.prog 83 = some false := by kernel_rfl
@[simp] theorem zeroC_83 : zeroC Tryd.prog 83 = some [.v .any] := by kernel_rfl
@[simp] theorem sz_84 : sz Tryd.prog 84 = some 1 := by kernel_rfl
@[simp] theorem bytes_84 : bytes Tryd.prog 84 = some 8 := by kernel_rfl
@[simp] theorem szz_84 : szz Tryd.prog 84 = some 1 := by kernel_rfl
@[simp] theorem isAg_84 : isAg Tryd.prog 84 = some false := by kernel_rfl
@[simp] theorem zeroC_84 : zeroC Tryd.prog 84 = some [.v .any] := by kernel_rfl
@[simp] theorem sz_85 : sz Tryd.prog 85 = some 2 := by kernel_rfl
@[simp] theorem bytes_85 : bytes Tryd.prog 85 = some 16 := by kernel_rfl
@[simp] theorem szz_85 : szz Tryd.prog 85 = some 2 := by kernel_rfl
@[simp] theorem isAg_85 : isAg Tryd.prog 85 = some true := by kernel_rfl
@[simp] theorem zeroC_85 : zeroC Tryd.prog 85 = some [.v (.int .i64 0), .v (.int .i64 0)] := by kernel_rfl
@[simp] theorem fieldsOk_85 : fieldsOk Tryd.prog 85 = true := by kernel_rfl
@[simp] theorem eqKinds_85 : eqKinds Tryd.prog 85 = some [1, 1] := by kernel_rfl
@[simp] theorem fo_85_0 : fo Tryd.prog 85 0 = some 0 := by kernel_rfl
@[simp] theorem fld_85_0 : fld Tryd.prog 85 0 = some (3, 0) := by kernel_rfl
@[simp] theorem fsz_85_0 : fsz Tryd.prog 85 0 = some 1 := by kernel_rfl
@[simp] theorem fo_85_1 : fo Tryd.prog 85 1 = some 1 := by kernel_rfl
@[simp] theorem fld_85_1 : fld Tryd.prog 85 1 = some (3, 1) := by kernel_rfl
@[simp] theorem fsz_85_1 : fsz Tryd.prog 85 1 = some 1 := by kernel_rfl
@[simp] theorem sz_86 : sz Tryd.prog 86 = some 2 := by kernel_rfl
@[simp] theorem bytes_86 : bytes Tryd.prog 86 = some 16 := by kernel_rfl
@[simp] theorem szz_86 : szz Tryd.prog 86 = some 2 := by kernel_rfl
@[simp] theorem isAg_86 : isAg Tryd.prog 86 = some true := by kernel_rfl
@[simp] theorem zeroC_86 : zeroC Tryd.prog 86 = some [.v (.int .i64 0), .v (.int .i64 0)] := by kernel_rfl
@[simp] theorem fieldsOk_86 : fieldsOk Tryd.prog 86 = true := by kernel_rfl
@[simp] theorem eqKinds_86 : eqKinds Tryd.prog 86 = some [1, 1] := by kernel_rfl
@[simp] theorem fo_86_0 : fo Tryd.prog 86 0 = some 0 := by kernel_rfl
@[simp] theorem fld_86_0 : fld Tryd.prog 86 0 = some (3, 0) := by kernel_rfl
@[simp] theorem fsz_86_0 : fsz Tryd.prog 86 0 = some 1 := by kernel_rfl
@[simp] theorem fo_86_1 : fo Tryd.prog 86 1 = some 1 := by kernel_rfl
@[simp] theorem fld_86_1 : fld Tryd.prog 86 1 = some (3, 1) := by kernel_rfl
@[simp] theorem fsz_86_1 : fsz Tryd.prog 86 1 = some 1 := by kernel_rfl
@[simp] theorem sz_87 : sz Tryd.prog 87 = some 1 := by kernel_rfl
@[simp] theorem bytes_87 : bytes Tryd.prog 87 = some 8 := by kernel_rfl
@[simp] theorem szz_87 : szz Tryd.prog 87 = some 1 := by kernel_rfl
@[simp] theorem isAg_87 : isAg Tryd.prog 87 = some false := by kernel_rfl
@[simp] theorem zeroC_87 : zeroC Tryd.prog 87 = some [.v .any] := by kernel_rfl
@[simp] theorem sz_88 : sz Tryd.prog 88 = some 2 := by kernel_rfl
@[simp] theorem bytes_88 : bytes Tryd.prog 88 = some 32 := by kernel_rfl
@[simp] theorem szz_88 : szz Tryd.prog 88 = some 2 := by kernel_rfl
@[simp] theorem isAg_88 : isAg Tryd.prog 88 = some true := by kernel_rfl
@[simp] theorem fieldsOk_88 : fieldsOk Tryd.prog 88 = true := by kernel_rfl
@[simp] theorem fo_88_0 : fo Tryd.prog 88 0 = some 0 := by kernel_rfl
@[simp] theorem fld_88_0 : fld Tryd.prog 88 0 = some (87, 0) := by kernel_rfl
@[simp] theorem fsz_88_0 : fsz Tryd.prog 88 0 = some 1 := by kernel_rfl
@[simp] theorem fo_88_1 : fo Tryd.prog 88 1 = some 1 := by kernel_rfl
@[simp] theorem fld_88_1 : fld Tryd.prog 88 1 = some (60, 1) := by kernel_rfl
@[simp] theorem fsz_88_1 : fsz Tryd.prog 88 1 = some 1 := by kernel_rfl
@[simp] theorem sz_89 : sz Tryd.prog 89 = some 2 := by kernel_rfl
@[simp] theorem bytes_89 : bytes Tryd.prog 89 = some 32 := by kernel_rfl
@[simp] theorem szz_89 : szz Tryd.prog 89 = some 2 := by kernel_rfl
@[simp] theorem isAg_89 : isAg Tryd.prog 89 = some true := by kernel_rfl
@[simp] theorem fieldsOk_89 : fieldsOk Tryd.prog 89 = true := by kernel_rfl
@[simp] theorem fo_89_0 : fo Tryd.prog 89 0 = some 0 := by kernel_rfl
@[simp] theorem fld_89_0 : fld Tryd.prog 89 0 = some (87, 0) := by kernel_rfl
@[simp] theorem fsz_89_0 : fsz Tryd.prog 89 0 = some 1 := by kernel_rfl
@[simp] theorem fo_89_1 : fo Tryd.prog 89 1 = some 1 := by kernel_rfl
@[simp] theorem fld_89_1 : fld Tryd.prog 89 1 = some (60, 1) := by kernel_rfl
@[simp] theorem fsz_89_1 : fsz Tryd.prog 89 1 = some 1 := by kernel_rfl
@[simp] theorem sz_90 : sz Tryd.prog 90 = some 1 := by kernel_rfl
@[simp] theorem bytes_90 : bytes Tryd.prog 90 = some 8 := by kernel_rfl
@[simp] theorem szz_90 : szz Tryd.prog 90 = some 1 := by kernel_rfl
@[simp] theorem isAg_90 : isAg Tryd.prog 90 = some false := by kernel_rfl
@[simp] theorem zeroC_90 : zeroC Tryd.prog 90 = some [.v .any] := by kernel_rfl
@[simp] theorem sz_91 : sz Tryd.prog 91 = some 1 := by kernel_rfl
@[simp] theorem bytes_91 : bytes Tryd.prog 91 = some 8 := by kernel_rfl
@[simp] theorem szz_91 : szz Tryd.prog 91 = some 1 := by kernel_rfl
@[simp] theorem isAg_91 : isAg Tryd.prog 91 = some false := by kernel_rfl
@[simp] theorem zeroC_91 : zeroC Tryd.prog 91 = some [.v .any] := by kernel_rfl
@[simp] theorem sz_92 : sz Tryd.prog 92 = some 1 := by kernel_rfl
@[simp] theorem bytes_92 : bytes Tryd.prog 92 = some 8 := by kernel_rfl
@[simp] theorem szz_92 : szz Tryd.prog 92 = some 1 := by kernel_rfl
@[simp] theorem isAg_92 : isAg Tryd.prog 92 = some false := by kernel_rfl
@[simp] theorem zeroC_92 : zeroC Tryd.prog 92 = some [.v .any] := by kernel_rfl
@[simp] theorem sz_93 : sz Tryd.prog 93 = some 1 := by kernel_rfl
@[simp] theorem bytes_93 : bytes Tryd.prog 93 = some 8 := by kernel_rfl
@[simp] theorem szz_93 : szz Tryd.prog 93 = some 1 := by kernel_rfl
@[simp] theorem isAg_93 : isAg Tryd.prog 93 = some false := by kernel_rfl
@[simp] theorem zeroC_93 : zeroC Tryd.prog 93 = some [.v .any] := by kernel_rfl
@[simp] theorem sz_94 : sz Tryd.prog 94 = some 1 := by kernel_rfl
@[simp] theorem bytes_94 : bytes Tryd.prog 94 = some 8 := by kernel_rfl
@[simp] theorem szz_94 : szz Tryd.prog 94 = some 1 := by kernel_rfl
@[simp] theorem isAg_94 : isAg Tryd.prog 94 = some false := by kernel_rfl
@[simp] theorem zeroC_94 : zeroC Tryd.prog 94 = some [.v .any] := by kernel_rfl
@[simp] theorem sz_95 : sz Tryd.prog 95 = some 1 := by kernel_rfl
@[simp] theorem bytes_95 : bytes Tryd.prog 95 = some 8 := by kernel_rfl
@[simp] theorem szz_95 : szz Tryd.prog 95 = some 1 := by kernel_rfl
@[simp] theorem isAg_95 : isAg Tryd.prog 95 = some false := by kernel_rfl
@[simp] theorem intK_95 : intK Tryd.prog 95 = some .u64 := by kernel_rfl
@[simp] theorem zeroC_95 : zeroC Tryd.prog 95 = some [.v (.int .u64 0)] := by kernel_rfl
@[simp] theorem sz_96 : sz Tryd.prog 96 = some 1 := by kernel_rfl
@[simp] theorem bytes_96 : bytes Tryd.prog 96 = some 8 := by kernel_rfl
@[simp] theorem szz_96 : szz Tryd.prog 96 = some 1 := by kernel_rfl
@[simp] theorem isAg_96 : isAg Tryd.prog 96 = some false := by kernel_rfl
@[simp] theorem intK_96 : intK Tryd.prog 96 = some .i64 := by kernel_rfl
@[simp] theorem zeroC_96 : zeroC Tryd.prog 96 = some [.v (.int .i64 0)] := by kernel_rfl
@[simp] theorem sz_98 : sz Tryd.prog 98 = some 1 := by kernel_rfl
@[simp] theorem bytes_98 : bytes Tryd.prog 98 = some 8 := by kernel_rfl
@[simp] theorem szz_98 : szz Tryd.prog 98 = some 1 := by kernel_rfl
@[simp] theorem isAg_98 : isAg Tryd.prog 98 = some false := by kernel_rfl
@[simp] theorem zeroC_98 : zeroC Tryd.prog 98 = some [.v .any] := by kernel_rfl
@[simp] theorem sz_99 : sz Tryd.prog 99 = some 1 := by kernel_rfl
@[simp] theorem bytes_99 : bytes Tryd.prog 99 = some 8 := by kernel_rfl
@[simp] theorem szz_99 : szz Tryd.prog 99 = some 1 := by kernel_rfl
@[simp] theorem isAg_99 : isAg Tryd.prog 99 = some false := by kernel_rfl
@[simp] theorem zeroC_99 : zeroC Tryd.prog 99 = some [.v .any] := by kernel_rfl
@[simp] theorem sz_100 : sz Tryd.prog 100 = some 1 := by kernel_rfl
@[simp] theorem bytes_100 : bytes Tryd.prog 100 = some 8 := by kernel_rfl
@[simp] theorem szz_100 : szz Tryd.prog 100 = some 1 := by kernel_rfl
@[simp] theorem isAg_100 : isAg Tryd.prog 100 = some false := by kernel_rfl
@[simp] theorem zeroC_100 : zeroC Tryd.prog 100 = some [.v .any] := by kernel_rfl
@[simp] theorem sz_101 : sz Tryd.prog 101 = some 1 := by kernel_rfl
@[simp] theorem bytes_101 : bytes Tryd.prog 101 = some 8 := by kernel_rfl
@[simp] theorem szz_101 : szz Tryd.prog 101 = some 1 := by kernel_rfl
@[simp] theorem isAg_101 : isAg Tryd.prog 101 = some false := by kernel_rfl
@[simp] theorem zeroC_101 : zeroC Tryd.prog 101 = some [.v .any] := by kernel_rfl
@[simp] theorem sz_102 : sz Tryd.prog 102 = some 1 := by kernel_rfl
@[simp] theorem bytes_102 : bytes Tryd.prog 102 = some 8 := by kernel_rfl
@[simp] theorem szz_102 : szz Tryd.prog 102 = some 1 := by kernel_rfl
@[simp] theorem isAg_102 : isAg Tryd.prog 102 = some false := by kernel_rfl
@[simp] theorem zeroC_102 : zeroC Tryd.prog 102 = some [.v .any] := by kernel_rfl
@[simp] theorem sz_103 : sz Tryd.prog 103 = some 1 := by kernel_rfl
@[simp] theorem bytes_103 : bytes Tryd.prog 103 = some 8 := by kernel_rfl
@[simp] theorem szz_103 : szz Tryd.prog 103 = some 1 := by kernel_rfl
@[simp] theorem isAg_103 : isAg Tryd.prog 103 = some false := by kernel_rfl
@[simp] theorem zeroC_103 : zeroC Tryd.prog 103 = some [.v .any] := by kernel_rfl
@[simp] theorem sz_104 : sz Tryd.prog 104 = some 1 := by kernel_rfl
@[simp] theorem bytes_104 : bytes Tryd.prog 104 = some 8 := by kernel_rfl
@[simp] theorem szz_104 : szz Tryd.prog 104 = some 1 := by kernel_rfl
@[simp] theorem isAg_104 : isAg Tryd.prog 104 = some false := by kernel_rfl
@[simp] theorem zeroC_104 : zeroC Tryd.prog 104 = some [.v .any] := by kernel_rfl
@[simp] theorem sz_106 : sz Tryd.prog 106 = some 1 := by kernel_rfl
@[simp] theorem bytes_106 : bytes Tryd.prog 106 = some 8 := by kernel_rfl
@[simp] theorem szz_106 : szz Tryd.prog 106 = some 1 := by kernel_rfl
@[simp] theorem isAg_106 : isAg Tryd.prog 106 = some false := by kernel_rfl
@[simp] theorem zeroC_106 : zeroC Tryd.prog 106 = some [.v .any] := by kernel_rfl
@[simp] theorem sz_107 : sz Tryd.prog 107 = some 1 := by kernel_rfl
@[simp] theorem bytes_107 : bytes Tryd.prog 107 = some 8 := by kernel_rfl
@[simp] theorem szz_107 : szz Tryd.prog 107 = some 1 := by kernel_rfl
@[simp] theorem isAg_107 : isAg Tryd.prog 107 = some false := by kernel_rfl
@[simp] theorem zeroC_107 : zeroC Tryd.prog 107 = some [.v .any] := by kernel_rfl
@[simp] theorem sz_108 : sz Tryd.prog 108 = some 1 := by kernel_rfl
@[simp] theorem bytes_108 : bytes Tryd.prog 108 = some 8 := by kernel_rfl
@[simp] theorem szz_108 : szz Tryd.prog 108 = some 1 := by kernel_rfl
@[simp] theorem isAg_108 : isAg Tryd.prog 108 = some false := by kernel_rfl
@[simp] theorem zeroC_108 : zeroC Tryd.prog 108 = some [.v .any] := by kernel_rfl
@[simp] theorem sz_109 : sz Tryd.prog 109 = some 1 := by kernel_rfl
@[simp] theorem bytes_109 : bytes Tryd.prog 109 = some 8 := by kernel_rfl
@[simp] theorem szz_109 : szz Tryd.prog 109 = some 1 := by kernel_rfl
@[simp] theorem isAg_109 : isAg Tryd.prog 109 = some false := by kernel_rfl
@[simp] theorem zeroC_109 : zeroC Tryd.prog 109 = some [.v .any] := by kernel_rfl
@[simp] theorem sz_110 : sz Tryd.prog 110 = some 1 := by kernel_rfl
@[simp] theorem bytes_110 : bytes Tryd.prog 110 = some 8 := by kernel_rfl
@[simp] theorem szz_110 : szz Tryd.prog 110 = some 1 := by kernel_rfl
@[simp] theorem isAg_110 : isAg Tryd.prog 110 = some false := by kernel_rfl
@[simp] theorem zeroC_110 : zeroC Tryd.prog 110 = some [.v .any] := by kernel_rfl
@[simp] theorem sz_111 : sz Tryd.prog 111 = some 1 := by kernel_rfl
@[simp] theorem bytes_111 : bytes Tryd.prog 111 = some 8 := by kernel_rfl
@[simp] theorem szz_111 : szz Tryd.prog 111 = some 1 := by kernel_rfl
@[simp] theorem isAg_111 : isAg Tryd.prog 111 = some false := by kernel_rfl
@[simp] theorem zeroC_111 : zeroC Tryd.prog 111 = some [.v .any] := by kernel_rfl
@[simp] theorem sz_112 : sz Tryd.prog 112 = some 1 := by kernel_rfl
@[simp] theorem bytes_112 : bytes Tryd.prog 112 = some 4 := by kernel_rfl
@[simp] theorem szz_112 : szz Tryd.prog 112 = some 1 := by kernel_rfl
@[simp] theorem isAg_112 : isAg Tryd.prog 112 = some false := by kernel_rfl
@[simp] theorem intK_112 : intK Tryd.prog 112 = some .u32 := by kernel_rfl
@[simp] theorem zeroC_112 : zeroC Tryd.prog 112 = some [.v (.int .u32 0)] := by kernel_rfl
@[simp] theorem sz_114 : sz Tryd.prog 114 = some 1 := by kernel_rfl
@[simp] theorem bytes_114 : bytes Tryd.prog 114 = some 8 := by kernel_rfl
@[simp] theorem szz_114 : szz Tryd.prog 114 = some 1 := by kernel_rfl
@[simp] theorem isAg_114 : isAg Tryd.prog 114 = some false := by kernel_rfl
@[simp] theorem zeroC_114 : zeroC Tryd.prog 114 = some [.v .any] := by kernel_rfl
@[simp] theorem sz_115 : sz Tryd.prog 115 = some 1 := by kernel_rfl
@[simp] theorem bytes_115 : bytes Tryd.prog 115 = some 8 := by kernel_rfl
@[simp] theorem szz_115 : szz Tryd.prog 115 = some 1 := by kernel_rfl
@[simp] theorem isAg_115 : isAg Tryd.prog 115 = some false := by kernel_rfl
@[simp] theorem intK_115 : intK Tryd.prog 115 = some .u64 := by kernel_rfl
@[simp] theorem zeroC_115 : zeroC Tryd.prog 115 = some [.v (.int .u64 0)] := by kernel_rfl
@[simp] theorem sz_117 : sz Tryd.prog 117 = some 1 := by kernel_rfl
@[simp] theorem bytes_117 : bytes Tryd.prog 117 = some 8 := by kernel_rfl
@[simp] theorem szz_117 : szz Tryd.prog 117 = some 1 := by kernel_rfl
@[simp] theorem isAg_117 : isAg Tryd.prog 117 = some false := by kernel_rfl
@[simp] theorem zeroC_117 : zeroC Tryd.prog 117 = some [.v .any] := by kernel_rfl
@[simp] theorem sz_118 : sz Tryd.prog 118 = some 1 := by kernel_rfl
@[simp] theorem bytes_118 : bytes Tryd.prog 118 = some 8 := by kernel_rfl
@[simp] theorem szz_118 : szz Tryd.prog 118 = some 1 := by kernel_rfl
@[simp] theorem isAg_118 : isAg Tryd.prog 118 = some false := by kernel_rfl
@[simp] theorem zeroC_118 : zeroC Tryd.prog 118 = some [.v .any] := by kernel_rfl
@[simp] theorem sz_119 : sz Tryd.prog 119 = some 3 := by kernel_rfl
@[simp] theorem bytes_119 : bytes Tryd.prog 119 = some 48 := by kernel_rfl
@[simp] theorem szz_119 : szz Tryd.prog 119 = some 3 := by kernel_rfl
@[simp] theorem isAg_119 : isAg Tryd.prog 119 = some true := by kernel_rfl
@[simp] theorem zeroC_119 : zeroC Tryd.prog 119 = some [.v (.str []), .v (.str []), .v .any] := by kernel_rfl
@[simp] theorem fieldsOk_119 : fieldsOk Tryd.prog 119 = true := by kernel_rfl
@[simp] theorem fo_119_0 : fo Tryd.prog 119 0 = some 0 := by kernel_rfl
@[simp] theorem fld_119_0 : fld Tryd.prog 119 0 = some (9, 0) := by kernel_rfl
@[simp] theorem fsz_119_0 : fsz Tryd.prog 119 0 = some 1 := by kernel_rfl
@[simp] theorem fo_119_1 : fo Tryd.prog 119 1 = some 1 := by kernel_rfl
@[simp] theorem fld_119_1 : fld Tryd.prog 119 1 = some (9, 1) := by kernel_rfl
@[simp] theorem fsz_119_1 : fsz Tryd.prog 119 1 = some 1 := by kernel_rfl
@[simp] theorem fo_119_2 : fo Tryd.prog 119 2 = some 2 := by kernel_rfl
@[simp] theorem fld_119_2 : fld Tryd.prog 119 2 = some (57, 2) := by kernel_rfl
@[simp] theorem fsz_119_2 : fsz Tryd.prog 119 2 = some 1 := by kernel_rfl
@[simp] theorem sz_120 : sz Tryd.prog 120 = some 3 := by kernel_rfl
@[simp] theorem bytes_120 : bytes Tryd.prog 120 = some 48 := by kernel_rfl
@[simp] theorem szz_120 : szz Tryd.prog 120 = some 3 := by kernel_rfl
@[simp] theorem isAg_120 : isAg Tryd.prog 120 = some true := by kernel_rfl
@[simp] theorem zeroC_120 : zeroC Tryd.prog 120 = some [.v (.str []), .v (.str []), .v .any] := by kernel_rfl
@[simp] theorem fieldsOk_120 : fieldsOk Tryd.prog 120 = true := by kernel_rfl
@[simp] theorem fo_120_0 : fo Tryd.prog 120 0 = some 0 := by kernel_rfl
@[simp] theorem fld_120_0 : fld Tryd.prog 120 0 = some (9, 0) := by kernel_rfl
@[simp] theorem fsz_120_0 : fsz Tryd.prog 120 0 = some 1 := by kernel_rfl
@[simp] theorem fo_120_1 : fo Tryd.prog 120 1 = some 1 := by kernel_rfl
@[simp] theorem fld_120_1 : fld Tryd.prog 120 1 = some (9, 1) := by kernel_rfl
@[simp] theorem fsz_120_1 : fsz Tryd.prog 120 1 = some 1 := by kernel_rfl
@[simp] theorem fo_120_2 : fo Tryd.prog 120 2 = some 2 := by kernel_rfl
@[simp] theorem fld_120_2 : fld Tryd.prog 120 2 = some (57, 2) := by kernel_rfl
@[simp] theorem fsz_120_2 : fsz Tryd.prog 120 2 = some 1 := by kernel_rfl
@[simp] theorem sz_121 : sz Tryd.prog 121 = some 1 := by kernel_rfl
@[simp] theorem bytes_121 : bytes Tryd.prog 121 = some 8 := by kernel_rfl
@[simp] theorem szz_121 : szz Tryd.prog 121 = some 1 := by kernel_rfl
@[simp] theorem isAg_121 : isAg Tryd.prog 121 = some false := by kernel_rfl
@[simp] theorem zeroC_121 : zeroC Tryd.prog 121 = some [.v .any] := by kernel_rfl
@[simp] theorem sz_123 : sz Tryd.prog 123 = some 1 := by kernel_rfl
@[simp] theorem bytes_123 : bytes Tryd.prog 123 = some 8 := by kernel_rfl
@[simp] theorem szz_123 : szz Tryd.prog 123 = some 1 := by kernel_rfl
@[simp] theorem isAg_123 : isAg Tryd.prog 123 = some false := by kernel_rfl
@[simp] theorem zeroC_123 : zeroC Tryd.prog 123 = some [.v .any] := by kernel_rfl
@[simp] theorem sz_124 : sz Tryd.prog 124 = some 1 := by kernel_rfl
@[simp] theorem bytes_124 : bytes Tryd.prog 124 = some 24 := by kernel_rfl
@[simp] theorem szz_124 : szz Tryd.prog 124 = some 1 := by kernel_rfl
@[simp] theorem isAg_124 : isAg Tryd.prog 124 = some false := by kernel_rfl
@[simp] theorem elT_124 : elT Tryd.prog 124 = some 3 := by kernel_rfl
@[simp] theorem isStr_124 : isStr Tryd.prog 124 = some false := by kernel_rfl
@[simp] theorem zeroC_124 : zeroC Tryd.prog 124 = some [.nil] := by kernel_rfl
@[simp] theorem sz_126 : sz Tryd.prog 126 = some 1 := by kernel_rfl
@[simp] theorem bytes_126 : bytes Tryd.prog 126 = some 8 := by kernel_rfl
@[simp] theorem szz_126 : szz Tryd.prog 126 = some 1 := by kernel_rfl
@[simp] theorem isAg_126 : isAg Tryd.prog 126 = some false := by kernel_rfl
@[simp] theorem zeroC_126 : zeroC Tryd.prog 126 = some [.v .any] := by kernel_rfl
@[simp] theorem sz_127 : sz Tryd.prog 127 = some 1 := by kernel_rfl
@[simp] theorem bytes_127 : bytes Tryd.prog 127 = some 8 := by kernel_rfl
@[simp] theorem szz_127 : szz Tryd.prog 127 = some 1 := by kernel_rfl
@[simp] theorem isAg_127 : isAg Tryd.prog 127 = some false := by kernel_rfl
@[simp] theorem zeroC_127 : zeroC Tryd.prog 127 = some [.v .any] := by kernel_rfl
@[simp] theorem sz_129 : sz Tryd.prog 129 = some 1 := by kernel_rfl
@[simp] theorem bytes_129 : bytes Tryd.prog 129 = some 8 := by kernel_rfl
@[simp] theorem szz_129 : szz Tryd.prog 129 = some 1 := by kernel_rfl
@[simp] theorem isAg_129 : isAg Tryd.prog 129 = some false := by kernel_rfl
@[simp] theorem zeroC_129 : zeroC Tryd.prog 129 = some [.v .any] := by kernel_rfl
@[simp] theorem sz_131 : sz Tryd.prog 131 = some 1 := by kernel_rfl
@[simp] theorem bytes_131 : bytes Tryd.prog 131 = some 8 := by kernel_rfl
@[simp] theorem szz_131 : szz Tryd.prog 131 = some 1 := by kernel_rfl
@[simp] theorem isAg_131 : isAg Tryd.prog 131 = some false := by kernel_rfl
@[simp] theorem zeroC_131 : zeroC Tryd.prog 131 = some [.v .any] := by kernel_rfl
@[simp] theorem sz_132 : sz Tryd.prog 132 = some 1 := by kernel_rfl
@[simp] theorem bytes_132 : bytes Tryd.prog 132 = some 8 := by kernel_rfl
@[simp] theorem szz_132 : szz Tryd.prog 132 = some 1 := by kernel_rfl
@[simp] theorem isAg_132 : isAg Tryd.prog 132 = some false := by kernel_rfl
@[simp] theorem zeroC_132 : zeroC Tryd.prog 132 = some [.v .any] := by kernel_rfl
@[simp] theorem sz_133 : sz Tryd.prog 133 = some 1 := by kernel_rfl
@[simp] theorem bytes_133 : bytes Tryd.prog 133 = some 8 := by kernel_rfl
@[simp] theorem szz_133 : szz Tryd.prog 133 = some 1 := by kernel_rfl
@[simp] theorem isAg_133 : isAg Tryd.prog 133 = some false := by kernel_rfl
@[simp] theorem zeroC_133 : zeroC Tryd.prog 133 = some [.v .any] := by kernel_rfl
@[simp] theorem sz_134 : sz Tryd.prog 134 = some 1 := by kernel_rfl
@[simp] theorem bytes_134 : bytes Tryd.prog 134 = some 8 := by kernel_rfl
@[simp] theorem szz_134 : szz Tryd.prog 134 = some 1 := by kernel_rfl
@[simp] theorem isAg_134 : isAg Tryd.prog 134 = some false := by kernel_rfl
@[simp] theorem zeroC_134 : zeroC Tryd.prog 134 = some [.v .any] := by kernel_rfl
@[simp] theorem sz_135 : sz Tryd.prog 135 = some 1 := by kernel_rfl
@[simp] theorem bytes_135 : bytes Tryd.prog 135 = some 16 := by kernel_rfl
@[simp] theorem szz_135 : szz Tryd.prog 135 = some 1 := by kernel_rfl
@[simp] theorem isAg_135 : isAg Tryd.prog 135 = some true := by kernel_rfl
@[simp] theorem zeroC_135 : zeroC Tryd.prog 135 = some [.v (.str [])] := by kernel_rfl
@[simp] theorem fieldsOk_135 : fieldsOk Tryd.prog 135 = true := by kernel_rfl
@[simp] theorem eqKinds_135 : eqKinds Tryd.prog 135 = some [2] := by kernel_rfl
@[simp] theorem fo_135_0 : fo Tryd.prog 135 0 = some 0 := by kernel_rfl
@[simp] theorem fld_135_0 : fld Tryd.prog 135 0 = some (9, 0) := by kernel_rfl
@[simp] theorem fsz_135_0 : fsz Tryd.prog 135 0 = some 1 := by kernel_rfl
@[simp] theorem sz_136 : sz Tryd.prog 136 = some 1 := by kernel_rfl
@[simp] theorem bytes_136 : bytes Tryd.prog 136 = some 16 := by kernel_rfl
@[simp] theorem szz_136 : szz Tryd.prog 136 = some 1 := by kernel_rfl
@[simp] theorem isAg_136 : isAg Tryd.prog 136 = some true := by kernel_rfl
@[simp] theorem zeroC_136 : zeroC Tryd.prog 136 = some [.v (.str [])] := by kernel_rfl
@[simp] theorem fieldsOk_136 : fieldsOk Tryd.prog 136 = true := by kernel_rfl
@[simp] theorem eqKinds_136 : eqKinds Tryd.prog 136 = some [2] := by kernel_rfl
@[simp] theorem fo_136_0 : fo Tryd.prog 136 0 = some 0 := by kernel_rfl
@[simp] theorem fld_136_0 : fld Tryd.prog 136 0 = some (9, 0) := by kernel_rfl
@[simp] theorem fsz_136_0 : fsz Tryd.prog 136 0 = some 1 := by kernel_rfl
@[simp] theorem sz_138 : sz Tryd.prog 138 = some 2 := by kernel_rfl
@[simp] theorem bytes_138 : bytes Tryd.prog 138 = some 2 := by kernel_rfl
@[simp] theorem szz_138 : szz Tryd.prog 138 = some 2 := by kernel_rfl
@[simp] theorem isAg_138 : isAg Tryd.prog 138 = some true := by kernel_rfl
@[simp] theorem zeroC_138 : zeroC Tryd.prog 138 = some [.v (.int .u8 0), .v (.int .u8 0)] := by kernel_rfl
@[simp] theorem fieldsOk_138 : fieldsOk Tryd.prog 138 = true := by kernel_rfl
@[simp] theorem eqKinds_138 : eqKinds Tryd.prog 138 = some [1, 1] := by kernel_rfl
@[simp] theorem fo_138_0 : fo Tryd.prog 138 0 = some 0 := by kernel_rfl
@[simp] theorem fld_138_0 : fld Tryd.prog 138 0 = some (5, 0) := by kernel_rfl
@[simp] theorem fsz_138_0 : fsz Tryd.prog 138 0 = some 1 := by kernel_rfl
@[simp] theorem fo_138_1 : fo Tryd.prog 138 1 = some 1 := by kernel_rfl
@[simp] theorem fld_138_1 : fld Tryd.prog 138 1 = some (5, 1) := by kernel_rfl
@[simp] theorem fsz_138_1 : fsz Tryd.prog 138 1 = some 1 := by kernel_rfl
@[simp] theorem sz_139 : sz Tryd.prog 139 = some 2 := by kernel_rfl
@[simp] theorem bytes_139 : bytes Tryd.prog 139 = some 2 := by kernel_rfl
@[simp] theorem szz_139 : szz Tryd.prog 139 = some 2 := by kernel_rfl
@[simp] theorem isAg_139 : isAg Tryd.prog 139 = some true := by kernel_rfl
@[simp] theorem zeroC_139 : zeroC Tryd.prog 139 = some [.v (.int .u8 0), .v (.int .u8 0)] := by kernel_rfl
@[simp] theorem fieldsOk_139 : fieldsOk Tryd.prog 139 = true := by kernel_rfl
@[simp] theorem eqKinds_139 : eqKinds Tryd.prog 139 = some [1, 1] := by kernel_rfl
@[simp] theorem fo_139_0 : fo Tryd.prog 139 0 = some 0 := by kernel_rfl
@[simp] theorem fld_139_0 : fld Tryd.prog 139 0 = some (5, 0) := by kernel_rfl
@[simp] theorem fsz_139_0 : fsz Tryd.prog 139 0 = some 1 := by kernel_rfl
@[simp] theorem fo_139_1 : fo Tryd.prog 139 1 = some 1 := by kernel_rfl
@[simp] theorem fld_139_1 : fld Tryd.prog 139 1 = some (5, 1) := by kernel_rfl
@[simp] theorem fsz_139_1 : fsz Tryd.prog 139 1 = some 1 := by kernel_rfl
@[simp] theorem sz_141 : sz Tryd.prog 141 = some 1 := by kernel_rfl
@[simp] theorem bytes_141 : bytes Tryd.prog 141 = some 8 := by kernel_rfl
@[simp] theorem szz_141 : szz Tryd.prog 141 = some 1 := by kernel_rfl
@[simp] theorem isAg_141 : isAg Tryd.prog 141 = some false := by kernel_rfl
@[simp] theorem zeroC_141 : zeroC Tryd.prog 141 = some [.v .any] := by kernel_rfl
@[simp] theorem sz_144 : sz Tryd.prog 144 = some 1 := by kernel_rfl
@[simp] theorem bytes_144 : bytes Tryd.prog 144 = some 8 := by kernel_rfl
@[simp] theorem szz_144 : szz Tryd.prog 144 = some 1 := by kernel_rfl
@[simp] theorem isAg_144 : isAg Tryd.prog 144 = some false := by kernel_rfl
@[simp] theorem zeroC_144 : zeroC Tryd.prog 144 = some [.v .any] := by kernel_rfl
@[simp] theorem sz_145 : sz Tryd.prog 145 = some 1 := by kernel_rfl
@[simp] theorem bytes_145 : bytes Tryd.prog 145 = some 8 := by kernel_rfl
@[simp] theorem szz_145 : szz Tryd.prog 145 = some 1 := by kernel_rfl
@[simp] theorem isAg_145 : isAg Tryd.prog 145 = some false := by kernel_rfl
@[simp] theorem zeroC_145 : zeroC Tryd.prog 145 = some [.v .any] := by kernel_rfl
@[simp] theorem sz_146 : sz Tryd.prog 146 = some 1 := by kernel_rfl
@[simp] theorem bytes_146 : bytes Tryd.prog 146 = some 8 := by kernel_rfl
@[simp] theorem szz_146 : szz Tryd.prog 146 = some 1 := by kernel_rfl
@[simp] theorem isAg_146 : isAg Tryd.prog 146 = some false := by kernel_rfl
@[simp] theorem zeroC_146 : zeroC Tryd.prog 146 = some [.v .any] := by kernel_rfl
@[simp] theorem sz_154 : sz Tryd.prog 154 = some 1 := by kernel_rfl
@[simp] theorem bytes_154 : bytes Tryd.prog 154 = some 8 := by kernel_rfl
@[simp] theorem szz_154 : szz Tryd.prog 154 = some 1 := by kernel_rfl
@[simp] theorem isAg_154 : isAg Tryd.prog 154 = some false := by kernel_rfl
@[simp] theorem zeroC_154 : zeroC Tryd.prog 154 = some [.v .any] := by kernel_rfl
@[simp] theorem sz_157 : sz Tryd.prog 157 = some 1 := by kernel_rfl
@[simp] theorem bytes_157 : bytes Tryd.prog 157 = some 8 := by kernel_rfl
@[simp] theorem szz_157 : szz Tryd.prog 157 = some 1 := by kernel_rfl
@[simp] theorem isAg_157 : isAg Tryd.prog 157 = some false := by kernel_rfl
@[simp] theorem zeroC_157 : zeroC Tryd.prog 157 = some [.v .any] := by kernel_rfl
end TL

set_option linter.unusedSimpArgs false
set_option linter.unusedVariables false
set_option maxRecDepth 100000
namespace TL
open Go Go.Proofs
theorem peopleOk_fn (p : Int) : FnZ Tryd.prog 60 [.int .i64 p] (.bool (decide (1 ≤ p) && decide (p ≤ 4))) := by
  refine FnZ_of (rs := [.tmp 2]) false Tryd.func60 rfl rfl rfl rfl (Nat.le_of_ble_eq_true rfl) ?_
  simp -dsimp
  refine iteP_intro (fun h => ?_) (fun h => ?_) <;> simp -dsimp [h]
theorem w64 {x : Int} (h1 : -9223372036854775808 ≤ x) (h2 : x ≤ 9223372036854775807) : IntKind.wrap .i64 x = x := by rw [IntKind.wrap_i64]; omega
def codeV (bs : List UInt8) : V := .sl (bs.map fun b => .int .u8 b.toNat)
theorem codeZ (bs : List UInt8) : allZ 1 (bs.map fun b => V.int .u8 b.toNat) := by
  intro x hx; obtain ⟨b, _, rfl⟩ := List.mem_map.1 hx; simp [V.cells, V.cell]
/-- What the reader says. -/
def rdNum (bs : List UInt8) (p : Nat) (k : Int) : Int :=
  if k < 1 ∨ bs.length = 0 then 0
  else if p < bs.length then ((bs.getD p 0).toNat : Int) % k
  else 0
theorem tmod_range (a k : Int) (h0 : 0 ≤ a) (hk : 1 ≤ k) : 0 ≤ a.tmod k ∧ (1 ≤ k → a.tmod k < k) := by
  rw [Int.tmod_eq_emod_of_nonneg h0]
  exact ⟨Int.emod_nonneg _ (by omega), fun _ => Int.emod_lt_of_pos _ (by omega)⟩
theorem tmod_nat (a b : Nat) (hb : 0 < b) : ∃ q : Nat, q < b ∧ (a : Int).tmod b = q := ⟨a % b, Nat.mod_lt _ hb, by rw [Int.tmod_eq_emod_of_nonneg (by omega)]; rfl⟩
theorem tdiv_nat (a b : Nat) : ∃ q : Nat, q ≤ a ∧ (a : Int).tdiv b = q := ⟨a / b, Nat.div_le_self _ _, by rw [Int.tdiv_eq_ediv_of_nonneg (by omega)]; rfl⟩
theorem xor64 (a b k : Int) (ha : 0 ≤ a) (ha' : a < 4611686018427387904) (hb : 0 ≤ b) (hb' : b < 4611686018427387904) (hk : 1 ≤ k) :
    0 ≤ (IntKind.wrap .i64 (((a % 2 ^ IntKind.i64.bits).toNat ^^^ (b % 2 ^ IntKind.i64.bits).toNat : Nat) : Int)).tmod k ∧ (1 ≤ k → (IntKind.wrap .i64 (((a % 2 ^ IntKind.i64.bits).toNat ^^^ (b % 2 ^ IntKind.i64.bits).toNat : Nat) : Int)).tmod k < k) := by
  obtain ⟨a, rfl⟩ := Int.eq_ofNat_of_zero_le ha
  obtain ⟨b, rfl⟩ := Int.eq_ofNat_of_zero_le hb
  have h1 : a < 2 ^ 62 := by omega
  have h2 : b < 2 ^ 62 := by omega
  have h3 := Nat.xor_lt_two_pow h1 h2
  have e1 : ((a : Int) % 2 ^ IntKind.i64.bits).toNat = a := by simp only [IntKind.bits]; omega
  have e2 : ((b : Int) % 2 ^ IntKind.i64.bits).toNat = b := by simp only [IntKind.bits]; omega
  rw [e1, e2, w64 (by omega) (by omega)]
  exact tmod_range _ _ (by omega) hk
theorem pick_facts (p c1 c2 q3 : Nat) (hp : p < 1000000000) (h1 : c1 < 256) (h2 : c2 < 256) (h3 : q3 ≤ p) :
    (IntKind.wrap .i64 ((p : Int) * 7) = p * 7) ∧
    (IntKind.wrap .i64 ((p : Int) * 7 + 3) = p * 7 + 3) ∧
    (IntKind.wrap .i64 (c1 : Int) = c1) ∧
    (IntKind.wrap .i64 ((c1 : Int) * 131) = c1 * 131) ∧
    (IntKind.wrap .i64 (c2 : Int) = c2) ∧
    (IntKind.wrap .i64 ((c2 : Int) * 1117) = c2 * 1117) ∧
    (IntKind.wrap .i64 ((c1 : Int) * 131 + c2 * 1117) = c1 * 131 + c2 * 1117) ∧
    (IntKind.wrap .i64 ((p : Int) * 29) = p * 29) ∧
    (IntKind.wrap .i64 ((c1 : Int) * 131 + c2 * 1117 + p * 29) = c1 * 131 + c2 * 1117 + p * 29) ∧
    (IntKind.wrap .i64 (q3 : Int) = q3) ∧
    (IntKind.wrap .i64 ((q3 : Int) * 53) = q3 * 53) ∧
    (IntKind.wrap .i64 ((c1 : Int) * 131 + c2 * 1117 + p * 29 + q3 * 53) = c1 * 131 + c2 * 1117 + p * 29 + q3 * 53) := by
  refine ⟨w64 ?_ ?_, w64 ?_ ?_, w64 ?_ ?_, w64 ?_ ?_, w64 ?_ ?_, w64 ?_ ?_, w64 ?_ ?_, w64 ?_ ?_, w64 ?_ ?_, w64 ?_ ?_, w64 ?_ ?_, w64 ?_ ?_⟩ <;> omega
end TL

/- Data of the program; the reader of codes. -/
set_option linter.unusedSimpArgs false
set_option linter.unusedVariables false
set_option maxRecDepth 100000
set_option maxHeartbeats 4000000
namespace TL
open Go Go.Proofs
structure Mark where
  kind : Int
  num : Int
  deriving DecidableEq
structure Claim where
  who : Int
  says : List Mark
  deriving DecidableEq
structure Place where
  people : Int
  story : List Claim
  deriving DecidableEq
/-- Numbers of the machine. -/
def fit (x : Int) : Prop := -9223372036854775808 ≤ x ∧ x < 9223372036854775808
def Mark.fit (m : Mark) : Prop := TL.fit m.kind ∧ TL.fit m.num
def fits (l : List Mark) : Prop := ∀ x ∈ l, x.fit
def Claim.fit (c : Claim) : Prop := TL.fit c.who ∧ fits c.says
def Place.fit (p : Place) : Prop := TL.fit p.people ∧ ∀ c ∈ p.story, c.fit
@[simp] theorem fits_nil : fits [] := by simp [fits]
@[simp] theorem fits_cons (x : Mark) (l : List Mark) : fits (x :: l) ↔ x.fit ∧ fits l := by simp [fits]
@[simp] theorem fits_append (a b : List Mark) : fits (a ++ b) ↔ fits a ∧ fits b := by simp [fits, or_imp, forall_and]
theorem fit_mk {k a : Int} (hk : 0 ≤ k) (hk' : k < 1000) (ha : 0 ≤ a) (ha' : a < 1000) : Mark.fit ⟨k, a⟩ := by
  refine ⟨⟨?_, ?_⟩, ⟨?_, ?_⟩⟩ <;> simp only <;> omega
def Mark.v (m : Mark) : V := .agg [.int .i64 m.kind, .int .i64 m.num]
@[simp] theorem mark_cells (m : Mark) : m.v.cells = [.int .i64 m.kind, .int .i64 m.num] := rfl
theorem drop_cons {α : Type} {l : List α} {i : Nat} (h : i < l.length) : l.drop i = l[i] :: l.drop (i + 1) := List.drop_eq_getElem_cons h
def marksV (l : List Mark) : V := .sl (l.map Mark.v)
def Claim.v (c : Claim) : V := .agg [.int .i64 c.who, marksV c.says]
def storyV (l : List Claim) : V := .sl (l.map Claim.v)
def Place.v (p : Place) : V := .agg [.int .i64 p.people, storyV p.story]
@[simp] theorem updM_idem (m : Mem) (d : Nat) (x y : Option Blk) : updM (updM m d x) d y = updM m d y := by
  funext t; simp only [updM_lit]; split <;> rfl
theorem updM_self {m : Mem} {d : Nat} {x : Option Blk} (h : m d = x) : updM m d x = m := by
  funext t; simp only [updM_lit]; split
  · rename_i e; rw [e, h]
  · rfl
def natOf : T → Nat
  | .v (.int _ k) => k.toNat
  | .sv _ _ n => n
  | _ => 0
@[simp] theorem natOf_int (k : IntKind) (x : Int) : natOf (.v (.int k x)) = x.toNat := rfl
@[simp] theorem natOf_sv (i c n : Nat) : natOf (.sv i c n) = n := rfl
/-- What lies from n on. -/
def upper (n : Nat) (m : Mem) : Mem := fun j => if n ≤ j then m j else none
@[simp] theorem upper_def (n j : Nat) (m : Mem) : upper n m j = if n ≤ j then m j else none := rfl
/-- A row in the frame's memory, or none yet. -/
def IsRow (m : Mem) (lo hi : Nat) (e : Nat) (st : T) (xs : List V) : Prop := (st = .nil ∧ xs = []) ∨ ∃ i, st = .loc i ∧ lo ≤ i ∧ i < hi ∧ m i = some (.arr e xs)
theorem IsRow.cell {m : Mem} {lo hi e : Nat} {st : T} {xs : List V} (h : IsRow m lo hi e st xs) : st.cell = true := by
  rcases h with ⟨rfl, _⟩ | ⟨i, rfl, _⟩ <;> rfl
theorem IsRow.bor {m m' : Mem} {lo hi e n0 : Nat} {st : T} {xs : List V} (h : IsRow m lo hi e st xs) (hn : n0 ≤ lo) (hm : ∀ i, st = .loc i → lo ≤ i → i < hi → m' i = m i) (d : Nat) : bor true (upper n0 m') d st = some (.sl xs) := by
  rcases h with ⟨rfl, rfl⟩ | ⟨i, rfl, h1, h2, h3⟩
  · simp
  · have : n0 ≤ i := by omega
    simp [hm i rfl h1 h2, h3, this]
theorem nes (n : Nat) : (¬ n = n + 1) ∧ (¬ n = n + 1 + 1) ∧ (¬ n = n + 1 + 1 + 1) ∧ (¬ n = n + 1 + 1 + 1 + 1) ∧ (¬ n = n + 1 + 1 + 1 + 1 + 1) ∧ (¬ n = n + 1 + 1 + 1 + 1 + 1 + 1) ∧ (¬ n = n + 1 + 1 + 1 + 1 + 1 + 1 + 1) ∧ (¬ n + 1 = n) ∧ (¬ n + 1 = n + 1 + 1) ∧ (¬ n + 1 = n + 1 + 1 + 1) ∧ (¬ n + 1 = n + 1 + 1 + 1 + 1) ∧ (¬ n + 1 = n + 1 + 1 + 1 + 1 + 1) ∧ (¬ n + 1 = n + 1 + 1 + 1 + 1 + 1 + 1) ∧ (¬ n + 1 = n + 1 + 1 + 1 + 1 + 1 + 1 + 1) ∧ (¬ n + 1 + 1 = n) ∧ (¬ n + 1 + 1 = n + 1) ∧ (¬ n + 1 + 1 = n + 1 + 1 + 1) ∧ (¬ n + 1 + 1 = n + 1 + 1 + 1 + 1) ∧ (¬ n + 1 + 1 = n + 1 + 1 + 1 + 1 + 1) ∧ (¬ n + 1 + 1 = n + 1 + 1 + 1 + 1 + 1 + 1) ∧ (¬ n + 1 + 1 = n + 1 + 1 + 1 + 1 + 1 + 1 + 1) ∧ (¬ n + 1 + 1 + 1 = n) ∧ (¬ n + 1 + 1 + 1 = n + 1) ∧ (¬ n + 1 + 1 + 1 = n + 1 + 1) ∧ (¬ n + 1 + 1 + 1 = n + 1 + 1 + 1 + 1) ∧ (¬ n + 1 + 1 + 1 = n + 1 + 1 + 1 + 1 + 1) ∧ (¬ n + 1 + 1 + 1 = n + 1 + 1 + 1 + 1 + 1 + 1) ∧ (¬ n + 1 + 1 + 1 = n + 1 + 1 + 1 + 1 + 1 + 1 + 1) ∧ (¬ n + 1 + 1 + 1 + 1 = n) ∧ (¬ n + 1 + 1 + 1 + 1 = n + 1) ∧ (¬ n + 1 + 1 + 1 + 1 = n + 1 + 1) ∧ (¬ n + 1 + 1 + 1 + 1 = n + 1 + 1 + 1) ∧ (¬ n + 1 + 1 + 1 + 1 = n + 1 + 1 + 1 + 1 + 1) ∧ (¬ n + 1 + 1 + 1 + 1 = n + 1 + 1 + 1 + 1 + 1 + 1) ∧ (¬ n + 1 + 1 + 1 + 1 = n + 1 + 1 + 1 + 1 + 1 + 1 + 1) ∧ (¬ n + 1 + 1 + 1 + 1 + 1 = n) ∧ (¬ n + 1 + 1 + 1 + 1 + 1 = n + 1) ∧ (¬ n + 1 + 1 + 1 + 1 + 1 = n + 1 + 1) ∧ (¬ n + 1 + 1 + 1 + 1 + 1 = n + 1 + 1 + 1) ∧ (¬ n + 1 + 1 + 1 + 1 + 1 = n + 1 + 1 + 1 + 1) ∧ (¬ n + 1 + 1 + 1 + 1 + 1 = n + 1 + 1 + 1 + 1 + 1 + 1) ∧ (¬ n + 1 + 1 + 1 + 1 + 1 = n + 1 + 1 + 1 + 1 + 1 + 1 + 1) ∧ (¬ n + 1 + 1 + 1 + 1 + 1 + 1 = n) ∧ (¬ n + 1 + 1 + 1 + 1 + 1 + 1 = n + 1) ∧ (¬ n + 1 + 1 + 1 + 1 + 1 + 1 = n + 1 + 1) ∧ (¬ n + 1 + 1 + 1 + 1 + 1 + 1 = n + 1 + 1 + 1) ∧ (¬ n + 1 + 1 + 1 + 1 + 1 + 1 = n + 1 + 1 + 1 + 1) ∧ (¬ n + 1 + 1 + 1 + 1 + 1 + 1 = n + 1 + 1 + 1 + 1 + 1) ∧ (¬ n + 1 + 1 + 1 + 1 + 1 + 1 = n + 1 + 1 + 1 + 1 + 1 + 1 + 1) ∧ (¬ n + 1 + 1 + 1 + 1 + 1 + 1 + 1 = n) ∧ (¬ n + 1 + 1 + 1 + 1 + 1 + 1 + 1 = n + 1) ∧ (¬ n + 1 + 1 + 1 + 1 + 1 + 1 + 1 = n + 1 + 1) ∧ (¬ n + 1 + 1 + 1 + 1 + 1 + 1 + 1 = n + 1 + 1 + 1) ∧ (¬ n + 1 + 1 + 1 + 1 + 1 + 1 + 1 = n + 1 + 1 + 1 + 1) ∧ (¬ n + 1 + 1 + 1 + 1 + 1 + 1 + 1 = n + 1 + 1 + 1 + 1 + 1) ∧ (¬ n + 1 + 1 + 1 + 1 + 1 + 1 + 1 = n + 1 + 1 + 1 + 1 + 1 + 1) := by
  refine ⟨?_, ?_, ?_, ?_, ?_, ?_, ?_, ?_, ?_, ?_, ?_, ?_, ?_, ?_, ?_, ?_, ?_, ?_, ?_, ?_, ?_, ?_, ?_, ?_, ?_, ?_, ?_, ?_, ?_, ?_, ?_, ?_, ?_, ?_, ?_, ?_, ?_, ?_, ?_, ?_, ?_, ?_, ?_, ?_, ?_, ?_, ?_, ?_, ?_, ?_, ?_, ?_, ?_, ?_, ?_, ?_⟩ <;> omega
theorem ft (b : Bool) : b = false ∨ b = true := by cases b <;> simp
theorem far {a n : Nat} (lt : a < n) : (¬ a = n) ∧ (¬ n = a) ∧ (∀ x0, ¬ a = n + x0) ∧ (∀ x0, ¬ n + x0 = a) ∧ (∀ x0 x1, ¬ a = n + x0 + x1) ∧ (∀ x0 x1, ¬ n + x0 + x1 = a) ∧ (∀ x0 x1 x2, ¬ a = n + x0 + x1 + x2) ∧ (∀ x0 x1 x2, ¬ n + x0 + x1 + x2 = a) ∧ (∀ x0 x1 x2 x3, ¬ a = n + x0 + x1 + x2 + x3) ∧ (∀ x0 x1 x2 x3, ¬ n + x0 + x1 + x2 + x3 = a) ∧ (∀ x0 x1 x2 x3 x4, ¬ a = n + x0 + x1 + x2 + x3 + x4) ∧ (∀ x0 x1 x2 x3 x4, ¬ n + x0 + x1 + x2 + x3 + x4 = a) ∧ (∀ x0 x1 x2 x3 x4 x5, ¬ a = n + x0 + x1 + x2 + x3 + x4 + x5) ∧ (∀ x0 x1 x2 x3 x4 x5, ¬ n + x0 + x1 + x2 + x3 + x4 + x5 = a) ∧ (∀ x0 x1 x2 x3 x4 x5 x6, ¬ a = n + x0 + x1 + x2 + x3 + x4 + x5 + x6) ∧ (∀ x0 x1 x2 x3 x4 x5 x6, ¬ n + x0 + x1 + x2 + x3 + x4 + x5 + x6 = a) ∧ (∀ x0 x1 x2 x3 x4 x5 x6 x7, ¬ a = n + x0 + x1 + x2 + x3 + x4 + x5 + x6 + x7) ∧ (∀ x0 x1 x2 x3 x4 x5 x6 x7, ¬ n + x0 + x1 + x2 + x3 + x4 + x5 + x6 + x7 = a) ∧ (∀ x0 x1 x2 x3 x4 x5 x6 x7 x8, ¬ a = n + x0 + x1 + x2 + x3 + x4 + x5 + x6 + x7 + x8) ∧ (∀ x0 x1 x2 x3 x4 x5 x6 x7 x8, ¬ n + x0 + x1 + x2 + x3 + x4 + x5 + x6 + x7 + x8 = a) ∧ (∀ x0 x1 x2 x3 x4 x5 x6 x7 x8 x9, ¬ a = n + x0 + x1 + x2 + x3 + x4 + x5 + x6 + x7 + x8 + x9) ∧ (∀ x0 x1 x2 x3 x4 x5 x6 x7 x8 x9, ¬ n + x0 + x1 + x2 + x3 + x4 + x5 + x6 + x7 + x8 + x9 = a) :=
  ⟨by omega, by omega, fun _ => by omega, fun _ => by omega, fun _ _ => by omega, fun _ _ => by omega, fun _ _ _ => by omega, fun _ _ _ => by omega, fun _ _ _ _ => by omega, fun _ _ _ _ => by omega, fun _ _ _ _ _ => by omega, fun _ _ _ _ _ => by omega, fun _ _ _ _ _ _ => by omega, fun _ _ _ _ _ _ => by omega, fun _ _ _ _ _ _ _ => by omega, fun _ _ _ _ _ _ _ => by omega, fun _ _ _ _ _ _ _ _ => by omega, fun _ _ _ _ _ _ _ _ => by omega, fun _ _ _ _ _ _ _ _ _ => by omega, fun _ _ _ _ _ _ _ _ _ => by omega, fun _ _ _ _ _ _ _ _ _ _ => by omega, fun _ _ _ _ _ _ _ _ _ _ => by omega⟩
end TL

/- Terms, claims, stories, places: what is one. -/
set_option linter.unusedSimpArgs false
set_option linter.unusedVariables false
set_option maxRecDepth 100000
set_option maxHeartbeats 4000000
set_option pp.maxSteps 1500
namespace TL
open Go Go.Proofs
attribute [local simp] marksV storyV codeV Claim.v Place.v
def peopleOk (p : Int) : Bool := decide (1 ≤ p) && decide (p ≤ 4)
def markStep (people : Int) (parts : Nat) (m : Mark) : Option Nat :=
  if m.kind = 0 then (if 0 ≤ m.num ∧ m.num < people then some (parts + 1) else none)
  else if m.kind = 1 then (if 0 ≤ m.num ∧ m.num ≤ people + 1 then some (parts + 1) else none)
  else if m.kind = 2 then (if m.num = 0 ∧ 1 ≤ parts then some parts else none)
  else if m.kind = 3 ∨ m.kind = 4 ∨ m.kind = 5 then (if m.num = 0 ∧ 2 ≤ parts then some (parts - 1) else none)
  else none
def marksRun (people : Int) : Nat → List Mark → Option Nat
  | parts, [] => some parts
  | parts, m :: ms => (markStep people parts m).bind fun q => marksRun people q ms
def termOk (people : Int) (t : List Mark) : Bool := peopleOk people && decide (1 ≤ t.length) && decide (t.length ≤ 15) && decide (marksRun people 0 t = some 1)
theorem markStep_le {people : Int} {parts q : Nat} {m : Mark} (h : markStep people parts m = some q) : q ≤ parts + 1 := by
  unfold markStep at h
  repeat' split at h
  all_goals first | (cases h; done) | (cases h; omega)
def TOI (people : Int) (t : List Mark) (a : Nat) (s : S) : Prop := ∃ (i parts : Nat), s.tm 0 = .v (.int .i64 people) ∧ s.tm 21 = .v (.sl (t.map Mark.v)) ∧ s.tm 22 = .v (.int .i64 t.length) ∧ s.tm 23 = .v (.int .i64 i) ∧ s.tm 5 = .v (.int .i64 parts) ∧ i ≤ t.length ∧ parts ≤ i ∧
  marksRun people parts (t.drop i) = marksRun people 0 t ∧ (a = 1 → i = t.length)
theorem termOk_fn (people : Int) (t : List Mark) : FnZ Tryd.prog 90 [.int .i64 people, marksV t] (.bool (termOk people t)) := by
  by_cases hp : 1 ≤ people ∧ people ≤ 4
  case neg =>
    have hk : peopleOk people = false := by simp only [peopleOk, Bool.and_eq_false_iff, decide_eq_false_iff_not]; omega
    have hr : termOk people t = false := by simp [termOk, hk]
    rw [hr]
    refine FnZ_of (rs := [.tmp 4]) false Tryd.func90 rfl rfl rfl rfl (Nat.le_of_ble_eq_true rfl) ?_
    simp -dsimp
    refine call_ (peopleOk_fn people) (by simp) ?_
    rw [show (decide (1 ≤ people) && decide (people ≤ 4)) = false from hk]
    simp -dsimp
  have hk : peopleOk people = true := by simp [peopleOk, hp]
  by_cases hl : 1 ≤ t.length ∧ t.length ≤ 15
  case neg =>
    have hr : termOk people t = false := by
      simp only [termOk, hk, Bool.true_and, Bool.and_eq_false_iff, decide_eq_false_iff_not]; omega
    rw [hr]
    refine FnZ_of (rs := [.tmp 4]) false Tryd.func90 rfl rfl rfl rfl (Nat.le_of_ble_eq_true rfl) ?_
    simp -dsimp
    refine call_ (peopleOk_fn people) (by simp) ?_
    rw [show (decide (1 ≤ people) && decide (people ≤ 4)) = true from hk]
    by_cases h0 : (t.length : Int) < 1
    · simp -dsimp [h0]
    · have h1 : (15 : Int) < t.length := by omega
      simp -dsimp [h0, h1]
  have h0 : ¬ (t.length : Int) < 1 := by omega
  have h1 : ¬ (15 : Int) < t.length := by omega
  have h1' : (t.length : Int) ≤ 15 := by omega
  have hr : termOk people t = decide (marksRun people 0 t = some 1) := by simp [termOk, hk, hl]
  rw [hr]
  refine FnZ_of (rs := [.tmp 4]) false Tryd.func90 rfl rfl rfl rfl (Nat.le_of_ble_eq_true rfl) ?_
  simp -dsimp
  refine call_ (peopleOk_fn people) (by simp) ?_
  rw [show (decide (1 ≤ people) && decide (people ≤ 4)) = true from hk]
  simp -dsimp [h0, h1, h1']
  refine twp_loopC (TOI people t 0) (fun s => t.length - natOf (s.tm 23)) (TOI people t 1) ?_ ?_ ?_
  · exact ⟨0, 0, by simp -dsimp, by simp -dsimp, by simp -dsimp, by simp -dsimp, by simp -dsimp, by simp, by simp, by simp, by simp⟩
  · rintro s ⟨i, parts, h0, h21, h22, h23, h5, hi, hpi, hrun, hend⟩
    by_cases hlt : i < t.length
    case neg =>
      simp -dsimp [h23, h22, hlt]
      exact ⟨i, parts, by simp [h0], by simp [h21], by simp [h22], by simp [h23], by simp [h5], hi, hpi, hrun, fun _ => by omega⟩
    have hget : (t.map Mark.v)[i]? = some (.agg [.int .i64 t[i].kind, .int .i64 t[i].num]) := by simp [Mark.v, hlt]
    have hstep := hrun
    rw [drop_cons hlt] at hstep
    simp only [marksRun] at hstep
    have wi : IntKind.wrap .i64 ((i : Int) + 1) = ((i + 1 : Nat) : Int) := by rw [w64 (by omega) (by omega)]; omega
    have wp : IntKind.wrap .i64 ((parts : Int) + 1) = ((parts + 1 : Nat) : Int) := by rw [w64 (by omega) (by omega)]; omega
    have wq : IntKind.wrap .i64 ((parts : Int) - 1) = if 1 ≤ parts then ((parts - 1 : Nat) : Int) else -1 := by rw [w64 (by omega) (by omega)]; split <;> omega
    have hmu : t.length - (i + 1) < t.length - i := by omega
    by_cases k0 : t[i].kind = 0
    · by_cases a0 : 0 ≤ t[i].num ∧ t[i].num < people
      · have hs : markStep people parts t[i] = some (parts + 1) := by simp [markStep, k0, a0]
        rw [hs] at hstep
        simp -dsimp [h0, h5, h23, h22, h21, hlt, hget, wi, wp, wq, k0, show ¬ t[i].num < 0 by omega, show ¬ people ≤ t[i].num by omega, hmu]
        exact ⟨i + 1, parts + 1, by simp -dsimp [h0], by simp -dsimp [h21], by simp -dsimp [h22], by simp -dsimp, by simp -dsimp [h5], by omega, by omega, hstep, by simp⟩
      · have hs : markStep people parts t[i] = none := by simp only [markStep, k0, if_neg a0, if_true]
        rw [hs] at hstep
        have hn : marksRun people 0 t = none := hstep.symm
        by_cases a1 : t[i].num < 0
        · simp -dsimp [h0, h5, h23, h22, h21, hlt, hget, wi, wp, wq, k0, a1, hn]
        · simp -dsimp [h0, h5, h23, h22, h21, hlt, hget, wi, wp, wq, k0, a1, hn, show people ≤ t[i].num by omega]
    by_cases k1 : t[i].kind = 1
    · have w1 : IntKind.wrap .i64 (people + 1) = people + 1 := w64 (by omega) (by omega)
      by_cases a0 : 0 ≤ t[i].num ∧ t[i].num ≤ people + 1
      · have hs : markStep people parts t[i] = some (parts + 1) := by simp [markStep, k1, a0]
        rw [hs] at hstep
        simp -dsimp [h0, h5, h23, h22, h21, hlt, hget, wi, wp, wq, k1, w1, show ¬ t[i].num < 0 by omega, show ¬ people + 1 < t[i].num by omega, hmu]
        exact ⟨i + 1, parts + 1, by simp -dsimp [h0], by simp -dsimp [h21], by simp -dsimp [h22], by simp -dsimp, by simp -dsimp [h5], by omega, by omega, hstep, by simp⟩
      · have hs : markStep people parts t[i] = none := by simp only [markStep, k1, if_neg a0, if_true]; simp
        rw [hs] at hstep
        have hn : marksRun people 0 t = none := hstep.symm
        by_cases a1 : t[i].num < 0
        · simp -dsimp [h0, h5, h23, h22, h21, hlt, hget, wi, wp, wq, k1, a1, hn]
        · simp -dsimp [h0, h5, h23, h22, h21, hlt, hget, wi, wp, wq, k1, a1, hn, w1, show people + 1 < t[i].num by omega]
    by_cases k2 : t[i].kind = 2
    · by_cases a0 : t[i].num = 0 ∧ 1 ≤ parts
      · have hs : markStep people parts t[i] = some (parts) := by simp [markStep, k2, a0]
        rw [hs] at hstep
        simp -dsimp [h0, h5, h23, h22, h21, hlt, hget, wi, wp, wq, k2, a0.1, show ¬ (parts : Int) < 1 by omega, show ¬ parts = 0 by omega, hmu]
        exact ⟨i + 1, parts, by simp -dsimp [h0], by simp -dsimp [h21], by simp -dsimp [h22], by simp -dsimp, by simp -dsimp [h5], by omega, by omega, hstep, by simp⟩
      · have hs : markStep people parts t[i] = none := by simp only [markStep, k2, if_neg a0, if_true]; simp
        rw [hs] at hstep
        have hn : marksRun people 0 t = none := hstep.symm
        by_cases a1 : t[i].num = 0
        · simp -dsimp [h0, h5, h23, h22, h21, hlt, hget, wi, wp, wq, k2, a1, hn, show (parts : Int) < 1 by omega, show parts = 0 by omega]
        · simp -dsimp [h0, h5, h23, h22, h21, hlt, hget, wi, wp, wq, k2, a1, hn]
    by_cases k3 : t[i].kind = 3 ∨ t[i].kind = 4 ∨ t[i].kind = 5
    · by_cases a0 : t[i].num = 0 ∧ 2 ≤ parts
      · have hs : markStep people parts t[i] = some (parts - 1) := by simp [markStep, k0, k1, k2, k3, a0]
        rw [hs] at hstep
        have e1 : ¬ (parts : Int) < 2 := by omega
        have e2 : 1 ≤ parts := by omega
        rcases k3 with k3 | k3 | k3
        all_goals
          simp -dsimp [h0, h5, h23, h22, h21, hlt, hget, wi, wp, wq, k3, a0.1, e1, e2, hmu]
          exact ⟨i + 1, parts - 1, by simp -dsimp [h0], by simp -dsimp [h21], by simp -dsimp [h22], by simp -dsimp, by simp -dsimp [h5], by omega, by omega, hstep, by simp⟩
      · have hs : markStep people parts t[i] = none := by simp only [markStep, if_neg k0, if_neg k1, if_neg k2, if_pos k3, if_neg a0]
        rw [hs] at hstep
        have hn : marksRun people 0 t = none := hstep.symm
        by_cases a1 : t[i].num = 0
        · have e1 : (parts : Int) < 2 := by omega
          rcases k3 with k3 | k3 | k3 <;> simp -dsimp [h0, h5, h23, h22, h21, hlt, hget, wi, wp, wq, k3, a1, hn, e1]
        · rcases k3 with k3 | k3 | k3 <;> simp -dsimp [h0, h5, h23, h22, h21, hlt, hget, wi, wp, wq, k3, a1, hn]
    · have hs : markStep people parts t[i] = none := by simp only [markStep, if_neg k0, if_neg k1, if_neg k2, if_neg k3]
      rw [hs] at hstep
      have hn : marksRun people 0 t = none := hstep.symm
      have k3' := not_or.1 k3
      have k4' := not_or.1 k3'.2
      simp -dsimp [h0, h5, h23, h22, h21, hlt, hget, wi, wp, wq, k0, k1, k2, k3'.1, k4'.1, k4'.2, hn]
  · rintro s ⟨i, parts, h0, h21, h22, h23, h5, hi, hpi, hrun, hend⟩
    simp -dsimp [h5]
    have := hend rfl
    subst this
    simp [marksRun] at hrun
    rw [← hrun]; simp; omega
end TL
