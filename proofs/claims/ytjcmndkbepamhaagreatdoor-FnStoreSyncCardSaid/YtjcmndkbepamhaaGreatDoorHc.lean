/- TL: parts TlFn, TlFrz, TlRun, TlCut, TlFacts, Fns1. -/
import Derived.Test.YtjcmndkbepamhaaGreatDoorHb
import Derived.Test.YtjcmndkbepamhaaGreatDoorChecked
/- TL, part 18: from the code to the contract. -/
set_option linter.unusedVariables false
set_option linter.unusedSimpArgs false
namespace TL
open Go Go.RowKit

section
variable {P : Program}

def resOf (tmps : Array Value) : ResultVar → Sem Value
  | .tmp t => pure (tmps.getD t undef)
  | .cell a t => do loadVar t (← asAddr (tmps.getD a undef))

def resV : List Value → Value
  | [u] => u
  | us => .tuple us.toArray
theorem loadAt_asAddr {t : Nat} {u v : Value} {w : World} (h : (Instr.loadAt t u).run P w = .ok v w) : (do loadVar t (← asAddr u)).run P w = .ok v w := by
  unfold Instr.loadAt Instr.sureAddr at h
  unfold asAddr
  cases u with
  | pointer p =>
    cases p with
    | none => simp at h
    | some ad => simpa using h
  | _ => simp at h
theorem outs_sound {φ : Phi} {Z Zb : Zs} {w : World} {s : S} {tmps : Array Value} (hm : RelM P φ Z s.m s.n w) (htm : ∀ t, RepT φ Z w (s.tm t) (tmps.getD t undef)) (hs : SubZ Z Zb) (ho : ∀ g, Owned φ s.m g → ∀ o, Zb g o) :
    ∀ (rs : List ResultVar) (vs : List V), outs P s rs = some vs → ∃ us, (rs.mapM (resOf tmps)).run P w = .ok us w ∧ RepVs Zb w vs us
  | [], vs, h => by cases h; exact ⟨[], by simp, .nil⟩
  | .tmp t :: rs, vs, h => by
    simp only [outs] at h
    obtain ⟨x, hx, h⟩ := obind_eq h
    obtain ⟨xs, hxs, h⟩ := obind_eq h
    cases h
    obtain ⟨us, h1, h2⟩ := outs_sound hm htm hs ho rs xs hxs
    exact ⟨_ :: us, by simp [List.mapM_cons, resOf, h1], .cons (bor_sound hm (k := true) hs (fun _ => ho) 4 _ _ _ (htm t) hx) h2⟩
  | .cell a t :: rs, vs, h => by
    simp only [outs] at h
    obtain ⟨y, hy, h⟩ := obind_eq h
    obtain ⟨x, hx, h⟩ := obind_eq h
    obtain ⟨xs, hxs, h⟩ := obind_eq h
    cases h
    obtain ⟨us, h1, h2⟩ := outs_sound hm htm hs ho rs xs hxs
    obtain ⟨v, h3, h4⟩ := evLoad_sound hm (htm a) hy
    have h5 : (resOf tmps (.cell a t)).run P w = .ok v w := loadAt_asAddr h3
    exact ⟨v :: us, by simp [List.mapM_cons, h5, h1], .cons (bor_sound hm (k := true) hs (fun _ => ho) 4 _ _ _ h4 hx) h2⟩

theorem results_outs {fn : Func} {tmps : Array Value} {w : World} {us : List Value} (h : (fn.results.toList.mapM (resOf tmps)).run P w = .ok us w) : (results fn tmps).run P w = .ok (resV us) w := by
  have e : fn.results.mapM (resOf tmps) = List.toArray <$> fn.results.toList.mapM (resOf tmps) := by
    rw [← List.mapM_toArray]
  have e2 : (fn.results.mapM (resOf tmps)).run P w = .ok us.toArray w := by rw [e]; simp [h]
  have e3 : results fn tmps = (do let vs ← fn.results.mapM (resOf tmps); pure (if h : vs.size = 1 then vs[0] else .tuple vs)) := by
    unfold results
    congr 1
  rw [e3, Sem.run_bind, e2]
  rcases us with _ | ⟨u, _ | ⟨v, us⟩⟩ <;> simp [resV]

theorem rep_outV {Z : Zs} {w : World} {vs : List V} {us : List Value} (h : RepVs Z w vs us) : RepV Z w (outV vs) (resV us) := by
  cases h with
  | nil => exact .tup .nil
  | cons h t =>
    cases t with
    | nil => exact h
    | cons g t => exact .tup (.cons h (.cons g t))

/-- The start of a call. -/
def start (mu : Bool) (args : List V) : S := ⟨fun t => (args.map T.v).getD t (.v .any), fun _ => none, 0, mu⟩

theorem start_rel {mu : Bool} {args : List V} {vs : List Value} {Z : Zs} {w : World} {N : Nat} (hz : ZOk P Z w) (h : RepVs Z w args vs) (hN : args.length ≤ N) :
    RelF P N φ0 m0 Z w (start mu args) { tmps := vs.toArray ++ Array.replicate (N - vs.toArray.size) undef, defers := [] } w := by
  have hl := h.length
  refine ⟨φ0, Z, ⟨fun i u h => (by simp at h), fun _ _ => rfl, fun i b h => (by simp [start] at h), fun i j a b u v k h => (by simp [start] at h), hz⟩, fun t => ?_, ?_, rfl, Step.refl _ _ _ _⟩
  · have hT := h.toTs (φ := φ0)
    simp only [start]
    rw [Array.getD_eq_getD_getElem?, List.getD_eq_getElem?_getD]
    by_cases ht : t < vs.length
    · obtain ⟨u, hu, hr⟩ := hT.get t ((args.map T.v)[t]'(by simp; omega)) (List.getElem?_eq_getElem _)
      rw [List.getElem?_eq_getElem (by simp; omega), Array.getElem?_append_left (by simpa using ht), List.getElem?_toArray, hu]
      exact hr
    · rw [List.getElem?_eq_none (by simp; omega), Array.getElem?_append_right (by simp; omega)]
      refine .v ?_
      exact .any _
  · simp; omega

theorem FnZ_of {f : Nat} {fn : Func} {c : Code} {rs : List ResultVar} {args : List V} {r : V} (mu : Bool) (hf : P.funcs[f]? = some fn) (hb : fn.body = some c) (hr : fn.results.toList = rs) (hn : (fn.name == "runtime.NumGoroutine") = false)
    (hd : dstsOk fn.ntmps c = true) (ha : args.length ≤ fn.ntmps) (h : twp P c (fun e s => retP P rs (fun v => v = r) e s) (start mu args)) : FnZ P f args r := by
  refine ⟨⟨fn, hf, hn, by rw [hb]; rfl⟩, fun Z w vs hz hv => ?_⟩
  refine calls_of_wp hf hb (wp_mono (twp_sound c hd _ _ _ _ (start_rel (N := fn.ntmps) (mu := mu) hz hv ha) h) ?_)
  have fin : ∀ s a w', RelF P fn.ntmps φ0 m0 Z w s a w' → bindP (outs P s rs) (fun vs => outV vs = r) → a.defers = [] ∧ ∃ v, (results fn a.tmps).run P w' = .ok v w' ∧
      ∃ v', Ending.returned v = .returned v' ∧ Below w.heap.size w w' ∧ RepV (freshZ Z w.heap.size w'.heap.size) w' r v' := by
    rintro s a w' ⟨φ, Z', hm, htm, hsz, hdf, hst⟩ ⟨xs, hxs, rfl⟩
    have no : ∀ k, ¬ Owned φ0 m0 k := fun k ⟨i, b, v, h1, _⟩ => by cases h1
    have hsub : SubZ Z' (freshZ Z w.heap.size w'.heap.size) := fun k o hz' => by
      rcases hst.znew k o hz' with h1 | h1 | h1
      · exact .inl h1
      · exact .inr ⟨h1, hm.zlt.lt k o hz'⟩
      · exact absurd h1 (no k)
    have hown : ∀ g, Owned φ s.m g → ∀ o, freshZ Z w.heap.size w'.heap.size g o := fun g hg o => by
      refine .inr ⟨?_, hm.owned_lt hg⟩
      rcases Nat.lt_or_ge g w.heap.size with h1 | h1
      · exact absurd (hst.own g h1 hg) (no g)
      · exact h1
    obtain ⟨us, h1, h2⟩ := outs_sound hm htm hsub hown rs xs hxs
    rw [← hr] at h1
    exact ⟨hdf, _, results_outs h1, _, rfl, ⟨hst.os, hst.tape, hst.output, hst.size, fun k hk => hst.out k hk (no k)⟩, rep_outV h2⟩
  intro e a w' hq
  cases e with
  | normal => obtain ⟨s, h1, h2⟩ := hq; exact fin s a w' h1 h2
  | ret => obtain ⟨s, h1, h2⟩ := hq; exact fin s a w' h1 h2
  | exit i => obtain ⟨s, h1, h2⟩ := hq; exact h2.elim
  | _ => exact hq.elim

@[simp] theorem retP_normal {rs : List ResultVar} {R : V → Prop} {s : S} : retP P rs R .normal s = bindP (outs P s rs) fun vs => R (outV vs) := nrfl
@[simp] theorem retP_ret {rs : List ResultVar} {R : V → Prop} {s : S} : retP P rs R .ret s = bindP (outs P s rs) fun vs => R (outV vs) := nrfl
@[simp] theorem retP_exit {rs : List ResultVar} {R : V → Prop} {s : S} {i : Nat} : retP P rs R (.exit i) s = False := nrfl
@[simp] theorem outs_nil {s : S} : outs P s [] = some [] := rfl
@[simp] theorem outs_tmp {s : S} {t : Nat} {rs : List ResultVar} : outs P s (.tmp t :: rs) = obind (bor true s.m 4 (s.tm t)) fun x => obind (outs P s rs) fun xs => some (x :: xs) := rfl
@[simp] theorem outs_cell {s : S} {a t : Nat} {rs : List ResultVar} : outs P s (.cell a t :: rs) = obind (evLoad P t s.m (s.tm a)) fun y => obind (bor true s.m 4 y) fun x => obind (outs P s rs) fun xs => some (x :: xs) := rfl
@[simp] theorem outV_one {x : V} : outV [x] = x := rfl
@[simp] theorem outV_none : outV [] = .tup [] := rfl
@[simp] theorem outV_two {x y : V} {xs : List V} : outV (x :: y :: xs) = .tup (x :: y :: xs) := rfl
@[simp] theorem start_tm {mu : Bool} {args : List V} {t : Nat} : (start mu args).tm t = (args.map T.v).getD t (.v .any) := rfl
@[simp] theorem start_m {mu : Bool} {args : List V} : (start mu args).m = fun _ => none := rfl
@[simp] theorem start_n {mu : Bool} {args : List V} : (start mu args).n = 0 := rfl
@[simp] theorem start_mu {mu : Bool} {args : List V} : (start mu args).mu = mu := rfl

/-- Calls. -/
theorem call_ {f : Nat} {m : Mem} {n : Nat} {args : List T} {k : T → Mem → Nat → Prop} {vs : List V} {r : V} (h : FnZ P f vs r) (ha : mapO (bor false m 4) args = some vs) (hk : k (.v r) m n) : callP P f m n args k := .inl ⟨vs, r, h, .inl ha, hk⟩
theorem callM_ {f : Nat} {m : Mem} {n : Nat} {args : List T} {k : T → Mem → Nat → Prop} {vs : List V} {r : V} (h : FnZ P f vs r) (ha : mapO (bor true m 4) args = some vs) (hp : r.flat = true) (hk : k (.v r) m n) : callP P f m n args k := .inl ⟨vs, r, h, .inr ⟨ha, hp⟩, hk⟩
theorem callS_ {f : Nat} {m : Mem} {n : Nat} {args : List T} {k : T → Mem → Nat → Prop} {post : T → Mem → Nat → Prop} (h : FnS P f m n args post) (hk : ∀ t m' n', post t m' n' → k t m' n') : callP P f m n args k := .inr ⟨post, h, hk⟩

/-- What a function's results are to its caller. -/
def outT (P : Program) (s : S) : List ResultVar → Option (List T)
  | [] => some []
  | .tmp t :: rs => obind (outT P s rs) fun xs => some (s.tm t :: xs)
  | .cell a t :: rs => obind (evLoad P t s.m (s.tm a)) fun y => obind (outT P s rs) fun xs => some (y :: xs)
def outTV : List T → T
  | [x] => x
  | xs => .tup xs
@[simp] theorem outT_nil {s : S} : outT P s [] = some [] := rfl
@[simp] theorem outT_tmp {s : S} {t : Nat} {rs : List ResultVar} : outT P s (.tmp t :: rs) = obind (outT P s rs) fun xs => some (s.tm t :: xs) := rfl
@[simp] theorem outT_cell {s : S} {a t : Nat} {rs : List ResultVar} : outT P s (.cell a t :: rs) = obind (evLoad P t s.m (s.tm a)) fun y => obind (outT P s rs) fun xs => some (y :: xs) := rfl
@[simp] theorem outTV_one {x : T} : outTV [x] = x := rfl
@[simp] theorem outTV_none : outTV [] = .tup [] := rfl
@[simp] theorem outTV_two {x y : T} {xs : List T} : outTV (x :: y :: xs) = .tup (x :: y :: xs) := rfl
/-- The end of a function with memory. -/
def retS (P : Program) (rs : List ResultVar) (R : T → Mem → Nat → Prop) (e : TExit) (s : S) [Hd R] [Hd s] : Prop :=
  match e with
  | .exit _ => False
  | _ => bindP (outT P s rs) fun ts => R (outTV ts) s.m s.n
@[simp] theorem retS_normal {rs : List ResultVar} {R : T → Mem → Nat → Prop} {s : S} : retS P rs R .normal s = bindP (outT P s rs) fun vs => R (outTV vs) s.m s.n := nrfl
@[simp] theorem retS_ret {rs : List ResultVar} {R : T → Mem → Nat → Prop} {s : S} : retS P rs R .ret s = bindP (outT P s rs) fun vs => R (outTV vs) s.m s.n := nrfl
@[simp] theorem retS_exit {rs : List ResultVar} {R : T → Mem → Nat → Prop} {s : S} {i : Nat} : retS P rs R (.exit i) s = False := nrfl

theorem outT_sound {φ : Phi} {Z : Zs} {w : World} {s : S} {tmps : Array Value} (hm : RelM P φ Z s.m s.n w) (htm : ∀ t, RepT φ Z w (s.tm t) (tmps.getD t undef)) :
    ∀ (rs : List ResultVar) (vs : List T), outT P s rs = some vs → ∃ us, (rs.mapM (resOf tmps)).run P w = .ok us w ∧ RepTs φ Z w vs us
  | [], vs, h => by cases h; exact ⟨[], by simp, .nil⟩
  | .tmp t :: rs, vs, h => by
    simp only [outT] at h
    obtain ⟨xs, hxs, h⟩ := obind_eq h
    cases h
    obtain ⟨us, h1, h2⟩ := outT_sound hm htm rs xs hxs
    exact ⟨_ :: us, by simp [List.mapM_cons, resOf, h1], .cons (htm t) h2⟩
  | .cell a t :: rs, vs, h => by
    simp only [outT] at h
    obtain ⟨y, hy, h⟩ := obind_eq h
    obtain ⟨xs, hxs, h⟩ := obind_eq h
    cases h
    obtain ⟨us, h1, h2⟩ := outT_sound hm htm rs xs hxs
    obtain ⟨v, h3, h4⟩ := evLoad_sound hm (htm a) hy
    have h5 : (resOf tmps (.cell a t)).run P w = .ok v w := loadAt_asAddr h3
    exact ⟨v :: us, by simp [List.mapM_cons, h5, h1], .cons h4 h2⟩
theorem rep_outTV {φ : Phi} {Z : Zs} {w : World} {vs : List T} {us : List Value} (h : RepTs φ Z w vs us) : RepT φ Z w (outTV vs) (resV us) := by
  cases h with
  | nil => exact RepT.tup (us := []) .nil
  | cons h t =>
    cases t with
    | nil => exact h
    | cons g t => exact .tup (.cons h (.cons g t))

/-- The start of a call with memory. -/
def startS (mu : Bool) (m : Mem) (n : Nat) (args : List T) : S := ⟨fun t => args.getD t (.v .any), m, n, mu⟩
@[simp] theorem startS_tm {mu : Bool} {m : Mem} {n : Nat} {args : List T} {t : Nat} : (startS mu m n args).tm t = args.getD t (.v .any) := rfl
@[simp] theorem startS_m {mu : Bool} {m : Mem} {n : Nat} {args : List T} : (startS mu m n args).m = m := rfl
@[simp] theorem startS_n {mu : Bool} {m : Mem} {n : Nat} {args : List T} : (startS mu m n args).n = n := rfl
@[simp] theorem startS_mu {mu : Bool} {m : Mem} {n : Nat} {args : List T} : (startS mu m n args).mu = mu := rfl
theorem startS_rel {mu : Bool} {m : Mem} {n : Nat} {args : List T} {vs : List Value} {φ : Phi} {Z : Zs} {w : World} {N : Nat} (hm : RelM P φ Z m n w) (h : RepTs φ Z w args vs) (hN : args.length ≤ N) :
    RelF P N φ m Z w (startS mu m n args) { tmps := vs.toArray ++ Array.replicate (N - vs.toArray.size) undef, defers := [] } w := by
  have hl := h.length
  refine ⟨φ, Z, hm, fun t => ?_, ?_, rfl, Step.refl _ _ _ _⟩
  · simp only [startS]
    rw [Array.getD_eq_getD_getElem?, List.getD_eq_getElem?_getD]
    by_cases ht : t < vs.length
    · obtain ⟨u, hu, hr⟩ := h.get t (args[t]'(by omega)) (List.getElem?_eq_getElem _)
      rw [List.getElem?_eq_getElem (by omega), Array.getElem?_append_left (by simpa using ht), List.getElem?_toArray, hu]
      exact hr
    · rw [List.getElem?_eq_none (by omega), Array.getElem?_append_right (by simp; omega)]
      refine .v ?_
      exact .any _
  · simp; omega

theorem FnS_of {f : Nat} {fn : Func} {c : Code} {rs : List ResultVar} {m : Mem} {n : Nat} {args : List T} {post : T → Mem → Nat → Prop} (mu : Bool) (hf : P.funcs[f]? = some fn) (hb : fn.body = some c) (hr : fn.results.toList = rs) (hn : (fn.name == "runtime.NumGoroutine") = false)
    (hd : dstsOk fn.ntmps c = true) (ha : args.length ≤ fn.ntmps) (h : twp P c (fun e s => retS P rs post e s) (startS mu m n args)) : FnS P f m n args post := by
  refine ⟨⟨fn, hf, hn, by rw [hb]; rfl⟩, fun φ Z w vs hm hv => ?_⟩
  refine calls_of_wp hf hb (wp_mono (twp_sound c hd _ _ _ _ (startS_rel (N := fn.ntmps) (mu := mu) hm hv ha) h) ?_)
  have fin : ∀ s a w', RelF P fn.ntmps φ m Z w s a w' → bindP (outT P s rs) (fun vs => post (outTV vs) s.m s.n) → a.defers = [] ∧ ∃ v, (results fn a.tmps).run P w' = .ok v w' ∧
      ∃ v' φ' Z' m' n' t, Ending.returned v = .returned v' ∧ RelM P φ' Z' m' n' w' ∧ RepT φ' Z' w' t v' ∧ Step φ Z m w φ' Z' m' w' ∧ post t m' n' := by
    rintro s a w' ⟨φ', Z', hm', htm, hsz, hdf, hst⟩ ⟨xs, hxs, hp⟩
    obtain ⟨us, h1, h2⟩ := outT_sound hm' htm rs xs hxs
    rw [← hr] at h1
    exact ⟨hdf, _, results_outs h1, _, φ', Z', s.m, s.n, _, rfl, hm', rep_outTV h2, hst, hp⟩
  intro e a w' hq
  cases e with
  | normal => obtain ⟨s, h1, h2⟩ := hq; exact fin s a w' h1 h2
  | ret => obtain ⟨s, h1, h2⟩ := hq; exact fin s a w' h1 h2
  | exit i => obtain ⟨s, h1, h2⟩ := hq; exact h2.elim
  | _ => exact hq.elim
end
end TL

/- TL, part 19: results that nobody writes any more. -/
set_option linter.unusedVariables false
set_option linter.unusedSimpArgs false
namespace TL
open Go Go.RowKit
variable {P : Program}

theorem RelM.frz {φ : Phi} {Z : Zs} {m m2 dm : Mem} {n : Nat} {w : World} (hm : RelM P φ Z m n w) (h2 : LeM m2 m) (hd : LeM dm m) (hx : ∀ i, m2 i = none ∨ dm i = none) :
    RelM P φ (fun k o => Z k o ∨ Owned φ dm k) m2 n w := by
  refine ⟨hm.ok, hm.fresh, fun i b hb => ?_, fun i j a b u v k ha hb => hm.ne i j a b u v k (h2 _ _ ha) (h2 _ _ hb), ⟨fun k o h => ?_, hm.zlt.gl.keep (fun _ _ h => .inl h) fun _ _ _ => rfl⟩⟩
  · obtain ⟨v, hv, hr⟩ := hm.blk i b (h2 i b hb)
    refine ⟨v, hv, hr.keep (fun _ _ h => h) (fun _ _ h => .inl h) (fun _ _ _ => rfl) fun hro k hk => ⟨rfl, fun o ho => ho.resolve_right ?_⟩⟩
    rintro ⟨j, c, u, hc, hcr, hu, huk⟩
    have he := hm.ne i j b c v u k (h2 _ _ hb) (hd _ _ hc) hv hu hk huk hro hcr
    subst he
    rcases hx i with h | h
    · rw [h] at hb; cases hb
    · rw [h] at hc; cases hc
  · rcases h with h | ⟨i, b, v, h1, h3, h4, h5⟩
    · exact hm.zlt.lt k o h
    · exact hm.owned_lt ⟨i, b, v, hd _ _ h1, h3, h4, h5⟩

theorem RelM.le {φ : Phi} {Z : Zs} {m m2 : Mem} {n : Nat} {w : World} (hm : RelM P φ Z m n w) (h2 : LeM m2 m) : RelM P φ Z m2 n w :=
  ⟨hm.ok, hm.fresh, fun i b hb => hm.blk i b (h2 i b hb), fun i j a b u v k ha hb => hm.ne i j a b u v k (h2 _ _ ha) (h2 _ _ hb), hm.zlt⟩

/-- A result whose memory is given away: what it names is read from then on, by whomever. -/
theorem FnS.frz {f : Nat} {m : Mem} {n : Nat} {args : List T} {post post' : T → Mem → Nat → Prop} (h : FnS P f m n args post)
    (hp : ∀ t m' n', post t m' n' → ∃ x m2 dm, LeM m2 m' ∧ LeM dm m' ∧ (∀ i, m2 i = none ∨ dm i = none) ∧ bor true dm 4 t = some x ∧ post' (.v x) m2 n') : FnS P f m n args post' := by
  refine ⟨h.1, fun φ Z w us hm hr c => ?_⟩
  obtain ⟨e, w', fr, hh, h5⟩ := h.2 φ Z w us hm hr c
  refine ⟨e, w', fr, ?_, h5⟩
  obtain ⟨v, φ', Z', m', n', t, rfl, h1, h2, h3, h4⟩ := hh
  obtain ⟨x, m2, dm, l2, ld, hx, hb, hq⟩ := hp t m' n' h4
  have hz := h1.frz l2 ld hx
  refine ⟨v, φ', _, m2, n', .v x, rfl, hz, .v (bor_sound (h1.le ld) (k := true) (fun k o h => .inl h) (fun _ g hg o => .inr hg) 4 _ _ _ h2 hb), ?_, hq⟩
  have own : ∀ k, k < w.heap.size → Owned φ' m' k → Owned φ m k := h3.own
  have ownd : ∀ k, Owned φ' dm k → Owned φ' m' k := fun k ⟨i, b, v, a1, a2⟩ => ⟨i, b, v, ld _ _ a1, a2⟩
  refine ⟨h3.ext, fun k o hz => .inl (h3.sub k o hz), h3.keep, h3.os, h3.tape, h3.output, h3.size, h3.out, fun k hk ⟨i, b, v, a1, a2⟩ => h3.own k hk ⟨i, b, v, l2 _ _ a1, a2⟩, fun k o hzn => ?_⟩
  rcases hzn with hzn | hzn
  · exact h3.znew k o hzn
  · by_cases hk : k < w.heap.size
    · exact .inr (.inr (own k hk (ownd k hzn)))
    · exact .inr (.inl (by omega))
/-- The same contract with less said. -/
theorem FnS.weak {f : Nat} {m : Mem} {n : Nat} {args : List T} {post post' : T → Mem → Nat → Prop} (h : FnS P f m n args post) (hp : ∀ t m' n', post t m' n' → post' t m' n') : FnS P f m n args post' := by
  refine ⟨h.1, fun φ Z w us hm hr c => ?_⟩
  obtain ⟨e, w', fr, hh, h5⟩ := h.2 φ Z w us hm hr c
  refine ⟨e, w', fr, ?_, h5⟩
  obtain ⟨v, φ', Z', m', n', t, rfl, h1, h2, h3, h4⟩ := hh
  exact ⟨v, φ', Z', m', n', t, rfl, h1, h2, h3, hp _ _ _ h4⟩
end TL

/- TL, part 3: the rules by which simp runs the code. -/
namespace TL
open Go

section
variable {P : Program} {Q : TExit → S → Prop} {s : S}
@[simp] theorem twp_skip : twp P .skip Q s = Q .normal s := by simp [twp]
@[simp] theorem twp_seq (a b : Code) : twp P (.seq a b) Q s = twp P a (fun e s => thenP (fun s => twp P b Q s) Q e s) s := by simp [twp]
@[simp] theorem twp_cond (c : Operand) (a b : Code) : twp P (.cond c a b) Q s = bindP (boolOf (s.ev c)) fun q => iteP q (twp P a Q s) (twp P b Q s) := by simp [twp]
@[simp] theorem twp_block (i : Nat) (c : Code) : twp P (.block i c) Q s = twp P c (fun e s => blockP i Q e s) s := by simp [twp]
@[simp] theorem twp_exit (i : Nat) : twp P (.exit i) Q s = Q (.exit i) s := by simp [twp]
@[simp] theorem twp_ret : twp P .ret Q s = Q .ret s := by simp [twp]
@[simp] theorem twp_region (i : Nat) (l : List Oper) : twp P (.region i l.toArray false) Q s = opsP P l l (fun s => Q .normal s) s := by simp [twp]
@[simp] theorem thenP_normal (A : S → Prop) : thenP A Q .normal s = A s := nrfl
@[simp] theorem thenP_exit (A : S → Prop) (i : Nat) : thenP A Q (.exit i) s = Q (.exit i) s := nrfl
@[simp] theorem thenP_ret (A : S → Prop) : thenP A Q .ret s = Q .ret s := nrfl
@[simp] theorem blockP_normal (i : Nat) : blockP i Q .normal s = Q .normal s := nrfl
@[simp] theorem blockP_exit_same (i : Nat) : blockP i Q (.exit i) s = Q .normal s := if_pos rfl
@[simp] theorem blockP_exit (i j : Nat) : blockP i Q (.exit j) s = iteP (decide (j = i)) (Q .normal s) (Q (.exit j) s) := by simp [blockP, iteP]
@[simp] theorem blockP_ret (i : Nat) : blockP i Q .ret s = Q .ret s := nrfl
theorem twp_draw {i : Nat} {l : List Oper} (ord ids : List Nat) (L K : List (List Nat)) (hf : P.follows .mixedOrders = true) (hn : Region.noSelect l.toArray = true) (hl : ord.length = l.toArray.size) (hk : ordOk l.toArray L K ord (Array.replicate l.toArray.size false) = true) (h : ordP P l ids L K (fun s => Q .normal s) ord s) : twp P (.region i l.toArray true) Q s := by
  unfold twp; rw [if_pos rfl]; exact ⟨hf, .inl ⟨ord, ids, L, K, hn, hl, hk, h⟩⟩
theorem twp_drawT {i : Nat} {l : List Oper} (t : OT) (ids : List Nat) (L K : List (List Nat)) (hf : P.follows .mixedOrders = true) (hn : Region.noSelect l.toArray = true) (hl : t.size = l.toArray.size) (hk : otOk l.toArray L K t false (Array.replicate l.toArray.size false) = true) (h : ordT P l ids L K (fun s => Q .normal s) t s) : twp P (.region i l.toArray true) Q s := by
  unfold twp; rw [if_pos rfl]; exact ⟨hf, .inr ⟨t, ids, L, K, hn, hl, hk, h⟩⟩
@[simp] theorem ordT_done (all : List Oper) (ids : List Nat) (L K : List (List Nat)) (Q : S → Prop) : ordT P all ids L K Q .done s = Q s := nrfl
@[simp] theorem ordT_run (all : List Oper) (ids : List Nat) (L K : List (List Nat)) (Q : S → Prop) (l : List Nat) (r : OT) : ordT P all ids L K Q (.run l r) s = ordP P all ids L K (fun s => ordT P all ids L K Q r s) l s := nrfl
theorem ordT_alt (all : List Oper) (ids : List Nat) (L K : List (List Nat)) (Q : S → Prop) (a b : OT) : ordT P all ids L K Q (.alt a b) s = (ordT P all ids L K Q a s ∧ ordT P all ids L K Q b s) := nrfl
theorem ordT_both {all : List Oper} {ids : List Nat} {L K : List (List Nat)} {Q : S → Prop} {a b : OT} (h : ordT P all ids L K Q a s) (g : ordT P all ids L K Q b s) : ordT P all ids L K Q (.alt a b) s := ⟨h, g⟩
theorem twp_loop {c : Code} (I : S → Prop) (μ : S → Nat) (h : I s) (hs : ∀ s, I s → twp P c (fun e s1 => thenP (fun s' => I s' ∧ μ s' < μ s) Q e s1) s) : twp P (.loop c) Q s := by
  unfold twp; exact ⟨I, μ, h, hs⟩
end

section
variable {P : Program} {s : S}
@[simp] theorem opsP_nil (all : List Oper) (Q : S → Prop) : opsP P all [] Q s = Q s := nrfl
@[simp] theorem opsP_cons (all rest : List Oper) (o : Oper) (Q : S → Prop) : opsP P all (o :: rest) Q s = bindP (guardB all s o.guard) fun g => iteP g (opP P s o fun s' => opsP P all rest Q s') (opsP P all rest Q (s.put o.dst und)) := nrfl
@[simp] theorem opsP_cons_g (all rest : List Oper) (d : Option Nat) (op : Op) (ty : TypeId) (pos : String) (af : Array Edge) (Q : S → Prop) : opsP P all (⟨d, op, ty, pos, af, none⟩ :: rest) Q s = opP P s ⟨d, op, ty, pos, af, none⟩ fun s' => opsP P all rest Q s' := by simp [guardB]
@[simp] theorem guardB_none (all : List Oper) : guardB all s none = some true := rfl
@[simp] theorem guardB_some (all : List Oper) (j : Nat) (b : Bool) : guardB all s (some (j, b)) = obind (dstOf all j) fun d => guardOf b (s.tm d) := rfl
@[simp] theorem dstOf_zero (o : Oper) (all : List Oper) : dstOf (o :: all) 0 = o.dst := by simp [dstOf]
@[simp] theorem dstOf_succ (o : Oper) (all : List Oper) (j : Nat) : dstOf (o :: all) (j + 1) = dstOf all j := by simp [dstOf]
@[simp] theorem opAt_zero (o : Oper) (all : List Oper) : opAt (o :: all) 0 = some o := by simp [opAt]
@[simp] theorem opAt_succ (o : Oper) (all : List Oper) (j : Nat) : opAt (o :: all) (j + 1) = opAt all j := by simp [opAt]
@[simp] theorem ordP_nil (all : List Oper) (ids : List Nat) (L K : List (List Nat)) (Q : S → Prop) : ordP P all ids L K Q [] s = Q s := nrfl
theorem ordP_cons (all : List Oper) (ids : List Nat) (L K : List (List Nat)) (Q : S → Prop) (i : Nat) (rest : List Nat) : ordP P all ids L K Q (i :: rest) s = iteP (decide (1000 ≤ i)) (bindP (opAt all (i - 1000)) fun o => bindP (guardB all s o.guard) fun g => iteP g (pureC P s o fun d x => ordP P all ids L K Q rest (s.put d x)) (ordP P all ids L K Q rest (s.put o.dst und)))
      (bindP (opAt all i) fun o => bindP (guardB all s o.guard) fun g => iteP g
      (iteP (isVal o.op) (opP P (s.rs (idsAt ids L i)) o fun s' => ordP P all ids L K Q rest (s'.wm s.m s.n)) (opP P s o fun s' => keepP (idsAt ids K i) s.m s'.m ∧ ordP P all ids L K Q rest s'))
      (ordP P all ids L K Q rest (s.put o.dst und))) := nrfl
attribute [simp] isVal idsAt
@[simp] theorem keepP_nil (m m' : Mem) : keepP [] m m' = True := by simp [keepP]
@[simp] theorem keepP_cons (m m' : Mem) (i : Nat) (l : List Nat) : keepP (i :: l) m m' = (m' i = m i ∧ keepP l m m') := by simp [keepP]
@[simp] theorem rst_nil (m : Mem) (i : Nat) : rst m [] i = none := by simp [rst]
@[simp] theorem rst_cons (m : Mem) (i j : Nat) (l : List Nat) : rst m (j :: l) i = if i = j then m i else rst m l i := by
  by_cases h : i = j <;> simp [rst, h]
@[simp] theorem tm_rs (l : List Nat) : (s.rs l).tm = s.tm := rfl
@[simp] theorem m_rs (l : List Nat) : (s.rs l).m = rst s.m l := rfl
@[simp] theorem n_rs (l : List Nat) : (s.rs l).n = s.n := rfl
@[simp] theorem mu_rs (l : List Nat) : (s.rs l).mu = s.mu := rfl
@[simp] theorem tm_wm (m : Mem) (n : Nat) : (s.wm m n).tm = s.tm := rfl
@[simp] theorem m_wm (m : Mem) (n : Nat) : (s.wm m n).m = m := rfl
@[simp] theorem n_wm (m : Mem) (n : Nat) : (s.wm m n).n = n := rfl
@[simp] theorem mu_wm (m : Mem) (n : Nat) : (s.wm m n).mu = s.mu := rfl
@[simp] theorem boolOf_bool (b : Bool) : boolOf (.v (.bool b)) = some b := rfl
@[simp] theorem ev_tmp (t : Nat) : s.ev (.tmp t) = s.tm t := rfl
@[simp] theorem ev_const (v : Value) : s.ev (.const v) = const v := rfl
@[simp] theorem ev_func (f : Nat) : s.ev (.func f) = .fn f [] := rfl
@[simp] theorem const_bool (b : Bool) : const (.bool b) = .v (.bool b) := rfl
@[simp] theorem const_int (k : IntKind) (n : Int) : const (.int k n) = .v (.int k n) := rfl
@[simp] theorem const_str (b : ByteArray) : const (.string b) = .v (.str b.data.toList) := rfl
@[simp] theorem const_nil : const (.slice none 0 0) = .nil := rfl
@[simp] theorem const_agg (l : List Value) : const (.agg l.toArray) = .agg (l.map constCell) := by simp [const]
@[simp] theorem constCell_bool (b : Bool) : constCell (.bool b) = .v (.bool b) := rfl
@[simp] theorem constCell_int (k : IntKind) (n : Int) : constCell (.int k n) = .v (.int k n) := rfl
@[simp] theorem constCell_str (b : ByteArray) : constCell (.string b) = .v (.str b.data.toList) := rfl
@[simp] theorem constCell_nil : constCell (.slice none 0 0) = .nil := rfl
@[simp] theorem tm_app (d : Nat) (E : Eff) (t : Nat) : (s.app (some d) E).tm t = if t = d then E.val else s.tm t := rfl
@[simp] theorem tm_app_none (E : Eff) : (s.app none E).tm = s.tm := rfl
@[simp] theorem m_app (d : Option Nat) (E : Eff) : (s.app d E).m = applyUs s.m E.us := rfl
@[simp] theorem n_app (d : Option Nat) (E : Eff) : (s.app d E).n = bump s.n E.us := rfl
@[simp] theorem bump_nil (n : Nat) : bump n [] = n := rfl
@[simp] theorem bump_cons (n : Nat) (x : Nat × Option Blk) (xs : List (Nat × Option Blk)) : bump n (x :: xs) = n + 1 := rfl
@[simp] theorem const_ptr : const (.pointer none) = .v .any := rfl
@[simp] theorem mu_app (d : Option Nat) (E : Eff) : (s.app d E).mu = s.mu := rfl
@[simp] theorem tm_aft (d : Nat) (x : T) (m : Mem) (n : Nat) (t : Nat) : (s.aft (some d) x m n).tm t = if t = d then x else s.tm t := rfl
@[simp] theorem tm_aft_none (x : T) (m : Mem) (n : Nat) : (s.aft none x m n).tm = s.tm := rfl
@[simp] theorem m_aft (d : Option Nat) (x : T) (m : Mem) (n : Nat) : (s.aft d x m n).m = m := rfl
@[simp] theorem n_aft (d : Option Nat) (x : T) (m : Mem) (n : Nat) : (s.aft d x m n).n = n := rfl
@[simp] theorem mu_aft (d : Option Nat) (x : T) (m : Mem) (n : Nat) : (s.aft d x m n).mu = s.mu := rfl
@[simp] theorem tm_put (d : Nat) (x : T) (t : Nat) : (s.put (some d) x).tm t = if t = d then x else s.tm t := rfl
@[simp] theorem tm_put_none (x : T) : (s.put none x).tm = s.tm := rfl
@[simp] theorem m_put (d : Option Nat) (x : T) : (s.put d x).m = s.m := rfl
@[simp] theorem n_put (d : Option Nat) (x : T) : (s.put d x).n = s.n := rfl
@[simp] theorem mu_put (d : Option Nat) (x : T) : (s.put d x).mu = s.mu := rfl
@[simp] theorem applyUs_nil (m : Mem) : applyUs m [] = m := rfl
@[simp] theorem applyUs_cons (m : Mem) (i : Nat) (b : Option Blk) (us : List (Nat × Option Blk)) : applyUs m ((i, b) :: us) = applyUs (updM m i b) us := rfl
end

section
variable {P : Program} {s : S} {d : Option Nat} {ty : TypeId} {pos : String} {af : Array Edge} {gd : Option (Nat × Bool)} {K : S → Prop}
def callV (P : Program) (s : S) (args : List T) (d : Option Nat) (K : S → Prop) [Hd s] [Hd args] [Hd K] : T → Prop
  | .fn f cap => callP P f s.m s.n (args ++ cap) fun t m n => K (s.aft d t m n)
  | .v (.fn f cap) => callP P f s.m s.n (args ++ cap.map .v) fun t m n => K (s.aft d t m n)
  | _ => False
@[simp] theorem callV_fn (args cap : List T) (f : Nat) : callV P s args d K (.fn f cap) = callP P f s.m s.n (args ++ cap) fun t m n => K (s.aft d t m n) := nrfl
@[simp] theorem callV_vfn (args : List T) (cap : List V) (f : Nat) : callV P s args d K (.v (.fn f cap)) = callP P f s.m s.n (args ++ cap.map .v) fun t m n => K (s.aft d t m n) := nrfl
@[simp] theorem opP_call (g : Operand) (args : Array Operand) (ts : Array TypeId) : opP P s ⟨d, .call ⟨.value g, args, ts⟩, ty, pos, af, gd⟩ K = callV P s (args.toList.map s.ev) d K (s.ev g) := by
  unfold opP callV; simp only; split <;> simp_all
@[simp] theorem opP_builtin (b : Builtin) (args : Array Operand) (ts : Array TypeId) : opP P s ⟨d, .call ⟨.builtin b, args, ts⟩, ty, pos, af, gd⟩ K = bindP (evBuiltin P s.mu b ts.toList s.m s.n (args.toList.map s.ev)) fun E => K (s.app d E) := nrfl
@[simp] theorem opP_move (x : Operand) : opP P s ⟨d, .move x, ty, pos, af, gd⟩ K = bindP (some (s.ev x)) fun x => K (s.app d ⟨x, []⟩) := by simp [opP, opF]
@[simp] theorem opP_assign (x : Operand) : opP P s ⟨d, .assign x, ty, pos, af, gd⟩ K = bindP (some (s.ev x)) fun x => K (s.app d ⟨x, []⟩) := by simp [opP, opF]
@[simp] theorem opP_pick (c a b : Operand) : opP P s ⟨d, .pick c a b, ty, pos, af, gd⟩ K = bindP (obind (boolOf (s.ev c)) fun q => some (evPick q (s.ev a) (s.ev b))) fun x => K (s.app d ⟨x, []⟩) := by
  simp only [opP, opF]; cases boolOf (s.ev c) <;> simp
@[simp] theorem opP_not (t : TypeId) (x : Operand) : opP P s ⟨d, .unOp .not t x, ty, pos, af, gd⟩ K = bindP (boolOf (s.ev x)) fun b => K (s.app d ⟨.v (.bool !b), []⟩) := by
  simp only [opP, opF]; cases boolOf (s.ev x) <;> simp
@[simp] theorem opP_alloc (t : TypeId) : opP P s ⟨d, .alloc t, ty, pos, af, gd⟩ K = bindP (evAlloc P t s.n) fun E => K (s.app d E) := nrfl
@[simp] theorem opP_box (t : TypeId) (x : Operand) : opP P s ⟨d, .box t x, ty, pos, af, gd⟩ K = bindP (evBox P t s.n (s.ev x)) fun E => K (s.app d E) := nrfl
@[simp] theorem opP_buildSlice (t : TypeId) (len : Nat) (l : List (Nat × Operand)) : opP P s ⟨d, .buildSlice t len l.toArray, ty, pos, af, gd⟩ K = bindP (evBuildSlice P s.mu t s.m s.n len (l.map fun p => (p.1, s.ev p.2))) fun E => K (s.app d E) := nrfl
@[simp] theorem opP_makeFunc (f : Nat) (cap : List Operand) : opP P s ⟨d, .makeFunc (.func f) #[] cap.toArray, ty, pos, af, gd⟩ K = bindP (some (T.fn f (cap.map s.ev))) fun x => K (s.app d ⟨x, []⟩) := by simp [opP, opF]
@[simp] theorem opP_makeSlice (t : TypeId) (x y : Operand) : opP P s ⟨d, .makeSlice t x y, ty, pos, af, gd⟩ K = bindP (evMake P t s.n (s.ev x) (s.ev y)) fun E => K (s.app d E) := nrfl
@[simp] theorem opP_store (t : TypeId) (a x : Operand) : opP P s ⟨d, .store t a x, ty, pos, af, gd⟩ K = bindP (evStore P t s.m (s.ev x) (s.ev a)) fun u => K (s.app d ⟨.v .any, [u]⟩) := by
  simp only [opP, opF]; cases evStore P t s.m (s.ev x) (s.ev a) <;> simp
@[simp] theorem opP_build (t : TypeId) (l : List (Nat × Operand)) : opP P s ⟨d, .build t l.toArray, ty, pos, af, gd⟩ K = bindP (evBuild P t (l.map fun p => (p.1, s.ev p.2))) fun x => K (s.app d ⟨x, []⟩) := by
  simp only [opP, opF]; cases evBuild P t (l.map fun p => (p.1, s.ev p.2)) <;> simp
@[simp] theorem opP_load (t : TypeId) (a : Operand) : opP P s ⟨d, .load t a, ty, pos, af, gd⟩ K = bindP (evLoad P t s.m (s.ev a)) fun x => K (s.app d ⟨x, []⟩) := by
  simp only [opP, opF]; cases evLoad P t s.m (s.ev a) <;> simp
@[simp] theorem opP_nilCheck (x : Operand) : opP P s ⟨d, .nilCheck x, ty, pos, af, gd⟩ K = bindP (evNilCheck (s.ev x)) fun x => K (s.app d ⟨x, []⟩) := by
  simp only [opP, opF]; cases evNilCheck (s.ev x) <;> simp
@[simp] theorem opP_binOp_tmp (op : BinOp) (t t' : TypeId) (x : Operand) (j : Nat) : opP P s ⟨d, .binOp op t x (.tmp j) t', ty, pos, af, gd⟩ K = bindP (evBin P s.m op t (s.ev x) (s.ev (.tmp j))) fun x => K (s.app d ⟨x, []⟩) := by
  have e : opP P s ⟨d, .binOp op t x (.tmp j) t', ty, pos, af, gd⟩ K = bindP (obind (evBin P s.m op t (s.ev x) (s.ev (.tmp j))) fun x => some ⟨x, []⟩) fun E => K (s.app d E) := by cases op <;> rfl
  rw [e]; cases evBin P s.m op t (s.ev x) (s.ev (.tmp j)) <;> simp
@[simp] theorem opP_binOp_int (op : BinOp) (t t' : TypeId) (x : Operand) (k : IntKind) (n : Int) : opP P s ⟨d, .binOp op t x (.const (.int k n)) t', ty, pos, af, gd⟩ K = bindP (evBin P s.m op t (s.ev x) (s.ev (.const (.int k n)))) fun x => K (s.app d ⟨x, []⟩) := by
  have e : opP P s ⟨d, .binOp op t x (.const (.int k n)) t', ty, pos, af, gd⟩ K = bindP (obind (evBin P s.m op t (s.ev x) (s.ev (.const (.int k n)))) fun x => some ⟨x, []⟩) fun E => K (s.app d E) := by cases op <;> rfl
  rw [e]; cases evBin P s.m op t (s.ev x) (s.ev (.const (.int k n))) <;> simp
@[simp] theorem opP_binOp_bool (op : BinOp) (t t' : TypeId) (x : Operand) (b : Bool) : opP P s ⟨d, .binOp op t x (.const (.bool b)) t', ty, pos, af, gd⟩ K = bindP (evBin P s.m op t (s.ev x) (s.ev (.const (.bool b)))) fun x => K (s.app d ⟨x, []⟩) := by
  have e : opP P s ⟨d, .binOp op t x (.const (.bool b)) t', ty, pos, af, gd⟩ K = bindP (obind (evBin P s.m op t (s.ev x) (s.ev (.const (.bool b)))) fun x => some ⟨x, []⟩) fun E => K (s.app d E) := by cases op <;> rfl
  rw [e]; cases evBin P s.m op t (s.ev x) (s.ev (.const (.bool b))) <;> simp
@[simp] theorem opP_binOp_str (op : BinOp) (t t' : TypeId) (x : Operand) (b : ByteArray) : opP P s ⟨d, .binOp op t x (.const (.string b)) t', ty, pos, af, gd⟩ K = bindP (evBin P s.m op t (s.ev x) (s.ev (.const (.string b)))) fun x => K (s.app d ⟨x, []⟩) := by
  have e : opP P s ⟨d, .binOp op t x (.const (.string b)) t', ty, pos, af, gd⟩ K = bindP (obind (evBin P s.m op t (s.ev x) (s.ev (.const (.string b)))) fun x => some ⟨x, []⟩) fun E => K (s.app d E) := by cases op <;> rfl
  rw [e]; cases evBin P s.m op t (s.ev x) (s.ev (.const (.string b))) <;> simp
@[simp] theorem opP_binOp_agg (op : BinOp) (t t' : TypeId) (x : Operand) (b : Array Value) : opP P s ⟨d, .binOp op t x (.const (.agg b)) t', ty, pos, af, gd⟩ K = bindP (evBin P s.m op t (s.ev x) (s.ev (.const (.agg b)))) fun x => K (s.app d ⟨x, []⟩) := by
  have e : opP P s ⟨d, .binOp op t x (.const (.agg b)) t', ty, pos, af, gd⟩ K = bindP (obind (evBin P s.m op t (s.ev x) (s.ev (.const (.agg b)))) fun x => some ⟨x, []⟩) fun E => K (s.app d E) := by cases op <;> rfl
  rw [e]; cases evBin P s.m op t (s.ev x) (s.ev (.const (.agg b))) <;> simp
@[simp] theorem opP_eqNil (t t' : TypeId) (x : Operand) : opP P s ⟨d, .binOp .eql t x (.const (.slice none 0 0)) t', ty, pos, af, gd⟩ K = nilP P t (s.ev x) fun b => K (s.app d ⟨.v (.bool b), []⟩) := nrfl
@[simp] theorem opP_neNil (t t' : TypeId) (x : Operand) : opP P s ⟨d, .binOp .neq t x (.const (.slice none 0 0)) t', ty, pos, af, gd⟩ K = nilP P t (s.ev x) fun b => K (s.app d ⟨.v (.bool !b), []⟩) := nrfl
@[simp] theorem nilP_sl (t : TypeId) (xs : List V) (k : Bool → Prop) : nilP P t (.v (.sl xs)) k = ((elT P t).isSome = true ∧ ∀ b : Bool, (b = true → xs = []) → k b) := nrfl
@[simp] theorem nilP_nil (t : TypeId) (k : Bool → Prop) : nilP P t .nil k = ((elT P t).isSome = true ∧ k true) := nrfl
@[simp] theorem opP_neg (t : TypeId) (x : Operand) : opP P s ⟨d, .unOp .neg t x, ty, pos, af, gd⟩ K = bindP (evNeg (s.ev x)) fun x => K (s.app d ⟨x, []⟩) := by
  simp only [opP, opF]; cases evNeg (s.ev x) <;> simp
@[simp] theorem opP_convert (t t' : TypeId) (x : Operand) : opP P s ⟨d, .convert t t' x, ty, pos, af, gd⟩ K = bindP (evConvert P t t' s.m (s.ev x)) fun x => K (s.app d ⟨x, []⟩) := by
  simp only [opP, opF]; cases evConvert P t t' s.m (s.ev x) <;> simp
@[simp] theorem opP_slice (t : TypeId) (x : Operand) (lo hi : Option Operand) : opP P s ⟨d, .slice t x lo hi none, ty, pos, af, gd⟩ K = bindP (evSlice P t s.m (lo.map s.ev) (hi.map s.ev) (s.ev x)) fun x => K (s.app d ⟨x, []⟩) := by
  simp only [opP, opF]; cases evSlice P t s.m (lo.map s.ev) (hi.map s.ev) (s.ev x) <;> simp
@[simp] theorem opP_clip (t : TypeId) (x mx : Operand) (lo hi : Option Operand) : opP P s ⟨d, .slice t x lo hi (some mx), ty, pos, af, gd⟩ K = bindP (evClip P t (lo.map s.ev) (hi.map s.ev) (s.ev mx) (s.ev x)) fun x => K (s.app d ⟨x, []⟩) := by
  simp only [opP, opF]; cases evClip P t (lo.map s.ev) (hi.map s.ev) (s.ev mx) (s.ev x) <;> simp
@[simp] theorem opP_fieldAddr (t : TypeId) (x : Operand) (f : Nat) : opP P s ⟨d, .fieldAddr t x f, ty, pos, af, gd⟩ K = bindP (evFieldAddr P t f (s.ev x)) fun x => K (s.app d ⟨x, []⟩) := by
  simp only [opP, opF]; cases evFieldAddr P t f (s.ev x) <;> simp
@[simp] theorem opP_indexAddr (t : TypeId) (x i : Operand) : opP P s ⟨d, .indexAddr t x i, ty, pos, af, gd⟩ K = bindP (evIndexAddr P t s.m (s.ev x) (s.ev i)) fun x => K (s.app d ⟨x, []⟩) := by
  simp only [opP, opF]; cases evIndexAddr P t s.m (s.ev x) (s.ev i) <;> simp
@[simp] theorem opP_index (t : TypeId) (x i : Operand) : opP P s ⟨d, .index t x i, ty, pos, af, gd⟩ K = bindP (evIndex P t (s.ev i) (s.ev x)) fun x => K (s.app d ⟨x, []⟩) := by
  simp only [opP, opF]; cases evIndex P t (s.ev i) (s.ev x) <;> simp
@[simp] theorem opP_extract (x : Operand) (i : Nat) : opP P s ⟨d, .extract x i, ty, pos, af, gd⟩ K = bindP (evExtract i (s.ev x)) fun x => K (s.app d ⟨x, []⟩) := by
  simp only [opP, opF]; cases evExtract i (s.ev x) <;> simp
end

/-! evaluation -/
@[simp] theorem cells_agg (cs : List T) : (T.agg cs).cells = cs := rfl
@[simp] theorem cells_vagg (cs : List V) : (T.v (.agg cs)).cells = cs.map .v := rfl
@[simp] theorem vcells_int (k : IntKind) (n : Int) : (V.int k n).cells = [.int k n] := rfl
@[simp] theorem cells_vint (k : IntKind) (n : Int) : (T.v (.int k n)).cells = [.v (.int k n)] := rfl
@[simp] theorem vcells_bool (b : Bool) : (V.bool b).cells = [.bool b] := rfl
@[simp] theorem cells_vbool (b : Bool) : (T.v (.bool b)).cells = [.v (.bool b)] := rfl
@[simp] theorem vcells_str (b : List UInt8) : (V.str b).cells = [.str b] := rfl
@[simp] theorem cells_vstr (b : List UInt8) : (T.v (.str b)).cells = [.v (.str b)] := rfl
@[simp] theorem vcells_sl (b : List V) : (V.sl b).cells = [.sl b] := rfl
@[simp] theorem cells_vsl (b : List V) : (T.v (.sl b)).cells = [.v (.sl b)] := rfl
@[simp] theorem vcells_ref (b : List V) : (V.ref b).cells = [.ref b] := rfl
@[simp] theorem cells_vref (b : List V) : (T.v (.ref b)).cells = [.v (.ref b)] := rfl
@[simp] theorem vcells_fn (f : Nat) (b : List V) : (V.fn f b).cells = [.fn f b] := rfl
@[simp] theorem cells_vfn (f : Nat) (b : List V) : (T.v (.fn f b)).cells = [.v (.fn f b)] := rfl
@[simp] theorem vcells_agg (cs : List V) : (V.agg cs).cells = cs := rfl
@[simp] theorem cells_loc (i : Nat) : (T.loc i).cells = [.loc i] := rfl
@[simp] theorem cells_nil  : (T.nil).cells = [.nil] := rfl
@[simp] theorem cells_sv (i j k : Nat) : (T.sv i j k).cells = [.sv i j k] := rfl
@[simp] theorem cells_ptr (i j : Nat) : (T.ptr i j).cells = [.ptr i j] := rfl
@[simp] theorem cells_fptr (c : List V) (i : Nat) : (T.fptr c i).cells = [.fptr c i] := rfl
@[simp] theorem cells_fn (f : Nat) (c : List T) : (T.fn f c).cells = [.fn f c] := rfl
@[simp] theorem vcell_bool (b : Bool) : (V.bool b).cell = true := rfl
@[simp] theorem vcell_int (k : IntKind) (n : Int) : (V.int k n).cell = true := rfl
@[simp] theorem vcell_str (b : List UInt8) : (V.str b).cell = true := rfl
@[simp] theorem vcell_sl (b : List V) : (V.sl b).cell = true := rfl
@[simp] theorem vcell_ref (b : List V) : (V.ref b).cell = true := rfl
@[simp] theorem vcell_fn (f : Nat) (b : List V) : (V.fn f b).cell = true := rfl
@[simp] theorem vcell_agg (b : List V) : (V.agg b).cell = false := rfl
@[simp] theorem vcell_tup (b : List V) : (V.tup b).cell = false := rfl
@[simp] theorem vcell_any : V.any.cell = false := rfl
@[simp] theorem tcell_v (x : V) : (T.v x).cell = x.cell := rfl
@[simp] theorem tcell_nil : T.nil.cell = true := rfl
@[simp] theorem tcell_loc (i : Nat) : (T.loc i).cell = true := rfl
@[simp] theorem tcell_sv (i j k : Nat) : (T.sv i j k).cell = true := rfl
@[simp] theorem tcell_ptr (i j : Nat) : (T.ptr i j).cell = true := rfl
@[simp] theorem tcell_fptr (c : List V) (i : Nat) : (T.fptr c i).cell = true := rfl
@[simp] theorem tcell_fn (f : Nat) (c : List T) : (T.fn f c).cell = true := rfl
@[simp] theorem tcell_agg (c : List T) : (T.agg c).cell = false := rfl
@[simp] theorem tcell_tup (c : List T) : (T.tup c).cell = false := rfl
@[simp] theorem allC_nil : allC [] ↔ True := by simp [allC]
@[simp] theorem allC_cons (x : T) (xs : List T) : allC (x :: xs) ↔ x.cell = true ∧ allC xs := by simp [allC]
@[simp] theorem allC_append (a b : List T) : allC (a ++ b) ↔ allC a ∧ allC b := by simp [allC, or_imp, forall_and]
@[simp] theorem allC_map {α : Type} (f : α → T) (l : List α) : allC (l.map f) ↔ ∀ a ∈ l, (f a).cell = true := by simp [allC]
@[simp] theorem allZ_nil (k : Nat) : allZ k [] ↔ True := by simp [allZ]
@[simp] theorem allZ_cons (k : Nat) (x : V) (xs : List V) : allZ k (x :: xs) ↔ (x.cells.length = k ∧ ∀ c ∈ x.cells, c.cell = true) ∧ allZ k xs := by simp [allZ]
@[simp] theorem allZ_append (k : Nat) (a b : List V) : allZ k (a ++ b) ↔ allZ k a ∧ allZ k b := ⟨fun h => ⟨fun x hx => h x (List.mem_append_left _ hx), fun x hx => h x (List.mem_append_right _ hx)⟩, fun h x hx => (List.mem_append.1 hx).elim (h.1 x) (h.2 x)⟩
@[simp] theorem allZ_map {α : Type} (k : Nat) (f : α → V) (l : List α) : allZ k (l.map f) ↔ ∀ a ∈ l, (f a).cells.length = k ∧ ∀ c ∈ (f a).cells, c.cell = true := by simp [allZ]
theorem allC_take {l : List T} (h : allC l) (n : Nat) : allC (l.take n) := fun x hx => h x (List.mem_of_mem_take hx)
theorem allC_drop {l : List T} (h : allC l) (n : Nat) : allC (l.drop n) := fun x hx => h x (List.mem_of_mem_drop hx)
attribute [simp] V.flat flatL mapO evNilCheck evFieldAddr evIndex evExtract evNeg evBuild evAlloc evBox evBuildSlice evLoad cutV cutT evStore fpAt evIndexAddr evSlice bnd slRange placeC inOrder newRow appMut appArr appNil appNilMut evAppend evMake toBytes evConvert evLen evBuiltin structEq evBin elems slLen ecells setAt bin intBin cellsEq evPick
@[simp] theorem bor_v (k : Bool) (m : Mem) (d : Nat) (x : V) : bor k m d (.v x) = some x := by cases d <;> rfl
@[simp] theorem bor_nil (k : Bool) (m : Mem) (d : Nat) : bor k m d .nil = some (.sl []) := by cases d <;> rfl
@[simp] theorem bor_loc (k : Bool) (m : Mem) (d : Nat) (id : Nat) : bor k m d (.loc id) = match m id with
    | some (.arr _ xs) => some (.sl xs)
    | some (.ro xs) => some (.sl xs)
    | _ => none := by
  cases d <;> (unfold bor; split <;> simp_all)
@[simp] theorem bor_agg (k : Bool) (m : Mem) (d : Nat) (cs : List T) : bor k m (d + 1) (.agg cs) = obind (mapO (bor k m d) cs) fun xs => tst (∀ x ∈ xs, x.cell = true) (some (.agg xs)) := by simp [bor]
@[simp] theorem bor_tup (k : Bool) (m : Mem) (d : Nat) (cs : List T) : bor k m (d + 1) (.tup cs) = (mapO (bor k m d) cs).map .tup := by simp [bor]
@[simp] theorem bor_fn (k : Bool) (m : Mem) (d : Nat) (f : Nat) (cs : List T) : bor k m (d + 1) (.fn f cs) = (mapO (bor k m d) cs).map (.fn f) := by simp [bor]
@[simp] theorem bor_fptr (k : Bool) (m : Mem) (d : Nat) (cs : List V) : bor k m d (.fptr cs 0) = some (.ref cs) := by cases d <;> rfl

end TL

/- TL, part 20: the transformer is monotone; cuts. -/
set_option linter.unusedVariables false
set_option linter.unusedSimpArgs false
namespace TL
open Go Go.RowKit
variable {P : Program}

theorem bindP_mono {α : Type} {o : Option α} {k k' : α → Prop} (h : ∀ x, k x → k' x) (g : bindP o k) : bindP o k' := by
  obtain ⟨x, h1, h2⟩ := g; exact ⟨x, h1, h x h2⟩
theorem iteP_mono {c : Bool} {A B A' B' : Prop} (h : A → A') (g : B → B') (i : iteP c A B) : iteP c A' B' := by
  cases c
  · exact g i
  · exact h i
theorem opsP_mono {all : List Oper} {Q Q' : S → Prop} (h : ∀ s, Q s → Q' s) : ∀ (l : List Oper) (s : S), opsP P all l Q s → opsP P all l Q' s
  | [], s, g => h s g
  | o :: rest, s, g => by
    unfold opsP at g ⊢
    exact bindP_mono (fun b => iteP_mono (opP_mono fun s' => opsP_mono h rest s') (opsP_mono h rest _)) g
theorem pureC_mono {s : S} {o : Oper} {k k' : Option Nat → T → Prop} (h : ∀ d x, k d x → k' d x) (g : pureC P s o k) : pureC P s o k' := by
  unfold pureC at g ⊢
  split at g
  · obtain ⟨vs, r, h1, h2, h3⟩ := g; exact ⟨vs, r, h1, h2, h _ _ h3⟩
  · obtain ⟨ps, e, vs, h1, h2, h3⟩ := g; exact ⟨ps, e, vs, h1, h2, h _ _ h3⟩
  · exact g
theorem ordP_mono {all : List Oper} {ids : List Nat} {L K : List (List Nat)} {Q Q' : S → Prop} (h : ∀ s, Q s → Q' s) : ∀ (l : List Nat) (s : S), ordP P all ids L K Q l s → ordP P all ids L K Q' l s
  | [], s, g => h s g
  | i :: rest, s, g => by
    unfold ordP at g ⊢
    exact iteP_mono (bindP_mono fun o => bindP_mono fun b => iteP_mono (pureC_mono fun d x => ordP_mono h rest _) (ordP_mono h rest _)) (bindP_mono fun o => bindP_mono fun b => iteP_mono (iteP_mono (opP_mono fun s' => ordP_mono h rest _) (opP_mono fun s' => fun ⟨a, b⟩ => ⟨a, ordP_mono h rest _ b⟩)) (ordP_mono h rest _)) g
theorem ordT_mono {all : List Oper} {ids : List Nat} {L K : List (List Nat)} {Q Q' : S → Prop} (h : ∀ s, Q s → Q' s) : ∀ (t : OT) (s : S), ordT P all ids L K Q t s → ordT P all ids L K Q' t s
  | .done, s, g => h s g
  | .run l r, s, g => by
    unfold ordT at g ⊢
    exact ordP_mono (fun s => ordT_mono h r s) l s g
  | .alt a b, s, g => by
    unfold ordT at g ⊢
    exact ⟨ordT_mono h a s g.1, ordT_mono h b s g.2⟩
theorem twp_mono : ∀ (c : Code) {Q Q' : TExit → S → Prop} {s : S}, (∀ e s, Q e s → Q' e s) → twp P c Q s → twp P c Q' s
  | .skip, Q, Q', s, h, g => by simp only [twp] at g ⊢; exact h _ _ g
  | .seq a b, Q, Q', s, h, g => by
    simp only [twp] at g ⊢
    refine twp_mono a (fun e s g => ?_) g
    cases e with
    | normal => exact twp_mono b h g
    | exit i => exact h _ _ g
    | ret => exact h _ _ g
  | .cond c x y, Q, Q', s, h, g => by
    simp only [twp] at g ⊢
    exact bindP_mono (fun b => iteP_mono (twp_mono x h) (twp_mono y h)) g
  | .block i c, Q, Q', s, h, g => by
    simp only [twp] at g ⊢
    refine twp_mono c (fun e s g => ?_) g
    cases e with
    | normal => exact h _ _ g
    | ret => exact h _ _ g
    | exit j =>
      by_cases hj : j = i
      · simp only [blockP, hj, if_true] at g ⊢; exact h _ _ g
      · simp only [blockP, hj, if_false] at g ⊢; exact h _ _ g
  | .loop c, Q, Q', s, h, g => by
    simp only [twp] at g ⊢
    obtain ⟨I, μ, h1, h2⟩ := g
    refine ⟨I, μ, h1, fun s hs => twp_mono c (fun e s1 g => ?_) (h2 s hs)⟩
    cases e with
    | normal => exact g
    | exit i => exact h _ _ g
    | ret => exact h _ _ g
  | .exit i, Q, Q', s, h, g => by simp only [twp] at g ⊢; exact h _ _ g
  | .ret, Q, Q', s, h, g => by simp only [twp] at g ⊢; exact h _ _ g
  | .region i ops d, Q, Q', s, h, g => by
    simp only [twp] at g ⊢
    cases d with
    | true =>
      obtain ⟨h0, ⟨ord, ids, L, K, h1, h2, h3, h4⟩ | ⟨t, ids, L, K, h1, h2, h3, h4⟩⟩ := g
      · exact ⟨h0, .inl ⟨ord, ids, L, K, h1, h2, h3, ordP_mono (fun s => h _ s) _ _ h4⟩⟩
      · exact ⟨h0, .inr ⟨t, ids, L, K, h1, h2, h3, ordT_mono (fun s => h _ s) _ _ h4⟩⟩
    | false => exact opsP_mono (fun s => h _ s) _ _ g
  | .rangeFunc .., Q, Q', s, h, g => by simp [twp] at g
  | .scope .., Q, Q', s, h, g => by simp [twp] at g
  | .label .., Q, Q', s, h, g => by simp [twp] at g
  | .goto .., Q, Q', s, h, g => by simp [twp] at g

theorem bindP_congr {α : Type} {o : Option α} {k k' : α → Prop} (h : ∀ x, k x = k' x) : bindP o k = bindP o k' := by
  have e : k = k' := funext h
  subst e; rfl
theorem iteP_congr {c : Bool} {A B A' B' : Prop} (h : A = A') (g : B = B') : iteP c A B = iteP c A' B' := by subst h; subst g; rfl
theorem iteP_congr' {c : Bool} {A B A' : Prop} (h : c = true → A = A') : iteP c A B = iteP c A' B := by
  cases c
  · rfl
  · rw [h rfl]
/-- The value of an operation that makes and changes nothing. -/
def opW (P : Program) (mu : Bool) (ρ : Operand → T) (m : Mem) (n : Nat) (op : Op) : Option T := (opF P mu ρ m n op).bind fun E => some E.val
def opV (P : Program) (s : S) (l : List Nat) (o : Oper) (k : Option Nat → T → Prop) [Hd s] [Hd o] [Hd k] : Prop := bindP (opW P s.mu s.ev (rst s.m l) s.n o.op) fun x => k o.dst x
@[simp] theorem opV_mk {s : S} {l : List Nat} {d : Option Nat} {op : Op} {ty : TypeId} {pos : String} {af : Array Edge} {gd : Option (Nat × Bool)} {k : Option Nat → T → Prop} :
    opV P s l ⟨d, op, ty, pos, af, gd⟩ k = bindP (opW P s.mu s.ev (rst s.m l) s.n op) fun x => k d x := nrfl
section
variable {mu : Bool} {ρ : Operand → T} {m : Mem} {n : Nat}
@[simp] theorem opW_move (x : Operand) : opW P mu ρ m n (.move x) = some (ρ x) := rfl
@[simp] theorem opW_assign (x : Operand) : opW P mu ρ m n (.assign x) = some (ρ x) := rfl
@[simp] theorem opW_pick (c a b : Operand) : opW P mu ρ m n (.pick c a b) = obind (boolOf (ρ c)) fun q => some (evPick q (ρ a) (ρ b)) := by simp only [opW, opF]; cases boolOf (ρ c) <;> rfl
@[simp] theorem opW_not (t : TypeId) (x : Operand) : opW P mu ρ m n (.unOp .not t x) = obind (boolOf (ρ x)) fun b => some (.v (.bool !b)) := by simp only [opW, opF]; cases boolOf (ρ x) <;> rfl
@[simp] theorem opW_neg (t : TypeId) (x : Operand) : opW P mu ρ m n (.unOp .neg t x) = evNeg (ρ x) := by simp only [opW, opF]; cases evNeg (ρ x) <;> rfl
@[simp] theorem opW_load (t : TypeId) (a : Operand) : opW P mu ρ m n (.load t a) = evLoad P t m (ρ a) := by simp only [opW, opF]; cases evLoad P t m (ρ a) <;> rfl
@[simp] theorem opW_nilCheck (x : Operand) : opW P mu ρ m n (.nilCheck x) = evNilCheck (ρ x) := by simp only [opW, opF]; cases evNilCheck (ρ x) <;> rfl
@[simp] theorem opW_binOp (op : BinOp) (t t' : TypeId) (x y : Operand) : opW P mu ρ m n (.binOp op t x y t') = evBin P m op t (ρ x) (ρ y) := by simp only [opW, opF]; cases evBin P m op t (ρ x) (ρ y) <;> rfl
@[simp] theorem opW_convert (t t' : TypeId) (x : Operand) : opW P mu ρ m n (.convert t t' x) = evConvert P t t' m (ρ x) := by simp only [opW, opF]; cases evConvert P t t' m (ρ x) <;> rfl
@[simp] theorem opW_slice (t : TypeId) (x : Operand) (lo hi : Option Operand) : opW P mu ρ m n (.slice t x lo hi none) = evSlice P t m (lo.map ρ) (hi.map ρ) (ρ x) := by simp only [opW, opF]; cases evSlice P t m (lo.map ρ) (hi.map ρ) (ρ x) <;> rfl
@[simp] theorem opW_fieldAddr (t : TypeId) (x : Operand) (f : Nat) : opW P mu ρ m n (.fieldAddr t x f) = evFieldAddr P t f (ρ x) := by simp only [opW, opF]; cases evFieldAddr P t f (ρ x) <;> rfl
@[simp] theorem opW_indexAddr (t : TypeId) (x i : Operand) : opW P mu ρ m n (.indexAddr t x i) = evIndexAddr P t m (ρ x) (ρ i) := by simp only [opW, opF]; cases evIndexAddr P t m (ρ x) (ρ i) <;> rfl
@[simp] theorem opW_index (t : TypeId) (x i : Operand) : opW P mu ρ m n (.index t x i) = evIndex P t (ρ i) (ρ x) := by simp only [opW, opF]; cases evIndex P t (ρ i) (ρ x) <;> rfl
@[simp] theorem opW_extract (x : Operand) (i : Nat) : opW P mu ρ m n (.extract x i) = evExtract i (ρ x) := by simp only [opW, opF]; cases evExtract i (ρ x) <;> rfl
@[simp] theorem opW_build (t : TypeId) (l : List (Nat × Operand)) : opW P mu ρ m n (.build t l.toArray) = evBuild P t (l.map fun p => (p.1, ρ p.2)) := by simp only [opW, opF]; cases evBuild P t (l.map fun p => (p.1, ρ p.2)) <;> rfl
@[simp] theorem opW_makeFunc (f : Nat) (cap : List Operand) : opW P mu ρ m n (.makeFunc (.func f) #[] cap.toArray) = some (.fn f (cap.map ρ)) := by simp [opW, opF]
@[simp] theorem opW_builtin (b : Builtin) (args : Array Operand) (ts : Array TypeId) : opW P mu ρ m n (.call ⟨.builtin b, args, ts⟩) = obind (evBuiltin P mu b ts.toList m n (args.toList.map ρ)) fun E => some E.val := rfl
end
@[simp] theorem ordP_cons' {s : S} (all : List Oper) (ids : List Nat) (L K : List (List Nat)) (Q : S → Prop) (i : Nat) (rest : List Nat) : ordP P all ids L K Q (i :: rest) s = iteP (decide (1000 ≤ i)) (bindP (opAt all (i - 1000)) fun o => bindP (guardB all s o.guard) fun g => iteP g (pureC P s o fun d x => ordP P all ids L K Q rest (s.put d x)) (ordP P all ids L K Q rest (s.put o.dst und)))
      (bindP (opAt all i) fun o => bindP (guardB all s o.guard) fun g => iteP g
      (iteP (isVal o.op) (opV P s (idsAt ids L i) o fun d x => ordP P all ids L K Q rest (s.put d x)) (opP P s o fun s' => keepP (idsAt ids K i) s.m s'.m ∧ ordP P all ids L K Q rest s'))
      (ordP P all ids L K Q rest (s.put o.dst und))) := by
  rw [ordP_cons]
  have key : ∀ o : Oper, isVal o.op = true → (opP P (s.rs (idsAt ids L i)) o fun s' => ordP P all ids L K Q rest (s'.wm s.m s.n)) = (opV P s (idsAt ids L i) o fun d x => ordP P all ids L K Q rest (s.put d x)) := by
    intro o ho
    refine propext ⟨fun h => ?_, fun h => ?_⟩
    · obtain ⟨E, h1, h2⟩ := (opP_val ho).1 h
      exact ⟨E.val, by unfold opW; rw [show opF P s.mu s.ev (rst s.m (idsAt ids L i)) s.n o.op = some E from h1]; rfl, h2⟩
    · obtain ⟨x, h1, h2⟩ := h
      unfold opW at h1
      cases e : opF P s.mu s.ev (rst s.m (idsAt ids L i)) s.n o.op with
      | none => rw [e] at h1; cases h1
      | some E =>
        rw [e] at h1; cases h1
        exact (opP_val ho).2 ⟨E, e, h2⟩
  refine iteP_congr rfl (bindP_congr fun o => bindP_congr fun g => iteP_congr (iteP_congr' fun hv => key o hv) rfl)
@[simp] theorem pureC_bld {s : S} {d : Option Nat} {t : TypeId} {len : Nat} {parts : Array (Nat × Operand)} {ty : TypeId} {pos : String} {af : Array Edge} {gd : Option (Nat × Bool)} {k : Option Nat → T → Prop} :
    pureC P s ⟨d, .buildSlice t len parts, ty, pos, af, gd⟩ k = bldQ P t len (parts.toList.map fun p => (p.1, s.ev p.2)) fun vs => k d (.v (.sl vs)) := nrfl
theorem bld_ {t : TypeId} {len : Nat} {xs : List (Nat × T)} {k : List V → Prop} (ps : List (Nat × V)) (e : TypeId) (vs : List V) (h1 : xs = ps.map (fun q => (q.1, T.v q.2))) (h2 : evBuildSlice P false t (fun _ => none) 0 len (ps.map fun q => (q.1, T.v q.2)) = some ⟨.loc 0, [(0, some (.arr e vs))]⟩) (h3 : k vs) : bldQ P t len xs k := ⟨ps, e, vs, h1, h2, h3⟩
@[simp] theorem pureC_mk {s : S} {d : Option Nat} {f : Nat} {args : Array Operand} {ts : Array TypeId} {ty : TypeId} {pos : String} {af : Array Edge} {gd : Option (Nat × Bool)} {k : Option Nat → T → Prop} :
    pureC P s ⟨d, .call ⟨.value (.func f), args, ts⟩, ty, pos, af, gd⟩ k = pureQ P f (args.toList.map s.ev) fun r => k d (.v r) := nrfl
theorem pure_ {f : Nat} {args : List T} {k : V → Prop} {vs : List V} {r : V} (h : FnZ P f vs r) (ha : args = vs.map .v) (hk : k r) : pureQ P f args k := ⟨vs, r, h, ha, hk⟩
/-- A cut behind a part. -/
theorem twp_cut {a b : Code} {Q : TExit → S → Prop} {s : S} (I : S → Prop) (h : twp P a (fun e s1 => thenP I Q e s1) s) (g : ∀ s, I s → twp P b Q s) : twp P (.seq a b) Q s := by
  simp only [twp_seq]
  refine twp_mono a (fun e s g' => ?_) h
  cases e with
  | normal => exact g s g'
  | exit i => exact g'
  | ret => exact g'
theorem twp_cutQ {a : Code} {A : S → Prop} {Q : TExit → S → Prop} {s : S} (I : S → Prop) (h : twp P a (fun e s1 => thenP I Q e s1) s) (g : ∀ s, I s → A s) : twp P a (fun e s1 => thenP A Q e s1) s := by
  refine twp_mono a (fun e s g' => ?_) h
  cases e with
  | normal => exact g s g'
  | exit i => exact g'
  | ret => exact g'
/-- A loop in its block, with a cut behind it. -/
theorem twp_loopC {c : Code} {i : Nat} {A : S → Prop} {Q : TExit → S → Prop} {s : S} (I : S → Prop) (μ : S → Nat) (J : S → Prop) (hi : I s)
    (hs : ∀ s, I s → twp P c (fun e s1 => thenP (fun s' => I s' ∧ μ s' < μ s) (fun e s => blockP i (fun e s1 => thenP J Q e s1) e s) e s1) s)
    (hj : ∀ s, J s → A s) : twp P (.loop c) (fun e s => blockP i (fun e s1 => thenP A Q e s1) e s) s := by
  refine twp_mono (.loop c) (fun e s g' => ?_) (twp_loop I μ hi hs)
  have key : ∀ e s, thenP J Q e s → thenP A Q e s := fun e s g => by
    cases e with
    | normal => exact hj s g
    | exit i => exact g
    | ret => exact g
  cases e with
  | normal => exact key .normal s g'
  | ret => exact key .ret s g'
  | exit j =>
    by_cases hj : j = i
    · simp only [blockP, hj, if_true] at g' ⊢; exact key _ _ g'
    · simp only [blockP, hj, if_false] at g' ⊢; exact key _ _ g'
/-- The state is put away: what is known of it is told first. -/
theorem st_out {I : S → Prop} {s : S} (h : ∀ s' : S, (∀ t, s'.tm t = s.tm t) → s'.m = s.m → s'.n = s.n → s'.mu = s.mu → I s') : I s := h s (fun _ => rfl) rfl rfl rfl
/-- Memory holds nothing beyond its end. -/
theorem FnS_fresh {f : Nat} {m : Mem} {n : Nat} {args : List T} {post : T → Mem → Nat → Prop} (hf : ∃ fn, P.funcs[f]? = some fn ∧ (fn.name == "runtime.NumGoroutine") = false ∧ fn.body.isNone = false) (h : (∀ j, n ≤ j → m j = none) → FnS P f m n args post) : FnS P f m n args post := by
  refine ⟨hf, fun φ Z w us hm hr => (h fun j hj => ?_).2 φ Z w us hm hr⟩
  cases e : m j with
  | none => rfl
  | some b =>
    obtain ⟨v, hv, _⟩ := hm.blk j b e
    rw [hm.fresh j hj] at hv; cases hv
end TL

/- Facts about the types of this seat. -/
namespace TL
open Go Go.Proofs
@[simp] theorem sz_1 : sz Tryz.prog 1 = some 1 := by kernel_rfl
@[simp] theorem bytes_1 : bytes Tryz.prog 1 = some 8 := by kernel_rfl
@[simp] theorem szz_1 : szz Tryz.prog 1 = some 1 := by kernel_rfl
@[simp] theorem isAg_1 : isAg Tryz.prog 1 = some false := by kernel_rfl
@[simp] theorem zeroC_1 : zeroC Tryz.prog 1 = some [.v .any] := by kernel_rfl
@[simp] theorem sz_2 : sz Tryz.prog 2 = some 1 := by kernel_rfl
@[simp] theorem bytes_2 : bytes Tryz.prog 2 = some 8 := by kernel_rfl
@[simp] theorem szz_2 : szz Tryz.prog 2 = some 1 := by kernel_rfl
@[simp] theorem isAg_2 : isAg Tryz.prog 2 = some false := by kernel_rfl
@[simp] theorem intK_2 : intK Tryz.prog 2 = some .i64 := by kernel_rfl
@[simp] theorem zeroC_2 : zeroC Tryz.prog 2 = some [.v (.int .i64 0)] := by kernel_rfl
@[simp] theorem sz_3 : sz Tryz.prog 3 = some 1 := by kernel_rfl
@[simp] theorem bytes_3 : bytes Tryz.prog 3 = some 8 := by kernel_rfl
@[simp] theorem szz_3 : szz Tryz.prog 3 = some 1 := by kernel_rfl
@[simp] theorem isAg_3 : isAg Tryz.prog 3 = some false := by kernel_rfl
@[simp] theorem intK_3 : intK Tryz.prog 3 = some .i64 := by kernel_rfl
@[simp] theorem zeroC_3 : zeroC Tryz.prog 3 = some [.v (.int .i64 0)] := by kernel_rfl
@[simp] theorem sz_4 : sz Tryz.prog 4 = some 1 := by kernel_rfl
@[simp] theorem bytes_4 : bytes Tryz.prog 4 = some 1 := by kernel_rfl
@[simp] theorem szz_4 : szz Tryz.prog 4 = some 1 := by kernel_rfl
@[simp] theorem isAg_4 : isAg Tryz.prog 4 = some false := by kernel_rfl
@[simp] theorem isBool_4 : isBool Tryz.prog 4 = some true := by kernel_rfl
@[simp] theorem zeroC_4 : zeroC Tryz.prog 4 = some [.v (.bool false)] := by kernel_rfl
@[simp] theorem sz_5 : sz Tryz.prog 5 = some 1 := by kernel_rfl
@[simp] theorem bytes_5 : bytes Tryz.prog 5 = some 1 := by kernel_rfl
@[simp] theorem szz_5 : szz Tryz.prog 5 = some 1 := by kernel_rfl
@[simp] theorem isAg_5 : isAg Tryz.prog 5 = some false := by kernel_rfl
@[simp] theorem intK_5 : intK Tryz.prog 5 = some .u8 := by kernel_rfl
@[simp] theorem zeroC_5 : zeroC Tryz.prog 5 = some [.v (.int .u8 0)] := by kernel_rfl
@[simp] theorem sz_9 : sz Tryz.prog 9 = some 1 := by kernel_rfl
@[simp] theorem bytes_9 : bytes Tryz.prog 9 = some 16 := by kernel_rfl
@[simp] theorem szz_9 : szz Tryz.prog 9 = some 1 := by kernel_rfl
@[simp] theorem isAg_9 : isAg Tryz.prog 9 = some false := by kernel_rfl
@[simp] theorem isStr_9 : isStr Tryz.prog 9 = some true := by kernel_rfl
@[simp] theorem zeroC_9 : zeroC Tryz.prog 9 = some [.v (.str [])] := by kernel_rfl
@[simp] theorem sz_12 : sz Tryz.prog 12 = some 1 := by kernel_rfl
@[simp] theorem bytes_12 : bytes Tryz.prog 12 = some 8 := by kernel_rfl
@[simp] theorem szz_12 : szz Tryz.prog 12 = some 1 := by kernel_rfl
@[simp] theorem isAg_12 : isAg Tryz.prog 12 = some false := by kernel_rfl
@[simp] theorem intK_12 : intK Tryz.prog 12 = some .u64 := by kernel_rfl
@[simp] theorem zeroC_12 : zeroC Tryz.prog 12 = some [.v (.int .u64 0)] := by kernel_rfl
@[simp] theorem sz_21 : sz Tryz.prog 21 = some 1 := by kernel_rfl
@[simp] theorem bytes_21 : bytes Tryz.prog 21 = some 4 := by kernel_rfl
@[simp] theorem szz_21 : szz Tryz.prog 21 = some 1 := by kernel_rfl
@[simp] theorem isAg_21 : isAg Tryz.prog 21 = some false := by kernel_rfl
@[simp] theorem intK_21 : intK Tryz.prog 21 = some .i32 := by kernel_rfl
@[simp] theorem zeroC_21 : zeroC Tryz.prog 21 = some [.v (.int .i32 0)] := by kernel_rfl
@[simp] theorem sz_22 : sz Tryz.prog 22 = some 3 := by kernel_rfl
@[simp] theorem bytes_22 : bytes Tryz.prog 22 = some 40 := by kernel_rfl
@[simp] theorem szz_22 : szz Tryz.prog 22 = some 3 := by kernel_rfl
@[simp] theorem isAg_22 : isAg Tryz.prog 22 = some true := by kernel_rfl
@[simp] theorem zeroC_22 : zeroC Tryz.prog 22 = some [.v (.str []), .v (.str []), .v (.int .i64 0)] := by kernel_rfl
@[simp] theorem fieldsOk_22 : fieldsOk Tryz.prog 22 = true := by kernel_rfl
@[simp] theorem eqKinds_22 : eqKinds Tryz.prog 22 = some [2, 2, 1] := by kernel_rfl
@[simp] theorem fo_22_0 : fo Tryz.prog 22 0 = some 0 := by kernel_rfl
@[simp] theorem fsz_22_0 : fsz Tryz.prog 22 0 = some 1 := by kernel_rfl
@[simp] theorem fo_22_1 : fo Tryz.prog 22 1 = some 1 := by kernel_rfl
@[simp] theorem fsz_22_1 : fsz Tryz.prog 22 1 = some 1 := by kernel_rfl
@[simp] theorem fo_22_2 : fo Tryz.prog 22 2 = some 2 := by kernel_rfl
@[simp] theorem fsz_22_2 : fsz Tryz.prog 22 2 = some 1 := by kernel_rfl
@[simp] theorem sz_23 : sz Tryz.prog 23 = some 3 := by kernel_rfl
@[simp] theorem bytes_23 : bytes Tryz.prog 23 = some 40 := by kernel_rfl
@[simp] theorem szz_23 : szz Tryz.prog 23 = some 3 := by kernel_rfl
@[simp] theorem isAg_23 : isAg Tryz.prog 23 = some true := by kernel_rfl
@[simp] theorem zeroC_23 : zeroC Tryz.prog 23 = some [.v (.str []), .v (.str []), .v (.int .i64 0)] := by kernel_rfl
@[simp] theorem fieldsOk_23 : fieldsOk Tryz.prog 23 = true := by kernel_rfl
@[simp] theorem eqKinds_23 : eqKinds Tryz.prog 23 = some [2, 2, 1] := by kernel_rfl
@[simp] theorem fo_23_0 : fo Tryz.prog 23 0 = some 0 := by kernel_rfl
@[simp] theorem fsz_23_0 : fsz Tryz.prog 23 0 = some 1 := by kernel_rfl
@[simp] theorem fo_23_1 : fo Tryz.prog 23 1 = some 1 := by kernel_rfl
@[simp] theorem fsz_23_1 : fsz Tryz.prog 23 1 = some 1 := by kernel_rfl
@[simp] theorem fo_23_2 : fo Tryz.prog 23 2 = some 2 := by kernel_rfl
@[simp] theorem fsz_23_2 : fsz Tryz.prog 23 2 = some 1 := by kernel_rfl
@[simp] theorem sz_24 : sz Tryz.prog 24 = some 1 := by kernel_rfl
@[simp] theorem bytes_24 : bytes Tryz.prog 24 = some 8 := by kernel_rfl
@[simp] theorem szz_24 : szz Tryz.prog 24 = some 1 := by kernel_rfl
@[simp] theorem isAg_24 : isAg Tryz.prog 24 = some false := by kernel_rfl
@[simp] theorem zeroC_24 : zeroC Tryz.prog 24 = some [.v .any] := by kernel_rfl
@[simp] theorem sz_25 : sz Tryz.prog 25 = some 3 := by kernel_rfl
@[simp] theorem bytes_25 : bytes Tryz.prog 25 = some 40 := by kernel_rfl
@[simp] theorem szz_25 : szz Tryz.prog 25 = some 3 := by kernel_rfl
@[simp] theorem isAg_25 : isAg Tryz.prog 25 = some true := by kernel_rfl
@[simp] theorem zeroC_25 : zeroC Tryz.prog 25 = some [.v (.str []), .v (.str []), .v (.int .i64 0)] := by kernel_rfl
@[simp] theorem fieldsOk_25 : fieldsOk Tryz.prog 25 = true := by kernel_rfl
@[simp] theorem eqKinds_25 : eqKinds Tryz.prog 25 = some [2, 2, 1] := by kernel_rfl
@[simp] theorem fo_25_0 : fo Tryz.prog 25 0 = some 0 := by kernel_rfl
@[simp] theorem fsz_25_0 : fsz Tryz.prog 25 0 = some 1 := by kernel_rfl
@[simp] theorem fo_25_1 : fo Tryz.prog 25 1 = some 1 := by kernel_rfl
@[simp] theorem fsz_25_1 : fsz Tryz.prog 25 1 = some 1 := by kernel_rfl
@[simp] theorem fo_25_2 : fo Tryz.prog 25 2 = some 2 := by kernel_rfl
@[simp] theorem fsz_25_2 : fsz Tryz.prog 25 2 = some 1 := by kernel_rfl
@[simp] theorem sz_27 : sz Tryz.prog 27 = some 1 := by kernel_rfl
@[simp] theorem bytes_27 : bytes Tryz.prog 27 = some 8 := by kernel_rfl
@[simp] theorem szz_27 : szz Tryz.prog 27 = some 1 := by kernel_rfl
@[simp] theorem isAg_27 : isAg Tryz.prog 27 = some false := by kernel_rfl
@[simp] theorem zeroC_27 : zeroC Tryz.prog 27 = some [.v .any] := by kernel_rfl
@[simp] theorem sz_28 : sz Tryz.prog 28 = some 1 := by kernel_rfl
@[simp] theorem bytes_28 : bytes Tryz.prog 28 = some 8 := by kernel_rfl
@[simp] theorem szz_28 : szz Tryz.prog 28 = some 1 := by kernel_rfl
@[simp] theorem isAg_28 : isAg Tryz.prog 28 = some false := by kernel_rfl
@[simp] theorem zeroC_28 : zeroC Tryz.prog 28 = some [.v .any] := by kernel_rfl
@[simp] theorem sz_29 : sz Tryz.prog 29 = some 1 := by kernel_rfl
@[simp] theorem bytes_29 : bytes Tryz.prog 29 = some 8 := by kernel_rfl
@[simp] theorem szz_29 : szz Tryz.prog 29 = some 1 := by kernel_rfl
@[simp] theorem isAg_29 : isAg Tryz.prog 29 = some false := by kernel_rfl
@[simp] theorem zeroC_29 : zeroC Tryz.prog 29 = some [.v .any] := by kernel_rfl
@[simp] theorem sz_30 : sz Tryz.prog 30 = some 1 := by kernel_rfl
@[simp] theorem bytes_30 : bytes Tryz.prog 30 = some 8 := by kernel_rfl
@[simp] theorem szz_30 : szz Tryz.prog 30 = some 1 := by kernel_rfl
@[simp] theorem isAg_30 : isAg Tryz.prog 30 = some false := by kernel_rfl
@[simp] theorem zeroC_30 : zeroC Tryz.prog 30 = some [.v .any] := by kernel_rfl
@[simp] theorem sz_31 : sz Tryz.prog 31 = some 3 := by kernel_rfl
@[simp] theorem bytes_31 : bytes Tryz.prog 31 = some 32 := by kernel_rfl
@[simp] theorem szz_31 : szz Tryz.prog 31 = some 3 := by kernel_rfl
@[simp] theorem isAg_31 : isAg Tryz.prog 31 = some true := by kernel_rfl
@[simp] theorem zeroC_31 : zeroC Tryz.prog 31 = some [.v (.int .i64 0), .v (.int .i64 0), .v (.str [])] := by kernel_rfl
@[simp] theorem fieldsOk_31 : fieldsOk Tryz.prog 31 = true := by kernel_rfl
@[simp] theorem eqKinds_31 : eqKinds Tryz.prog 31 = some [1, 1, 2] := by kernel_rfl
@[simp] theorem fo_31_0 : fo Tryz.prog 31 0 = some 0 := by kernel_rfl
@[simp] theorem fsz_31_0 : fsz Tryz.prog 31 0 = some 1 := by kernel_rfl
@[simp] theorem fo_31_1 : fo Tryz.prog 31 1 = some 1 := by kernel_rfl
@[simp] theorem fsz_31_1 : fsz Tryz.prog 31 1 = some 1 := by kernel_rfl
@[simp] theorem fo_31_2 : fo Tryz.prog 31 2 = some 2 := by kernel_rfl
@[simp] theorem fsz_31_2 : fsz Tryz.prog 31 2 = some 1 := by kernel_rfl
@[simp] theorem sz_32 : sz Tryz.prog 32 = some 3 := by kernel_rfl
@[simp] theorem bytes_32 : bytes Tryz.prog 32 = some 32 := by kernel_rfl
@[simp] theorem szz_32 : szz Tryz.prog 32 = some 3 := by kernel_rfl
@[simp] theorem isAg_32 : isAg Tryz.prog 32 = some true := by kernel_rfl
@[simp] theorem zeroC_32 : zeroC Tryz.prog 32 = some [.v (.int .i64 0), .v (.int .i64 0), .v (.str [])] := by kernel_rfl
@[simp] theorem fieldsOk_32 : fieldsOk Tryz.prog 32 = true := by kernel_rfl
@[simp] theorem eqKinds_32 : eqKinds Tryz.prog 32 = some [1, 1, 2] := by kernel_rfl
@[simp] theorem fo_32_0 : fo Tryz.prog 32 0 = some 0 := by kernel_rfl
@[simp] theorem fsz_32_0 : fsz Tryz.prog 32 0 = some 1 := by kernel_rfl
@[simp] theorem fo_32_1 : fo Tryz.prog 32 1 = some 1 := by kernel_rfl
@[simp] theorem fsz_32_1 : fsz Tryz.prog 32 1 = some 1 := by kernel_rfl
@[simp] theorem fo_32_2 : fo Tryz.prog 32 2 = some 2 := by kernel_rfl
@[simp] theorem fsz_32_2 : fsz Tryz.prog 32 2 = some 1 := by kernel_rfl
@[simp] theorem sz_33 : sz Tryz.prog 33 = some 1 := by kernel_rfl
@[simp] theorem bytes_33 : bytes Tryz.prog 33 = some 8 := by kernel_rfl
@[simp] theorem szz_33 : szz Tryz.prog 33 = some 1 := by kernel_rfl
@[simp] theorem isAg_33 : isAg Tryz.prog 33 = some false := by kernel_rfl
@[simp] theorem zeroC_33 : zeroC Tryz.prog 33 = some [.v .any] := by kernel_rfl
@[simp] theorem sz_34 : sz Tryz.prog 34 = some 1 := by kernel_rfl
@[simp] theorem bytes_34 : bytes Tryz.prog 34 = some 8 := by kernel_rfl
@[simp] theorem szz_34 : szz Tryz.prog 34 = some 1 := by kernel_rfl
@[simp] theorem isAg_34 : isAg Tryz.prog 34 = some false := by kernel_rfl
@[simp] theorem zeroC_34 : zeroC Tryz.prog 34 = some [.v .any] := by kernel_rfl
@[simp] theorem sz_35 : sz Tryz.prog 35 = some 3 := by kernel_rfl
@[simp] theorem bytes_35 : bytes Tryz.prog 35 = some 32 := by kernel_rfl
@[simp] theorem szz_35 : szz Tryz.prog 35 = some 3 := by kernel_rfl
@[simp] theorem isAg_35 : isAg Tryz.prog 35 = some true := by kernel_rfl
@[simp] theorem zeroC_35 : zeroC Tryz.prog 35 = some [.v (.int .i64 0), .v (.int .i64 0), .v (.str [])] := by kernel_rfl
@[simp] theorem fieldsOk_35 : fieldsOk Tryz.prog 35 = true := by kernel_rfl
@[simp] theorem eqKinds_35 : eqKinds Tryz.prog 35 = some [1, 1, 2] := by kernel_rfl
@[simp] theorem fo_35_0 : fo Tryz.prog 35 0 = some 0 := by kernel_rfl
@[simp] theorem fsz_35_0 : fsz Tryz.prog 35 0 = some 1 := by kernel_rfl
@[simp] theorem fo_35_1 : fo Tryz.prog 35 1 = some 1 := by kernel_rfl
@[simp] theorem fsz_35_1 : fsz Tryz.prog 35 1 = some 1 := by kernel_rfl
@[simp] theorem fo_35_2 : fo Tryz.prog 35 2 = some 2 := by kernel_rfl
@[simp] theorem fsz_35_2 : fsz Tryz.prog 35 2 = some 1 := by kernel_rfl
@[simp] theorem sz_36 : sz Tryz.prog 36 = some 1 := by kernel_rfl
@[simp] theorem bytes_36 : bytes Tryz.prog 36 = some 8 := by kernel_rfl
@[simp] theorem szz_36 : szz Tryz.prog 36 = some 1 := by kernel_rfl
@[simp] theorem isAg_36 : isAg Tryz.prog 36 = some false := by kernel_rfl
@[simp] theorem zeroC_36 : zeroC Tryz.prog 36 = some [.v .any] := by kernel_rfl
@[simp] theorem sz_37 : sz Tryz.prog 37 = some 1 := by kernel_rfl
@[simp] theorem bytes_37 : bytes Tryz.prog 37 = some 8 := by kernel_rfl
@[simp] theorem szz_37 : szz Tryz.prog 37 = some 1 := by kernel_rfl
@[simp] theorem isAg_37 : isAg Tryz.prog 37 = some false := by kernel_rfl
@[simp] theorem zeroC_37 : zeroC Tryz.prog 37 = some [.v .any] := by kernel_rfl
@[simp] theorem sz_38 : sz Tryz.prog 38 = some 1 := by kernel_rfl
@[simp] theorem bytes_38 : bytes Tryz.prog 38 = some 24 := by kernel_rfl
@[simp] theorem szz_38 : szz Tryz.prog 38 = some 1 := by kernel_rfl
@[simp] theorem isAg_38 : isAg Tryz.prog 38 = some false := by kernel_rfl
@[simp] theorem elT_38 : elT Tryz.prog 38 = some 5 := by kernel_rfl
@[simp] theorem isStr_38 : isStr Tryz.prog 38 = some false := by kernel_rfl
@[simp] theorem zeroC_38 : zeroC Tryz.prog 38 = some [.nil] := by kernel_rfl
@[simp] theorem sz_39 : sz Tryz.prog 39 = some 1 := by kernel_rfl
@[simp] theorem bytes_39 : bytes Tryz.prog 39 = some 8 := by kernel_rfl
@[simp] theorem szz_39 : szz Tryz.prog 39 = some 1 := by kernel_rfl
@[simp] theorem isAg_39 : isAg Tryz.prog 39 = some false := by kernel_rfl
@[simp] theorem zeroC_39 : zeroC Tryz.prog 39 = some [.v .any] := by kernel_rfl
@[simp] theorem sz_40 : sz Tryz.prog 40 = some 1 := by kernel_rfl
@[simp] theorem bytes_40 : bytes Tryz.prog 40 = some 8 := by kernel_rfl
@[simp] theorem szz_40 : szz Tryz.prog 40 = some 1 := by kernel_rfl
@[simp] theorem isAg_40 : isAg Tryz.prog 40 = some false := by kernel_rfl
@[simp] theorem zeroC_40 : zeroC Tryz.prog 40 = some [.v .any] := by kernel_rfl
@[simp] theorem sz_41 : sz Tryz.prog 41 = some 1 := by kernel_rfl
@[simp] theorem bytes_41 : bytes Tryz.prog 41 = some 8 := by kernel_rfl
@[simp] theorem szz_41 : szz Tryz.prog 41 = some 1 := by kernel_rfl
@[simp] theorem isAg_41 : isAg Tryz.prog 41 = some false := by kernel_rfl
@[simp] theorem zeroC_41 : zeroC Tryz.prog 41 = some [.v .any] := by kernel_rfl
@[simp] theorem sz_42 : sz Tryz.prog 42 = some 1 := by kernel_rfl
@[simp] theorem bytes_42 : bytes Tryz.prog 42 = some 8 := by kernel_rfl
@[simp] theorem szz_42 : szz Tryz.prog 42 = some 1 := by kernel_rfl
@[simp] theorem isAg_42 : isAg Tryz.prog 42 = some false := by kernel_rfl
@[simp] theorem zeroC_42 : zeroC Tryz.prog 42 = some [.v .any] := by kernel_rfl
@[simp] theorem sz_44 : sz Tryz.prog 44 = some 1 := by kernel_rfl
@[simp] theorem bytes_44 : bytes Tryz.prog 44 = some 8 := by kernel_rfl
@[simp] theorem szz_44 : szz Tryz.prog 44 = some 1 := by kernel_rfl
@[simp] theorem isAg_44 : isAg Tryz.prog 44 = some false := by kernel_rfl
@[simp] theorem zeroC_44 : zeroC Tryz.prog 44 = some [.v .any] := by kernel_rfl
@[simp] theorem sz_45 : sz Tryz.prog 45 = some 1 := by kernel_rfl
@[simp] theorem bytes_45 : bytes Tryz.prog 45 = some 8 := by kernel_rfl
@[simp] theorem szz_45 : szz Tryz.prog 45 = some 1 := by kernel_rfl
@[simp] theorem isAg_45 : isAg Tryz.prog 45 = some false := by kernel_rfl
@[simp] theorem zeroC_45 : zeroC Tryz.prog 45 = some [.v .any] := by kernel_rfl
@[simp] theorem sz_46 : sz Tryz.prog 46 = some 1 := by kernel_rfl
@[simp] theorem bytes_46 : bytes Tryz.prog 46 = some 24 := by kernel_rfl
@[simp] theorem szz_46 : szz Tryz.prog 46 = some 1 := by kernel_rfl
@[simp] theorem isAg_46 : isAg Tryz.prog 46 = some false := by kernel_rfl
@[simp] theorem elT_46 : elT Tryz.prog 46 = some 89 := by kernel_rfl
@[simp] theorem isStr_46 : isStr Tryz.prog 46 = some false := by kernel_rfl
@[simp] theorem zeroC_46 : zeroC Tryz.prog 46 = some [.nil] := by kernel_rfl
@[simp] theorem sz_47 : sz Tryz.prog 47 = some 2 := by kernel_rfl
@[simp] theorem bytes_47 : bytes Tryz.prog 47 = some 32 := by kernel_rfl
@[simp] theorem szz_47 : szz Tryz.prog 47 = some 2 := by kernel_rfl
@[simp] theorem isAg_47 : isAg Tryz.prog 47 = some true := by kernel_rfl
@[simp] theorem zeroC_47 : zeroC Tryz.prog 47 = some [.v (.int .i64 0), .nil] := by kernel_rfl
@[simp] theorem fieldsOk_47 : fieldsOk Tryz.prog 47 = true := by kernel_rfl
@[simp] theorem fo_47_0 : fo Tryz.prog 47 0 = some 0 := by kernel_rfl
@[simp] theorem fsz_47_0 : fsz Tryz.prog 47 0 = some 1 := by kernel_rfl
@[simp] theorem fo_47_1 : fo Tryz.prog 47 1 = some 1 := by kernel_rfl
@[simp] theorem fsz_47_1 : fsz Tryz.prog 47 1 = some 1 := by kernel_rfl
@[simp] theorem sz_48 : sz Tryz.prog 48 = some 2 := by kernel_rfl
@[simp] theorem bytes_48 : bytes Tryz.prog 48 = some 32 := by kernel_rfl
@[simp] theorem szz_48 : szz Tryz.prog 48 = some 2 := by kernel_rfl
@[simp] theorem isAg_48 : isAg Tryz.prog 48 = some true := by kernel_rfl
@[simp] theorem zeroC_48 : zeroC Tryz.prog 48 = some [.v (.int .i64 0), .nil] := by kernel_rfl
@[simp] theorem fieldsOk_48 : fieldsOk Tryz.prog 48 = true := by kernel_rfl
@[simp] theorem fo_48_0 : fo Tryz.prog 48 0 = some 0 := by kernel_rfl
@[simp] theorem fsz_48_0 : fsz Tryz.prog 48 0 = some 1 := by kernel_rfl
@[simp] theorem fo_48_1 : fo Tryz.prog 48 1 = some 1 := by kernel_rfl
@[simp] theorem fsz_48_1 : fsz Tryz.prog 48 1 = some 1 := by kernel_rfl
@[simp] theorem sz_49 : sz Tryz.prog 49 = some 1 := by kernel_rfl
@[simp] theorem bytes_49 : bytes Tryz.prog 49 = some 8 := by kernel_rfl
@[simp] theorem szz_49 : szz Tryz.prog 49 = some 1 := by kernel_rfl
@[simp] theorem isAg_49 : isAg Tryz.prog 49 = some false := by kernel_rfl
@[simp] theorem zeroC_49 : zeroC Tryz.prog 49 = some [.v .any] := by kernel_rfl
@[simp] theorem sz_50 : sz Tryz.prog 50 = some 1 := by kernel_rfl
@[simp] theorem bytes_50 : bytes Tryz.prog 50 = some 8 := by kernel_rfl
@[simp] theorem szz_50 : szz Tryz.prog 50 = some 1 := by kernel_rfl
@[simp] theorem isAg_50 : isAg Tryz.prog 50 = some false := by kernel_rfl
@[simp] theorem zeroC_50 : zeroC Tryz.prog 50 = some [.v .any] := by kernel_rfl
@[simp] theorem sz_51 : sz Tryz.prog 51 = some 1 := by kernel_rfl
@[simp] theorem bytes_51 : bytes Tryz.prog 51 = some 24 := by kernel_rfl
@[simp] theorem szz_51 : szz Tryz.prog 51 = some 1 := by kernel_rfl
@[simp] theorem isAg_51 : isAg Tryz.prog 51 = some false := by kernel_rfl
@[simp] theorem elT_51 : elT Tryz.prog 51 = some 48 := by kernel_rfl
@[simp] theorem isStr_51 : isStr Tryz.prog 51 = some false := by kernel_rfl
@[simp] theorem zeroC_51 : zeroC Tryz.prog 51 = some [.nil] := by kernel_rfl
@[simp] theorem sz_52 : sz Tryz.prog 52 = some 3 := by kernel_rfl
@[simp] theorem bytes_52 : bytes Tryz.prog 52 = some 56 := by kernel_rfl
@[simp] theorem szz_52 : szz Tryz.prog 52 = some 3 := by kernel_rfl
@[simp] theorem isAg_52 : isAg Tryz.prog 52 = some true := by kernel_rfl
@[simp] theorem zeroC_52 : zeroC Tryz.prog 52 = some [.v (.int .i64 0), .nil, .nil] := by kernel_rfl
@[simp] theorem fieldsOk_52 : fieldsOk Tryz.prog 52 = true := by kernel_rfl
@[simp] theorem fo_52_0 : fo Tryz.prog 52 0 = some 0 := by kernel_rfl
@[simp] theorem fsz_52_0 : fsz Tryz.prog 52 0 = some 2 := by kernel_rfl
@[simp] theorem fo_52_1 : fo Tryz.prog 52 1 = some 2 := by kernel_rfl
@[simp] theorem fsz_52_1 : fsz Tryz.prog 52 1 = some 1 := by kernel_rfl
@[simp] theorem sz_53 : sz Tryz.prog 53 = some 3 := by kernel_rfl
@[simp] theorem bytes_53 : bytes Tryz.prog 53 = some 56 := by kernel_rfl
@[simp] theorem szz_53 : szz Tryz.prog 53 = some 3 := by kernel_rfl
@[simp] theorem isAg_53 : isAg Tryz.prog 53 = some true := by kernel_rfl
@[simp] theorem zeroC_53 : zeroC Tryz.prog 53 = some [.v (.int .i64 0), .nil, .nil] := by kernel_rfl
@[simp] theorem fieldsOk_53 : fieldsOk Tryz.prog 53 = true := by kernel_rfl
@[simp] theorem fo_53_0 : fo Tryz.prog 53 0 = some 0 := by kernel_rfl
@[simp] theorem fsz_53_0 : fsz Tryz.prog 53 0 = some 2 := by kernel_rfl
@[simp] theorem fo_53_1 : fo Tryz.prog 53 1 = some 2 := by kernel_rfl
@[simp] theorem fsz_53_1 : fsz Tryz.prog 53 1 = some 1 := by kernel_rfl
@[simp] theorem sz_55 : sz Tryz.prog 55 = some 1 := by kernel_rfl
@[simp] theorem bytes_55 : bytes Tryz.prog 55 = some 8 := by kernel_rfl
@[simp] theorem szz_55 : szz Tryz.prog 55 = some 1 := by kernel_rfl
@[simp] theorem isAg_55 : isAg Tryz.prog 55 = some false := by kernel_rfl
@[simp] theorem zeroC_55 : zeroC Tryz.prog 55 = some [.v .any] := by kernel_rfl
@[simp] theorem sz_56 : sz Tryz.prog 56 = some 1 := by kernel_rfl
@[simp] theorem bytes_56 : bytes Tryz.prog 56 = some 8 := by kernel_rfl
@[simp] theorem szz_56 : szz Tryz.prog 56 = some 1 := by kernel_rfl
@[simp] theorem isAg_56 : isAg Tryz.prog 56 = some false := by kernel_rfl
@[simp] theorem zeroC_56 : zeroC Tryz.prog 56 = some [.v .any] := by kernel_rfl
@[simp] theorem sz_57 : sz Tryz.prog 57 = some 1 := by kernel_rfl
@[simp] theorem bytes_57 : bytes Tryz.prog 57 = some 8 := by kernel_rfl
@[simp] theorem szz_57 : szz Tryz.prog 57 = some 1 := by kernel_rfl
@[simp] theorem isAg_57 : isAg Tryz.prog 57 = some false := by kernel_rfl
@[simp] theorem zeroC_57 : zeroC Tryz.prog 57 = some [.v .any] := by kernel_rfl
@[simp] theorem sz_58 : sz Tryz.prog 58 = some 1 := by kernel_rfl
@[simp] theorem bytes_58 : bytes Tryz.prog 58 = some 24 := by kernel_rfl
@[simp] theorem szz_58 : szz Tryz.prog 58 = some 1 := by kernel_rfl
@[simp] theorem isAg_58 : isAg Tryz.prog 58 = some false := by kernel_rfl
@[simp] theorem elT_58 : elT Tryz.prog 58 = some 35 := by kernel_rfl
@[simp] theorem isStr_58 : isStr Tryz.prog 58 = some false := by kernel_rfl
@[simp] theorem zeroC_58 : zeroC Tryz.prog 58 = some [.nil] := by kernel_rfl
@[simp] theorem sz_60 : sz Tryz.prog 60 = some 1 := by kernel_rfl
@[simp] theorem bytes_60 : bytes Tryz.prog 60 = some 8 := by kernel_rfl
@[simp] theorem szz_60 : szz Tryz.prog 60 = some 1 := by kernel_rfl
@[simp] theorem isAg_60 : isAg Tryz.prog 60 = some false := by kernel_rfl
@[simp] theorem zeroC_60 : zeroC Tryz.prog 60 = some [.v .any] := by kernel_rfl
@[simp] theorem sz_62 : sz Tryz.prog 62 = some 1 := by kernel_rfl
@[simp] theorem bytes_62 : bytes Tryz.prog 62 = some 8 := by kernel_rfl
@[simp] theorem szz_62 : szz Tryz.prog 62 = some 1 := by kernel_rfl
@[simp] theorem isAg_62 : isAg Tryz.prog 62 = some false := by kernel_rfl
@[simp] theorem zeroC_62 : zeroC Tryz.prog 62 = some [.v .any] := by kernel_rfl
@[simp] theorem sz_63 : sz Tryz.prog 63 = some 1 := by kernel_rfl
@[simp] theorem bytes_63 : bytes Tryz.prog 63 = some 8 := by kernel_rfl
@[simp] theorem szz_63 : szz Tryz.prog 63 = some 1 := by kernel_rfl
@[simp] theorem isAg_63 : isAg Tryz.prog 63 = some false := by kernel_rfl
@[simp] theorem zeroC_63 : zeroC Tryz.prog 63 = some [.v .any] := by kernel_rfl
@[simp] theorem sz_64 : sz Tryz.prog 64 = some 1 := by kernel_rfl
@[simp] theorem bytes_64 : bytes Tryz.prog 64 = some 8 := by kernel_rfl
@[simp] theorem szz_64 : szz Tryz.prog 64 = some 1 := by kernel_rfl
@[simp] theorem isAg_64 : isAg Tryz.prog 64 = some false := by kernel_rfl
@[simp] theorem zeroC_64 : zeroC Tryz.prog 64 = some [.v .any] := by kernel_rfl
@[simp] theorem sz_65 : sz Tryz.prog 65 = some 1 := by kernel_rfl
@[simp] theorem bytes_65 : bytes Tryz.prog 65 = some 8 := by kernel_rfl
@[simp] theorem szz_65 : szz Tryz.prog 65 = some 1 := by kernel_rfl
@[simp] theorem isAg_65 : isAg Tryz.prog 65 = some false := by kernel_rfl
@[simp] theorem zeroC_65 : zeroC Tryz.prog 65 = some [.v .any] := by kernel_rfl
@[simp] theorem sz_66 : sz Tryz.prog 66 = some 1 := by kernel_rfl
@[simp] theorem bytes_66 : bytes Tryz.prog 66 = some 8 := by kernel_rfl
@[simp] theorem szz_66 : szz Tryz.prog 66 = some 1 := by kernel_rfl
@[simp] theorem isAg_66 : isAg Tryz.prog 66 = some false := by kernel_rfl
@[simp] theorem zeroC_66 : zeroC Tryz.prog 66 = some [.v .any] := by kernel_rfl
@[simp] theorem sz_67 : sz Tryz.prog 67 = some 1 := by kernel_rfl
@[simp] theorem bytes_67 : bytes Tryz.prog 67 = some 8 := by kernel_rfl
@[simp] theorem szz_67 : szz Tryz.prog 67 = some 1 := by kernel_rfl
@[simp] theorem isAg_67 : isAg Tryz.prog 67 = some false := by kernel_rfl
@[simp] theorem zeroC_67 : zeroC Tryz.prog 67 = some [.v .any] := by kernel_rfl
@[simp] theorem sz_68 : sz Tryz.prog 68 = some 1 := by kernel_rfl
@[simp] theorem bytes_68 : bytes Tryz.prog 68 = some 8 := by kernel_rfl
@[simp] theorem szz_68 : szz Tryz.prog 68 = some 1 := by kernel_rfl
@[simp] theorem isAg_68 : isAg Tryz.prog 68 = some false := by kernel_rfl
@[simp] theorem zeroC_68 : zeroC Tryz.prog 68 = some [.v .any] := by kernel_rfl
@[simp] theorem sz_69 : sz Tryz.prog 69 = some 1 := by kernel_rfl
@[simp] theorem bytes_69 : bytes Tryz.prog 69 = some 8 := by kernel_rfl
@[simp] theorem szz_69 : szz Tryz.prog 69 = some 1 := by kernel_rfl
@[simp] theorem isAg_69 : isAg Tryz.prog 69 = some false := by kernel_rfl
@[simp] theorem zeroC_69 : zeroC Tryz.prog 69 = some [.v .any] := by kernel_rfl
@[simp] theorem sz_71 : sz Tryz.prog 71 = some 1 := by kernel_rfl
@[simp] theorem bytes_71 : bytes Tryz.prog 71 = some 8 := by kernel_rfl
@[simp] theorem szz_71 : szz Tryz.prog 71 = some 1 := by kernel_rfl
@[simp] theorem isAg_71 : isAg Tryz.prog 71 = some false := by kernel_rfl
@[simp] theorem zeroC_71 : zeroC Tryz.prog 71 = some [.v .any] := by kernel_rfl
@[simp] theorem sz_72 : sz Tryz.prog 72 = some 1 := by kernel_rfl
@[simp] theorem bytes_72 : bytes Tryz.prog 72 = some 8 := by kernel_rfl
@[simp] theorem szz_72 : szz Tryz.prog 72 = some 1 := by kernel_rfl
@[simp] theorem isAg_72 : isAg Tryz.prog 72 = some false := by kernel_rfl
@[simp] theorem zeroC_72 : zeroC Tryz.prog 72 = some [.v .any] := by kernel_rfl
@[simp] theorem sz_73 : sz Tryz.prog 73 = some 1 := by kernel_rfl
@[simp] theorem bytes_73 : bytes Tryz.prog 73 = some 8 := by kernel_rfl
@[simp] theorem szz_73 : szz Tryz.prog 73 = some 1 := by kernel_rfl
@[simp] theorem isAg_73 : isAg Tryz.prog 73 = some false := by kernel_rfl
@[simp] theorem zeroC_73 : zeroC Tryz.prog 73 = some [.v .any] := by kernel_rfl
@[simp] theorem sz_74 : sz Tryz.prog 74 = some 1 := by kernel_rfl
@[simp] theorem bytes_74 : bytes Tryz.prog 74 = some 8 := by kernel_rfl
@[simp] theorem szz_74 : szz Tryz.prog 74 = some 1 := by kernel_rfl
@[simp] theorem isAg_74 : isAg Tryz.prog 74 = some false := by kernel_rfl
@[simp] theorem zeroC_74 : zeroC Tryz.prog 74 = some [.v .any] := by kernel_rfl
@[simp] theorem sz_75 : sz Tryz.prog 75 = some 1 := by kernel_rfl
@[simp] theorem bytes_75 : bytes Tryz.prog 75 = some 8 := by kernel_rfl
@[simp] theorem szz_75 : szz Tryz.prog 75 = some 1 := by kernel_rfl
@[simp] theorem isAg_75 : isAg Tryz.prog 75 = some false := by kernel_rfl
@[simp] theorem zeroC_75 : zeroC Tryz.prog 75 = some [.v .any] := by kernel_rfl
@[simp] theorem sz_76 : sz Tryz.prog 76 = some 1 := by kernel_rfl
@[simp] theorem bytes_76 : bytes Tryz.prog 76 = some 8 := by kernel_rfl
@[simp] theorem szz_76 : szz Tryz.prog 76 = some 1 := by kernel_rfl
@[simp] theorem isAg_76 : isAg Tryz.prog 76 = some false := by kernel_rfl
@[simp] theorem zeroC_76 : zeroC Tryz.prog 76 = some [.v .any] := by kernel_rfl
@[simp] theorem sz_77 : sz Tryz.prog 77 = some 1 := by kernel_rfl
@[simp] theorem bytes_77 : bytes Tryz.prog 77 = some 8 := by kernel_rfl
@[simp] theorem szz_77 : szz Tryz.prog 77 = some 1 := by kernel_rfl
@[simp] theorem isAg_77 : isAg Tryz.prog 77 = some false := by kernel_rfl
@[simp] theorem zeroC_77 : zeroC Tryz.prog 77 = some [.v .any] := by kernel_rfl
@[simp] theorem sz_78 : sz Tryz.prog 78 = some 1 := by kernel_rfl
@[simp] theorem bytes_78 : bytes Tryz.prog 78 = some 8 := by kernel_rfl
@[simp] theorem szz_78 : szz Tryz.prog 78 = some 1 := by kernel_rfl
@[simp] theorem isAg_78 : isAg Tryz.prog 78 = some false := by kernel_rfl
@[simp] theorem zeroC_78 : zeroC Tryz.prog 78 = some [.v .any] := by kernel_rfl
@[simp] theorem sz_79 : sz Tryz.prog 79 = some 1 := by kernel_rfl
@[simp] theorem bytes_79 : bytes Tryz.prog 79 = some 8 := by kernel_rfl
@[simp] theorem szz_79 : szz Tryz.prog 79 = some 1 := by kernel_rfl
@[simp] theorem isAg_79 : isAg Tryz.prog 79 = some false := by kernel_rfl
@[simp] theorem zeroC_79 : zeroC Tryz.prog 79 = some [.v .any] := by kernel_rfl
@[simp] theorem sz_81 : sz Tryz.prog 81 = some 1 := by kernel_rfl
@[simp] theorem bytes_81 : bytes Tryz.prog 81 = some 8 := by kernel_rfl
@[simp] theorem szz_81 : szz Tryz.prog 81 = some 1 := by kernel_rfl
@[simp] theorem isAg_81 : isAg Tryz.prog 81 = some false := by kernel_rfl
@[simp] theorem zeroC_81 : zeroC Tryz.prog 81 = some [.v .any] := by kernel_rfl
@[simp] theorem sz_83 : sz Tryz.prog 83 = some 1 := by kernel_rfl
@[simp] theorem bytes_83 : bytes Tryz.prog 83 = some 8 := by kernel_rfl
@[simp] theorem szz_83 : szz Tryz.prog 83 = some 1 := by kernel_rfl
@[simp] theorem isAg_83 : isAg Tryz.prog 83 = some false := by kernel_rfl
@[simp] theorem zeroC_83 : zeroC Tryz.prog 83 = some [.v .any] := by kernel_rfl
@[simp] theorem sz_84 : sz Tryz.prog 84 = some 1 := by kernel_rfl
@[simp] theorem bytes_84 : bytes Tryz.prog 84 = some 8 := by kernel_rfl
@[simp] theorem szz_84 : szz Tryz.prog 84 = some 1 := by kernel_rfl
@[simp] theorem isAg_84 : isAg Tryz.prog 84 = some false := by kernel_rfl
@[simp] theorem zeroC_84 : zeroC Tryz.prog 84 = some [.v .any] := by kernel_rfl
@[simp] theorem sz_85 : sz Tryz.prog 85 = some 1 := by kernel_rfl
@[simp] theorem bytes_85 : bytes Tryz.prog 85 = some 8 := by kernel_rfl
@[simp] theorem szz_85 : szz Tryz.prog 85 = some 1 := by kernel_rfl
@[simp] theorem isAg_85 : isAg Tryz.prog 85 = some false := by kernel_rfl
@[simp] theorem zeroC_85 : zeroC Tryz.prog 85 = some [.v .any] := by kernel_rfl
@[simp] theorem sz_86 : sz Tryz.prog 86 = some 1 := by kernel_rfl
@[simp] theorem bytes_86 : bytes Tryz.prog 86 = some 8 := by kernel_rfl
@[simp] theorem szz_86 : szz Tryz.prog 86 = some 1 := by kernel_rfl
@[simp] theorem isAg_86 : isAg Tryz.prog 86 = some false := by kernel_rfl
@[simp] theorem zeroC_86 : zeroC Tryz.prog 86 = some [.v .any] := by kernel_rfl
@[simp] theorem sz_87 : sz Tryz.prog 87 = some 1 := by kernel_rfl
@[simp] theorem bytes_87 : bytes Tryz.prog 87 = some 24 := by kernel_rfl
@[simp] theorem szz_87 : szz Tryz.prog 87 = some 1 := by kernel_rfl
@[simp] theorem isAg_87 : isAg Tryz.prog 87 = some false := by kernel_rfl
@[simp] theorem elT_87 : elT Tryz.prog 87 = some 110 := by kernel_rfl
@[simp] theorem isStr_87 : isStr Tryz.prog 87 = some false := by kernel_rfl
@[simp] theorem zeroC_87 : zeroC Tryz.prog 87 = some [.nil] := by kernel_rfl
@[simp] theorem sz_88 : sz Tryz.prog 88 = some 2 := by kernel_rfl
@[simp] theorem bytes_88 : bytes Tryz.prog 88 = some 32 := by kernel_rfl
@[simp] theorem szz_88 : szz Tryz.prog 88 = some 2 := by kernel_rfl
@[simp] theorem isAg_88 : isAg Tryz.prog 88 = some true := by kernel_rfl
@[simp] theorem zeroC_88 : zeroC Tryz.prog 88 = some [.v (.int .i64 0), .nil] := by kernel_rfl
@[simp] theorem fieldsOk_88 : fieldsOk Tryz.prog 88 = true := by kernel_rfl
@[simp] theorem fo_88_0 : fo Tryz.prog 88 0 = some 0 := by kernel_rfl
@[simp] theorem fsz_88_0 : fsz Tryz.prog 88 0 = some 1 := by kernel_rfl
@[simp] theorem fo_88_1 : fo Tryz.prog 88 1 = some 1 := by kernel_rfl
@[simp] theorem fsz_88_1 : fsz Tryz.prog 88 1 = some 1 := by kernel_rfl
@[simp] theorem sz_89 : sz Tryz.prog 89 = some 2 := by kernel_rfl
@[simp] theorem bytes_89 : bytes Tryz.prog 89 = some 32 := by kernel_rfl
@[simp] theorem szz_89 : szz Tryz.prog 89 = some 2 := by kernel_rfl
@[simp] theorem isAg_89 : isAg Tryz.prog 89 = some true := by kernel_rfl
@[simp] theorem zeroC_89 : zeroC Tryz.prog 89 = some [.v (.int .i64 0), .nil] := by kernel_rfl
@[simp] theorem fieldsOk_89 : fieldsOk Tryz.prog 89 = true := by kernel_rfl
@[simp] theorem fo_89_0 : fo Tryz.prog 89 0 = some 0 := by kernel_rfl
@[simp] theorem fsz_89_0 : fsz Tryz.prog 89 0 = some 1 := by kernel_rfl
@[simp] theorem fo_89_1 : fo Tryz.prog 89 1 = some 1 := by kernel_rfl
@[simp] theorem fsz_89_1 : fsz Tryz.prog 89 1 = some 1 := by kernel_rfl
@[simp] theorem sz_91 : sz Tryz.prog 91 = some 1 := by kernel_rfl
@[simp] theorem bytes_91 : bytes Tryz.prog 91 = some 8 := by kernel_rfl
@[simp] theorem szz_91 : szz Tryz.prog 91 = some 1 := by kernel_rfl
@[simp] theorem isAg_91 : isAg Tryz.prog 91 = some false := by kernel_rfl
@[simp] theorem zeroC_91 : zeroC Tryz.prog 91 = some [.v .any] := by kernel_rfl
@[simp] theorem sz_92 : sz Tryz.prog 92 = some 1 := by kernel_rfl
@[simp] theorem bytes_92 : bytes Tryz.prog 92 = some 8 := by kernel_rfl
@[simp] theorem szz_92 : szz Tryz.prog 92 = some 1 := by kernel_rfl
@[simp] theorem isAg_92 : isAg Tryz.prog 92 = some false := by kernel_rfl
@[simp] theorem zeroC_92 : zeroC Tryz.prog 92 = some [.v .any] := by kernel_rfl
@[simp] theorem sz_94 : sz Tryz.prog 94 = some 1 := by kernel_rfl
@[simp] theorem bytes_94 : bytes Tryz.prog 94 = some 8 := by kernel_rfl
@[simp] theorem szz_94 : szz Tryz.prog 94 = some 1 := by kernel_rfl
@[simp] theorem isAg_94 : isAg Tryz.prog 94 = some false := by kernel_rfl
@[simp] theorem zeroC_94 : zeroC Tryz.prog 94 = some [.v .any] := by kernel_rfl
@[simp] theorem sz_95 : sz Tryz.prog 95 = some 1 := by kernel_rfl
@[simp] theorem bytes_95 : bytes Tryz.prog 95 = some 8 := by kernel_rfl
@[simp] theorem szz_95 : szz Tryz.prog 95 = some 1 := by kernel_rfl
@[simp] theorem isAg_95 : isAg Tryz.prog 95 = some false := by kernel_rfl
@[simp] theorem zeroC_95 : zeroC Tryz.prog 95 = some [.v .any] := by kernel_rfl
@[simp] theorem sz_97 : sz Tryz.prog 97 = some 1 := by kernel_rfl
@[simp] theorem bytes_97 : bytes Tryz.prog 97 = some 8 := by kernel_rfl
@[simp] theorem szz_97 : szz Tryz.prog 97 = some 1 := by kernel_rfl
@[simp] theorem isAg_97 : isAg Tryz.prog 97 = some false := by kernel_rfl
@[simp] theorem zeroC_97 : zeroC Tryz.prog 97 = some [.v .any] := by kernel_rfl
@[simp] theorem sz_98 : sz Tryz.prog 98 = some 1 := by kernel_rfl
@[simp] theorem bytes_98 : bytes Tryz.prog 98 = some 8 := by kernel_rfl
@[simp] theorem szz_98 : szz Tryz.prog 98 = some 1 := by kernel_rfl
@[simp] theorem isAg_98 : isAg Tryz.prog 98 = some false := by kernel_rfl
@[simp] theorem zeroC_98 : zeroC Tryz.prog 98 = some [.v .any] := by kernel_rfl
@[simp] theorem sz_99 : sz Tryz.prog 99 = some 1 := by kernel_rfl
@[simp] theorem bytes_99 : bytes Tryz.prog 99 = some 8 := by kernel_rfl
@[simp] theorem szz_99 : szz Tryz.prog 99 = some 1 := by kernel_rfl
@[simp] theorem isAg_99 : isAg Tryz.prog 99 = some false := by kernel_rfl
@[simp] theorem zeroC_99 : zeroC Tryz.prog 99 = some [.v .any] := by kernel_rfl
@[simp] theorem sz_100 : sz Tryz.prog 100 = some 1 := by kernel_rfl
@[simp] theorem bytes_100 : bytes Tryz.prog 100 = some 8 := by kernel_rfl
@[simp] theorem szz_100 : szz Tryz.prog 100 = some 1 := by kernel_rfl
@[simp] theorem isAg_100 : isAg Tryz.prog 100 = some false := by kernel_rfl
@[simp] theorem zeroC_100 : zeroC Tryz.prog 100 = some [.v .any] := by kernel_rfl
@[simp] theorem sz_101 : sz Tryz.prog 101 = some 1 := by kernel_rfl
@[simp] theorem bytes_101 : bytes Tryz.prog 101 = some 8 := by kernel_rfl
@[simp] theorem szz_101 : szz Tryz.prog 101 = some 1 := by kernel_rfl
@[simp] theorem isAg_101 : isAg Tryz.prog 101 = some false := by kernel_rfl
@[simp] theorem zeroC_101 : zeroC Tryz.prog 101 = some [.v .any] := by kernel_rfl
@[simp] theorem sz_102 : sz Tryz.prog 102 = some 2 := by kernel_rfl
@[simp] theorem bytes_102 : bytes Tryz.prog 102 = some 32 := by kernel_rfl
@[simp] theorem szz_102 : szz Tryz.prog 102 = some 2 := by kernel_rfl
@[simp] theorem isAg_102 : isAg Tryz.prog 102 = some true := by kernel_rfl
@[simp] theorem zeroC_102 : zeroC Tryz.prog 102 = some [.nil, .v (.int .i64 0)] := by kernel_rfl
@[simp] theorem fieldsOk_102 : fieldsOk Tryz.prog 102 = true := by kernel_rfl
@[simp] theorem fo_102_0 : fo Tryz.prog 102 0 = some 0 := by kernel_rfl
@[simp] theorem fsz_102_0 : fsz Tryz.prog 102 0 = some 1 := by kernel_rfl
@[simp] theorem fo_102_1 : fo Tryz.prog 102 1 = some 1 := by kernel_rfl
@[simp] theorem fsz_102_1 : fsz Tryz.prog 102 1 = some 1 := by kernel_rfl
@[simp] theorem sz_103 : sz Tryz.prog 103 = some 2 := by kernel_rfl
@[simp] theorem bytes_103 : bytes Tryz.prog 103 = some 32 := by kernel_rfl
@[simp] theorem szz_103 : szz Tryz.prog 103 = some 2 := by kernel_rfl
@[simp] theorem isAg_103 : isAg Tryz.prog 103 = some true := by kernel_rfl
@[simp] theorem zeroC_103 : zeroC Tryz.prog 103 = some [.nil, .v (.int .i64 0)] := by kernel_rfl
@[simp] theorem fieldsOk_103 : fieldsOk Tryz.prog 103 = true := by kernel_rfl
@[simp] theorem fo_103_0 : fo Tryz.prog 103 0 = some 0 := by kernel_rfl
@[simp] theorem fsz_103_0 : fsz Tryz.prog 103 0 = some 1 := by kernel_rfl
@[simp] theorem fo_103_1 : fo Tryz.prog 103 1 = some 1 := by kernel_rfl
@[simp] theorem fsz_103_1 : fsz Tryz.prog 103 1 = some 1 := by kernel_rfl
@[simp] theorem sz_104 : sz Tryz.prog 104 = some 1 := by kernel_rfl
@[simp] theorem bytes_104 : bytes Tryz.prog 104 = some 24 := by kernel_rfl
@[simp] theorem szz_104 : szz Tryz.prog 104 = some 1 := by kernel_rfl
@[simp] theorem isAg_104 : isAg Tryz.prog 104 = some false := by kernel_rfl
@[simp] theorem elT_104 : elT Tryz.prog 104 = some 9 := by kernel_rfl
@[simp] theorem isStr_104 : isStr Tryz.prog 104 = some false := by kernel_rfl
@[simp] theorem zeroC_104 : zeroC Tryz.prog 104 = some [.nil] := by kernel_rfl
@[simp] theorem sz_105 : sz Tryz.prog 105 = some 1 := by kernel_rfl
@[simp] theorem bytes_105 : bytes Tryz.prog 105 = some 8 := by kernel_rfl
@[simp] theorem szz_105 : szz Tryz.prog 105 = some 1 := by kernel_rfl
@[simp] theorem isAg_105 : isAg Tryz.prog 105 = some false := by kernel_rfl
@[simp] theorem zeroC_105 : zeroC Tryz.prog 105 = some [.v .any] := by kernel_rfl
@[simp] theorem sz_106 : sz Tryz.prog 106 = some 1 := by kernel_rfl
@[simp] theorem bytes_106 : bytes Tryz.prog 106 = some 8 := by kernel_rfl
@[simp] theorem szz_106 : szz Tryz.prog 106 = some 1 := by kernel_rfl
@[simp] theorem isAg_106 : isAg Tryz.prog 106 = some false := by kernel_rfl
@[simp] theorem zeroC_106 : zeroC Tryz.prog 106 = some [.v .any] := by kernel_rfl
@[simp] theorem sz_107 : sz Tryz.prog 107 = some 1 := by kernel_rfl
@[simp] theorem bytes_107 : bytes Tryz.prog 107 = some 8 := by kernel_rfl
@[simp] theorem szz_107 : szz Tryz.prog 107 = some 1 := by kernel_rfl
@[simp] theorem isAg_107 : isAg Tryz.prog 107 = some false := by kernel_rfl
@[simp] theorem zeroC_107 : zeroC Tryz.prog 107 = some [.v .any] := by kernel_rfl
@[simp] theorem sz_108 : sz Tryz.prog 108 = some 1 := by kernel_rfl
@[simp] theorem bytes_108 : bytes Tryz.prog 108 = some 8 := by kernel_rfl
@[simp] theorem szz_108 : szz Tryz.prog 108 = some 1 := by kernel_rfl
@[simp] theorem isAg_108 : isAg Tryz.prog 108 = some false := by kernel_rfl
@[simp] theorem zeroC_108 : zeroC Tryz.prog 108 = some [.v .any] := by kernel_rfl
@[simp] theorem sz_109 : sz Tryz.prog 109 = some 2 := by kernel_rfl
@[simp] theorem bytes_109 : bytes Tryz.prog 109 = some 16 := by kernel_rfl
@[simp] theorem szz_109 : szz Tryz.prog 109 = some 2 := by kernel_rfl
@[simp] theorem isAg_109 : isAg Tryz.prog 109 = some true := by kernel_rfl
@[simp] theorem zeroC_109 : zeroC Tryz.prog 109 = some [.v (.int .i64 0), .v (.int .i64 0)] := by kernel_rfl
@[simp] theorem fieldsOk_109 : fieldsOk Tryz.prog 109 = true := by kernel_rfl
@[simp] theorem eqKinds_109 : eqKinds Tryz.prog 109 = some [1, 1] := by kernel_rfl
@[simp] theorem fo_109_0 : fo Tryz.prog 109 0 = some 0 := by kernel_rfl
@[simp] theorem fsz_109_0 : fsz Tryz.prog 109 0 = some 1 := by kernel_rfl
@[simp] theorem fo_109_1 : fo Tryz.prog 109 1 = some 1 := by kernel_rfl
@[simp] theorem fsz_109_1 : fsz Tryz.prog 109 1 = some 1 := by kernel_rfl
@[simp] theorem sz_110 : sz Tryz.prog 110 = some 2 := by kernel_rfl
@[simp] theorem bytes_110 : bytes Tryz.prog 110 = some 16 := by kernel_rfl
@[simp] theorem szz_110 : szz Tryz.prog 110 = some 2 := by kernel_rfl
@[simp] theorem isAg_110 : isAg Tryz.prog 110 = some true := by kernel_rfl
@[simp] theorem zeroC_110 : zeroC Tryz.prog 110 = some [.v (.int .i64 0), .v (.int .i64 0)] := by kernel_rfl
@[simp] theorem fieldsOk_110 : fieldsOk Tryz.prog 110 = true := by kernel_rfl
@[simp] theorem eqKinds_110 : eqKinds Tryz.prog 110 = some [1, 1] := by kernel_rfl
@[simp] theorem fo_110_0 : fo Tryz.prog 110 0 = some 0 := by kernel_rfl
@[simp] theorem fsz_110_0 : fsz Tryz.prog 110 0 = some 1 := by kernel_rfl
@[simp] theorem fo_110_1 : fo Tryz.prog 110 1 = some 1 := by kernel_rfl
@[simp] theorem fsz_110_1 : fsz Tryz.prog 110 1 = some 1 := by kernel_rfl
@[simp] theorem sz_111 : sz Tryz.prog 111 = some 1 := by kernel_rfl
@[simp] theorem bytes_111 : bytes Tryz.prog 111 = some 8 := by kernel_rfl
@[simp] theorem szz_111 : szz Tryz.prog 111 = some 1 := by kernel_rfl
@[simp] theorem isAg_111 : isAg Tryz.prog 111 = some false := by kernel_rfl
@[simp] theorem zeroC_111 : zeroC Tryz.prog 111 = some [.v .any] := by kernel_rfl
@[simp] theorem sz_112 : sz Tryz.prog 112 = some 1 := by kernel_rfl
@[simp] theorem bytes_112 : bytes Tryz.prog 112 = some 8 := by kernel_rfl
@[simp] theorem szz_112 : szz Tryz.prog 112 = some 1 := by kernel_rfl
@[simp] theorem isAg_112 : isAg Tryz.prog 112 = some false := by kernel_rfl
@[simp] theorem zeroC_112 : zeroC Tryz.prog 112 = some [.v .any] := by kernel_rfl
@[simp] theorem sz_113 : sz Tryz.prog 113 = some 1 := by kernel_rfl
@[simp] theorem bytes_113 : bytes Tryz.prog 113 = some 8 := by kernel_rfl
@[simp] theorem szz_113 : szz Tryz.prog 113 = some 1 := by kernel_rfl
@[simp] theorem isAg_113 : isAg Tryz.prog 113 = some false := by kernel_rfl
@[simp] theorem zeroC_113 : zeroC Tryz.prog 113 = some [.v .any] := by kernel_rfl
@[simp] theorem sz_114 : sz Tryz.prog 114 = some 1 := by kernel_rfl
@[simp] theorem bytes_114 : bytes Tryz.prog 114 = some 8 := by kernel_rfl
@[simp] theorem szz_114 : szz Tryz.prog 114 = some 1 := by kernel_rfl
@[simp] theorem isAg_114 : isAg Tryz.prog 114 = some false := by kernel_rfl
@[simp] theorem zeroC_114 : zeroC Tryz.prog 114 = some [.v .any] := by kernel_rfl
@[simp] theorem sz_115 : sz Tryz.prog 115 = some 1 := by kernel_rfl
@[simp] theorem bytes_115 : bytes Tryz.prog 115 = some 8 := by kernel_rfl
@[simp] theorem szz_115 : szz Tryz.prog 115 = some 1 := by kernel_rfl
@[simp] theorem isAg_115 : isAg Tryz.prog 115 = some false := by kernel_rfl
@[simp] theorem zeroC_115 : zeroC Tryz.prog 115 = some [.v .any] := by kernel_rfl
@[simp] theorem sz_119 : sz Tryz.prog 119 = some 1 := by kernel_rfl
@[simp] theorem bytes_119 : bytes Tryz.prog 119 = some 8 := by kernel_rfl
@[simp] theorem szz_119 : szz Tryz.prog 119 = some 1 := by kernel_rfl
@[simp] theorem isAg_119 : isAg Tryz.prog 119 = some false := by kernel_rfl
@[simp] theorem zeroC_119 : zeroC Tryz.prog 119 = some [.v .any] := by kernel_rfl
@[simp] theorem sz_120 : sz Tryz.prog 120 = some 1 := by kernel_rfl
@[simp] theorem bytes_120 : bytes Tryz.prog 120 = some 24 := by kernel_rfl
@[simp] theorem szz_120 : szz Tryz.prog 120 = some 1 := by kernel_rfl
@[simp] theorem isAg_120 : isAg Tryz.prog 120 = some false := by kernel_rfl
@[simp] theorem elT_120 : elT Tryz.prog 120 = some 3 := by kernel_rfl
@[simp] theorem isStr_120 : isStr Tryz.prog 120 = some false := by kernel_rfl
@[simp] theorem zeroC_120 : zeroC Tryz.prog 120 = some [.nil] := by kernel_rfl
@[simp] theorem sz_122 : sz Tryz.prog 122 = some 1 := by kernel_rfl
@[simp] theorem bytes_122 : bytes Tryz.prog 122 = some 8 := by kernel_rfl
@[simp] theorem szz_122 : szz Tryz.prog 122 = some 1 := by kernel_rfl
@[simp] theorem isAg_122 : isAg Tryz.prog 122 = some false := by kernel_rfl
@[simp] theorem zeroC_122 : zeroC Tryz.prog 122 = some [.v .any] := by kernel_rfl
@[simp] theorem sz_123 : sz Tryz.prog 123 = some 1 := by kernel_rfl
@[simp] theorem bytes_123 : bytes Tryz.prog 123 = some 8 := by kernel_rfl
@[simp] theorem szz_123 : szz Tryz.prog 123 = some 1 := by kernel_rfl
@[simp] theorem isAg_123 : isAg Tryz.prog 123 = some false := by kernel_rfl
@[simp] theorem zeroC_123 : zeroC Tryz.prog 123 = some [.v .any] := by kernel_rfl
@[simp] theorem sz_124 : sz Tryz.prog 124 = some 1 := by kernel_rfl
@[simp] theorem bytes_124 : bytes Tryz.prog 124 = some 8 := by kernel_rfl
@[simp] theorem szz_124 : szz Tryz.prog 124 = some 1 := by kernel_rfl
@[simp] theorem isAg_124 : isAg Tryz.prog 124 = some false := by kernel_rfl
@[simp] theorem zeroC_124 : zeroC Tryz.prog 124 = some [.v .any] := by kernel_rfl
@[simp] theorem sz_125 : sz Tryz.prog 125 = some 1 := by kernel_rfl
@[simp] theorem bytes_125 : bytes Tryz.prog 125 = some 8 := by kernel_rfl
@[simp] theorem szz_125 : szz Tryz.prog 125 = some 1 := by kernel_rfl
@[simp] theorem isAg_125 : isAg Tryz.prog 125 = some false := by kernel_rfl
@[simp] theorem zeroC_125 : zeroC Tryz.prog 125 = some [.v .any] := by kernel_rfl
@[simp] theorem sz_126 : sz Tryz.prog 126 = some 1 := by kernel_rfl
@[simp] theorem bytes_126 : bytes Tryz.prog 126 = some 8 := by kernel_rfl
@[simp] theorem szz_126 : szz Tryz.prog 126 = some 1 := by kernel_rfl
@[simp] theorem isAg_126 : isAg Tryz.prog 126 = some false := by kernel_rfl
@[simp] theorem zeroC_126 : zeroC Tryz.prog 126 = some [.v .any] := by kernel_rfl
@[simp] theorem sz_127 : sz Tryz.prog 127 = some 1 := by kernel_rfl
@[simp] theorem bytes_127 : bytes Tryz.prog 127 = some 8 := by kernel_rfl
@[simp] theorem szz_127 : szz Tryz.prog 127 = some 1 := by kernel_rfl
@[simp] theorem isAg_127 : isAg Tryz.prog 127 = some false := by kernel_rfl
@[simp] theorem zeroC_127 : zeroC Tryz.prog 127 = some [.v .any] := by kernel_rfl
@[simp] theorem sz_128 : sz Tryz.prog 128 = some 1 := by kernel_rfl
@[simp] theorem bytes_128 : bytes Tryz.prog 128 = some 8 := by kernel_rfl
@[simp] theorem szz_128 : szz Tryz.prog 128 = some 1 := by kernel_rfl
@[simp] theorem isAg_128 : isAg Tryz.prog 128 = some false := by kernel_rfl
@[simp] theorem zeroC_128 : zeroC Tryz.prog 128 = some [.v .any] := by kernel_rfl
@[simp] theorem sz_129 : sz Tryz.prog 129 = some 1 := by kernel_rfl
@[simp] theorem bytes_129 : bytes Tryz.prog 129 = some 8 := by kernel_rfl
@[simp] theorem szz_129 : szz Tryz.prog 129 = some 1 := by kernel_rfl
@[simp] theorem isAg_129 : isAg Tryz.prog 129 = some false := by kernel_rfl
@[simp] theorem zeroC_129 : zeroC Tryz.prog 129 = some [.v .any] := by kernel_rfl
@[simp] theorem sz_130 : sz Tryz.prog 130 = some 2 := by kernel_rfl
@[simp] theorem bytes_130 : bytes Tryz.prog 130 = some 32 := by kernel_rfl
@[simp] theorem szz_130 : szz Tryz.prog 130 = some 2 := by kernel_rfl
@[simp] theorem isAg_130 : isAg Tryz.prog 130 = some true := by kernel_rfl
@[simp] theorem fieldsOk_130 : fieldsOk Tryz.prog 130 = true := by kernel_rfl
@[simp] theorem fo_130_0 : fo Tryz.prog 130 0 = some 0 := by kernel_rfl
@[simp] theorem fsz_130_0 : fsz Tryz.prog 130 0 = some 1 := by kernel_rfl
@[simp] theorem fo_130_1 : fo Tryz.prog 130 1 = some 1 := by kernel_rfl
@[simp] theorem fsz_130_1 : fsz Tryz.prog 130 1 = some 1 := by kernel_rfl
@[simp] theorem sz_131 : sz Tryz.prog 131 = some 2 := by kernel_rfl
@[simp] theorem bytes_131 : bytes Tryz.prog 131 = some 32 := by kernel_rfl
@[simp] theorem szz_131 : szz Tryz.prog 131 = some 2 := by kernel_rfl
@[simp] theorem isAg_131 : isAg Tryz.prog 131 = some true := by kernel_rfl
@[simp] theorem fieldsOk_131 : fieldsOk Tryz.prog 131 = true := by kernel_rfl
@[simp] theorem fo_131_0 : fo Tryz.prog 131 0 = some 0 := by kernel_rfl
@[simp] theorem fsz_131_0 : fsz Tryz.prog 131 0 = some 1 := by kernel_rfl
@[simp] theorem fo_131_1 : fo Tryz.prog 131 1 = some 1 := by kernel_rfl
@[simp] theorem fsz_131_1 : fsz Tryz.prog 131 1 = some 1 := by kernel_rfl
@[simp] theorem sz_132 : sz Tryz.prog 132 = some 1 := by kernel_rfl
@[simp] theorem bytes_132 : bytes Tryz.prog 132 = some 8 := by kernel_rfl
@[simp] theorem szz_132 : szz Tryz.prog 132 = some 1 := by kernel_rfl
@[simp] theorem isAg_132 : isAg Tryz.prog 132 = some false := by kernel_rfl
@[simp] theorem zeroC_132 : zeroC Tryz.prog 132 = some [.v .any] := by kernel_rfl
@[simp] theorem sz_133 : sz Tryz.prog 133 = some 1 := by kernel_rfl
@[simp] theorem bytes_133 : bytes Tryz.prog 133 = some 8 := by kernel_rfl
@[simp] theorem szz_133 : szz Tryz.prog 133 = some 1 := by kernel_rfl
@[simp] theorem isAg_133 : isAg Tryz.prog 133 = some false := by kernel_rfl
@[simp] theorem zeroC_133 : zeroC Tryz.prog 133 = some [.v .any] := by kernel_rfl
@[simp] theorem sz_134 : sz Tryz.prog 134 = some 1 := by kernel_rfl
@[simp] theorem bytes_134 : bytes Tryz.prog 134 = some 8 := by kernel_rfl
@[simp] theorem szz_134 : szz Tryz.prog 134 = some 1 := by kernel_rfl
@[simp] theorem isAg_134 : isAg Tryz.prog 134 = some false := by kernel_rfl
@[simp] theorem zeroC_134 : zeroC Tryz.prog 134 = some [.v .any] := by kernel_rfl
@[simp] theorem sz_135 : sz Tryz.prog 135 = some 1 := by kernel_rfl
@[simp] theorem bytes_135 : bytes Tryz.prog 135 = some 8 := by kernel_rfl
@[simp] theorem szz_135 : szz Tryz.prog 135 = some 1 := by kernel_rfl
@[simp] theorem isAg_135 : isAg Tryz.prog 135 = some false := by kernel_rfl
@[simp] theorem zeroC_135 : zeroC Tryz.prog 135 = some [.v .any] := by kernel_rfl
@[simp] theorem sz_136 : sz Tryz.prog 136 = some 1 := by kernel_rfl
@[simp] theorem bytes_136 : bytes Tryz.prog 136 = some 8 := by kernel_rfl
@[simp] theorem szz_136 : szz Tryz.prog 136 = some 1 := by kernel_rfl
@[simp] theorem isAg_136 : isAg Tryz.prog 136 = some false := by kernel_rfl
@[simp] theorem zeroC_136 : zeroC Tryz.prog 136 = some [.v .any] := by kernel_rfl
@[simp] theorem sz_137 : sz Tryz.prog 137 = some 1 := by kernel_rfl
@[simp] theorem bytes_137 : bytes Tryz.prog 137 = some 8 := by kernel_rfl
@[simp] theorem szz_137 : szz Tryz.prog 137 = some 1 := by kernel_rfl
@[simp] theorem isAg_137 : isAg Tryz.prog 137 = some false := by kernel_rfl
@[simp] theorem zeroC_137 : zeroC Tryz.prog 137 = some [.v .any] := by kernel_rfl
@[simp] theorem sz_139 : sz Tryz.prog 139 = some 1 := by kernel_rfl
@[simp] theorem bytes_139 : bytes Tryz.prog 139 = some 8 := by kernel_rfl
@[simp] theorem szz_139 : szz Tryz.prog 139 = some 1 := by kernel_rfl
@[simp] theorem isAg_139 : isAg Tryz.prog 139 = some false := by kernel_rfl
@[simp] theorem zeroC_139 : zeroC Tryz.prog 139 = some [.v .any] := by kernel_rfl
@[simp] theorem sz_140 : sz Tryz.prog 140 = some 1 := by kernel_rfl
@[simp] theorem bytes_140 : bytes Tryz.prog 140 = some 8 := by kernel_rfl
@[simp] theorem szz_140 : szz Tryz.prog 140 = some 1 := by kernel_rfl
@[simp] theorem isAg_140 : isAg Tryz.prog 140 = some false := by kernel_rfl
@[simp] theorem zeroC_140 : zeroC Tryz.prog 140 = some [.v .any] := by kernel_rfl
@[simp] theorem sz_141 : sz Tryz.prog 141 = some 1 := by kernel_rfl
@[simp] theorem bytes_141 : bytes Tryz.prog 141 = some 8 := by kernel_rfl
@[simp] theorem szz_141 : szz Tryz.prog 141 = some 1 := by kernel_rfl
@[simp] theorem isAg_141 : isAg Tryz.prog 141 = some false := by kernel_rfl
@[simp] theorem intK_141 : intK Tryz.prog 141 = some .u64 := by kernel_rfl
@[simp] theorem zeroC_141 : zeroC Tryz.prog 141 = some [.v (.int .u64 0)] := by kernel_rfl
@[simp] theorem sz_142 : sz Tryz.prog 142 = some 1 := by kernel_rfl
@[simp] theorem bytes_142 : bytes Tryz.prog 142 = some 8 := by kernel_rfl
@[simp] theorem szz_142 : szz Tryz.prog 142 = some 1 := by kernel_rfl
@[simp] theorem isAg_142 : isAg Tryz.prog 142 = some false := by kernel_rfl
@[simp] theorem zeroC_142 : zeroC Tryz.prog 142 = some [.v .any] := by kernel_rfl
@[simp] theorem sz_144 : sz Tryz.prog 144 = some 1 := by kernel_rfl
@[simp] theorem bytes_144 : bytes Tryz.prog 144 = some 8 := by kernel_rfl
@[simp] theorem szz_144 : szz Tryz.prog 144 = some 1 := by kernel_rfl
@[simp] theorem isAg_144 : isAg Tryz.prog 144 = some false := by kernel_rfl
@[simp] theorem zeroC_144 : zeroC Tryz.prog 144 = some [.v .any] := by kernel_rfl
@[simp] theorem sz_145 : sz Tryz.prog 145 = some 1 := by kernel_rfl
@[simp] theorem bytes_145 : bytes Tryz.prog 145 = some 8 := by kernel_rfl
@[simp] theorem szz_145 : szz Tryz.prog 145 = some 1 := by kernel_rfl
@[simp] theorem isAg_145 : isAg Tryz.prog 145 = some false := by kernel_rfl
@[simp] theorem zeroC_145 : zeroC Tryz.prog 145 = some [.v .any] := by kernel_rfl
@[simp] theorem sz_146 : sz Tryz.prog 146 = some 1 := by kernel_rfl
@[simp] theorem bytes_146 : bytes Tryz.prog 146 = some 8 := by kernel_rfl
@[simp] theorem szz_146 : szz Tryz.prog 146 = some 1 := by kernel_rfl
@[simp] theorem isAg_146 : isAg Tryz.prog 146 = some false := by kernel_rfl
@[simp] theorem zeroC_146 : zeroC Tryz.prog 146 = some [.v .any] := by kernel_rfl
@[simp] theorem sz_147 : sz Tryz.prog 147 = some 1 := by kernel_rfl
@[simp] theorem bytes_147 : bytes Tryz.prog 147 = some 8 := by kernel_rfl
@[simp] theorem szz_147 : szz Tryz.prog 147 = some 1 := by kernel_rfl
@[simp] theorem isAg_147 : isAg Tryz.prog 147 = some false := by kernel_rfl
@[simp] theorem zeroC_147 : zeroC Tryz.prog 147 = some [.v .any] := by kernel_rfl
@[simp] theorem sz_148 : sz Tryz.prog 148 = some 1 := by kernel_rfl
@[simp] theorem bytes_148 : bytes Tryz.prog 148 = some 24 := by kernel_rfl
@[simp] theorem szz_148 : szz Tryz.prog 148 = some 1 := by kernel_rfl
@[simp] theorem isAg_148 : isAg Tryz.prog 148 = some false := by kernel_rfl
@[simp] theorem elT_148 : elT Tryz.prog 148 = some 87 := by kernel_rfl
@[simp] theorem isStr_148 : isStr Tryz.prog 148 = some false := by kernel_rfl
@[simp] theorem zeroC_148 : zeroC Tryz.prog 148 = some [.nil] := by kernel_rfl
@[simp] theorem sz_149 : sz Tryz.prog 149 = some 1 := by kernel_rfl
@[simp] theorem bytes_149 : bytes Tryz.prog 149 = some 8 := by kernel_rfl
@[simp] theorem szz_149 : szz Tryz.prog 149 = some 1 := by kernel_rfl
@[simp] theorem isAg_149 : isAg Tryz.prog 149 = some false := by kernel_rfl
@[simp] theorem zeroC_149 : zeroC Tryz.prog 149 = some [.v .any] := by kernel_rfl
@[simp] theorem sz_150 : sz Tryz.prog 150 = some 1 := by kernel_rfl
@[simp] theorem bytes_150 : bytes Tryz.prog 150 = some 8 := by kernel_rfl
@[simp] theorem szz_150 : szz Tryz.prog 150 = some 1 := by kernel_rfl
@[simp] theorem isAg_150 : isAg Tryz.prog 150 = some false := by kernel_rfl
@[simp] theorem zeroC_150 : zeroC Tryz.prog 150 = some [.v .any] := by kernel_rfl
@[simp] theorem sz_151 : sz Tryz.prog 151 = some 1 := by kernel_rfl
@[simp] theorem bytes_151 : bytes Tryz.prog 151 = some 8 := by kernel_rfl
@[simp] theorem szz_151 : szz Tryz.prog 151 = some 1 := by kernel_rfl
@[simp] theorem isAg_151 : isAg Tryz.prog 151 = some false := by kernel_rfl
@[simp] theorem zeroC_151 : zeroC Tryz.prog 151 = some [.v .any] := by kernel_rfl
@[simp] theorem sz_152 : sz Tryz.prog 152 = some 1 := by kernel_rfl
@[simp] theorem bytes_152 : bytes Tryz.prog 152 = some 8 := by kernel_rfl
@[simp] theorem szz_152 : szz Tryz.prog 152 = some 1 := by kernel_rfl
@[simp] theorem isAg_152 : isAg Tryz.prog 152 = some false := by kernel_rfl
@[simp] theorem zeroC_152 : zeroC Tryz.prog 152 = some [.v .any] := by kernel_rfl
@[simp] theorem sz_153 : sz Tryz.prog 153 = some 1 := by kernel_rfl
@[simp] theorem bytes_153 : bytes Tryz.prog 153 = some 8 := by kernel_rfl
@[simp] theorem szz_153 : szz Tryz.prog 153 = some 1 := by kernel_rfl
@[simp] theorem isAg_153 : isAg Tryz.prog 153 = some false := by kernel_rfl
@[simp] theorem zeroC_153 : zeroC Tryz.prog 153 = some [.v .any] := by kernel_rfl
@[simp] theorem sz_154 : sz Tryz.prog 154 = some 1 := by kernel_rfl
@[simp] theorem bytes_154 : bytes Tryz.prog 154 = some 8 := by kernel_rfl
@[simp] theorem szz_154 : szz Tryz.prog 154 = some 1 := by kernel_rfl
@[simp] theorem isAg_154 : isAg Tryz.prog 154 = some false := by kernel_rfl
@[simp] theorem zeroC_154 : zeroC Tryz.prog 154 = some [.v .any] := by kernel_rfl
@[simp] theorem sz_155 : sz Tryz.prog 155 = some 1 := by kernel_rfl
@[simp] theorem bytes_155 : bytes Tryz.prog 155 = some 8 := by kernel_rfl
@[simp] theorem szz_155 : szz Tryz.prog 155 = some 1 := by kernel_rfl
@[simp] theorem isAg_155 : isAg Tryz.prog 155 = some false := by kernel_rfl
@[simp] theorem zeroC_155 : zeroC Tryz.prog 155 = some [.v .any] := by kernel_rfl
@[simp] theorem sz_156 : sz Tryz.prog 156 = some 1 := by kernel_rfl
@[simp] theorem bytes_156 : bytes Tryz.prog 156 = some 8 := by kernel_rfl
@[simp] theorem szz_156 : szz Tryz.prog 156 = some 1 := by kernel_rfl
@[simp] theorem isAg_156 : isAg Tryz.prog 156 = some false := by kernel_rfl
@[simp] theorem intK_156 : intK Tryz.prog 156 = some .i64 := by kernel_rfl
@[simp] theorem zeroC_156 : zeroC Tryz.prog 156 = some [.v (.int .i64 0)] := by kernel_rfl
@[simp] theorem sz_158 : sz Tryz.prog 158 = some 1 := by kernel_rfl
@[simp] theorem bytes_158 : bytes Tryz.prog 158 = some 8 := by kernel_rfl
@[simp] theorem szz_158 : szz Tryz.prog 158 = some 1 := by kernel_rfl
@[simp] theorem isAg_158 : isAg Tryz.prog 158 = some false := by kernel_rfl
@[simp] theorem zeroC_158 : zeroC Tryz.prog 158 = some [.v .any] := by kernel_rfl
@[simp] theorem sz_159 : sz Tryz.prog 159 = some 1 := by kernel_rfl
@[simp] theorem bytes_159 : bytes Tryz.prog 159 = some 8 := by kernel_rfl
@[simp] theorem szz_159 : szz Tryz.prog 159 = some 1 := by kernel_rfl
@[simp] theorem isAg_159 : isAg Tryz.prog 159 = some false := by kernel_rfl
@[simp] theorem zeroC_159 : zeroC Tryz.prog 159 = some [.v .any] := by kernel_rfl
@[simp] theorem sz_160 : sz Tryz.prog 160 = some 1 := by kernel_rfl
@[simp] theorem bytes_160 : bytes Tryz.prog 160 = some 8 := by kernel_rfl
@[simp] theorem szz_160 : szz Tryz.prog 160 = some 1 := by kernel_rfl
@[simp] theorem isAg_160 : isAg Tryz.prog 160 = some false := by kernel_rfl
@[simp] theorem zeroC_160 : zeroC Tryz.prog 160 = some [.v .any] := by kernel_rfl
@[simp] theorem sz_161 : sz Tryz.prog 161 = some 1 := by kernel_rfl
@[simp] theorem bytes_161 : bytes Tryz.prog 161 = some 8 := by kernel_rfl
@[simp] theorem szz_161 : szz Tryz.prog 161 = some 1 := by kernel_rfl
@[simp] theorem isAg_161 : isAg Tryz.prog 161 = some false := by kernel_rfl
@[simp] theorem zeroC_161 : zeroC Tryz.prog 161 = some [.v .any] := by kernel_rfl
@[simp] theorem sz_162 : sz Tryz.prog 162 = some 1 := by kernel_rfl
@[simp] theorem bytes_162 : bytes Tryz.prog 162 = some 8 := by kernel_rfl
@[simp] theorem szz_162 : szz Tryz.prog 162 = some 1 := by kernel_rfl
@[simp] theorem isAg_162 : isAg Tryz.prog 162 = some false := by kernel_rfl
@[simp] theorem zeroC_162 : zeroC Tryz.prog 162 = some [.v .any] := by kernel_rfl
@[simp] theorem sz_163 : sz Tryz.prog 163 = some 1 := by kernel_rfl
@[simp] theorem bytes_163 : bytes Tryz.prog 163 = some 8 := by kernel_rfl
@[simp] theorem szz_163 : szz Tryz.prog 163 = some 1 := by kernel_rfl
@[simp] theorem isAg_163 : isAg Tryz.prog 163 = some false := by kernel_rfl
@[simp] theorem zeroC_163 : zeroC Tryz.prog 163 = some [.v .any] := by kernel_rfl
@[simp] theorem sz_164 : sz Tryz.prog 164 = some 1 := by kernel_rfl
@[simp] theorem bytes_164 : bytes Tryz.prog 164 = some 8 := by kernel_rfl
@[simp] theorem szz_164 : szz Tryz.prog 164 = some 1 := by kernel_rfl
@[simp] theorem isAg_164 : isAg Tryz.prog 164 = some false := by kernel_rfl
@[simp] theorem zeroC_164 : zeroC Tryz.prog 164 = some [.v .any] := by kernel_rfl
@[simp] theorem sz_165 : sz Tryz.prog 165 = some 1 := by kernel_rfl
@[simp] theorem bytes_165 : bytes Tryz.prog 165 = some 8 := by kernel_rfl
@[simp] theorem szz_165 : szz Tryz.prog 165 = some 1 := by kernel_rfl
@[simp] theorem isAg_165 : isAg Tryz.prog 165 = some false := by kernel_rfl
@[simp] theorem zeroC_165 : zeroC Tryz.prog 165 = some [.v .any] := by kernel_rfl
@[simp] theorem sz_167 : sz Tryz.prog 167 = some 1 := by kernel_rfl
@[simp] theorem bytes_167 : bytes Tryz.prog 167 = some 8 := by kernel_rfl
@[simp] theorem szz_167 : szz Tryz.prog 167 = some 1 := by kernel_rfl
@[simp] theorem isAg_167 : isAg Tryz.prog 167 = some false := by kernel_rfl
@[simp] theorem intK_167 : intK Tryz.prog 167 = some .u64 := by kernel_rfl
@[simp] theorem zeroC_167 : zeroC Tryz.prog 167 = some [.v (.int .u64 0)] := by kernel_rfl
@[simp] theorem sz_168 : sz Tryz.prog 168 = some 1 := by kernel_rfl
@[simp] theorem bytes_168 : bytes Tryz.prog 168 = some 8 := by kernel_rfl
@[simp] theorem szz_168 : szz Tryz.prog 168 = some 1 := by kernel_rfl
@[simp] theorem isAg_168 : isAg Tryz.prog 168 = some false := by kernel_rfl
@[simp] theorem zeroC_168 : zeroC Tryz.prog 168 = some [.v .any] := by kernel_rfl
@[simp] theorem sz_169 : sz Tryz.prog 169 = some 1 := by kernel_rfl
@[simp] theorem bytes_169 : bytes Tryz.prog 169 = some 8 := by kernel_rfl
@[simp] theorem szz_169 : szz Tryz.prog 169 = some 1 := by kernel_rfl
@[simp] theorem isAg_169 : isAg Tryz.prog 169 = some false := by kernel_rfl
@[simp] theorem zeroC_169 : zeroC Tryz.prog 169 = some [.v .any] := by kernel_rfl
@[simp] theorem sz_171 : sz Tryz.prog 171 = some 1 := by kernel_rfl
@[simp] theorem bytes_171 : bytes Tryz.prog 171 = some 8 := by kernel_rfl
@[simp] theorem szz_171 : szz Tryz.prog 171 = some 1 := by kernel_rfl
@[simp] theorem isAg_171 : isAg Tryz.prog 171 = some false := by kernel_rfl
@[simp] theorem zeroC_171 : zeroC Tryz.prog 171 = some [.v .any] := by kernel_rfl
@[simp] theorem sz_173 : sz Tryz.prog 173 = some 1 := by kernel_rfl
@[simp] theorem bytes_173 : bytes Tryz.prog 173 = some 8 := by kernel_rfl
@[simp] theorem szz_173 : szz Tryz.prog 173 = some 1 := by kernel_rfl
@[simp] theorem isAg_173 : isAg Tryz.prog 173 = some false := by kernel_rfl
@[simp] theorem zeroC_173 : zeroC Tryz.prog 173 = some [.v .any] := by kernel_rfl
@[simp] theorem sz_175 : sz Tryz.prog 175 = some 1 := by kernel_rfl
@[simp] theorem bytes_175 : bytes Tryz.prog 175 = some 8 := by kernel_rfl
@[simp] theorem szz_175 : szz Tryz.prog 175 = some 1 := by kernel_rfl
@[simp] theorem isAg_175 : isAg Tryz.prog 175 = some false := by kernel_rfl
@[simp] theorem zeroC_175 : zeroC Tryz.prog 175 = some [.v .any] := by kernel_rfl
@[simp] theorem sz_176 : sz Tryz.prog 176 = some 1 := by kernel_rfl
@[simp] theorem bytes_176 : bytes Tryz.prog 176 = some 8 := by kernel_rfl
@[simp] theorem szz_176 : szz Tryz.prog 176 = some 1 := by kernel_rfl
@[simp] theorem isAg_176 : isAg Tryz.prog 176 = some false := by kernel_rfl
@[simp] theorem zeroC_176 : zeroC Tryz.prog 176 = some [.v .any] := by kernel_rfl
@[simp] theorem sz_177 : sz Tryz.prog 177 = some 1 := by kernel_rfl
@[simp] theorem bytes_177 : bytes Tryz.prog 177 = some 4 := by kernel_rfl
@[simp] theorem szz_177 : szz Tryz.prog 177 = some 1 := by kernel_rfl
@[simp] theorem isAg_177 : isAg Tryz.prog 177 = some false := by kernel_rfl
@[simp] theorem intK_177 : intK Tryz.prog 177 = some .u32 := by kernel_rfl
@[simp] theorem zeroC_177 : zeroC Tryz.prog 177 = some [.v (.int .u32 0)] := by kernel_rfl
@[simp] theorem sz_179 : sz Tryz.prog 179 = some 1 := by kernel_rfl
@[simp] theorem bytes_179 : bytes Tryz.prog 179 = some 8 := by kernel_rfl
@[simp] theorem szz_179 : szz Tryz.prog 179 = some 1 := by kernel_rfl
@[simp] theorem isAg_179 : isAg Tryz.prog 179 = some false := by kernel_rfl
@[simp] theorem zeroC_179 : zeroC Tryz.prog 179 = some [.v .any] := by kernel_rfl
@[simp] theorem sz_181 : sz Tryz.prog 181 = some 1 := by kernel_rfl
@[simp] theorem bytes_181 : bytes Tryz.prog 181 = some 8 := by kernel_rfl
@[simp] theorem szz_181 : szz Tryz.prog 181 = some 1 := by kernel_rfl
@[simp] theorem isAg_181 : isAg Tryz.prog 181 = some false := by kernel_rfl
@[simp] theorem zeroC_181 : zeroC Tryz.prog 181 = some [.v .any] := by kernel_rfl
@[simp] theorem sz_182 : sz Tryz.prog 182 = some 1 := by kernel_rfl
@[simp] theorem bytes_182 : bytes Tryz.prog 182 = some 8 := by kernel_rfl
@[simp] theorem szz_182 : szz Tryz.prog 182 = some 1 := by kernel_rfl
@[simp] theorem isAg_182 : isAg Tryz.prog 182 = some false := by kernel_rfl
@[simp] theorem zeroC_182 : zeroC Tryz.prog 182 = some [.v .any] := by kernel_rfl
@[simp] theorem sz_183 : sz Tryz.prog 183 = some 3 := by kernel_rfl
@[simp] theorem bytes_183 : bytes Tryz.prog 183 = some 48 := by kernel_rfl
@[simp] theorem szz_183 : szz Tryz.prog 183 = some 3 := by kernel_rfl
@[simp] theorem isAg_183 : isAg Tryz.prog 183 = some true := by kernel_rfl
@[simp] theorem zeroC_183 : zeroC Tryz.prog 183 = some [.v (.str []), .v (.str []), .v .any] := by kernel_rfl
@[simp] theorem fieldsOk_183 : fieldsOk Tryz.prog 183 = true := by kernel_rfl
@[simp] theorem fo_183_0 : fo Tryz.prog 183 0 = some 0 := by kernel_rfl
@[simp] theorem fsz_183_0 : fsz Tryz.prog 183 0 = some 1 := by kernel_rfl
@[simp] theorem fo_183_1 : fo Tryz.prog 183 1 = some 1 := by kernel_rfl
@[simp] theorem fsz_183_1 : fsz Tryz.prog 183 1 = some 1 := by kernel_rfl
@[simp] theorem fo_183_2 : fo Tryz.prog 183 2 = some 2 := by kernel_rfl
@[simp] theorem fsz_183_2 : fsz Tryz.prog 183 2 = some 1 := by kernel_rfl
@[simp] theorem sz_184 : sz Tryz.prog 184 = some 3 := by kernel_rfl
@[simp] theorem bytes_184 : bytes Tryz.prog 184 = some 48 := by kernel_rfl
@[simp] theorem szz_184 : szz Tryz.prog 184 = some 3 := by kernel_rfl
@[simp] theorem isAg_184 : isAg Tryz.prog 184 = some true := by kernel_rfl
@[simp] theorem zeroC_184 : zeroC Tryz.prog 184 = some [.v (.str []), .v (.str []), .v .any] := by kernel_rfl
@[simp] theorem fieldsOk_184 : fieldsOk Tryz.prog 184 = true := by kernel_rfl
@[simp] theorem fo_184_0 : fo Tryz.prog 184 0 = some 0 := by kernel_rfl
@[simp] theorem fsz_184_0 : fsz Tryz.prog 184 0 = some 1 := by kernel_rfl
@[simp] theorem fo_184_1 : fo Tryz.prog 184 1 = some 1 := by kernel_rfl
@[simp] theorem fsz_184_1 : fsz Tryz.prog 184 1 = some 1 := by kernel_rfl
@[simp] theorem fo_184_2 : fo Tryz.prog 184 2 = some 2 := by kernel_rfl
@[simp] theorem fsz_184_2 : fsz Tryz.prog 184 2 = some 1 := by kernel_rfl
@[simp] theorem sz_185 : sz Tryz.prog 185 = some 1 := by kernel_rfl
@[simp] theorem bytes_185 : bytes Tryz.prog 185 = some 8 := by kernel_rfl
@[simp] theorem szz_185 : szz Tryz.prog 185 = some 1 := by kernel_rfl
@[simp] theorem isAg_185 : isAg Tryz.prog 185 = some false := by kernel_rfl
@[simp] theorem zeroC_185 : zeroC Tryz.prog 185 = some [.v .any] := by kernel_rfl
@[simp] theorem sz_187 : sz Tryz.prog 187 = some 1 := by kernel_rfl
@[simp] theorem bytes_187 : bytes Tryz.prog 187 = some 8 := by kernel_rfl
@[simp] theorem szz_187 : szz Tryz.prog 187 = some 1 := by kernel_rfl
@[simp] theorem isAg_187 : isAg Tryz.prog 187 = some false := by kernel_rfl
@[simp] theorem zeroC_187 : zeroC Tryz.prog 187 = some [.v .any] := by kernel_rfl
@[simp] theorem sz_188 : sz Tryz.prog 188 = some 1 := by kernel_rfl
@[simp] theorem bytes_188 : bytes Tryz.prog 188 = some 8 := by kernel_rfl
@[simp] theorem szz_188 : szz Tryz.prog 188 = some 1 := by kernel_rfl
@[simp] theorem isAg_188 : isAg Tryz.prog 188 = some false := by kernel_rfl
@[simp] theorem zeroC_188 : zeroC Tryz.prog 188 = some [.v .any] := by kernel_rfl
@[simp] theorem sz_189 : sz Tryz.prog 189 = some 1 := by kernel_rfl
@[simp] theorem bytes_189 : bytes Tryz.prog 189 = some 8 := by kernel_rfl
@[simp] theorem szz_189 : szz Tryz.prog 189 = some 1 := by kernel_rfl
@[simp] theorem isAg_189 : isAg Tryz.prog 189 = some false := by kernel_rfl
@[simp] theorem zeroC_189 : zeroC Tryz.prog 189 = some [.v .any] := by kernel_rfl
@[simp] theorem sz_192 : sz Tryz.prog 192 = some 1 := by kernel_rfl
@[simp] theorem bytes_192 : bytes Tryz.prog 192 = some 8 := by kernel_rfl
@[simp] theorem szz_192 : szz Tryz.prog 192 = some 1 := by kernel_rfl
@[simp] theorem isAg_192 : isAg Tryz.prog 192 = some false := by kernel_rfl
@[simp] theorem zeroC_192 : zeroC Tryz.prog 192 = some [.v .any] := by kernel_rfl
@[simp] theorem sz_193 : sz Tryz.prog 193 = some 1 := by kernel_rfl
@[simp] theorem bytes_193 : bytes Tryz.prog 193 = some 8 := by kernel_rfl
@[simp] theorem szz_193 : szz Tryz.prog 193 = some 1 := by kernel_rfl
@[simp] theorem isAg_193 : isAg Tryz.prog 193 = some false := by kernel_rfl
@[simp] theorem zeroC_193 : zeroC Tryz.prog 193 = some [.v .any] := by kernel_rfl
@[simp] theorem sz_194 : sz Tryz.prog 194 = some 1 := by kernel_rfl
@[simp] theorem bytes_194 : bytes Tryz.prog 194 = some 8 := by kernel_rfl
@[simp] theorem szz_194 : szz Tryz.prog 194 = some 1 := by kernel_rfl
@[simp] theorem isAg_194 : isAg Tryz.prog 194 = some false := by kernel_rfl
@[simp] theorem zeroC_194 : zeroC Tryz.prog 194 = some [.v .any] := by kernel_rfl
@[simp] theorem sz_195 : sz Tryz.prog 195 = some 1 := by kernel_rfl
@[simp] theorem bytes_195 : bytes Tryz.prog 195 = some 8 := by kernel_rfl
@[simp] theorem szz_195 : szz Tryz.prog 195 = some 1 := by kernel_rfl
@[simp] theorem isAg_195 : isAg Tryz.prog 195 = some false := by kernel_rfl
@[simp] theorem zeroC_195 : zeroC Tryz.prog 195 = some [.v .any] := by kernel_rfl
@[simp] theorem sz_196 : sz Tryz.prog 196 = some 1 := by kernel_rfl
@[simp] theorem bytes_196 : bytes Tryz.prog 196 = some 16 := by kernel_rfl
@[simp] theorem szz_196 : szz Tryz.prog 196 = some 1 := by kernel_rfl
@[simp] theorem isAg_196 : isAg Tryz.prog 196 = some true := by kernel_rfl
@[simp] theorem zeroC_196 : zeroC Tryz.prog 196 = some [.v (.str [])] := by kernel_rfl
@[simp] theorem fieldsOk_196 : fieldsOk Tryz.prog 196 = true := by kernel_rfl
@[simp] theorem eqKinds_196 : eqKinds Tryz.prog 196 = some [2] := by kernel_rfl
@[simp] theorem fo_196_0 : fo Tryz.prog 196 0 = some 0 := by kernel_rfl
@[simp] theorem fsz_196_0 : fsz Tryz.prog 196 0 = some 1 := by kernel_rfl
@[simp] theorem sz_197 : sz Tryz.prog 197 = some 1 := by kernel_rfl
@[simp] theorem bytes_197 : bytes Tryz.prog 197 = some 16 := by kernel_rfl
@[simp] theorem szz_197 : szz Tryz.prog 197 = some 1 := by kernel_rfl
@[simp] theorem isAg_197 : isAg Tryz.prog 197 = some true := by kernel_rfl
@[simp] theorem zeroC_197 : zeroC Tryz.prog 197 = some [.v (.str [])] := by kernel_rfl
@[simp] theorem fieldsOk_197 : fieldsOk Tryz.prog 197 = true := by kernel_rfl
@[simp] theorem eqKinds_197 : eqKinds Tryz.prog 197 = some [2] := by kernel_rfl
@[simp] theorem fo_197_0 : fo Tryz.prog 197 0 = some 0 := by kernel_rfl
@[simp] theorem fsz_197_0 : fsz Tryz.prog 197 0 = some 1 := by kernel_rfl
@[simp] theorem sz_198 : sz Tryz.prog 198 = some 1 := by kernel_rfl
@[simp] theorem bytes_198 : bytes Tryz.prog 198 = some 24 := by kernel_rfl
@[simp] theorem szz_198 : szz Tryz.prog 198 = some 1 := by kernel_rfl
@[simp] theorem isAg_198 : isAg Tryz.prog 198 = some false := by kernel_rfl
@[simp] theorem elT_198 : elT Tryz.prog 198 = some 4 := by kernel_rfl
@[simp] theorem isStr_198 : isStr Tryz.prog 198 = some false := by kernel_rfl
@[simp] theorem zeroC_198 : zeroC Tryz.prog 198 = some [.nil] := by kernel_rfl
@[simp] theorem sz_199 : sz Tryz.prog 199 = some 1 := by kernel_rfl
@[simp] theorem bytes_199 : bytes Tryz.prog 199 = some 8 := by kernel_rfl
@[simp] theorem szz_199 : szz Tryz.prog 199 = some 1 := by kernel_rfl
@[simp] theorem isAg_199 : isAg Tryz.prog 199 = some false := by kernel_rfl
@[simp] theorem zeroC_199 : zeroC Tryz.prog 199 = some [.v .any] := by kernel_rfl
@[simp] theorem sz_201 : sz Tryz.prog 201 = some 2 := by kernel_rfl
@[simp] theorem bytes_201 : bytes Tryz.prog 201 = some 2 := by kernel_rfl
@[simp] theorem szz_201 : szz Tryz.prog 201 = some 2 := by kernel_rfl
@[simp] theorem isAg_201 : isAg Tryz.prog 201 = some true := by kernel_rfl
@[simp] theorem zeroC_201 : zeroC Tryz.prog 201 = some [.v (.int .u8 0), .v (.int .u8 0)] := by kernel_rfl
@[simp] theorem fieldsOk_201 : fieldsOk Tryz.prog 201 = true := by kernel_rfl
@[simp] theorem eqKinds_201 : eqKinds Tryz.prog 201 = some [1, 1] := by kernel_rfl
@[simp] theorem fo_201_0 : fo Tryz.prog 201 0 = some 0 := by kernel_rfl
@[simp] theorem fsz_201_0 : fsz Tryz.prog 201 0 = some 1 := by kernel_rfl
@[simp] theorem fo_201_1 : fo Tryz.prog 201 1 = some 1 := by kernel_rfl
@[simp] theorem fsz_201_1 : fsz Tryz.prog 201 1 = some 1 := by kernel_rfl
@[simp] theorem sz_202 : sz Tryz.prog 202 = some 2 := by kernel_rfl
@[simp] theorem bytes_202 : bytes Tryz.prog 202 = some 2 := by kernel_rfl
@[simp] theorem szz_202 : szz Tryz.prog 202 = some 2 := by kernel_rfl
@[simp] theorem isAg_202 : isAg Tryz.prog 202 = some true := by kernel_rfl
@[simp] theorem zeroC_202 : zeroC Tryz.prog 202 = some [.v (.int .u8 0), .v (.int .u8 0)] := by kernel_rfl
@[simp] theorem fieldsOk_202 : fieldsOk Tryz.prog 202 = true := by kernel_rfl
@[simp] theorem eqKinds_202 : eqKinds Tryz.prog 202 = some [1, 1] := by kernel_rfl
@[simp] theorem fo_202_0 : fo Tryz.prog 202 0 = some 0 := by kernel_rfl
@[simp] theorem fsz_202_0 : fsz Tryz.prog 202 0 = some 1 := by kernel_rfl
@[simp] theorem fo_202_1 : fo Tryz.prog 202 1 = some 1 := by kernel_rfl
@[simp] theorem fsz_202_1 : fsz Tryz.prog 202 1 = some 1 := by kernel_rfl
@[simp] theorem sz_204 : sz Tryz.prog 204 = some 1 := by kernel_rfl
@[simp] theorem bytes_204 : bytes Tryz.prog 204 = some 8 := by kernel_rfl
@[simp] theorem szz_204 : szz Tryz.prog 204 = some 1 := by kernel_rfl
@[simp] theorem isAg_204 : isAg Tryz.prog 204 = some false := by kernel_rfl
@[simp] theorem zeroC_204 : zeroC Tryz.prog 204 = some [.v .any] := by kernel_rfl
@[simp] theorem sz_212 : sz Tryz.prog 212 = some 1 := by kernel_rfl
@[simp] theorem bytes_212 : bytes Tryz.prog 212 = some 8 := by kernel_rfl
@[simp] theorem szz_212 : szz Tryz.prog 212 = some 1 := by kernel_rfl
@[simp] theorem isAg_212 : isAg Tryz.prog 212 = some false := by kernel_rfl
@[simp] theorem zeroC_212 : zeroC Tryz.prog 212 = some [.v .any] := by kernel_rfl
@[simp] theorem sz_215 : sz Tryz.prog 215 = some 1 := by kernel_rfl
@[simp] theorem bytes_215 : bytes Tryz.prog 215 = some 8 := by kernel_rfl
@[simp] theorem szz_215 : szz Tryz.prog 215 = some 1 := by kernel_rfl
@[simp] theorem isAg_215 : isAg Tryz.prog 215 = some false := by kernel_rfl
@[simp] theorem zeroC_215 : zeroC Tryz.prog 215 = some [.v .any] := by kernel_rfl
end TL

set_option linter.unusedSimpArgs false
set_option linter.unusedVariables false
set_option maxRecDepth 100000
namespace TL
open Go Go.Proofs
theorem peopleOk_fn (p : Int) : FnZ Tryz.prog 86 [.int .i64 p] (.bool (decide (1 ≤ p) && decide (p ≤ 4))) := by
  refine FnZ_of (rs := [.tmp 2]) false Tryz.func86 rfl rfl rfl rfl (Nat.le_of_ble_eq_true rfl) ?_
  simp -dsimp
  refine iteP_intro (fun h => ?_) (fun h => ?_) <;> simp -dsimp [h]
theorem w64 {x : Int} (h1 : -9223372036854775808 ≤ x) (h2 : x ≤ 9223372036854775807) : IntKind.wrap .i64 x = x := by rw [IntKind.wrap_i64]; omega
def codeV (bs : List UInt8) : V := .sl (bs.map fun b => .int .u8 b.toNat)
theorem codeZ (bs : List UInt8) : allZ 1 (bs.map fun b => V.int .u8 b.toNat) := by
  intro x hx; obtain ⟨b, _, rfl⟩ := List.mem_map.1 hx; simp [V.cells, V.cell]
/-- The reader of codes. -/
theorem open_fn (bs : List UInt8) (m : Mem) (n : Nat) : FnS Tryz.prog 51 m n [.v (.sl (bs.map fun b => .int .u8 b.toNat))] (fun t m' n' => t = .ptr n 0 ∧ n' = n + 1 ∧ m' = updM m n (some (.box 103 2 [.v (.sl ((bs.take 2000).map fun b => .int .u8 b.toNat)), .v (.int .i64 0)]))) := by
  refine FnS_of (rs := [.tmp 2]) false Tryz.func51 rfl rfl rfl rfl (Nat.le_of_ble_eq_true rfl) ?_
  simp -dsimp
  refine iteP_intro (fun h => ?_) (fun h => ?_)
  · simp -dsimp at h
    have h' : (2000 : Int) ≤ bs.length := by omega
    simp -dsimp [h']
  · simp -dsimp at h
    have : bs.take 2000 = bs := List.take_of_length_le (by omega)
    simp -dsimp [this]
/-- What the reader says. -/
def rdNum (bs : List UInt8) (p : Nat) (k : Int) : Int :=
  if k < 1 ∨ bs.length = 0 then 0
  else if p < bs.length then ((bs.getD p 0).toNat : Int) % k
  else 0
theorem tmod_range (a k : Int) (h0 : 0 ≤ a) (hk : 1 ≤ k) : 0 ≤ a.tmod k ∧ (1 ≤ k → a.tmod k < k) := by
  rw [Int.tmod_eq_emod_of_nonneg h0]
  exact ⟨Int.emod_nonneg _ (by omega), fun _ => Int.emod_lt_of_pos _ (by omega)⟩
theorem tmod_nat (a b : Nat) (hb : 0 < b) : ∃ q : Nat, q < b ∧ (a : Int).tmod b = q := ⟨a % b, Nat.mod_lt _ hb, by rw [Int.tmod_eq_emod_of_nonneg (by omega)]; rfl⟩
theorem tdiv_nat (a b : Nat) : ∃ q : Nat, q ≤ a ∧ (a : Int).tdiv b = q := ⟨a / b, Nat.div_le_self _ _, by rw [Int.tdiv_eq_ediv_of_nonneg (by omega)]; rfl⟩
theorem xor64 (a b k : Int) (ha : 0 ≤ a) (ha' : a < 4611686018427387904) (hb : 0 ≤ b) (hb' : b < 4611686018427387904) (hk : 1 ≤ k) :
    0 ≤ (IntKind.wrap .i64 (((a % 2 ^ IntKind.i64.bits).toNat ^^^ (b % 2 ^ IntKind.i64.bits).toNat : Nat) : Int)).tmod k ∧ (1 ≤ k → (IntKind.wrap .i64 (((a % 2 ^ IntKind.i64.bits).toNat ^^^ (b % 2 ^ IntKind.i64.bits).toNat : Nat) : Int)).tmod k < k) := by
  obtain ⟨a, rfl⟩ := Int.eq_ofNat_of_zero_le ha
  obtain ⟨b, rfl⟩ := Int.eq_ofNat_of_zero_le hb
  have h1 : a < 2 ^ 62 := by omega
  have h2 : b < 2 ^ 62 := by omega
  have h3 := Nat.xor_lt_two_pow h1 h2
  have e1 : ((a : Int) % 2 ^ IntKind.i64.bits).toNat = a := by simp only [IntKind.bits]; omega
  have e2 : ((b : Int) % 2 ^ IntKind.i64.bits).toNat = b := by simp only [IntKind.bits]; omega
  rw [e1, e2, w64 (by omega) (by omega)]
  exact tmod_range _ _ (by omega) hk
theorem pick_facts (p c1 c2 q3 : Nat) (hp : p < 1000000000) (h1 : c1 < 256) (h2 : c2 < 256) (h3 : q3 ≤ p) :
    (IntKind.wrap .i64 ((p : Int) * 7) = p * 7) ∧
    (IntKind.wrap .i64 ((p : Int) * 7 + 3) = p * 7 + 3) ∧
    (IntKind.wrap .i64 (c1 : Int) = c1) ∧
    (IntKind.wrap .i64 ((c1 : Int) * 131) = c1 * 131) ∧
    (IntKind.wrap .i64 (c2 : Int) = c2) ∧
    (IntKind.wrap .i64 ((c2 : Int) * 1117) = c2 * 1117) ∧
    (IntKind.wrap .i64 ((c1 : Int) * 131 + c2 * 1117) = c1 * 131 + c2 * 1117) ∧
    (IntKind.wrap .i64 ((p : Int) * 29) = p * 29) ∧
    (IntKind.wrap .i64 ((c1 : Int) * 131 + c2 * 1117 + p * 29) = c1 * 131 + c2 * 1117 + p * 29) ∧
    (IntKind.wrap .i64 (q3 : Int) = q3) ∧
    (IntKind.wrap .i64 ((q3 : Int) * 53) = q3 * 53) ∧
    (IntKind.wrap .i64 ((c1 : Int) * 131 + c2 * 1117 + p * 29 + q3 * 53) = c1 * 131 + c2 * 1117 + p * 29 + q3 * 53) := by
  refine ⟨w64 ?_ ?_, w64 ?_ ?_, w64 ?_ ?_, w64 ?_ ?_, w64 ?_ ?_, w64 ?_ ?_, w64 ?_ ?_, w64 ?_ ?_, w64 ?_ ?_, w64 ?_ ?_, w64 ?_ ?_, w64 ?_ ?_⟩ <;> omega
theorem pick_fn (bs : List UInt8) (p : Nat) (hp : p < 1000000000) (k : Int) (m : Mem) (n rid : Nat) (hm : m rid = some (.box 103 2 [.v (.sl (bs.map fun b => .int .u8 b.toNat)), .v (.int .i64 p)])) :
    FnS Tryz.prog 56 m n [.ptr rid 0, .v (.int .i64 k)] (fun t m' n' => n ≤ n' ∧ (∃ r : Int, t = .v (.int .i64 r) ∧ 0 ≤ r ∧ (1 ≤ k → r < k)) ∧ m' = updM m rid (some (.box 103 2 [.v (.sl (bs.map fun b => .int .u8 b.toNat)), .v (.int .i64 (p + 1))]))) := by
  have w1 : IntKind.wrap .i64 ((p : Int) + 1) = p + 1 := by rw [IntKind.wrap_i64]; omega
  have w2 : IntKind.wrap .i64 (p : Int) = p := by rw [IntKind.wrap_i64]; omega
  by_cases hk : k < 1
  · refine FnS_of (rs := [.tmp 4]) false Tryz.func56 rfl rfl rfl rfl (Nat.le_of_ble_eq_true rfl) ?_
    simp -dsimp [hm, w1, w2, hk]
    omega
  have k0 : ¬ k = 0 := by omega
  by_cases hb : bs = []
  · refine FnS_of (rs := [.tmp 4]) false Tryz.func56 rfl rfl rfl rfl (Nat.le_of_ble_eq_true rfl) ?_
    simp -dsimp [hm, w1, w2, hk, hb]
    omega
  have hpos : 0 < bs.length := List.length_pos_iff.2 hb
  by_cases hq : (p : Int) < bs.length
  · have hlt : p < bs.length := by omega
    have hget : bs[p]? = some bs[p] := List.getElem?_eq_getElem hlt
    have w3 : IntKind.wrap .i64 (bs[p].toNat : Int) = bs[p].toNat := by have := UInt8.toNat_lt bs[p]; rw [IntKind.wrap_i64]; omega
    have hp0 : (0 : Int) ≤ p := by omega
    refine FnS_of (rs := [.tmp 4]) false Tryz.func56 rfl rfl rfl rfl (Nat.le_of_ble_eq_true rfl) ?_
    simp -dsimp [hm, w1, w2, hk, hb, hq, hget, w3, k0, hlt]
    exact tmod_range _ _ (by omega) (by omega)
  have hlt : ¬ p < bs.length := by omega
  have b0 : ¬ (bs.length : Int) = 0 := by omega
  obtain ⟨q1, l1, hr⟩ := tmod_nat p bs.length hpos
  obtain ⟨q2, l2, hr2⟩ := tmod_nat (p * 7 + 3) bs.length hpos
  obtain ⟨q3, l3, hr3⟩ := tdiv_nat p bs.length
  have e7 : ((p * 7 + 3 : Nat) : Int) = (p : Int) * 7 + 3 := by omega
  have hr2' : ((p : Int) * 7 + 3).tmod bs.length = q2 := by rw [← e7]; exact hr2
  have g1 : bs[q1]? = some bs[q1] := List.getElem?_eq_getElem l1
  have g2 : bs[q2]? = some bs[q2] := List.getElem?_eq_getElem l2
  have u1 := UInt8.toNat_lt bs[q1]
  have u2 := UInt8.toNat_lt bs[q2]
  obtain ⟨v1, v2, v3, v4, v5, v6, v7, v8, v9, v10, v11, v12⟩ := pick_facts p _ _ q3 hp u1 u2 l3
  refine FnS_of (rs := [.tmp 4]) false Tryz.func56 rfl rfl rfl rfl (Nat.le_of_ble_eq_true rfl) ?_
  simp -dsimp [hm, w1, w2, hk, hb, hq, hlt]
  refine twp_draw (List.range 46) [rid] (List.replicate 46 [0]) (List.replicate 46 [0]) (by kernel_rfl) (by kernel_rfl) (by kernel_rfl) (by kernel_rfl) ?_
  simp -dsimp [hm, w1, w2, hk, hb, hq, hlt, k0, b0, hr, hr2', hr3, g1, g2, List.range_succ, l1, l2, v1, v2, v3, v4, v5, v6, v7, v8, v9, v10, v11, v12]
  have q64 : 0 ≤ ((bs[q1].toNat : Int) * 131 + bs[q2].toNat * 1117 + p * 29 + q3 * 53).tdiv 64 ∧ ((bs[q1].toNat : Int) * 131 + bs[q2].toNat * 1117 + p * 29 + q3 * 53).tdiv 64 < 4611686018427387904 := by
    rw [Int.tdiv_eq_ediv_of_nonneg (by omega)]; omega
  rw [w64 (x := Int.tdiv _ 64) (by omega) (by omega)]
  exact xor64 _ _ k (by omega) (by omega) q64.1 q64.2 (by omega)
end TL
