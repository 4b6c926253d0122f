/- TL, part 18: from the code to the contract. -/
import Derived.Test.YtcoapdapigpfgaaDoorTlWp2
set_option linter.unusedVariables false
set_option linter.unusedSimpArgs false
namespace TL
open Go Go.RowKit

section
variable {P : Program}

def resOf (tmps : Array Value) : ResultVar → Sem Value
  | .tmp t => pure (tmps.getD t undef)
  | .cell a t => do loadVar t (← asAddr (tmps.getD a undef))

def resV : List Value → Value
  | [u] => u
  | us => .tuple us.toArray
theorem loadAt_asAddr {t : Nat} {u v : Value} {w : World} (h : (Instr.loadAt t u).run P w = .ok v w) : (do loadVar t (← asAddr u)).run P w = .ok v w := by
  unfold Instr.loadAt Instr.sureAddr at h
  unfold asAddr
  cases u with
  | pointer p =>
    cases p with
    | none => simp at h
    | some ad => simpa using h
  | _ => simp at h
theorem outs_sound {φ : Phi} {Z Zb : Zs} {w : World} {s : S} {tmps : Array Value} (hm : RelM P φ Z s.m s.n w) (htm : ∀ t, RepT φ Z w (s.tm t) (tmps.getD t undef)) (hs : SubZ Z Zb) (ho : ∀ g, Owned φ s.m g → ∀ o, Zb g o) :
    ∀ (rs : List ResultVar) (vs : List V), outs P s rs = some vs → ∃ us, (rs.mapM (resOf tmps)).run P w = .ok us w ∧ RepVs Zb w vs us
  | [], vs, h => by cases h; exact ⟨[], by simp, .nil⟩
  | .tmp t :: rs, vs, h => by
    simp only [outs] at h
    obtain ⟨x, hx, h⟩ := obind_eq h
    obtain ⟨xs, hxs, h⟩ := obind_eq h
    cases h
    obtain ⟨us, h1, h2⟩ := outs_sound hm htm hs ho rs xs hxs
    exact ⟨_ :: us, by simp [List.mapM_cons, resOf, h1], .cons (bor_sound hm (k := true) hs (fun _ => ho) 4 _ _ _ (htm t) hx) h2⟩
  | .cell a t :: rs, vs, h => by
    simp only [outs] at h
    obtain ⟨y, hy, h⟩ := obind_eq h
    obtain ⟨x, hx, h⟩ := obind_eq h
    obtain ⟨xs, hxs, h⟩ := obind_eq h
    cases h
    obtain ⟨us, h1, h2⟩ := outs_sound hm htm hs ho rs xs hxs
    obtain ⟨v, h3, h4⟩ := evLoad_sound hm (htm a) hy
    have h5 : (resOf tmps (.cell a t)).run P w = .ok v w := loadAt_asAddr h3
    exact ⟨v :: us, by simp [List.mapM_cons, h5, h1], .cons (bor_sound hm (k := true) hs (fun _ => ho) 4 _ _ _ h4 hx) h2⟩

theorem results_outs {fn : Func} {tmps : Array Value} {w : World} {us : List Value} (h : (fn.results.toList.mapM (resOf tmps)).run P w = .ok us w) : (results fn tmps).run P w = .ok (resV us) w := by
  have e : fn.results.mapM (resOf tmps) = List.toArray <$> fn.results.toList.mapM (resOf tmps) := by
    rw [← List.mapM_toArray]
  have e2 : (fn.results.mapM (resOf tmps)).run P w = .ok us.toArray w := by rw [e]; simp [h]
  have e3 : results fn tmps = (do let vs ← fn.results.mapM (resOf tmps); pure (if h : vs.size = 1 then vs[0] else .tuple vs)) := by
    unfold results
    congr 1
  rw [e3, Sem.run_bind, e2]
  rcases us with _ | ⟨u, _ | ⟨v, us⟩⟩ <;> simp [resV]

theorem rep_outV {Z : Zs} {w : World} {vs : List V} {us : List Value} (h : RepVs Z w vs us) : RepV Z w (outV vs) (resV us) := by
  cases h with
  | nil => exact .tup .nil
  | cons h t =>
    cases t with
    | nil => exact h
    | cons g t => exact .tup (.cons h (.cons g t))

/-- The start of a call. -/
def start (mu : Bool) (args : List V) : S := ⟨fun t => (args.map T.v).getD t (.v .any), fun _ => none, 0, mu⟩

theorem start_rel {mu : Bool} {args : List V} {vs : List Value} {Z : Zs} {w : World} {N : Nat} (hz : ZOk P Z w) (h : RepVs Z w args vs) (hN : args.length ≤ N) :
    RelF P N φ0 m0 Z w (start mu args) { tmps := vs.toArray ++ Array.replicate (N - vs.toArray.size) undef, defers := [] } w := by
  have hl := h.length
  refine ⟨φ0, Z, ⟨fun i u h => (by simp at h), fun _ _ => rfl, fun i b h => (by simp [start] at h), fun i j a b u v k h => (by simp [start] at h), hz⟩, fun t => ?_, ?_, rfl, Step.refl _ _ _ _⟩
  · have hT := h.toTs (φ := φ0)
    simp only [start]
    rw [Array.getD_eq_getD_getElem?, List.getD_eq_getElem?_getD]
    by_cases ht : t < vs.length
    · obtain ⟨u, hu, hr⟩ := hT.get t ((args.map T.v)[t]'(by simp; omega)) (List.getElem?_eq_getElem _)
      rw [List.getElem?_eq_getElem (by simp; omega), Array.getElem?_append_left (by simpa using ht), List.getElem?_toArray, hu]
      exact hr
    · rw [List.getElem?_eq_none (by simp; omega), Array.getElem?_append_right (by simp; omega)]
      refine .v ?_
      exact .any _
  · simp; omega

theorem FnZ_of {f : Nat} {fn : Func} {c : Code} {rs : List ResultVar} {args : List V} {r : V} (mu : Bool) (hf : P.funcs[f]? = some fn) (hb : fn.body = some c) (hr : fn.results.toList = rs) (hn : (fn.name == "runtime.NumGoroutine") = false)
    (hd : dstsOk fn.ntmps c = true) (ha : args.length ≤ fn.ntmps) (h : twp P c (fun e s => retP P rs (fun v => v = r) e s) (start mu args)) : FnZ P f args r := by
  refine ⟨⟨fn, hf, hn, by rw [hb]; rfl⟩, fun Z w vs hz hv => ?_⟩
  refine calls_of_wp hf hb (wp_mono (twp_sound c hd _ _ _ _ (start_rel (N := fn.ntmps) (mu := mu) hz hv ha) h) ?_)
  have fin : ∀ s a w', RelF P fn.ntmps φ0 m0 Z w s a w' → bindP (outs P s rs) (fun vs => outV vs = r) → a.defers = [] ∧ ∃ v, (results fn a.tmps).run P w' = .ok v w' ∧
      ∃ v', Ending.returned v = .returned v' ∧ Below w.heap.size w w' ∧ RepV (freshZ Z w.heap.size w'.heap.size) w' r v' := by
    rintro s a w' ⟨φ, Z', hm, htm, hsz, hdf, hst⟩ ⟨xs, hxs, rfl⟩
    have no : ∀ k, ¬ Owned φ0 m0 k := fun k ⟨i, b, v, h1, _⟩ => by cases h1
    have hsub : SubZ Z' (freshZ Z w.heap.size w'.heap.size) := fun k o hz' => by
      rcases hst.znew k o hz' with h1 | h1 | h1
      · exact .inl h1
      · exact .inr ⟨h1, hm.zlt.lt k o hz'⟩
      · exact absurd h1 (no k)
    have hown : ∀ g, Owned φ s.m g → ∀ o, freshZ Z w.heap.size w'.heap.size g o := fun g hg o => by
      refine .inr ⟨?_, hm.owned_lt hg⟩
      rcases Nat.lt_or_ge g w.heap.size with h1 | h1
      · exact absurd (hst.own g h1 hg) (no g)
      · exact h1
    obtain ⟨us, h1, h2⟩ := outs_sound hm htm hsub hown rs xs hxs
    rw [← hr] at h1
    exact ⟨hdf, _, results_outs h1, _, rfl, ⟨hst.os, hst.tape, hst.output, hst.size, fun k hk => hst.out k hk (no k)⟩, rep_outV h2⟩
  intro e a w' hq
  cases e with
  | normal => obtain ⟨s, h1, h2⟩ := hq; exact fin s a w' h1 h2
  | ret => obtain ⟨s, h1, h2⟩ := hq; exact fin s a w' h1 h2
  | exit i => obtain ⟨s, h1, h2⟩ := hq; exact h2.elim
  | _ => exact hq.elim

@[simp] theorem retP_normal {rs : List ResultVar} {R : V → Prop} {s : S} : retP P rs R .normal s = bindP (outs P s rs) fun vs => R (outV vs) := nrfl
@[simp] theorem retP_ret {rs : List ResultVar} {R : V → Prop} {s : S} : retP P rs R .ret s = bindP (outs P s rs) fun vs => R (outV vs) := nrfl
@[simp] theorem retP_exit {rs : List ResultVar} {R : V → Prop} {s : S} {i : Nat} : retP P rs R (.exit i) s = False := nrfl
@[simp] theorem outs_nil {s : S} : outs P s [] = some [] := rfl
@[simp] theorem outs_tmp {s : S} {t : Nat} {rs : List ResultVar} : outs P s (.tmp t :: rs) = obind (bor true s.m 4 (s.tm t)) fun x => obind (outs P s rs) fun xs => some (x :: xs) := rfl
@[simp] theorem outs_cell {s : S} {a t : Nat} {rs : List ResultVar} : outs P s (.cell a t :: rs) = obind (evLoad P t s.m (s.tm a)) fun y => obind (bor true s.m 4 y) fun x => obind (outs P s rs) fun xs => some (x :: xs) := rfl
@[simp] theorem outV_one {x : V} : outV [x] = x := rfl
@[simp] theorem outV_none : outV [] = .tup [] := rfl
@[simp] theorem outV_two {x y : V} {xs : List V} : outV (x :: y :: xs) = .tup (x :: y :: xs) := rfl
@[simp] theorem start_tm {mu : Bool} {args : List V} {t : Nat} : (start mu args).tm t = (args.map T.v).getD t (.v .any) := rfl
@[simp] theorem start_m {mu : Bool} {args : List V} : (start mu args).m = fun _ => none := rfl
@[simp] theorem start_n {mu : Bool} {args : List V} : (start mu args).n = 0 := rfl
@[simp] theorem start_mu {mu : Bool} {args : List V} : (start mu args).mu = mu := rfl

/-- Calls. -/
theorem call_ {f : Nat} {m : Mem} {n : Nat} {args : List T} {k : T → Mem → Nat → Prop} {vs : List V} {r : V} (h : FnZ P f vs r) (ha : mapO (bor false m 4) args = some vs) (hk : k (.v r) m n) : callP P f m n args k := .inl ⟨vs, r, h, .inl ha, hk⟩
theorem callM_ {f : Nat} {m : Mem} {n : Nat} {args : List T} {k : T → Mem → Nat → Prop} {vs : List V} {r : V} (h : FnZ P f vs r) (ha : mapO (bor true m 4) args = some vs) (hp : r.flat = true) (hk : k (.v r) m n) : callP P f m n args k := .inl ⟨vs, r, h, .inr ⟨ha, hp⟩, hk⟩
theorem callS_ {f : Nat} {m : Mem} {n : Nat} {args : List T} {k : T → Mem → Nat → Prop} {post : T → Mem → Nat → Prop} (h : FnS P f m n args post) (hk : ∀ t m' n', post t m' n' → k t m' n') : callP P f m n args k := .inr ⟨post, h, hk⟩

/-- What a function's results are to its caller. -/
def outT (P : Program) (s : S) : List ResultVar → Option (List T)
  | [] => some []
  | .tmp t :: rs => obind (outT P s rs) fun xs => some (s.tm t :: xs)
  | .cell a t :: rs => obind (evLoad P t s.m (s.tm a)) fun y => obind (outT P s rs) fun xs => some (y :: xs)
def outTV : List T → T
  | [x] => x
  | xs => .tup xs
@[simp] theorem outT_nil {s : S} : outT P s [] = some [] := rfl
@[simp] theorem outT_tmp {s : S} {t : Nat} {rs : List ResultVar} : outT P s (.tmp t :: rs) = obind (outT P s rs) fun xs => some (s.tm t :: xs) := rfl
@[simp] theorem outT_cell {s : S} {a t : Nat} {rs : List ResultVar} : outT P s (.cell a t :: rs) = obind (evLoad P t s.m (s.tm a)) fun y => obind (outT P s rs) fun xs => some (y :: xs) := rfl
@[simp] theorem outTV_one {x : T} : outTV [x] = x := rfl
@[simp] theorem outTV_none : outTV [] = .tup [] := rfl
@[simp] theorem outTV_two {x y : T} {xs : List T} : outTV (x :: y :: xs) = .tup (x :: y :: xs) := rfl
/-- The end of a function with memory. -/
def retS (P : Program) (rs : List ResultVar) (R : T → Mem → Nat → Prop) (e : TExit) (s : S) [Hd R] [Hd s] : Prop :=
  match e with
  | .exit _ => False
  | _ => bindP (outT P s rs) fun ts => R (outTV ts) s.m s.n
@[simp] theorem retS_normal {rs : List ResultVar} {R : T → Mem → Nat → Prop} {s : S} : retS P rs R .normal s = bindP (outT P s rs) fun vs => R (outTV vs) s.m s.n := nrfl
@[simp] theorem retS_ret {rs : List ResultVar} {R : T → Mem → Nat → Prop} {s : S} : retS P rs R .ret s = bindP (outT P s rs) fun vs => R (outTV vs) s.m s.n := nrfl
@[simp] theorem retS_exit {rs : List ResultVar} {R : T → Mem → Nat → Prop} {s : S} {i : Nat} : retS P rs R (.exit i) s = False := nrfl

theorem outT_sound {φ : Phi} {Z : Zs} {w : World} {s : S} {tmps : Array Value} (hm : RelM P φ Z s.m s.n w) (htm : ∀ t, RepT φ Z w (s.tm t) (tmps.getD t undef)) :
    ∀ (rs : List ResultVar) (vs : List T), outT P s rs = some vs → ∃ us, (rs.mapM (resOf tmps)).run P w = .ok us w ∧ RepTs φ Z w vs us
  | [], vs, h => by cases h; exact ⟨[], by simp, .nil⟩
  | .tmp t :: rs, vs, h => by
    simp only [outT] at h
    obtain ⟨xs, hxs, h⟩ := obind_eq h
    cases h
    obtain ⟨us, h1, h2⟩ := outT_sound hm htm rs xs hxs
    exact ⟨_ :: us, by simp [List.mapM_cons, resOf, h1], .cons (htm t) h2⟩
  | .cell a t :: rs, vs, h => by
    simp only [outT] at h
    obtain ⟨y, hy, h⟩ := obind_eq h
    obtain ⟨xs, hxs, h⟩ := obind_eq h
    cases h
    obtain ⟨us, h1, h2⟩ := outT_sound hm htm rs xs hxs
    obtain ⟨v, h3, h4⟩ := evLoad_sound hm (htm a) hy
    have h5 : (resOf tmps (.cell a t)).run P w = .ok v w := loadAt_asAddr h3
    exact ⟨v :: us, by simp [List.mapM_cons, h5, h1], .cons h4 h2⟩
theorem rep_outTV {φ : Phi} {Z : Zs} {w : World} {vs : List T} {us : List Value} (h : RepTs φ Z w vs us) : RepT φ Z w (outTV vs) (resV us) := by
  cases h with
  | nil => exact RepT.tup (us := []) .nil
  | cons h t =>
    cases t with
    | nil => exact h
    | cons g t => exact .tup (.cons h (.cons g t))

/-- The start of a call with memory. -/
def startS (mu : Bool) (m : Mem) (n : Nat) (args : List T) : S := ⟨fun t => args.getD t (.v .any), m, n, mu⟩
@[simp] theorem startS_tm {mu : Bool} {m : Mem} {n : Nat} {args : List T} {t : Nat} : (startS mu m n args).tm t = args.getD t (.v .any) := rfl
@[simp] theorem startS_m {mu : Bool} {m : Mem} {n : Nat} {args : List T} : (startS mu m n args).m = m := rfl
@[simp] theorem startS_n {mu : Bool} {m : Mem} {n : Nat} {args : List T} : (startS mu m n args).n = n := rfl
@[simp] theorem startS_mu {mu : Bool} {m : Mem} {n : Nat} {args : List T} : (startS mu m n args).mu = mu := rfl
theorem startS_rel {mu : Bool} {m : Mem} {n : Nat} {args : List T} {vs : List Value} {φ : Phi} {Z : Zs} {w : World} {N : Nat} (hm : RelM P φ Z m n w) (h : RepTs φ Z w args vs) (hN : args.length ≤ N) :
    RelF P N φ m Z w (startS mu m n args) { tmps := vs.toArray ++ Array.replicate (N - vs.toArray.size) undef, defers := [] } w := by
  have hl := h.length
  refine ⟨φ, Z, hm, fun t => ?_, ?_, rfl, Step.refl _ _ _ _⟩
  · simp only [startS]
    rw [Array.getD_eq_getD_getElem?, List.getD_eq_getElem?_getD]
    by_cases ht : t < vs.length
    · obtain ⟨u, hu, hr⟩ := h.get t (args[t]'(by omega)) (List.getElem?_eq_getElem _)
      rw [List.getElem?_eq_getElem (by omega), Array.getElem?_append_left (by simpa using ht), List.getElem?_toArray, hu]
      exact hr
    · rw [List.getElem?_eq_none (by omega), Array.getElem?_append_right (by simp; omega)]
      refine .v ?_
      exact .any _
  · simp; omega

theorem FnS_of {f : Nat} {fn : Func} {c : Code} {rs : List ResultVar} {m : Mem} {n : Nat} {args : List T} {post : T → Mem → Nat → Prop} (mu : Bool) (hf : P.funcs[f]? = some fn) (hb : fn.body = some c) (hr : fn.results.toList = rs) (hn : (fn.name == "runtime.NumGoroutine") = false)
    (hd : dstsOk fn.ntmps c = true) (ha : args.length ≤ fn.ntmps) (h : twp P c (fun e s => retS P rs post e s) (startS mu m n args)) : FnS P f m n args post := by
  refine ⟨⟨fn, hf, hn, by rw [hb]; rfl⟩, fun φ Z w vs hm hv => ?_⟩
  refine calls_of_wp hf hb (wp_mono (twp_sound c hd _ _ _ _ (startS_rel (N := fn.ntmps) (mu := mu) hm hv ha) h) ?_)
  have fin : ∀ s a w', RelF P fn.ntmps φ m Z w s a w' → bindP (outT P s rs) (fun vs => post (outTV vs) s.m s.n) → a.defers = [] ∧ ∃ v, (results fn a.tmps).run P w' = .ok v w' ∧
      ∃ v' φ' Z' m' n' t, Ending.returned v = .returned v' ∧ RelM P φ' Z' m' n' w' ∧ RepT φ' Z' w' t v' ∧ Step φ Z m w φ' Z' m' w' ∧ post t m' n' := by
    rintro s a w' ⟨φ', Z', hm', htm, hsz, hdf, hst⟩ ⟨xs, hxs, hp⟩
    obtain ⟨us, h1, h2⟩ := outT_sound hm' htm rs xs hxs
    rw [← hr] at h1
    exact ⟨hdf, _, results_outs h1, _, φ', Z', s.m, s.n, _, rfl, hm', rep_outTV h2, hst, hp⟩
  intro e a w' hq
  cases e with
  | normal => obtain ⟨s, h1, h2⟩ := hq; exact fin s a w' h1 h2
  | ret => obtain ⟨s, h1, h2⟩ := hq; exact fin s a w' h1 h2
  | exit i => obtain ⟨s, h1, h2⟩ := hq; exact h2.elim
  | _ => exact hq.elim
end
end TL
