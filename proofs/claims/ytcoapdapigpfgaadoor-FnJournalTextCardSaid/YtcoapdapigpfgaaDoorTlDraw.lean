/- TL, part 20: regions whose order is drawn. -/
import Derived.Test.YtcoapdapigpfgaaDoorTlWp
import Derived.Test.YtcoapdapigpfgaaDoorTlMono
set_option linter.unusedVariables false
set_option linter.unusedSimpArgs false
namespace TL
open Go Go.RowKit

section
variable {P : Program} {ops : Array Oper} {L K : List (List Nat)}

theorem opF_val {mu : Bool} {ρ : Operand → T} {m : Mem} {n : Nat} {op : Op} {E : Eff} (hv : isVal op = true) (h : opF P mu ρ m n op = some E) : E.us = [] := by
  have one : ∀ {α : Type} {o : Option α} {f : α → T}, (obind o fun x => some (⟨f x, []⟩ : Eff)) = some E → E.us = [] := by
    intro α o f h
    obtain ⟨x, _, h⟩ := obind_eq h
    cases h; rfl
  have tone : ∀ {c : Prop} {d : Decidable c} {x : T}, tst c (some (⟨x, []⟩ : Eff)) = some E → E.us = [] := by
    intro c d x h
    obtain ⟨_, h⟩ := tst_eq h
    cases h; rfl
  cases op with
  | move x => simp only [opF] at h; cases h; rfl
  | assign x => simp only [opF] at h; cases h; rfl
  | unOp o t x => cases o <;> simp only [opF] at h <;> first | (cases h; done) | exact one h
  | makeFunc f first cap => cases f <;> simp only [opF] at h <;> first | (cases h; done) | exact tone h
  | slice t x lo hi mx => cases mx <;> simp only [opF] at h <;> first | (cases h; done) | exact one h
  | call c =>
    obtain ⟨callee, args, ats⟩ := c
    cases callee with
    | builtin b =>
      simp only [opF] at h
      unfold evBuiltin at h
      split at h
      · split at h
        · unfold evLen at h
          split at h
          · exact tone h
          · obtain ⟨_, _, h⟩ := obind_eq h; exact one h
        · cases h
      · simp [isVal] at hv
      · cases h; rfl
      · cases h; rfl
      · cases h
    | _ => cases h
  | pick c a b => simp only [opF] at h; exact one h
  | build t parts => simp only [opF] at h; exact one h
  | load t a => simp only [opF] at h; exact one h
  | nilCheck x => simp only [opF] at h; exact one h
  | binOp o t x y q => simp only [opF] at h; exact one h
  | convert s d x => simp only [opF] at h; exact one h
  | fieldAddr t x f => simp only [opF] at h; exact one h
  | indexAddr t x i => simp only [opF] at h; exact one h
  | index t x i => simp only [opF] at h; exact one h
  | extract x i => simp only [opF] at h; exact one h
  | alloc t => simp [isVal] at hv
  | box t x => simp [isVal] at hv
  | buildSlice t l p => simp [isVal] at hv
  | makeSlice t l c => simp [isVal] at hv
  | store t a x => simp [isVal] at hv
  | _ => simp only [opF] at h; cases h

theorem opP_val {s : S} {o : Oper} {k : S → Prop} (hv : isVal o.op = true) : opP P s o k ↔ ∃ E, opF P s.mu s.ev s.m s.n o.op = some E ∧ k (s.app o.dst E) := by
  unfold opP
  split
  · rename_i g args ts hop
    rw [hop] at hv
    simp [isVal] at hv
  · rename_i t x ty hop
    rw [hop] at hv
    simp [isVal] at hv
  · rename_i t x ty hop
    rw [hop] at hv
    simp [isVal] at hv
  · exact Iff.rfl

theorem opF_congr {mu : Bool} {ρ ρ' : Operand → T} {m : Mem} {n : Nat} (op : Op) (h : ∀ x ∈ op.operands, ρ x = ρ' x) : opF P mu ρ m n op = opF P mu ρ' m n op := by
  have pairs : ∀ ps : Array (Nat × Operand), (∀ x ∈ ps.toList.map (·.2), ρ x = ρ' x) → (ps.toList.map fun p => (p.1, ρ p.2)) = ps.toList.map fun p => (p.1, ρ' p.2) := fun ps hp =>
    List.map_congr_left fun p hm => by rw [hp p.2 (List.mem_map.2 ⟨p, hm, rfl⟩)]
  have arr : ∀ ps : Array Operand, (∀ x ∈ ps, ρ x = ρ' x) → ps.toList.map ρ = ps.toList.map ρ' := fun ps hp => List.map_congr_left fun p hm => hp p (by simpa using hm)
  cases op with
  | build t ps => simp only [opF]; rw [pairs ps fun x hx => h x (by simpa [Op.operands] using hx)]
  | buildSlice t l ps => simp only [opF]; rw [pairs ps fun x hx => h x (by simpa [Op.operands] using hx)]
  | makeFunc f first cap =>
    cases f <;> simp only [opF]
    rw [arr cap fun x hx => h x (by simp [Op.operands, hx])]
  | unOp o t x => cases o <;> simp only [opF] <;> rw [h x (by simp [Op.operands])]
  | slice t x lo hi mx =>
    cases mx <;> simp only [opF]
    have hl : lo.map ρ = lo.map ρ' := by
      cases lo with
      | none => rfl
      | some q => simp only [Option.map_some]; rw [h q (by simp [Op.operands])]
    have hh : hi.map ρ = hi.map ρ' := by
      cases hi with
      | none => rfl
      | some q => simp only [Option.map_some]; rw [h q (by simp [Op.operands])]
    rw [hl, hh, h x (by simp [Op.operands])]
  | call c =>
    obtain ⟨callee, args, ats⟩ := c
    cases callee with
    | builtin b => simp only [opF]; rw [arr args fun x hx => h x (by simp [Op.operands, Call.operands, hx])]
    | _ => rfl
  | move x => simp only [opF]; rw [h x (by simp [Op.operands])]
  | assign x => simp only [opF]; rw [h x (by simp [Op.operands])]
  | pick c a b => simp only [opF]; rw [h c (by simp [Op.operands]), h a (by simp [Op.operands]), h b (by simp [Op.operands])]
  | box t x => simp only [opF]; rw [h x (by simp [Op.operands])]
  | load t x => simp only [opF]; rw [h x (by simp [Op.operands])]
  | store t a x => simp only [opF]; rw [h x (by simp [Op.operands]), h a (by simp [Op.operands])]
  | nilCheck x => simp only [opF]; rw [h x (by simp [Op.operands])]
  | binOp o t x y q => simp only [opF]; rw [h x (by simp [Op.operands]), h y (by simp [Op.operands])]
  | convert s d x => simp only [opF]; rw [h x (by simp [Op.operands])]
  | makeSlice t x y => simp only [opF]; rw [h x (by simp [Op.operands]), h y (by simp [Op.operands])]
  | fieldAddr t x f => simp only [opF]; rw [h x (by simp [Op.operands])]
  | indexAddr t x y => simp only [opF]; rw [h x (by simp [Op.operands]), h y (by simp [Op.operands])]
  | index t x y => simp only [opF]; rw [h x (by simp [Op.operands]), h y (by simp [Op.operands])]
  | extract x i => simp only [opF]; rw [h x (by simp [Op.operands])]
  | _ => rfl

theorem callP_mono {f : Nat} {m : Mem} {n : Nat} {args : List T} {k k' : T → Mem → Nat → Prop} (h : ∀ t m n, k t m n → k' t m n) (hc : callP P f m n args k) : callP P f m n args k' := by
  rcases hc with ⟨vs, r, h1, h2, h3⟩ | ⟨post, h1, h2⟩
  · exact .inl ⟨vs, r, h1, h2, h _ _ _ h3⟩
  · exact .inr ⟨post, h1, fun t m n hp => h _ _ _ (h2 t m n hp)⟩
theorem opP_congr {s1 s2 : S} {o : Oper} {k1 k2 : S → Prop} (hev : ∀ x ∈ o.op.operands, s1.ev x = s2.ev x) (hm : s1.m = s2.m) (hn : s1.n = s2.n) (hmu : s1.mu = s2.mu)
    (hk : ∀ (x : T) (m : Mem) (n : Nat), k1 (s1.aft o.dst x m n) → k2 (s2.aft o.dst x m n)) (h : opP P s1 o k1) : opP P s2 o k2 := by
  unfold opP at h ⊢
  split at h
  · rename_i g args ts hop
    rw [hop] at hev
    have hg : s1.ev g = s2.ev g := hev g (by simp [Op.operands, Call.operands])
    have ha : args.toList.map s1.ev = args.toList.map s2.ev := List.map_congr_left fun p hp => hev p (by simp [Op.operands, Call.operands, (show p ∈ args by simpa using hp)])
    rw [← hg, ← ha, ← hm, ← hn]
    split at h
    · exact callP_mono (fun t m n hk1 => hk t m n hk1) h
    · exact callP_mono (fun t m n hk1 => hk t m n hk1) h
    · exact h
  · rename_i t x ty hop
    rw [hop] at hev
    have hx : s1.ev x = s2.ev x := hev x (by simp [Op.operands])
    rw [← hx]
    refine ⟨h.1, ?_⟩
    have h2 := h.2
    split at h2
    · intro b hb
      have := hk (.v (.bool b)) s1.m s1.n (h2 b hb)
      rw [hm, hn] at this; exact this
    · have := hk (.v (.bool true)) s1.m s1.n h2
      rw [hm, hn] at this; exact this
    · exact h2
  · rename_i t x ty hop
    rw [hop] at hev
    have hx : s1.ev x = s2.ev x := hev x (by simp [Op.operands])
    rw [← hx]
    refine ⟨h.1, ?_⟩
    have h2 := h.2
    split at h2
    · intro b hb
      have := hk (.v (.bool !b)) s1.m s1.n (h2 b hb)
      rw [hm, hn] at this; exact this
    · have := hk (.v (.bool !true)) s1.m s1.n h2
      rw [hm, hn] at this; exact this
    · exact h2
  · rename_i hne _ _
    obtain ⟨E, hE, hk1⟩ := h
    have hE2 : opF P s2.mu s2.ev s2.m s2.n o.op = some E := by rw [← opF_congr (P := P) o.op hev, ← hm, ← hn, ← hmu]; exact hE
    have hk2 : k2 (s2.app o.dst E) := by
      have := hk E.val (applyUs s1.m E.us) (bump s1.n E.us) hk1
      rw [hm, hn] at this; exact this
    exact ⟨E, hE2, hk2⟩
theorem opP_mono {s : S} {o : Oper} {k1 k2 : S → Prop} (hk : ∀ s, k1 s → k2 s) (h : opP P s o k1) : opP P s o k2 :=
  opP_congr (fun _ _ => rfl) rfl rfl rfl (fun x m n => hk _) h

/-- A row of pure values, made and never written. -/
def BldOf (P : Program) (s : S) (o : Oper) (t : T) : Prop := ∃ (ty : TypeId) (len : Nat) (parts : Array (Nat × Operand)) (ps : List (Nat × V)) (e : TypeId) (vs : List V), o.op = .buildSlice ty len parts ∧
  (parts.toList.map fun p => (p.1, s.ev p.2)) = ps.map (fun q => (q.1, T.v q.2)) ∧ evBuildSlice P false ty (fun _ => none) 0 len (ps.map fun q => (q.1, T.v q.2)) = some ⟨.loc 0, [(0, some (.arr e vs))]⟩ ∧ t = .v (.sl vs)
theorem BldOf.congr {s s' : S} {o : Oper} {t : T} (hev : ∀ x ∈ o.op.operands, s.ev x = s'.ev x) (h : BldOf P s o t) : BldOf P s' o t := by
  obtain ⟨ty, len, parts, ps, e, vs, hop, h1, h2, h3⟩ := h
  refine ⟨ty, len, parts, ps, e, vs, hop, ?_, h2, h3⟩
  rw [← h1]
  refine List.map_congr_left fun p hp => ?_
  rw [hev p.2 (by rw [hop]; simp only [Op.operands]; simp only [Array.mem_def, List.mem_toArray, Array.toList_map]; exact List.mem_map.2 ⟨p, hp, rfl⟩)]
/-- One operation of the region. -/
def stepP (P : Program) (ops : Array Oper) (i : Nat) (k : S → Prop) (s : S) : Prop :=
  match ops[i]? with
  | none => k s
  | some o => ∃ g, guardB ops.toList s o.guard = some g ∧ (if g = true then (opP P s o k ∨ ∃ t, BldOf P s o t ∧ k (s.put o.dst t)) else k (s.put o.dst und))
theorem stepP_mono {i : Nat} {k k' : S → Prop} {s : S} (hk : ∀ s, k s → k' s) (h : stepP P ops i k s) : stepP P ops i k' s := by
  unfold stepP at h ⊢
  split at h
  · exact hk _ h
  · obtain ⟨g, hg, h⟩ := h
    refine ⟨g, hg, ?_⟩
    cases g
    · exact hk _ h
    · exact h.imp (opP_mono hk) fun ⟨t, h1, h2⟩ => ⟨t, h1, hk _ h2⟩
def anyJ (P : Program) (ops : Array Oper) (K : Nat → List Nat) (Q : S → Prop) : Nat → Array Bool → S → Prop
  | 0, listed, s => Region.ready .any ops listed = [] ∧ Q s
  | fuel + 1, listed, s => (Region.ready .any ops listed = [] → Q s) ∧
      ∀ i ∈ Region.ready .any ops listed, stepP P ops i (fun s' => keepP (K i) s.m s'.m ∧ anyJ P ops K Q fuel (listed.setIfInBounds i true) s') s

theorem ev_put {s : S} {d : Option Nat} {t : T} {x : Operand} (h : ∀ q, d = some q → x ≠ .tmp q) : (s.put d t).ev x = s.ev x := by
  cases x with
  | tmp q =>
    cases d with
    | none => rfl
    | some d =>
      show (if q = d then t else s.tm q) = s.tm q
      exact if_neg fun e => h d rfl (by rw [e])
  | _ => rfl
theorem guard_put {s : S} {d : Option Nat} {t : T} {o : Oper} (h : ∀ q, d = some q → q ∉ o.looksAt ops) : guardB ops.toList (s.put d t) o.guard = guardB ops.toList s o.guard := by
  cases hg : o.guard with
  | none => rfl
  | some p =>
    obtain ⟨j, b⟩ := p
    simp only [guardB, dstOf, Array.getElem?_toList]
    cases hd : (ops[j]?).bind (·.dst) with
    | none => rfl
    | some q =>
      simp only [obind_some]
      have : (s.put d t).tm q = s.tm q := by
        cases d with
        | none => rfl
        | some d => exact if_neg fun e => h d rfl (by rw [← e]; simp [Oper.looksAt, hg, hd])
      rw [this]
theorem looks_op {o : Oper} {q : Nat} (h : q ∉ o.looksAt ops) : ∀ x ∈ o.op.operands, x ≠ .tmp q := by
  intro x hx e
  subst e
  exact h (List.mem_append_left _ (List.mem_filterMap.2 ⟨.tmp q, by simpa using hx, rfl⟩))
theorem aft_put {s : S} {d e : Option Nat} {t x : T} {m : Mem} {n : Nat} (h : ∀ q, d = some q → e ≠ some q) : (s.put d t).aft e x m n = (s.aft e x m n).put d t := by
  cases d with
  | none => rfl
  | some d =>
    cases e with
    | none => rfl
    | some e =>
      have hne : e ≠ d := fun q => h d rfl (by rw [q])
      simp only [S.put, S.aft]
      congr 1
      funext q
      simp only [updT]
      by_cases h1 : q = e
      · subst h1; simp [hne]
      · simp [h1]
theorem put_put {s : S} {d e : Option Nat} {t x : T} (h : ∀ q, d = some q → e ≠ some q) : (s.put d t).put e x = (s.put e x).put d t :=
  aft_put (m := s.m) (n := s.n) h

def SameBut (d : Option Nat) (s s' : S) : Prop := s'.mu = s.mu ∧ ∀ q, d ≠ some q → s'.tm q = s.tm q
theorem same_aft {s : S} {d : Option Nat} {x : T} {m : Mem} {n : Nat} : SameBut d s (s.aft d x m n) := by
  refine ⟨rfl, fun q hq => ?_⟩
  cases d with
  | none => rfl
  | some d => exact if_neg fun e => hq (by rw [e])

theorem stepP_put {j : Nat} {oi oj : Oper} {t : T} {s : S} {k : S → Prop} (hj : ops[j]? = some oj) (hap : oi.apart ops oj = true) (h : stepP P ops j k (s.put oi.dst t)) :
    stepP P ops j (fun s' => k (s'.put oi.dst t) ∧ SameBut oj.dst s s') s := by
  obtain ⟨h1, h2, h3⟩ := Oper.apart_spec hap
  unfold stepP at h ⊢
  simp only [hj] at h ⊢
  obtain ⟨g, hg, h⟩ := h
  rw [guard_put h1] at hg
  refine ⟨g, hg, ?_⟩
  cases g
  · rw [if_neg (by simp)] at h ⊢
    rw [put_put h2] at h
    exact ⟨h, same_aft (m := s.m) (n := s.n)⟩
  · rw [if_pos rfl] at h ⊢
    rcases h with h | ⟨x, hb, hk⟩
    · left
      refine opP_congr (fun x hx => ev_put fun q hq => looks_op (h1 q hq) x hx) rfl rfl rfl (fun x m n hk => ?_) h
      rw [aft_put h2] at hk
      exact ⟨hk, same_aft⟩
    · right
      rw [put_put h2] at hk
      exact ⟨x, hb.congr fun y hy => ev_put fun q hq => looks_op (h1 q hq) y hy, hk, same_aft (m := s.m) (n := s.n)⟩

/-- What an operation yields, whatever the rest of memory holds. -/
def YieldsT (P : Program) (ops : Array Oper) (l : List Nat) (oi : Oper) (t : T) (s : S) : Prop :=
  (guardB ops.toList s oi.guard = some true ∧ isVal oi.op = true ∧ ∃ n, opF P s.mu s.ev (rst s.m l) n oi.op = some ⟨t, []⟩) ∨ (guardB ops.toList s oi.guard = some false ∧ t = und) ∨
  (guardB ops.toList s oi.guard = some true ∧ ∃ f args ts vs r, oi.op = .call { callee := .value (.func f), args := args, argTypes := ts } ∧ FnZ P f vs r ∧ args.toList.map s.ev = vs.map .v ∧ t = .v r) ∨ (guardB ops.toList s oi.guard = some true ∧ BldOf P s oi t)
theorem mapO_pure (m : Mem) (d : Nat) : ∀ vs : List V, mapO (bor false m d) (vs.map .v) = some vs
  | [] => rfl
  | v :: vs => by
    have e : bor false m d (.v v) = some v := by cases d <;> rfl
    simp only [List.map_cons, mapO, e, mapO_pure m d vs, Option.bind_some, Option.map_some]
theorem rst_le (m : Mem) (l : List Nat) : LeM (rst m l) m := fun i b h => by
  unfold rst at h; split at h
  · exact h
  · cases h
theorem YieldsT.step {l : List Nat} {i : Nat} {oi : Oper} {t : T} {s : S} {k : S → Prop} (hi : ops[i]? = some oi) (hy : YieldsT P ops l oi t s) (h : k (s.put oi.dst t)) : stepP P ops i k s := by
  unfold stepP
  simp only [hi]
  rcases hy with ⟨hg, hv, n, hE⟩ | ⟨hg, rfl⟩ | ⟨hg, f, args, ts, vs, r, hop, hf, ha, rfl⟩ | ⟨hg, hb⟩
  rotate_left 3
  · refine ⟨true, hg, ?_⟩
    rw [if_pos rfl]
    exact .inr ⟨t, hb, h⟩
  rotate_left 2
  · refine ⟨true, hg, ?_⟩
    rw [if_pos rfl]
    left
    unfold opP
    rw [hop]
    show callP P f s.m s.n (args.toList.map s.ev ++ []) _
    rw [List.append_nil, ha]
    exact .inl ⟨vs, r, hf, .inl (mapO_pure _ _ _), h⟩
  · refine ⟨true, hg, ?_⟩
    rw [if_pos rfl, opP_val hv]
    exact .inl ⟨_, opF_mono (rst_le _ _) hE rfl, h⟩
  · exact ⟨false, hg, by rw [if_neg (by simp)]; exact h⟩
theorem guard_same {s s' : S} {d : Option Nat} {o : Oper} (hs : SameBut d s s') (h : ∀ q, d = some q → q ∉ o.looksAt ops) : guardB ops.toList s' o.guard = guardB ops.toList s o.guard := by
  cases hg : o.guard with
  | none => rfl
  | some p =>
    obtain ⟨j, b⟩ := p
    simp only [guardB, dstOf, Array.getElem?_toList]
    cases hd : (ops[j]?).bind (·.dst) with
    | none => rfl
    | some q =>
      simp only [obind_some]
      rw [hs.2 q fun e => h q e (by simp [Oper.looksAt, hg, hd])]
theorem YieldsT.same {l : List Nat} {oi : Oper} {t : T} {s s' : S} {d : Option Nat} (hy : YieldsT P ops l oi t s) (hs : SameBut d s s') (h : ∀ q, d = some q → q ∉ oi.looksAt ops) (hm : ∀ x ∈ l, s'.m x = s.m x) : YieldsT P ops l oi t s' := by
  unfold YieldsT at *
  rw [guard_same hs h]
  have hr : rst s'.m l = rst s.m l := by
    funext i
    unfold rst
    split
    · exact hm i ‹_›
    · rfl
  have hev : ∀ x ∈ oi.op.operands, s.ev x = s'.ev x := fun x hx => by
    cases x with
    | tmp q => exact (hs.2 q fun e => looks_op (h q e) _ hx rfl).symm
    | _ => rfl
  rcases hy with ⟨hg, hv, n, hE⟩ | hy | ⟨hg, f, args, ts, vs, r, hop, hf, ha, ht⟩ | ⟨hg, hb⟩
  rotate_left 3
  · exact .inr (.inr (.inr ⟨hg, hb.congr hev⟩))
  rotate_left 2
  · refine .inr (.inr (.inl ⟨hg, f, args, ts, vs, r, hop, hf, ?_, ht⟩))
    rw [← ha]
    refine (List.map_congr_left fun p hp => hev p ?_).symm
    rw [hop]; simp [Op.operands, Call.operands, (show p ∈ args by simpa using hp)]
  · refine .inl ⟨hg, hv, n, ?_⟩
    rw [hr, hs.1, ← opF_congr oi.op hev]; exact hE
  · exact .inr (.inl hy)

theorem anyJ_first {i : Nat} {oi : Oper} {t : T} {Q : S → Prop} {l : List Nat} {K : Nat → List Nat} (hi : ops[i]? = some oi) :
    ∀ (fuel : Nat) (listed : Array Bool) (s : S),
      (∀ j oj, ops[j]? = some oj → j ≠ i → listed.getD j true = false → (∀ e ∈ oj.after, Region.binds .any e = true → e.on ≠ i) → oi.apart ops oj = true ∧ ∀ x ∈ l, x ∈ K j) →
      i ∈ Region.ready .any ops listed → YieldsT P ops l oi t s →
      anyJ P ops K Q fuel (listed.setIfInBounds i true) (s.put oi.dst t) → anyJ P ops K Q (fuel + 1) listed s := by
  intro fuel
  induction fuel with
  | zero =>
    intro listed s _ hr hy H
    refine ⟨fun h => (by rw [h] at hr; cases hr), fun j hj => ?_⟩
    by_cases hji : j = i
    · subst hji; exact hy.step hi ⟨fun _ _ => rfl, H⟩
    · have := ready_mono hj hji
      rw [H.1] at this
      cases this
  | succ fuel ih =>
    intro listed s hfree hr hy H
    refine ⟨fun h => (by rw [h] at hr; cases hr), fun j hj => ?_⟩
    by_cases hji : j = i
    · subst hji; exact hy.step hi ⟨fun _ _ => rfl, H⟩
    · have h1 := H.2 j (ready_mono hj hji)
      obtain ⟨hjun, oj, hoj, hall⟩ := mem_ready.1 hj
      have hnot : ∀ e ∈ oj.after, Region.binds .any e = true → e.on ≠ i := fun e he hb heq => by
        have h1 := hall e he hb
        have h0 := (mem_ready.1 hr).1
        rw [heq] at h1
        rcases Nat.lt_or_ge i listed.size with h' | h'
        · simp [h'] at h0 h1; rw [h0] at h1; cases h1
        · simp [Array.getElem?_eq_none h'] at h1
      obtain ⟨hap, hids⟩ := hfree j oj hoj hji hjun hnot
      have h2 := stepP_put hoj hap h1
      have hfree' : ∀ k ok, ops[k]? = some ok → k ≠ i → (listed.setIfInBounds j true).getD k true = false →
          (∀ e ∈ ok.after, Region.binds .any e = true → e.on ≠ i) → oi.apart ops ok = true ∧ ∀ x ∈ l, x ∈ K k := fun k ok hk hki hun hno => by
        refine hfree k ok hk hki ?_ hno
        by_cases hjk : j = k
        · subst hjk; exact hjun
        · rw [getD_set_ne true hjk] at hun; exact hun
      refine stepP_mono (fun s' h3 => ?_) h2
      obtain ⟨⟨hkeep, hany⟩, hsame⟩ := h3
      refine ⟨hkeep, ih (listed.setIfInBounds j true) s' hfree' (ready_mono hr (Ne.symm hji)) (hy.same hsame (Oper.apart_spec hap).2.2 fun x hx => hkeep x (hids x hx)) ?_⟩
      rw [Array.setIfInBounds_comm _ _ hji]
      exact hany

theorem freeK_spec {i : Nat} {oi : Oper} {listed : Array Bool} (hi : ops[i]? = some oi) (h : freeK ops L K listed i = true) (j : Nat) (oj : Oper) (hj : ops[j]? = some oj) (hne : j ≠ i) (hun : listed.getD j true = false)
    (hno : ∀ e ∈ oj.after, Region.binds .any e = true → e.on ≠ i) : oi.apart ops oj = true ∧ ∀ x ∈ L.getD i [], x ∈ K.getD j [] := by
  unfold freeK at h
  rw [Bool.and_eq_true] at h
  refine ⟨Region.free_spec hi h.1 j oj hj hne hun hno, fun x hx => ?_⟩
  have h1 := List.all_eq_true.1 h.2 j (List.mem_range.2 (Array.getElem?_eq_some_iff.1 hj).1)
  simp only [hj, Bool.or_eq_true, beq_iff_eq, hne, false_or, hun, Bool.false_eq_true] at h1
  rcases h1 with h1 | h1
  · obtain ⟨e, he, hb⟩ := Array.any_eq_true'.1 h1
    simp only [Bool.and_eq_true, beq_iff_eq] at hb
    exact absurd hb.2 (hno e he hb.1)
  · simpa using List.all_eq_true.1 h1 x hx

theorem ordP_any {Q : S → Prop} {ids : List Nat} : ∀ (ord : List Nat) (listed : Array Bool) (s : S), ordOk ops L K ord listed = true → ordP P ops.toList ids L K Q ord s → anyJ P ops (idsAt ids K) Q ord.length listed s
  | [], listed, s, hk, h => ⟨by simpa [ordOk] using hk, h⟩
  | i :: rest, listed, s, hk, h => by
    unfold ordOk at hk
    unfold ordP at h
    by_cases hbig : 1000 ≤ i
    · rw [if_pos hbig] at hk
      rw [decide_eq_true hbig, iteP_true] at h
      generalize hj : i - 1000 = j at hk h
      obtain ⟨o, ho, g, hg, h⟩ := h
      have hi : ops[j]? = some o := by rw [← Array.getElem?_toList]; exact ho
      simp only [hi, Bool.and_eq_true] at hk
      obtain ⟨hk, hrest⟩ := hk
      have hr : j ∈ Region.ready .any ops listed := by simpa using hk.1
      have hfree : ∀ q oq, ops[q]? = some oq → q ≠ j → listed.getD q true = false → (∀ e ∈ oq.after, Region.binds .any e = true → e.on ≠ j) → o.apart ops oq = true ∧ ∀ x ∈ ([] : List Nat), x ∈ idsAt ids K q := fun q oq hq hne hun hno =>
        ⟨(freeK_spec (L := []) hi hk.2 q oq hq hne hun hno).1, by simp⟩
      cases g with
      | false => exact anyJ_first hi _ _ _ hfree hr (.inr (.inl ⟨hg, rfl⟩)) (ordP_any rest _ _ hrest h)
      | true =>
        have h : pureC P s o fun d x => ordP P ops.toList ids L K Q rest (s.put d x) := h
        unfold pureC at h
        split at h
        · rename_i f args ts hop
          obtain ⟨vs, r, hf, ha, h⟩ := h
          exact anyJ_first hi _ _ _ hfree hr (.inr (.inr (.inl ⟨hg, f, args, ts, vs, r, hop, hf, ha, rfl⟩))) (ordP_any rest _ _ hrest h)
        · rename_i ty len parts hop
          obtain ⟨ps, e, vs, h1, h2, h⟩ := h
          exact anyJ_first hi _ _ _ hfree hr (.inr (.inr (.inr ⟨hg, ty, len, parts, ps, e, vs, hop, h1, h2, rfl⟩))) (ordP_any rest _ _ hrest h)
        · exact h.elim
    rw [if_neg hbig] at hk
    rw [decide_eq_false hbig, iteP_false] at h
    obtain ⟨o, ho, g, hg, h⟩ := h
    have hi : ops[i]? = some o := by rw [← Array.getElem?_toList]; exact ho
    simp only [hi, Bool.and_eq_true] at hk
    obtain ⟨hk, hrest⟩ := hk
    cases hv : isVal o.op with
    | true =>
      rw [hv, if_pos rfl, Bool.and_eq_true] at hk
      have hr : i ∈ Region.ready .any ops listed := by simpa using hk.1
      have hfree : ∀ j oj, ops[j]? = some oj → j ≠ i → listed.getD j true = false → (∀ e ∈ oj.after, Region.binds .any e = true → e.on ≠ i) → o.apart ops oj = true ∧ ∀ x ∈ idsAt ids L i, x ∈ idsAt ids K j := fun j oj hj hne hun hno => by
        obtain ⟨h1, h2⟩ := freeK_spec hi hk.2 j oj hj hne hun hno
        refine ⟨h1, fun x hx => ?_⟩
        obtain ⟨y, hy, rfl⟩ := List.mem_map.1 hx
        exact List.mem_map.2 ⟨y, h2 y hy, rfl⟩
      cases g with
      | false =>
        exact anyJ_first hi _ _ _ hfree hr (.inr (.inl ⟨hg, rfl⟩)) (ordP_any rest _ _ hrest h)
      | true =>
        rw [hv] at h
        have h : opP P (s.rs (idsAt ids L i)) o fun s' => ordP P ops.toList ids L K Q rest (s'.wm s.m s.n) := h
        rw [opP_val hv] at h
        obtain ⟨⟨t, us⟩, hE, h⟩ := h
        obtain rfl : us = [] := opF_val hv hE
        exact anyJ_first hi _ _ _ hfree hr (.inl ⟨hg, hv, _, hE⟩) (ordP_any rest _ _ hrest h)
    | false =>
      rw [hv, if_neg (by simp)] at hk
      have hr : Region.ready .any ops listed = [i] := by simpa using hk
      refine ⟨fun h0 => (by rw [hr] at h0; cases h0), fun j hj => ?_⟩
      rw [hr, List.mem_singleton] at hj
      subst hj
      unfold stepP
      simp only [hi]
      refine ⟨g, hg, ?_⟩
      cases g with
      | false =>
        rw [if_neg (by simp)]
        exact ⟨fun _ _ => rfl, ordP_any rest _ _ hrest h⟩
      | true =>
        rw [if_pos rfl]
        rw [hv] at h
        have h : opP P s o fun s' => keepP (idsAt ids K j) s.m s'.m ∧ ordP P ops.toList ids L K Q rest s' := h
        exact .inl (opP_mono (fun s' hs => ⟨hs.1, ordP_any rest _ _ hrest hs.2⟩) h)
theorem ordP_run {Q Q' : S → Prop} {ids : List Nat} {fuel : Nat} : ∀ (ord : List Nat) (listed : Array Bool) (s : S), preOk ops L K ord listed = true → (∀ s, Q' s → anyJ P ops (idsAt ids K) Q fuel (aftL ord listed) s) → ordP P ops.toList ids L K Q' ord s → anyJ P ops (idsAt ids K) Q (ord.length + fuel) listed s
  | [], listed, s, hk, hQ, h => by
    rw [List.length_nil, Nat.zero_add]; exact hQ s h
  | i :: rest, listed, s, hk, hQ, h => by
    have e : (i :: rest).length + fuel = (rest.length + fuel) + 1 := by simp only [List.length_cons]; omega
    rw [e]
    unfold preOk at hk
    rw [Bool.and_eq_true] at hk
    obtain ⟨hk, hrest⟩ := hk
    have hQ : ∀ s, Q' s → anyJ P ops (idsAt ids K) Q fuel (aftL rest (nextL i listed)) s := hQ
    unfold stepOk at hk
    unfold nextL at hrest hQ
    unfold ordP at h
    by_cases hbig : 1000 ≤ i
    · rw [if_pos hbig] at hk hrest hQ
      rw [decide_eq_true hbig, iteP_true] at h
      generalize hj : i - 1000 = j at hk h hrest hQ
      obtain ⟨o, ho, g, hg, h⟩ := h
      have hi : ops[j]? = some o := by rw [← Array.getElem?_toList]; exact ho
      simp only [hi, Bool.and_eq_true] at hk
      have hr : j ∈ Region.ready .any ops listed := by simpa using hk.1
      have hfree : ∀ q oq, ops[q]? = some oq → q ≠ j → listed.getD q true = false → (∀ e ∈ oq.after, Region.binds .any e = true → e.on ≠ j) → o.apart ops oq = true ∧ ∀ x ∈ ([] : List Nat), x ∈ idsAt ids K q := fun q oq hq hne hun hno =>
        ⟨(freeK_spec (L := []) hi hk.2 q oq hq hne hun hno).1, by simp⟩
      cases g with
      | false => exact anyJ_first hi _ _ _ hfree hr (.inr (.inl ⟨hg, rfl⟩)) (ordP_run rest _ _ hrest hQ h)
      | true =>
        have h : pureC P s o fun d x => ordP P ops.toList ids L K Q' rest (s.put d x) := h
        unfold pureC at h
        split at h
        · rename_i f args ts hop
          obtain ⟨vs, r, hf, ha, h⟩ := h
          exact anyJ_first hi _ _ _ hfree hr (.inr (.inr (.inl ⟨hg, f, args, ts, vs, r, hop, hf, ha, rfl⟩))) (ordP_run rest _ _ hrest hQ h)
        · rename_i ty len parts hop
          obtain ⟨ps, e, vs, h1, h2, h⟩ := h
          exact anyJ_first hi _ _ _ hfree hr (.inr (.inr (.inr ⟨hg, ty, len, parts, ps, e, vs, hop, h1, h2, rfl⟩))) (ordP_run rest _ _ hrest hQ h)
        · exact h.elim
    rw [if_neg hbig] at hk hrest hQ
    rw [decide_eq_false hbig, iteP_false] at h
    obtain ⟨o, ho, g, hg, h⟩ := h
    have hi : ops[i]? = some o := by rw [← Array.getElem?_toList]; exact ho
    simp only [hi] at hk
    cases hv : isVal o.op with
    | true =>
      rw [hv, if_pos rfl, Bool.and_eq_true] at hk
      have hr : i ∈ Region.ready .any ops listed := by simpa using hk.1
      have hfree : ∀ j oj, ops[j]? = some oj → j ≠ i → listed.getD j true = false → (∀ e ∈ oj.after, Region.binds .any e = true → e.on ≠ i) → o.apart ops oj = true ∧ ∀ x ∈ idsAt ids L i, x ∈ idsAt ids K j := fun j oj hj hne hun hno => by
        obtain ⟨h1, h2⟩ := freeK_spec hi hk.2 j oj hj hne hun hno
        refine ⟨h1, fun x hx => ?_⟩
        obtain ⟨y, hy, rfl⟩ := List.mem_map.1 hx
        exact List.mem_map.2 ⟨y, h2 y hy, rfl⟩
      cases g with
      | false =>
        exact anyJ_first hi _ _ _ hfree hr (.inr (.inl ⟨hg, rfl⟩)) (ordP_run rest _ _ hrest hQ h)
      | true =>
        rw [hv] at h
        have h : opP P (s.rs (idsAt ids L i)) o fun s' => ordP P ops.toList ids L K Q' rest (s'.wm s.m s.n) := h
        rw [opP_val hv] at h
        obtain ⟨⟨t, us⟩, hE, h⟩ := h
        obtain rfl : us = [] := opF_val hv hE
        exact anyJ_first hi _ _ _ hfree hr (.inl ⟨hg, hv, _, hE⟩) (ordP_run rest _ _ hrest hQ h)
    | false =>
      rw [hv, if_neg (by simp)] at hk
      have hr : Region.ready .any ops listed = [i] := by simpa using hk
      refine ⟨fun h0 => (by rw [hr] at h0; cases h0), fun j hj => ?_⟩
      rw [hr, List.mem_singleton] at hj
      subst hj
      unfold stepP
      simp only [hi]
      refine ⟨g, hg, ?_⟩
      cases g with
      | false =>
        rw [if_neg (by simp)]
        exact ⟨fun _ _ => rfl, ordP_run rest _ _ hrest hQ h⟩
      | true =>
        rw [if_pos rfl]
        rw [hv] at h
        have h : opP P s o fun s' => keepP (idsAt ids K j) s.m s'.m ∧ ordP P ops.toList ids L K Q' rest s' := h
        exact .inl (opP_mono (fun s' hs => ⟨hs.1, ordP_run rest _ _ hrest hQ hs.2⟩) h)
theorem ot_any {Q : S → Prop} {ids : List Nat} : ∀ (t : OT) (listed : Array Bool) (s : S), (otOk ops L K t false listed = true → ordT P ops.toList ids L K Q t s → anyJ P ops (idsAt ids K) Q t.size listed s) ∧
    (otOk ops L K t true listed = true → ordT P ops.toList ids L K Q t s → ∀ j ∈ t.heads, ∃ f, t.size = f + 1 ∧ stepP P ops j (fun s' => keepP (idsAt ids K j) s.m s'.m ∧ anyJ P ops (idsAt ids K) Q f (listed.setIfInBounds j true) s') s)
  | .done, listed, s => ⟨fun hk h => ⟨by simpa [otOk] using hk, h⟩, fun hk => by simp [otOk] at hk⟩
  | .run l r, listed, s => by
    constructor
    · intro hk h
      simp only [otOk, Bool.and_eq_true] at hk
      exact ordP_run l listed s hk.1 (fun s hq => (ot_any r _ s).1 hk.2 hq) h
    · intro hk h j hj
      cases l with
      | nil => simp [otOk] at hk
      | cons i l =>
        simp only [OT.heads, List.mem_singleton] at hj
        subst hj
        simp only [otOk, Bool.and_eq_true] at hk
        obtain ⟨⟨he, hl⟩, hr⟩ := hk
        refine ⟨l.length + r.size, by simp only [OT.size, List.length_cons]; omega, ?_⟩
        unfold effOk at he
        rw [Bool.and_eq_true, decide_eq_true_eq] at he
        have h : ordP P ops.toList ids L K (fun s => ordT P ops.toList ids L K Q r s) (j :: l) s := h
        unfold ordP at h
        have hbig : ¬ 1000 ≤ j := by omega
        rw [decide_eq_false hbig, iteP_false] at h
        obtain ⟨o, ho, g, hg, h⟩ := h
        have hi : ops[j]? = some o := by rw [← Array.getElem?_toList]; exact ho
        have hv : isVal o.op = false := by have := he.2; simp only [hi] at this; simpa using this
        have next : ∀ s, ordP P ops.toList ids L K (fun s => ordT P ops.toList ids L K Q r s) l s → anyJ P ops (idsAt ids K) Q (l.length + r.size) (listed.setIfInBounds j true) s := fun s hs =>
          ordP_run l _ s hl (fun s hq => (ot_any r _ s).1 hr hq) hs
        unfold stepP
        simp only [hi]
        refine ⟨g, hg, ?_⟩
        cases g with
        | false =>
          rw [if_neg (by simp)]
          exact ⟨fun _ _ => rfl, next _ h⟩
        | true =>
          rw [if_pos rfl]
          rw [hv] at h
          have h : opP P s o fun s' => keepP (idsAt ids K j) s.m s'.m ∧ ordP P ops.toList ids L K (fun s => ordT P ops.toList ids L K Q r s) l s' := h
          exact .inl (opP_mono (fun s' hs => ⟨hs.1, next _ hs.2⟩) h)
  | .alt a b, listed, s => by
    constructor
    · intro hk h
      simp only [otOk, Bool.and_eq_true, beq_iff_eq, List.all_eq_true] at hk
      obtain ⟨⟨⟨⟨hall, hne⟩, hsz⟩, ha⟩, hb⟩ := hk
      have h : ordT P ops.toList ids L K Q a s ∧ ordT P ops.toList ids L K Q b s := h
      have step : ∀ j ∈ Region.ready .any ops listed, ∃ f, a.size = f + 1 ∧ stepP P ops j (fun s' => keepP (idsAt ids K j) s.m s'.m ∧ anyJ P ops (idsAt ids K) Q f (listed.setIfInBounds j true) s') s := fun j hj => by
        have := hall j hj
        rcases List.mem_append.1 (by simpa using this : j ∈ a.heads ++ b.heads) with h1 | h1
        · exact (ot_any a listed s).2 ha h.1 j h1
        · rw [hsz]; exact (ot_any b listed s).2 hb h.2 j h1
      have hsome : ∃ j, j ∈ Region.ready .any ops listed := by
        cases e : Region.ready .any ops listed with
        | nil => rw [e] at hne; simp at hne
        | cons x xs => exact ⟨x, List.mem_cons_self ..⟩
      obtain ⟨j0, hj0⟩ := hsome
      obtain ⟨f, hf, _⟩ := step j0 hj0
      show anyJ P ops (idsAt ids K) Q a.size listed s
      rw [hf]
      refine ⟨fun h0 => (by rw [h0] at hj0; cases hj0), fun j hj => ?_⟩
      obtain ⟨f', hf', hs⟩ := step j hj
      obtain rfl : f' = f := by omega
      exact hs
    · intro hk h j hj
      simp only [otOk, Bool.and_eq_true, beq_iff_eq] at hk
      obtain ⟨⟨hsz, ha⟩, hb⟩ := hk
      have h : ordT P ops.toList ids L K Q a s ∧ ordT P ops.toList ids L K Q b s := h
      show ∃ f, a.size = f + 1 ∧ _
      rcases List.mem_append.1 (show j ∈ a.heads ++ b.heads from hj) with h1 | h1
      · exact (ot_any a listed s).2 ha h.1 j h1
      · rw [hsz]; exact (ot_any b listed s).2 hb h.2 j h1
end

section
variable {P : Program} {N : Nat} {φ1 : Phi} {m1 : Mem} {Z0 : Zs} {w0 : World} {ops : Array Oper} {K : Nat → List Nat}
theorem bld_sound {s : S} {a : Act} {w : World} {o : Oper} {t : T} {k : S → Prop} {next : Act → World → Prop} {Q : Exit → Act → World → Prop} (h : RelF P N φ1 m1 Z0 w0 s a w) (ho : dstOk N o = true) (hb : BldOf P s o t) (hc : k (s.put o.dst t))
    (hk : ∀ s' a' w', RelF P N φ1 m1 Z0 w0 s' a' w' → k s' → next a' w') : o.wp P a w next Q := by
  obtain ⟨φ, Z, hm, htm, hsz, hdf, hst⟩ := h
  obtain ⟨ty, len, parts, ps, e, vs, hop, h1, h2, rfl⟩ := hb
  let ρ' : Operand → T := fun x => match s.ev x with
    | .v q => .v q
    | _ => .v .any
  have hρ : ∀ x, RepT φ0 Z w (ρ' x) (a.eval x) := fun x => by
    have := eval_rep htm x
    show RepT φ0 Z w (match s.ev x with
      | .v q => .v q
      | _ => .v .any) (a.eval x)
    split
    · rename_i q hq
      rw [hq] at this
      generalize a.eval x = u at this ⊢
      cases this with | v h => exact .v h
    · exact .v (.any _)
  have hm0 : RelM P φ0 Z m0 0 w := ⟨fun i u h => (by cases h), fun _ _ => rfl, fun i b h => (by cases h), fun i j a b u v k h => (by cases h), hm.zlt⟩
  have hparts : (parts.toList.map fun p => (p.1, ρ' p.2)) = ps.map fun q => (q.1, T.v q.2) := by
    rw [← h1]
    refine List.map_congr_left fun p hp => ?_
    have hmem : (p.1, s.ev p.2) ∈ ps.map fun q => (q.1, T.v q.2) := by rw [← h1]; exact List.mem_map.2 ⟨p, hp, rfl⟩
    obtain ⟨q, _, hq⟩ := List.mem_map.1 hmem
    have hq2 : s.ev p.2 = .v q.2 := (congrArg Prod.snd hq).symm
    show (p.1, (match s.ev p.2 with
      | .v q => T.v q
      | _ => .v .any)) = _
    rw [hq2]
  have hx : opF P false ρ' m0 0 o.op = some ⟨.loc 0, [(0, some (.arr e vs))]⟩ := by
    rw [hop]
    show evBuildSlice P false ty m0 0 len (parts.toList.map fun p => (p.1, ρ' p.2)) = _
    rw [hparts]; exact h2
  obtain ⟨v, w', φ', Z', hr, q1, q2, q3⟩ := opF_sound hm0 hρ o hx
  have no : ∀ g, ¬ Owned φ0 m0 g := fun g ⟨i, b, v, h1, _⟩ => by cases h1
  have hbel : Below w.heap.size w w' := ⟨q3.os, q3.tape, q3.output, q3.size, fun g hg => q3.out g hg (no g)⟩
  obtain ⟨g1, g2⟩ := after_call hm hbel
  have hsub : SubZ Z' (freshZ Z w.heap.size w'.heap.size) := fun g o hz' => by
    rcases q3.znew g o hz' with h1 | h1 | h1
    · exact .inl h1
    · exact .inr ⟨h1, q1.zlt.lt g o hz'⟩
    · exact absurd h1 (no g)
  have hown : ∀ g, Owned φ' (applyUs m0 [(0, some (.arr e vs))]) g → ∀ o, freshZ Z w.heap.size w'.heap.size g o := fun g hg o => by
    refine .inr ⟨?_, q1.owned_lt hg⟩
    rcases Nat.lt_or_ge g w.heap.size with h1 | h1
    · exact absurd (q3.own g h1 hg) (no g)
    · exact h1
  have hrep := bor_sound q1 (k := true) hsub (fun _ => hown) 4 (.loc 0) v (.sl vs) q2 (by simp [bor, applyUs])
  have htm' := RepTs.mono' g2.sub g2.keep htm g2.ext
  obtain ⟨t1, t2, t3⟩ := tm_put_rel htm' (RepT.v hrep) (dst := o.dst) (fun d hd => by rw [hsz]; exact dst_lt ho d hd)
  have hnext := hk (s.put o.dst (.v (.sl vs))) _ _ ⟨φ, _, g1, t1, by rw [t2, hsz], by rw [t3, hdf], hst.trans g2⟩ hc
  unfold Oper.wp
  rcases hr with hr | ⟨hr, rfl⟩
  · rw [hr, Oper.upon_value]; exact hnext
  · rw [hr, Oper.upon_skip]; exact hnext
theorem stepP_sound {s : S} {a : Act} {w : World} {i : Nat} {k : S → Prop} {next : Act → World → Prop} {Q : Exit → Act → World → Prop} (h : RelF P N φ1 m1 Z0 w0 s a w) (hall : ops.toList.all (dstOk N) = true) (hc : stepP P ops i k s)
    (hk : ∀ s' a' w', RelF P N φ1 m1 Z0 w0 s' a' w' → k s' → next a' w') : wpOp P ops Q i next a w := by
  unfold stepP at hc
  unfold wpOp
  cases hi : ops[i]? with
  | none => rw [hi] at hc; exact hk _ _ _ h hc
  | some o =>
    rw [hi] at hc
    obtain ⟨g, hg, hc⟩ := hc
    have ho : dstOk N o = true := List.all_eq_true.1 hall o (by rw [Array.mem_toList_iff]; exact Array.mem_of_getElem? hi)
    simp only [guard_sound h hall hg]
    cases g
    · rw [if_neg (by simp)] at hc ⊢
      exact hk _ _ _ (put_any h ho) hc
    · rw [if_pos rfl] at hc ⊢
      rcases hc with hc | ⟨t, hb, hc⟩
      · exact .inl (opP_sound h ho hc hk)
      · exact .inl (bld_sound h ho hb hc hk)
theorem anyJ_sound {Q : TExit → S → Prop} (hall : ops.toList.all (dstOk N) = true) : ∀ (fuel : Nat) (listed : Array Bool) (s : S) (a : Act) (w : World), RelF P N φ1 m1 Z0 w0 s a w → anyJ P ops K (Q .normal) fuel listed s →
    wpAny P .any ops (QC P N φ1 m1 Z0 w0 Q) fuel listed a w
  | 0, listed, s, a, w, h, hc => ⟨hc.1, s, h, hc.2⟩
  | fuel + 1, listed, s, a, w, h, hc => ⟨fun h0 => ⟨s, h, hc.1 h0⟩, fun i hi => stepP_sound h hall (hc.2 i hi) fun s' a' w' hr hk => anyJ_sound hall fuel _ s' a' w' hr hk.2⟩

theorem RelF.drew {s : S} {a : Act} {w : World} (h : RelF P N φ1 m1 Z0 w0 s a w) : RelF P N φ1 m1 Z0 w0 s a w.drew := by
  obtain ⟨φ, Z, hm, htm, hsz, hdf, hst⟩ := h
  exact ⟨φ, Z, hm.drew, RepTs.mono' (Z := Z) (Z' := Z) (w := w) (w' := w.drew) (fun _ _ h => h) (fun _ _ _ => rfl) htm (fun _ _ h => h), hsz, hdf, hst.trans (Step.drew _ _ _ _)⟩
theorem drawP_sound {Q : TExit → S → Prop} {s : S} {a : Act} {w : World} {id : Nat} (hall : ops.toList.all (dstOk N) = true) (h : RelF P N φ1 m1 Z0 w0 s a w) (hc : drawP P ops (Q .normal) s) : (Code.region id ops true).wp P (QC P N φ1 m1 Z0 w0 Q) a w := by
  obtain ⟨hf, ⟨ord, ids, L, K, hn, hl, hk, hc⟩ | ⟨t, ids, L, K, hn, hl, hk, hc⟩⟩ := hc
  · refine wp_region_any hf ?_
    have := anyJ_sound (Q := Q) hall _ _ s a _ h.drew (ordP_any ord _ s hk hc)
    rw [hl] at this
    exact this
  · refine wp_region_any hf ?_
    have := anyJ_sound (Q := Q) hall _ _ s a _ h.drew ((ot_any t _ s).1 hk hc)
    rw [hl] at this
    exact this
end
end TL
