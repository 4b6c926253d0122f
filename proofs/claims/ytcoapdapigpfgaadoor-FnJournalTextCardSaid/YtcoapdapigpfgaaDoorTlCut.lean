/- TL, part 20: the transformer is monotone; cuts. -/
import Derived.Test.YtcoapdapigpfgaaDoorTlFrz
import Derived.Test.YtcoapdapigpfgaaDoorTlRun
set_option linter.unusedVariables false
set_option linter.unusedSimpArgs false
namespace TL
open Go Go.RowKit
variable {P : Program}

theorem bindP_mono {α : Type} {o : Option α} {k k' : α → Prop} (h : ∀ x, k x → k' x) (g : bindP o k) : bindP o k' := by
  obtain ⟨x, h1, h2⟩ := g; exact ⟨x, h1, h x h2⟩
theorem iteP_mono {c : Bool} {A B A' B' : Prop} (h : A → A') (g : B → B') (i : iteP c A B) : iteP c A' B' := by
  cases c
  · exact g i
  · exact h i
theorem opsP_mono {all : List Oper} {Q Q' : S → Prop} (h : ∀ s, Q s → Q' s) : ∀ (l : List Oper) (s : S), opsP P all l Q s → opsP P all l Q' s
  | [], s, g => h s g
  | o :: rest, s, g => by
    unfold opsP at g ⊢
    exact bindP_mono (fun b => iteP_mono (opP_mono fun s' => opsP_mono h rest s') (opsP_mono h rest _)) g
theorem pureC_mono {s : S} {o : Oper} {k k' : Option Nat → T → Prop} (h : ∀ d x, k d x → k' d x) (g : pureC P s o k) : pureC P s o k' := by
  unfold pureC at g ⊢
  split at g
  · obtain ⟨vs, r, h1, h2, h3⟩ := g; exact ⟨vs, r, h1, h2, h _ _ h3⟩
  · obtain ⟨ps, e, vs, h1, h2, h3⟩ := g; exact ⟨ps, e, vs, h1, h2, h _ _ h3⟩
  · exact g
theorem ordP_mono {all : List Oper} {ids : List Nat} {L K : List (List Nat)} {Q Q' : S → Prop} (h : ∀ s, Q s → Q' s) : ∀ (l : List Nat) (s : S), ordP P all ids L K Q l s → ordP P all ids L K Q' l s
  | [], s, g => h s g
  | i :: rest, s, g => by
    unfold ordP at g ⊢
    exact iteP_mono (bindP_mono fun o => bindP_mono fun b => iteP_mono (pureC_mono fun d x => ordP_mono h rest _) (ordP_mono h rest _)) (bindP_mono fun o => bindP_mono fun b => iteP_mono (iteP_mono (opP_mono fun s' => ordP_mono h rest _) (opP_mono fun s' => fun ⟨a, b⟩ => ⟨a, ordP_mono h rest _ b⟩)) (ordP_mono h rest _)) g
theorem ordT_mono {all : List Oper} {ids : List Nat} {L K : List (List Nat)} {Q Q' : S → Prop} (h : ∀ s, Q s → Q' s) : ∀ (t : OT) (s : S), ordT P all ids L K Q t s → ordT P all ids L K Q' t s
  | .done, s, g => h s g
  | .run l r, s, g => by
    unfold ordT at g ⊢
    exact ordP_mono (fun s => ordT_mono h r s) l s g
  | .alt a b, s, g => by
    unfold ordT at g ⊢
    exact ⟨ordT_mono h a s g.1, ordT_mono h b s g.2⟩
theorem twp_mono : ∀ (c : Code) {Q Q' : TExit → S → Prop} {s : S}, (∀ e s, Q e s → Q' e s) → twp P c Q s → twp P c Q' s
  | .skip, Q, Q', s, h, g => by simp only [twp] at g ⊢; exact h _ _ g
  | .seq a b, Q, Q', s, h, g => by
    simp only [twp] at g ⊢
    refine twp_mono a (fun e s g => ?_) g
    cases e with
    | normal => exact twp_mono b h g
    | exit i => exact h _ _ g
    | ret => exact h _ _ g
  | .cond c x y, Q, Q', s, h, g => by
    simp only [twp] at g ⊢
    exact bindP_mono (fun b => iteP_mono (twp_mono x h) (twp_mono y h)) g
  | .block i c, Q, Q', s, h, g => by
    simp only [twp] at g ⊢
    refine twp_mono c (fun e s g => ?_) g
    cases e with
    | normal => exact h _ _ g
    | ret => exact h _ _ g
    | exit j =>
      by_cases hj : j = i
      · simp only [blockP, hj, if_true] at g ⊢; exact h _ _ g
      · simp only [blockP, hj, if_false] at g ⊢; exact h _ _ g
  | .loop c, Q, Q', s, h, g => by
    simp only [twp] at g ⊢
    obtain ⟨I, μ, h1, h2⟩ := g
    refine ⟨I, μ, h1, fun s hs => twp_mono c (fun e s1 g => ?_) (h2 s hs)⟩
    cases e with
    | normal => exact g
    | exit i => exact h _ _ g
    | ret => exact h _ _ g
  | .exit i, Q, Q', s, h, g => by simp only [twp] at g ⊢; exact h _ _ g
  | .ret, Q, Q', s, h, g => by simp only [twp] at g ⊢; exact h _ _ g
  | .region i ops d, Q, Q', s, h, g => by
    simp only [twp] at g ⊢
    cases d with
    | true =>
      obtain ⟨h0, ⟨ord, ids, L, K, h1, h2, h3, h4⟩ | ⟨t, ids, L, K, h1, h2, h3, h4⟩⟩ := g
      · exact ⟨h0, .inl ⟨ord, ids, L, K, h1, h2, h3, ordP_mono (fun s => h _ s) _ _ h4⟩⟩
      · exact ⟨h0, .inr ⟨t, ids, L, K, h1, h2, h3, ordT_mono (fun s => h _ s) _ _ h4⟩⟩
    | false => exact opsP_mono (fun s => h _ s) _ _ g
  | .rangeFunc .., Q, Q', s, h, g => by simp [twp] at g
  | .scope .., Q, Q', s, h, g => by simp [twp] at g
  | .label .., Q, Q', s, h, g => by simp [twp] at g
  | .goto .., Q, Q', s, h, g => by simp [twp] at g

theorem bindP_congr {α : Type} {o : Option α} {k k' : α → Prop} (h : ∀ x, k x = k' x) : bindP o k = bindP o k' := by
  have e : k = k' := funext h
  subst e; rfl
theorem iteP_congr {c : Bool} {A B A' B' : Prop} (h : A = A') (g : B = B') : iteP c A B = iteP c A' B' := by subst h; subst g; rfl
theorem iteP_congr' {c : Bool} {A B A' : Prop} (h : c = true → A = A') : iteP c A B = iteP c A' B := by
  cases c
  · rfl
  · rw [h rfl]
/-- The value of an operation that makes and changes nothing. -/
def opW (P : Program) (mu : Bool) (ρ : Operand → T) (m : Mem) (n : Nat) (op : Op) : Option T := (opF P mu ρ m n op).bind fun E => some E.val
def opV (P : Program) (s : S) (l : List Nat) (o : Oper) (k : Option Nat → T → Prop) [Hd s] [Hd o] [Hd k] : Prop := bindP (opW P s.mu s.ev (rst s.m l) s.n o.op) fun x => k o.dst x
@[simp] theorem opV_mk {s : S} {l : List Nat} {d : Option Nat} {op : Op} {ty : TypeId} {pos : String} {af : Array Edge} {gd : Option (Nat × Bool)} {k : Option Nat → T → Prop} :
    opV P s l ⟨d, op, ty, pos, af, gd⟩ k = bindP (opW P s.mu s.ev (rst s.m l) s.n op) fun x => k d x := nrfl
section
variable {mu : Bool} {ρ : Operand → T} {m : Mem} {n : Nat}
@[simp] theorem opW_move (x : Operand) : opW P mu ρ m n (.move x) = some (ρ x) := rfl
@[simp] theorem opW_assign (x : Operand) : opW P mu ρ m n (.assign x) = some (ρ x) := rfl
@[simp] theorem opW_pick (c a b : Operand) : opW P mu ρ m n (.pick c a b) = obind (boolOf (ρ c)) fun q => some (evPick q (ρ a) (ρ b)) := by simp only [opW, opF]; cases boolOf (ρ c) <;> rfl
@[simp] theorem opW_not (t : TypeId) (x : Operand) : opW P mu ρ m n (.unOp .not t x) = obind (boolOf (ρ x)) fun b => some (.v (.bool !b)) := by simp only [opW, opF]; cases boolOf (ρ x) <;> rfl
@[simp] theorem opW_neg (t : TypeId) (x : Operand) : opW P mu ρ m n (.unOp .neg t x) = evNeg (ρ x) := by simp only [opW, opF]; cases evNeg (ρ x) <;> rfl
@[simp] theorem opW_load (t : TypeId) (a : Operand) : opW P mu ρ m n (.load t a) = evLoad P t m (ρ a) := by simp only [opW, opF]; cases evLoad P t m (ρ a) <;> rfl
@[simp] theorem opW_nilCheck (x : Operand) : opW P mu ρ m n (.nilCheck x) = evNilCheck (ρ x) := by simp only [opW, opF]; cases evNilCheck (ρ x) <;> rfl
@[simp] theorem opW_binOp (op : BinOp) (t t' : TypeId) (x y : Operand) : opW P mu ρ m n (.binOp op t x y t') = evBin P m op t (ρ x) (ρ y) := by simp only [opW, opF]; cases evBin P m op t (ρ x) (ρ y) <;> rfl
@[simp] theorem opW_convert (t t' : TypeId) (x : Operand) : opW P mu ρ m n (.convert t t' x) = evConvert P t t' m (ρ x) := by simp only [opW, opF]; cases evConvert P t t' m (ρ x) <;> rfl
@[simp] theorem opW_slice (t : TypeId) (x : Operand) (lo hi : Option Operand) : opW P mu ρ m n (.slice t x lo hi none) = evSlice P t m (lo.map ρ) (hi.map ρ) (ρ x) := by simp only [opW, opF]; cases evSlice P t m (lo.map ρ) (hi.map ρ) (ρ x) <;> rfl
@[simp] theorem opW_fieldAddr (t : TypeId) (x : Operand) (f : Nat) : opW P mu ρ m n (.fieldAddr t x f) = evFieldAddr P t f (ρ x) := by simp only [opW, opF]; cases evFieldAddr P t f (ρ x) <;> rfl
@[simp] theorem opW_indexAddr (t : TypeId) (x i : Operand) : opW P mu ρ m n (.indexAddr t x i) = evIndexAddr P t m (ρ x) (ρ i) := by simp only [opW, opF]; cases evIndexAddr P t m (ρ x) (ρ i) <;> rfl
@[simp] theorem opW_index (t : TypeId) (x i : Operand) : opW P mu ρ m n (.index t x i) = evIndex P t (ρ i) (ρ x) := by simp only [opW, opF]; cases evIndex P t (ρ i) (ρ x) <;> rfl
@[simp] theorem opW_extract (x : Operand) (i : Nat) : opW P mu ρ m n (.extract x i) = evExtract i (ρ x) := by simp only [opW, opF]; cases evExtract i (ρ x) <;> rfl
@[simp] theorem opW_build (t : TypeId) (l : List (Nat × Operand)) : opW P mu ρ m n (.build t l.toArray) = evBuild P t (l.map fun p => (p.1, ρ p.2)) := by simp only [opW, opF]; cases evBuild P t (l.map fun p => (p.1, ρ p.2)) <;> rfl
@[simp] theorem opW_makeFunc (f : Nat) (cap : List Operand) : opW P mu ρ m n (.makeFunc (.func f) #[] cap.toArray) = some (.fn f (cap.map ρ)) := by simp [opW, opF]
@[simp] theorem opW_builtin (b : Builtin) (args : Array Operand) (ts : Array TypeId) : opW P mu ρ m n (.call ⟨.builtin b, args, ts⟩) = obind (evBuiltin P mu b ts.toList m n (args.toList.map ρ)) fun E => some E.val := rfl
end
@[simp] theorem ordP_cons' {s : S} (all : List Oper) (ids : List Nat) (L K : List (List Nat)) (Q : S → Prop) (i : Nat) (rest : List Nat) : ordP P all ids L K Q (i :: rest) s = iteP (decide (1000 ≤ i)) (bindP (opAt all (i - 1000)) fun o => bindP (guardB all s o.guard) fun g => iteP g (pureC P s o fun d x => ordP P all ids L K Q rest (s.put d x)) (ordP P all ids L K Q rest (s.put o.dst und)))
      (bindP (opAt all i) fun o => bindP (guardB all s o.guard) fun g => iteP g
      (iteP (isVal o.op) (opV P s (idsAt ids L i) o fun d x => ordP P all ids L K Q rest (s.put d x)) (opP P s o fun s' => keepP (idsAt ids K i) s.m s'.m ∧ ordP P all ids L K Q rest s'))
      (ordP P all ids L K Q rest (s.put o.dst und))) := by
  rw [ordP_cons]
  have key : ∀ o : Oper, isVal o.op = true → (opP P (s.rs (idsAt ids L i)) o fun s' => ordP P all ids L K Q rest (s'.wm s.m s.n)) = (opV P s (idsAt ids L i) o fun d x => ordP P all ids L K Q rest (s.put d x)) := by
    intro o ho
    refine propext ⟨fun h => ?_, fun h => ?_⟩
    · obtain ⟨E, h1, h2⟩ := (opP_val ho).1 h
      exact ⟨E.val, by unfold opW; rw [show opF P s.mu s.ev (rst s.m (idsAt ids L i)) s.n o.op = some E from h1]; rfl, h2⟩
    · obtain ⟨x, h1, h2⟩ := h
      unfold opW at h1
      cases e : opF P s.mu s.ev (rst s.m (idsAt ids L i)) s.n o.op with
      | none => rw [e] at h1; cases h1
      | some E =>
        rw [e] at h1; cases h1
        exact (opP_val ho).2 ⟨E, e, h2⟩
  refine iteP_congr rfl (bindP_congr fun o => bindP_congr fun g => iteP_congr (iteP_congr' fun hv => key o hv) rfl)
@[simp] theorem pureC_bld {s : S} {d : Option Nat} {t : TypeId} {len : Nat} {parts : Array (Nat × Operand)} {ty : TypeId} {pos : String} {af : Array Edge} {gd : Option (Nat × Bool)} {k : Option Nat → T → Prop} :
    pureC P s ⟨d, .buildSlice t len parts, ty, pos, af, gd⟩ k = bldQ P t len (parts.toList.map fun p => (p.1, s.ev p.2)) fun vs => k d (.v (.sl vs)) := nrfl
theorem bld_ {t : TypeId} {len : Nat} {xs : List (Nat × T)} {k : List V → Prop} (ps : List (Nat × V)) (e : TypeId) (vs : List V) (h1 : xs = ps.map (fun q => (q.1, T.v q.2))) (h2 : evBuildSlice P false t (fun _ => none) 0 len (ps.map fun q => (q.1, T.v q.2)) = some ⟨.loc 0, [(0, some (.arr e vs))]⟩) (h3 : k vs) : bldQ P t len xs k := ⟨ps, e, vs, h1, h2, h3⟩
@[simp] theorem pureC_mk {s : S} {d : Option Nat} {f : Nat} {args : Array Operand} {ts : Array TypeId} {ty : TypeId} {pos : String} {af : Array Edge} {gd : Option (Nat × Bool)} {k : Option Nat → T → Prop} :
    pureC P s ⟨d, .call ⟨.value (.func f), args, ts⟩, ty, pos, af, gd⟩ k = pureQ P f (args.toList.map s.ev) fun r => k d (.v r) := nrfl
theorem pure_ {f : Nat} {args : List T} {k : V → Prop} {vs : List V} {r : V} (h : FnZ P f vs r) (ha : args = vs.map .v) (hk : k r) : pureQ P f args k := ⟨vs, r, h, ha, hk⟩
/-- A cut behind a part. -/
theorem twp_cut {a b : Code} {Q : TExit → S → Prop} {s : S} (I : S → Prop) (h : twp P a (fun e s1 => thenP I Q e s1) s) (g : ∀ s, I s → twp P b Q s) : twp P (.seq a b) Q s := by
  simp only [twp_seq]
  refine twp_mono a (fun e s g' => ?_) h
  cases e with
  | normal => exact g s g'
  | exit i => exact g'
  | ret => exact g'
theorem twp_cutQ {a : Code} {A : S → Prop} {Q : TExit → S → Prop} {s : S} (I : S → Prop) (h : twp P a (fun e s1 => thenP I Q e s1) s) (g : ∀ s, I s → A s) : twp P a (fun e s1 => thenP A Q e s1) s := by
  refine twp_mono a (fun e s g' => ?_) h
  cases e with
  | normal => exact g s g'
  | exit i => exact g'
  | ret => exact g'
/-- A loop in its block, with a cut behind it. -/
theorem twp_loopC {c : Code} {i : Nat} {A : S → Prop} {Q : TExit → S → Prop} {s : S} (I : S → Prop) (μ : S → Nat) (J : S → Prop) (hi : I s)
    (hs : ∀ s, I s → twp P c (fun e s1 => thenP (fun s' => I s' ∧ μ s' < μ s) (fun e s => blockP i (fun e s1 => thenP J Q e s1) e s) e s1) s)
    (hj : ∀ s, J s → A s) : twp P (.loop c) (fun e s => blockP i (fun e s1 => thenP A Q e s1) e s) s := by
  refine twp_mono (.loop c) (fun e s g' => ?_) (twp_loop I μ hi hs)
  have key : ∀ e s, thenP J Q e s → thenP A Q e s := fun e s g => by
    cases e with
    | normal => exact hj s g
    | exit i => exact g
    | ret => exact g
  cases e with
  | normal => exact key .normal s g'
  | ret => exact key .ret s g'
  | exit j =>
    by_cases hj : j = i
    · simp only [blockP, hj, if_true] at g' ⊢; exact key _ _ g'
    · simp only [blockP, hj, if_false] at g' ⊢; exact key _ _ g'
/-- The state is put away: what is known of it is told first. -/
theorem st_out {I : S → Prop} {s : S} (h : ∀ s' : S, (∀ t, s'.tm t = s.tm t) → s'.m = s.m → s'.n = s.n → s'.mu = s.mu → I s') : I s := h s (fun _ => rfl) rfl rfl rfl
/-- Memory holds nothing beyond its end. -/
theorem FnS_fresh {f : Nat} {m : Mem} {n : Nat} {args : List T} {post : T → Mem → Nat → Prop} (hf : ∃ fn, P.funcs[f]? = some fn ∧ (fn.name == "runtime.NumGoroutine") = false ∧ fn.body.isNone = false) (h : (∀ j, n ≤ j → m j = none) → FnS P f m n args post) : FnS P f m n args post := by
  refine ⟨hf, fun φ Z w us hm hr => (h fun j hj => ?_).2 φ Z w us hm hr⟩
  cases e : m j with
  | none => rfl
  | some b =>
    obtain ⟨v, hv, _⟩ := hm.blk j b e
    rw [hm.fresh j hj] at hv; cases hv
end TL
