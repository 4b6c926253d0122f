/- TL: parts FnsQR4, FnsQR5, FnsQR6. -/
import Derived.Test.YtcoapdapigpfgaaDoorFnsQR2
import Derived.Test.YtcoapdapigpfgaaDoorFnsQGA
import Derived.Test.YtcoapdapigpfgaaDoorFnsQ15
/- Reading terms and claims: the program. -/
set_option linter.unusedSimpArgs false
set_option linter.unusedVariables false
set_option maxRecDepth 100000
set_option maxHeartbeats 4000000
set_option pp.maxSteps 1500
namespace TL
open Go Go.Proofs
attribute [local simp] marksV storyV codeV Claim.v Place.v
theorem termText_fn (people : Int) (t : List Mark) : FnZ Tryd.prog 107 [.int .i64 people, marksV t] (.str (termText people t)) := by
  have hk := ft (termOk people t)
  rcases hk with hk | hk
  · rw [termText_no hk]
    refine FnZ_of (rs := [.tmp 4]) false Tryd.func107 rfl rfl rfl rfl (Nat.le_of_ble_eq_true rfl) ?_
    simp -dsimp
    refine call_ (termOk_fn people t) (by simp -dsimp) ?_
    simp -dsimp [hk]
  · obtain ⟨T, h1, h2, h3⟩ := termText_tree hk
    have hl := (termOk_len hk).2.1
    have ht := textOf_fn T h1 (by rw [h2]; omega)
    rw [h2, h3] at ht
    generalize termText people t = s at *
    refine FnZ_of (rs := [.tmp 4]) false Tryd.func107 rfl rfl rfl rfl (Nat.le_of_ble_eq_true rfl) ?_
    simp -dsimp
    refine call_ (termOk_fn people t) (by simp -dsimp) ?_
    simp -dsimp [hk]
    refine call_ ht (by simp -dsimp) ?_
    simp -dsimp
def optV (o : Option (List Mark)) : V := .tup [marksV (o.getD []), .bool o.isSome]
theorem readT_long {people : Int} {s : List UInt8} (h : 60 < s.length) : readT people s = none := readT_none fun t hl _ _ => by omega
theorem readT_people {people : Int} {s : List UInt8} (h : peopleOk people = false) : readT people s = none := readT_none fun t _ ht _ => by
  simp only [termOk, Bool.and_eq_true] at ht; rw [h] at ht; simp at ht
theorem peopleOk_fn' (p : Int) : FnZ Tryd.prog 97 [.int .i64 p] (.bool (peopleOk p)) := peopleOk_fn p
theorem readTerm_no (people : Int) (s : List UInt8) (hl : s.length ≤ 2000000000) (h : peopleOk people = false ∨ 60 < s.length) : FnZ Tryd.prog 82 [.int .i64 people, .str s] (.tup [.sl [], .bool false]) := by
  have hp := ft (peopleOk people)
  rcases hp with hp | hp
  · refine FnZ_of (rs := [.tmp 4, .tmp 5]) false Tryd.func82 rfl rfl rfl rfl (Nat.le_of_ble_eq_true rfl) ?_
    simp -dsimp
    refine call_ (peopleOk_fn' people) (by simp -dsimp) ?_
    simp -dsimp [hp]
  · have hl2 : (60 : Int) < s.length := by have := h.resolve_left (by simp [hp]); omega
    refine FnZ_of (rs := [.tmp 4, .tmp 5]) false Tryd.func82 rfl rfl rfl rfl (Nat.le_of_ble_eq_true rfl) ?_
    simp -dsimp
    refine call_ (peopleOk_fn' people) (by simp -dsimp) ?_
    simp -dsimp [hp, hl2]
theorem readTerm_fn (people : Int) (s : List UInt8) (hl : s.length ≤ 2000000000) : FnZ Tryd.prog 82 [.int .i64 people, .str s] (optV (readT people s)) := by
  by_cases h60 : s.length ≤ 60
  case neg =>
    have h : 60 < s.length := by omega
    rw [readT_long h]
    exact readTerm_no people s hl (.inr h)
  have hp := ft (peopleOk people)
  rcases hp with hp | hp
  · rw [readT_people hp]
    exact readTerm_no people s hl (.inl hp)
  rw [readT_code atomI_ok h60]
  have hS := readSame_all s.length (by omega) s (Nat.le_refl _)
  have hT := termText_fn people (rSame atomI s.length s).ms
  have hne : (rSame atomI s.length s).ok = true → s ≠ [] := by
    rintro h rfl; rw [rSame_nil] at h; cases h
  have hl60 : ¬ (60 : Int) < s.length := by omega
  generalize rSame atomI s.length s = r at *
  obtain ⟨ms, rest, ok⟩ := r
  simp only at hT hne ⊢
  have htt : termText people ms = s → ok = true → termOk people ms = true := fun h1 h2 => by
    have hk := ft (termOk people ms)
    rcases hk with hk | hk
    · rw [termText_no hk] at h1; exact absurd h1.symm (hne h2)
    · exact hk
  refine FnZ_of (rs := [.tmp 4, .tmp 5]) false Tryd.func82 rfl rfl rfl rfl (Nat.le_of_ble_eq_true rfl) ?_
  simp -dsimp
  refine call_ (peopleOk_fn' people) (by simp -dsimp) ?_
  simp -dsimp [hp, hl60]
  refine callS_ (hS _ _) ?_
  rintro t m2 n2 ⟨hle2, hout2, st2, rfl, hrow2, hnil2⟩
  simp only at hrow2 hnil2 ⊢
  cases ok with
  | false =>
    simp -dsimp [optV]
  | true =>
    by_cases hr : rest = []
    case neg => simp -dsimp [optV, hr]
    subst hr
    rcases hrow2 with ⟨rfl, _⟩ | ⟨i2, rfl, hj0, hj1, hmj⟩
    · exact absurd rfl (hnil2 rfl)
    simp -dsimp
    refine call_ hT (by simp -dsimp [hmj]) ?_
    by_cases he : termText people ms = s
    · have hk := htt he rfl
      simp -dsimp [he, hk, hmj, optV]
    · simp -dsimp [he, optV]
theorem claimBy_fn (people who : Int) (t : List Mark) (hl : t.length ≤ 1048576) : FnZ Tryd.prog 83 [.int .i64 people, .int .i64 who, marksV t] (.tup [(if claimOk people ⟨who, t⟩ = true then (⟨who, t⟩ : Claim) else ⟨0, []⟩).v, .bool (claimOk people ⟨who, t⟩)]) := by
  have hc := claimOk_fn people ⟨who, t⟩
  have hk := ft (claimOk people ⟨who, t⟩)
  refine FnZ_of (rs := [.cell 6 80, .tmp 7]) false Tryd.func83 rfl rfl rfl rfl (Nat.le_of_ble_eq_true rfl) ?_
  simp -dsimp
  refine call_ (cloneMarks_fn t hl) (by simp -dsimp) ?_
  simp -dsimp
  refine call_ hc (by simp -dsimp) ?_
  rcases hk with hk | hk
  · simp -dsimp [hk]
  · simp -dsimp [hk]
def optC (o : Option Claim) : V := .tup [(o.getD ⟨0, []⟩).v, .bool o.isSome]
theorem readClaim_fn (people : Int) (s : List UInt8) (hl : s.length ≤ 2000000000) : FnZ Tryd.prog 56 [.int .i64 people, .str s] (optC (readC people s)) := by
  have zero : ∀ (x : List UInt8), s.length < 3 → readC people s = none := fun _ h => by
    cases e : readC people s with
    | none => rfl
    | some c => have := readC_is e; have := (claimTx_len this.1).1; rw [(readC_is e).2] at this; omega
  by_cases h3 : s.length < 3
  · have h3' : (s.length : Int) < 3 := by omega
    rw [zero [] h3]
    refine FnZ_of (rs := [.cell 4 80, .tmp 5]) false Tryd.func56 rfl rfl rfl rfl (Nat.le_of_ble_eq_true rfl) ?_
    simp -dsimp [h3, h3', optC]
  clear zero
  match s, h3, hl with
  | [], h3, hl => simp at h3
  | [a], h3, hl => simp at h3
  | a :: b :: s, h3, hl =>
    have h3' : ¬ ((s.length : Int) + 1 + 1 < 3) := by simp at h3; omega
    have hls : s.length ≤ 2000000000 := by simp at hl; omega
    have l2 : (2 : Int) ≤ (s.length : Int) + 1 + 1 := by omega
    have l3 : ((s.length : Int) + 1 + 1).toNat = s.length + 1 + 1 := by omega
    by_cases hb : b = 58
    case neg =>
      have e : readC people (a :: b :: s) = none := if_neg hb
      have hb' : ¬ (b.toNat : Int) = 58 := fun h => hb (UInt8.toNat.inj (by show b.toNat = 58; omega))
      rw [e]
      refine FnZ_of (rs := [.cell 4 80, .tmp 5]) false Tryd.func56 rfl rfl rfl rfl (Nat.le_of_ble_eq_true rfl) ?_
      simp -dsimp [h3', hb', optC]
    subst hb
    have e : readC people (a :: 58 :: s) = (readT people s).bind fun t => if claimOk people ⟨(a.toNat : Int) - 97, t⟩ = true then some ⟨(a.toNat : Int) - 97, t⟩ else none := rfl
    rw [e]
    have ht := readTerm_fn people s hls
    have hlt := UInt8.toNat_lt a
    have w1 : IntKind.wrap .i64 ((a.toNat : Int) - 97) = (a.toNat : Int) - 97 := w64 (by omega) (by omega)
    have w2 : IntKind.wrap .i64 (a.toNat : Int) = (a.toNat : Int) := w64 (by omega) (by omega)
    have hle : ∀ t, readT people s = some t → t.length ≤ 1048576 := fun t h => by
      have := (termOk_len (readT_is h).2.1).2.1; omega
    generalize readT people s = o at *
    cases o with
    | none =>
      refine FnZ_of (rs := [.cell 4 80, .tmp 5]) false Tryd.func56 rfl rfl rfl rfl (Nat.le_of_ble_eq_true rfl) ?_
      simp -dsimp [h3', l2, l3, optC]
      refine call_ ht (by simp -dsimp) ?_
      simp -dsimp [optV, optC]
    | some t =>
      have hcb := claimBy_fn people ((a.toNat : Int) - 97) t (hle t rfl)
      have hk := ft (claimOk people ⟨(a.toNat : Int) - 97, t⟩)
      refine FnZ_of (rs := [.cell 4 80, .tmp 5]) false Tryd.func56 rfl rfl rfl rfl (Nat.le_of_ble_eq_true rfl) ?_
      simp -dsimp [h3', l2, l3, optC]
      refine call_ ht (by simp -dsimp) ?_
      simp -dsimp [optV, w1, w2]
      refine call_ hcb (by simp -dsimp) ?_
      rcases hk with hk | hk
      · simp -dsimp [hk, optC]
      · simp -dsimp [hk, optC]
end TL

/- Reading terms: the reference's code. -/
set_option linter.unusedSimpArgs false
set_option linter.unusedVariables false
set_option maxRecDepth 100000
set_option maxHeartbeats 4000000
set_option pp.maxSteps 1500
namespace TL
open Go Go.Proofs
attribute [local simp] marksV storyV codeV Claim.v Place.v
theorem drop_one {Tx : List UInt8} {q : Nat} {c : UInt8} {more : List UInt8} (h : Tx.drop q = c :: more) : Tx[q]? = some c ∧ Tx.drop (q + 1) = more ∧ q < Tx.length := by
  have hlt : q < Tx.length := by
    rcases Nat.lt_or_ge q Tx.length with h1 | h1
    · exact h1
    · rw [List.drop_eq_nil_of_le h1] at h; cases h
  rw [drop_cons hlt] at h
  injection h with h1 h2
  exact ⟨by rw [List.getElem?_eq_getElem hlt, h1], h2, hlt⟩
/-- What a reader of the reference gives back. -/
structure SPost (Tx : List UInt8) (L : Nat) (m : Mem) (n : Nat) (r : R) (t : T) (m' : Mem) (n' : Nat) : Prop where
  le : n ≤ n'
  out : ∀ j, j < n → m' j = m j
  res : ∃ (i : Nat) (xs : List Mark) (next : Int), t = .tup [.loc i, .v (.int .i64 next)] ∧ n ≤ i ∧ i < n' ∧ m' i = some (.arr 126 (xs.map Mark.v)) ∧ xs.length ≤ L ∧
    (r.ok = true → xs = r.ms ∧ ∃ q : Nat, next = q ∧ Tx.drop q = r.rest ∧ q ≤ Tx.length) ∧ (r.ok = false → next = -1)
abbrev SFn (f : Nat) (Tx : List UInt8) (F : Nat) (more : List T) (p : List UInt8 → R) : Prop := ∀ q : Nat, q ≤ Tx.length → Tx.length - q ≤ F → ∀ m n, FnS Tryd.prog f m n ([.v (.str Tx), .v (.int .i64 q)] ++ more) (SPost Tx (Tx.length - q) m n (p (Tx.drop q)))
def numAt : T → Int
  | .v (.int _ z) => z
  | _ => 0
@[simp] theorem numAt_int (k : IntKind) (z : Int) : numAt (.v (.int k z)) = z := rfl
def Isl (Tx : List UInt8) (L : Nat) (m0 : Mem) (n0 : Nat) (p : List UInt8 → R) (sg : UInt8) (k : Int) (G : R) (s : S) : Prop := ∃ (i : Nat) (xs : List Mark) (next : Int),
  s.tm 0 = .v (.str Tx) ∧ s.tm 2 = .v (.int .i64 k) ∧ s.tm 8 = .v (.int .u8 sg.toNat) ∧ s.tm 9 = .loc i ∧ s.tm 10 = .v (.int .i64 next) ∧ s.mu = false ∧ n0 ≤ s.n ∧ (∀ j, j < n0 → s.m j = m0 j) ∧
  n0 ≤ i ∧ i < s.n ∧ s.m i = some (.arr 126 (xs.map Mark.v)) ∧ xs.length ≤ L ∧
  ((next = -1 ∧ G.ok = false) ∨ ∃ (q g : Nat), next = q ∧ q ≤ Tx.length ∧ Tx.length - q ≤ g ∧ Tx.length - q ≤ L ∧ xs.length + (Tx.length - q) ≤ L ∧ G = rLoop p sg k g xs (Tx.drop q))
def Xsl (Tx : List UInt8) (L : Nat) (m0 : Mem) (n0 : Nat) (G : R) (s : S) : Prop := ∃ (i : Nat) (xs : List Mark) (next : Int),
  s.tm 9 = .loc i ∧ s.tm 10 = .v (.int .i64 next) ∧ n0 ≤ s.n ∧ (∀ j, j < n0 → s.m j = m0 j) ∧
  n0 ≤ i ∧ i < s.n ∧ s.m i = some (.arr 126 (xs.map Mark.v)) ∧ xs.length ≤ L ∧
  (G.ok = true → xs = G.ms ∧ ∃ q : Nat, next = q ∧ Tx.drop q = G.rest ∧ q ≤ Tx.length) ∧ (G.ok = false → next = -1)
theorem level_start {Tx : List UInt8} {p : List UInt8 → R} {sg : UInt8} {k : Int} {F L q : Nat} {xs : List Mark} {next : Int} (hF : L ≤ F) (g0 : (p (Tx.drop q)).ms.length + (p (Tx.drop q)).rest.length ≤ L)
    (hok : (p (Tx.drop q)).ok = true → xs = (p (Tx.drop q)).ms ∧ ∃ q' : Nat, next = q' ∧ Tx.drop q' = (p (Tx.drop q)).rest ∧ q' ≤ Tx.length) (hno : (p (Tx.drop q)).ok = false → next = -1) :
    (next = -1 ∧ (rRow p sg k F (Tx.drop q)).ok = false) ∨ ∃ (q' g : Nat), next = q' ∧ q' ≤ Tx.length ∧ Tx.length - q' ≤ g ∧ Tx.length - q' ≤ L ∧ xs.length + (Tx.length - q') ≤ L ∧ rRow p sg k F (Tx.drop q) = rLoop p sg k g xs (Tx.drop q') := by
  have hb := ft (p (Tx.drop q)).ok
  rcases hb with hb | hb
  · left; exact ⟨hno hb, by unfold rRow; rw [if_neg (by simp [hb])]⟩
  · obtain ⟨rfl, q', e1, e2, e3⟩ := hok hb
    have e4 := congrArg List.length e2
    rw [List.length_drop] at e4
    right; exact ⟨q', F, e1, e3, by omega, by omega, by omega, by unfold rRow; rw [if_pos hb, e2]⟩
theorem level_next {Tx : List UInt8} {p : List UInt8 → R} {sg : UInt8} {k : Int} {L L2 : Nat} {xs ys : List Mark} {next : Int} {more : List UInt8} {G : R}
    (hG : ∃ g', more.length ≤ g' ∧ G = if (p more).ok = true then rLoop p sg k g' (xs ++ (p more).ms ++ [(⟨k, 0⟩ : Mark)]) (p more).rest else (⟨[], (p more).rest, false⟩ : R)) (g2 : (p more).ms.length + (p more).rest.length ≤ L2)
    (hok : (p more).ok = true → ys = (p more).ms ∧ ∃ q' : Nat, next = q' ∧ Tx.drop q' = (p more).rest ∧ q' ≤ Tx.length) (hno : (p more).ok = false → next = -1) (h1 : more.length = L2) (h2 : xs.length + 1 + L2 ≤ L) :
    (next = -1 ∧ G.ok = false) ∨ ∃ (q' g : Nat), next = q' ∧ q' ≤ Tx.length ∧ Tx.length - q' ≤ g ∧ Tx.length - q' ≤ L ∧ (xs ++ ys ++ [(⟨k, 0⟩ : Mark)]).length + (Tx.length - q') ≤ L ∧ G = rLoop p sg k g (xs ++ ys ++ [⟨k, 0⟩]) (Tx.drop q') := by
  obtain ⟨g', hg', rfl⟩ := hG
  have hb := ft (p more).ok
  rcases hb with hb | hb
  · left; exact ⟨hno hb, by rw [if_neg (by simp [hb])]⟩
  · obtain ⟨rfl, q', e1, e2, e3⟩ := hok hb
    have e4 := congrArg List.length e2
    rw [List.length_drop] at e4
    right; exact ⟨q', g', e1, e3, by omega, by omega, by simp; omega, by rw [if_pos hb, e2]⟩
theorem level_mu {Tx : List UInt8} {p : List UInt8 → R} {L2 : Nat} {ys : List Mark} {next : Int} {more : List UInt8} (g2 : (p more).ms.length + (p more).rest.length ≤ L2)
    (hok : (p more).ok = true → ys = (p more).ms ∧ ∃ q' : Nat, next = q' ∧ Tx.drop q' = (p more).rest ∧ q' ≤ Tx.length) (hno : (p more).ok = false → next = -1) :
    (if next < 0 then 0 else Tx.length + 1 - next.toNat) ≤ L2 + 1 := by
  have hb := ft (p more).ok
  rcases hb with hb | hb
  · rw [hno hb]; simp
  · obtain ⟨_, q', rfl, e2, e3⟩ := hok hb
    have e4 := congrArg List.length e2
    rw [List.length_drop] at e4
    rw [if_neg (by omega)]; omega
theorem level_step {Tx : List UInt8} {p : List UInt8 → R} {sg : UInt8} {k : Int} {g q : Nat} {xs : List Mark} {more : List UInt8} (hd : Tx.drop q = sg :: more) (hg : Tx.length - q ≤ g) :
    ∃ g', more.length ≤ g' ∧ rLoop p sg k g xs (Tx.drop q) = if (p more).ok = true then rLoop p sg k g' (xs ++ (p more).ms ++ [⟨k, 0⟩]) (p more).rest else ⟨[], (p more).rest, false⟩ := by
  have e4 := congrArg List.length hd
  rw [List.length_drop] at e4
  cases g with
  | zero => simp at e4; omega
  | succ g => exact ⟨g, by simp at e4; omega, by rw [hd]; simp only [rLoop, if_true]⟩
theorem l2Level_fn (Tx : List UInt8) (hS : Tx.length ≤ 1000000) (F : Nat) (p : List UInt8 → R) (sg : UInt8) (k : Int) (hk : (k = 3 ∧ sg = 38) ∨ (k = 4 ∧ sg = 124) ∨ (k = 5 ∧ sg = 61)) (hp : good p) (hf : SFn 104 Tx F [.v (.int .i64 (k - 1))] p) :
    SFn 104 Tx F [.v (.int .i64 k)] (rRow p sg k F) := by
  intro q hq hF m n
  have g0 := (hp (Tx.drop q)).1
  rw [List.length_drop] at g0
  generalize hL : Tx.length - q = L at *
  have hf0 := hf q hq (by omega)
  rw [hL] at hf0
  rcases hk with ⟨rfl, rfl⟩ | ⟨rfl, rfl⟩ | ⟨rfl, rfl⟩
  · refine FnS_of (rs := [.tmp 6, .tmp 7]) false Tryd.func104 rfl rfl rfl rfl (Nat.le_of_ble_eq_true rfl) ?_
    simp -dsimp [show IntKind.wrap .i64 0 = 0 from rfl, show IntKind.wrap .i64 1 = 1 from rfl, show IntKind.wrap .i64 2 = 2 from rfl, show IntKind.wrap .i64 3 = 3 from rfl, show IntKind.wrap .i64 4 = 4 from rfl]
    refine callS_ (hf0 _ _) ?_
    rintro t m1 n1 ⟨hle, hout, i, xs, next, rfl, hi0, hi1, hmi, hxl, hok, hno⟩
    simp -dsimp
    refine twp_loopC (Isl Tx L m n p 38 3 (rRow p 38 3 F (Tx.drop q))) (fun s => if numAt (s.tm 10) < 0 then 0 else Tx.length + 1 - (numAt (s.tm 10)).toNat) (Xsl Tx L m n (rRow p 38 3 F (Tx.drop q))) ?_ ?_ ?_
    · refine ⟨i, xs, next, by simp -dsimp, by simp -dsimp, by simp -dsimp, by simp -dsimp, by simp -dsimp, by simp -dsimp, by simp -dsimp [hle], by simp -dsimp; exact hout, hi0, by simp -dsimp [hi1], by simp -dsimp [hmi], hxl, ?_⟩
      exact level_start hF g0 hok hno
    · rintro s1 ⟨i, xs, next, t0, t2, t8, t9, t10, hmu, hn, hm, hi0, hi1, hmi, hxl, hcase⟩
      rcases hcase with ⟨rfl, hG⟩ | ⟨q2, g, rfl, hq2, hg2, hqL, hxq, hG⟩
      · simp -dsimp [t0, t10]
        exact ⟨i, xs, -1, by simp -dsimp [t9], by simp -dsimp [t10], by simp -dsimp [hn], by simp -dsimp; exact hm, hi0, by simp -dsimp [hi1], by simp -dsimp [hmi], hxl, by simp [hG], fun _ => rfl⟩
      have z0 : ¬ (q2 : Int) < 0 := by omega
      cases hd : Tx.drop q2 with
      | nil =>
        have hql : q2 = Tx.length := by
          rcases Nat.lt_or_ge q2 Tx.length with h | h
          · rw [drop_cons h] at hd; cases hd
          · omega
        have z1 : ¬ (q2 : Int) < (Tx.length : Int) := by omega
        have z2 : ¬ q2 < Tx.length := by omega
        rw [rLoop_stop g xs (by rw [hd]; simp [noHead])] at hG
        simp -dsimp [t0, t10, z0, z1, z2]
        exact ⟨i, xs, q2, by simp -dsimp [t9], by simp -dsimp [t10], by simp -dsimp [hn], by simp -dsimp; exact hm, hi0, by simp -dsimp [hi1], by simp -dsimp [hmi], hxl, fun _ => ⟨by rw [hG], q2, rfl, by rw [hG], hq2⟩, by simp [hG]⟩
      | cons c more =>
        obtain ⟨d1, d2, d3⟩ := drop_one hd
        have z1 : (q2 : Int) < (Tx.length : Int) := by omega
        have d4 : Tx[q2] = c := by rw [List.getElem?_eq_getElem d3] at d1; exact Option.some.inj d1
        by_cases hc : c = 38
        case neg =>
          have hc' : ¬ (c.toNat : Int) = 38 := fun h => hc (UInt8.toNat.inj (by show c.toNat = 38; omega))
          rw [rLoop_stop g xs (by rw [hd]; simp [noHead, hc])] at hG
          simp -dsimp [t0, t8, t10, z0, z1, d1, d3, d4, hc']
          exact ⟨i, xs, q2, by simp -dsimp [t9], by simp -dsimp [t10], by simp -dsimp [hn], by simp -dsimp; exact hm, hi0, by simp -dsimp [hi1], by simp -dsimp [hmi], hxl, fun _ => ⟨by rw [hG], q2, rfl, by rw [hG], hq2⟩, by simp [hG]⟩
        subst hc
        have h2 := hf (q2 + 1) (by omega) (by omega)
        have eq1 : ((q2 + 1 : Nat) : Int) = (q2 : Int) + 1 := by omega
        rw [eq1] at h2
        have w1 : IntKind.wrap .i64 ((q2 : Int) + 1) = (q2 : Int) + 1 := w64 (by omega) (by omega)
        have g2 := (hp (Tx.drop (q2 + 1))).1
        rw [List.length_drop] at g2
        have hG2 := level_step (p := p) (sg := 38) (k := 3) (xs := xs) (g := g) (hd) hg2
        rw [d2] at h2 g2
        have hml : more.length = Tx.length - (q2 + 1) := by rw [← d2, List.length_drop]
        rw [← hG] at hG2
        clear hG hd
        generalize hq3 : q2 + 1 = q3 at *
        generalize hL2 : Tx.length - q3 = L2 at *
        simp -dsimp [t0, t2, t8, t10, z0, z1, d1, d3, d4, w1, show IntKind.wrap .i64 0 = 0 from rfl, show IntKind.wrap .i64 1 = 1 from rfl, show IntKind.wrap .i64 2 = 2 from rfl, show IntKind.wrap .i64 3 = 3 from rfl, show IntKind.wrap .i64 4 = 4 from rfl]
        refine callS_ (h2 _ _) ?_
        rintro t m2 n2 ⟨hle2, hout2, i2, ys, next2, rfl, hj0, hj1, hmj, hyl, hok2, hno2⟩
        have hi2 : i < n2 := by omega
        have hmi2 : m2 i = some (.arr 126 (xs.map Mark.v)) := by rw [hout2 i hi1, hmi]
        have f1 := far hi2
        have f2 := far hj1
        have b0 : xs.length * 16 ≤ 140737488355328 := by omega
        have b1 : (xs.length + ys.length) * 16 ≤ 140737488355328 := by omega
        have b2 : (xs.length + ys.length + 1) * 16 ≤ 140737488355328 := by omega
        simp -dsimp [t0, t2, t8, t9, t10, hmu, hmi2, hmj, f1, f2, b0, b1, b2, nes]
        refine ⟨st_out fun s' ht hm' hn' hu' => ?_, ?_⟩
        · have a0 := ht 0
          have a2 := ht 2
          have a8 := ht 8
          have a9 := ht 9
          have a10 := ht 10
          simp -dsimp [t0, t2, t8] at a0 a2 a8 a9 a10 hm' hn' hu'
          clear ht
          refine ⟨_, xs ++ ys ++ [⟨3, 0⟩], next2, a0, a2, a8, a9, a10, by rw [hu', hmu], by omega, fun j hj => ?_, by omega, by omega, ?_, by simp; omega, ?_⟩
          · have e1 : j < n2 := by omega
            have e2 : ¬ j = i := by rintro rfl; omega
            have e3 := far e1
            simp [hm', e2, e3, hout2 j (by omega), hm j hj]
          · simp [hm', nes, Mark.v]
          · exact level_next hG2 g2 hok2 hno2 (by omega) (by omega)
        · have := level_mu (Tx := Tx) g2 hok2 hno2
          generalize (p more).ok = b at *
          simp only [t10, numAt_int, if_neg z0] at this ⊢
          omega
    · rintro s1 ⟨i, xs, next, t9, t10, hn, hm, hi0, hi1, hmi, hxl, hok, hno⟩
      simp -dsimp [t9, t10]
      exact ⟨hn, hm, i, xs, next, rfl, hi0, hi1, hmi, hxl, hok, hno⟩
  · refine FnS_of (rs := [.tmp 6, .tmp 7]) false Tryd.func104 rfl rfl rfl rfl (Nat.le_of_ble_eq_true rfl) ?_
    simp -dsimp [show IntKind.wrap .i64 0 = 0 from rfl, show IntKind.wrap .i64 1 = 1 from rfl, show IntKind.wrap .i64 2 = 2 from rfl, show IntKind.wrap .i64 3 = 3 from rfl, show IntKind.wrap .i64 4 = 4 from rfl]
    refine callS_ (hf0 _ _) ?_
    rintro t m1 n1 ⟨hle, hout, i, xs, next, rfl, hi0, hi1, hmi, hxl, hok, hno⟩
    simp -dsimp
    refine twp_loopC (Isl Tx L m n p 124 4 (rRow p 124 4 F (Tx.drop q))) (fun s => if numAt (s.tm 10) < 0 then 0 else Tx.length + 1 - (numAt (s.tm 10)).toNat) (Xsl Tx L m n (rRow p 124 4 F (Tx.drop q))) ?_ ?_ ?_
    · refine ⟨i, xs, next, by simp -dsimp, by simp -dsimp, by simp -dsimp, by simp -dsimp, by simp -dsimp, by simp -dsimp, by simp -dsimp [hle], by simp -dsimp; exact hout, hi0, by simp -dsimp [hi1], by simp -dsimp [hmi], hxl, ?_⟩
      exact level_start hF g0 hok hno
    · rintro s1 ⟨i, xs, next, t0, t2, t8, t9, t10, hmu, hn, hm, hi0, hi1, hmi, hxl, hcase⟩
      rcases hcase with ⟨rfl, hG⟩ | ⟨q2, g, rfl, hq2, hg2, hqL, hxq, hG⟩
      · simp -dsimp [t0, t10]
        exact ⟨i, xs, -1, by simp -dsimp [t9], by simp -dsimp [t10], by simp -dsimp [hn], by simp -dsimp; exact hm, hi0, by simp -dsimp [hi1], by simp -dsimp [hmi], hxl, by simp [hG], fun _ => rfl⟩
      have z0 : ¬ (q2 : Int) < 0 := by omega
      cases hd : Tx.drop q2 with
      | nil =>
        have hql : q2 = Tx.length := by
          rcases Nat.lt_or_ge q2 Tx.length with h | h
          · rw [drop_cons h] at hd; cases hd
          · omega
        have z1 : ¬ (q2 : Int) < (Tx.length : Int) := by omega
        have z2 : ¬ q2 < Tx.length := by omega
        rw [rLoop_stop g xs (by rw [hd]; simp [noHead])] at hG
        simp -dsimp [t0, t10, z0, z1, z2]
        exact ⟨i, xs, q2, by simp -dsimp [t9], by simp -dsimp [t10], by simp -dsimp [hn], by simp -dsimp; exact hm, hi0, by simp -dsimp [hi1], by simp -dsimp [hmi], hxl, fun _ => ⟨by rw [hG], q2, rfl, by rw [hG], hq2⟩, by simp [hG]⟩
      | cons c more =>
        obtain ⟨d1, d2, d3⟩ := drop_one hd
        have z1 : (q2 : Int) < (Tx.length : Int) := by omega
        have d4 : Tx[q2] = c := by rw [List.getElem?_eq_getElem d3] at d1; exact Option.some.inj d1
        by_cases hc : c = 124
        case neg =>
          have hc' : ¬ (c.toNat : Int) = 124 := fun h => hc (UInt8.toNat.inj (by show c.toNat = 124; omega))
          rw [rLoop_stop g xs (by rw [hd]; simp [noHead, hc])] at hG
          simp -dsimp [t0, t8, t10, z0, z1, d1, d3, d4, hc']
          exact ⟨i, xs, q2, by simp -dsimp [t9], by simp -dsimp [t10], by simp -dsimp [hn], by simp -dsimp; exact hm, hi0, by simp -dsimp [hi1], by simp -dsimp [hmi], hxl, fun _ => ⟨by rw [hG], q2, rfl, by rw [hG], hq2⟩, by simp [hG]⟩
        subst hc
        have h2 := hf (q2 + 1) (by omega) (by omega)
        have eq1 : ((q2 + 1 : Nat) : Int) = (q2 : Int) + 1 := by omega
        rw [eq1] at h2
        have w1 : IntKind.wrap .i64 ((q2 : Int) + 1) = (q2 : Int) + 1 := w64 (by omega) (by omega)
        have g2 := (hp (Tx.drop (q2 + 1))).1
        rw [List.length_drop] at g2
        have hG2 := level_step (p := p) (sg := 124) (k := 4) (xs := xs) (g := g) (hd) hg2
        rw [d2] at h2 g2
        have hml : more.length = Tx.length - (q2 + 1) := by rw [← d2, List.length_drop]
        rw [← hG] at hG2
        clear hG hd
        generalize hq3 : q2 + 1 = q3 at *
        generalize hL2 : Tx.length - q3 = L2 at *
        simp -dsimp [t0, t2, t8, t10, z0, z1, d1, d3, d4, w1, show IntKind.wrap .i64 0 = 0 from rfl, show IntKind.wrap .i64 1 = 1 from rfl, show IntKind.wrap .i64 2 = 2 from rfl, show IntKind.wrap .i64 3 = 3 from rfl, show IntKind.wrap .i64 4 = 4 from rfl]
        refine callS_ (h2 _ _) ?_
        rintro t m2 n2 ⟨hle2, hout2, i2, ys, next2, rfl, hj0, hj1, hmj, hyl, hok2, hno2⟩
        have hi2 : i < n2 := by omega
        have hmi2 : m2 i = some (.arr 126 (xs.map Mark.v)) := by rw [hout2 i hi1, hmi]
        have f1 := far hi2
        have f2 := far hj1
        have b0 : xs.length * 16 ≤ 140737488355328 := by omega
        have b1 : (xs.length + ys.length) * 16 ≤ 140737488355328 := by omega
        have b2 : (xs.length + ys.length + 1) * 16 ≤ 140737488355328 := by omega
        simp -dsimp [t0, t2, t8, t9, t10, hmu, hmi2, hmj, f1, f2, b0, b1, b2, nes]
        refine ⟨st_out fun s' ht hm' hn' hu' => ?_, ?_⟩
        · have a0 := ht 0
          have a2 := ht 2
          have a8 := ht 8
          have a9 := ht 9
          have a10 := ht 10
          simp -dsimp [t0, t2, t8] at a0 a2 a8 a9 a10 hm' hn' hu'
          clear ht
          refine ⟨_, xs ++ ys ++ [⟨4, 0⟩], next2, a0, a2, a8, a9, a10, by rw [hu', hmu], by omega, fun j hj => ?_, by omega, by omega, ?_, by simp; omega, ?_⟩
          · have e1 : j < n2 := by omega
            have e2 : ¬ j = i := by rintro rfl; omega
            have e3 := far e1
            simp [hm', e2, e3, hout2 j (by omega), hm j hj]
          · simp [hm', nes, Mark.v]
          · exact level_next hG2 g2 hok2 hno2 (by omega) (by omega)
        · have := level_mu (Tx := Tx) g2 hok2 hno2
          generalize (p more).ok = b at *
          simp only [t10, numAt_int, if_neg z0] at this ⊢
          omega
    · rintro s1 ⟨i, xs, next, t9, t10, hn, hm, hi0, hi1, hmi, hxl, hok, hno⟩
      simp -dsimp [t9, t10]
      exact ⟨hn, hm, i, xs, next, rfl, hi0, hi1, hmi, hxl, hok, hno⟩
  · refine FnS_of (rs := [.tmp 6, .tmp 7]) false Tryd.func104 rfl rfl rfl rfl (Nat.le_of_ble_eq_true rfl) ?_
    simp -dsimp [show IntKind.wrap .i64 0 = 0 from rfl, show IntKind.wrap .i64 1 = 1 from rfl, show IntKind.wrap .i64 2 = 2 from rfl, show IntKind.wrap .i64 3 = 3 from rfl, show IntKind.wrap .i64 4 = 4 from rfl]
    refine callS_ (hf0 _ _) ?_
    rintro t m1 n1 ⟨hle, hout, i, xs, next, rfl, hi0, hi1, hmi, hxl, hok, hno⟩
    simp -dsimp
    refine twp_loopC (Isl Tx L m n p 61 5 (rRow p 61 5 F (Tx.drop q))) (fun s => if numAt (s.tm 10) < 0 then 0 else Tx.length + 1 - (numAt (s.tm 10)).toNat) (Xsl Tx L m n (rRow p 61 5 F (Tx.drop q))) ?_ ?_ ?_
    · refine ⟨i, xs, next, by simp -dsimp, by simp -dsimp, by simp -dsimp, by simp -dsimp, by simp -dsimp, by simp -dsimp, by simp -dsimp [hle], by simp -dsimp; exact hout, hi0, by simp -dsimp [hi1], by simp -dsimp [hmi], hxl, ?_⟩
      exact level_start hF g0 hok hno
    · rintro s1 ⟨i, xs, next, t0, t2, t8, t9, t10, hmu, hn, hm, hi0, hi1, hmi, hxl, hcase⟩
      rcases hcase with ⟨rfl, hG⟩ | ⟨q2, g, rfl, hq2, hg2, hqL, hxq, hG⟩
      · simp -dsimp [t0, t10]
        exact ⟨i, xs, -1, by simp -dsimp [t9], by simp -dsimp [t10], by simp -dsimp [hn], by simp -dsimp; exact hm, hi0, by simp -dsimp [hi1], by simp -dsimp [hmi], hxl, by simp [hG], fun _ => rfl⟩
      have z0 : ¬ (q2 : Int) < 0 := by omega
      cases hd : Tx.drop q2 with
      | nil =>
        have hql : q2 = Tx.length := by
          rcases Nat.lt_or_ge q2 Tx.length with h | h
          · rw [drop_cons h] at hd; cases hd
          · omega
        have z1 : ¬ (q2 : Int) < (Tx.length : Int) := by omega
        have z2 : ¬ q2 < Tx.length := by omega
        rw [rLoop_stop g xs (by rw [hd]; simp [noHead])] at hG
        simp -dsimp [t0, t10, z0, z1, z2]
        exact ⟨i, xs, q2, by simp -dsimp [t9], by simp -dsimp [t10], by simp -dsimp [hn], by simp -dsimp; exact hm, hi0, by simp -dsimp [hi1], by simp -dsimp [hmi], hxl, fun _ => ⟨by rw [hG], q2, rfl, by rw [hG], hq2⟩, by simp [hG]⟩
      | cons c more =>
        obtain ⟨d1, d2, d3⟩ := drop_one hd
        have z1 : (q2 : Int) < (Tx.length : Int) := by omega
        have d4 : Tx[q2] = c := by rw [List.getElem?_eq_getElem d3] at d1; exact Option.some.inj d1
        by_cases hc : c = 61
        case neg =>
          have hc' : ¬ (c.toNat : Int) = 61 := fun h => hc (UInt8.toNat.inj (by show c.toNat = 61; omega))
          rw [rLoop_stop g xs (by rw [hd]; simp [noHead, hc])] at hG
          simp -dsimp [t0, t8, t10, z0, z1, d1, d3, d4, hc']
          exact ⟨i, xs, q2, by simp -dsimp [t9], by simp -dsimp [t10], by simp -dsimp [hn], by simp -dsimp; exact hm, hi0, by simp -dsimp [hi1], by simp -dsimp [hmi], hxl, fun _ => ⟨by rw [hG], q2, rfl, by rw [hG], hq2⟩, by simp [hG]⟩
        subst hc
        have h2 := hf (q2 + 1) (by omega) (by omega)
        have eq1 : ((q2 + 1 : Nat) : Int) = (q2 : Int) + 1 := by omega
        rw [eq1] at h2
        have w1 : IntKind.wrap .i64 ((q2 : Int) + 1) = (q2 : Int) + 1 := w64 (by omega) (by omega)
        have g2 := (hp (Tx.drop (q2 + 1))).1
        rw [List.length_drop] at g2
        have hG2 := level_step (p := p) (sg := 61) (k := 5) (xs := xs) (g := g) (hd) hg2
        rw [d2] at h2 g2
        have hml : more.length = Tx.length - (q2 + 1) := by rw [← d2, List.length_drop]
        rw [← hG] at hG2
        clear hG hd
        generalize hq3 : q2 + 1 = q3 at *
        generalize hL2 : Tx.length - q3 = L2 at *
        simp -dsimp [t0, t2, t8, t10, z0, z1, d1, d3, d4, w1, show IntKind.wrap .i64 0 = 0 from rfl, show IntKind.wrap .i64 1 = 1 from rfl, show IntKind.wrap .i64 2 = 2 from rfl, show IntKind.wrap .i64 3 = 3 from rfl, show IntKind.wrap .i64 4 = 4 from rfl]
        refine callS_ (h2 _ _) ?_
        rintro t m2 n2 ⟨hle2, hout2, i2, ys, next2, rfl, hj0, hj1, hmj, hyl, hok2, hno2⟩
        have hi2 : i < n2 := by omega
        have hmi2 : m2 i = some (.arr 126 (xs.map Mark.v)) := by rw [hout2 i hi1, hmi]
        have f1 := far hi2
        have f2 := far hj1
        have b0 : xs.length * 16 ≤ 140737488355328 := by omega
        have b1 : (xs.length + ys.length) * 16 ≤ 140737488355328 := by omega
        have b2 : (xs.length + ys.length + 1) * 16 ≤ 140737488355328 := by omega
        simp -dsimp [t0, t2, t8, t9, t10, hmu, hmi2, hmj, f1, f2, b0, b1, b2, nes]
        refine ⟨st_out fun s' ht hm' hn' hu' => ?_, ?_⟩
        · have a0 := ht 0
          have a2 := ht 2
          have a8 := ht 8
          have a9 := ht 9
          have a10 := ht 10
          simp -dsimp [t0, t2, t8] at a0 a2 a8 a9 a10 hm' hn' hu'
          clear ht
          refine ⟨_, xs ++ ys ++ [⟨5, 0⟩], next2, a0, a2, a8, a9, a10, by rw [hu', hmu], by omega, fun j hj => ?_, by omega, by omega, ?_, by simp; omega, ?_⟩
          · have e1 : j < n2 := by omega
            have e2 : ¬ j = i := by rintro rfl; omega
            have e3 := far e1
            simp [hm', e2, e3, hout2 j (by omega), hm j hj]
          · simp [hm', nes, Mark.v]
          · exact level_next hG2 g2 hok2 hno2 (by omega) (by omega)
        · have := level_mu (Tx := Tx) g2 hok2 hno2
          generalize (p more).ok = b at *
          simp only [t10, numAt_int, if_neg z0] at this ⊢
          omega
    · rintro s1 ⟨i, xs, next, t9, t10, hn, hm, hi0, hi1, hmi, hxl, hok, hno⟩
      simp -dsimp [t9, t10]
      exact ⟨hn, hm, i, xs, next, rfl, hi0, hi1, hmi, hxl, hok, hno⟩
theorem l2Level_base (Tx : List UInt8) (F : Nat) (p : List UInt8 → R) (hf : SFn 132 Tx F [] p) : SFn 104 Tx F [.v (.int .i64 2)] p := by
  intro q hq hF m n
  have h := hf q hq hF m n
  generalize Tx.length - q = L at *
  generalize p (Tx.drop q) = r at *
  refine FnS_of (rs := [.tmp 6, .tmp 7]) false Tryd.func104 rfl rfl rfl rfl (Nat.le_of_ble_eq_true rfl) ?_
  simp -dsimp
  refine callS_ h ?_
  rintro t m1 n1 ⟨hle, hout, i, xs, next, rfl, hi0, hi1, hmi, hxl, hok, hno⟩
  simp -dsimp
  exact ⟨hle, hout, i, xs, next, rfl, hi0, hi1, hmi, hxl, hok, hno⟩
theorem l2Level_all (Tx : List UInt8) (hS : Tx.length ≤ 1000000) (F : Nat) (hf : SFn 132 Tx F [] (rPart atomS F)) : SFn 104 Tx F [.v (.int .i64 5)] (rSame atomS F) := by
  have hp := rPart_good atomS_good F
  have h3 := l2Level_fn Tx hS F _ 38 3 (.inl ⟨rfl, rfl⟩) hp (l2Level_base Tx F _ hf)
  have g3 := rRow_good hp (sg := 38) (k := 3) (by omega) (by omega) F
  have h4 := l2Level_fn Tx hS F _ 124 4 (.inr (.inl ⟨rfl, rfl⟩)) g3 h3
  have g4 := rRow_good g3 (sg := 124) (k := 4) (by omega) (by omega) F
  exact l2Level_fn Tx hS F _ 61 5 (.inr (.inr ⟨rfl, rfl⟩)) g4 h4
theorem SPost.mk' {Tx : List UInt8} {L : Nat} {r : R} {m m' : Mem} {n n' i : Nat} {next : Int} (xs : List Mark) (h1 : n ≤ n') (h2 : ∀ j, j < n → m' j = m j) (h3 : n ≤ i) (h4 : i < n') (h5 : m' i = some (.arr 126 (xs.map Mark.v))) (h6 : xs.length ≤ L)
    (h7 : r.ok = true → xs = r.ms ∧ ∃ q : Nat, next = q ∧ Tx.drop q = r.rest ∧ q ≤ Tx.length) (h8 : r.ok = false → next = -1) : SPost Tx L m n r (.tup [.loc i, .v (.int .i64 next)]) m' n' := ⟨h1, h2, i, xs, next, rfl, h3, h4, h5, h6, h7, h8⟩
theorem sPart_letter (f : Nat) (c : UInt8) (s : List UInt8) (h1 : 97 ≤ c.toNat) (h2 : c.toNat ≤ 100) : rPart atomS (f + 1) (c :: s) = ⟨[⟨0, (c.toNat : Int) - 97⟩], s, true⟩ := rPart_one _ _ _ _ _ (if_pos ⟨h1, h2⟩)
theorem sPart_digit (f : Nat) (c : UInt8) (s : List UInt8) (h0 : ¬ (97 ≤ c.toNat ∧ c.toNat ≤ 100)) (h1 : 48 ≤ c.toNat) (h2 : c.toNat ≤ 53) : rPart atomS (f + 1) (c :: s) = ⟨[⟨1, (c.toNat : Int) - 48⟩], s, true⟩ := rPart_one _ _ _ _ _ (by unfold atomS; rw [if_neg h0, if_pos ⟨h1, h2⟩])
theorem atomS_none {c : UInt8} (h0 : ¬ (97 ≤ c.toNat ∧ c.toNat ≤ 100)) (h1 : ¬ (48 ≤ c.toNat ∧ c.toNat ≤ 53)) : atomS c = none := by unfold atomS; rw [if_neg h0, if_neg h1]
theorem l2Atom_end (Tx : List UInt8) (hS : Tx.length ≤ 1000000) (m : Mem) (n : Nat) (r : R) (hr : r.ok = false) (L : Nat) : FnS Tryd.prog 132 m n [.v (.str Tx), .v (.int .i64 Tx.length)] (SPost Tx L m n r) := by
  have z0 : ¬ (Tx.length : Int) < 0 := by omega
  refine FnS_of (rs := [.tmp 4, .tmp 5]) false Tryd.func132 rfl rfl rfl rfl (Nat.le_of_ble_eq_true rfl) ?_
  simp -dsimp [z0]
  exact SPost.mk' [] (by omega) (fun j hj => by simp; omega) (by omega) (by omega) (by simp) (by simp) (by simp [hr]) (fun _ => rfl)
theorem l2Atom_fn (Tx : List UInt8) (hS : Tx.length ≤ 1000000) : ∀ F, SFn 132 Tx F [] (rPart atomS F)
  | 0 => fun q hq hF m n => by
    have e : q = Tx.length := by omega
    subst e
    exact l2Atom_end Tx hS m n _ rfl _
  | F + 1 => fun q hq hF m n => by
    by_cases hql : q = Tx.length
    · subst hql
      refine l2Atom_end Tx hS m n _ ?_ _
      rw [List.drop_length]; rfl
    have hlt : q < Tx.length := by omega
    have hd : Tx.drop q = Tx[q] :: Tx.drop (q + 1) := drop_cons hlt
    rw [hd]
    have ih := l2Atom_fn Tx hS F (q + 1) (by omega) (by omega)
    have hSm := l2Level_all Tx hS F (l2Atom_fn Tx hS F) (q + 1) (by omega) (by omega)
    have eq1 : ((q + 1 : Nat) : Int) = (q : Int) + 1 := by omega
    rw [eq1] at ih hSm
    have gS : (rSame atomS F (Tx.drop (q + 1))).ms.length + (rSame atomS F (Tx.drop (q + 1))).rest.length ≤ (Tx.drop (q + 1)).length := (rRow_good (rRow_good (rRow_good (rPart_good atomS_good F) (sg := 38) (k := 3) (by omega) (by omega) F) (sg := 124) (k := 4) (by omega) (by omega) F) (sg := 61) (k := 5) (by omega) (by omega) F _).1
    rw [List.length_drop] at gS
    have hlt8 := UInt8.toNat_lt Tx[q]
    have z0 : ¬ (q : Int) < 0 := by omega
    have z1 : ¬ (Tx.length : Int) ≤ (q : Int) := by omega
    have z2 : ¬ Tx.length ≤ q := by omega
    have w1 : IntKind.wrap .i64 ((q : Int) + 1) = (q : Int) + 1 := w64 (by omega) (by omega)
    have hL1 : Tx.length - q = Tx.length - (q + 1) + 1 := by omega
    rw [hL1]
    generalize hc : Tx[q] = c at *
    generalize hs : Tx.drop (q + 1) = s at *
    generalize hL2 : Tx.length - (q + 1) = L at *
    have hq1 : q + 1 ≤ Tx.length := by omega
    by_cases hlet : 97 ≤ c.toNat ∧ c.toNat ≤ 100
    · have i1 : (97 : Int) ≤ c.toNat := by omega
      have i2 : (c.toNat : Int) ≤ 100 := by omega
      have v1 : IntKind.wrap .u8 ((c.toNat : Int) - 97) = (c.toNat : Int) - 97 := by rw [IntKind.wrap_u8]; omega
      have v2 : IntKind.wrap .i64 ((c.toNat : Int) - 97) = (c.toNat : Int) - 97 := w64 (by omega) (by omega)
      rw [sPart_letter F c s hlet.1 hlet.2]
      refine FnS_of (rs := [.tmp 4, .tmp 5]) false Tryd.func132 rfl rfl rfl rfl (Nat.le_of_ble_eq_true rfl) ?_
      simp -dsimp [z0, z1, z2, hlt, hc, i1, i2, v1, v2, w1]
      exact SPost.mk' [⟨0, (c.toNat : Int) - 97⟩] (by omega) (fun j hj => by simp; omega) (by omega) (by omega) (by simp [Mark.v]) (by simp) (fun _ => ⟨rfl, q + 1, by omega, hs, hq1⟩) (by simp)
    by_cases hdig : 48 ≤ c.toNat ∧ c.toNat ≤ 53
    · have i1 : (48 : Int) ≤ c.toNat := by omega
      have i2 : (c.toNat : Int) ≤ 53 := by omega
      have i3 : ¬ (97 : Int) ≤ c.toNat := by omega
      have v1 : IntKind.wrap .u8 ((c.toNat : Int) - 48) = (c.toNat : Int) - 48 := by rw [IntKind.wrap_u8]; omega
      have v2 : IntKind.wrap .i64 ((c.toNat : Int) - 48) = (c.toNat : Int) - 48 := w64 (by omega) (by omega)
      rw [sPart_digit F c s hlet hdig.1 hdig.2]
      refine FnS_of (rs := [.tmp 4, .tmp 5]) false Tryd.func132 rfl rfl rfl rfl (Nat.le_of_ble_eq_true rfl) ?_
      simp -dsimp [z0, z1, z2, hlt, hc, i1, i2, i3, v1, v2, w1]
      exact SPost.mk' [⟨1, (c.toNat : Int) - 48⟩] (by omega) (fun j hj => by simp; omega) (by omega) (by omega) (by simp [Mark.v]) (by simp) (fun _ => ⟨rfl, q + 1, by omega, hs, hq1⟩) (by simp)
    have hA := atomS_none hlet hdig
    by_cases h33 : c = 33
    · subst h33
      have ePart := rPart_not atomS F s rfl
      rw [ePart]
      refine FnS_of (rs := [.tmp 4, .tmp 5]) false Tryd.func132 rfl rfl rfl rfl (Nat.le_of_ble_eq_true rfl) ?_
      simp -dsimp [z0, z1, z2, hlt, hc, w1]
      refine callS_ (ih _ _) ?_
      rintro t m2 n2 ⟨hle2, hout2, i2, xs, next2, rfl, hj0, hj1, hmj, hyl, hok2, hno2⟩
      have f2 := far hj1
      have b0 : xs.length * 16 ≤ 140737488355328 := by omega
      have b1 : (xs.length + 1) * 16 ≤ 140737488355328 := by omega
      simp -dsimp [hmj, f2, b0, b1, nes]
      refine SPost.mk' (xs ++ [⟨2, 0⟩]) (by omega) (fun j hj => ?_) (by omega) (by omega) (by simp [Mark.v, nes]) (by simp; omega) (fun h => ?_) hno2
      · have f3 := far (show j < n2 by omega)
        have hj' : j < n := hj
        have f4 : ¬ j = i2 := by omega
        simp [f3, f4, hout2 j hj]
      · obtain ⟨e1, e2⟩ := hok2 h
        exact ⟨by rw [e1], e2⟩
    by_cases h40 : c = 40
    · subst h40
      have ePart := rPart_open atomS F s rfl
      rw [ePart]
      have hb := ft (rSame atomS F s).ok
      rcases hb with hb | hb
      · refine FnS_of (rs := [.tmp 4, .tmp 5]) false Tryd.func132 rfl rfl rfl rfl (Nat.le_of_ble_eq_true rfl) ?_
        simp -dsimp [z0, z1, z2, hlt, hc, w1]
        refine callS_ (hSm _ _) ?_
        rintro t m2 n2 ⟨hle2, hout2, i2, xs, next2, rfl, hj0, hj1, hmj, hyl, hok2, hno2⟩
        have hn1 := hno2 hb
        have esh : (shut (rSame atomS F s)).ok = false := by
          unfold shut; split
          · rfl
          · split
            · exact hb
            · rfl
        simp -dsimp [hn1]
        refine SPost.mk' [] (by omega) (fun j hj => ?_) (by omega) (by omega) (by simp) (by simp) (by simp [esh]) (fun _ => rfl)
        have f3 := far (show j < n2 by omega)
        simp [f3, hout2 j hj]
      cases hr : (rSame atomS F s).rest with
      | nil =>
        have esh : (shut (rSame atomS F s)).ok = false := by unfold shut; rw [hr]
        refine FnS_of (rs := [.tmp 4, .tmp 5]) false Tryd.func132 rfl rfl rfl rfl (Nat.le_of_ble_eq_true rfl) ?_
        simp -dsimp [z0, z1, z2, hlt, hc, w1]
        refine callS_ (hSm _ _) ?_
        rintro t m2 n2 ⟨hle2, hout2, i2, xs, next2, rfl, hj0, hj1, hmj, hyl, hok2, hno2⟩
        refine (hok2 hb).2.elim fun q3 hq => ?_
        have e1 := hq.1
        have e2 := hq.2.1
        have e3 := hq.2.2
        have hq3 : q3 = Tx.length := by
          have e4 := congrArg List.length e2
          rw [hr, List.length_drop] at e4
          simp at e4; omega
        have y0 : ¬ (q3 : Int) < 0 := by omega
        have y1 : (Tx.length : Int) ≤ (q3 : Int) := by omega
        have y2 : Tx.length ≤ q3 := by omega
        simp -dsimp [e1, y0, y1, y2]
        refine SPost.mk' [] (by omega) (fun j hj => ?_) (by omega) (by omega) (by simp) (by simp) (by simp [esh]) (fun _ => rfl)
        have f3 := far (show j < n2 by omega)
        simp [f3, hout2 j hj]
      | cons x r =>
        have esh : shut (rSame atomS F s) = if x = 41 then ⟨(rSame atomS F s).ms, r, true⟩ else ⟨(rSame atomS F s).ms, x :: r, false⟩ := by unfold shut; rw [hr, hb]
        rw [esh]
        by_cases hx : x = 41
        · subst hx
          rw [if_pos rfl]
          refine FnS_of (rs := [.tmp 4, .tmp 5]) false Tryd.func132 rfl rfl rfl rfl (Nat.le_of_ble_eq_true rfl) ?_
          simp -dsimp [z0, z1, z2, hlt, hc, w1]
          refine callS_ (hSm _ _) ?_
          rintro t m2 n2 ⟨hle2, hout2, i2, xs, next2, rfl, hj0, hj1, hmj, hyl, hok2, hno2⟩
          have hms := (hok2 hb).1
          refine (hok2 hb).2.elim fun q3 hq => ?_
          have e1 := hq.1
          have e2 := hq.2.1
          have e3 := hq.2.2
          have e4 : Tx.drop q3 = 41 :: r := e2.trans hr
          have d1 := (drop_one e4).1
          have d2 := (drop_one e4).2.1
          have d3 := (drop_one e4).2.2
          have d4 : Tx[q3] = 41 := by have h := d1; rw [List.getElem?_eq_getElem d3] at h; exact Option.some.inj h
          have y0 : ¬ (q3 : Int) < 0 := by omega
          have y1 : ¬ (Tx.length : Int) ≤ (q3 : Int) := by omega
          have y2 : ¬ Tx.length ≤ q3 := by omega
          have v1 : IntKind.wrap .i64 ((q3 : Int) + 1) = (q3 : Int) + 1 := w64 (by omega) (by omega)
          simp -dsimp [e1, y0, y1, y2, d3, d4, v1]
          exact SPost.mk' xs (by omega) hout2 (by omega) (by omega) hmj (by omega) (fun _ => ⟨hms, q3 + 1, by omega, d2, by omega⟩) (by simp)
        · have hx' : ¬ (x.toNat : Int) = 41 := fun h => hx (UInt8.toNat.inj (by show x.toNat = 41; omega))
          rw [if_neg hx]
          refine FnS_of (rs := [.tmp 4, .tmp 5]) false Tryd.func132 rfl rfl rfl rfl (Nat.le_of_ble_eq_true rfl) ?_
          simp -dsimp [z0, z1, z2, hlt, hc, w1]
          refine callS_ (hSm _ _) ?_
          rintro t m2 n2 ⟨hle2, hout2, i2, xs, next2, rfl, hj0, hj1, hmj, hyl, hok2, hno2⟩
          refine (hok2 hb).2.elim fun q3 hq => ?_
          have e1 := hq.1
          have e2 := hq.2.1
          have e3 := hq.2.2
          have e4 : Tx.drop q3 = x :: r := e2.trans hr
          have d1 := (drop_one e4).1
          have d3 := (drop_one e4).2.2
          have d4 : Tx[q3] = x := by have h := d1; rw [List.getElem?_eq_getElem d3] at h; exact Option.some.inj h
          have y0 : ¬ (q3 : Int) < 0 := by omega
          have y1 : ¬ (Tx.length : Int) ≤ (q3 : Int) := by omega
          have y2 : ¬ Tx.length ≤ q3 := by omega
          simp -dsimp [e1, y0, y1, y2, d3, d4, hx']
          refine SPost.mk' [] (by omega) (fun j hj => ?_) (by omega) (by omega) (by simp) (by simp) (by simp) (fun _ => rfl)
          have f3 := far (show j < n2 by omega)
          simp [f3, hout2 j hj]
    have eElse := rPart_else atomS F c s hA h33 h40
    rw [eElse]
    have k33 : ¬ (c.toNat : Int) = 33 := fun h => h33 (UInt8.toNat.inj (by show c.toNat = 33; omega))
    have k40 : ¬ (c.toNat : Int) = 40 := fun h => h40 (UInt8.toNat.inj (by show c.toNat = 40; omega))
    have three : ((¬ (97 : Int) ≤ c.toNat) ∧ ¬ (48 : Int) ≤ c.toNat) ∨ ((¬ (97 : Int) ≤ c.toNat) ∧ (48 : Int) ≤ c.toNat ∧ ¬ (c.toNat : Int) ≤ 53) ∨ ((97 : Int) ≤ c.toNat ∧ (¬ (c.toNat : Int) ≤ 100) ∧ (48 : Int) ≤ c.toNat ∧ ¬ (c.toNat : Int) ≤ 53) := by omega
    rcases three with ⟨h1, h2⟩ | ⟨h1, h2, h3⟩ | ⟨h1, h2, h3, h4⟩
    · refine FnS_of (rs := [.tmp 4, .tmp 5]) false Tryd.func132 rfl rfl rfl rfl (Nat.le_of_ble_eq_true rfl) ?_
      simp -dsimp [z0, z1, z2, hlt, hc, h1, h2, k33, k40]
      exact SPost.mk' [] (by omega) (fun j hj => by simp; omega) (by omega) (by omega) (by simp) (by simp) (by simp) (fun _ => rfl)
    · refine FnS_of (rs := [.tmp 4, .tmp 5]) false Tryd.func132 rfl rfl rfl rfl (Nat.le_of_ble_eq_true rfl) ?_
      simp -dsimp [z0, z1, z2, hlt, hc, h1, h2, h3, k33, k40]
      exact SPost.mk' [] (by omega) (fun j hj => by simp; omega) (by omega) (by omega) (by simp) (by simp) (by simp) (fun _ => rfl)
    · refine FnS_of (rs := [.tmp 4, .tmp 5]) false Tryd.func132 rfl rfl rfl rfl (Nat.le_of_ble_eq_true rfl) ?_
      simp -dsimp [z0, z1, z2, hlt, hc, h1, h2, h3, h4, k33, k40]
      exact SPost.mk' [] (by omega) (fun j hj => by simp; omega) (by omega) (by omega) (by simp) (by simp) (by simp) (fun _ => rfl)
end TL

/- Reading terms and claims: the reference. -/
set_option linter.unusedSimpArgs false
set_option linter.unusedVariables false
set_option maxRecDepth 100000
set_option maxHeartbeats 4000000
set_option pp.maxSteps 1500
namespace TL
open Go Go.Proofs
attribute [local simp] marksV storyV codeV Claim.v Place.v
theorem good_fits {ms : List Mark} (h : ∀ m ∈ ms, 0 ≤ m.kind ∧ m.kind ≤ 5 ∧ 0 ≤ m.num ∧ m.num ≤ 1000) : fits ms := fun m hm => by
  obtain ⟨h1, h2, h3, h4⟩ := h m hm
  exact ⟨⟨by omega, by omega⟩, ⟨by omega, by omega⟩⟩
theorem rSame_good {A : UInt8 → Option Mark} (hA : ∀ c m, A c = some m → 0 ≤ m.kind ∧ m.kind ≤ 5 ∧ 0 ≤ m.num ∧ m.num ≤ 1000) (F : Nat) : good (rSame A F) :=
  rRow_good (rRow_good (rRow_good (rPart_good hA F) (sg := 38) (k := 3) (by omega) (by omega) F) (sg := 124) (k := 4) (by omega) (by omega) F) (sg := 61) (k := 5) (by omega) (by omega) F
theorem Tm.nums : ∀ T : Tm, T.ok → ∀ m ∈ T.marks, 0 ≤ m.num ∧ m.num ≤ 5
  | .tells i, h, m, hm => by simp [marks] at hm; subst hm; simp; have : i < 4 := h; omega
  | .count n, h, m, hm => by simp [marks] at hm; subst hm; simp; have : n < 6 := h; omega
  | .not a, h, m, hm => by
    simp only [marks, List.mem_append, List.mem_singleton] at hm
    rcases hm with hm | rfl
    · exact a.nums h m hm
    · simp
  | .bin k a b, h, m, hm => by
    simp only [marks, List.mem_append, List.mem_singleton] at hm
    rcases hm with (hm | hm) | rfl
    · exact a.nums h.2.1 m hm
    · exact b.nums h.2.2 m hm
    · simp
theorem termOk_fits {people : Int} {t : List Mark} (h : termOk people t = true) : fits t := by
  obtain ⟨T, h1, h2, _⟩ := termText_tree h
  subst h2
  intro m hm
  obtain ⟨a1, a2⟩ := T.kinds h1 m hm
  obtain ⟨b1, b2⟩ := T.nums h1 m hm
  exact ⟨⟨by omega, by omega⟩, ⟨by omega, by omega⟩⟩
theorem readTermS_fn (people : Int) (s : List UInt8) : FnZ Tryd.prog 81 [.int .i64 people, .str s] (optV (readT people s)) := by
  by_cases h60 : s.length ≤ 60
  case neg =>
    have h : 60 < s.length := by omega
    have h' : (60 : Int) < s.length := by omega
    rw [readT_long h]
    refine FnZ_of (rs := [.tmp 4, .tmp 5]) false Tryd.func81 rfl rfl rfl rfl (Nat.le_of_ble_eq_true rfl) ?_
    simp -dsimp [h', optV]
  rw [readT_code atomS_ok h60]
  have hS := l2Level_all s (by omega) s.length (l2Atom_fn s (by omega) s.length) 0 (by omega) (by omega)
  have hgood := rSame_good atomS_good s.length s
  rw [List.drop_zero] at hS
  have hl60 : ¬ (60 : Int) < s.length := by omega
  generalize rSame atomS s.length s = r at *
  obtain ⟨ms, rest, ok⟩ := r
  simp only at hgood
  have hmsl : ms.length ≤ 60 := by have := hgood.1; omega
  have htS := termOkS_fn people ms (good_fits hgood.2) (by omega)
  have hl0 : s.length - 0 = s.length := rfl
  rw [hl0] at hS
  cases ok with
  | false =>
    have hne : ¬ (-1 : Int) = (s.length : Int) := by omega
    refine FnZ_of (rs := [.tmp 4, .tmp 5]) false Tryd.func81 rfl rfl rfl rfl (Nat.le_of_ble_eq_true rfl) ?_
    simp -dsimp [hl60]
    refine callS_ (hS _ _) ?_
    rintro t m2 n2 ⟨hle2, hout2, i2, xs, next2, rfl, hj0, hj1, hmj, hyl, hok2, hno2⟩
    have e1 := hno2 rfl
    simp -dsimp [e1, hne, optV]
  | true =>
    by_cases hr : rest = []
    case neg =>
      refine FnZ_of (rs := [.tmp 4, .tmp 5]) false Tryd.func81 rfl rfl rfl rfl (Nat.le_of_ble_eq_true rfl) ?_
      simp -dsimp [hl60]
      refine callS_ (hS _ _) ?_
      rintro t m2 n2 ⟨hle2, hout2, i2, xs, next2, rfl, hj0, hj1, hmj, hyl, hok2, hno2⟩
      refine (hok2 rfl).2.elim fun q3 hq => ?_
      have e1 := hq.1
      have e2 : s.drop q3 = rest := hq.2.1
      have hne0 : ¬ q3 = s.length := by intro h; rw [h, List.drop_length] at e2; exact hr e2.symm
      have hne : ¬ (q3 : Int) = (s.length : Int) := by omega
      simp -dsimp [e1, hne, hr, optV]
    subst hr
    have hk := ft (termOk people ms)
    rcases hk with hk | hk
    · refine FnZ_of (rs := [.tmp 4, .tmp 5]) false Tryd.func81 rfl rfl rfl rfl (Nat.le_of_ble_eq_true rfl) ?_
      simp -dsimp [hl60]
      refine callS_ (hS _ _) ?_
      rintro t m2 n2 ⟨hle2, hout2, i2, xs, next2, rfl, hj0, hj1, hmj, hyl, hok2, hno2⟩
      refine (hok2 rfl).2.elim fun q3 hq => ?_
      have e0 : xs = ms := (hok2 rfl).1
      have e1 := hq.1
      have e2 : s.drop q3 = [] := hq.2.1
      have e3 := hq.2.2
      have hq3 : q3 = s.length := by have := congrArg List.length e2; rw [List.length_drop] at this; simp at this; omega
      simp -dsimp [e1, hq3]
      refine call_ htS (by simp -dsimp [hmj, e0]) ?_
      simp -dsimp [hk, optV]
    · obtain ⟨T, h1, h2, h3⟩ := termText_tree hk
      have hT := l2Text_fn T h1 (by rw [h2]; omega)
      rw [h2, h3] at hT
      by_cases he : termText people ms = s
      · refine FnZ_of (rs := [.tmp 4, .tmp 5]) false Tryd.func81 rfl rfl rfl rfl (Nat.le_of_ble_eq_true rfl) ?_
        simp -dsimp [hl60]
        refine callS_ (hS _ _) ?_
        rintro t m2 n2 ⟨hle2, hout2, i2, xs, next2, rfl, hj0, hj1, hmj, hyl, hok2, hno2⟩
        refine (hok2 rfl).2.elim fun q3 hq => ?_
        have e0 : xs = ms := (hok2 rfl).1
        have e1 := hq.1
        have e2 : s.drop q3 = [] := hq.2.1
        have e3 := hq.2.2
        have hq3 : q3 = s.length := by have := congrArg List.length e2; rw [List.length_drop] at this; simp at this; omega
        simp -dsimp [e1, hq3]
        refine call_ htS (by simp -dsimp [hmj, e0]) ?_
        simp -dsimp [hk]
        refine call_ hT (by simp -dsimp [hmj, e0]) ?_
        simp -dsimp [he, hk, hmj, e0, optV]
      · refine FnZ_of (rs := [.tmp 4, .tmp 5]) false Tryd.func81 rfl rfl rfl rfl (Nat.le_of_ble_eq_true rfl) ?_
        simp -dsimp [hl60]
        refine callS_ (hS _ _) ?_
        rintro t m2 n2 ⟨hle2, hout2, i2, xs, next2, rfl, hj0, hj1, hmj, hyl, hok2, hno2⟩
        refine (hok2 rfl).2.elim fun q3 hq => ?_
        have e0 : xs = ms := (hok2 rfl).1
        have e1 := hq.1
        have e2 : s.drop q3 = [] := hq.2.1
        have e3 := hq.2.2
        have hq3 : q3 = s.length := by have := congrArg List.length e2; rw [List.length_drop] at this; simp at this; omega
        simp -dsimp [e1, hq3]
        refine call_ htS (by simp -dsimp [hmj, e0]) ?_
        simp -dsimp [hk]
        refine call_ hT (by simp -dsimp [hmj, e0]) ?_
        simp -dsimp [he, hk, optV]
theorem readClaimS_fn (people : Int) (s : List UInt8) (hl : s.length ≤ 2000000000) : FnZ Tryd.prog 55 [.int .i64 people, .str s] (optC (readC people s)) := by
  by_cases h3 : s.length < 3
  · have zero : readC people s = none := by
      cases e : readC people s with
      | none => rfl
      | some c => have := readC_is e; have := (claimTx_len this.1).1; rw [(readC_is e).2] at this; omega
    have h3' : (s.length : Int) < 3 := by omega
    rw [zero]
    refine FnZ_of (rs := [.cell 4 80, .tmp 5]) false Tryd.func55 rfl rfl rfl rfl (Nat.le_of_ble_eq_true rfl) ?_
    simp -dsimp [h3', optC]
  match s, h3, hl with
  | [], h3, hl => simp at h3
  | [a], h3, hl => simp at h3
  | a :: b :: s, h3, hl =>
    have h3' : ¬ ((s.length : Int) + 1 + 1 < 3) := by simp at h3; omega
    have l2 : (2 : Int) ≤ (s.length : Int) + 1 + 1 := by omega
    have l3 : ((s.length : Int) + 1 + 1).toNat = s.length + 1 + 1 := by omega
    have hlt := UInt8.toNat_lt a
    have w1 : IntKind.wrap .i64 ((a.toNat : Int) - 97) = (a.toNat : Int) - 97 := w64 (by omega) (by omega)
    have w2 : IntKind.wrap .i64 (a.toNat : Int) = (a.toNat : Int) := w64 (by omega) (by omega)
    have ht := readTermS_fn people s
    have e : readC people (a :: b :: s) = if b = 58 then (readT people s).bind fun t => if claimOk people ⟨(a.toNat : Int) - 97, t⟩ = true then some ⟨(a.toNat : Int) - 97, t⟩ else none else none := rfl
    have his : ∀ t, readT people s = some t → s.length ≤ 60 ∧ termOk people t = true ∧ termText people t = s := fun t h => readT_is h
    rw [e]
    generalize readT people s = o at *
    cases o with
    | none =>
      have e2 : (if b = 58 then (none : Option (List Mark)).bind (fun t => if claimOk people ⟨(a.toNat : Int) - 97, t⟩ = true then some (⟨(a.toNat : Int) - 97, t⟩ : Claim) else none) else none) = none := by split <;> rfl
      rw [e2]
      refine FnZ_of (rs := [.cell 4 80, .tmp 5]) false Tryd.func55 rfl rfl rfl rfl (Nat.le_of_ble_eq_true rfl) ?_
      simp -dsimp [h3', l2, l3]
      refine call_ ht (by simp -dsimp) ?_
      simp -dsimp [optV, w1, w2, optC]
    | some t =>
      obtain ⟨g1, g2, g3⟩ := his t rfl
      have gl := (termOk_len g2).2.1
      rw [Option.bind_some]
      have hfine : (⟨(a.toNat : Int) - 97, t⟩ : Claim).fine := by
        exact ⟨termOk_fits g2, by simp only; omega⟩
      have hct := claimTxS_fn people ⟨(a.toNat : Int) - 97, t⟩ hfine
      have hk := ft (claimOk people ⟨(a.toNat : Int) - 97, t⟩)
      rcases hk with hk | hk
      · have e2 : (if b = 58 then (if claimOk people ⟨(a.toNat : Int) - 97, t⟩ = true then some (⟨(a.toNat : Int) - 97, t⟩ : Claim) else none) else none) = none := by split <;> simp [hk]
        have e3 : claimTx people ⟨(a.toNat : Int) - 97, t⟩ = [] := by unfold claimTx; rw [if_neg (by simp [hk])]
        rw [e3] at hct
        rw [e2]
        refine FnZ_of (rs := [.cell 4 80, .tmp 5]) false Tryd.func55 rfl rfl rfl rfl (Nat.le_of_ble_eq_true rfl) ?_
        simp -dsimp [h3', l2, l3]
        refine call_ ht (by simp -dsimp) ?_
        simp -dsimp [optV, w1, w2]
        refine call_ hct (by simp -dsimp) ?_
        simp -dsimp [optC]
      · have hwho := (claimOk_all hk).2.2.1
        have e3 : claimTx people ⟨(a.toNat : Int) - 97, t⟩ = a :: 58 :: s := by
          unfold claimTx; rw [if_pos hk, letter_fwd a _ rfl hwho, g3]
        rw [e3] at hct
        by_cases hb : b = 58
        · subst hb
          rw [if_pos rfl, if_pos hk]
          refine FnZ_of (rs := [.cell 4 80, .tmp 5]) false Tryd.func55 rfl rfl rfl rfl (Nat.le_of_ble_eq_true rfl) ?_
          simp -dsimp [h3', l2, l3]
          refine call_ ht (by simp -dsimp) ?_
          simp -dsimp [optV, w1, w2]
          refine call_ hct (by simp -dsimp) ?_
          simp -dsimp [optC]
        · have hb' : ¬ 58 = b := fun h => hb h.symm
          rw [if_neg hb]
          refine FnZ_of (rs := [.cell 4 80, .tmp 5]) false Tryd.func55 rfl rfl rfl rfl (Nat.le_of_ble_eq_true rfl) ?_
          simp -dsimp [h3', l2, l3]
          refine call_ ht (by simp -dsimp) ?_
          simp -dsimp [optV, w1, w2]
          refine call_ hct (by simp -dsimp) ?_
          simp -dsimp [hb, hb', optC]
end TL
