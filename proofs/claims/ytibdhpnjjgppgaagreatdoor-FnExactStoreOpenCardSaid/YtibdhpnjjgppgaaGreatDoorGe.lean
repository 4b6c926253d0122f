/- TL: parts FnsR1, FnsR2, FnsR5, FnsU, FnsW, Fns9, FnsX, FnsR3, TlRow. -/
import Derived.Test.YtibdhpnjjgppgaaGreatDoorGd
import Derived.Test.YtibdhpnjjgppgaaGreatDoorGc
/- Reading terms: the plain part. -/
set_option linter.unusedSimpArgs false
set_option linter.unusedVariables false
set_option maxRecDepth 100000
namespace TL
/-- What a reader has read: marks, what is left, whether it was one. -/
structure R where
  ms : List Mark
  rest : List UInt8
  ok : Bool
def rLoop (p : List UInt8 → R) (sg : UInt8) (k : Int) : Nat → List Mark → List UInt8 → R
  | 0, t, s => ⟨t, s, true⟩
  | _ + 1, t, [] => ⟨t, [], true⟩
  | g + 1, t, c :: more => if c = sg then (if (p more).ok = true then rLoop p sg k g (t ++ (p more).ms ++ [⟨k, 0⟩]) (p more).rest else ⟨[], (p more).rest, false⟩) else ⟨t, c :: more, true⟩
def rRow (p : List UInt8 → R) (sg : UInt8) (k : Int) (g : Nat) (s : List UInt8) : R := if (p s).ok = true then rLoop p sg k g (p s).ms (p s).rest else ⟨[], (p s).rest, false⟩
def shut (r : R) : R := match r.rest with
  | [] => ⟨r.ms, [], false⟩
  | c :: q => if c = 41 then ⟨r.ms, q, r.ok⟩ else ⟨r.ms, c :: q, false⟩
def rPart (A : UInt8 → Option Mark) : Nat → List UInt8 → R
  | 0, s => ⟨[], s, false⟩
  | _ + 1, [] => ⟨[], [], false⟩
  | f + 1, c :: s => match A c with
    | some m => ⟨[m], s, true⟩
    | none => if c = 33 then ⟨(rPart A f s).ms ++ [⟨2, 0⟩], (rPart A f s).rest, (rPart A f s).ok⟩
      else if c = 40 then shut (rRow (rRow (rRow (rPart A f) 38 3 f) 124 4 f) 61 5 f s)
      else ⟨[], c :: s, false⟩
def rAnd (A : UInt8 → Option Mark) (f : Nat) (s : List UInt8) : R := rRow (rPart A f) 38 3 f s
def rOr (A : UInt8 → Option Mark) (f : Nat) (s : List UInt8) : R := rRow (rAnd A f) 124 4 f s
def rSame (A : UInt8 → Option Mark) (f : Nat) (s : List UInt8) : R := rRow (rOr A f) 61 5 f s
theorem rPart_open (A : UInt8 → Option Mark) (f : Nat) (s : List UInt8) (h : A 40 = none) : rPart A (f + 1) (40 :: s) = shut (rSame A f s) := by
  show (match A 40 with
    | some m => _
    | none => _) = _
  rw [h]; rfl
theorem rPart_not (A : UInt8 → Option Mark) (f : Nat) (s : List UInt8) (h : A 33 = none) : rPart A (f + 1) (33 :: s) = ⟨(rPart A f s).ms ++ [⟨2, 0⟩], (rPart A f s).rest, (rPart A f s).ok⟩ := by
  show (match A 33 with
    | some m => _
    | none => _) = _
  rw [h]; rfl
theorem rPart_one (A : UInt8 → Option Mark) (f : Nat) (c : UInt8) (s : List UInt8) (m : Mark) (h : A c = some m) : rPart A (f + 1) (c :: s) = ⟨[m], s, true⟩ := by
  show (match A c with
    | some m => _
    | none => _) = _
  rw [h]
/-! How much is read, and what marks there are. -/
def good (p : List UInt8 → R) : Prop := ∀ s, (p s).ms.length + (p s).rest.length ≤ s.length ∧ ∀ m ∈ (p s).ms, 0 ≤ m.kind ∧ m.kind ≤ 5 ∧ 0 ≤ m.num ∧ m.num ≤ 1000
theorem rLoop_good {p : List UInt8 → R} (hp : good p) {sg : UInt8} {k : Int} (h0 : 0 ≤ k) (h5 : k ≤ 5) : ∀ (g : Nat) (t : List Mark) (s : List UInt8), (∀ m ∈ t, 0 ≤ m.kind ∧ m.kind ≤ 5 ∧ 0 ≤ m.num ∧ m.num ≤ 1000) →
    (rLoop p sg k g t s).ms.length + (rLoop p sg k g t s).rest.length ≤ t.length + s.length ∧ ∀ m ∈ (rLoop p sg k g t s).ms, 0 ≤ m.kind ∧ m.kind ≤ 5 ∧ 0 ≤ m.num ∧ m.num ≤ 1000
  | 0, t, s, h => ⟨by simp [rLoop], h⟩
  | g + 1, t, [], h => ⟨by simp [rLoop], h⟩
  | g + 1, t, c :: more, h => by
    simp only [rLoop]
    have := (hp more).1
    split
    · split
      · have ih := rLoop_good hp (sg := sg) h0 h5 g (t ++ (p more).ms ++ [⟨k, 0⟩]) (p more).rest (fun m hm => by
          rcases List.mem_append.1 hm with hm | hm
          · rcases List.mem_append.1 hm with hm | hm
            · exact h m hm
            · exact (hp more).2 m hm
          · cases List.mem_singleton.1 hm; exact ⟨h0, h5, by simp, by simp⟩)
        refine ⟨?_, ih.2⟩
        have := ih.1
        simp at this ⊢; omega
      · refine ⟨by simp; omega, by simp⟩
    · exact ⟨by simp, h⟩
theorem rRow_good {p : List UInt8 → R} (hp : good p) {sg : UInt8} {k : Int} (h0 : 0 ≤ k) (h5 : k ≤ 5) (g : Nat) : good (rRow p sg k g) := fun s => by
  have := hp s
  unfold rRow
  split
  · have h := rLoop_good hp (sg := sg) h0 h5 g (p s).ms (p s).rest this.2
    exact ⟨by omega, h.2⟩
  · exact ⟨by simp; omega, by simp⟩
theorem shut_good {r : R} {n : Nat} (h : r.ms.length + r.rest.length ≤ n) : (shut r).ms.length + (shut r).rest.length ≤ n ∧ (shut r).ms = r.ms := by
  unfold shut
  split
  · rename_i e; rw [e] at h; exact ⟨by simpa using h, rfl⟩
  · rename_i e; rw [e] at h
    split
    · exact ⟨by simp at h ⊢; omega, rfl⟩
    · exact ⟨by simpa using h, rfl⟩
theorem rPart_good {A : UInt8 → Option Mark} (hA : ∀ c m, A c = some m → 0 ≤ m.kind ∧ m.kind ≤ 5 ∧ 0 ≤ m.num ∧ m.num ≤ 1000) : ∀ f, good (rPart A f)
  | 0 => fun s => ⟨by simp [rPart], by simp [rPart]⟩
  | f + 1 => fun s => by
    have ih := rPart_good hA f
    cases s with
    | nil => exact ⟨by simp [rPart], by simp [rPart]⟩
    | cons c s =>
      simp only [rPart]
      split
      · rename_i m e; exact ⟨by simp; omega, fun x hx => by cases List.mem_singleton.1 hx; exact hA c m e⟩
      split
      · have := ih s
        refine ⟨by simp; omega, fun x hx => ?_⟩
        rcases List.mem_append.1 hx with hx | hx
        · exact this.2 x hx
        · cases List.mem_singleton.1 hx; simp
      split
      · have g3 := rRow_good (rRow_good (rRow_good ih (sg := 38) (k := 3) (by omega) (by omega) f) (sg := 124) (k := 4) (by omega) (by omega) f) (sg := 61) (k := 5) (by omega) (by omega) f s
        have h := shut_good (n := s.length) g3.1
        refine ⟨by simp only [List.length_cons]; omega, ?_⟩
        rw [h.2]; exact g3.2
      · exact ⟨by simp, by simp⟩
/-! What was written is read. -/
def noHead (sg : UInt8) (r : List UInt8) : Prop := r.head? ≠ some sg
theorem rLoop_stop {p : List UInt8 → R} {sg : UInt8} {k : Int} (g : Nat) (t : List Mark) {r : List UInt8} (h : noHead sg r) : rLoop p sg k g t r = ⟨t, r, true⟩ := by
  cases g with
  | zero => rfl
  | succ g =>
    cases r with
    | nil => rfl
    | cons c r => simp only [rLoop]; rw [if_neg (fun e => h (by rw [e]; rfl))]
theorem rLoop_step {p : List UInt8 → R} {sg : UInt8} {k : Int} {g : Nat} {t u : List Mark} {s r : List UInt8} (hg : (sg :: s).length ≤ g) (hr : r.length ≤ s.length) (h : p s = ⟨u, r, true⟩) :
    ∃ g', r.length ≤ g' ∧ rLoop p sg k g t (sg :: s) = rLoop p sg k g' (t ++ u ++ [⟨k, 0⟩]) r := by
  cases g with
  | zero => simp at hg
  | succ g =>
    refine ⟨g, by simp at hg; omega, ?_⟩
    simp only [rLoop, if_true, h]
theorem rRow_up {p : List UInt8 → R} {sg : UInt8} {k : Int} {g : Nat} {t : List Mark} {s r : List UInt8} (h : p s = ⟨t, r, true⟩) : rRow p sg k g s = rLoop p sg k g t r := by
  unfold rRow; rw [h]; rfl
structure AOk (A : UInt8 → Option Mark) : Prop where
  letter : ∀ i : Nat, i < 4 → A (UInt8.ofNat (97 + i)) = some ⟨0, i⟩
  digit : ∀ i : Nat, i < 6 → A (UInt8.ofNat (48 + i)) = some ⟨1, i⟩
  bang : A 33 = none
  brak : A 40 = none
/-- How a text is read at each level. -/
structure RT (A : UInt8 → Option Mark) (T : Tm) (s : List UInt8) (b : Bool) : Prop where
  l0 : ∀ f r, (s ++ r).length ≤ f → (b = false → T.kind ≤ 2) → rPart A f (s ++ r) = ⟨T.marks, r, true⟩
  l1 : ∀ f r, (s ++ r).length ≤ f → (b = false → T.kind ≤ 3) → ∃ g, r.length ≤ g ∧ rAnd A f (s ++ r) = rLoop (rPart A f) 38 3 g T.marks r
  l2 : ∀ f r, (s ++ r).length ≤ f → (b = false → T.kind ≤ 4) → noHead 38 r → ∃ g, r.length ≤ g ∧ rOr A f (s ++ r) = rLoop (rAnd A f) 124 4 g T.marks r
  l3 : ∀ f r, (s ++ r).length ≤ f → noHead 38 r → noHead 124 r → ∃ g, r.length ≤ g ∧ rSame A f (s ++ r) = rLoop (rOr A f) 61 5 g T.marks r
theorem lift1 {A : UInt8 → Option Mark} {f : Nat} {t : List Mark} {s r : List UInt8} (hl : (s ++ r).length ≤ f) (h : rPart A f (s ++ r) = ⟨t, r, true⟩) : ∃ g, r.length ≤ g ∧ rAnd A f (s ++ r) = rLoop (rPart A f) 38 3 g t r :=
  ⟨f, by simp at hl; omega, rRow_up h⟩
theorem lift2 {A : UInt8 → Option Mark} {f : Nat} {t : List Mark} {s r : List UInt8} (hl : (s ++ r).length ≤ f) (hn : noHead 38 r) (h : ∃ g, r.length ≤ g ∧ rAnd A f (s ++ r) = rLoop (rPart A f) 38 3 g t r) : ∃ g, r.length ≤ g ∧ rOr A f (s ++ r) = rLoop (rAnd A f) 124 4 g t r := by
  obtain ⟨g, _, h⟩ := h
  rw [rLoop_stop g t hn] at h
  exact ⟨f, by simp at hl; omega, rRow_up h⟩
theorem lift3 {A : UInt8 → Option Mark} {f : Nat} {t : List Mark} {s r : List UInt8} (hl : (s ++ r).length ≤ f) (hn : noHead 124 r) (h : ∃ g, r.length ≤ g ∧ rOr A f (s ++ r) = rLoop (rAnd A f) 124 4 g t r) : ∃ g, r.length ≤ g ∧ rSame A f (s ++ r) = rLoop (rOr A f) 61 5 g t r := by
  obtain ⟨g, _, h⟩ := h
  rw [rLoop_stop g t hn] at h
  exact ⟨f, by simp at hl; omega, rRow_up h⟩
theorem RT.of0 {A : UInt8 → Option Mark} {T : Tm} {s : List UInt8} {b : Bool} (h : ∀ f r, (s ++ r).length ≤ f → rPart A f (s ++ r) = ⟨T.marks, r, true⟩) : RT A T s b :=
  ⟨fun f r hl _ => h f r hl, fun f r hl _ => lift1 hl (h f r hl), fun f r hl _ hn => lift2 hl hn (lift1 hl (h f r hl)), fun f r hl hn hn2 => lift3 hl hn2 (lift2 hl hn (lift1 hl (h f r hl)))⟩
theorem RT.par {A : UInt8 → Option Mark} (hA : AOk A) {T : Tm} (h : RT A T T.text false) (b : Bool) : RT A T (par b T.text) b := by
  cases b with
  | false => exact h
  | true =>
    refine RT.of0 fun f r hl => ?_
    have e : TL.par true T.text ++ r = 40 :: (T.text ++ 41 :: r) := by simp [TL.par]
    rw [e] at hl ⊢
    cases f with
    | zero => simp at hl
    | succ f =>
      obtain ⟨g, _, h3⟩ := h.l3 f (41 :: r) (by simp at hl ⊢; omega) (by simp [noHead]) (by simp [noHead])
      rw [rPart_open A f _ hA.brak, h3, rLoop_stop g _ (by simp [noHead])]
      simp [shut]
theorem RT.tm {A : UInt8 → Option Mark} (hA : AOk A) : ∀ T : Tm, T.ok → RT A T T.text false
  | .tells i, h => RT.of0 fun f r hl => by
    cases f with
    | zero => simp [Tm.text] at hl
    | succ f => exact rPart_one A f _ r _ (hA.letter i h)
  | .count i, h => RT.of0 fun f r hl => by
    cases f with
    | zero => simp [Tm.text] at hl
    | succ f => exact rPart_one A f _ r _ (hA.digit i h)
  | .not a, h => RT.of0 fun f r hl => by
    have e : (Tm.not a).text ++ r = 33 :: (TL.par (decide (3 ≤ a.kind)) a.text ++ r) := rfl
    rw [e] at hl ⊢
    cases f with
    | zero => simp at hl
    | succ f =>
      have ih := ((RT.tm hA a h).par hA (decide (3 ≤ a.kind))).l0 f r (by simp at hl ⊢; omega) (by simp; omega)
      rw [rPart_not A f _ hA.bang, ih]; rfl
  | .bin k a b, h => by
    have ia := (RT.tm hA a h.2.1).par hA (decide (3 + k < a.kind))
    have ib := (RT.tm hA b h.2.2).par hA (decide (3 + k ≤ b.kind))
    have e : ∀ r, (Tm.bin k a b).text ++ r = TL.par (decide (3 + k < a.kind)) a.text ++ sign k :: (TL.par (decide (3 + k ≤ b.kind)) b.text ++ r) := fun r => by simp [Tm.text]
    have em : (Tm.bin k a b).marks = a.marks ++ b.marks ++ [⟨3 + k, 0⟩] := rfl
    have ek : (Tm.bin k a b).kind = 3 + k := rfl
    have hk := h.1
    generalize TL.par (decide (3 + k < a.kind)) a.text = sa at *
    generalize TL.par (decide (3 + k ≤ b.kind)) b.text = sb at *
    generalize (Tm.bin k a b).text = st at *
    have g1 : k = 0 → ∀ f r, (st ++ r).length ≤ f → ∃ g, r.length ≤ g ∧ rAnd A f (st ++ r) = rLoop (rPart A f) 38 3 g (Tm.bin k a b).marks r := by
      rintro rfl f r hl
      rw [e] at hl ⊢
      have la : sign 0 = 38 := rfl
      rw [la] at hl ⊢
      obtain ⟨g, hg, h1⟩ := ia.l1 f _ hl (by simp <;> omega)
      have h2 := ib.l0 f r (by simp at hl ⊢; omega) (by simp; omega)
      obtain ⟨g', hg', h3⟩ := rLoop_step (k := 3) (t := a.marks) hg (by simp) h2
      exact ⟨g', hg', by rw [h1, h3, em]; rfl⟩
    have g2 : k = 1 → ∀ f r, (st ++ r).length ≤ f → noHead 38 r → ∃ g, r.length ≤ g ∧ rOr A f (st ++ r) = rLoop (rAnd A f) 124 4 g (Tm.bin k a b).marks r := by
      rintro rfl f r hl hn
      rw [e] at hl ⊢
      have la : sign 1 = 124 := rfl
      rw [la] at hl ⊢
      obtain ⟨g, hg, h1⟩ := ia.l2 f _ hl (by simp <;> omega) (by simp [noHead])
      obtain ⟨g0, _, h2⟩ := ib.l1 f r (by simp at hl ⊢; omega) (by simp; omega)
      rw [rLoop_stop g0 _ hn] at h2
      obtain ⟨g', hg', h3⟩ := rLoop_step (k := 4) (t := a.marks) hg (by simp) h2
      exact ⟨g', hg', by rw [h1, h3, em]; rfl⟩
    have g3 : k = 2 → ∀ f r, (st ++ r).length ≤ f → noHead 38 r → noHead 124 r → ∃ g, r.length ≤ g ∧ rSame A f (st ++ r) = rLoop (rOr A f) 61 5 g (Tm.bin k a b).marks r := by
      rintro rfl f r hl hn hn2
      rw [e] at hl ⊢
      have la : sign 2 = 61 := rfl
      rw [la] at hl ⊢
      obtain ⟨g, hg, h1⟩ := ia.l3 f _ hl (by simp [noHead]) (by simp [noHead])
      obtain ⟨g0, _, h2⟩ := ib.l2 f r (by simp at hl ⊢; omega) (by simp; omega) hn
      rw [rLoop_stop g0 _ hn2] at h2
      obtain ⟨g', hg', h3⟩ := rLoop_step (k := 5) (t := a.marks) hg (by simp) h2
      exact ⟨g', hg', by rw [h1, h3, em]; rfl⟩
    refine ⟨fun f r hl hq => ?_, fun f r hl hq => ?_, fun f r hl hq hn => ?_, fun f r hl hn hn2 => ?_⟩
    · have := hq rfl; omega
    · have := hq rfl; exact g1 (by omega) f r hl
    · have := hq rfl
      rcases (by omega : k = 0 ∨ k = 1) with hk | hk
      · exact lift2 hl hn (g1 hk f r hl)
      · exact g2 hk f r hl hn
    · rcases (by omega : k = 0 ∨ k = 1 ∨ k = 2) with hk | hk | hk
      · exact lift3 hl hn2 (lift2 hl hn (g1 hk f r hl))
      · exact lift3 hl hn2 (g2 hk f r hl hn)
      · exact g3 hk f r hl hn hn2
theorem read_text {A : UInt8 → Option Mark} (hA : AOk A) (T : Tm) (h : T.ok) (f : Nat) (hf : T.text.length ≤ f) : rSame A f T.text = ⟨T.marks, [], true⟩ := by
  obtain ⟨g, _, e⟩ := (RT.tm hA T h).l3 f [] (by simpa using hf) (by simp [noHead]) (by simp [noHead])
  rw [List.append_nil] at e
  rw [e, rLoop_stop g _ (by simp [noHead])]
theorem rRow_nil {p : List UInt8 → R} {sg : UInt8} {k : Int} {g : Nat} (h : (p []).ok = false) : (rRow p sg k g []).ok = false := by
  unfold rRow; rw [if_neg (by simp [h])]
theorem rPart_nil (A : UInt8 → Option Mark) (f : Nat) : (rPart A f []).ok = false := by cases f <;> rfl
theorem rSame_nil (A : UInt8 → Option Mark) (f : Nat) : (rSame A f []).ok = false := rRow_nil (rRow_nil (rRow_nil (rPart_nil A f)))
/-- The atoms of the program, and of the reference. -/
def atomI (c : UInt8) : Option Mark := if 97 ≤ c.toNat ∧ c.toNat ≤ 122 then some ⟨0, (c.toNat : Int) - 97⟩ else if 48 ≤ c.toNat ∧ c.toNat ≤ 57 then some ⟨1, (c.toNat : Int) - 48⟩ else none
def atomS (c : UInt8) : Option Mark := if 97 ≤ c.toNat ∧ c.toNat ≤ 100 then some ⟨0, (c.toNat : Int) - 97⟩ else if 48 ≤ c.toNat ∧ c.toNat ≤ 53 then some ⟨1, (c.toNat : Int) - 48⟩ else none
theorem atomI_ok : AOk atomI where
  letter i hi := by rcases (by omega : i = 0 ∨ i = 1 ∨ i = 2 ∨ i = 3) with rfl | rfl | rfl | rfl <;> rfl
  digit i hi := by rcases (by omega : i = 0 ∨ i = 1 ∨ i = 2 ∨ i = 3 ∨ i = 4 ∨ i = 5) with rfl | rfl | rfl | rfl | rfl | rfl <;> rfl
  bang := rfl
  brak := rfl
theorem atomS_ok : AOk atomS where
  letter i hi := by rcases (by omega : i = 0 ∨ i = 1 ∨ i = 2 ∨ i = 3) with rfl | rfl | rfl | rfl <;> rfl
  digit i hi := by rcases (by omega : i = 0 ∨ i = 1 ∨ i = 2 ∨ i = 3 ∨ i = 4 ∨ i = 5) with rfl | rfl | rfl | rfl | rfl | rfl <;> rfl
  bang := rfl
  brak := rfl
theorem atomI_good (c : UInt8) (m : Mark) (h : atomI c = some m) : 0 ≤ m.kind ∧ m.kind ≤ 5 ∧ 0 ≤ m.num ∧ m.num ≤ 1000 := by
  unfold atomI at h
  split at h
  · cases h; simp only; omega
  split at h
  · cases h; simp only; omega
  · cases h
theorem atomS_good (c : UInt8) (m : Mark) (h : atomS c = some m) : 0 ≤ m.kind ∧ m.kind ≤ 5 ∧ 0 ≤ m.num ∧ m.num ≤ 1000 := by
  unfold atomS at h
  split at h
  · cases h; simp only; omega
  split at h
  · cases h; simp only; omega
  · cases h
/-- The text of a term. -/
noncomputable def termText (people : Int) (t : List Mark) : List UInt8 := by
  classical exact if h : termOk people t = true then (Classical.choose (termOk_tree h)).text else []
theorem termText_no {people : Int} {t : List Mark} (h : termOk people t = false) : termText people t = [] := by
  unfold termText; rw [dif_neg (by simp [h])]
theorem termText_tree {people : Int} {t : List Mark} (h : termOk people t = true) : ∃ T : Tm, T.ok ∧ T.marks = t ∧ T.text = termText people t := by
  unfold termText; rw [dif_pos h]
  exact ⟨_, (Classical.choose_spec (termOk_tree h)).1, (Classical.choose_spec (termOk_tree h)).2, rfl⟩
theorem termOk_pos {people : Int} {t : List Mark} (h : termOk people t = true) : 1 ≤ t.length := by
  obtain ⟨T, _, rfl, _⟩ := termText_tree h; exact T.marks_pos
theorem tm_text_pos : ∀ T : Tm, T.text ≠ []
  | .tells i => by simp [Tm.text]
  | .count i => by simp [Tm.text]
  | .not a => by simp [Tm.text]
  | .bin k a b => by simp [Tm.text]
theorem termText_pos {people : Int} {t : List Mark} (h : termOk people t = true) : termText people t ≠ [] := by
  obtain ⟨T, _, _, h3⟩ := termText_tree h; rw [← h3]; exact tm_text_pos T
/-- What ReadTerm finds. -/
noncomputable def readT (people : Int) (s : List UInt8) : Option (List Mark) := by
  classical exact if h : s.length ≤ 60 ∧ ∃ t, termOk people t = true ∧ termText people t = s then some (Classical.choose h.2) else none
theorem text_inj {people : Int} {t u : List Mark} (ht : termOk people t = true) (hu : termOk people u = true) (h : termText people t = termText people u) : t = u := by
  obtain ⟨T, a1, a2, a3⟩ := termText_tree ht
  obtain ⟨U, b1, b2, b3⟩ := termText_tree hu
  have e1 := read_text atomI_ok T a1 _ (Nat.le_refl _)
  have e2 := read_text atomI_ok U b1 _ (Nat.le_refl _)
  have : T.text = U.text := by rw [a3, b3, h]
  rw [this, e2] at e1
  have := congrArg R.ms e1
  simp only at this
  rw [← a2, ← b2, this]
theorem readT_some {people : Int} {s : List UInt8} {t : List Mark} (hl : s.length ≤ 60) (h : termOk people t = true) (hs : termText people t = s) : readT people s = some t := by
  have hx : s.length ≤ 60 ∧ ∃ t, termOk people t = true ∧ termText people t = s := ⟨hl, t, h, hs⟩
  unfold readT; rw [dif_pos hx]
  have := Classical.choose_spec hx.2
  exact congrArg some (text_inj this.1 h (by rw [this.2, hs]))
theorem readT_is {people : Int} {s : List UInt8} {t : List Mark} (h : readT people s = some t) : s.length ≤ 60 ∧ termOk people t = true ∧ termText people t = s := by
  unfold readT at h
  split at h
  · rename_i hx; cases h; exact ⟨hx.1, Classical.choose_spec hx.2⟩
  · cases h
theorem readT_none {people : Int} {s : List UInt8} (h : ∀ t, s.length ≤ 60 → termOk people t = true → termText people t ≠ s) : readT people s = none := by
  unfold readT; rw [dif_neg]; rintro ⟨hl, t, h1, h2⟩; exact h t hl h1 h2
/-- What the code does: read, then compare. -/
theorem readT_code {people : Int} {s : List UInt8} {A : UInt8 → Option Mark} (hA : AOk A) (hl : s.length ≤ 60) :
    readT people s = if (rSame A s.length s).ok = true ∧ (rSame A s.length s).rest = [] ∧ termOk people (rSame A s.length s).ms = true ∧ termText people (rSame A s.length s).ms = s then some (rSame A s.length s).ms else none := by
  split
  · rename_i h; exact readT_some hl h.2.2.1 h.2.2.2
  · rename_i h
    refine readT_none fun t _ h1 h2 => h ?_
    obtain ⟨T, a1, a2, a3⟩ := termText_tree h1
    have e := read_text hA T a1 s.length (by rw [a3, h2]; exact Nat.le_refl _)
    rw [a3, h2] at e
    rw [e]
    exact ⟨rfl, rfl, by rw [a2]; exact h1, by rw [a2]; exact h2⟩
end TL

/- Reading terms: the program's code. -/
set_option linter.unusedSimpArgs false
set_option linter.unusedVariables false
set_option maxRecDepth 100000
set_option maxHeartbeats 4000000
set_option pp.maxSteps 1500
namespace TL
open Go Go.Proofs
attribute [local simp] marksV storyV codeV Claim.v Place.v
def cutB (s : List UInt8) (c : UInt8) : List UInt8 × Bool := match s with
  | [] => ([], false)
  | x :: r => if x = c then (r, true) else (x :: r, false)
theorem hasPrefix_fn (s : List UInt8) (c : UInt8) (hl : s.length ≤ 1000000000) : FnZ Tryz.prog 174 [.str s, .str [c]] (.bool (cutB s c).2) := by
  refine FnZ_of (rs := [.tmp 4]) false Tryz.func174 rfl rfl rfl rfl (Nat.le_of_ble_eq_true rfl) ?_
  cases s with
  | nil => simp -dsimp [cutB]
  | cons x r =>
    have h1 : (1 : Int) ≤ (r.length : Int) + 1 := by omega
    have h0 : ¬ (r.length : Int) + 1 < 1 := by omega
    by_cases hx : x = c
    · subst hx; simp -dsimp [cutB, h1, h0]
    · simp -dsimp [cutB, h1, h0, hx]
theorem cutPrefixL_fn (s : List UInt8) (c : UInt8) (hl : s.length ≤ 1000000000) : FnZ Tryz.prog 153 [.str s, .str [c]] (.tup [.str (cutB s c).1, .bool (cutB s c).2]) := by
  refine FnZ_of (rs := [.tmp 4, .tmp 5]) false Tryz.func153 rfl rfl rfl rfl (Nat.le_of_ble_eq_true rfl) ?_
  simp -dsimp
  refine call_ (hasPrefix_fn s c hl) (by simp -dsimp) ?_
  cases s with
  | nil => simp -dsimp [cutB]
  | cons x r =>
    have h1 : (1 : Int) ≤ (r.length : Int) + 1 := by omega
    by_cases hx : x = c
    · subst hx; simp -dsimp [cutB, h1]
    · simp -dsimp [cutB, h1, hx]
theorem cutPrefix_fn (s : List UInt8) (c : UInt8) (hl : s.length ≤ 1000000000) : FnZ Tryz.prog 136 [.str s, .str [c]] (.tup [.str (cutB s c).1, .bool (cutB s c).2]) := by
  refine FnZ_of (rs := [.tmp 4, .tmp 5]) false Tryz.func136 rfl rfl rfl rfl (Nat.le_of_ble_eq_true rfl) ?_
  simp -dsimp
  refine call_ (cutPrefixL_fn s c hl) (by simp -dsimp) ?_
  simp -dsimp
/-- What a reader gives back: a row of its own. -/
structure RPost (m : Mem) (n : Nat) (r : R) (t : T) (m' : Mem) (n' : Nat) : Prop where
  le : n ≤ n'
  out : ∀ j, j < n → m' j = m j
  res : ∃ st, t = .tup [st, .v (.str r.rest), .v (.bool r.ok)] ∧ IsRow m' n n' 126 st (r.ms.map Mark.v) ∧ (r.ok = true → st ≠ .nil)
abbrev RFn (f : Nat) (L : Nat) (p : List UInt8 → R) : Prop := ∀ s : List UInt8, s.length ≤ L → ∀ m n, FnS Tryz.prog f m n [.v (.str s)] (RPost m n (p s))
/-- The loop of readRow. -/
def Irr (m0 : Mem) (n0 : Nat) (F : Nat) (p : List UInt8 → R) (sg : UInt8) (k : Int) (f : Nat) (G : R) (s : S) : Prop := ∃ (ms : List Mark) (rest : List UInt8) (ok : Bool) (st : T) (g : Nat),
  s.tm 0 = .v (.str rest) ∧ s.tm 1 = .v (.str [sg]) ∧ s.tm 2 = .v (.int .i64 k) ∧ s.tm 3 = .fn f [] ∧ s.tm 11 = st ∧ s.tm 12 = .v (.bool ok) ∧ s.mu = false ∧ n0 ≤ s.n ∧ (∀ j, j < n0 → s.m j = m0 j) ∧
  IsRow s.m n0 s.n 126 st (ms.map Mark.v) ∧ rest.length ≤ g ∧ rest.length ≤ F ∧ ms.length + rest.length ≤ F ∧ (ok = true → st ≠ .nil ∧ G = rLoop p sg k g ms rest) ∧ (ok = false → G = ⟨[], rest, false⟩)
def lenOf : T → Nat
  | .v (.str s) => s.length + 1
  | .v (.bool b) => if b then 1 else 0
  | _ => 0
@[simp] theorem lenOf_str (s : List UInt8) : lenOf (.v (.str s)) = s.length + 1 := rfl
@[simp] theorem lenOf_bool (b : Bool) : lenOf (.v (.bool b)) = if b then 1 else 0 := rfl
def Xrr (m0 : Mem) (n0 : Nat) (G : R) (s : S) : Prop := ∃ rest : List UInt8, s.tm 0 = .v (.str rest) ∧ G = ⟨[], rest, false⟩ ∧ n0 ≤ s.n ∧ ∀ j, j < n0 → s.m j = m0 j
theorem cutB_len (s : List UInt8) (c : UInt8) : (cutB s c).1.length ≤ s.length := by
  unfold cutB; split
  · simp
  · split <;> simp
theorem cut_no {p : List UInt8 → R} {sg : UInt8} {k : Int} {g : Nat} {ms : List Mark} {rest : List UInt8} (h : (cutB rest sg).2 = false) : rLoop p sg k g ms rest = ⟨ms, rest, true⟩ := by
  cases g with
  | zero => rfl
  | succ g =>
    cases rest with
    | nil => rfl
    | cons c r =>
      simp only [rLoop]
      by_cases hc : c = sg
      · subst hc; simp [cutB] at h
      · rw [if_neg hc]
theorem cut_yes {p : List UInt8 → R} {sg : UInt8} {k : Int} {g : Nat} {ms : List Mark} {rest : List UInt8} (hg : rest.length ≤ g) (h : (cutB rest sg).2 = true) :
    ∃ g', (cutB rest sg).1.length ≤ g' ∧ (cutB rest sg).1.length + 1 = rest.length ∧ rLoop p sg k g ms rest = if (p (cutB rest sg).1).ok = true then rLoop p sg k g' (ms ++ (p (cutB rest sg).1).ms ++ [⟨k, 0⟩]) (p (cutB rest sg).1).rest else ⟨[], (p (cutB rest sg).1).rest, false⟩ := by
  cases rest with
  | nil => cases h
  | cons c r =>
    have hc : c = sg := by
      unfold cutB at h; simp only at h
      split at h
      · assumption
      · cases h
    subst hc
    have e : (cutB (c :: r) c).1 = r := by simp [cutB]
    rw [e]
    cases g with
    | zero => simp at hg
    | succ g => exact ⟨g, by simpa using hg, by simp, by simp only [rLoop, if_true]⟩
theorem readRow_fn (f : Nat) (p : List UInt8 → R) (sg : UInt8) (k : Int) (F : Nat) (hp : good p) (hF : F ≤ 1000000) (hf : RFn f F p) : ∀ s : List UInt8, s.length ≤ F → ∀ m n, FnS Tryz.prog 117 m n [.v (.str s), .v (.str [sg]), .v (.int .i64 k), .fn f []] (RPost m n (rRow p sg k F s)) := by
  intro s hs m n
  have g0 := (hp s).1
  refine FnS_of (rs := [.tmp 8, .tmp 9, .tmp 10]) false Tryz.func117 rfl rfl rfl rfl (Nat.le_of_ble_eq_true rfl) ?_
  simp -dsimp
  refine callS_ (hf s hs _ _) ?_
  rintro t m1 n1 ⟨hle, hout, st, rfl, hrow, hnil⟩
  simp -dsimp
  refine twp_loopC (Irr m n F p sg k f (rRow p sg k F s)) (fun s => lenOf (s.tm 0) + lenOf (s.tm 12)) (Xrr m n (rRow p sg k F s)) ?_ ?_ ?_
  · refine ⟨(p s).ms, (p s).rest, (p s).ok, st, F, by simp -dsimp, by simp -dsimp, by simp -dsimp, by simp -dsimp, by simp -dsimp, by simp -dsimp, by simp -dsimp, by simp -dsimp [hle], by simp -dsimp; exact hout, by simp -dsimp; exact hrow, by omega, by omega, by omega, fun h => ⟨hnil h, ?_⟩, fun h => ?_⟩
    · unfold rRow; rw [if_pos h]
    · unfold rRow; rw [if_neg (by simp [h])]
  · rintro s1 ⟨ms, rest, ok, st, g, t0, t1, t2, t3, t11, t12, hmu, hn, hm, hrow, hg, hrF, hmsF, h1, h0⟩
    cases ok with
    | false =>
      simp -dsimp [t12]
      exact ⟨rest, by simp -dsimp [t0], h0 rfl, by simp -dsimp [hn], by simp -dsimp; exact hm⟩
    | true =>
      obtain ⟨hst, hG⟩ := h1 rfl
      have hloc : ∃ i, st = .loc i ∧ n ≤ i ∧ i < s1.n ∧ s1.m i = some (.arr 126 (ms.map Mark.v)) := by
        rcases hrow with ⟨rfl, _⟩ | h
        · exact absurd rfl hst
        · exact h
      obtain ⟨i, rfl, hi0, hi1, hmi⟩ := hloc
      have hcl := cutB_len rest sg
      simp -dsimp [t0, t1, t12]
      refine call_ (cutPrefix_fn rest sg (by omega)) (by simp -dsimp) ?_
      have hq := ft (cutB rest sg).2
      rcases hq with hq | hq
      · rw [cut_no hq] at hG
        simp -dsimp [hq, t0, t11]
        rw [hG]
        exact ⟨hn, hm, .loc i, rfl, .inr ⟨i, rfl, hi0, hi1, hmi⟩, by simp⟩
      · obtain ⟨g', hg1, hg2, hg3⟩ := cut_yes (p := p) (sg := sg) (k := k) (ms := ms) hg hq
        rw [hG, hg3]
        generalize (cutB rest sg).1 = more at *
        have gm := (hp more).1
        simp -dsimp [hq, t3]
        refine callS_ (hf more (by omega) _ _) ?_
        rintro t m2 n2 ⟨hle2, hout2, st2, rfl, hrow2, hnil2⟩
        have hi2 : i < n2 := by omega
        have hmi2 : m2 i = some (.arr 126 (ms.map Mark.v)) := by rw [hout2 i hi1, hmi]
        have f1 := far hi2
        have b1 : (ms.length + (p more).ms.length) * 16 ≤ 140737488355328 := by omega
        have b2 : (ms.length + (p more).ms.length + 1) * 16 ≤ 140737488355328 := by omega
        have eL : ∀ ok' : Bool, (p more).ok = ok' → (ok' = true → (if (p more).ok = true then rLoop p sg k g' (ms ++ (p more).ms ++ [⟨k, 0⟩]) (p more).rest else ⟨[], (p more).rest, false⟩) = rLoop p sg k g' (ms ++ (p more).ms ++ [⟨k, 0⟩]) (p more).rest) ∧
          (ok' = false → (if (p more).ok = true then rLoop p sg k g' (ms ++ (p more).ms ++ [⟨k, 0⟩]) (p more).rest else ⟨[], (p more).rest, false⟩) = ⟨[], (p more).rest, false⟩) := fun ok' h => ⟨fun h1 => by rw [if_pos (by rw [h, h1])], fun h1 => by rw [if_neg (by simp [h, h1])]⟩
        have eL2 := eL _ rfl
        clear eL hG hg3
        generalize (if (p more).ok = true then rLoop p sg k g' (ms ++ (p more).ms ++ [⟨k, 0⟩]) (p more).rest else ⟨[], (p more).rest, false⟩) = G at *
        have hkmu : ∀ b : Bool, (p more).rest.length + 1 + (if b = true then 1 else 0) < rest.length + 1 + 1 := fun b => by split <;> omega
        generalize (p more).ms = qms at *
        generalize (p more).rest = qrest at *
        generalize (p more).ok = qok at *
        rcases hrow2 with ⟨rfl, h0⟩ | ⟨i2, rfl, hj0, hj1, hmj⟩
        · have hq0 : qms = [] := by simpa using h0
          subst hq0
          have b3 : (ms.length + 1) * 16 ≤ 140737488355328 := by omega
          have b4 : ms.length * 16 ≤ 140737488355328 := by omega
          simp -dsimp [t0, t1, t2, t3, t11, hmu, hmi2, f1, b3, b4, nes]
          refine ⟨st_out fun s' ht hm' hn' hu' => ?_, by rw [t12]; exact hkmu qok⟩
          have q0 := ht 0
          have q1 := ht 1
          have q2 := ht 2
          have q3 := ht 3
          have q11 := ht 11
          have q12 := ht 12
          simp -dsimp [t1, t2, t3] at q0 q1 q2 q3 q11 q12 hm' hn' hu'
          clear ht
          refine ⟨ms ++ [⟨k, 0⟩], qrest, qok, _, g', q0, q1, q2, q3, q11, q12, by rw [hu', hmu], by omega, fun j hj => ?_, .inr ⟨_, rfl, by omega, by omega, ?_⟩, by omega, by omega, by simp; omega, fun h => ⟨by simp, by rw [eL2.1 h]; simp⟩, fun h => eL2.2 h⟩
          · have e1 : j < n2 := by omega
            have e2 : ¬ j = i := by rintro rfl; omega
            have e3 := far e1
            simp [hm', e2, e3, hout2 j (by omega), hm j hj]
          · simp [hm', nes, Mark.v]
        · have f2 := far hj1
          simp -dsimp [t0, t1, t2, t3, t11, hmu, hmi2, hmj, f1, f2, b1, b2, nes]
          refine ⟨st_out fun s' ht hm' hn' hu' => ?_, by rw [t12]; exact hkmu qok⟩
          have q0 := ht 0
          have q1 := ht 1
          have q2 := ht 2
          have q3 := ht 3
          have q11 := ht 11
          have q12 := ht 12
          simp -dsimp [t1, t2, t3] at q0 q1 q2 q3 q11 q12 hm' hn' hu'
          clear ht
          refine ⟨ms ++ qms ++ [⟨k, 0⟩], qrest, qok, _, g', q0, q1, q2, q3, q11, q12, by rw [hu', hmu], by omega, fun j hj => ?_, .inr ⟨_, rfl, by omega, by omega, ?_⟩, by omega, by omega, by simp; omega, fun h => ⟨by simp, eL2.1 h⟩, fun h => eL2.2 h⟩
          · have e1 : j < n2 := by omega
            have e2 : ¬ j = i := by rintro rfl; omega
            have e3 := far e1
            simp [hm', e2, e3, hout2 j (by omega), hm j hj]
          · simp [hm', nes, Mark.v]
  · rintro s1 ⟨rest, t0, hG, hn, hm⟩
    simp -dsimp [t0]
    rw [hG]
    exact ⟨hn, hm, .nil, rfl, .inl ⟨rfl, rfl⟩, by simp⟩
theorem pack (s : List UInt8) {r : R} {m m' : Mem} {n n' : Nat} {st : T} (h1 : n ≤ n') (h2 : ∀ j, j < n → m' j = m j) (h3 : IsRow m' n n' 126 st (r.ms.map Mark.v)) (h4 : r.ok = true → st ≠ .nil) : RPost m n r (.tup [st, .v (.str r.rest), .v (.bool r.ok)]) m' n' :=
  ⟨h1, h2, st, rfl, h3, h4⟩
theorem RPost.mk' {r : R} {m m' : Mem} {n n' : Nat} {st : T} {a : List UInt8} {b : Bool} (h1 : n ≤ n') (h2 : ∀ j, j < n → m' j = m j) (h3 : IsRow m' n n' 126 st (r.ms.map Mark.v)) (h4 : b = true → st ≠ .nil) (ha : r.rest = a) (hb : r.ok = b) : RPost m n r (.tup [st, .v (.str a), .v (.bool b)]) m' n' := by
  subst ha; subst hb; exact ⟨h1, h2, st, rfl, h3, h4⟩
theorem rowFn (f : Nat) (p : List UInt8 → R) (sg : UInt8) (k : Int) (F : Nat) (hp : good p) (hF : F ≤ 1000000) (hf : RFn f F p) (g : Nat) (hg : ∀ s : List UInt8, s.length ≤ F → ∀ m n, FnS Tryz.prog 117 m n [.v (.str s), .v (.str [sg]), .v (.int .i64 k), .fn f []] (RPost m n (rRow p sg k F s)) → FnS Tryz.prog g m n [.v (.str s)] (RPost m n (rRow p sg k F s))) : RFn g F (rRow p sg k F) :=
  fun s hs m n => hg s hs m n (readRow_fn f p sg k F hp hF hf s hs m n)
theorem readAnd_fn (F : Nat) (p : List UInt8 → R) (hp : good p) (hF : F ≤ 1000000) (hf : RFn 154 F p) : RFn 137 F (rRow p 38 3 F) := by
  refine rowFn 154 p 38 3 F hp hF hf 137 fun s hs m n h => ?_
  generalize rRow p 38 3 F s = r at *
  refine FnS_of (rs := [.tmp 2, .tmp 3, .tmp 4]) false Tryz.func137 rfl rfl rfl rfl (Nat.le_of_ble_eq_true rfl) ?_
  simp -dsimp
  refine callS_ h ?_
  rintro t m1 n1 ⟨hle, hout, st, rfl, hrow, hnil⟩
  simp -dsimp
  exact ⟨hle, hout, st, rfl, hrow, hnil⟩
theorem readOr_fn (F : Nat) (p : List UInt8 → R) (hp : good p) (hF : F ≤ 1000000) (hf : RFn 137 F p) : RFn 118 F (rRow p 124 4 F) := by
  refine rowFn 137 p 124 4 F hp hF hf 118 fun s hs m n h => ?_
  generalize rRow p 124 4 F s = r at *
  refine FnS_of (rs := [.tmp 2, .tmp 3, .tmp 4]) false Tryz.func118 rfl rfl rfl rfl (Nat.le_of_ble_eq_true rfl) ?_
  simp -dsimp
  refine callS_ h ?_
  rintro t m1 n1 ⟨hle, hout, st, rfl, hrow, hnil⟩
  simp -dsimp
  exact ⟨hle, hout, st, rfl, hrow, hnil⟩
theorem readSame_fn (F : Nat) (p : List UInt8 → R) (hp : good p) (hF : F ≤ 1000000) (hf : RFn 118 F p) : RFn 92 F (rRow p 61 5 F) := by
  refine rowFn 118 p 61 5 F hp hF hf 92 fun s hs m n h => ?_
  generalize rRow p 61 5 F s = r at *
  refine FnS_of (rs := [.tmp 2, .tmp 3, .tmp 4]) false Tryz.func92 rfl rfl rfl rfl (Nat.le_of_ble_eq_true rfl) ?_
  simp -dsimp
  refine callS_ h ?_
  rintro t m1 n1 ⟨hle, hout, st, rfl, hrow, hnil⟩
  simp -dsimp
  exact ⟨hle, hout, st, rfl, hrow, hnil⟩
/-- What readPart does with its first sign. -/
theorem rPart_letter (f : Nat) (c : UInt8) (s : List UInt8) (h1 : 97 ≤ c.toNat) (h2 : c.toNat ≤ 122) : rPart atomI (f + 1) (c :: s) = ⟨[⟨0, (c.toNat : Int) - 97⟩], s, true⟩ := rPart_one _ _ _ _ _ (if_pos ⟨h1, h2⟩)
theorem rPart_digit (f : Nat) (c : UInt8) (s : List UInt8) (h0 : ¬ (97 ≤ c.toNat ∧ c.toNat ≤ 122)) (h1 : 48 ≤ c.toNat) (h2 : c.toNat ≤ 57) : rPart atomI (f + 1) (c :: s) = ⟨[⟨1, (c.toNat : Int) - 48⟩], s, true⟩ := rPart_one _ _ _ _ _ (by unfold atomI; rw [if_neg h0, if_pos ⟨h1, h2⟩])
theorem rPart_else (A : UInt8 → Option Mark) (f : Nat) (c : UInt8) (s : List UInt8) (h : A c = none) (h1 : c ≠ 33) (h2 : c ≠ 40) : rPart A (f + 1) (c :: s) = ⟨[], c :: s, false⟩ := by
  show (match A c with
    | some m => _
    | none => _) = _
  rw [h]; simp only; rw [if_neg h1, if_neg h2]
theorem atomI_none {c : UInt8} (h0 : ¬ (97 ≤ c.toNat ∧ c.toNat ≤ 122)) (h1 : ¬ (48 ≤ c.toNat ∧ c.toNat ≤ 57)) : atomI c = none := by unfold atomI; rw [if_neg h0, if_neg h1]
theorem readPart_fn : ∀ F, F ≤ 1000000 → RFn 154 F (rPart atomI F)
  | 0, _ => fun s hs m n => by
    have : s = [] := List.length_eq_zero_iff.1 (by omega)
    subst this
    refine FnS_of (rs := [.tmp 2, .tmp 3, .tmp 4]) false Tryz.func154 rfl rfl rfl rfl (Nat.le_of_ble_eq_true rfl) ?_
    simp -dsimp
    exact RPost.mk' (Nat.le_refl _) (fun _ _ => rfl) (.inl ⟨rfl, rfl⟩) (by simp) rfl rfl
  | F + 1, hF => fun s hs m n => by
    cases s with
    | nil =>
      refine FnS_of (rs := [.tmp 2, .tmp 3, .tmp 4]) false Tryz.func154 rfl rfl rfl rfl (Nat.le_of_ble_eq_true rfl) ?_
      simp -dsimp
      exact RPost.mk' (Nat.le_refl _) (fun _ _ => rfl) (.inl ⟨rfl, rfl⟩) (by simp) rfl rfl
    | cons c s =>
      have hs' : s.length ≤ F := by simpa using hs
      have hp := rPart_good atomI_good F
      have ih := readPart_fn F (by omega)
      have hS : RFn 92 F (rSame atomI F) := readSame_fn F _ (rRow_good (rRow_good hp (by omega) (by omega) F) (by omega) (by omega) F) (by omega) (readOr_fn F _ (rRow_good hp (by omega) (by omega) F) (by omega) (readAnd_fn F _ hp (by omega) ih))
      have gp := (hp s).1
      have gs := (rRow_good (rRow_good (rRow_good hp (sg := 38) (k := 3) (by omega) (by omega) F) (sg := 124) (k := 4) (by omega) (by omega) F) (sg := 61) (k := 5) (by omega) (by omega) F s).1
      have gs : (rSame atomI F s).ms.length + (rSame atomI F s).rest.length ≤ s.length := gs
      have hlt := UInt8.toNat_lt c
      have l1 : (1 : Int) ≤ (s.length : Int) + 1 := by omega
      have l2 : ((s.length : Int) + 1).toNat = s.length + 1 := by omega
      have run : ∀ (post : T → Mem → Nat → Prop), (FnS Tryz.prog 154 m n [.v (.str (c :: s))] post → FnS Tryz.prog 154 m n [.v (.str (c :: s))] post) := fun _ h => h
      by_cases hlet : 97 ≤ c.toNat ∧ c.toNat ≤ 122
      · have i1 : (97 : Int) ≤ c.toNat := by omega
        have i2 : (c.toNat : Int) ≤ 122 := by omega
        have w1 : IntKind.wrap .u8 ((c.toNat : Int) - 97) = (c.toNat : Int) - 97 := by rw [IntKind.wrap_u8]; omega
        have w2 : IntKind.wrap .i64 ((c.toNat : Int) - 97) = (c.toNat : Int) - 97 := w64 (by omega) (by omega)
        rw [rPart_letter F c s hlet.1 hlet.2]
        refine FnS_of (rs := [.tmp 2, .tmp 3, .tmp 4]) false Tryz.func154 rfl rfl rfl rfl (Nat.le_of_ble_eq_true rfl) ?_
        simp -dsimp
        refine twp_draw (List.range 6) [] (List.replicate 6 []) (List.replicate 6 []) (by kernel_rfl) (by kernel_rfl) (by kernel_rfl) (by kernel_rfl) ?_
        simp -dsimp [List.range_succ, i1, i2, w1, w2, l1, l2]
        exact RPost.mk' (by omega) (fun j hj => by simp; omega) (.inr ⟨n, rfl, by omega, by omega, by simp [Mark.v]⟩) (by simp) rfl rfl
      by_cases hdig : 48 ≤ c.toNat ∧ c.toNat ≤ 57
      · have i1 : (48 : Int) ≤ c.toNat := by omega
        have i2 : (c.toNat : Int) ≤ 57 := by omega
        have i3 : ¬ (97 : Int) ≤ c.toNat := by omega
        have w1 : IntKind.wrap .u8 ((c.toNat : Int) - 48) = (c.toNat : Int) - 48 := by rw [IntKind.wrap_u8]; omega
        have w2 : IntKind.wrap .i64 ((c.toNat : Int) - 48) = (c.toNat : Int) - 48 := w64 (by omega) (by omega)
        rw [rPart_digit F c s hlet hdig.1 hdig.2]
        refine FnS_of (rs := [.tmp 2, .tmp 3, .tmp 4]) false Tryz.func154 rfl rfl rfl rfl (Nat.le_of_ble_eq_true rfl) ?_
        simp -dsimp
        refine twp_draw (List.range 6) [] (List.replicate 6 []) (List.replicate 6 []) (by kernel_rfl) (by kernel_rfl) (by kernel_rfl) (by kernel_rfl) ?_
        simp -dsimp [List.range_succ, i1, i2, i3, w1, w2, l1, l2]
        exact RPost.mk' (by omega) (fun j hj => by simp; omega) (.inr ⟨n, rfl, by omega, by omega, by simp [Mark.v]⟩) (by simp) rfl rfl
      have hA := atomI_none hlet hdig
      by_cases h33 : c = 33
      · subst h33
        have ePart := rPart_not atomI F s rfl
        have hq := ih s hs' 
        rw [ePart]
        have b1 : ((rPart atomI F s).ms.length + 1) * 16 ≤ 140737488355328 := by omega
        refine FnS_of (rs := [.tmp 2, .tmp 3, .tmp 4]) false Tryz.func154 rfl rfl rfl rfl (Nat.le_of_ble_eq_true rfl) ?_
        simp -dsimp
        refine twp_draw (List.range 6) [] (List.replicate 6 []) (List.replicate 6 []) (by kernel_rfl) (by kernel_rfl) (by kernel_rfl) (by kernel_rfl) ?_
        simp -dsimp [List.range_succ, l1, l2]
        refine callS_ (hq _ _) ?_
        rintro t m2 n2 ⟨hle2, hout2, st2, rfl, hrow2, hnil2⟩
        rcases hrow2 with ⟨rfl, h0⟩ | ⟨i2, rfl, hj0, hj1, hmj⟩
        · have hq0 : (rPart atomI F s).ms = [] := by simpa using h0
          simp -dsimp
          refine RPost.mk' (by omega) (fun j hj => ?_) (.inr ⟨_, rfl, by omega, by omega, by simp [hq0, Mark.v, nes]⟩) (by simp) rfl rfl
          have hj' : j < n := hj
          have f3 := far (show j < n2 by omega)
          simp [f3, hout2 j hj]
        · have f2 := far hj1
          simp -dsimp [hmj, f2, b1, nes]
          refine RPost.mk' (by omega) (fun j hj => ?_) (.inr ⟨_, rfl, by omega, by omega, by simp [Mark.v, nes]⟩) (by simp) rfl rfl
          have hj' : j < n := hj
          have f3 := far (show j < n2 by omega)
          have f4 : ¬ j = i2 := by omega
          simp [f3, f4, hout2 j hj]
      by_cases h40 : c = 40
      · subst h40
        have ePart := rPart_open atomI F s rfl
        have hq := hS s hs'
        rw [ePart]
        have hcl : (rSame atomI F s).rest.length ≤ 1000000000 := by omega
        have esh : shut (rSame atomI F s) = ⟨(rSame atomI F s).ms, (cutB (rSame atomI F s).rest 41).1, (rSame atomI F s).ok && (cutB (rSame atomI F s).rest 41).2⟩ := by
          unfold shut cutB
          cases (rSame atomI F s).rest with
          | nil => simp
          | cons x r =>
            simp only
            split <;> simp
        rw [esh]
        refine FnS_of (rs := [.tmp 2, .tmp 3, .tmp 4]) false Tryz.func154 rfl rfl rfl rfl (Nat.le_of_ble_eq_true rfl) ?_
        simp -dsimp
        refine twp_draw (List.range 6) [] (List.replicate 6 []) (List.replicate 6 []) (by kernel_rfl) (by kernel_rfl) (by kernel_rfl) (by kernel_rfl) ?_
        simp -dsimp [List.range_succ, l1, l2]
        refine callS_ (hq _ _) ?_
        rintro t m2 n2 ⟨hle2, hout2, st2, rfl, hrow2, hnil2⟩
        simp -dsimp
        refine call_ (cutPrefix_fn (rSame atomI F s).rest 41 hcl) (by simp -dsimp) ?_
        simp -dsimp
        have hb := ft (rSame atomI F s).ok
        rcases hb with hb | hb
        · simp -dsimp [hb]
          exact RPost.mk' hle2 hout2 hrow2 (by simp) rfl (by simp)
        · simp -dsimp [hb]
          exact RPost.mk' hle2 hout2 hrow2 (fun _ => hnil2 hb) rfl (by simp)
      have eElse := rPart_else atomI F c s hA h33 h40
      rw [eElse]
      have k33 : ¬ (c.toNat : Int) = 33 := fun h => h33 (UInt8.toNat.inj (by show c.toNat = 33; omega))
      have k40 : ¬ (c.toNat : Int) = 40 := fun h => h40 (UInt8.toNat.inj (by show c.toNat = 40; omega))
      have three : ((¬ (97 : Int) ≤ c.toNat) ∧ ¬ (48 : Int) ≤ c.toNat) ∨ ((¬ (97 : Int) ≤ c.toNat) ∧ (48 : Int) ≤ c.toNat ∧ ¬ (c.toNat : Int) ≤ 57) ∨ ((97 : Int) ≤ c.toNat ∧ (¬ (c.toNat : Int) ≤ 122) ∧ (48 : Int) ≤ c.toNat ∧ ¬ (c.toNat : Int) ≤ 57) := by omega
      rcases three with ⟨h1, h2⟩ | ⟨h1, h2, h3⟩ | ⟨h1, h2, h3, h4⟩
      · refine FnS_of (rs := [.tmp 2, .tmp 3, .tmp 4]) false Tryz.func154 rfl rfl rfl rfl (Nat.le_of_ble_eq_true rfl) ?_
        simp -dsimp
        refine twp_draw (List.range 6) [] (List.replicate 6 []) (List.replicate 6 []) (by kernel_rfl) (by kernel_rfl) (by kernel_rfl) (by kernel_rfl) ?_
        simp -dsimp [List.range_succ, l1, l2, h1, h2, k33, k40]
        exact RPost.mk' (Nat.le_refl _) (fun _ _ => rfl) (.inl ⟨rfl, rfl⟩) (by simp) rfl rfl
      · refine FnS_of (rs := [.tmp 2, .tmp 3, .tmp 4]) false Tryz.func154 rfl rfl rfl rfl (Nat.le_of_ble_eq_true rfl) ?_
        simp -dsimp
        refine twp_draw (List.range 6) [] (List.replicate 6 []) (List.replicate 6 []) (by kernel_rfl) (by kernel_rfl) (by kernel_rfl) (by kernel_rfl) ?_
        simp -dsimp [List.range_succ, l1, l2, h1, h2, h3, k33, k40]
        exact RPost.mk' (Nat.le_refl _) (fun _ _ => rfl) (.inl ⟨rfl, rfl⟩) (by simp) rfl rfl
      · refine FnS_of (rs := [.tmp 2, .tmp 3, .tmp 4]) false Tryz.func154 rfl rfl rfl rfl (Nat.le_of_ble_eq_true rfl) ?_
        simp -dsimp
        refine twp_draw (List.range 6) [] (List.replicate 6 []) (List.replicate 6 []) (by kernel_rfl) (by kernel_rfl) (by kernel_rfl) (by kernel_rfl) ?_
        simp -dsimp [List.range_succ, l1, l2, h1, h2, h3, h4, k33, k40]
        exact RPost.mk' (Nat.le_refl _) (fun _ _ => rfl) (.inl ⟨rfl, rfl⟩) (by simp) rfl rfl
theorem readSame_all (F : Nat) (hF : F ≤ 1000000) : RFn 92 F (rSame atomI F) := by
  have hp := rPart_good atomI_good F
  exact readSame_fn F _ (rRow_good (rRow_good hp (by omega) (by omega) F) (by omega) (by omega) F) (by omega) (readOr_fn F _ (rRow_good hp (by omega) (by omega) F) (by omega) (readAnd_fn F _ hp (by omega) (readPart_fn F hF)))
end TL

/- Reading terms: the reference's code. -/
set_option linter.unusedSimpArgs false
set_option linter.unusedVariables false
set_option maxRecDepth 100000
set_option maxHeartbeats 4000000
set_option pp.maxSteps 1500
namespace TL
open Go Go.Proofs
attribute [local simp] marksV storyV codeV Claim.v Place.v
theorem drop_one {Tx : List UInt8} {q : Nat} {c : UInt8} {more : List UInt8} (h : Tx.drop q = c :: more) : Tx[q]? = some c ∧ Tx.drop (q + 1) = more ∧ q < Tx.length := by
  have hlt : q < Tx.length := by
    rcases Nat.lt_or_ge q Tx.length with h1 | h1
    · exact h1
    · rw [List.drop_eq_nil_of_le h1] at h; cases h
  rw [drop_cons hlt] at h
  injection h with h1 h2
  exact ⟨by rw [List.getElem?_eq_getElem hlt, h1], h2, hlt⟩
/-- What a reader of the reference gives back. -/
structure SPost (Tx : List UInt8) (L : Nat) (m : Mem) (n : Nat) (r : R) (t : T) (m' : Mem) (n' : Nat) : Prop where
  le : n ≤ n'
  out : ∀ j, j < n → m' j = m j
  res : ∃ (i : Nat) (xs : List Mark) (next : Int), t = .tup [.loc i, .v (.int .i64 next)] ∧ n ≤ i ∧ i < n' ∧ m' i = some (.arr 126 (xs.map Mark.v)) ∧ xs.length ≤ L ∧
    (r.ok = true → xs = r.ms ∧ ∃ q : Nat, next = q ∧ Tx.drop q = r.rest ∧ q ≤ Tx.length) ∧ (r.ok = false → next = -1)
abbrev SFn (f : Nat) (Tx : List UInt8) (F : Nat) (more : List T) (p : List UInt8 → R) : Prop := ∀ q : Nat, q ≤ Tx.length → Tx.length - q ≤ F → ∀ m n, FnS Tryz.prog f m n ([.v (.str Tx), .v (.int .i64 q)] ++ more) (SPost Tx (Tx.length - q) m n (p (Tx.drop q)))
def numAt : T → Int
  | .v (.int _ z) => z
  | _ => 0
@[simp] theorem numAt_int (k : IntKind) (z : Int) : numAt (.v (.int k z)) = z := rfl
def Isl (Tx : List UInt8) (L : Nat) (m0 : Mem) (n0 : Nat) (p : List UInt8 → R) (sg : UInt8) (k : Int) (G : R) (s : S) : Prop := ∃ (i : Nat) (xs : List Mark) (next : Int),
  s.tm 0 = .v (.str Tx) ∧ s.tm 2 = .v (.int .i64 k) ∧ s.tm 8 = .v (.int .u8 sg.toNat) ∧ s.tm 9 = .loc i ∧ s.tm 10 = .v (.int .i64 next) ∧ s.mu = false ∧ n0 ≤ s.n ∧ (∀ j, j < n0 → s.m j = m0 j) ∧
  n0 ≤ i ∧ i < s.n ∧ s.m i = some (.arr 126 (xs.map Mark.v)) ∧ xs.length ≤ L ∧
  ((next = -1 ∧ G.ok = false) ∨ ∃ (q g : Nat), next = q ∧ q ≤ Tx.length ∧ Tx.length - q ≤ g ∧ Tx.length - q ≤ L ∧ xs.length + (Tx.length - q) ≤ L ∧ G = rLoop p sg k g xs (Tx.drop q))
def Xsl (Tx : List UInt8) (L : Nat) (m0 : Mem) (n0 : Nat) (G : R) (s : S) : Prop := ∃ (i : Nat) (xs : List Mark) (next : Int),
  s.tm 9 = .loc i ∧ s.tm 10 = .v (.int .i64 next) ∧ n0 ≤ s.n ∧ (∀ j, j < n0 → s.m j = m0 j) ∧
  n0 ≤ i ∧ i < s.n ∧ s.m i = some (.arr 126 (xs.map Mark.v)) ∧ xs.length ≤ L ∧
  (G.ok = true → xs = G.ms ∧ ∃ q : Nat, next = q ∧ Tx.drop q = G.rest ∧ q ≤ Tx.length) ∧ (G.ok = false → next = -1)
theorem level_start {Tx : List UInt8} {p : List UInt8 → R} {sg : UInt8} {k : Int} {F L q : Nat} {xs : List Mark} {next : Int} (hF : L ≤ F) (g0 : (p (Tx.drop q)).ms.length + (p (Tx.drop q)).rest.length ≤ L)
    (hok : (p (Tx.drop q)).ok = true → xs = (p (Tx.drop q)).ms ∧ ∃ q' : Nat, next = q' ∧ Tx.drop q' = (p (Tx.drop q)).rest ∧ q' ≤ Tx.length) (hno : (p (Tx.drop q)).ok = false → next = -1) :
    (next = -1 ∧ (rRow p sg k F (Tx.drop q)).ok = false) ∨ ∃ (q' g : Nat), next = q' ∧ q' ≤ Tx.length ∧ Tx.length - q' ≤ g ∧ Tx.length - q' ≤ L ∧ xs.length + (Tx.length - q') ≤ L ∧ rRow p sg k F (Tx.drop q) = rLoop p sg k g xs (Tx.drop q') := by
  have hb := ft (p (Tx.drop q)).ok
  rcases hb with hb | hb
  · left; exact ⟨hno hb, by unfold rRow; rw [if_neg (by simp [hb])]⟩
  · obtain ⟨rfl, q', e1, e2, e3⟩ := hok hb
    have e4 := congrArg List.length e2
    rw [List.length_drop] at e4
    right; exact ⟨q', F, e1, e3, by omega, by omega, by omega, by unfold rRow; rw [if_pos hb, e2]⟩
theorem level_next {Tx : List UInt8} {p : List UInt8 → R} {sg : UInt8} {k : Int} {L L2 : Nat} {xs ys : List Mark} {next : Int} {more : List UInt8} {G : R}
    (hG : ∃ g', more.length ≤ g' ∧ G = if (p more).ok = true then rLoop p sg k g' (xs ++ (p more).ms ++ [(⟨k, 0⟩ : Mark)]) (p more).rest else (⟨[], (p more).rest, false⟩ : R)) (g2 : (p more).ms.length + (p more).rest.length ≤ L2)
    (hok : (p more).ok = true → ys = (p more).ms ∧ ∃ q' : Nat, next = q' ∧ Tx.drop q' = (p more).rest ∧ q' ≤ Tx.length) (hno : (p more).ok = false → next = -1) (h1 : more.length = L2) (h2 : xs.length + 1 + L2 ≤ L) :
    (next = -1 ∧ G.ok = false) ∨ ∃ (q' g : Nat), next = q' ∧ q' ≤ Tx.length ∧ Tx.length - q' ≤ g ∧ Tx.length - q' ≤ L ∧ (xs ++ ys ++ [(⟨k, 0⟩ : Mark)]).length + (Tx.length - q') ≤ L ∧ G = rLoop p sg k g (xs ++ ys ++ [⟨k, 0⟩]) (Tx.drop q') := by
  obtain ⟨g', hg', rfl⟩ := hG
  have hb := ft (p more).ok
  rcases hb with hb | hb
  · left; exact ⟨hno hb, by rw [if_neg (by simp [hb])]⟩
  · obtain ⟨rfl, q', e1, e2, e3⟩ := hok hb
    have e4 := congrArg List.length e2
    rw [List.length_drop] at e4
    right; exact ⟨q', g', e1, e3, by omega, by omega, by simp; omega, by rw [if_pos hb, e2]⟩
theorem level_mu {Tx : List UInt8} {p : List UInt8 → R} {L2 : Nat} {ys : List Mark} {next : Int} {more : List UInt8} (g2 : (p more).ms.length + (p more).rest.length ≤ L2)
    (hok : (p more).ok = true → ys = (p more).ms ∧ ∃ q' : Nat, next = q' ∧ Tx.drop q' = (p more).rest ∧ q' ≤ Tx.length) (hno : (p more).ok = false → next = -1) :
    (if next < 0 then 0 else Tx.length + 1 - next.toNat) ≤ L2 + 1 := by
  have hb := ft (p more).ok
  rcases hb with hb | hb
  · rw [hno hb]; simp
  · obtain ⟨_, q', rfl, e2, e3⟩ := hok hb
    have e4 := congrArg List.length e2
    rw [List.length_drop] at e4
    rw [if_neg (by omega)]; omega
theorem level_step {Tx : List UInt8} {p : List UInt8 → R} {sg : UInt8} {k : Int} {g q : Nat} {xs : List Mark} {more : List UInt8} (hd : Tx.drop q = sg :: more) (hg : Tx.length - q ≤ g) :
    ∃ g', more.length ≤ g' ∧ rLoop p sg k g xs (Tx.drop q) = if (p more).ok = true then rLoop p sg k g' (xs ++ (p more).ms ++ [⟨k, 0⟩]) (p more).rest else ⟨[], (p more).rest, false⟩ := by
  have e4 := congrArg List.length hd
  rw [List.length_drop] at e4
  cases g with
  | zero => simp at e4; omega
  | succ g => exact ⟨g, by simp at e4; omega, by rw [hd]; simp only [rLoop, if_true]⟩
theorem l2Level_fn (Tx : List UInt8) (hS : Tx.length ≤ 1000000) (F : Nat) (p : List UInt8 → R) (sg : UInt8) (k : Int) (hk : (k = 3 ∧ sg = 38) ∨ (k = 4 ∧ sg = 124) ∨ (k = 5 ∧ sg = 61)) (hp : good p) (hf : SFn 110 Tx F [.v (.int .i64 (k - 1))] p) :
    SFn 110 Tx F [.v (.int .i64 k)] (rRow p sg k F) := by
  intro q hq hF m n
  have g0 := (hp (Tx.drop q)).1
  rw [List.length_drop] at g0
  generalize hL : Tx.length - q = L at *
  have hf0 := hf q hq (by omega)
  rw [hL] at hf0
  rcases hk with ⟨rfl, rfl⟩ | ⟨rfl, rfl⟩ | ⟨rfl, rfl⟩
  · refine FnS_of (rs := [.tmp 6, .tmp 7]) false Tryz.func110 rfl rfl rfl rfl (Nat.le_of_ble_eq_true rfl) ?_
    simp -dsimp [show IntKind.wrap .i64 0 = 0 from rfl, show IntKind.wrap .i64 1 = 1 from rfl, show IntKind.wrap .i64 2 = 2 from rfl, show IntKind.wrap .i64 3 = 3 from rfl, show IntKind.wrap .i64 4 = 4 from rfl]
    refine callS_ (hf0 _ _) ?_
    rintro t m1 n1 ⟨hle, hout, i, xs, next, rfl, hi0, hi1, hmi, hxl, hok, hno⟩
    simp -dsimp
    refine twp_loopC (Isl Tx L m n p 38 3 (rRow p 38 3 F (Tx.drop q))) (fun s => if numAt (s.tm 10) < 0 then 0 else Tx.length + 1 - (numAt (s.tm 10)).toNat) (Xsl Tx L m n (rRow p 38 3 F (Tx.drop q))) ?_ ?_ ?_
    · refine ⟨i, xs, next, by simp -dsimp, by simp -dsimp, by simp -dsimp, by simp -dsimp, by simp -dsimp, by simp -dsimp, by simp -dsimp [hle], by simp -dsimp; exact hout, hi0, by simp -dsimp [hi1], by simp -dsimp [hmi], hxl, ?_⟩
      exact level_start hF g0 hok hno
    · rintro s1 ⟨i, xs, next, t0, t2, t8, t9, t10, hmu, hn, hm, hi0, hi1, hmi, hxl, hcase⟩
      rcases hcase with ⟨rfl, hG⟩ | ⟨q2, g, rfl, hq2, hg2, hqL, hxq, hG⟩
      · simp -dsimp [t0, t10]
        exact ⟨i, xs, -1, by simp -dsimp [t9], by simp -dsimp [t10], by simp -dsimp [hn], by simp -dsimp; exact hm, hi0, by simp -dsimp [hi1], by simp -dsimp [hmi], hxl, by simp [hG], fun _ => rfl⟩
      have z0 : ¬ (q2 : Int) < 0 := by omega
      cases hd : Tx.drop q2 with
      | nil =>
        have hql : q2 = Tx.length := by
          rcases Nat.lt_or_ge q2 Tx.length with h | h
          · rw [drop_cons h] at hd; cases hd
          · omega
        have z1 : ¬ (q2 : Int) < (Tx.length : Int) := by omega
        have z2 : ¬ q2 < Tx.length := by omega
        rw [rLoop_stop g xs (by rw [hd]; simp [noHead])] at hG
        simp -dsimp [t0, t10, z0, z1, z2]
        exact ⟨i, xs, q2, by simp -dsimp [t9], by simp -dsimp [t10], by simp -dsimp [hn], by simp -dsimp; exact hm, hi0, by simp -dsimp [hi1], by simp -dsimp [hmi], hxl, fun _ => ⟨by rw [hG], q2, rfl, by rw [hG], hq2⟩, by simp [hG]⟩
      | cons c more =>
        obtain ⟨d1, d2, d3⟩ := drop_one hd
        have z1 : (q2 : Int) < (Tx.length : Int) := by omega
        have d4 : Tx[q2] = c := by rw [List.getElem?_eq_getElem d3] at d1; exact Option.some.inj d1
        by_cases hc : c = 38
        case neg =>
          have hc' : ¬ (c.toNat : Int) = 38 := fun h => hc (UInt8.toNat.inj (by show c.toNat = 38; omega))
          rw [rLoop_stop g xs (by rw [hd]; simp [noHead, hc])] at hG
          simp -dsimp [t0, t8, t10, z0, z1, d1, d3, d4, hc']
          exact ⟨i, xs, q2, by simp -dsimp [t9], by simp -dsimp [t10], by simp -dsimp [hn], by simp -dsimp; exact hm, hi0, by simp -dsimp [hi1], by simp -dsimp [hmi], hxl, fun _ => ⟨by rw [hG], q2, rfl, by rw [hG], hq2⟩, by simp [hG]⟩
        subst hc
        have h2 := hf (q2 + 1) (by omega) (by omega)
        have eq1 : ((q2 + 1 : Nat) : Int) = (q2 : Int) + 1 := by omega
        rw [eq1] at h2
        have w1 : IntKind.wrap .i64 ((q2 : Int) + 1) = (q2 : Int) + 1 := w64 (by omega) (by omega)
        have g2 := (hp (Tx.drop (q2 + 1))).1
        rw [List.length_drop] at g2
        have hG2 := level_step (p := p) (sg := 38) (k := 3) (xs := xs) (g := g) (hd) hg2
        rw [d2] at h2 g2
        have hml : more.length = Tx.length - (q2 + 1) := by rw [← d2, List.length_drop]
        rw [← hG] at hG2
        clear hG hd
        generalize hq3 : q2 + 1 = q3 at *
        generalize hL2 : Tx.length - q3 = L2 at *
        simp -dsimp [t0, t2, t8, t10, z0, z1, d1, d3, d4, w1, show IntKind.wrap .i64 0 = 0 from rfl, show IntKind.wrap .i64 1 = 1 from rfl, show IntKind.wrap .i64 2 = 2 from rfl, show IntKind.wrap .i64 3 = 3 from rfl, show IntKind.wrap .i64 4 = 4 from rfl]
        refine callS_ (h2 _ _) ?_
        rintro t m2 n2 ⟨hle2, hout2, i2, ys, next2, rfl, hj0, hj1, hmj, hyl, hok2, hno2⟩
        have hi2 : i < n2 := by omega
        have hmi2 : m2 i = some (.arr 126 (xs.map Mark.v)) := by rw [hout2 i hi1, hmi]
        have f1 := far hi2
        have f2 := far hj1
        have b0 : xs.length * 16 ≤ 140737488355328 := by omega
        have b1 : (xs.length + ys.length) * 16 ≤ 140737488355328 := by omega
        have b2 : (xs.length + ys.length + 1) * 16 ≤ 140737488355328 := by omega
        simp -dsimp [t0, t2, t8, t9, t10, hmu, hmi2, hmj, f1, f2, b0, b1, b2, nes]
        refine ⟨st_out fun s' ht hm' hn' hu' => ?_, ?_⟩
        · have a0 := ht 0
          have a2 := ht 2
          have a8 := ht 8
          have a9 := ht 9
          have a10 := ht 10
          simp -dsimp [t0, t2, t8] at a0 a2 a8 a9 a10 hm' hn' hu'
          clear ht
          refine ⟨_, xs ++ ys ++ [⟨3, 0⟩], next2, a0, a2, a8, a9, a10, by rw [hu', hmu], by omega, fun j hj => ?_, by omega, by omega, ?_, by simp; omega, ?_⟩
          · have e1 : j < n2 := by omega
            have e2 : ¬ j = i := by rintro rfl; omega
            have e3 := far e1
            simp [hm', e2, e3, hout2 j (by omega), hm j hj]
          · simp [hm', nes, Mark.v]
          · exact level_next hG2 g2 hok2 hno2 (by omega) (by omega)
        · have := level_mu (Tx := Tx) g2 hok2 hno2
          generalize (p more).ok = b at *
          simp only [t10, numAt_int, if_neg z0] at this ⊢
          omega
    · rintro s1 ⟨i, xs, next, t9, t10, hn, hm, hi0, hi1, hmi, hxl, hok, hno⟩
      simp -dsimp [t9, t10]
      exact ⟨hn, hm, i, xs, next, rfl, hi0, hi1, hmi, hxl, hok, hno⟩
  · refine FnS_of (rs := [.tmp 6, .tmp 7]) false Tryz.func110 rfl rfl rfl rfl (Nat.le_of_ble_eq_true rfl) ?_
    simp -dsimp [show IntKind.wrap .i64 0 = 0 from rfl, show IntKind.wrap .i64 1 = 1 from rfl, show IntKind.wrap .i64 2 = 2 from rfl, show IntKind.wrap .i64 3 = 3 from rfl, show IntKind.wrap .i64 4 = 4 from rfl]
    refine callS_ (hf0 _ _) ?_
    rintro t m1 n1 ⟨hle, hout, i, xs, next, rfl, hi0, hi1, hmi, hxl, hok, hno⟩
    simp -dsimp
    refine twp_loopC (Isl Tx L m n p 124 4 (rRow p 124 4 F (Tx.drop q))) (fun s => if numAt (s.tm 10) < 0 then 0 else Tx.length + 1 - (numAt (s.tm 10)).toNat) (Xsl Tx L m n (rRow p 124 4 F (Tx.drop q))) ?_ ?_ ?_
    · refine ⟨i, xs, next, by simp -dsimp, by simp -dsimp, by simp -dsimp, by simp -dsimp, by simp -dsimp, by simp -dsimp, by simp -dsimp [hle], by simp -dsimp; exact hout, hi0, by simp -dsimp [hi1], by simp -dsimp [hmi], hxl, ?_⟩
      exact level_start hF g0 hok hno
    · rintro s1 ⟨i, xs, next, t0, t2, t8, t9, t10, hmu, hn, hm, hi0, hi1, hmi, hxl, hcase⟩
      rcases hcase with ⟨rfl, hG⟩ | ⟨q2, g, rfl, hq2, hg2, hqL, hxq, hG⟩
      · simp -dsimp [t0, t10]
        exact ⟨i, xs, -1, by simp -dsimp [t9], by simp -dsimp [t10], by simp -dsimp [hn], by simp -dsimp; exact hm, hi0, by simp -dsimp [hi1], by simp -dsimp [hmi], hxl, by simp [hG], fun _ => rfl⟩
      have z0 : ¬ (q2 : Int) < 0 := by omega
      cases hd : Tx.drop q2 with
      | nil =>
        have hql : q2 = Tx.length := by
          rcases Nat.lt_or_ge q2 Tx.length with h | h
          · rw [drop_cons h] at hd; cases hd
          · omega
        have z1 : ¬ (q2 : Int) < (Tx.length : Int) := by omega
        have z2 : ¬ q2 < Tx.length := by omega
        rw [rLoop_stop g xs (by rw [hd]; simp [noHead])] at hG
        simp -dsimp [t0, t10, z0, z1, z2]
        exact ⟨i, xs, q2, by simp -dsimp [t9], by simp -dsimp [t10], by simp -dsimp [hn], by simp -dsimp; exact hm, hi0, by simp -dsimp [hi1], by simp -dsimp [hmi], hxl, fun _ => ⟨by rw [hG], q2, rfl, by rw [hG], hq2⟩, by simp [hG]⟩
      | cons c more =>
        obtain ⟨d1, d2, d3⟩ := drop_one hd
        have z1 : (q2 : Int) < (Tx.length : Int) := by omega
        have d4 : Tx[q2] = c := by rw [List.getElem?_eq_getElem d3] at d1; exact Option.some.inj d1
        by_cases hc : c = 124
        case neg =>
          have hc' : ¬ (c.toNat : Int) = 124 := fun h => hc (UInt8.toNat.inj (by show c.toNat = 124; omega))
          rw [rLoop_stop g xs (by rw [hd]; simp [noHead, hc])] at hG
          simp -dsimp [t0, t8, t10, z0, z1, d1, d3, d4, hc']
          exact ⟨i, xs, q2, by simp -dsimp [t9], by simp -dsimp [t10], by simp -dsimp [hn], by simp -dsimp; exact hm, hi0, by simp -dsimp [hi1], by simp -dsimp [hmi], hxl, fun _ => ⟨by rw [hG], q2, rfl, by rw [hG], hq2⟩, by simp [hG]⟩
        subst hc
        have h2 := hf (q2 + 1) (by omega) (by omega)
        have eq1 : ((q2 + 1 : Nat) : Int) = (q2 : Int) + 1 := by omega
        rw [eq1] at h2
        have w1 : IntKind.wrap .i64 ((q2 : Int) + 1) = (q2 : Int) + 1 := w64 (by omega) (by omega)
        have g2 := (hp (Tx.drop (q2 + 1))).1
        rw [List.length_drop] at g2
        have hG2 := level_step (p := p) (sg := 124) (k := 4) (xs := xs) (g := g) (hd) hg2
        rw [d2] at h2 g2
        have hml : more.length = Tx.length - (q2 + 1) := by rw [← d2, List.length_drop]
        rw [← hG] at hG2
        clear hG hd
        generalize hq3 : q2 + 1 = q3 at *
        generalize hL2 : Tx.length - q3 = L2 at *
        simp -dsimp [t0, t2, t8, t10, z0, z1, d1, d3, d4, w1, show IntKind.wrap .i64 0 = 0 from rfl, show IntKind.wrap .i64 1 = 1 from rfl, show IntKind.wrap .i64 2 = 2 from rfl, show IntKind.wrap .i64 3 = 3 from rfl, show IntKind.wrap .i64 4 = 4 from rfl]
        refine callS_ (h2 _ _) ?_
        rintro t m2 n2 ⟨hle2, hout2, i2, ys, next2, rfl, hj0, hj1, hmj, hyl, hok2, hno2⟩
        have hi2 : i < n2 := by omega
        have hmi2 : m2 i = some (.arr 126 (xs.map Mark.v)) := by rw [hout2 i hi1, hmi]
        have f1 := far hi2
        have f2 := far hj1
        have b0 : xs.length * 16 ≤ 140737488355328 := by omega
        have b1 : (xs.length + ys.length) * 16 ≤ 140737488355328 := by omega
        have b2 : (xs.length + ys.length + 1) * 16 ≤ 140737488355328 := by omega
        simp -dsimp [t0, t2, t8, t9, t10, hmu, hmi2, hmj, f1, f2, b0, b1, b2, nes]
        refine ⟨st_out fun s' ht hm' hn' hu' => ?_, ?_⟩
        · have a0 := ht 0
          have a2 := ht 2
          have a8 := ht 8
          have a9 := ht 9
          have a10 := ht 10
          simp -dsimp [t0, t2, t8] at a0 a2 a8 a9 a10 hm' hn' hu'
          clear ht
          refine ⟨_, xs ++ ys ++ [⟨4, 0⟩], next2, a0, a2, a8, a9, a10, by rw [hu', hmu], by omega, fun j hj => ?_, by omega, by omega, ?_, by simp; omega, ?_⟩
          · have e1 : j < n2 := by omega
            have e2 : ¬ j = i := by rintro rfl; omega
            have e3 := far e1
            simp [hm', e2, e3, hout2 j (by omega), hm j hj]
          · simp [hm', nes, Mark.v]
          · exact level_next hG2 g2 hok2 hno2 (by omega) (by omega)
        · have := level_mu (Tx := Tx) g2 hok2 hno2
          generalize (p more).ok = b at *
          simp only [t10, numAt_int, if_neg z0] at this ⊢
          omega
    · rintro s1 ⟨i, xs, next, t9, t10, hn, hm, hi0, hi1, hmi, hxl, hok, hno⟩
      simp -dsimp [t9, t10]
      exact ⟨hn, hm, i, xs, next, rfl, hi0, hi1, hmi, hxl, hok, hno⟩
  · refine FnS_of (rs := [.tmp 6, .tmp 7]) false Tryz.func110 rfl rfl rfl rfl (Nat.le_of_ble_eq_true rfl) ?_
    simp -dsimp [show IntKind.wrap .i64 0 = 0 from rfl, show IntKind.wrap .i64 1 = 1 from rfl, show IntKind.wrap .i64 2 = 2 from rfl, show IntKind.wrap .i64 3 = 3 from rfl, show IntKind.wrap .i64 4 = 4 from rfl]
    refine callS_ (hf0 _ _) ?_
    rintro t m1 n1 ⟨hle, hout, i, xs, next, rfl, hi0, hi1, hmi, hxl, hok, hno⟩
    simp -dsimp
    refine twp_loopC (Isl Tx L m n p 61 5 (rRow p 61 5 F (Tx.drop q))) (fun s => if numAt (s.tm 10) < 0 then 0 else Tx.length + 1 - (numAt (s.tm 10)).toNat) (Xsl Tx L m n (rRow p 61 5 F (Tx.drop q))) ?_ ?_ ?_
    · refine ⟨i, xs, next, by simp -dsimp, by simp -dsimp, by simp -dsimp, by simp -dsimp, by simp -dsimp, by simp -dsimp, by simp -dsimp [hle], by simp -dsimp; exact hout, hi0, by simp -dsimp [hi1], by simp -dsimp [hmi], hxl, ?_⟩
      exact level_start hF g0 hok hno
    · rintro s1 ⟨i, xs, next, t0, t2, t8, t9, t10, hmu, hn, hm, hi0, hi1, hmi, hxl, hcase⟩
      rcases hcase with ⟨rfl, hG⟩ | ⟨q2, g, rfl, hq2, hg2, hqL, hxq, hG⟩
      · simp -dsimp [t0, t10]
        exact ⟨i, xs, -1, by simp -dsimp [t9], by simp -dsimp [t10], by simp -dsimp [hn], by simp -dsimp; exact hm, hi0, by simp -dsimp [hi1], by simp -dsimp [hmi], hxl, by simp [hG], fun _ => rfl⟩
      have z0 : ¬ (q2 : Int) < 0 := by omega
      cases hd : Tx.drop q2 with
      | nil =>
        have hql : q2 = Tx.length := by
          rcases Nat.lt_or_ge q2 Tx.length with h | h
          · rw [drop_cons h] at hd; cases hd
          · omega
        have z1 : ¬ (q2 : Int) < (Tx.length : Int) := by omega
        have z2 : ¬ q2 < Tx.length := by omega
        rw [rLoop_stop g xs (by rw [hd]; simp [noHead])] at hG
        simp -dsimp [t0, t10, z0, z1, z2]
        exact ⟨i, xs, q2, by simp -dsimp [t9], by simp -dsimp [t10], by simp -dsimp [hn], by simp -dsimp; exact hm, hi0, by simp -dsimp [hi1], by simp -dsimp [hmi], hxl, fun _ => ⟨by rw [hG], q2, rfl, by rw [hG], hq2⟩, by simp [hG]⟩
      | cons c more =>
        obtain ⟨d1, d2, d3⟩ := drop_one hd
        have z1 : (q2 : Int) < (Tx.length : Int) := by omega
        have d4 : Tx[q2] = c := by rw [List.getElem?_eq_getElem d3] at d1; exact Option.some.inj d1
        by_cases hc : c = 61
        case neg =>
          have hc' : ¬ (c.toNat : Int) = 61 := fun h => hc (UInt8.toNat.inj (by show c.toNat = 61; omega))
          rw [rLoop_stop g xs (by rw [hd]; simp [noHead, hc])] at hG
          simp -dsimp [t0, t8, t10, z0, z1, d1, d3, d4, hc']
          exact ⟨i, xs, q2, by simp -dsimp [t9], by simp -dsimp [t10], by simp -dsimp [hn], by simp -dsimp; exact hm, hi0, by simp -dsimp [hi1], by simp -dsimp [hmi], hxl, fun _ => ⟨by rw [hG], q2, rfl, by rw [hG], hq2⟩, by simp [hG]⟩
        subst hc
        have h2 := hf (q2 + 1) (by omega) (by omega)
        have eq1 : ((q2 + 1 : Nat) : Int) = (q2 : Int) + 1 := by omega
        rw [eq1] at h2
        have w1 : IntKind.wrap .i64 ((q2 : Int) + 1) = (q2 : Int) + 1 := w64 (by omega) (by omega)
        have g2 := (hp (Tx.drop (q2 + 1))).1
        rw [List.length_drop] at g2
        have hG2 := level_step (p := p) (sg := 61) (k := 5) (xs := xs) (g := g) (hd) hg2
        rw [d2] at h2 g2
        have hml : more.length = Tx.length - (q2 + 1) := by rw [← d2, List.length_drop]
        rw [← hG] at hG2
        clear hG hd
        generalize hq3 : q2 + 1 = q3 at *
        generalize hL2 : Tx.length - q3 = L2 at *
        simp -dsimp [t0, t2, t8, t10, z0, z1, d1, d3, d4, w1, show IntKind.wrap .i64 0 = 0 from rfl, show IntKind.wrap .i64 1 = 1 from rfl, show IntKind.wrap .i64 2 = 2 from rfl, show IntKind.wrap .i64 3 = 3 from rfl, show IntKind.wrap .i64 4 = 4 from rfl]
        refine callS_ (h2 _ _) ?_
        rintro t m2 n2 ⟨hle2, hout2, i2, ys, next2, rfl, hj0, hj1, hmj, hyl, hok2, hno2⟩
        have hi2 : i < n2 := by omega
        have hmi2 : m2 i = some (.arr 126 (xs.map Mark.v)) := by rw [hout2 i hi1, hmi]
        have f1 := far hi2
        have f2 := far hj1
        have b0 : xs.length * 16 ≤ 140737488355328 := by omega
        have b1 : (xs.length + ys.length) * 16 ≤ 140737488355328 := by omega
        have b2 : (xs.length + ys.length + 1) * 16 ≤ 140737488355328 := by omega
        simp -dsimp [t0, t2, t8, t9, t10, hmu, hmi2, hmj, f1, f2, b0, b1, b2, nes]
        refine ⟨st_out fun s' ht hm' hn' hu' => ?_, ?_⟩
        · have a0 := ht 0
          have a2 := ht 2
          have a8 := ht 8
          have a9 := ht 9
          have a10 := ht 10
          simp -dsimp [t0, t2, t8] at a0 a2 a8 a9 a10 hm' hn' hu'
          clear ht
          refine ⟨_, xs ++ ys ++ [⟨5, 0⟩], next2, a0, a2, a8, a9, a10, by rw [hu', hmu], by omega, fun j hj => ?_, by omega, by omega, ?_, by simp; omega, ?_⟩
          · have e1 : j < n2 := by omega
            have e2 : ¬ j = i := by rintro rfl; omega
            have e3 := far e1
            simp [hm', e2, e3, hout2 j (by omega), hm j hj]
          · simp [hm', nes, Mark.v]
          · exact level_next hG2 g2 hok2 hno2 (by omega) (by omega)
        · have := level_mu (Tx := Tx) g2 hok2 hno2
          generalize (p more).ok = b at *
          simp only [t10, numAt_int, if_neg z0] at this ⊢
          omega
    · rintro s1 ⟨i, xs, next, t9, t10, hn, hm, hi0, hi1, hmi, hxl, hok, hno⟩
      simp -dsimp [t9, t10]
      exact ⟨hn, hm, i, xs, next, rfl, hi0, hi1, hmi, hxl, hok, hno⟩
theorem l2Level_base (Tx : List UInt8) (F : Nat) (p : List UInt8 → R) (hf : SFn 133 Tx F [] p) : SFn 110 Tx F [.v (.int .i64 2)] p := by
  intro q hq hF m n
  have h := hf q hq hF m n
  generalize Tx.length - q = L at *
  generalize p (Tx.drop q) = r at *
  refine FnS_of (rs := [.tmp 6, .tmp 7]) false Tryz.func110 rfl rfl rfl rfl (Nat.le_of_ble_eq_true rfl) ?_
  simp -dsimp
  refine callS_ h ?_
  rintro t m1 n1 ⟨hle, hout, i, xs, next, rfl, hi0, hi1, hmi, hxl, hok, hno⟩
  simp -dsimp
  exact ⟨hle, hout, i, xs, next, rfl, hi0, hi1, hmi, hxl, hok, hno⟩
theorem l2Level_all (Tx : List UInt8) (hS : Tx.length ≤ 1000000) (F : Nat) (hf : SFn 133 Tx F [] (rPart atomS F)) : SFn 110 Tx F [.v (.int .i64 5)] (rSame atomS F) := by
  have hp := rPart_good atomS_good F
  have h3 := l2Level_fn Tx hS F _ 38 3 (.inl ⟨rfl, rfl⟩) hp (l2Level_base Tx F _ hf)
  have g3 := rRow_good hp (sg := 38) (k := 3) (by omega) (by omega) F
  have h4 := l2Level_fn Tx hS F _ 124 4 (.inr (.inl ⟨rfl, rfl⟩)) g3 h3
  have g4 := rRow_good g3 (sg := 124) (k := 4) (by omega) (by omega) F
  exact l2Level_fn Tx hS F _ 61 5 (.inr (.inr ⟨rfl, rfl⟩)) g4 h4
theorem SPost.mk' {Tx : List UInt8} {L : Nat} {r : R} {m m' : Mem} {n n' i : Nat} {next : Int} (xs : List Mark) (h1 : n ≤ n') (h2 : ∀ j, j < n → m' j = m j) (h3 : n ≤ i) (h4 : i < n') (h5 : m' i = some (.arr 126 (xs.map Mark.v))) (h6 : xs.length ≤ L)
    (h7 : r.ok = true → xs = r.ms ∧ ∃ q : Nat, next = q ∧ Tx.drop q = r.rest ∧ q ≤ Tx.length) (h8 : r.ok = false → next = -1) : SPost Tx L m n r (.tup [.loc i, .v (.int .i64 next)]) m' n' := ⟨h1, h2, i, xs, next, rfl, h3, h4, h5, h6, h7, h8⟩
theorem sPart_letter (f : Nat) (c : UInt8) (s : List UInt8) (h1 : 97 ≤ c.toNat) (h2 : c.toNat ≤ 100) : rPart atomS (f + 1) (c :: s) = ⟨[⟨0, (c.toNat : Int) - 97⟩], s, true⟩ := rPart_one _ _ _ _ _ (if_pos ⟨h1, h2⟩)
theorem sPart_digit (f : Nat) (c : UInt8) (s : List UInt8) (h0 : ¬ (97 ≤ c.toNat ∧ c.toNat ≤ 100)) (h1 : 48 ≤ c.toNat) (h2 : c.toNat ≤ 53) : rPart atomS (f + 1) (c :: s) = ⟨[⟨1, (c.toNat : Int) - 48⟩], s, true⟩ := rPart_one _ _ _ _ _ (by unfold atomS; rw [if_neg h0, if_pos ⟨h1, h2⟩])
theorem atomS_none {c : UInt8} (h0 : ¬ (97 ≤ c.toNat ∧ c.toNat ≤ 100)) (h1 : ¬ (48 ≤ c.toNat ∧ c.toNat ≤ 53)) : atomS c = none := by unfold atomS; rw [if_neg h0, if_neg h1]
theorem l2Atom_end (Tx : List UInt8) (hS : Tx.length ≤ 1000000) (m : Mem) (n : Nat) (r : R) (hr : r.ok = false) (L : Nat) : FnS Tryz.prog 133 m n [.v (.str Tx), .v (.int .i64 Tx.length)] (SPost Tx L m n r) := by
  have z0 : ¬ (Tx.length : Int) < 0 := by omega
  refine FnS_of (rs := [.tmp 4, .tmp 5]) false Tryz.func133 rfl rfl rfl rfl (Nat.le_of_ble_eq_true rfl) ?_
  simp -dsimp [z0]
  exact SPost.mk' [] (by omega) (fun j hj => by simp; omega) (by omega) (by omega) (by simp) (by simp) (by simp [hr]) (fun _ => rfl)
theorem l2Atom_fn (Tx : List UInt8) (hS : Tx.length ≤ 1000000) : ∀ F, SFn 133 Tx F [] (rPart atomS F)
  | 0 => fun q hq hF m n => by
    have e : q = Tx.length := by omega
    subst e
    exact l2Atom_end Tx hS m n _ rfl _
  | F + 1 => fun q hq hF m n => by
    by_cases hql : q = Tx.length
    · subst hql
      refine l2Atom_end Tx hS m n _ ?_ _
      rw [List.drop_length]; rfl
    have hlt : q < Tx.length := by omega
    have hd : Tx.drop q = Tx[q] :: Tx.drop (q + 1) := drop_cons hlt
    rw [hd]
    have ih := l2Atom_fn Tx hS F (q + 1) (by omega) (by omega)
    have hSm := l2Level_all Tx hS F (l2Atom_fn Tx hS F) (q + 1) (by omega) (by omega)
    have eq1 : ((q + 1 : Nat) : Int) = (q : Int) + 1 := by omega
    rw [eq1] at ih hSm
    have gS : (rSame atomS F (Tx.drop (q + 1))).ms.length + (rSame atomS F (Tx.drop (q + 1))).rest.length ≤ (Tx.drop (q + 1)).length := (rRow_good (rRow_good (rRow_good (rPart_good atomS_good F) (sg := 38) (k := 3) (by omega) (by omega) F) (sg := 124) (k := 4) (by omega) (by omega) F) (sg := 61) (k := 5) (by omega) (by omega) F _).1
    rw [List.length_drop] at gS
    have hlt8 := UInt8.toNat_lt Tx[q]
    have z0 : ¬ (q : Int) < 0 := by omega
    have z1 : ¬ (Tx.length : Int) ≤ (q : Int) := by omega
    have z2 : ¬ Tx.length ≤ q := by omega
    have w1 : IntKind.wrap .i64 ((q : Int) + 1) = (q : Int) + 1 := w64 (by omega) (by omega)
    have hL1 : Tx.length - q = Tx.length - (q + 1) + 1 := by omega
    rw [hL1]
    generalize hc : Tx[q] = c at *
    generalize hs : Tx.drop (q + 1) = s at *
    generalize hL2 : Tx.length - (q + 1) = L at *
    have hq1 : q + 1 ≤ Tx.length := by omega
    by_cases hlet : 97 ≤ c.toNat ∧ c.toNat ≤ 100
    · have i1 : (97 : Int) ≤ c.toNat := by omega
      have i2 : (c.toNat : Int) ≤ 100 := by omega
      have v1 : IntKind.wrap .u8 ((c.toNat : Int) - 97) = (c.toNat : Int) - 97 := by rw [IntKind.wrap_u8]; omega
      have v2 : IntKind.wrap .i64 ((c.toNat : Int) - 97) = (c.toNat : Int) - 97 := w64 (by omega) (by omega)
      rw [sPart_letter F c s hlet.1 hlet.2]
      refine FnS_of (rs := [.tmp 4, .tmp 5]) false Tryz.func133 rfl rfl rfl rfl (Nat.le_of_ble_eq_true rfl) ?_
      simp -dsimp [z0, z1, z2, hlt, hc, i1, i2, v1, v2, w1]
      exact SPost.mk' [⟨0, (c.toNat : Int) - 97⟩] (by omega) (fun j hj => by simp; omega) (by omega) (by omega) (by simp [Mark.v]) (by simp) (fun _ => ⟨rfl, q + 1, by omega, hs, hq1⟩) (by simp)
    by_cases hdig : 48 ≤ c.toNat ∧ c.toNat ≤ 53
    · have i1 : (48 : Int) ≤ c.toNat := by omega
      have i2 : (c.toNat : Int) ≤ 53 := by omega
      have i3 : ¬ (97 : Int) ≤ c.toNat := by omega
      have v1 : IntKind.wrap .u8 ((c.toNat : Int) - 48) = (c.toNat : Int) - 48 := by rw [IntKind.wrap_u8]; omega
      have v2 : IntKind.wrap .i64 ((c.toNat : Int) - 48) = (c.toNat : Int) - 48 := w64 (by omega) (by omega)
      rw [sPart_digit F c s hlet hdig.1 hdig.2]
      refine FnS_of (rs := [.tmp 4, .tmp 5]) false Tryz.func133 rfl rfl rfl rfl (Nat.le_of_ble_eq_true rfl) ?_
      simp -dsimp [z0, z1, z2, hlt, hc, i1, i2, i3, v1, v2, w1]
      exact SPost.mk' [⟨1, (c.toNat : Int) - 48⟩] (by omega) (fun j hj => by simp; omega) (by omega) (by omega) (by simp [Mark.v]) (by simp) (fun _ => ⟨rfl, q + 1, by omega, hs, hq1⟩) (by simp)
    have hA := atomS_none hlet hdig
    by_cases h33 : c = 33
    · subst h33
      have ePart := rPart_not atomS F s rfl
      rw [ePart]
      refine FnS_of (rs := [.tmp 4, .tmp 5]) false Tryz.func133 rfl rfl rfl rfl (Nat.le_of_ble_eq_true rfl) ?_
      simp -dsimp [z0, z1, z2, hlt, hc, w1]
      refine callS_ (ih _ _) ?_
      rintro t m2 n2 ⟨hle2, hout2, i2, xs, next2, rfl, hj0, hj1, hmj, hyl, hok2, hno2⟩
      have f2 := far hj1
      have b0 : xs.length * 16 ≤ 140737488355328 := by omega
      have b1 : (xs.length + 1) * 16 ≤ 140737488355328 := by omega
      simp -dsimp [hmj, f2, b0, b1, nes]
      refine SPost.mk' (xs ++ [⟨2, 0⟩]) (by omega) (fun j hj => ?_) (by omega) (by omega) (by simp [Mark.v, nes]) (by simp; omega) (fun h => ?_) hno2
      · have f3 := far (show j < n2 by omega)
        have hj' : j < n := hj
        have f4 : ¬ j = i2 := by omega
        simp [f3, f4, hout2 j hj]
      · obtain ⟨e1, e2⟩ := hok2 h
        exact ⟨by rw [e1], e2⟩
    by_cases h40 : c = 40
    · subst h40
      have ePart := rPart_open atomS F s rfl
      rw [ePart]
      have hb := ft (rSame atomS F s).ok
      rcases hb with hb | hb
      · refine FnS_of (rs := [.tmp 4, .tmp 5]) false Tryz.func133 rfl rfl rfl rfl (Nat.le_of_ble_eq_true rfl) ?_
        simp -dsimp [z0, z1, z2, hlt, hc, w1]
        refine callS_ (hSm _ _) ?_
        rintro t m2 n2 ⟨hle2, hout2, i2, xs, next2, rfl, hj0, hj1, hmj, hyl, hok2, hno2⟩
        have hn1 := hno2 hb
        have esh : (shut (rSame atomS F s)).ok = false := by
          unfold shut; split
          · rfl
          · split
            · exact hb
            · rfl
        simp -dsimp [hn1]
        refine SPost.mk' [] (by omega) (fun j hj => ?_) (by omega) (by omega) (by simp) (by simp) (by simp [esh]) (fun _ => rfl)
        have f3 := far (show j < n2 by omega)
        simp [f3, hout2 j hj]
      cases hr : (rSame atomS F s).rest with
      | nil =>
        have esh : (shut (rSame atomS F s)).ok = false := by unfold shut; rw [hr]
        refine FnS_of (rs := [.tmp 4, .tmp 5]) false Tryz.func133 rfl rfl rfl rfl (Nat.le_of_ble_eq_true rfl) ?_
        simp -dsimp [z0, z1, z2, hlt, hc, w1]
        refine callS_ (hSm _ _) ?_
        rintro t m2 n2 ⟨hle2, hout2, i2, xs, next2, rfl, hj0, hj1, hmj, hyl, hok2, hno2⟩
        refine (hok2 hb).2.elim fun q3 hq => ?_
        have e1 := hq.1
        have e2 := hq.2.1
        have e3 := hq.2.2
        have hq3 : q3 = Tx.length := by
          have e4 := congrArg List.length e2
          rw [hr, List.length_drop] at e4
          simp at e4; omega
        have y0 : ¬ (q3 : Int) < 0 := by omega
        have y1 : (Tx.length : Int) ≤ (q3 : Int) := by omega
        have y2 : Tx.length ≤ q3 := by omega
        simp -dsimp [e1, y0, y1, y2]
        refine SPost.mk' [] (by omega) (fun j hj => ?_) (by omega) (by omega) (by simp) (by simp) (by simp [esh]) (fun _ => rfl)
        have f3 := far (show j < n2 by omega)
        simp [f3, hout2 j hj]
      | cons x r =>
        have esh : shut (rSame atomS F s) = if x = 41 then ⟨(rSame atomS F s).ms, r, true⟩ else ⟨(rSame atomS F s).ms, x :: r, false⟩ := by unfold shut; rw [hr, hb]
        rw [esh]
        by_cases hx : x = 41
        · subst hx
          rw [if_pos rfl]
          refine FnS_of (rs := [.tmp 4, .tmp 5]) false Tryz.func133 rfl rfl rfl rfl (Nat.le_of_ble_eq_true rfl) ?_
          simp -dsimp [z0, z1, z2, hlt, hc, w1]
          refine callS_ (hSm _ _) ?_
          rintro t m2 n2 ⟨hle2, hout2, i2, xs, next2, rfl, hj0, hj1, hmj, hyl, hok2, hno2⟩
          have hms := (hok2 hb).1
          refine (hok2 hb).2.elim fun q3 hq => ?_
          have e1 := hq.1
          have e2 := hq.2.1
          have e3 := hq.2.2
          have e4 : Tx.drop q3 = 41 :: r := e2.trans hr
          have d1 := (drop_one e4).1
          have d2 := (drop_one e4).2.1
          have d3 := (drop_one e4).2.2
          have d4 : Tx[q3] = 41 := by have h := d1; rw [List.getElem?_eq_getElem d3] at h; exact Option.some.inj h
          have y0 : ¬ (q3 : Int) < 0 := by omega
          have y1 : ¬ (Tx.length : Int) ≤ (q3 : Int) := by omega
          have y2 : ¬ Tx.length ≤ q3 := by omega
          have v1 : IntKind.wrap .i64 ((q3 : Int) + 1) = (q3 : Int) + 1 := w64 (by omega) (by omega)
          simp -dsimp [e1, y0, y1, y2, d3, d4, v1]
          exact SPost.mk' xs (by omega) hout2 (by omega) (by omega) hmj (by omega) (fun _ => ⟨hms, q3 + 1, by omega, d2, by omega⟩) (by simp)
        · have hx' : ¬ (x.toNat : Int) = 41 := fun h => hx (UInt8.toNat.inj (by show x.toNat = 41; omega))
          rw [if_neg hx]
          refine FnS_of (rs := [.tmp 4, .tmp 5]) false Tryz.func133 rfl rfl rfl rfl (Nat.le_of_ble_eq_true rfl) ?_
          simp -dsimp [z0, z1, z2, hlt, hc, w1]
          refine callS_ (hSm _ _) ?_
          rintro t m2 n2 ⟨hle2, hout2, i2, xs, next2, rfl, hj0, hj1, hmj, hyl, hok2, hno2⟩
          refine (hok2 hb).2.elim fun q3 hq => ?_
          have e1 := hq.1
          have e2 := hq.2.1
          have e3 := hq.2.2
          have e4 : Tx.drop q3 = x :: r := e2.trans hr
          have d1 := (drop_one e4).1
          have d3 := (drop_one e4).2.2
          have d4 : Tx[q3] = x := by have h := d1; rw [List.getElem?_eq_getElem d3] at h; exact Option.some.inj h
          have y0 : ¬ (q3 : Int) < 0 := by omega
          have y1 : ¬ (Tx.length : Int) ≤ (q3 : Int) := by omega
          have y2 : ¬ Tx.length ≤ q3 := by omega
          simp -dsimp [e1, y0, y1, y2, d3, d4, hx']
          refine SPost.mk' [] (by omega) (fun j hj => ?_) (by omega) (by omega) (by simp) (by simp) (by simp) (fun _ => rfl)
          have f3 := far (show j < n2 by omega)
          simp [f3, hout2 j hj]
    have eElse := rPart_else atomS F c s hA h33 h40
    rw [eElse]
    have k33 : ¬ (c.toNat : Int) = 33 := fun h => h33 (UInt8.toNat.inj (by show c.toNat = 33; omega))
    have k40 : ¬ (c.toNat : Int) = 40 := fun h => h40 (UInt8.toNat.inj (by show c.toNat = 40; omega))
    have three : ((¬ (97 : Int) ≤ c.toNat) ∧ ¬ (48 : Int) ≤ c.toNat) ∨ ((¬ (97 : Int) ≤ c.toNat) ∧ (48 : Int) ≤ c.toNat ∧ ¬ (c.toNat : Int) ≤ 53) ∨ ((97 : Int) ≤ c.toNat ∧ (¬ (c.toNat : Int) ≤ 100) ∧ (48 : Int) ≤ c.toNat ∧ ¬ (c.toNat : Int) ≤ 53) := by omega
    rcases three with ⟨h1, h2⟩ | ⟨h1, h2, h3⟩ | ⟨h1, h2, h3, h4⟩
    · refine FnS_of (rs := [.tmp 4, .tmp 5]) false Tryz.func133 rfl rfl rfl rfl (Nat.le_of_ble_eq_true rfl) ?_
      simp -dsimp [z0, z1, z2, hlt, hc, h1, h2, k33, k40]
      exact SPost.mk' [] (by omega) (fun j hj => by simp; omega) (by omega) (by omega) (by simp) (by simp) (by simp) (fun _ => rfl)
    · refine FnS_of (rs := [.tmp 4, .tmp 5]) false Tryz.func133 rfl rfl rfl rfl (Nat.le_of_ble_eq_true rfl) ?_
      simp -dsimp [z0, z1, z2, hlt, hc, h1, h2, h3, k33, k40]
      exact SPost.mk' [] (by omega) (fun j hj => by simp; omega) (by omega) (by omega) (by simp) (by simp) (by simp) (fun _ => rfl)
    · refine FnS_of (rs := [.tmp 4, .tmp 5]) false Tryz.func133 rfl rfl rfl rfl (Nat.le_of_ble_eq_true rfl) ?_
      simp -dsimp [z0, z1, z2, hlt, hc, h1, h2, h3, h4, k33, k40]
      exact SPost.mk' [] (by omega) (fun j hj => by simp; omega) (by omega) (by omega) (by simp) (by simp) (by simp) (fun _ => rfl)
end TL

/- The texts of terms and claims: what the program writes. -/
set_option linter.unusedSimpArgs false
set_option linter.unusedVariables false
set_option maxRecDepth 100000
set_option maxHeartbeats 4000000
set_option pp.maxSteps 1500
namespace TL
open Go Go.Proofs
attribute [local simp] marksV storyV codeV Claim.v Place.v
theorem Tm.kind_le : ∀ T : Tm, T.ok → T.kind ≤ 5
  | .tells _, _ => by simp [kind]
  | .count _, _ => by simp [kind]
  | .not _, _ => by simp [kind]
  | .bin k a b, h => by have := h.1; simp [kind]; omega
theorem held_tm (a : Tm) (ha : a.ok) (hl : a.marks.length ≤ 1048576) (ih : FnZ Tryz.prog 97 [marksV a.marks] (.str a.text)) (ks : List Int) (hks : ks.length ≤ 10) (q : Bool) (hq : decide ((a.kind : Int) ∈ ks) = q) :
    FnZ Tryz.prog 123 [marksV a.marks, .sl (ks.map (V.int .i64))] (.str (par q a.text)) := by
  obtain ⟨pre, m, h1, h2⟩ := a.last
  have := a.text_len
  have h := held_fn a.marks a.text pre m ks h1 ih (by omega) hl hks
  rw [h2, hq] at h
  exact h
theorem textOf_fn : ∀ T : Tm, T.ok → T.marks.length ≤ 1048576 → FnZ Tryz.prog 97 [marksV T.marks] (.str T.text)
  | .tells i, hok, hl => by
    have hi : i < 4 := hok
    have w1 : IntKind.wrap .i64 (97 + (i : Int)) = 97 + i := w64 (by omega) (by omega)
    have w2 : IntKind.wrap .u8 (97 + (i : Int)) = 97 + i := by rw [IntKind.wrap_u8]; omega
    have w3 : (97 + (i : Int)).toNat = 97 + i := by omega
    have w4 : IntKind.wrap .i64 0 = 0 := rfl
    refine FnZ_of (rs := [.tmp 2]) false Tryz.func97 rfl rfl rfl rfl (Nat.le_of_ble_eq_true rfl) ?_
    simp -dsimp [Tm.marks, Mark.v, w1, w2, w3, w4, Tm.text]
  | .count i, hok, hl => by
    have hi : i < 6 := hok
    have w1 : IntKind.wrap .i64 (48 + (i : Int)) = 48 + i := w64 (by omega) (by omega)
    have w2 : IntKind.wrap .u8 (48 + (i : Int)) = 48 + i := by rw [IntKind.wrap_u8]; omega
    have w3 : (48 + (i : Int)).toNat = 48 + i := by omega
    have w4 : IntKind.wrap .i64 0 = 0 := rfl
    refine FnZ_of (rs := [.tmp 2]) false Tryz.func97 rfl rfl rfl rfl (Nat.le_of_ble_eq_true rfl) ?_
    simp -dsimp [Tm.marks, Mark.v, w1, w2, w3, w4, Tm.text]
  | .not a, hok, hl => by
    have hla : a.marks.length ≤ 1048576 := by simp [Tm.marks] at hl; omega
    have ih := textOf_fn a hok hla
    have hka := a.kind_le hok
    have htl := a.text_len
    have hpl := par_len (decide (3 ≤ a.kind)) a.text
    have hh := held_tm a hok hla ih [3, 4, 5] (by simp) (decide (3 ≤ a.kind)) (by rw [Bool.eq_iff_iff]; simp; omega)
    have e0 : (Tm.not a).marks = a.marks ++ [⟨2, 0⟩] := rfl
    have hlen : (Tm.not a).marks.length = a.marks.length + 1 := by rw [e0]; simp
    have hget : (Tm.not a).marks[a.marks.length]? = some ⟨2, 0⟩ := by rw [e0]; simp
    have htake : List.take a.marks.length (List.map Mark.v (Tm.not a).marks) = List.map Mark.v a.marks := by rw [e0]; simp
    have w1 : IntKind.wrap .i64 (((Tm.not a).marks.length : Int) - 1) = (a.marks.length : Int) := by rw [w64 (by omega) (by omega)]; omega
    have hle : a.marks.length ≤ (Tm.not a).marks.length := by omega
    have b1 : (1 : Int) + (par (decide (3 ≤ a.kind)) a.text).length ≤ 9223372036854775807 := by omega
    have et : (Tm.not a).text = 33 :: par (decide (3 ≤ a.kind)) a.text := rfl
    rw [et]
    generalize (Tm.not a).marks = l at *
    generalize par (decide (3 ≤ a.kind)) a.text = s at *
    refine FnZ_of (rs := [.tmp 2]) false Tryz.func97 rfl rfl rfl rfl (Nat.le_of_ble_eq_true rfl) ?_
    simp -dsimp [w1, hget, htake, hle]
    refine call_ hh (by simp -dsimp) ?_
    simp -dsimp [b1]
  | .bin k a b, hok, hl => by
    obtain ⟨hk, hoa, hob⟩ := hok
    have hlab : a.marks.length + b.marks.length ≤ 1048575 := by simp [Tm.marks] at hl; omega
    have iha := textOf_fn a hoa (by omega)
    have ihb := textOf_fn b hob (by omega)
    have hka := a.kind_le hoa
    have hkb := b.kind_le hob
    have hta := a.text_len
    have htb := b.text_len
    have hpa := par_len (decide (3 + k < a.kind)) a.text
    have hpb := par_len (decide (3 + k ≤ b.kind)) b.text
    have hlp := lastPart_fn a.marks b hob (by simp; omega)
    have e0 : (Tm.bin k a b).marks = a.marks ++ b.marks ++ [⟨3 + k, 0⟩] := rfl
    have hlen : (Tm.bin k a b).marks.length = a.marks.length + b.marks.length + 1 := by rw [e0]; simp; omega
    have hget : (Tm.bin k a b).marks[a.marks.length + b.marks.length]? = some ⟨3 + k, 0⟩ := by
      rw [e0, List.getElem?_append_right (by simp)]; simp
    have htake : List.take (a.marks.length + b.marks.length) (List.map Mark.v (Tm.bin k a b).marks) = List.map Mark.v (a.marks ++ b.marks) := by
      rw [e0, List.map_append, List.take_left' (by simp)]
    have htake2 : List.take a.marks.length (List.map Mark.v (Tm.bin k a b).marks) = List.map Mark.v a.marks := by
      rw [e0, List.append_assoc, List.map_append, List.take_left' (by simp)]
    have hdrop : List.drop a.marks.length (List.map Mark.v (a.marks ++ b.marks)) = List.map Mark.v b.marks := by
      rw [List.map_append, List.drop_left' (by simp)]
    have et : (Tm.bin k a b).text = par (decide (3 + k < a.kind)) a.text ++ sign k :: par (decide (3 + k ≤ b.kind)) b.text := rfl
    have hha := held_tm a hoa (by omega) iha
    have hhb := held_tm b hob (by omega) ihb
    rw [et]
    obtain ⟨n, hn⟩ : ∃ n, n = a.marks.length + b.marks.length := ⟨_, rfl⟩
    rw [← hn] at hlen hget htake
    have hc1 : a.marks.length ≤ n := by omega
    have hle : n ≤ (Tm.bin k a b).marks.length := by omega
    have w1 : IntKind.wrap .i64 (((Tm.bin k a b).marks.length : Int) - 1) = (n : Int) := by rw [w64 (by omega) (by omega)]; omega
    have hkk : k = 0 ∨ k = 1 ∨ k = 2 := by omega
    generalize hL : (Tm.bin k a b).marks = l at *
    generalize hM : a.marks ++ b.marks = M at *
    clear e0 hL hM et
    rcases hkk with hkk | hkk | hkk
    · subst hkk
      have h1 := hha [4, 5] (by simp) (decide (3 + 0 < a.kind)) (by rw [Bool.eq_iff_iff]; simp; omega)
      have h2 := hhb [3, 4, 5] (by simp) (decide (3 + 0 ≤ b.kind)) (by rw [Bool.eq_iff_iff]; simp; omega)
      generalize par (decide (3 + 0 < a.kind)) a.text = s1 at *
      generalize par (decide (3 + 0 ≤ b.kind)) b.text = s2 at *
      have c1 : (s1.length : Int) + 1 ≤ 9223372036854775807 := by omega
      have c2 : (s1.length : Int) + 1 + s2.length ≤ 9223372036854775807 := by omega
      have c3 : (s1.length : Int) + (1 + s2.length) ≤ 9223372036854775807 := by omega
      refine FnZ_of (rs := [.tmp 2]) false Tryz.func97 rfl rfl rfl rfl (Nat.le_of_ble_eq_true rfl) ?_
      simp -dsimp [w1, hget, htake, hle, Mark.v]
      refine call_ hlp (by simp -dsimp) ?_
      simp -dsimp
      refine twp_draw (List.range 9) [] (List.replicate 9 []) (List.replicate 9 []) (by kernel_rfl) (by kernel_rfl) (by kernel_rfl) (by kernel_rfl) ?_
      simp -dsimp [List.range_succ, htake, htake2, hdrop, hle, hc1, show a.marks.length ≤ l.length by omega]
      refine call_ h1 (by simp -dsimp) ?_
      simp -dsimp [c1]
      refine call_ h2 (by simp -dsimp) ?_
      simp -dsimp [c1, c2, c3, sign]
    · subst hkk
      have h1 := hha [5] (by simp) (decide (3 + 1 < a.kind)) (by rw [Bool.eq_iff_iff]; simp; omega)
      have h2 := hhb [4, 5] (by simp) (decide (3 + 1 ≤ b.kind)) (by rw [Bool.eq_iff_iff]; simp; omega)
      generalize par (decide (3 + 1 < a.kind)) a.text = s1 at *
      generalize par (decide (3 + 1 ≤ b.kind)) b.text = s2 at *
      have c1 : (s1.length : Int) + 1 ≤ 9223372036854775807 := by omega
      have c2 : (s1.length : Int) + 1 + s2.length ≤ 9223372036854775807 := by omega
      have c3 : (s1.length : Int) + (1 + s2.length) ≤ 9223372036854775807 := by omega
      refine FnZ_of (rs := [.tmp 2]) false Tryz.func97 rfl rfl rfl rfl (Nat.le_of_ble_eq_true rfl) ?_
      simp -dsimp [w1, hget, htake, hle, Mark.v]
      refine call_ hlp (by simp -dsimp) ?_
      simp -dsimp
      refine twp_draw (List.range 9) [] (List.replicate 9 []) (List.replicate 9 []) (by kernel_rfl) (by kernel_rfl) (by kernel_rfl) (by kernel_rfl) ?_
      simp -dsimp [List.range_succ, htake, htake2, hdrop, hle, hc1, show a.marks.length ≤ l.length by omega]
      refine call_ h1 (by simp -dsimp) ?_
      simp -dsimp [c1]
      refine call_ h2 (by simp -dsimp) ?_
      simp -dsimp [c1, c2, c3, sign]
    · subst hkk
      have h1 := iha
      have e5 : par (decide (3 + 2 < a.kind)) a.text = a.text := by rw [decide_eq_false (by omega)]; rfl
      rw [e5]
      have h2 := hhb [5] (by simp) (decide (3 + 2 ≤ b.kind)) (by rw [Bool.eq_iff_iff]; simp; omega)
      generalize a.text = s1 at *
      generalize par (decide (3 + 2 ≤ b.kind)) b.text = s2 at *
      have c1 : (s1.length : Int) + 1 ≤ 9223372036854775807 := by omega
      have c2 : (s1.length : Int) + 1 + s2.length ≤ 9223372036854775807 := by omega
      have c3 : (s1.length : Int) + (1 + s2.length) ≤ 9223372036854775807 := by omega
      refine FnZ_of (rs := [.tmp 2]) false Tryz.func97 rfl rfl rfl rfl (Nat.le_of_ble_eq_true rfl) ?_
      simp -dsimp [w1, hget, htake, hle, Mark.v]
      refine call_ hlp (by simp -dsimp) ?_
      simp -dsimp
      refine twp_draw (List.range 9) [] (List.replicate 9 []) (List.replicate 9 []) (by kernel_rfl) (by kernel_rfl) (by kernel_rfl) (by kernel_rfl) ?_
      simp -dsimp [List.range_succ, htake, htake2, hdrop, hle, hc1, show a.marks.length ≤ l.length by omega]
      refine call_ h1 (by simp -dsimp) ?_
      simp -dsimp [c1]
      refine call_ h2 (by simp -dsimp) ?_
      simp -dsimp [c1, c2, c3, sign]
end TL

/- The texts of terms: what the reference writes. -/
set_option linter.unusedSimpArgs false
set_option linter.unusedVariables false
set_option maxRecDepth 100000
set_option maxHeartbeats 4000000
set_option pp.maxSteps 1500
namespace TL
open Go Go.Proofs
attribute [local simp] marksV storyV codeV Claim.v Place.v
theorem l1Number_fn (n : Nat) (hn : n < 10) : FnZ Tryz.prog 66 [.int .i64 n] (.str [UInt8.ofNat (48 + n)]) := by
  have h1 : (n : Int) < 10 := by omega
  have h2 : max (n : Int) 0 = n := by omega
  have w1 : IntKind.wrap .i64 (48 + (n : Int)) = 48 + n := w64 (by omega) (by omega)
  have w2 : IntKind.wrap .u8 (48 + (n : Int)) = 48 + n := by rw [IntKind.wrap_u8]; omega
  have w3 : (48 + (n : Int)).toNat = 48 + n := by omega
  refine FnZ_of (rs := [.tmp 2]) false Tryz.func66 rfl rfl rfl rfl (Nat.le_of_ble_eq_true rfl) ?_
  simp -dsimp [h1, hn, h2, w1, w2, w3]
theorem l2Binds_fn (l pre : List Mark) (m : Mark) (hlast : l = pre ++ [m]) (h0 : 0 ≤ m.kind) (h5 : m.kind ≤ 5) (hl : l.length ≤ 1048576) : FnZ Tryz.prog 115 [marksV l] (.int .i64 (min (5 - m.kind) 3)) := by
  have hlen : l.length = pre.length + 1 := by rw [hlast]; simp
  have hget : l[pre.length]? = some m := by rw [hlast]; simp
  have w1 : IntKind.wrap .i64 ((l.length : Int) - 1) = (pre.length : Int) := by rw [w64 (by omega) (by omega)]; omega
  have w2 : IntKind.wrap .i64 (5 - m.kind) = 5 - m.kind := w64 (by omega) (by omega)
  generalize pre.length = n at *
  refine FnZ_of (rs := [.tmp 2]) false Tryz.func115 rfl rfl rfl rfl (Nat.le_of_ble_eq_true rfl) ?_
  simp -dsimp [w1, w2, hget]
theorem l2Held_fn (l : List Mark) (st : List UInt8) (pre : List Mark) (m : Mark) (b : Int) (q : Bool) (hq : decide (min (5 - m.kind) 3 < b) = q) (hlast : l = pre ++ [m]) (h0 : 0 ≤ m.kind) (h5 : m.kind ≤ 5) (h : FnZ Tryz.prog 89 [marksV l] (.str st)) (hs : st.length ≤ 1000000000) (hl : l.length ≤ 1048576) :
    FnZ Tryz.prog 113 [marksV l, .int .i64 b] (.str (par q st)) := by
  have b1 : (1 : Int) + st.length ≤ 9223372036854775807 := by omega
  have b2 : (st.length : Int) + 1 + 1 ≤ 9223372036854775807 := by omega
  have hb := l2Binds_fn l pre m hlast h0 h5 hl
  generalize min (5 - m.kind) 3 = x at *
  refine FnZ_of (rs := [.tmp 4]) false Tryz.func113 rfl rfl rfl rfl (Nat.le_of_ble_eq_true rfl) ?_
  simp -dsimp
  refine call_ hb (by simp -dsimp) ?_
  by_cases hx : x < b
  · rw [decide_eq_true hx] at hq
    subst hq
    simp -dsimp [hx]
    refine call_ h (by simp -dsimp) ?_
    simp -dsimp [b1, b2, par]
  · rw [decide_eq_false hx] at hq
    subst hq
    simp -dsimp [hx]
    refine call_ h (by simp -dsimp) ?_
    simp -dsimp [par]
theorem l2Held_tm (a : Tm) (ha : a.ok) (hl : a.marks.length ≤ 1048576) (ih : FnZ Tryz.prog 89 [marksV a.marks] (.str a.text)) (b : Int) (q : Bool) (hq : decide (min (5 - (a.kind : Int)) 3 < b) = q) :
    FnZ Tryz.prog 113 [marksV a.marks, .int .i64 b] (.str (par q a.text)) := by
  obtain ⟨pre, m, h1, h2⟩ := a.last
  have := a.text_len
  have := a.kind_le ha
  exact l2Held_fn a.marks a.text pre m b q (by rw [h2]; exact hq) h1 (by omega) (by omega) ih (by omega) hl
theorem l2Text_fn : ∀ T : Tm, T.ok → T.marks.length ≤ 1048576 → FnZ Tryz.prog 89 [marksV T.marks] (.str T.text)
  | .tells i, hok, hl => by
    have hi : i = 0 ∨ i = 1 ∨ i = 2 ∨ i = 3 := by have : i < 4 := hok; omega
    have w4 : IntKind.wrap .i64 0 = 0 := rfl
    rcases hi with rfl | rfl | rfl | rfl
    all_goals
      refine FnZ_of (rs := [.tmp 2]) false Tryz.func89 rfl rfl rfl rfl (Nat.le_of_ble_eq_true rfl) ?_
      simp -dsimp [Tm.marks, Mark.v, w4, Tm.text]
      refine twp_draw (List.range 13) [] (List.replicate 13 []) (List.replicate 13 []) (by kernel_rfl) (by kernel_rfl) (by kernel_rfl) (by kernel_rfl) ?_
      simp -dsimp [List.range_succ, Tm.marks, Mark.v, w4, Tm.text, show IntKind.wrap .i64 1 = 1 from rfl, show IntKind.wrap .i64 2 = 2 from rfl, show IntKind.wrap .i64 3 = 3 from rfl, show IntKind.wrap .i64 4 = 4 from rfl]
  | .count i, hok, hl => by
    have hi : i < 6 := hok
    have w4 : IntKind.wrap .i64 0 = 0 := rfl
    refine FnZ_of (rs := [.tmp 2]) false Tryz.func89 rfl rfl rfl rfl (Nat.le_of_ble_eq_true rfl) ?_
    simp -dsimp [Tm.marks, Mark.v, w4, Tm.text]
    refine call_ (l1Number_fn i (by omega)) (by simp -dsimp) ?_
    simp -dsimp [Tm.text]
  | .not a, hok, hl => by
    have hla : a.marks.length ≤ 1048576 := by simp [Tm.marks] at hl; omega
    have ih := l2Text_fn a hok hla
    have hka := a.kind_le hok
    have htl := a.text_len
    have hpl := par_len (decide (3 ≤ a.kind)) a.text
    have hh := l2Held_tm a hok hla ih 3 (decide (3 ≤ a.kind)) (by rw [Bool.eq_iff_iff]; simp; omega)
    have e0 : (Tm.not a).marks = a.marks ++ [⟨2, 0⟩] := rfl
    have hlen : (Tm.not a).marks.length = a.marks.length + 1 := by rw [e0]; simp
    have hget : (Tm.not a).marks[a.marks.length]? = some ⟨2, 0⟩ := by rw [e0]; simp
    have htake : List.take a.marks.length (List.map Mark.v (Tm.not a).marks) = List.map Mark.v a.marks := by rw [e0]; simp
    have w1 : IntKind.wrap .i64 (((Tm.not a).marks.length : Int) - 1) = (a.marks.length : Int) := by rw [w64 (by omega) (by omega)]; omega
    have hle : a.marks.length ≤ (Tm.not a).marks.length := by omega
    have b1 : (1 : Int) + (par (decide (3 ≤ a.kind)) a.text).length ≤ 9223372036854775807 := by omega
    have et : (Tm.not a).text = 33 :: par (decide (3 ≤ a.kind)) a.text := rfl
    rw [et]
    generalize (Tm.not a).marks = l at *
    generalize par (decide (3 ≤ a.kind)) a.text = s at *
    refine FnZ_of (rs := [.tmp 2]) false Tryz.func89 rfl rfl rfl rfl (Nat.le_of_ble_eq_true rfl) ?_
    simp -dsimp [w1, hget, htake, hle]
    refine call_ hh (by simp -dsimp) ?_
    simp -dsimp [b1]
  | .bin k a b, hok, hl => by
    obtain ⟨hk, hoa, hob⟩ := hok
    have hlab : a.marks.length + b.marks.length ≤ 1048575 := by simp [Tm.marks] at hl; omega
    have iha := l2Text_fn a hoa (by omega)
    have ihb := l2Text_fn b hob (by omega)
    have hka := a.kind_le hoa
    have hkb := b.kind_le hob
    have hta := a.text_len
    have htb := b.text_len
    have hpa := par_len (decide (3 + k < a.kind)) a.text
    have hpb := par_len (decide (3 + k ≤ b.kind)) b.text
    have hlp := l2Starts_fn a.marks [⟨3 + k, 0⟩] b hob (by simp; omega)
    have hbd := l2Binds_fn (Tm.bin k a b).marks (a.marks ++ b.marks) ⟨3 + k, 0⟩ rfl (by simp; omega) (by simp; omega) hl
    have e0 : (Tm.bin k a b).marks = a.marks ++ b.marks ++ [⟨3 + k, 0⟩] := rfl
    have hlen : (Tm.bin k a b).marks.length = a.marks.length + b.marks.length + 1 := by rw [e0]; simp; omega
    have hget : (Tm.bin k a b).marks[a.marks.length + b.marks.length]? = some ⟨3 + k, 0⟩ := by
      rw [e0, List.getElem?_append_right (by simp)]; simp
    have htake : List.take (a.marks.length + b.marks.length) (List.map Mark.v (Tm.bin k a b).marks) = List.map Mark.v (a.marks ++ b.marks) := by
      rw [e0, List.map_append, List.take_left' (by simp)]
    have htake2 : List.take a.marks.length (List.map Mark.v (Tm.bin k a b).marks) = List.map Mark.v a.marks := by
      rw [e0, List.append_assoc, List.map_append, List.take_left' (by simp)]
    have hdrop : List.drop a.marks.length (List.map Mark.v (a.marks ++ b.marks)) = List.map Mark.v b.marks := by
      rw [List.map_append, List.drop_left' (by simp)]
    have et : (Tm.bin k a b).text = par (decide (3 + k < a.kind)) a.text ++ sign k :: par (decide (3 + k ≤ b.kind)) b.text := rfl
    have hha := l2Held_tm a hoa (by omega) iha
    have hhb := l2Held_tm b hob (by omega) ihb
    rw [et]
    obtain ⟨n, hn⟩ : ∃ n, n = a.marks.length + b.marks.length := ⟨_, rfl⟩
    rw [← hn] at hlen hget htake
    have hc1 : a.marks.length ≤ n := by omega
    have hle : n ≤ (Tm.bin k a b).marks.length := by omega
    have w1 : IntKind.wrap .i64 (((Tm.bin k a b).marks.length : Int) - 1) = (n : Int) := by rw [w64 (by omega) (by omega)]; omega
    have wE : IntKind.wrap .i64 ((n : Int) - 1) = (a.marks.length : Int) + b.marks.length - 1 := by rw [w64 (by omega) (by omega)]; omega
    rw [← e0] at hlp
    have hkk : k = 0 ∨ k = 1 ∨ k = 2 := by omega
    generalize hL : (Tm.bin k a b).marks = l at *
    generalize hM : a.marks ++ b.marks = M at *
    clear e0 hL hM et
    rcases hkk with hkk | hkk | hkk
    · subst hkk
      have h1 := hha (2 - 0) (decide (3 + 0 < a.kind)) (by rw [Bool.eq_iff_iff]; simp; omega)
      have h2 := hhb (3 - 0) (decide (3 + 0 ≤ b.kind)) (by rw [Bool.eq_iff_iff]; simp; omega)
      have hbd : FnZ Tryz.prog 115 [marksV l] (.int .i64 2) := hbd
      generalize par (decide (3 + 0 < a.kind)) a.text = s1 at *
      generalize par (decide (3 + 0 ≤ b.kind)) b.text = s2 at *
      have c1 : (s1.length : Int) + 1 ≤ 9223372036854775807 := by omega
      have c2 : (s1.length : Int) + 1 + s2.length ≤ 9223372036854775807 := by omega
      have c3 : (s1.length : Int) + (1 + s2.length) ≤ 9223372036854775807 := by omega
      refine FnZ_of (rs := [.tmp 2]) false Tryz.func89 rfl rfl rfl rfl (Nat.le_of_ble_eq_true rfl) ?_
      simp -dsimp [w1, hget, htake, hle, Mark.v, wE]
      refine call_ hlp (by simp -dsimp) ?_
      simp -dsimp
      refine call_ hbd (by simp -dsimp) ?_
      simp -dsimp
      refine twp_draw [0, 1, 2, 3, 5, 6, 7, 8, 9, 11, 12, 13, 14, 15, 16, 4, 10, 17, 18, 19] [] (List.replicate 20 []) (List.replicate 20 []) (by kernel_rfl) (by kernel_rfl) (by kernel_rfl) (by kernel_rfl) ?_
      simp -dsimp [List.range_succ, htake, htake2, hdrop, hle, hc1, show a.marks.length ≤ l.length by omega, show IntKind.wrap .i64 0 = 0 from rfl, show IntKind.wrap .i64 1 = 1 from rfl, show IntKind.wrap .i64 2 = 2 from rfl, show IntKind.wrap .i64 3 = 3 from rfl]
      refine call_ h1 (by simp -dsimp) ?_
      simp -dsimp [c1]
      refine call_ h2 (by simp -dsimp) ?_
      simp -dsimp [c1, c2, c3, sign]
    · subst hkk
      have h1 := hha (2 - 1) (decide (3 + 1 < a.kind)) (by rw [Bool.eq_iff_iff]; simp; omega)
      have h2 := hhb (3 - 1) (decide (3 + 1 ≤ b.kind)) (by rw [Bool.eq_iff_iff]; simp; omega)
      have hbd : FnZ Tryz.prog 115 [marksV l] (.int .i64 1) := hbd
      generalize par (decide (3 + 1 < a.kind)) a.text = s1 at *
      generalize par (decide (3 + 1 ≤ b.kind)) b.text = s2 at *
      have c1 : (s1.length : Int) + 1 ≤ 9223372036854775807 := by omega
      have c2 : (s1.length : Int) + 1 + s2.length ≤ 9223372036854775807 := by omega
      have c3 : (s1.length : Int) + (1 + s2.length) ≤ 9223372036854775807 := by omega
      refine FnZ_of (rs := [.tmp 2]) false Tryz.func89 rfl rfl rfl rfl (Nat.le_of_ble_eq_true rfl) ?_
      simp -dsimp [w1, hget, htake, hle, Mark.v, wE]
      refine call_ hlp (by simp -dsimp) ?_
      simp -dsimp
      refine call_ hbd (by simp -dsimp) ?_
      simp -dsimp
      refine twp_draw [0, 1, 2, 3, 5, 6, 7, 8, 9, 11, 12, 13, 14, 15, 16, 4, 10, 17, 18, 19] [] (List.replicate 20 []) (List.replicate 20 []) (by kernel_rfl) (by kernel_rfl) (by kernel_rfl) (by kernel_rfl) ?_
      simp -dsimp [List.range_succ, htake, htake2, hdrop, hle, hc1, show a.marks.length ≤ l.length by omega, show IntKind.wrap .i64 0 = 0 from rfl, show IntKind.wrap .i64 1 = 1 from rfl, show IntKind.wrap .i64 2 = 2 from rfl, show IntKind.wrap .i64 3 = 3 from rfl]
      refine call_ h1 (by simp -dsimp) ?_
      simp -dsimp [c1]
      refine call_ h2 (by simp -dsimp) ?_
      simp -dsimp [c1, c2, c3, sign]
    · subst hkk
      have h1 := hha (2 - 2) (decide (3 + 2 < a.kind)) (by rw [Bool.eq_iff_iff]; simp; omega)
      have h2 := hhb (3 - 2) (decide (3 + 2 ≤ b.kind)) (by rw [Bool.eq_iff_iff]; simp; omega)
      have hbd : FnZ Tryz.prog 115 [marksV l] (.int .i64 0) := hbd
      generalize par (decide (3 + 2 < a.kind)) a.text = s1 at *
      generalize par (decide (3 + 2 ≤ b.kind)) b.text = s2 at *
      have c1 : (s1.length : Int) + 1 ≤ 9223372036854775807 := by omega
      have c2 : (s1.length : Int) + 1 + s2.length ≤ 9223372036854775807 := by omega
      have c3 : (s1.length : Int) + (1 + s2.length) ≤ 9223372036854775807 := by omega
      refine FnZ_of (rs := [.tmp 2]) false Tryz.func89 rfl rfl rfl rfl (Nat.le_of_ble_eq_true rfl) ?_
      simp -dsimp [w1, hget, htake, hle, Mark.v, wE]
      refine call_ hlp (by simp -dsimp) ?_
      simp -dsimp
      refine call_ hbd (by simp -dsimp) ?_
      simp -dsimp
      refine twp_draw [0, 1, 2, 3, 5, 6, 7, 8, 9, 11, 12, 13, 14, 15, 16, 4, 10, 17, 18, 19] [] (List.replicate 20 []) (List.replicate 20 []) (by kernel_rfl) (by kernel_rfl) (by kernel_rfl) (by kernel_rfl) ?_
      simp -dsimp [List.range_succ, htake, htake2, hdrop, hle, hc1, show a.marks.length ≤ l.length by omega, show IntKind.wrap .i64 0 = 0 from rfl, show IntKind.wrap .i64 1 = 1 from rfl, show IntKind.wrap .i64 2 = 2 from rfl, show IntKind.wrap .i64 3 = 3 from rfl]
      refine call_ h1 (by simp -dsimp) ?_
      simp -dsimp [c1]
      refine call_ h2 (by simp -dsimp) ?_
      simp -dsimp [c1, c2, c3, sign]
end TL

/- Claims, stories, places: what is one. -/
set_option linter.unusedSimpArgs false
set_option linter.unusedVariables false
set_option maxRecDepth 100000
set_option maxHeartbeats 4000000
set_option pp.maxSteps 1500
namespace TL
open Go Go.Proofs
attribute [local simp] marksV storyV codeV Claim.v Place.v
theorem peopleOk_at (p : Int) : FnZ Tryz.prog 91 [.int .i64 p] (.bool (peopleOk p)) := peopleOk_fn p
def claimOk (people : Int) (c : Claim) : Bool := peopleOk people && decide (0 ≤ c.who) && decide (c.who < people) && termOk people c.says && decide (c.says.length ≤ 13)
def storyOk (people : Int) (story : List Claim) : Bool := story.all (claimOk people) && peopleOk people && decide (story.length ≤ 6)
def placeOk (p : Place) : Bool := storyOk p.people p.story
/-- Rows that fit into a machine. -/
def Claim.fine (c : Claim) : Prop := fits c.says ∧ c.says.length < 1000000000000
def Place.fine (p : Place) : Prop := p.story.length < 1000000000000 ∧ ∀ c ∈ p.story, c.fine
theorem claimOk_fn (people : Int) (c : Claim) : FnZ Tryz.prog 95 [.int .i64 people, c.v] (.bool (claimOk people c)) := by
  refine FnZ_of (rs := [.tmp 4]) false Tryz.func95 rfl rfl rfl rfl (Nat.le_of_ble_eq_true rfl) ?_
  have hk := ft (peopleOk people)
  rcases hk with hk | hk
  · simp -dsimp
    refine call_ (peopleOk_at people) (by simp -dsimp) ?_
    simp -dsimp [hk, claimOk]
  · by_cases h1 : 0 ≤ c.who
    case neg =>
      simp -dsimp
      refine call_ (peopleOk_at people) (by simp -dsimp) ?_
      simp -dsimp [hk, claimOk, h1]
    by_cases h2 : c.who < people
    case neg =>
      simp -dsimp
      refine call_ (peopleOk_at people) (by simp -dsimp) ?_
      simp -dsimp [hk, claimOk, h1, h2]
    simp -dsimp
    refine call_ (peopleOk_at people) (by simp -dsimp) ?_
    simp -dsimp [hk, h1, h2]
    refine call_ (termOk_fn people c.says) (by simp -dsimp) ?_
    have ht := ft (termOk people c.says)
    rcases ht with ht | ht
    · simp -dsimp [hk, claimOk, h1, h2, ht]
    · simp -dsimp [hk, claimOk, h1, h2, ht]
      omega
theorem claimOk_eq (people : Int) (c : Claim) : claimOk people c = (decide (0 ≤ c.who) && decide (c.who < people) && termOk people c.says && decide (c.says.length ≤ 13)) := by
  unfold claimOk termOk
  cases peopleOk people <;> simp
theorem claimOkS_fn (people : Int) (c : Claim) (hc : c.fine) : FnZ Tryz.prog 88 [.int .i64 people, c.v] (.bool (claimOk people c)) := by
  rw [claimOk_eq]
  refine FnZ_of (rs := [.tmp 4]) false Tryz.func88 rfl rfl rfl rfl (Nat.le_of_ble_eq_true rfl) ?_
  by_cases h1 : 0 ≤ c.who
  case neg => simp -dsimp [h1]
  by_cases h2 : c.who < people
  case neg => simp -dsimp [h1, h2]
  simp -dsimp [h1, h2]
  refine call_ (termOkS_fn people c.says hc.1 hc.2) (by simp -dsimp) ?_
  have ht := ft (termOk people c.says)
  rcases ht with ht | ht
  · simp -dsimp [h1, h2, ht]
  · simp -dsimp [h1, h2, ht]
    omega
def SOI (people : Int) (l : List Claim) (a b c : Nat) (e : Nat) (s : S) : Prop := ∃ i : Nat, s.tm 0 = .v (.int .i64 people) ∧ s.tm a = .v (.sl (l.map Claim.v)) ∧ (c = 0 ∨ s.tm c = .v (.int .i64 l.length)) ∧ s.tm 1 = .v (.sl (l.map Claim.v)) ∧ s.tm b = .v (.int .i64 i) ∧ i ≤ l.length ∧ (l.take i).all (claimOk people) = true ∧ (e = 1 → i = l.length)
theorem all_take_succ {α : Type} {l : List α} {f : α → Bool} {i : Nat} (h : i < l.length) : (l.take (i + 1)).all f = ((l.take i).all f && f l[i]) := by
  rw [List.take_succ_eq_append_getElem h]; simp only [List.all_append, List.all_cons, List.all_nil, Bool.and_true]
theorem all_bad {α : Type} {l : List α} {f : α → Bool} {i : Nat} (h : i < l.length) (hf : f l[i] = false) : l.all f = false := by
  rw [List.all_eq_false]; exact ⟨l[i], List.getElem_mem _, by simp [hf]⟩
theorem storyOk_fn (people : Int) (l : List Claim) (hl : l.length < 1000000000000) : FnZ Tryz.prog 71 [.int .i64 people, storyV l] (.bool (storyOk people l)) := by
  refine FnZ_of (rs := [.tmp 4]) false Tryz.func71 rfl rfl rfl rfl (Nat.le_of_ble_eq_true rfl) ?_
  simp -dsimp
  refine twp_loopC (SOI people l 7 9 8 0) (fun s => l.length - natOf (s.tm 9)) (SOI people l 7 9 8 1) ?_ ?_ ?_
  · exact ⟨0, by simp -dsimp, by simp -dsimp, .inr (by simp -dsimp), by simp -dsimp, by simp -dsimp, by simp, by simp, by simp⟩
  · rintro s ⟨i, h0, h7, h8, h1, h9, hi, hall, hend⟩
    have h8 := h8.resolve_left (by decide)
    by_cases hlt : i < l.length
    case neg =>
      simp -dsimp [h9, h8, hlt]
      exact ⟨i, by simp -dsimp [h0], by simp -dsimp [h7], .inr (by simp -dsimp [h8]), by simp -dsimp [h1], by simp -dsimp [h9], hi, hall, fun _ => by omega⟩
    have hget : (l.map Claim.v)[i]? = some l[i].v := by simp [hlt]
    have hcl : l[i].v = .agg [.int .i64 l[i].who, .sl (l[i].says.map Mark.v)] := rfl
    have hall' := all_take_succ (f := claimOk people) hlt
    have wi : IntKind.wrap .i64 ((i : Int) + 1) = ((i + 1 : Nat) : Int) := by rw [w64 (by omega) (by omega)]; omega
    have hmu : l.length - (i + 1) < l.length - i := by omega
    have hbad := all_bad (f := claimOk people) hlt
    simp -dsimp [h9, h8, h7, h0, hlt, hget]
    refine call_ (claimOk_fn people l[i]) (by simp -dsimp) ?_
    have hc := ft (claimOk people l[i])
    rcases hc with hc | hc
    · simp -dsimp [hc, storyOk, hbad hc]
    · simp -dsimp [hc, h9, wi, hmu]
      exact ⟨i + 1, by simp -dsimp [h0], by simp -dsimp [h7], .inr (by simp -dsimp [h8]), by simp -dsimp [h1], by simp -dsimp, by omega, by rw [hall', hall, hc]; rfl, by simp⟩
  · rintro s ⟨i, h0, h7, h8, h1, h9, hi, hall, hend⟩
    have := hend rfl
    subst this
    rw [List.take_length] at hall
    simp -dsimp [h0]
    refine call_ (peopleOk_at people) (by simp -dsimp) ?_
    have hk := ft (peopleOk people)
    rcases hk with hk | hk
    · simp -dsimp [storyOk, hk]
    · simp -dsimp [h1, storyOk, hk, hall]
      omega
theorem storyOkS_fn (people : Int) (l : List Claim) (hl : l.length < 1000000000000) (hf : ∀ c ∈ l, c.fine) : FnZ Tryz.prog 64 [.int .i64 people, storyV l] (.bool (storyOk people l)) := by
  refine FnZ_of (rs := [.tmp 4]) false Tryz.func64 rfl rfl rfl rfl (Nat.le_of_ble_eq_true rfl) ?_
  simp -dsimp
  refine twp_loopC (SOI people l 1 5 0 0) (fun s => l.length - natOf (s.tm 5)) (SOI people l 1 5 0 1) ?_ ?_ ?_
  · exact ⟨0, by simp -dsimp, by simp -dsimp, .inl rfl, by simp -dsimp, by simp -dsimp, by simp, by simp, by simp⟩
  · rintro s ⟨i, h0, h7, _, h1, h9, hi, hall, hend⟩
    by_cases hlt : i < l.length
    case neg =>
      simp -dsimp [h9, h1, hlt]
      exact ⟨i, by simp -dsimp [h0], by simp -dsimp [h7], .inl rfl, by simp -dsimp [h1], by simp -dsimp [h9], hi, hall, fun _ => by omega⟩
    have hget : (l.map Claim.v)[i]? = some l[i].v := by simp [hlt]
    have hcl : l[i].v = .agg [.int .i64 l[i].who, .sl (l[i].says.map Mark.v)] := rfl
    have hall' := all_take_succ (f := claimOk people) hlt
    have wi : IntKind.wrap .i64 ((i : Int) + 1) = ((i + 1 : Nat) : Int) := by rw [w64 (by omega) (by omega)]; omega
    have hmu : l.length - (i + 1) < l.length - i := by omega
    have hbad := all_bad (f := claimOk people) hlt
    simp -dsimp [h9, h1, h0, hlt, hget]
    refine call_ (claimOkS_fn people l[i] (hf _ (List.getElem_mem _))) (by simp -dsimp) ?_
    have hc := ft (claimOk people l[i])
    rcases hc with hc | hc
    · simp -dsimp [hc, storyOk, hbad hc]
    · simp -dsimp [hc, h9, wi, hmu]
      exact ⟨i + 1, by simp -dsimp [h0], by simp -dsimp [h7], .inl rfl, by simp -dsimp [h1], by simp -dsimp, by omega, by rw [hall', hall, hc]; rfl, by simp⟩
  · rintro s ⟨i, h0, h7, h8, h1, h9, hi, hall, hend⟩
    have := hend rfl
    subst this
    rw [List.take_length] at hall
    simp -dsimp [h0]
    refine call_ (l1In_fn people 1 4) (by simp -dsimp) ?_
    have hpk : inR people 1 4 = peopleOk people := rfl
    have hk := ft (peopleOk people)
    rcases hk with hk | hk
    · simp -dsimp [storyOk, hk, hpk]
    · simp -dsimp [h1, storyOk, hk, hall, hpk]
      omega
theorem placeOk_fn (p : Place) (hl : p.story.length < 1000000000000) : FnZ Tryz.prog 40 [p.v] (.bool (placeOk p)) := by
  refine FnZ_of (rs := [.tmp 2]) false Tryz.func40 rfl rfl rfl rfl (Nat.le_of_ble_eq_true rfl) ?_
  simp -dsimp
  refine call_ (storyOk_fn p.people p.story hl) (by simp -dsimp) ?_
  simp -dsimp [placeOk]
theorem placeOkS_fn (p : Place) (hp : p.fine) : FnZ Tryz.prog 30 [p.v] (.bool (placeOk p)) := by
  refine FnZ_of (rs := [.tmp 2]) false Tryz.func30 rfl rfl rfl rfl (Nat.le_of_ble_eq_true rfl) ?_
  simp -dsimp
  refine call_ (storyOkS_fn p.people p.story hp.1 hp.2) (by simp -dsimp) ?_
  simp -dsimp [placeOk]
end TL

/- The texts of claims. -/
set_option linter.unusedSimpArgs false
set_option linter.unusedVariables false
set_option maxRecDepth 100000
set_option maxHeartbeats 4000000
set_option pp.maxSteps 1500
namespace TL
open Go Go.Proofs
attribute [local simp] marksV storyV codeV Claim.v Place.v
theorem claimOk_who {people : Int} {c : Claim} (h : claimOk people c = true) : 0 ≤ c.who ∧ c.who < 4 ∧ termOk people c.says = true ∧ c.says.length ≤ 13 := by
  simp only [claimOk, peopleOk, Bool.and_eq_true, decide_eq_true_eq] at h
  exact ⟨by omega, by omega, h.1.2, h.2⟩
/-- The text of a claim whose term is a tree. -/
def claimText (c : Claim) (T : Tm) : List UInt8 := UInt8.ofNat (97 + c.who.toNat) :: 58 :: T.text
theorem claimText_no (people : Int) (c : Claim) (h : claimOk people c = false) : FnZ Tryz.prog 74 [.int .i64 people, c.v] (.str []) := by
  refine FnZ_of (rs := [.tmp 4]) false Tryz.func74 rfl rfl rfl rfl (Nat.le_of_ble_eq_true rfl) ?_
  simp -dsimp
  refine call_ (claimOk_fn people c) (by simp -dsimp) ?_
  simp -dsimp [h]
theorem claimTextS_no (people : Int) (c : Claim) (hf : c.fine) (h : claimOk people c = false) : FnZ Tryz.prog 65 [.int .i64 people, c.v] (.str []) := by
  refine FnZ_of (rs := [.tmp 4]) false Tryz.func65 rfl rfl rfl rfl (Nat.le_of_ble_eq_true rfl) ?_
  simp -dsimp
  refine call_ (claimOkS_fn people c hf) (by simp -dsimp) ?_
  simp -dsimp [h]
theorem claimText_fn (people : Int) (c : Claim) (h : claimOk people c = true) (T : Tm) (hT : T.ok) (hm : T.marks = c.says) : FnZ Tryz.prog 74 [.int .i64 people, c.v] (.str (claimText c T)) := by
  obtain ⟨h0, h4, ht, hl⟩ := claimOk_who h
  have htx := textOf_fn T hT (by rw [hm]; omega)
  rw [hm] at htx
  have hlen := T.text_len
  rw [hm] at hlen
  have w1 : IntKind.wrap .i64 (97 + c.who) = 97 + c.who := w64 (by omega) (by omega)
  have w2 : IntKind.wrap .u8 (97 + c.who) = 97 + c.who := by rw [IntKind.wrap_u8]; omega
  have w3 : (97 + c.who).toNat = 97 + c.who.toNat := by omega
  have c1 : (1 : Int) + 1 + T.text.length ≤ 9223372036854775807 := by omega
  have c2 : (2 : Int) + T.text.length ≤ 9223372036854775807 := by omega
  unfold claimText
  generalize T.text = s at *
  refine FnZ_of (rs := [.tmp 4]) false Tryz.func74 rfl rfl rfl rfl (Nat.le_of_ble_eq_true rfl) ?_
  simp -dsimp
  refine call_ (claimOk_fn people c) (by simp -dsimp) ?_
  simp -dsimp [h]
  refine twp_draw [0, 1, 2, 3, 7, 8, 1009, 4, 5, 6, 10, 11] [0, 1] [[0], [0], [0], [0], [0], [0, 1], [0], [0], [0], [0], [0], [0]] (List.replicate 4 [0, 1] ++ [[0]] ++ List.replicate 7 [0, 1]) (by kernel_rfl) (by kernel_rfl) (by kernel_rfl) (by kernel_rfl) ?_
  simp -dsimp [List.range_succ, w1, w2, w3]
  refine pure_ htx (by simp -dsimp) ?_
  simp -dsimp [List.range_succ, w1, w2, w3, c1, c2]
theorem claimTextS_fn (people : Int) (c : Claim) (hf : c.fine) (h : claimOk people c = true) (T : Tm) (hT : T.ok) (hm : T.marks = c.says) : FnZ Tryz.prog 65 [.int .i64 people, c.v] (.str (claimText c T)) := by
  obtain ⟨h0, h4, ht, hl⟩ := claimOk_who h
  have htx := l2Text_fn T hT (by rw [hm]; omega)
  rw [hm] at htx
  have hlen := T.text_len
  rw [hm] at hlen
  have c1 : (1 : Int) + 1 + T.text.length ≤ 9223372036854775807 := by omega
  have c2 : (2 : Int) + T.text.length ≤ 9223372036854775807 := by omega
  have hw : c.who = 0 ∨ c.who = 1 ∨ c.who = 2 ∨ c.who = 3 := by omega
  have hok := claimOkS_fn people c hf
  rw [h] at hok
  unfold claimText
  generalize T.text = s at *
  obtain ⟨who, says⟩ := c
  simp only at hw
  rcases hw with rfl | rfl | rfl | rfl
  all_goals
    refine FnZ_of (rs := [.tmp 4]) false Tryz.func65 rfl rfl rfl rfl (Nat.le_of_ble_eq_true rfl) ?_
    simp -dsimp
    refine call_ hok (by simp -dsimp) ?_
    simp -dsimp
    refine twp_draw (List.range 12) [0] (List.replicate 12 [0]) (List.replicate 12 [0]) (by kernel_rfl) (by kernel_rfl) (by kernel_rfl) (by kernel_rfl) ?_
    simp -dsimp [List.range_succ, show IntKind.wrap .i64 1 = 1 from rfl, show IntKind.wrap .i64 2 = 2 from rfl, show IntKind.wrap .i64 3 = 3 from rfl, show IntKind.wrap .i64 4 = 4 from rfl]
    refine call_ htx (by simp -dsimp) ?_
    simp -dsimp [List.range_succ, c1, c2]
end TL

/- Claims, their texts, and what is read: the plain part. -/
set_option linter.unusedSimpArgs false
set_option linter.unusedVariables false
set_option maxRecDepth 100000
namespace TL
def Tm.bins : Tm → Nat
  | .tells _ => 0
  | .count _ => 0
  | .not a => a.bins
  | .bin _ a b => a.bins + b.bins + 1
theorem Tm.bins_le : ∀ T : Tm, 2 * T.bins + 1 ≤ T.marks.length
  | .tells _ => by simp [bins, marks]
  | .count _ => by simp [bins, marks]
  | .not a => by have := a.bins_le; simp [bins, marks]; omega
  | .bin k a b => by have := a.bins_le; have := b.bins_le; simp [bins, marks]; omega
theorem par_len2 (q : Bool) (T : Tm) (hq : q = true → 3 ≤ T.kind) (h : T.text.length + (if 3 ≤ T.kind then 2 else 0) ≤ T.marks.length + 2 * T.bins) : (par q T.text).length ≤ T.marks.length + 2 * T.bins := by
  cases q with
  | false => simp only [par, Bool.false_eq_true, if_false]; omega
  | true =>
    have := hq rfl
    rw [if_pos this] at h
    simp [par]; omega
theorem Tm.text_len2 : ∀ T : Tm, T.text.length + (if 3 ≤ T.kind then 2 else 0) ≤ T.marks.length + 2 * T.bins
  | .tells _ => by simp [text, marks, kind, bins]
  | .count _ => by simp [text, marks, kind, bins]
  | .not a => by
    have := par_len2 (decide (3 ≤ a.kind)) a (by simp) a.text_len2
    rw [if_neg (by simp [kind])]
    simp only [text, marks, bins, List.length_append, List.length_cons, List.length_nil]; omega
  | .bin k a b => by
    have h1 := par_len2 (decide (3 + k < a.kind)) a (by simp; omega) a.text_len2
    have h2 := par_len2 (decide (3 + k ≤ b.kind)) b (by simp; omega) b.text_len2
    rw [if_pos (by simp [kind])]
    simp only [text, marks, bins, List.length_append, List.length_cons, List.length_nil]; omega
theorem Tm.text_short (T : Tm) : T.text.length + 1 ≤ 2 * T.marks.length := by
  have := T.text_len2; have := T.bins_le
  have h : T.text.length ≤ T.marks.length + 2 * T.bins := by omega
  omega
theorem termText_len {people : Int} {t : List Mark} (h : termOk people t = true) : (termText people t).length + 1 ≤ 2 * t.length := by
  obtain ⟨T, _, h2, h3⟩ := termText_tree h
  rw [← h3, ← h2]; exact T.text_short
theorem termOk_len {people : Int} {t : List Mark} (h : termOk people t = true) : 1 ≤ t.length ∧ t.length ≤ 15 ∧ 1 ≤ people ∧ people ≤ 4 := by
  simp only [termOk, peopleOk, Bool.and_eq_true, decide_eq_true_eq] at h
  omega
/-- No blank, no newline, no comma, no dot, no colon. -/
def plain (c : UInt8) : Prop := c ≠ 32 ∧ c ≠ 10 ∧ c ≠ 44 ∧ c ≠ 46 ∧ c ≠ 58
theorem par_plain {q : Bool} {s : List UInt8} (h : ∀ c ∈ s, plain c) : ∀ c ∈ par q s, plain c := by
  cases q with
  | false => exact h
  | true =>
    intro c hc
    simp only [par, if_true, List.mem_cons, List.mem_append, List.mem_nil_iff, or_false] at hc
    rcases hc with rfl | hc | rfl
    · exact ⟨by decide, by decide, by decide, by decide, by decide⟩
    · exact h c hc
    · exact ⟨by decide, by decide, by decide, by decide, by decide⟩
theorem Tm.text_plain : ∀ T : Tm, T.ok → ∀ c ∈ T.text, plain c
  | .tells i, h, c, hc => by
    have hi : i < 4 := h
    cases List.mem_singleton.1 hc
    rcases (by omega : i = 0 ∨ i = 1 ∨ i = 2 ∨ i = 3) with rfl | rfl | rfl | rfl <;> exact ⟨by decide, by decide, by decide, by decide, by decide⟩
  | .count i, h, c, hc => by
    have hi : i < 6 := h
    cases List.mem_singleton.1 hc
    rcases (by omega : i = 0 ∨ i = 1 ∨ i = 2 ∨ i = 3 ∨ i = 4 ∨ i = 5) with rfl | rfl | rfl | rfl | rfl | rfl <;> exact ⟨by decide, by decide, by decide, by decide, by decide⟩
  | .not a, h, c, hc => by
    rcases List.mem_cons.1 hc with rfl | hc
    · exact ⟨by decide, by decide, by decide, by decide, by decide⟩
    · exact par_plain (a.text_plain h) c hc
  | .bin k a b, h, c, hc => by
    rcases List.mem_append.1 hc with hc | hc
    · exact par_plain (a.text_plain h.2.1) c hc
    rcases List.mem_cons.1 hc with rfl | hc
    · have hk := h.1
      rcases (by omega : k = 0 ∨ k = 1 ∨ k = 2) with rfl | rfl | rfl <;> exact ⟨by decide, by decide, by decide, by decide, by decide⟩
    · exact par_plain (b.text_plain h.2.2) c hc
theorem termText_plain {people : Int} {t : List Mark} (h : termOk people t = true) : ∀ c ∈ termText people t, plain c := by
  obtain ⟨T, h1, _, h3⟩ := termText_tree h
  rw [← h3]; exact T.text_plain h1
/-- The text of a claim. -/
noncomputable def claimTx (people : Int) (c : Claim) : List UInt8 := if claimOk people c = true then UInt8.ofNat (97 + c.who.toNat) :: 58 :: termText people c.says else []
theorem claimOk_all {people : Int} {c : Claim} (h : claimOk people c = true) : 1 ≤ people ∧ people ≤ 4 ∧ 0 ≤ c.who ∧ c.who < people ∧ termOk people c.says = true ∧ c.says.length ≤ 13 := by
  simp only [claimOk, peopleOk, Bool.and_eq_true, decide_eq_true_eq] at h
  exact ⟨by omega, by omega, by omega, by omega, h.1.2, h.2⟩
theorem claimOk_mk {people : Int} {c : Claim} (h0 : 0 ≤ c.who) (h1 : c.who < people) (h2 : termOk people c.says = true) (h3 : c.says.length ≤ 13) : claimOk people c = true := by
  have := termOk_len h2
  simp only [claimOk, peopleOk, Bool.and_eq_true, decide_eq_true_eq]
  exact ⟨⟨⟨⟨⟨by omega, by omega⟩, h0⟩, h1⟩, h2⟩, h3⟩
theorem claimTx_fn (people : Int) (c : Claim) : FnZ Go.Proofs.Tryz.prog 74 [.int .i64 people, c.v] (.str (claimTx people c)) := by
  have hk := ft (claimOk people c)
  rcases hk with hk | hk
  · have := claimText_no people c hk
    unfold claimTx; rw [if_neg (by simp [hk])]; exact this
  · obtain ⟨T, h1, h2, h3⟩ := termText_tree (claimOk_all hk).2.2.2.2.1
    have := claimText_fn people c hk T h1 h2
    unfold claimTx; rw [if_pos hk, ← h3]; exact this
theorem claimTxS_fn (people : Int) (c : Claim) (hf : c.fine) : FnZ Go.Proofs.Tryz.prog 65 [.int .i64 people, c.v] (.str (claimTx people c)) := by
  have hk := ft (claimOk people c)
  rcases hk with hk | hk
  · have := claimTextS_no people c hf hk
    unfold claimTx; rw [if_neg (by simp [hk])]; exact this
  · obtain ⟨T, h1, h2, h3⟩ := termText_tree (claimOk_all hk).2.2.2.2.1
    have := claimTextS_fn people c hf hk T h1 h2
    unfold claimTx; rw [if_pos hk, ← h3]; exact this
theorem letter_back {w : Int} (h0 : 0 ≤ w) (h4 : w < 4) : ((UInt8.ofNat (97 + w.toNat)).toNat : Int) - 97 = w := by
  rw [UInt8.toNat_ofNat']; omega
theorem letter_fwd (a : UInt8) (w : Int) (h : w = (a.toNat : Int) - 97) (h0 : 0 ≤ w) : UInt8.ofNat (97 + w.toNat) = a := by
  have := UInt8.toNat_lt a
  apply UInt8.toNat.inj
  rw [UInt8.toNat_ofNat']; omega
theorem claimTx_len {people : Int} {c : Claim} (h : claimOk people c = true) : 3 ≤ (claimTx people c).length ∧ (claimTx people c).length ≤ 27 ∧ (termText people c.says).length ≤ 25 ∧ 1 ≤ (termText people c.says).length := by
  obtain ⟨h1, h2, h3, h4, h5, h6⟩ := claimOk_all h
  have := termText_len h5
  have hp := List.length_pos_iff.2 (termText_pos h5)
  unfold claimTx; rw [if_pos h]; simp; omega
/-- What ReadClaim finds. -/
noncomputable def readC (people : Int) (s : List UInt8) : Option Claim := match s with
  | a :: b :: rest => if b = 58 then (readT people rest).bind fun t => if claimOk people ⟨(a.toNat : Int) - 97, t⟩ = true then some ⟨(a.toNat : Int) - 97, t⟩ else none else none
  | _ => none
theorem readC_text {people : Int} {c : Claim} (h : claimOk people c = true) : readC people (claimTx people c) = some c := by
  obtain ⟨h1, h2, h3, h4, h5, h6⟩ := claimOk_all h
  have hl := (claimTx_len h).2.2.1
  unfold claimTx; rw [if_pos h]
  unfold readC
  simp only [if_true]
  rw [readT_some (by omega) h5 rfl]
  simp only [Option.bind_some]
  rw [letter_back h3 (by omega)]
  exact if_pos h
theorem readC_is {people : Int} {s : List UInt8} {c : Claim} (h : readC people s = some c) : claimOk people c = true ∧ claimTx people c = s := by
  unfold readC at h
  split at h
  · rename_i a b rest
    split at h
    · rename_i hb
      cases e : readT people rest with
      | none => rw [e] at h; cases h
      | some t =>
        rw [e, Option.bind_some] at h
        split at h
        · rename_i hk
          cases h
          obtain ⟨_, h2, h3⟩ := readT_is e
          refine ⟨hk, ?_⟩
          obtain ⟨_, _, g3, _, _, _⟩ := claimOk_all hk
          unfold claimTx
          rw [if_pos hk, letter_fwd a _ rfl g3, hb, h3]
        · cases h
    · cases h
  · cases h
theorem readC_iff {people : Int} {s : List UInt8} {c : Claim} : readC people s = some c ↔ claimOk people c = true ∧ claimTx people c = s :=
  ⟨readC_is, fun h => by rw [← h.2]; exact readC_text h.1⟩
/-- With a further sign behind it, that no term has. -/
theorem readC_more {people : Int} {s : List UInt8} {c : Claim} {x : UInt8} (h : readC people s = some c) (hx : ¬ plain x) : readC people (s ++ [x]) = none := by
  cases e : readC people (s ++ [x]) with
  | none => rfl
  | some d =>
    obtain ⟨h1, h2⟩ := readC_is h
    obtain ⟨g1, g2⟩ := readC_is e
    obtain ⟨_, _, _, _, h5, _⟩ := claimOk_all h1
    obtain ⟨_, _, _, _, g5, _⟩ := claimOk_all g1
    exfalso
    have hp := (claimTx_len h1).2.2.2
    unfold claimTx at h2 g2
    rw [if_pos h1] at h2
    rw [if_pos g1, ← h2] at g2
    have e2 : termText people d.says = termText people c.says ++ [x] := by
      have := congrArg (List.drop 2) g2
      simpa using this
    exact hx (termText_plain g5 x (by rw [e2]; simp))
end TL

/- TL, part 22: rows that are made at once and filled one by one. -/
set_option linter.unusedVariables false
set_option linter.unusedSimpArgs false
namespace TL
open Go
theorem flat_len {k : Nat} : ∀ {bl : List (List T)}, (∀ x ∈ bl, x.length = k) → bl.flatten.length = bl.length * k
  | [], _ => by simp
  | b :: bl, h => by
    have h1 := h b (List.mem_cons_self ..)
    have h2 := flat_len (bl := bl) fun x hx => h x (List.mem_cons_of_mem _ hx)
    rw [List.flatten_cons, List.length_append, h1, h2, List.length_cons, Nat.succ_mul]; omega
theorem setAt_append (a b : List T) : ∀ (xs : List T) (off : Nat), a.length = off → xs.length ≤ b.length → setAt (a ++ b) off xs = a ++ xs ++ b.drop xs.length
  | [], off, h, _ => by simp [setAt]
  | x :: xs, off, h, hl => by
    cases b with
    | nil => simp at hl
    | cons y ys =>
      unfold setAt
      rw [List.set_append_right _ _ (by omega), show off - a.length = 0 by omega, List.set_cons_zero]
      have := setAt_append (a ++ [x]) ys xs (off + 1) (by simp; omega) (by simpa using hl)
      rw [show a ++ x :: ys = a ++ [x] ++ ys by simp, this]; simp
theorem setAt_flat {k : Nat} {bl : List (List T)} {i : Nat} {b : List T} (h : ∀ x ∈ bl, x.length = k) (hb : b.length = k) (hi : i < bl.length) : setAt bl.flatten (i * k) b = (bl.set i b).flatten := by
  have e1 : bl = bl.take i ++ bl[i] :: bl.drop (i + 1) := by rw [← List.drop_eq_getElem_cons hi, List.take_append_drop]
  have l1 : (bl.take i).flatten.length = i * k := by rw [flat_len (k := k) fun x hx => h x (List.mem_of_mem_take hx), List.length_take]; congr 1; omega
  have l2 : bl[i].length = k := h _ (List.getElem_mem _)
  have e2 : bl.flatten = (bl.take i).flatten ++ (bl[i] ++ (bl.drop (i + 1)).flatten) := by
    have e4 : bl.flatten = (bl.take i ++ bl[i] :: bl.drop (i + 1)).flatten := by rw [← e1]
    rw [e4, List.flatten_append, List.flatten_cons]
  have e3 : bl.set i b = bl.take i ++ b :: bl.drop (i + 1) := by rw [List.set_eq_take_append_cons_drop, if_pos hi]
  rw [e2, setAt_append _ _ b _ l1 (by simp; omega), e3, hb]
  rw [List.drop_append_of_le_length (by omega), List.drop_eq_nil_of_le (by omega)]
  simp
/-- The cells of an element. -/
def cellsT (x : V) : List T := x.cells.map .v
/-- A row of which the first i are filled. -/
def filled {α : Type} (v : α → V) (zs : List T) (l : List α) (i : Nat) : List (List T) := (l.take i).map (fun a => cellsT (v a)) ++ List.replicate (l.length - i) zs
/-- Elements of k cells. -/
def ElemOk {α : Type} (v : α → V) (k : Nat) : Prop := ∀ a, (v a).cells.length = k ∧ (∀ c ∈ (v a).cells, c.cell = true) ∧ (if k = 1 then (v a).cells = [v a] else v a = .agg (v a).cells)
theorem filled_len {α : Type} {v : α → V} {zs : List T} {l : List α} {i : Nat} (hi : i ≤ l.length) : (filled v zs l i).length = l.length := by
  simp [filled]; omega
theorem filled_all {α : Type} {v : α → V} {zs : List T} {l : List α} {i k : Nat} (hv : ElemOk v k) (hz : zs.length = k) : ∀ x ∈ filled v zs l i, x.length = k := by
  intro x hx
  rcases List.mem_append.1 hx with hx | hx
  · obtain ⟨a, _, rfl⟩ := List.mem_map.1 hx
    simp [cellsT, (hv a).1]
  · rw [(List.mem_replicate.1 hx).2, hz]
theorem filled_zero {α : Type} (v : α → V) (zs : List T) (l : List α) : (filled v zs l 0).flatten = (List.replicate l.length zs).flatten := by simp [filled]
theorem filled_flat_len {α : Type} {v : α → V} {zs : List T} {l : List α} {i k : Nat} (hv : ElemOk v k) (hz : zs.length = k) (hi : i ≤ l.length) : (filled v zs l i).flatten.length = l.length * k := by
  rw [flat_len (filled_all hv hz), filled_len hi]
theorem filled_set {α : Type} {v : α → V} {zs : List T} {l : List α} {i k : Nat} (hv : ElemOk v k) (hz : zs.length = k) (hi : i < l.length) : setAt (filled v zs l i).flatten (i * k) (cellsT (v l[i])) = (filled v zs l (i + 1)).flatten := by
  rw [setAt_flat (filled_all hv hz) (by simp [cellsT, (hv _).1]) (by rw [filled_len (by omega)]; exact hi)]
  congr 1
  unfold filled
  rw [List.set_append_right _ _ (by simp; omega), List.take_succ_eq_append_getElem hi]
  rw [show l.length - i = (l.length - (i + 1)) + 1 by omega, List.replicate_succ]
  simp only [List.length_map, List.length_take, Nat.min_eq_left (Nat.le_of_lt hi), Nat.sub_self, List.set_cons_zero, List.map_append, List.map_cons, List.map_nil, List.append_assoc, List.cons_append, List.nil_append]
theorem filled_end {α : Type} (v : α → V) (zs : List T) (l : List α) : filled v zs l l.length = l.map fun a => cellsT (v a) := by simp [filled]
theorem mapO_cells {k : Bool} {m : Mem} {d : Nat} : ∀ (xs : List V), mapO (bor k m d) (xs.map .v) = some xs
  | [] => rfl
  | x :: xs => by simp [mapO, mapO_cells xs]
theorem cells_flat {α : Type} (v : α → V) : ∀ l : List α, (l.map fun a => cellsT (v a)).flatten = (l.flatMap fun a => (v a).cells).map T.v
  | [] => rfl
  | x :: xs => by simp only [List.map_cons, List.flatten_cons, cells_flat v xs, List.flatMap_cons, List.map_append]; rfl
theorem chunk_elems {α : Type} {v : α → V} {k : Nat} (hv : ElemOk v k) : ∀ l : List α, chunk k l.length (l.flatMap fun a => (v a).cells) = l.map v
  | [] => rfl
  | a :: l => by
    obtain ⟨h1, h2, h3⟩ := hv a
    simp only [List.length_cons, chunk, List.flatMap_cons, List.map_cons]
    rw [List.drop_append_of_le_length (by omega), List.drop_eq_nil_of_le (by omega), List.nil_append, chunk_elems hv l]
    congr 1
    by_cases hk : k = 1
    · rw [if_pos hk] at h3 ⊢; rw [h3]; rfl
    · rw [if_neg hk] at h3 ⊢
      rw [List.take_append_of_le_length (by omega), List.take_of_length_le (by omega), ← h3]
theorem bor_filled {α : Type} {v : α → V} {k : Nat} (hv : ElemOk v k) {m : Mem} {id e : Nat} {zs : List T} {l : List α} (d : Nat) (hm : m id = some (.box e k (filled v zs l l.length).flatten)) : bor true m (d + 1) (.sv id 0 l.length) = some (.sl (l.map v)) := by
  have hlen : (l.flatMap fun a => (v a).cells).length = l.length * k := by
    induction l with
    | nil => simp
    | cons a l ih => simp only [List.flatMap_cons, List.length_append, (hv a).1, List.length_cons, Nat.succ_mul]; rw [show (l.flatMap fun a => (v a).cells).length = l.length * k from ?_]; · omega
                     clear ih hm
                     induction l with
                     | nil => simp
                     | cons b l ih => simp only [List.flatMap_cons, List.length_append, (hv b).1, List.length_cons, Nat.succ_mul, ih]; omega
  unfold bor
  rw [hm]
  simp only [if_true, filled_end, cells_flat, List.length_map, hlen, Nat.zero_add, Nat.le_refl, tst_true, List.drop_zero]
  rw [List.take_of_length_le (by simp [hlen]), mapO_cells]
  simp only [obind_some]
  rw [tst_pos, chunk_elems hv]
  intro x hx
  obtain ⟨a, _, ha⟩ := List.mem_flatMap.1 hx
  exact (hv a).2.1 x ha
end TL
