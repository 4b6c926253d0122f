/- TL: parts FnsQR1, FnsQR3. -/
import Derived.Test.YtcoapdapigpfgaaDoorFnsQT
import Derived.Test.YtcoapdapigpfgaaDoorFnsQX
/- Reading terms: the plain part. -/
set_option linter.unusedSimpArgs false
set_option linter.unusedVariables false
set_option maxRecDepth 100000
namespace TL
/-- What a reader has read: marks, what is left, whether it was one. -/
structure R where
  ms : List Mark
  rest : List UInt8
  ok : Bool
def rLoop (p : List UInt8 → R) (sg : UInt8) (k : Int) : Nat → List Mark → List UInt8 → R
  | 0, t, s => ⟨t, s, true⟩
  | _ + 1, t, [] => ⟨t, [], true⟩
  | g + 1, t, c :: more => if c = sg then (if (p more).ok = true then rLoop p sg k g (t ++ (p more).ms ++ [⟨k, 0⟩]) (p more).rest else ⟨[], (p more).rest, false⟩) else ⟨t, c :: more, true⟩
def rRow (p : List UInt8 → R) (sg : UInt8) (k : Int) (g : Nat) (s : List UInt8) : R := if (p s).ok = true then rLoop p sg k g (p s).ms (p s).rest else ⟨[], (p s).rest, false⟩
def shut (r : R) : R := match r.rest with
  | [] => ⟨r.ms, [], false⟩
  | c :: q => if c = 41 then ⟨r.ms, q, r.ok⟩ else ⟨r.ms, c :: q, false⟩
def rPart (A : UInt8 → Option Mark) : Nat → List UInt8 → R
  | 0, s => ⟨[], s, false⟩
  | _ + 1, [] => ⟨[], [], false⟩
  | f + 1, c :: s => match A c with
    | some m => ⟨[m], s, true⟩
    | none => if c = 33 then ⟨(rPart A f s).ms ++ [⟨2, 0⟩], (rPart A f s).rest, (rPart A f s).ok⟩
      else if c = 40 then shut (rRow (rRow (rRow (rPart A f) 38 3 f) 124 4 f) 61 5 f s)
      else ⟨[], c :: s, false⟩
def rAnd (A : UInt8 → Option Mark) (f : Nat) (s : List UInt8) : R := rRow (rPart A f) 38 3 f s
def rOr (A : UInt8 → Option Mark) (f : Nat) (s : List UInt8) : R := rRow (rAnd A f) 124 4 f s
def rSame (A : UInt8 → Option Mark) (f : Nat) (s : List UInt8) : R := rRow (rOr A f) 61 5 f s
theorem rPart_open (A : UInt8 → Option Mark) (f : Nat) (s : List UInt8) (h : A 40 = none) : rPart A (f + 1) (40 :: s) = shut (rSame A f s) := by
  show (match A 40 with
    | some m => _
    | none => _) = _
  rw [h]; rfl
theorem rPart_not (A : UInt8 → Option Mark) (f : Nat) (s : List UInt8) (h : A 33 = none) : rPart A (f + 1) (33 :: s) = ⟨(rPart A f s).ms ++ [⟨2, 0⟩], (rPart A f s).rest, (rPart A f s).ok⟩ := by
  show (match A 33 with
    | some m => _
    | none => _) = _
  rw [h]; rfl
theorem rPart_one (A : UInt8 → Option Mark) (f : Nat) (c : UInt8) (s : List UInt8) (m : Mark) (h : A c = some m) : rPart A (f + 1) (c :: s) = ⟨[m], s, true⟩ := by
  show (match A c with
    | some m => _
    | none => _) = _
  rw [h]
/-! How much is read, and what marks there are. -/
def good (p : List UInt8 → R) : Prop := ∀ s, (p s).ms.length + (p s).rest.length ≤ s.length ∧ ∀ m ∈ (p s).ms, 0 ≤ m.kind ∧ m.kind ≤ 5 ∧ 0 ≤ m.num ∧ m.num ≤ 1000
theorem rLoop_good {p : List UInt8 → R} (hp : good p) {sg : UInt8} {k : Int} (h0 : 0 ≤ k) (h5 : k ≤ 5) : ∀ (g : Nat) (t : List Mark) (s : List UInt8), (∀ m ∈ t, 0 ≤ m.kind ∧ m.kind ≤ 5 ∧ 0 ≤ m.num ∧ m.num ≤ 1000) →
    (rLoop p sg k g t s).ms.length + (rLoop p sg k g t s).rest.length ≤ t.length + s.length ∧ ∀ m ∈ (rLoop p sg k g t s).ms, 0 ≤ m.kind ∧ m.kind ≤ 5 ∧ 0 ≤ m.num ∧ m.num ≤ 1000
  | 0, t, s, h => ⟨by simp [rLoop], h⟩
  | g + 1, t, [], h => ⟨by simp [rLoop], h⟩
  | g + 1, t, c :: more, h => by
    simp only [rLoop]
    have := (hp more).1
    split
    · split
      · have ih := rLoop_good hp (sg := sg) h0 h5 g (t ++ (p more).ms ++ [⟨k, 0⟩]) (p more).rest (fun m hm => by
          rcases List.mem_append.1 hm with hm | hm
          · rcases List.mem_append.1 hm with hm | hm
            · exact h m hm
            · exact (hp more).2 m hm
          · cases List.mem_singleton.1 hm; exact ⟨h0, h5, by simp, by simp⟩)
        refine ⟨?_, ih.2⟩
        have := ih.1
        simp at this ⊢; omega
      · refine ⟨by simp; omega, by simp⟩
    · exact ⟨by simp, h⟩
theorem rRow_good {p : List UInt8 → R} (hp : good p) {sg : UInt8} {k : Int} (h0 : 0 ≤ k) (h5 : k ≤ 5) (g : Nat) : good (rRow p sg k g) := fun s => by
  have := hp s
  unfold rRow
  split
  · have h := rLoop_good hp (sg := sg) h0 h5 g (p s).ms (p s).rest this.2
    exact ⟨by omega, h.2⟩
  · exact ⟨by simp; omega, by simp⟩
theorem shut_good {r : R} {n : Nat} (h : r.ms.length + r.rest.length ≤ n) : (shut r).ms.length + (shut r).rest.length ≤ n ∧ (shut r).ms = r.ms := by
  unfold shut
  split
  · rename_i e; rw [e] at h; exact ⟨by simpa using h, rfl⟩
  · rename_i e; rw [e] at h
    split
    · exact ⟨by simp at h ⊢; omega, rfl⟩
    · exact ⟨by simpa using h, rfl⟩
theorem rPart_good {A : UInt8 → Option Mark} (hA : ∀ c m, A c = some m → 0 ≤ m.kind ∧ m.kind ≤ 5 ∧ 0 ≤ m.num ∧ m.num ≤ 1000) : ∀ f, good (rPart A f)
  | 0 => fun s => ⟨by simp [rPart], by simp [rPart]⟩
  | f + 1 => fun s => by
    have ih := rPart_good hA f
    cases s with
    | nil => exact ⟨by simp [rPart], by simp [rPart]⟩
    | cons c s =>
      simp only [rPart]
      split
      · rename_i m e; exact ⟨by simp; omega, fun x hx => by cases List.mem_singleton.1 hx; exact hA c m e⟩
      split
      · have := ih s
        refine ⟨by simp; omega, fun x hx => ?_⟩
        rcases List.mem_append.1 hx with hx | hx
        · exact this.2 x hx
        · cases List.mem_singleton.1 hx; simp
      split
      · have g3 := rRow_good (rRow_good (rRow_good ih (sg := 38) (k := 3) (by omega) (by omega) f) (sg := 124) (k := 4) (by omega) (by omega) f) (sg := 61) (k := 5) (by omega) (by omega) f s
        have h := shut_good (n := s.length) g3.1
        refine ⟨by simp only [List.length_cons]; omega, ?_⟩
        rw [h.2]; exact g3.2
      · exact ⟨by simp, by simp⟩
/-! What was written is read. -/
def noHead (sg : UInt8) (r : List UInt8) : Prop := r.head? ≠ some sg
theorem rLoop_stop {p : List UInt8 → R} {sg : UInt8} {k : Int} (g : Nat) (t : List Mark) {r : List UInt8} (h : noHead sg r) : rLoop p sg k g t r = ⟨t, r, true⟩ := by
  cases g with
  | zero => rfl
  | succ g =>
    cases r with
    | nil => rfl
    | cons c r => simp only [rLoop]; rw [if_neg (fun e => h (by rw [e]; rfl))]
theorem rLoop_step {p : List UInt8 → R} {sg : UInt8} {k : Int} {g : Nat} {t u : List Mark} {s r : List UInt8} (hg : (sg :: s).length ≤ g) (hr : r.length ≤ s.length) (h : p s = ⟨u, r, true⟩) :
    ∃ g', r.length ≤ g' ∧ rLoop p sg k g t (sg :: s) = rLoop p sg k g' (t ++ u ++ [⟨k, 0⟩]) r := by
  cases g with
  | zero => simp at hg
  | succ g =>
    refine ⟨g, by simp at hg; omega, ?_⟩
    simp only [rLoop, if_true, h]
theorem rRow_up {p : List UInt8 → R} {sg : UInt8} {k : Int} {g : Nat} {t : List Mark} {s r : List UInt8} (h : p s = ⟨t, r, true⟩) : rRow p sg k g s = rLoop p sg k g t r := by
  unfold rRow; rw [h]; rfl
structure AOk (A : UInt8 → Option Mark) : Prop where
  letter : ∀ i : Nat, i < 4 → A (UInt8.ofNat (97 + i)) = some ⟨0, i⟩
  digit : ∀ i : Nat, i < 6 → A (UInt8.ofNat (48 + i)) = some ⟨1, i⟩
  bang : A 33 = none
  brak : A 40 = none
/-- How a text is read at each level. -/
structure RT (A : UInt8 → Option Mark) (T : Tm) (s : List UInt8) (b : Bool) : Prop where
  l0 : ∀ f r, (s ++ r).length ≤ f → (b = false → T.kind ≤ 2) → rPart A f (s ++ r) = ⟨T.marks, r, true⟩
  l1 : ∀ f r, (s ++ r).length ≤ f → (b = false → T.kind ≤ 3) → ∃ g, r.length ≤ g ∧ rAnd A f (s ++ r) = rLoop (rPart A f) 38 3 g T.marks r
  l2 : ∀ f r, (s ++ r).length ≤ f → (b = false → T.kind ≤ 4) → noHead 38 r → ∃ g, r.length ≤ g ∧ rOr A f (s ++ r) = rLoop (rAnd A f) 124 4 g T.marks r
  l3 : ∀ f r, (s ++ r).length ≤ f → noHead 38 r → noHead 124 r → ∃ g, r.length ≤ g ∧ rSame A f (s ++ r) = rLoop (rOr A f) 61 5 g T.marks r
theorem lift1 {A : UInt8 → Option Mark} {f : Nat} {t : List Mark} {s r : List UInt8} (hl : (s ++ r).length ≤ f) (h : rPart A f (s ++ r) = ⟨t, r, true⟩) : ∃ g, r.length ≤ g ∧ rAnd A f (s ++ r) = rLoop (rPart A f) 38 3 g t r :=
  ⟨f, by simp at hl; omega, rRow_up h⟩
theorem lift2 {A : UInt8 → Option Mark} {f : Nat} {t : List Mark} {s r : List UInt8} (hl : (s ++ r).length ≤ f) (hn : noHead 38 r) (h : ∃ g, r.length ≤ g ∧ rAnd A f (s ++ r) = rLoop (rPart A f) 38 3 g t r) : ∃ g, r.length ≤ g ∧ rOr A f (s ++ r) = rLoop (rAnd A f) 124 4 g t r := by
  obtain ⟨g, _, h⟩ := h
  rw [rLoop_stop g t hn] at h
  exact ⟨f, by simp at hl; omega, rRow_up h⟩
theorem lift3 {A : UInt8 → Option Mark} {f : Nat} {t : List Mark} {s r : List UInt8} (hl : (s ++ r).length ≤ f) (hn : noHead 124 r) (h : ∃ g, r.length ≤ g ∧ rOr A f (s ++ r) = rLoop (rAnd A f) 124 4 g t r) : ∃ g, r.length ≤ g ∧ rSame A f (s ++ r) = rLoop (rOr A f) 61 5 g t r := by
  obtain ⟨g, _, h⟩ := h
  rw [rLoop_stop g t hn] at h
  exact ⟨f, by simp at hl; omega, rRow_up h⟩
theorem RT.of0 {A : UInt8 → Option Mark} {T : Tm} {s : List UInt8} {b : Bool} (h : ∀ f r, (s ++ r).length ≤ f → rPart A f (s ++ r) = ⟨T.marks, r, true⟩) : RT A T s b :=
  ⟨fun f r hl _ => h f r hl, fun f r hl _ => lift1 hl (h f r hl), fun f r hl _ hn => lift2 hl hn (lift1 hl (h f r hl)), fun f r hl hn hn2 => lift3 hl hn2 (lift2 hl hn (lift1 hl (h f r hl)))⟩
theorem RT.par {A : UInt8 → Option Mark} (hA : AOk A) {T : Tm} (h : RT A T T.text false) (b : Bool) : RT A T (par b T.text) b := by
  cases b with
  | false => exact h
  | true =>
    refine RT.of0 fun f r hl => ?_
    have e : TL.par true T.text ++ r = 40 :: (T.text ++ 41 :: r) := by simp [TL.par]
    rw [e] at hl ⊢
    cases f with
    | zero => simp at hl
    | succ f =>
      obtain ⟨g, _, h3⟩ := h.l3 f (41 :: r) (by simp at hl ⊢; omega) (by simp [noHead]) (by simp [noHead])
      rw [rPart_open A f _ hA.brak, h3, rLoop_stop g _ (by simp [noHead])]
      simp [shut]
theorem RT.tm {A : UInt8 → Option Mark} (hA : AOk A) : ∀ T : Tm, T.ok → RT A T T.text false
  | .tells i, h => RT.of0 fun f r hl => by
    cases f with
    | zero => simp [Tm.text] at hl
    | succ f => exact rPart_one A f _ r _ (hA.letter i h)
  | .count i, h => RT.of0 fun f r hl => by
    cases f with
    | zero => simp [Tm.text] at hl
    | succ f => exact rPart_one A f _ r _ (hA.digit i h)
  | .not a, h => RT.of0 fun f r hl => by
    have e : (Tm.not a).text ++ r = 33 :: (TL.par (decide (3 ≤ a.kind)) a.text ++ r) := rfl
    rw [e] at hl ⊢
    cases f with
    | zero => simp at hl
    | succ f =>
      have ih := ((RT.tm hA a h).par hA (decide (3 ≤ a.kind))).l0 f r (by simp at hl ⊢; omega) (by simp; omega)
      rw [rPart_not A f _ hA.bang, ih]; rfl
  | .bin k a b, h => by
    have ia := (RT.tm hA a h.2.1).par hA (decide (3 + k < a.kind))
    have ib := (RT.tm hA b h.2.2).par hA (decide (3 + k ≤ b.kind))
    have e : ∀ r, (Tm.bin k a b).text ++ r = TL.par (decide (3 + k < a.kind)) a.text ++ sign k :: (TL.par (decide (3 + k ≤ b.kind)) b.text ++ r) := fun r => by simp [Tm.text]
    have em : (Tm.bin k a b).marks = a.marks ++ b.marks ++ [⟨3 + k, 0⟩] := rfl
    have ek : (Tm.bin k a b).kind = 3 + k := rfl
    have hk := h.1
    generalize TL.par (decide (3 + k < a.kind)) a.text = sa at *
    generalize TL.par (decide (3 + k ≤ b.kind)) b.text = sb at *
    generalize (Tm.bin k a b).text = st at *
    have g1 : k = 0 → ∀ f r, (st ++ r).length ≤ f → ∃ g, r.length ≤ g ∧ rAnd A f (st ++ r) = rLoop (rPart A f) 38 3 g (Tm.bin k a b).marks r := by
      rintro rfl f r hl
      rw [e] at hl ⊢
      have la : sign 0 = 38 := rfl
      rw [la] at hl ⊢
      obtain ⟨g, hg, h1⟩ := ia.l1 f _ hl (by simp <;> omega)
      have h2 := ib.l0 f r (by simp at hl ⊢; omega) (by simp; omega)
      obtain ⟨g', hg', h3⟩ := rLoop_step (k := 3) (t := a.marks) hg (by simp) h2
      exact ⟨g', hg', by rw [h1, h3, em]; rfl⟩
    have g2 : k = 1 → ∀ f r, (st ++ r).length ≤ f → noHead 38 r → ∃ g, r.length ≤ g ∧ rOr A f (st ++ r) = rLoop (rAnd A f) 124 4 g (Tm.bin k a b).marks r := by
      rintro rfl f r hl hn
      rw [e] at hl ⊢
      have la : sign 1 = 124 := rfl
      rw [la] at hl ⊢
      obtain ⟨g, hg, h1⟩ := ia.l2 f _ hl (by simp <;> omega) (by simp [noHead])
      obtain ⟨g0, _, h2⟩ := ib.l1 f r (by simp at hl ⊢; omega) (by simp; omega)
      rw [rLoop_stop g0 _ hn] at h2
      obtain ⟨g', hg', h3⟩ := rLoop_step (k := 4) (t := a.marks) hg (by simp) h2
      exact ⟨g', hg', by rw [h1, h3, em]; rfl⟩
    have g3 : k = 2 → ∀ f r, (st ++ r).length ≤ f → noHead 38 r → noHead 124 r → ∃ g, r.length ≤ g ∧ rSame A f (st ++ r) = rLoop (rOr A f) 61 5 g (Tm.bin k a b).marks r := by
      rintro rfl f r hl hn hn2
      rw [e] at hl ⊢
      have la : sign 2 = 61 := rfl
      rw [la] at hl ⊢
      obtain ⟨g, hg, h1⟩ := ia.l3 f _ hl (by simp [noHead]) (by simp [noHead])
      obtain ⟨g0, _, h2⟩ := ib.l2 f r (by simp at hl ⊢; omega) (by simp; omega) hn
      rw [rLoop_stop g0 _ hn2] at h2
      obtain ⟨g', hg', h3⟩ := rLoop_step (k := 5) (t := a.marks) hg (by simp) h2
      exact ⟨g', hg', by rw [h1, h3, em]; rfl⟩
    refine ⟨fun f r hl hq => ?_, fun f r hl hq => ?_, fun f r hl hq hn => ?_, fun f r hl hn hn2 => ?_⟩
    · have := hq rfl; omega
    · have := hq rfl; exact g1 (by omega) f r hl
    · have := hq rfl
      rcases (by omega : k = 0 ∨ k = 1) with hk | hk
      · exact lift2 hl hn (g1 hk f r hl)
      · exact g2 hk f r hl hn
    · rcases (by omega : k = 0 ∨ k = 1 ∨ k = 2) with hk | hk | hk
      · exact lift3 hl hn2 (lift2 hl hn (g1 hk f r hl))
      · exact lift3 hl hn2 (g2 hk f r hl hn)
      · exact g3 hk f r hl hn hn2
theorem read_text {A : UInt8 → Option Mark} (hA : AOk A) (T : Tm) (h : T.ok) (f : Nat) (hf : T.text.length ≤ f) : rSame A f T.text = ⟨T.marks, [], true⟩ := by
  obtain ⟨g, _, e⟩ := (RT.tm hA T h).l3 f [] (by simpa using hf) (by simp [noHead]) (by simp [noHead])
  rw [List.append_nil] at e
  rw [e, rLoop_stop g _ (by simp [noHead])]
theorem rRow_nil {p : List UInt8 → R} {sg : UInt8} {k : Int} {g : Nat} (h : (p []).ok = false) : (rRow p sg k g []).ok = false := by
  unfold rRow; rw [if_neg (by simp [h])]
theorem rPart_nil (A : UInt8 → Option Mark) (f : Nat) : (rPart A f []).ok = false := by cases f <;> rfl
theorem rSame_nil (A : UInt8 → Option Mark) (f : Nat) : (rSame A f []).ok = false := rRow_nil (rRow_nil (rRow_nil (rPart_nil A f)))
/-- The atoms of the program, and of the reference. -/
def atomI (c : UInt8) : Option Mark := if 97 ≤ c.toNat ∧ c.toNat ≤ 122 then some ⟨0, (c.toNat : Int) - 97⟩ else if 48 ≤ c.toNat ∧ c.toNat ≤ 57 then some ⟨1, (c.toNat : Int) - 48⟩ else none
def atomS (c : UInt8) : Option Mark := if 97 ≤ c.toNat ∧ c.toNat ≤ 100 then some ⟨0, (c.toNat : Int) - 97⟩ else if 48 ≤ c.toNat ∧ c.toNat ≤ 53 then some ⟨1, (c.toNat : Int) - 48⟩ else none
theorem atomI_ok : AOk atomI where
  letter i hi := by rcases (by omega : i = 0 ∨ i = 1 ∨ i = 2 ∨ i = 3) with rfl | rfl | rfl | rfl <;> rfl
  digit i hi := by rcases (by omega : i = 0 ∨ i = 1 ∨ i = 2 ∨ i = 3 ∨ i = 4 ∨ i = 5) with rfl | rfl | rfl | rfl | rfl | rfl <;> rfl
  bang := rfl
  brak := rfl
theorem atomS_ok : AOk atomS where
  letter i hi := by rcases (by omega : i = 0 ∨ i = 1 ∨ i = 2 ∨ i = 3) with rfl | rfl | rfl | rfl <;> rfl
  digit i hi := by rcases (by omega : i = 0 ∨ i = 1 ∨ i = 2 ∨ i = 3 ∨ i = 4 ∨ i = 5) with rfl | rfl | rfl | rfl | rfl | rfl <;> rfl
  bang := rfl
  brak := rfl
theorem atomI_good (c : UInt8) (m : Mark) (h : atomI c = some m) : 0 ≤ m.kind ∧ m.kind ≤ 5 ∧ 0 ≤ m.num ∧ m.num ≤ 1000 := by
  unfold atomI at h
  split at h
  · cases h; simp only; omega
  split at h
  · cases h; simp only; omega
  · cases h
theorem atomS_good (c : UInt8) (m : Mark) (h : atomS c = some m) : 0 ≤ m.kind ∧ m.kind ≤ 5 ∧ 0 ≤ m.num ∧ m.num ≤ 1000 := by
  unfold atomS at h
  split at h
  · cases h; simp only; omega
  split at h
  · cases h; simp only; omega
  · cases h
/-- The text of a term. -/
noncomputable def termText (people : Int) (t : List Mark) : List UInt8 := by
  classical exact if h : termOk people t = true then (Classical.choose (termOk_tree h)).text else []
theorem termText_no {people : Int} {t : List Mark} (h : termOk people t = false) : termText people t = [] := by
  unfold termText; rw [dif_neg (by simp [h])]
theorem termText_tree {people : Int} {t : List Mark} (h : termOk people t = true) : ∃ T : Tm, T.ok ∧ T.marks = t ∧ T.text = termText people t := by
  unfold termText; rw [dif_pos h]
  exact ⟨_, (Classical.choose_spec (termOk_tree h)).1, (Classical.choose_spec (termOk_tree h)).2, rfl⟩
theorem termOk_pos {people : Int} {t : List Mark} (h : termOk people t = true) : 1 ≤ t.length := by
  obtain ⟨T, _, rfl, _⟩ := termText_tree h; exact T.marks_pos
theorem tm_text_pos : ∀ T : Tm, T.text ≠ []
  | .tells i => by simp [Tm.text]
  | .count i => by simp [Tm.text]
  | .not a => by simp [Tm.text]
  | .bin k a b => by simp [Tm.text]
theorem termText_pos {people : Int} {t : List Mark} (h : termOk people t = true) : termText people t ≠ [] := by
  obtain ⟨T, _, _, h3⟩ := termText_tree h; rw [← h3]; exact tm_text_pos T
/-- What ReadTerm finds. -/
noncomputable def readT (people : Int) (s : List UInt8) : Option (List Mark) := by
  classical exact if h : s.length ≤ 60 ∧ ∃ t, termOk people t = true ∧ termText people t = s then some (Classical.choose h.2) else none
theorem text_inj {people : Int} {t u : List Mark} (ht : termOk people t = true) (hu : termOk people u = true) (h : termText people t = termText people u) : t = u := by
  obtain ⟨T, a1, a2, a3⟩ := termText_tree ht
  obtain ⟨U, b1, b2, b3⟩ := termText_tree hu
  have e1 := read_text atomI_ok T a1 _ (Nat.le_refl _)
  have e2 := read_text atomI_ok U b1 _ (Nat.le_refl _)
  have : T.text = U.text := by rw [a3, b3, h]
  rw [this, e2] at e1
  have := congrArg R.ms e1
  simp only at this
  rw [← a2, ← b2, this]
theorem readT_some {people : Int} {s : List UInt8} {t : List Mark} (hl : s.length ≤ 60) (h : termOk people t = true) (hs : termText people t = s) : readT people s = some t := by
  have hx : s.length ≤ 60 ∧ ∃ t, termOk people t = true ∧ termText people t = s := ⟨hl, t, h, hs⟩
  unfold readT; rw [dif_pos hx]
  have := Classical.choose_spec hx.2
  exact congrArg some (text_inj this.1 h (by rw [this.2, hs]))
theorem readT_is {people : Int} {s : List UInt8} {t : List Mark} (h : readT people s = some t) : s.length ≤ 60 ∧ termOk people t = true ∧ termText people t = s := by
  unfold readT at h
  split at h
  · rename_i hx; cases h; exact ⟨hx.1, Classical.choose_spec hx.2⟩
  · cases h
theorem readT_none {people : Int} {s : List UInt8} (h : ∀ t, s.length ≤ 60 → termOk people t = true → termText people t ≠ s) : readT people s = none := by
  unfold readT; rw [dif_neg]; rintro ⟨hl, t, h1, h2⟩; exact h t hl h1 h2
/-- What the code does: read, then compare. -/
theorem readT_code {people : Int} {s : List UInt8} {A : UInt8 → Option Mark} (hA : AOk A) (hl : s.length ≤ 60) :
    readT people s = if (rSame A s.length s).ok = true ∧ (rSame A s.length s).rest = [] ∧ termOk people (rSame A s.length s).ms = true ∧ termText people (rSame A s.length s).ms = s then some (rSame A s.length s).ms else none := by
  split
  · rename_i h; exact readT_some hl h.2.2.1 h.2.2.2
  · rename_i h
    refine readT_none fun t _ h1 h2 => h ?_
    obtain ⟨T, a1, a2, a3⟩ := termText_tree h1
    have e := read_text hA T a1 s.length (by rw [a3, h2]; exact Nat.le_refl _)
    rw [a3, h2] at e
    rw [e]
    exact ⟨rfl, rfl, by rw [a2]; exact h1, by rw [a2]; exact h2⟩
end TL

/- Claims, their texts, and what is read: the plain part. -/
set_option linter.unusedSimpArgs false
set_option linter.unusedVariables false
set_option maxRecDepth 100000
namespace TL
def Tm.bins : Tm → Nat
  | .tells _ => 0
  | .count _ => 0
  | .not a => a.bins
  | .bin _ a b => a.bins + b.bins + 1
theorem Tm.bins_le : ∀ T : Tm, 2 * T.bins + 1 ≤ T.marks.length
  | .tells _ => by simp [bins, marks]
  | .count _ => by simp [bins, marks]
  | .not a => by have := a.bins_le; simp [bins, marks]; omega
  | .bin k a b => by have := a.bins_le; have := b.bins_le; simp [bins, marks]; omega
theorem par_len2 (q : Bool) (T : Tm) (hq : q = true → 3 ≤ T.kind) (h : T.text.length + (if 3 ≤ T.kind then 2 else 0) ≤ T.marks.length + 2 * T.bins) : (par q T.text).length ≤ T.marks.length + 2 * T.bins := by
  cases q with
  | false => simp only [par, Bool.false_eq_true, if_false]; omega
  | true =>
    have := hq rfl
    rw [if_pos this] at h
    simp [par]; omega
theorem Tm.text_len2 : ∀ T : Tm, T.text.length + (if 3 ≤ T.kind then 2 else 0) ≤ T.marks.length + 2 * T.bins
  | .tells _ => by simp [text, marks, kind, bins]
  | .count _ => by simp [text, marks, kind, bins]
  | .not a => by
    have := par_len2 (decide (3 ≤ a.kind)) a (by simp) a.text_len2
    rw [if_neg (by simp [kind])]
    simp only [text, marks, bins, List.length_append, List.length_cons, List.length_nil]; omega
  | .bin k a b => by
    have h1 := par_len2 (decide (3 + k < a.kind)) a (by simp; omega) a.text_len2
    have h2 := par_len2 (decide (3 + k ≤ b.kind)) b (by simp; omega) b.text_len2
    rw [if_pos (by simp [kind])]
    simp only [text, marks, bins, List.length_append, List.length_cons, List.length_nil]; omega
theorem Tm.text_short (T : Tm) : T.text.length + 1 ≤ 2 * T.marks.length := by
  have := T.text_len2; have := T.bins_le
  have h : T.text.length ≤ T.marks.length + 2 * T.bins := by omega
  omega
theorem termText_len {people : Int} {t : List Mark} (h : termOk people t = true) : (termText people t).length + 1 ≤ 2 * t.length := by
  obtain ⟨T, _, h2, h3⟩ := termText_tree h
  rw [← h3, ← h2]; exact T.text_short
theorem termOk_len {people : Int} {t : List Mark} (h : termOk people t = true) : 1 ≤ t.length ∧ t.length ≤ 15 ∧ 1 ≤ people ∧ people ≤ 4 := by
  simp only [termOk, peopleOk, Bool.and_eq_true, decide_eq_true_eq] at h
  omega
/-- No blank, no newline, no comma, no dot, no colon. -/
def plain (c : UInt8) : Prop := c ≠ 32 ∧ c ≠ 10 ∧ c ≠ 44 ∧ c ≠ 46 ∧ c ≠ 58
theorem par_plain {q : Bool} {s : List UInt8} (h : ∀ c ∈ s, plain c) : ∀ c ∈ par q s, plain c := by
  cases q with
  | false => exact h
  | true =>
    intro c hc
    simp only [par, if_true, List.mem_cons, List.mem_append, List.mem_nil_iff, or_false] at hc
    rcases hc with rfl | hc | rfl
    · exact ⟨by decide, by decide, by decide, by decide, by decide⟩
    · exact h c hc
    · exact ⟨by decide, by decide, by decide, by decide, by decide⟩
theorem Tm.text_plain : ∀ T : Tm, T.ok → ∀ c ∈ T.text, plain c
  | .tells i, h, c, hc => by
    have hi : i < 4 := h
    cases List.mem_singleton.1 hc
    rcases (by omega : i = 0 ∨ i = 1 ∨ i = 2 ∨ i = 3) with rfl | rfl | rfl | rfl <;> exact ⟨by decide, by decide, by decide, by decide, by decide⟩
  | .count i, h, c, hc => by
    have hi : i < 6 := h
    cases List.mem_singleton.1 hc
    rcases (by omega : i = 0 ∨ i = 1 ∨ i = 2 ∨ i = 3 ∨ i = 4 ∨ i = 5) with rfl | rfl | rfl | rfl | rfl | rfl <;> exact ⟨by decide, by decide, by decide, by decide, by decide⟩
  | .not a, h, c, hc => by
    rcases List.mem_cons.1 hc with rfl | hc
    · exact ⟨by decide, by decide, by decide, by decide, by decide⟩
    · exact par_plain (a.text_plain h) c hc
  | .bin k a b, h, c, hc => by
    rcases List.mem_append.1 hc with hc | hc
    · exact par_plain (a.text_plain h.2.1) c hc
    rcases List.mem_cons.1 hc with rfl | hc
    · have hk := h.1
      rcases (by omega : k = 0 ∨ k = 1 ∨ k = 2) with rfl | rfl | rfl <;> exact ⟨by decide, by decide, by decide, by decide, by decide⟩
    · exact par_plain (b.text_plain h.2.2) c hc
theorem termText_plain {people : Int} {t : List Mark} (h : termOk people t = true) : ∀ c ∈ termText people t, plain c := by
  obtain ⟨T, h1, _, h3⟩ := termText_tree h
  rw [← h3]; exact T.text_plain h1
/-- The text of a claim. -/
noncomputable def claimTx (people : Int) (c : Claim) : List UInt8 := if claimOk people c = true then UInt8.ofNat (97 + c.who.toNat) :: 58 :: termText people c.says else []
theorem claimOk_all {people : Int} {c : Claim} (h : claimOk people c = true) : 1 ≤ people ∧ people ≤ 4 ∧ 0 ≤ c.who ∧ c.who < people ∧ termOk people c.says = true ∧ c.says.length ≤ 13 := by
  simp only [claimOk, peopleOk, Bool.and_eq_true, decide_eq_true_eq] at h
  exact ⟨by omega, by omega, by omega, by omega, h.1.2, h.2⟩
theorem claimOk_mk {people : Int} {c : Claim} (h0 : 0 ≤ c.who) (h1 : c.who < people) (h2 : termOk people c.says = true) (h3 : c.says.length ≤ 13) : claimOk people c = true := by
  have := termOk_len h2
  simp only [claimOk, peopleOk, Bool.and_eq_true, decide_eq_true_eq]
  exact ⟨⟨⟨⟨⟨by omega, by omega⟩, h0⟩, h1⟩, h2⟩, h3⟩
theorem claimTx_fn (people : Int) (c : Claim) : FnZ Go.Proofs.Tryd.prog 62 [.int .i64 people, c.v] (.str (claimTx people c)) := by
  have hk := ft (claimOk people c)
  rcases hk with hk | hk
  · have := claimText_no people c hk
    unfold claimTx; rw [if_neg (by simp [hk])]; exact this
  · obtain ⟨T, h1, h2, h3⟩ := termText_tree (claimOk_all hk).2.2.2.2.1
    have := claimText_fn people c hk T h1 h2
    unfold claimTx; rw [if_pos hk, ← h3]; exact this
theorem claimTxS_fn (people : Int) (c : Claim) (hf : c.fine) : FnZ Go.Proofs.Tryd.prog 60 [.int .i64 people, c.v] (.str (claimTx people c)) := by
  have hk := ft (claimOk people c)
  rcases hk with hk | hk
  · have := claimTextS_no people c hf hk
    unfold claimTx; rw [if_neg (by simp [hk])]; exact this
  · obtain ⟨T, h1, h2, h3⟩ := termText_tree (claimOk_all hk).2.2.2.2.1
    have := claimTextS_fn people c hf hk T h1 h2
    unfold claimTx; rw [if_pos hk, ← h3]; exact this
theorem letter_back {w : Int} (h0 : 0 ≤ w) (h4 : w < 4) : ((UInt8.ofNat (97 + w.toNat)).toNat : Int) - 97 = w := by
  rw [UInt8.toNat_ofNat']; omega
theorem letter_fwd (a : UInt8) (w : Int) (h : w = (a.toNat : Int) - 97) (h0 : 0 ≤ w) : UInt8.ofNat (97 + w.toNat) = a := by
  have := UInt8.toNat_lt a
  apply UInt8.toNat.inj
  rw [UInt8.toNat_ofNat']; omega
theorem claimTx_len {people : Int} {c : Claim} (h : claimOk people c = true) : 3 ≤ (claimTx people c).length ∧ (claimTx people c).length ≤ 27 ∧ (termText people c.says).length ≤ 25 ∧ 1 ≤ (termText people c.says).length := by
  obtain ⟨h1, h2, h3, h4, h5, h6⟩ := claimOk_all h
  have := termText_len h5
  have hp := List.length_pos_iff.2 (termText_pos h5)
  unfold claimTx; rw [if_pos h]; simp; omega
/-- What ReadClaim finds. -/
noncomputable def readC (people : Int) (s : List UInt8) : Option Claim := match s with
  | a :: b :: rest => if b = 58 then (readT people rest).bind fun t => if claimOk people ⟨(a.toNat : Int) - 97, t⟩ = true then some ⟨(a.toNat : Int) - 97, t⟩ else none else none
  | _ => none
theorem readC_text {people : Int} {c : Claim} (h : claimOk people c = true) : readC people (claimTx people c) = some c := by
  obtain ⟨h1, h2, h3, h4, h5, h6⟩ := claimOk_all h
  have hl := (claimTx_len h).2.2.1
  unfold claimTx; rw [if_pos h]
  unfold readC
  simp only [if_true]
  rw [readT_some (by omega) h5 rfl]
  simp only [Option.bind_some]
  rw [letter_back h3 (by omega)]
  exact if_pos h
theorem readC_is {people : Int} {s : List UInt8} {c : Claim} (h : readC people s = some c) : claimOk people c = true ∧ claimTx people c = s := by
  unfold readC at h
  split at h
  · rename_i a b rest
    split at h
    · rename_i hb
      cases e : readT people rest with
      | none => rw [e] at h; cases h
      | some t =>
        rw [e, Option.bind_some] at h
        split at h
        · rename_i hk
          cases h
          obtain ⟨_, h2, h3⟩ := readT_is e
          refine ⟨hk, ?_⟩
          obtain ⟨_, _, g3, _, _, _⟩ := claimOk_all hk
          unfold claimTx
          rw [if_pos hk, letter_fwd a _ rfl g3, hb, h3]
        · cases h
    · cases h
  · cases h
theorem readC_iff {people : Int} {s : List UInt8} {c : Claim} : readC people s = some c ↔ claimOk people c = true ∧ claimTx people c = s :=
  ⟨readC_is, fun h => by rw [← h.2]; exact readC_text h.1⟩
/-- With a further sign behind it, that no term has. -/
theorem readC_more {people : Int} {s : List UInt8} {c : Claim} {x : UInt8} (h : readC people s = some c) (hx : ¬ plain x) : readC people (s ++ [x]) = none := by
  cases e : readC people (s ++ [x]) with
  | none => rfl
  | some d =>
    obtain ⟨h1, h2⟩ := readC_is h
    obtain ⟨g1, g2⟩ := readC_is e
    obtain ⟨_, _, _, _, h5, _⟩ := claimOk_all h1
    obtain ⟨_, _, _, _, g5, _⟩ := claimOk_all g1
    exfalso
    have hp := (claimTx_len h1).2.2.2
    unfold claimTx at h2 g2
    rw [if_pos h1] at h2
    rw [if_pos g1, ← h2] at g2
    have e2 : termText people d.says = termText people c.says ++ [x] := by
      have := congrArg (List.drop 2) g2
      simpa using this
    exact hx (termText_plain g5 x (by rw [e2]; simp))
end TL
