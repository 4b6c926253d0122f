/- TL: parts FnsA1, FnsA2, FnsA3, FnsI1, FnsI3, FnsI5a, FnsA4, FnsI5b, FnsI5, FnsI6, FnsI4, FnsI7, FnsI8. -/
import Derived.Test.YtnimfdpinpggdaaGreatDoorHf
import Derived.Test.YtnimfdpinpggdaaGreatDoorHe
import Derived.Lib.ItoaNum
set_option linter.unusedSimpArgs false
set_option linter.unusedVariables false
set_option maxRecDepth 100000
set_option maxHeartbeats 4000000
set_option pp.maxSteps 1500
namespace TL
open Go Go.Proofs
/-- A table of worlds of p people. -/
def InT (p T : Nat) : Prop := T < 2 ^ 2 ^ p
theorem InT.bit {p T w : Nat} (h : InT p T) (hw : T.testBit w = true) : w < 2 ^ p := by
 rcases Nat.lt_or_ge w (2 ^ p) with h1 | h1
 ·exact h1
 ·have : T.testBit w = false := Nat.testBit_lt_two_pow (Nat.lt_of_lt_of_le h (Nat.pow_le_pow_right (by omega) h1))
  rw [this] at hw; cases hw
/-- The person tells the truth in all worlds of a table. -/
def tells (p T k : Nat) : Bool := (List.range (2 ^ p)).all fun w => !T.testBit w || w.testBit k
def doneT (p T : Nat) : Bool := decide (T = 0) || (List.range p).any (tells p T)
theorem doneT_iff {p T : Nat} : doneT p T = true ↔ T = 0 ∨ ∃ k,k < p ∧ tells p T k = true := by
 simp [doneT]
def askY (p T i j : Nat) : Nat := T &&& askMask p i j true
def askN (p T i j : Nat) : Nat := T &&& askMask p i j false
theorem bit_askY {p T i j w : Nat} (h : InT p T) : (askY p T i j).testBit w = (T.testBit w && (w.testBit i == w.testBit j)) := by
 unfold askY askMask
 rw [Nat.testBit_and,testBit_tabN]
 cases hw : T.testBit w
 ·simp
 ·simp [h.bit hw,sameKind]
theorem bit_askN {p T i j w : Nat} (h : InT p T) : (askN p T i j).testBit w = (T.testBit w && !(w.testBit i == w.testBit j)) := by
 unfold askN askMask
 rw [Nat.testBit_and,testBit_tabN]
 cases hw : T.testBit w
 ·simp
 ·simp [h.bit hw,sameKind]
theorem InT.askY {p T i j : Nat} (h : InT p T) : InT p (askY p T i j) := Nat.lt_of_le_of_lt Nat.and_le_left h
theorem InT.askN {p T i j : Nat} (h : InT p T) : InT p (askN p T i j) := Nat.lt_of_le_of_lt Nat.and_le_left h
theorem askY_comm {p T i j : Nat} (h : InT p T) : askY p T i j = askY p T j i := by
 apply Nat.eq_of_testBit_eq; intro w
 rw [bit_askY h,bit_askY h]
 cases T.testBit w <;> cases w.testBit i <;> cases w.testBit j <;> rfl
theorem askN_comm {p T i j : Nat} (h : InT p T) : askN p T i j = askN p T j i := by
 apply Nat.eq_of_testBit_eq; intro w
 rw [bit_askN h,bit_askN h]
 cases T.testBit w <;> cases w.testBit i <;> cases w.testBit j <;> rfl
theorem ne_zero_iff {T : Nat} : T ≠ 0 ↔ ∃ w,T.testBit w = true := by
 constructor
 ·intro h
  refine Classical.byContradiction fun hn => h (Nat.eq_of_testBit_eq fun w => ?_)
  rw [Nat.zero_testBit]
  cases hw : T.testBit w
  ·rfl
  ·exact absurd ⟨w,hw⟩ hn
 ·rintro ⟨w,hw⟩ rfl
  rw [Nat.zero_testBit] at hw; cases hw
def splits (p T i j : Nat) : Bool := decide (askY p T i j ≠ 0) && decide (askN p T i j ≠ 0)
theorem splits_iff {p T i j : Nat} : splits p T i j = true ↔ askY p T i j ≠ 0 ∧ askN p T i j ≠ 0 := by simp [splits]
/-- With so many questions it is enough. -/
def sol (p : Nat) : Nat → Nat → Bool
 | 0,T => doneT p T
 | d + 1,T => doneT p T || (List.range p).any fun i => (List.range i).any fun j => splits p T i j && sol p d (askY p T i j) && sol p d (askN p T i j)
theorem sol_succ {p d T : Nat} : sol p (d + 1) T = true ↔ doneT p T = true ∨ ∃ i j,i < p ∧ j < i ∧ splits p T i j = true ∧ sol p d (askY p T i j) = true ∧ sol p d (askN p T i j) = true := by
 simp only [sol,Bool.or_eq_true,List.any_eq_true,List.mem_range,Bool.and_eq_true]
 constructor
 ·rintro (h | ⟨i,hi,j,hj,⟨h1,h2⟩,h3⟩)
  ·exact .inl h
  ·exact .inr ⟨i,j,hi,hj,h1,h2,h3⟩
 ·rintro (h | ⟨i,j,hi,hj,h1,h2,h3⟩)
  ·exact .inl h
  ·exact .inr ⟨i,hi,j,hj,⟨h1,h2⟩,h3⟩
theorem sol_done {p T : Nat} (h : doneT p T = true) : ∀ d,sol p d T = true
 | 0 => h
 | d + 1 => sol_succ.2 (.inl h)
theorem sol_mono1 {p : Nat} : ∀ d T,sol p d T = true → sol p (d + 1) T = true
 | 0,T,h => sol_done h 1
 | d + 1,T,h => by
  rcases sol_succ.1 h with h | ⟨i,j,hi,hj,h1,h2,h3⟩
  ·exact sol_done h _
  ·exact sol_succ.2 (.inr ⟨i,j,hi,hj,h1,sol_mono1 d _ h2,sol_mono1 d _ h3⟩)
theorem sol_mono {p d e T : Nat} (h : d ≤ e) (hs : sol p d T = true) : sol p e T = true := by
 obtain ⟨k,rfl⟩ := Nat.exists_eq_add_of_le h
 induction k with
 | zero => exact hs
 | succ k ih => exact sol_mono1 _ _ (ih (by omega))
/-! The least number, at most m. -/
def lv (p m T : Nat) : Int := match (List.range (m + 1)).find? fun d => sol p d T with
 | some d => (d : Int)
 | none => -1
def IsLv (p m T : Nat) (v : Int) : Prop := (v = -1 ∧ ∀ d,d ≤ m → sol p d T = false) ∨ ∃ d : Nat,d ≤ m ∧ v = d ∧ sol p d T = true ∧ ∀ e,e < d → sol p e T = false
theorem find_range {f : Nat → Bool} : ∀ n,(∃ d,(List.range n).find? f = some d ∧ d < n ∧ f d = true ∧ ∀ e,e < d → f e = false) ∨ ((List.range n).find? f = none ∧ ∀ e,e < n → f e = false)
 | 0 => .inr ⟨rfl,fun e h => absurd h (by omega)⟩
 | n + 1 => by
  rw [List.range_succ,List.find?_append]
  rcases find_range (f := f) n with ⟨d,h1,h2,h3,h4⟩ | ⟨h1,h2⟩
  ·exact .inl ⟨d,by rw [h1]; rfl,by omega,h3,h4⟩
  ·rw [h1]
   cases hf : f n
   ·refine .inr ⟨by simp [hf],fun e he => ?_⟩
    rcases Nat.lt_or_ge e n with h | h
    ·exact h2 e h
    ·have : e = n := by omega
     rw [this]; exact hf
   ·exact .inl ⟨n,by simp [hf],by omega,hf,h2⟩
theorem lv_is (p m T : Nat) : IsLv p m T (lv p m T) := by
 unfold lv
 rcases find_range (f := fun d => sol p d T) (m + 1) with ⟨d,h1,h2,h3,h4⟩ | ⟨h1,h2⟩
 ·rw [h1]; exact .inr ⟨d,by omega,rfl,h3,h4⟩
 ·rw [h1]; exact .inl ⟨rfl,fun d hd => h2 d (by omega)⟩
theorem IsLv.uniq {p m T : Nat} {v u : Int} (h : IsLv p m T v) (g : IsLv p m T u) : v = u := by
 rcases h with ⟨h1,h2⟩ | ⟨d,h1,h2,h3,h4⟩ <;> rcases g with ⟨g1,g2⟩ | ⟨e,g1,g2,g3,g4⟩
 ·rw [h1,g1]
 ·rw [h2 e g1] at g3; cases g3
 ·rw [g2 d h1] at h3; cases h3
 ·have : d = e := by
   rcases Nat.lt_trichotomy d e with h | h | h
   ·rw [g4 d h] at h3; cases h3
   ·exact h
   ·rw [h4 e h] at g3; cases g3
  rw [h2,g2,this]
theorem lv_nonneg {p m T : Nat} (h : 0 ≤ lv p m T) : ∃ d : Nat,d ≤ m ∧ lv p m T = d ∧ sol p d T = true := by
 rcases lv_is p m T with ⟨h1,_⟩ | ⟨d,h1,h2,h3,_⟩
 ·omega
 ·exact ⟨d,h1,h2,h3⟩
theorem lv_le {p m T d : Nat} (hd : d ≤ m) (h : sol p d T = true) : 0 ≤ lv p m T ∧ lv p m T ≤ d := by
 rcases lv_is p m T with ⟨h1,h2⟩ | ⟨e,h1,h2,h3,h4⟩
 ·rw [h2 d hd] at h; cases h
 ·rcases Nat.lt_or_ge d e with h5 | h5
  ·rw [h4 d h5] at h; cases h
  ·omega
/-! The loops' best number. -/
def stepB (best : Int) : Option Int → Int
 | none => best
 | some v => if best < 0 ∨ v < best then v else best
def candB (p T : Nat) (g : Nat → Int) (i j : Nat) : Option Int := if splits p T i j = true ∧ 0 ≤ g (askY p T i j) ∧ 0 ≤ g (askN p T i j) then some (1 + max (g (askY p T i j)) (g (askN p T i j))) else none
def InvB (p T : Nat) (g : Nat → Int) (S : Nat → Nat → Prop) (b : Int) : Prop := (b = -1 ∧ ∀ i j,S i j → candB p T g i j = none) ∨ (0 ≤ b ∧ (∃ i j,S i j ∧ candB p T g i j = some b) ∧ ∀ i j v,S i j → candB p T g i j = some v → b ≤ v)
theorem InvB.same {p T : Nat} {g : Nat → Int} {S S' : Nat → Nat → Prop} {b : Int} (h : InvB p T g S b) (hs : ∀ i j,S' i j ↔ S i j) : InvB p T g S' b := by
 have e : S' = S := by funext i j; exact propext (hs i j)
 rw [e]; exact h
theorem cand_pos {p T : Nat} {g : Nat → Int} {i j : Nat} {v : Int} (h : candB p T g i j = some v) : 0 ≤ v ∧ splits p T i j = true ∧ 0 ≤ g (askY p T i j) ∧ 0 ≤ g (askN p T i j) ∧ v = 1 + max (g (askY p T i j)) (g (askN p T i j)) := by
 unfold candB at h
 split at h
 ·rename_i hh; cases h; exact ⟨by omega,hh.1,hh.2.1,hh.2.2,rfl⟩
 ·cases h
theorem InvB.step {p T : Nat} {g : Nat → Int} {S S' : Nat → Nat → Prop} {b : Int} {a c : Nat} (h : InvB p T g S b) (hs : ∀ i j,S' i j ↔ S i j ∨ (i = a ∧ j = c)) : InvB p T g S' (stepB b (candB p T g a c)) := by
 cases hc : candB p T g a c with
 | none =>
  simp only [stepB]
  rcases h with ⟨h1,h2⟩ | ⟨h1,⟨i,j,h2,h3⟩,h4⟩
  ·refine .inl ⟨h1,fun i j hij => ?_⟩
   rcases (hs i j).1 hij with h | ⟨rfl,rfl⟩
   ·exact h2 i j h
   ·exact hc
  ·refine .inr ⟨h1,⟨i,j,(hs i j).2 (.inl h2),h3⟩,fun x y v hxy hv => ?_⟩
   rcases (hs x y).1 hxy with h | ⟨rfl,rfl⟩
   ·exact h4 x y v h hv
   ·rw [hc] at hv; cases hv
 | some u =>
  have hu := (cand_pos hc).1
  simp only [stepB]
  rcases h with ⟨h1,h2⟩ | ⟨h1,⟨i,j,h2,h3⟩,h4⟩
  ·rw [if_pos (.inl (by omega))]
   refine .inr ⟨hu,⟨a,c,(hs a c).2 (.inr ⟨rfl,rfl⟩),hc⟩,fun x y v hxy hv => ?_⟩
   rcases (hs x y).1 hxy with h | ⟨rfl,rfl⟩
   ·rw [h2 x y h] at hv; cases hv
   ·rw [hc] at hv; cases hv; omega
  ·by_cases hlt : u < b
   ·rw [if_pos (.inr hlt)]
    refine .inr ⟨hu,⟨a,c,(hs a c).2 (.inr ⟨rfl,rfl⟩),hc⟩,fun x y v hxy hv => ?_⟩
    rcases (hs x y).1 hxy with h | ⟨rfl,rfl⟩
    ·have := h4 x y v h hv; omega
    ·rw [hc] at hv; cases hv; omega
   ·rw [if_neg (by omega)]
    refine .inr ⟨h1,⟨i,j,(hs i j).2 (.inl h2),h3⟩,fun x y v hxy hv => ?_⟩
    rcases (hs x y).1 hxy with h | ⟨rfl,rfl⟩
    ·exact h4 x y v h hv
    ·rw [hc] at hv; cases hv; omega
theorem cand_comm {p T : Nat} {g : Nat → Int} {i j : Nat} (h : InT p T) : candB p T g i j = candB p T g j i := by
 unfold candB splits
 rw [askY_comm h,askN_comm h]
/-- What the loops find is the least number. -/
theorem InvB.lv {p m T : Nat} {S : Nat → Nat → Prop} {b : Int} (hT : InT p T) (hd : doneT p T = false) (h : InvB p T (TL.lv p m) S b) (h1 : ∀ i j,S i j → i < p ∧ j < p ∧ i ≠ j) (h2 : ∀ i j,i < p → j < i → S i j ∨ S j i) : IsLv p (m + 1) T b := by
 have hno : ∀ i j,i < p → j < i → (∃ d,d ≤ m ∧ sol p d (askY p T i j) = true ∧ sol p d (askN p T i j) = true) → splits p T i j = true → ∃ v,candB p T (TL.lv p m) i j = some v := fun i j hi hj ⟨d,hdm,g1,g2⟩ g3 => by
  have q1 := lv_le hdm g1
  have q2 := lv_le hdm g2
  exact ⟨_,by unfold candB; rw [if_pos ⟨g3,q1.1,q2.1⟩]⟩
 rcases h with ⟨e1,e2⟩ | ⟨e1,⟨i,j,e2,e3⟩,e4⟩
 ·refine .inl ⟨e1,fun d hdm => ?_⟩
  cases hs : sol p d T
  ·rfl
  ·exfalso
   cases d with
   | zero => rw [show sol p 0 T = doneT p T from rfl,hd] at hs; cases hs
   | succ d =>
    rcases sol_succ.1 hs with h | ⟨i,j,hi,hj,g1,g2,g3⟩
    ·rw [hd] at h; cases h
    ·obtain ⟨v,hv⟩ := hno i j hi hj ⟨d,by omega,g2,g3⟩ g1
     rcases h2 i j hi hj with h | h
     ·rw [e2 i j h] at hv; cases hv
     ·rw [cand_comm hT,e2 j i h] at hv; cases hv
 ·obtain ⟨_,s1,s2,s3,s4⟩ := cand_pos e3
  obtain ⟨d1,a1,a2,a3⟩ := lv_nonneg s2
  obtain ⟨d2,b1,b2,b3⟩ := lv_nonneg s3
  rw [a2,b2] at s4
  refine .inr ⟨max d1 d2 + 1,by omega,by omega, ?_,fun e he => ?_⟩
  ·obtain ⟨g1,g2,g3⟩ := h1 i j e2
   refine sol_succ.2 (.inr ?_)
   rcases Nat.lt_or_ge j i with hji | hji
   ·exact ⟨i,j,g1,hji,s1,sol_mono (by omega) a3,sol_mono (by omega) b3⟩
   ·have s1' : splits p T j i = true := by unfold splits at s1 ⊢; rw [askY_comm hT,askN_comm hT]; exact s1
    exact ⟨j,i,g2,by omega,s1',by rw [askY_comm hT]; exact sol_mono (by omega) a3,by rw [askN_comm hT]; exact sol_mono (by omega) b3⟩
  ·cases hs : sol p e T
   ·rfl
   ·exfalso
    cases e with
    | zero => rw [show sol p 0 T = doneT p T from rfl,hd] at hs; cases hs
    | succ e =>
     rcases sol_succ.1 hs with h | ⟨x,y,hx,hy,g1,g2,g3⟩
     ·rw [hd] at h; cases h
     ·have q1 := lv_le (m := m) (by omega) g2
      have q2 := lv_le (m := m) (by omega) g3
      have hv : candB p T (TL.lv p m) x y = some (1 + max (TL.lv p m (askY p T x y)) (TL.lv p m (askN p T x y))) := by unfold candB; rw [if_pos ⟨g1,q1.1,q2.1⟩]
      have : b ≤ 1 + max (TL.lv p m (askY p T x y)) (TL.lv p m (askN p T x y)) := by
       rcases h2 x y hx hy with h | h
       ·exact e4 x y _ h hv
       ·rw [cand_comm hT] at hv; exact e4 y x _ h hv
      omega
theorem lv_done {p m T : Nat} (h : doneT p T = true) : lv p m T = 0 :=
 IsLv.uniq (lv_is p m T) (.inr ⟨0,by omega,rfl,h,fun e he => absurd he (by omega)⟩)
theorem lv_zero {p T : Nat} (h : doneT p T = false) : lv p 0 T = -1 := by
 refine IsLv.uniq (lv_is p 0 T) (.inl ⟨rfl,fun d hd => ?_⟩)
 have : d = 0 := by omega
 subst this
 exact h
end TL

namespace TL
open Go Go.Proofs
/-- Two people are always alike, or always not, in the worlds of a table. -/
def rel (T i j : Nat) : Prop := ∃ c : Bool,∀ w,T.testBit w = true → (w.testBit i == w.testBit j) = c
theorem rel_refl (T i : Nat) : rel T i i := ⟨true,fun w _ => by simp⟩
theorem rel_symm {T i j : Nat} (h : rel T i j) : rel T j i := by
 obtain ⟨c,h⟩ := h
 refine ⟨c,fun w hw => ?_⟩
 rw [← h w hw]
 cases w.testBit i <;> cases w.testBit j <;> rfl
theorem rel_trans {T i j k : Nat} (h : rel T i j) (g : rel T j k) : rel T i k := by
 obtain ⟨c,h⟩ := h
 obtain ⟨d,g⟩ := g
 refine ⟨c == d,fun w hw => ?_⟩
 rw [← h w hw,← g w hw]
 cases w.testBit i <;> cases w.testBit j <;> cases w.testBit k <;> rfl
theorem rel_sub {T U i j : Nat} (hs : ∀ w,U.testBit w = true → T.testBit w = true) (h : rel T i j) : rel U i j := by
 obtain ⟨c,h⟩ := h
 exact ⟨c,fun w hw => h w (hs w hw)⟩
/-- The first ones of their kind. -/
def isRep (T k : Nat) : Prop := ∀ j,j < k → ¬ rel T j k
open Classical in
noncomputable def cls (p T : Nat) : Nat := (List.range p).countP fun k => decide (isRep T k)
theorem count_lt {α : Type} {P Q : α → Bool} : ∀ (l : List α),(∀ x ∈ l,P x = true → Q x = true) → (∃ a ∈ l,Q a = true ∧ P a = false) → l.countP P < l.countP Q
 | [],_,⟨a,h,_⟩ => by cases h
 | x :: l,hi,⟨a,ha,hq,hp⟩ => by
  rw [List.countP_cons,List.countP_cons]
  rcases List.mem_cons.1 ha with rfl | ha
  ·rw [hq,hp]
   have : l.countP P ≤ l.countP Q := List.countP_mono_left fun x hx h => hi x (by simp [hx]) h
   simp; omega
  ·have := count_lt l (fun x hx => hi x (by simp [hx])) ⟨a,ha,hq,hp⟩
   have h1 := hi x (by simp)
   cases hpx : P x
   ·cases Q x <;> simp <;> omega
   ·rw [h1 hpx]; simp; omega
theorem first_rel (T i : Nat) : ∃ a,a ≤ i ∧ rel T a i ∧ isRep T a := by
 induction i using Nat.strongRecOn with
 | _ i ih =>
  by_cases h : isRep T i
  ·exact ⟨i,Nat.le_refl _,rel_refl T i,h⟩
  ·have : ∃ j,j < i ∧ rel T j i := by
    refine Classical.byContradiction fun hn => h fun j hj hr => hn ⟨j,hj,hr⟩
   obtain ⟨j,hj,hr⟩ := this
   obtain ⟨a,h1,h2,h3⟩ := ih j hj
   exact ⟨a,by omega,rel_trans h2 hr,h3⟩
theorem cls_lt {p T U i j : Nat} (hi : i < p) (hj : j < p) (hs : ∀ w,U.testBit w = true → T.testBit w = true) (hn : ¬ rel T i j) (hr : rel U i j) : cls p U < cls p T := by
 unfold cls
 refine count_lt _ (fun k _ h => ?_) ?_
 ·simp only [decide_eq_true_eq] at h ⊢
  exact fun a ha hra => h a ha (rel_sub hs hra)
 ·obtain ⟨a,a1,a2,a3⟩ := first_rel T i
  obtain ⟨b,b1,b2,b3⟩ := first_rel T j
  have hab : a ≠ b := by
   rintro rfl
   exact hn (rel_trans (rel_symm a2) b2)
  have hu : rel U a b := rel_trans (rel_sub hs a2) (rel_trans hr (rel_symm (rel_sub hs b2)))
  rcases Nat.lt_or_ge a b with h | h
  ·refine ⟨b,List.mem_range.2 (by omega),by simpa using b3, ?_⟩
   simp only [decide_eq_false_iff_not]
   exact fun hc => hc a h hu
  ·refine ⟨a,List.mem_range.2 (by omega),by simpa using a3, ?_⟩
   simp only [decide_eq_false_iff_not]
   exact fun hc => hc b (by omega) (rel_symm hu)
theorem cls_le (p T : Nat) : cls p T ≤ p := by
 unfold cls
 exact Nat.le_trans (List.countP_le_length) (by simp)
theorem cls_pos {p : Nat} (T : Nat) (hp : 1 ≤ p) : 1 ≤ cls p T := by
 unfold cls
 exact List.countP_pos_iff.2 ⟨0,List.mem_range.2 (by omega),by simp only [decide_eq_true_eq]; exact fun j hj => absurd hj (by omega)⟩
theorem split_rel {p T i j : Nat} (hT : InT p T) (h : splits p T i j = true) : ¬ rel T i j ∧ rel (askY p T i j) i j ∧ rel (askN p T i j) i j := by
 obtain ⟨h1,h2⟩ := splits_iff.1 h
 obtain ⟨u,hu⟩ := ne_zero_iff.1 h1
 obtain ⟨v,hv⟩ := ne_zero_iff.1 h2
 rw [bit_askY hT,Bool.and_eq_true] at hu
 rw [bit_askN hT,Bool.and_eq_true] at hv
 refine ⟨?_,⟨true,fun w hw => ?_⟩,⟨false,fun w hw => ?_⟩⟩
 ·rintro ⟨c,hc⟩
  have e1 := hc u hu.1
  have e2 := hc v hv.1
  rw [hu.2] at e1
  have e3 := hv.2
  rw [e2,← e1] at e3
  cases e3
 ·rw [bit_askY hT,Bool.and_eq_true] at hw; exact hw.2
 ·rw [bit_askN hT,Bool.and_eq_true] at hw
  cases hb : (w.testBit i == w.testBit j)
  ·rfl
  ·rw [hb] at hw; cases hw.2
theorem sol_cls {p : Nat} (hp : 1 ≤ p) : ∀ d T,InT p T → sol p d T = true → sol p (cls p T - 1) T = true
 | 0,T,_,h => sol_done h _
 | d + 1,T,hT,h => by
  rcases sol_succ.1 h with h | ⟨i,j,hi,hj,h1,h2,h3⟩
  ·exact sol_done h _
  ·obtain ⟨g1,g2,g3⟩ := split_rel hT h1
   have s1 : ∀ w,(askY p T i j).testBit w = true → T.testBit w = true := fun w hw => by rw [bit_askY hT,Bool.and_eq_true] at hw; exact hw.1
   have s2 : ∀ w,(askN p T i j).testBit w = true → T.testBit w = true := fun w hw => by rw [bit_askN hT,Bool.and_eq_true] at hw; exact hw.1
   have c1 := cls_lt hi (show j < p by omega) s1 g1 g2
   have c2 := cls_lt hi (show j < p by omega) s2 g1 g3
   have p1 := cls_pos (askY p T i j) hp
   have p2 := cls_pos (askN p T i j) hp
   have i1 := sol_cls hp d _ hT.askY h2
   have i2 := sol_cls hp d _ hT.askN h3
   obtain ⟨k,hk⟩ : ∃ k,cls p T - 1 = k + 1 := ⟨cls p T - 2,by omega⟩
   rw [hk]
   exact sol_succ.2 (.inr ⟨i,j,hi,hj,h1,sol_mono (by omega) i1,sol_mono (by omega) i2⟩)
/-- Fewer questions than people. -/
theorem sol_few {p d T : Nat} (hp : 1 ≤ p) (hT : InT p T) (h : sol p d T = true) : sol p (p - 1) T = true := by
 have := cls_le p T
 exact sol_mono (by omega) (sol_cls hp d T hT h)
theorem lv_lt {p m T : Nat} (hp : 1 ≤ p) (hT : InT p T) : lv p m T < p := by
 rcases lv_is p m T with ⟨h1,_⟩ | ⟨d,h1,h2,h3,h4⟩
 ·omega
 ·have := sol_few hp hT h3
  rcases Nat.lt_or_ge d p with h | h
  ·omega
  ·rw [h4 (p - 1) (by omega)] at this; cases this
theorem IsLv.down {p m T : Nat} {v : Int} (hp : 1 ≤ p) (hm : p - 1 ≤ m) (hT : InT p T) (h : IsLv p (m + 1) T v) : IsLv p m T v := by
 rcases h with ⟨h1,h2⟩ | ⟨d,h1,h2,h3,h4⟩
 ·exact .inl ⟨h1,fun d hd => h2 d (by omega)⟩
 ·refine .inr ⟨d, ?_,h2,h3,h4⟩
  have := sol_few hp hT h3
  rcases Nat.lt_or_ge (p - 1) d with h | h
  ·rw [h4 _ h] at this; cases this
  ·omega
end TL

namespace TL
open Go Go.Proofs
theorem tab_ok {p T : Nat} (h1 : 1 ≤ p) (h4 : p ≤ 4) (hT : InT p T) : tableOk p T = true := by
 have e : ((2 ^ 2 ^ p : Nat) : Int) = (2 : Int) ^ 2 ^ p := by simp
 have : (T : Int) < (2 : Int) ^ 2 ^ p := by rw [← e]; unfold InT at hT; omega
 simp only [tableOk,peopleOk,Bool.and_eq_true,decide_eq_true_eq]
 exact ⟨⟨⟨by omega,by omega⟩,by omega⟩,by simpa using this⟩
/-- The first one who is known. -/
def ktell (p T : Nat) : Int := match (List.range p).find? (tells p T) with
 | some k => (k : Int)
 | none => -1
def kt (p T : Nat) : Int := if T = 0 then -1 else ktell p T
theorem kt_done {p T : Nat} : (0 ≤ kt p T ∨ T = 0) ↔ doneT p T = true := by
 rw [doneT_iff]
 unfold kt ktell
 by_cases h0 : T = 0
 ·simp [h0]
 ·rw [if_neg h0]
  rcases find_range (f := tells p T) p with ⟨d,h1,h2,h3,h4⟩ | ⟨h1,h2⟩
  ·rw [h1]
   exact ⟨fun _ => .inr ⟨d,h2,h3⟩,fun _ => .inl (by simp)⟩
  ·rw [h1]
   constructor
   ·rintro (h | h)
    ·simp at h
    ·exact absurd h h0
   ·rintro (h | ⟨k,hk,ht⟩)
    ·exact absurd h h0
    ·rw [h2 k hk] at ht; cases ht
def andAll (N : Nat) (l : List Nat) : Nat := l.foldl (· &&& ·) N
theorem andAll_le (N : Nat) : ∀ l,andAll N l ≤ N := fun l => by
 unfold andAll
 induction l generalizing N with
 | nil => exact Nat.le_refl _
 | cons x xs ih => exact Nat.le_trans (ih _) Nat.and_le_left
theorem andAll_bit (i : Nat) : ∀ (l : List Nat) (N : Nat),(andAll N l).testBit i = (N.testBit i && l.all fun w => w.testBit i)
 | [],N => by simp [andAll]
 | x :: xs,N => by
  have := andAll_bit i xs (N &&& x)
  unfold andAll at this ⊢
  rw [List.foldl_cons,this,Nat.testBit_and,List.all_cons,Bool.and_assoc]
theorem andAll_snoc (N : Nat) (l : List Nat) (x : Nat) : andAll N (l ++ [x]) = andAll N l &&& x := by simp [andAll]
theorem worlds_tells {p T k : Nat} (hk : k < p) : (andAll (2 ^ p - 1) (worldsOf p T)).testBit k = tells p T k := by
 rw [andAll_bit,Nat.testBit_two_pow_sub_one]
 simp only [hk,decide_true,Bool.true_and]
 rw [Bool.eq_iff_iff]
 simp only [worldsOf,tells,List.all_eq_true,List.mem_filter,List.mem_range,Bool.or_eq_true,Bool.not_eq_true']
 constructor
 ·intro h w hw
  cases hb : T.testBit w
  ·exact .inl rfl
  ·exact .inr (h w ⟨hw,hb⟩)
 ·rintro h w ⟨hw,hb⟩
  rcases h w hw with h | h
  ·rw [hb] at h; cases h
  ·exact h
theorem worlds_nil {p T : Nat} (hT : InT p T) : worldsOf p T = [] ↔ T = 0 := by
 constructor
 ·intro h
  apply Nat.eq_of_testBit_eq; intro w
  rw [Nat.zero_testBit]
  cases hb : T.testBit w
  ·rfl
  ·have : w ∈ worldsOf p T := by simp [worldsOf,hb,hT.bit hb]
   rw [h] at this; cases this
 ·rintro rfl
  simp [worldsOf]
theorem worlds_small {p T : Nat} (h4 : p ≤ 4) : (worldsOf p T).length ≤ 16 ∧ ∀ w ∈ worldsOf p T,w < 16 := by
 have hN : 2 ^ p ≤ 2 ^ 4 := Nat.pow_le_pow_right (by omega) h4
 refine ⟨Nat.le_trans (List.length_filter_le _ _) (by simp; omega),fun w hw => ?_⟩
 simp [worldsOf] at hw
 omega
def Ikt1 (p T : Nat) (e : Nat) (s : S) : Prop := ∃ i : Nat,s.tm 0 = .v (.int .i64 p) ∧ s.tm 6 = .v (.int .i64 (andAll (2 ^ p - 1) ((worldsOf p T).take i))) ∧ s.tm 19 = .v (.sl ((worldsOf p T).map fun w => V.int .i64 (w : Nat))) ∧ s.tm 20 = .v (.int .i64 (worldsOf p T).length) ∧ s.tm 21 = .v (.int .i64 i) ∧ i ≤ (worldsOf p T).length ∧ (e = 1 → i = (worldsOf p T).length)
def Ikt2 (p T : Nat) (e : Nat) (s : S) : Prop := ∃ i : Nat,s.tm 6 = .v (.int .i64 (andAll (2 ^ p - 1) (worldsOf p T))) ∧ s.tm 29 = .v (.int .i64 p) ∧ s.tm 30 = .v (.int .i64 i) ∧ i ≤ p ∧ (∀ k,k < i → tells p T k = false) ∧ (e = 1 → i = p)
theorem knownTeller_fn (p T : Nat) (h1 : 1 ≤ p) (h4 : p ≤ 4) (hT : InT p T) : FnZ Tryz.prog 176 [.int .i64 p,.int .i64 T] (.int .i64 (kt p T)) := by
 have hw := worldsIn_fn p T (tab_ok h1 h4 hT) h1 h4
 have ws : IntKind.wrap .i64 (2 ^ min p IntKind.i64.bits) = ((2 ^ p : Nat) : Int) := by rw [shl_fact (by omega)]; simp
 have hN : 2 ^ p ≤ 2 ^ 4 := Nat.pow_le_pow_right (by omega) h4
 have hN1 : 1 ≤ 2 ^ p := Nat.one_le_two_pow
 have w1 : IntKind.wrap .i64 (((2 ^ p : Nat) : Int) - 1) = ((2 ^ p - 1 : Nat) : Int) := by rw [w64 (by omega) (by omega)]; omega
 have hp0 : ¬ (p : Int) < 0 := by omega
 have hnil := worlds_nil hT
 obtain ⟨s1,s2⟩ := worlds_small (T := T) h4
 refine FZ (rs := [.tmp 4]) false Tryz.func176 ?_
 simp -dsimp
 refine cl hw ?_
 by_cases h0 : T = 0
 ·have e := hnil.2 h0
  have e2 : kt p T = -1 := if_pos h0
  simp -dsimp [e,e2]
 have hne : ¬ worldsOf p T = [] := fun h => h0 (hnil.1 h)
 have hne2 : ¬ ((worldsOf p T).length : Int) = 0 := fun h => hne (List.length_eq_zero_iff.1 (by omega))
 have ekt : kt p T = ktell p T := if_neg h0
 have hwt := fun k hk => worlds_tells (p := p) (T := T) (k := k) hk
 have wsp : IntKind.wrap .i64 ((2 : Int) ^ p - 1) = ((2 ^ p - 1 : Nat) : Int) := by rw [← w1]; simp
 have hAl := fun l => andAll_le (2 ^ p - 1) l
 rw [ekt]
 clear ekt hnil
 simp -dsimp [hne,hne2,ws,w1,wsp,hp0]
 refine twp_loopC (Ikt1 p T 0) (fun s => (worldsOf p T).length - natOf (s.tm 21)) (Ikt1 p T 1) ?_ ?_ ?_
 ·exact ⟨0,by simp -dsimp,by simp -dsimp [andAll],by simp -dsimp,by simp -dsimp,by simp -dsimp,by omega,by simp⟩
 ·rintro s ⟨i,t0,t6,t19,t20,t21,hi,hend⟩
  by_cases hlt : i < (worldsOf p T).length
  case neg =>
   simp -dsimp [t20,t21,hlt]
   exact ⟨i,by simp -dsimp [t0],by simp -dsimp [t6],by simp -dsimp [t19],by simp -dsimp [t20],by simp -dsimp [t21],hi,fun _ => by omega⟩
  have htk : (worldsOf p T).take (i + 1) = (worldsOf p T).take i ++ [(worldsOf p T)[i]] := List.take_succ_eq_append_getElem hlt
  have hw16 := s2 _ (List.getElem_mem hlt)
  have hA := hAl ((worldsOf p T).take i)
  have hget : ((worldsOf p T).map fun w => V.int .i64 (w : Nat))[i]? = some (.int .i64 ((worldsOf p T)[i] : Nat)) := by simp [hlt]
  have wi : IntKind.wrap .i64 ((i : Int) + 1) = ((i + 1 : Nat) : Int) := by rw [w64 (by omega) (by omega)]; omega
  have hmu : (worldsOf p T).length - (i + 1) < (worldsOf p T).length - i := by omega
  have hand := and_nn (a := andAll (2 ^ p - 1) ((worldsOf p T).take i)) (b := (worldsOf p T)[i]) (by omega) (by omega)
  have hsn := andAll_snoc (2 ^ p - 1) ((worldsOf p T).take i) (worldsOf p T)[i]
  rw [← htk] at hsn
  rw [← hsn] at hand
  clear hsn htk hA
  generalize hA1 : andAll (2 ^ p - 1) ((worldsOf p T).take (i + 1)) = A1 at *
  generalize andAll (2 ^ p - 1) ((worldsOf p T).take i) = A0 at *
  simp -dsimp [t6,t19,t20,t21,hlt,hget,hand,wi,hmu]
  exact ⟨i + 1,by simp -dsimp [t0],by simp -dsimp [hA1],by simp -dsimp [t19],by simp -dsimp [t20],by simp -dsimp,by omega,by simp⟩
 ·rintro s ⟨i,t0,t6,t19,t20,t21,hi,hend⟩
  have := hend rfl
  subst this
  rw [List.take_length] at t6
  have hA := hAl (worldsOf p T)
  simp -dsimp [t0,t6]
  refine twp_loopC (Ikt2 p T 0) (fun s => p - natOf (s.tm 30)) (Ikt2 p T 1) ?_ ?_ ?_
  ·exact ⟨0,by simp -dsimp [t6],by simp -dsimp,by simp -dsimp,by omega,fun k hk => absurd hk (by omega),by simp⟩
  ·rintro s ⟨i,u6,u29,u30,hi,hno,hend⟩
   by_cases hlt : i < p
   case neg =>
    simp -dsimp [u29,u30,hlt]
    exact ⟨i,by simp -dsimp [u6],by simp -dsimp [u29],by simp -dsimp [u30],hi,hno,fun _ => by omega⟩
   have wi : IntKind.wrap .i64 ((i : Int) + 1) = ((i + 1 : Nat) : Int) := by rw [w64 (by omega) (by omega)]; omega
   have hmu : p - (i + 1) < p - i := by omega
   have hb := bit1 (andAll (2 ^ p - 1) (worldsOf p T)) i (by omega) (by omega)
   have z3 : ¬ (i : Int) < 0 := by omega
   have hwi := hwt i hlt
   rw [hwi] at hb
   have htc := ft (tells p T i)
   generalize hAA : andAll (2 ^ p - 1) (worldsOf p T) = A at *
   rcases htc with htc | htc
   ·rw [htc] at hb
    simp -dsimp [u6,u29,u30,hlt,z3,hb,wi,hmu]
    refine ⟨i + 1,by simp -dsimp [u6,hAA],by simp -dsimp [u29],by simp -dsimp,by omega,fun k hk => ?_,by simp⟩
    rcases Nat.lt_or_ge k i with h | h
    ·exact hno k h
    ·have : k = i := by omega
     rw [this]; exact htc
   ·rw [htc] at hb
    have e : ktell p T = (i : Int) := by
     unfold ktell
     rcases find_range (f := tells p T) p with ⟨d,g1,g2,g3,g4⟩ | ⟨g1,g2⟩
     ·rw [g1]
      have : d = i := by
       rcases Nat.lt_trichotomy d i with h | h | h
       ·rw [hno d h] at g3; cases g3
       ·exact h
       ·rw [g4 i h] at htc; cases htc
      rw [this]
     ·rw [g2 i hlt] at htc; cases htc
    simp -dsimp [u6,u29,u30,hlt,z3,hb,e]
  ·rintro s ⟨i,u6,u29,u30,hi,hno,hend⟩
   have := hend rfl
   subst this
   have e : ktell i T = -1 := by
    unfold ktell
    rcases find_range (f := tells i T) i with ⟨d,g1,g2,g3,g4⟩ | ⟨g1,g2⟩
    ·rw [hno d g2] at g3; cases g3
    ·rw [g1]
   simp -dsimp [e]
end TL

namespace TL
open Go Go.Proofs
attribute [local simp] marksV storyV codeV Claim.v Place.v
@[simp] theorem cell_nf : T.nf.cell = true := rfl
@[simp] theorem cells_nf : T.nf.cells = [.nf] := rfl
def termTab (p : Nat) (t : List Mark) : Nat := tabN (2 ^ p) (truth t)
theorem termTab_small {p : Nat} (h4 : p ≤ 4) (t : List Mark) : termTab p t < 65536 := table_small h4 (tabN_lt _ _)
theorem claimTab_small {p : Nat} (h4 : p ≤ 4) (c : Claim) : claimTab p c < 65536 := table_small h4 (tabN_lt _ _)
theorem termOk_facts {people : Int} {t : List Mark} (h : termOk people t = true) : 1 ≤ people ∧ people ≤ 4 ∧ t.length ≤ 15 ∧ marksRun people 0 t = some 1 := by
 simp only [termOk,peopleOk,Bool.and_eq_true,decide_eq_true_eq] at h
 exact ⟨h.1.1.1.1,h.1.1.1.2,h.1.2,h.2⟩
theorem tableOf_fn (p : Nat) (t : List Mark) (h : termOk p t = true) : FnZ Tryz.prog 88 [.int .i64 p,marksV t] (.int .i64 (termTab p t)) := by
 obtain ⟨hp1,hp4,hl,hr⟩ := termOk_facts h
 have hok := termOk_fn p t
 rw [h] at hok
 have hN := pow_small (p := p) (by omega)
 have hc : ∀ w : Nat,w < 2 ^ p → FnZ Tryz.prog 140 [.int .i64 w,.ref [marksV t]] (.bool (truth t w)) := fun w hw => by
  have hh := holds_fn p hp4 t hr (by omega) w (by omega)
  generalize truth t w = b at *
  refine FZ (rs := [.tmp 3]) false Tryz.func140 ?_
  simp -dsimp
  refine cl hh ?_
  simp -dsimp
 have htb := tableBy_fn p (by omega) (by omega) 140 [.ref [marksV t]] (truth t) hc
 have e : termTab p t = tabN (2 ^ p) (truth t) := rfl
 rw [e]
 generalize tabN (2 ^ p) (truth t) = tb at *
 clear hl hr hc
 refine FZ (rs := [.tmp 4]) false Tryz.func88 ?_
 simp -dsimp
 refine cl hok ?_
 simp -dsimp
 refine callM_ htb (by simp -dsimp) rfl ?_
 simp -dsimp
/-- A number in a row's text. -/
def cellTx (n : Int) : List UInt8 := if n < 0 then [46] else dec n
def numTx (n : Int) : List UInt8 := if n < 0 then [110,111,110,101] else dec n
def rowTx (l : List Int) : List UInt8 := if l = [] then [110,111,110,101] else Go.Lib.join (l.map cellTx) [44]
theorem numberText_fn (n : Int) (hn : n ≤ 99) : FnZ Tryz.prog 78 [.int .i64 n] (.str (numTx n)) := by
 by_cases h : n < 0
 ·have e : numTx n = [110,111,110,101] := if_pos h
  rw [e]
  refine FZ (rs := [.tmp 2]) false Tryz.func78 ?_
  simp -dsimp [h]
 ·have e : numTx n = dec n := if_neg h
  have hi := itoa_fn n (by omega) hn
  rw [e]
  generalize dec n = d at *
  refine FZ (rs := [.tmp 2]) false Tryz.func78 ?_
  simp -dsimp [h]
  refine cl hi ?_
  simp -dsimp
theorem cellTx_len {n : Int} (h : n ≤ 99) : (cellTx n).length ≤ 27 := by
 unfold cellTx
 split
 ·simp
 ·have := dec_len (n := n) (by omega) h
  omega
def numsV (l : List Int) : V := .sl (l.map (V.int .i64))
def Irt (l : List Int) (e : Nat) (s : S) : Prop := ∃ i id : Nat,s.tm 3 = .loc id ∧ id < s.n ∧ s.m id = some (.arr 9 (((l.take i).map cellTx).map V.str)) ∧
 s.tm 10 = .v (.sl (l.map (V.int .i64))) ∧ s.tm 11 = .v (.int .i64 l.length) ∧ s.tm 12 = .v (.int .i64 i) ∧ s.mu = false ∧ i ≤ l.length ∧ (e = 1 → i = l.length)
theorem rowText_fn (l : List Int) (hl : l.length ≤ 16) (h : ∀ n ∈ l,n ≤ 99) : FnZ Tryz.prog 75 [numsV l] (.str (rowTx l)) := by
 by_cases hs : l = []
 ·have e : rowTx l = [110,111,110,101] := if_pos hs
  rw [e,hs]
  refine FZ (rs := [.tmp 2]) false Tryz.func75 ?_
  simp -dsimp [numsV]
 have e : rowTx l = Go.Lib.join (l.map cellTx) [44] := if_neg hs
 have hst := join_len (l.map cellTx) (fun x hx => by obtain ⟨n,hn,rfl⟩ := List.mem_map.1 hx; exact cellTx_len (h n hn))
 have hj := join_fn (l.map cellTx) [44] (by simp; omega) (by simp only [List.length_map] at hst; omega)
 rw [e]
 have hnn : ¬ (l.length : Int) = 0 := fun h => hs (List.length_eq_zero_iff.1 (by omega))
 refine FZ (rs := [.tmp 2]) false Tryz.func75 ?_
 simp -dsimp [numsV,hs,hnn]
 refine twp_loopC (Irt l 0) (fun s => l.length - natOf (s.tm 12)) (Irt l 1) ?_ ?_ ?_
 ·exact ⟨0,0,by simp -dsimp,by simp -dsimp,by simp -dsimp,by simp -dsimp,by simp -dsimp,by simp -dsimp,by simp -dsimp,by omega,by simp⟩
 ·rintro s ⟨i,id,t3,hid,hm,t10,t11,t12,hmu,hi,hend⟩
  by_cases hlt : i < l.length
  case neg =>
   simp -dsimp [t11,t12,hlt]
   exact ⟨i,id,by simp -dsimp [t3],by simp -dsimp [hid],by simp -dsimp [hm],by simp -dsimp [t10],by simp -dsimp [t11],by simp -dsimp [t12],by simp -dsimp [hmu],hi,fun _ => by omega⟩
  have hget : (l.map (V.int .i64))[i]? = some (.int .i64 l[i]) := by simp [hlt]
  have wi : IntKind.wrap .i64 ((i : Int) + 1) = ((i + 1 : Nat) : Int) := by rw [w64 (by omega) (by omega)]; omega
  have hmu1 : l.length - (i + 1) < l.length - i := by omega
  have f1 := far hid
  have b1 : (min i l.length + 1) * 16 ≤ 140737488355328 := by omega
  have hb := h l[i] (List.getElem_mem hlt)
  have hnx : ((l.take (i + 1)).map cellTx).map V.str = ((l.take i).map cellTx).map V.str ++ [.str (cellTx l[i])] := by
   rw [List.take_succ_eq_append_getElem hlt,List.map_append,List.map_append]; rfl
  by_cases hneg : l[i] < 0
  ·have ec : cellTx l[i] = [46] := if_pos hneg
   rw [ec] at hnx
   simp -dsimp [t3,t10,t11,t12,hlt,hget,hneg,hm,hmu,f1,b1,wi,hmu1,nes]
   refine st_out fun s' ht hm' hn' hu' => ?_
   have a3 := ht 3
   have a10 := ht 10
   have a11 := ht 11
   have a12 := ht 12
   simp -dsimp [t10,t11] at a3 a10 a11 a12 hm' hn' hu'
   clear ht
   refine ⟨i + 1,_,a3,by omega, ?_,a10,a11,a12,by rw [hu',hmu],by omega,by simp⟩
   rw [hnx]; simp [hm',nes]
  ·have ec : cellTx l[i] = dec l[i] := if_neg hneg
   have hit := itoa_fn l[i] (by omega) hb
   rw [ec] at hnx
   generalize hD : dec l[i] = D at hnx hit
   simp -dsimp [t3,t10,t11,t12,hlt,hget,hneg,hm,hmu,f1,b1,nes]
   refine cl hit ?_
   simp -dsimp [t3,t10,t11,t12,hm,hmu,f1,b1,wi,hmu1,nes]
   refine st_out fun s' ht hm' hn' hu' => ?_
   have a3 := ht 3
   have a10 := ht 10
   have a11 := ht 11
   have a12 := ht 12
   simp -dsimp [t10,t11] at a3 a10 a11 a12 hm' hn' hu'
   clear ht
   refine ⟨i + 1,_,a3,by omega, ?_,a10,a11,a12,by rw [hu',hmu],by omega,by simp⟩
   rw [hnx]; simp [hm',nes]
 ·rintro s ⟨i,id,t3,hid,hm,t10,t11,t12,hmu,hi,hend⟩
  have hil := hend rfl
  rw [hil,List.take_length] at hm
  generalize (l.map cellTx).map V.str = row at *
  generalize Go.Lib.join (l.map cellTx) [44] = J at *
  simp -dsimp [t3,hm]
  refine call_ hj (by simp -dsimp [hm]) ?_
  simp -dsimp
/-- The worlds of a story. -/
def sw (p : Nat) (l : List Claim) : List Nat := worldsOf p (storyTab p l)
def natsV (l : List Nat) : V := .sl (l.map fun w => V.int .i64 (w : Nat))
theorem storyTab_ok {p : Nat} (h1 : 1 ≤ p) (h4 : p ≤ 4) (l : List Claim) : tableOk p (storyTab p l) = true := tab_ok h1 h4 (storyTab_le p l)
theorem storyTableV_ok {p : Nat} {l : List Claim} (h : storyOk p l = true) : storyTableV p l = (storyTab p l : Int) := if_pos h
theorem sw_len {p : Nat} (h4 : p ≤ 4) (l : List Claim) : (sw p l).length ≤ 16 := by
 have h1 : (sw p l).length ≤ (List.range (2 ^ p)).length := List.length_filter_le _ _
 have h2 := pow_small h4
 simp only [List.length_range] at h1; omega
theorem sw_lt {p : Nat} (h4 : p ≤ 4) {l : List Claim} {w : Nat} (h : w ∈ sw p l) : w < 16 := by
 have h2 := pow_small h4
 have := (List.mem_filter.1 h).1
 simp at this; omega
def onlyV (p : Nat) (l : List Claim) : Int := match sw p l with
 | [w] => w
 | _ => -1
def onlyB (p : Nat) (l : List Claim) : Bool := decide ((sw p l).length = 1)
theorem onlyWorld_fn (p : Nat) (l : List Claim) (h : storyOk p l = true) : FnZ Tryz.prog 77 [.int .i64 p,storyV l] (.tup [.int .i64 (onlyV p l),.bool (onlyB p l)]) := by
 obtain ⟨h1,h4,hc,h6⟩ := allOk_of h
 have hst := storyTable_v p l (by omega)
 rw [storyTableV_ok h] at hst
 have hwi := worldsIn_fn p (storyTab p l) (storyTab_ok (by omega) (by omega) l) (by omega) (by omega)
 have hsl := sw_len (p := p) (by omega) l
 have e0 : worldsOf p (storyTab p l) = sw p l := rfl
 rw [e0] at hwi
 unfold onlyV onlyB
 generalize sw p l = W at *
 have c1 : ¬ ((W.length : Int) = 1) ∨ ∃ w,W = [w] := by
  match W with
  | [] => exact .inl (by simp)
  | [w] => exact .inr ⟨w,rfl⟩
  | a :: b :: r => exact .inl (by simp; omega)
 rcases c1 with c1 | ⟨w,rfl⟩
 ·have e1 : (match W with | [w] => (w : Int) | _ => -1) = -1 := by
   match W,c1 with
   | [],_ => rfl
   | [w],c1 => exact absurd rfl c1
   | a :: b :: r,_ => rfl
  have c2 : ¬ W.length = 1 := by omega
  rw [e1]
  refine FZ (rs := [.tmp 4,.tmp 5]) false Tryz.func77 ?_
  simp -dsimp
  refine cl hst ?_
  simp -dsimp
  refine cl hwi ?_
  simp -dsimp [c1,c2]
 ·refine FZ (rs := [.tmp 4,.tmp 5]) false Tryz.func77 ?_
  simp -dsimp
  refine cl hst ?_
  simp -dsimp
  refine cl hwi ?_
  simp -dsimp
/-- The places of claims that are not needed. -/
def needless (p : Nat) (l : List Claim) : List Nat := (List.range l.length).filter fun i => decide (storyTab p (l.eraseIdx i) = storyTab p l)
def Ind (p : Nat) (l : List Claim) (e : Nat) (s : S) : Prop := ∃ i id : Nat,s.tm 0 = .v (.int .i64 p) ∧ s.tm 1 = .v (storyV l) ∧ s.tm 5 = .loc id ∧ id < s.n ∧ s.mu = false ∧
 s.m id = some (.arr 3 (((List.range i).filter fun i => decide (storyTab p (l.eraseIdx i) = storyTab p l)).map fun w => V.int .i64 (w : Nat))) ∧
 s.tm 13 = .v (.int .i64 l.length) ∧ s.tm 14 = .v (.int .i64 i) ∧ i ≤ l.length ∧ (e = 1 → i = l.length)
theorem storyOk_erase {people : Int} {l : List Claim} (h : storyOk people l = true) (i : Nat) : storyOk people (l.eraseIdx i) = true := storyOk_sub h (List.eraseIdx_sublist l i)
theorem needless_fn (p : Nat) (l : List Claim) (h : storyOk p l = true) : FnZ Tryz.prog 80 [.int .i64 p,storyV l] (natsV (needless p l)) := by
 obtain ⟨h1,h4,hc,h6⟩ := allOk_of h
 have hok := storyOk_fn p l (by omega)
 rw [h] at hok
 have hst := storyTable_fn p l (by omega) (by omega) (by omega) hc
 refine FZ (rs := [.tmp 4]) false Tryz.func80 ?_
 simp -dsimp
 refine cl hok ?_
 simp -dsimp
 refine twp_loopC (Ind p l 0) (fun s => l.length - natOf (s.tm 14)) (Ind p l 1) ?_ ?_ ?_
 ·exact ⟨0,0,by simp -dsimp,by simp -dsimp,by simp -dsimp,by simp -dsimp,by simp -dsimp,by simp -dsimp,by simp -dsimp,by simp -dsimp,by omega,by simp⟩
 ·rintro s ⟨i,id,t0,t1,t5,hid,hmu,hm,t13,t14,hi,hend⟩
  by_cases hlt : i < l.length
  case neg =>
   simp -dsimp [t13,t14,hlt]
   exact ⟨i,id,by simp -dsimp [t0],by simp -dsimp [t1],by simp -dsimp [t5],by simp -dsimp; omega,by simp -dsimp [hmu],by simp -dsimp [hm],by simp -dsimp [t13],by simp -dsimp [t14],hi,fun _ => by omega⟩
  have wi : IntKind.wrap .i64 ((i : Int) + 1) = ((i + 1 : Nat) : Int) := by rw [w64 (by omega) (by omega)]; omega
  have hmu1 : l.length - (i + 1) < l.length - i := by omega
  have hwo := without_fn l i hlt (by omega)
  obtain ⟨_,_,hc2,h62⟩ := allOk_of (storyOk_erase h i)
  have hs2 := storyTable_fn p (l.eraseIdx i) (by omega) (by omega) (by omega) hc2
  have hrl : ((List.range i).filter fun i => decide (storyTab p (l.eraseIdx i) = storyTab p l)).length ≤ i := by
   have := List.length_filter_le (fun i => decide (storyTab p (l.eraseIdx i) = storyTab p l)) (List.range i)
   simpa using this
  have hsucc : (List.range (i + 1)).filter (fun i => decide (storyTab p (l.eraseIdx i) = storyTab p l)) = (List.range i).filter (fun i => decide (storyTab p (l.eraseIdx i) = storyTab p l)) ++ (if storyTab p (l.eraseIdx i) = storyTab p l then [i] else []) := by
   rw [List.range_succ,List.filter_append]; congr 1
   by_cases h : storyTab p (l.eraseIdx i) = storyTab p l <;> simp [h]
  have f1 := far hid
  have fin : ∀ (s' : S) (id' : Nat),s'.tm 0 = .v (.int .i64 p) → s'.tm 1 = .v (storyV l) → s'.tm 5 = .loc id' → id' < s'.n → s'.mu = false → 
    s'.m id' = some (.arr 3 (((List.range i).filter fun i => decide (storyTab p (l.eraseIdx i) = storyTab p l)).map (fun w => V.int .i64 (w : Nat)) ++ (if storyTab p (l.eraseIdx i) = storyTab p l then [V.int .i64 (i : Nat)] else []))) →
    s'.tm 13 = .v (.int .i64 l.length) → s'.tm 14 = .v (.int .i64 (i + 1 : Nat)) → Ind p l 0 s' := by
   intro s' id' a0 a1 a5 aid amu am a13 a14
   refine ⟨i + 1,id',a0,a1,a5,aid,amu, ?_,a13,a14,by omega,by simp⟩
   rw [am,hsucc]; split <;> simp
  generalize hxs : ((List.range i).filter fun i => decide (storyTab p (l.eraseIdx i) = storyTab p l)).map (fun w => V.int .i64 (w : Nat)) = xs at *
  have hxl : xs.length ≤ 6 := by rw [← hxs]; simp only [List.length_map]; omega
  have b1 : (xs.length + 1) * 8 ≤ 140737488355328 := by omega
  generalize hA : storyTab p (l.eraseIdx i) = A at *
  generalize hB : storyTab p l = B at *
  simp -dsimp [t0,t1,t5,t13,t14,hlt]
  refine cl hwo ?_
  simp -dsimp [t0,t1]
  refine cl hs2 ?_
  simp -dsimp [t0,t1]
  refine cl hst ?_
  by_cases c0 : A = B
  ·have c1 : (A : Int) = B := by omega
   simp -dsimp [t0,t1,t5,t13,t14,hmu,hm,f1,b1,wi,hmu1,c1]
   refine st_out fun s' ht' hm' hn' hu' => ?_
   have q0 := ht' 0
   have q1 := ht' 1
   have q5 := ht' 5
   have q13 := ht' 13
   have q14 := ht' 14
   simp -dsimp [t0,t1,t5,t13] at q0 q1 q5 q13 q14 hm' hn' hu'
   clear ht'
   exact fin s' _ q0 q1 q5 (by omega) (by rw [hu',hmu]) (by simp [hm',c0]) q13 q14
  ·have c1 : ¬ (A : Int) = B := by omega
   simp -dsimp [t0,t1,t5,t13,t14,hmu,hm,f1,b1,wi,hmu1,c1]
   exact fin _ id (by simp -dsimp [t0]) (by simp -dsimp [t1]) (by simp -dsimp [t5]) (by simp -dsimp; omega) (by simp -dsimp [hmu]) (by simp -dsimp [hm,c0]) (by simp -dsimp [t13]) (by simp -dsimp)
 ·rintro s ⟨i,id,t0,t1,t5,hid,hmu,hm,t13,t14,hi,hend⟩
  have := hend rfl
  subst this
  simp -dsimp [t5,hm]
  rfl
end TL

namespace TL
open Go Go.Proofs
def kinds3 (ks : List Int) : Prop := ∀ k ∈ ks,k = 0 ∨ k = 1 ∨ k = 2
def spN (ks : List Int) : Nat := ks.count 2
/-- The world of kinds. -/
def worldK (ks : List Int) : Nat := tabN ks.length fun i => decide (ks[i]? = some 1)
/-- The claims that kinds may make. -/
def saysB (ks : List Int) (c : Claim) : Bool := decide (ks[c.who.toNat]? = some 2) || mayB c (worldK ks)
def spyOk (l : List Claim) (ks : List Int) : Bool := l.all (saysB ks)
/-- How many rows of kinds go on from a beginning, with so many spies. -/
def cntK (ok : List Int → Bool) : Nat → List Int → Int → Nat
 | 0,pre,left => if left = 0 ∧ ok pre = true then 1 else 0
 | r + 1,pre,left => cntK ok r (pre ++ [0]) left + cntK ok r (pre ++ [1]) left + cntK ok r (pre ++ [2]) (left - 1)
theorem cntK_le (ok : List Int → Bool) : ∀ (r : Nat) (pre : List Int) (left : Int),cntK ok r pre left ≤ 3 ^ r
 | 0,pre,left => by unfold cntK; split <;> simp
 | r + 1,pre,left => by
  unfold cntK
  have a := cntK_le ok r (pre ++ [0]) left
  have b := cntK_le ok r (pre ++ [1]) left
  have c := cntK_le ok r (pre ++ [2]) (left - 1)
  rw [Nat.pow_succ]; omega
theorem cntK_pos (ok : List Int → Bool) : ∀ (r : Nat) (pre : List Int) (left : Int),0 < cntK ok r pre left ↔ ∃ suf,suf.length = r ∧ kinds3 suf ∧ (spN suf : Int) = left ∧ ok (pre ++ suf) = true
 | 0,pre,left => by
  unfold cntK
  constructor
  ·intro h
   split at h
   ·rename_i hh
    exact ⟨[],rfl,(fun k hk => by cases hk),by simp [spN,hh.1],by simpa using hh.2⟩
   ·omega
  ·rintro ⟨suf,h1,_,h3,h4⟩
   obtain rfl : suf = [] := List.length_eq_zero_iff.1 h1
   rw [if_pos ⟨by simpa [spN] using h3.symm,by simpa using h4⟩]; omega
 | r + 1,pre,left => by
  have a := cntK_pos ok r (pre ++ [0]) left
  have b := cntK_pos ok r (pre ++ [1]) left
  have c := cntK_pos ok r (pre ++ [2]) (left - 1)
  have e : 0 < cntK ok (r + 1) pre left ↔ 0 < cntK ok r (pre ++ [0]) left ∨ 0 < cntK ok r (pre ++ [1]) left ∨ 0 < cntK ok r (pre ++ [2]) (left - 1) := by
   rw [show cntK ok (r + 1) pre left = cntK ok r (pre ++ [0]) left + cntK ok r (pre ++ [1]) left + cntK ok r (pre ++ [2]) (left - 1) from rfl]; omega
  rw [e,a,b,c]
  constructor
  ·rintro (⟨suf,h1,h2,h3,h4⟩ | ⟨suf,h1,h2,h3,h4⟩ | ⟨suf,h1,h2,h3,h4⟩)
   ·refine ⟨0 :: suf,by simp [h1],fun k hk => ?_, ?_,by simpa using h4⟩
    ·rcases List.mem_cons.1 hk with rfl | hk
     ·exact .inl rfl
     ·exact h2 k hk
    ·simpa [spN] using h3
   ·refine ⟨1 :: suf,by simp [h1],fun k hk => ?_, ?_,by simpa using h4⟩
    ·rcases List.mem_cons.1 hk with rfl | hk
     ·exact .inr (.inl rfl)
     ·exact h2 k hk
    ·simpa [spN] using h3
   ·refine ⟨2 :: suf,by simp [h1],fun k hk => ?_, ?_,by simpa using h4⟩
    ·rcases List.mem_cons.1 hk with rfl | hk
     ·exact .inr (.inr rfl)
     ·exact h2 k hk
    ·simp only [spN,List.count_cons_self] at h3 ⊢; omega
  ·rintro ⟨suf,h1,h2,h3,h4⟩
   match suf,h1 with
   | k :: suf,h1 =>
    have hl : suf.length = r := by simpa using h1
    have h5 : kinds3 suf := fun k hk => h2 k (List.mem_cons_of_mem _ hk)
    rcases h2 k (List.mem_cons_self ..) with rfl | rfl | rfl
    ·exact .inl ⟨suf,hl,h5,by simpa [spN] using h3,by simpa using h4⟩
    ·exact .inr (.inl ⟨suf,hl,h5,by simpa [spN] using h3,by simpa using h4⟩)
    ·refine .inr (.inr ⟨suf,hl,h5, ?_,by simpa using h4⟩)
     simp only [spN,List.count_cons_self] at h3 ⊢; omega
/-- The fewest spies. -/
def fewest (ok : List Int → Bool) (p : Nat) : Nat := ((List.range (p + 1)).find? fun s => decide (0 < cntK ok p [] (s : Nat))).getD p
theorem allSpies (p : Nat) : kinds3 (List.replicate p 2) ∧ spN (List.replicate p 2) = p := ⟨fun k hk => .inr (.inr (List.eq_of_mem_replicate hk)),by simp [spN]⟩
theorem fewest_pos {ok : List Int → Bool} {p : Nat} (h : ok (List.replicate p 2) = true) : 0 < cntK ok p [] (p : Nat) := (cntK_pos ok p [] p).2 ⟨List.replicate p 2,by simp,(allSpies p).1,by rw [(allSpies p).2],by simpa using h⟩
theorem fewest_spec {ok : List Int → Bool} {p : Nat} (h : ok (List.replicate p 2) = true) : fewest ok p ≤ p ∧ 0 < cntK ok p [] (fewest ok p : Nat) ∧ ∀ s,s < fewest ok p → cntK ok p [] (s : Nat) = 0 := by
 have hp := fewest_pos h
 unfold fewest
 cases hf : (List.range (p + 1)).find? fun s => decide (0 < cntK ok p [] (s : Nat)) with
 | none =>
  have := List.find?_eq_none.1 hf p (by simp)
  simp only [decide_eq_true_eq] at this
  exact absurd hp this
 | some d =>
  have h1 := List.find?_some hf
  have h2 := List.mem_of_find?_eq_some hf
  simp only [decide_eq_true_eq] at h1
  simp only [List.mem_range] at h2
  refine ⟨by simp; omega,by simpa using h1,fun s hs => ?_⟩
  simp only [Option.getD_some] at hs
  rw [List.find?_range_eq_some] at hf
  have := hf.2.2 s hs
  simp only [Bool.not_eq_true',decide_eq_false_iff_not] at this
  omega
theorem fewest_le {ok : List Int → Bool} {p : Nat} (h : ok (List.replicate p 2) = true) {ks : List Int} (h1 : ks.length = p) (h2 : kinds3 ks) (h3 : ok ks = true) : fewest ok p ≤ spN ks := by
 rcases Nat.lt_or_ge (spN ks) (fewest ok p) with g | g
 ·have := (fewest_spec h).2.2 _ g
  have h4 := (cntK_pos ok p [] (spN ks : Nat)).2 ⟨ks,h1,h2,rfl,by simpa using h3⟩
  omega
 ·exact g
theorem fewest_at {ok : List Int → Bool} {p : Nat} (h : ok (List.replicate p 2) = true) : ∃ ks : List Int,ks.length = p ∧ kinds3 ks ∧ ok ks = true ∧ spN ks = fewest ok p := by
 obtain ⟨ks,h1,h2,h3,h4⟩ := (cntK_pos ok p [] (fewest ok p : Nat)).1 (fewest_spec h).2.1
 exact ⟨ks,h1,h2,by simpa using h4,by omega⟩
/-- The kinds of a number. -/
def kd (p n : Nat) : List Int := (List.range p).map fun k => ((n / 3 ^ k % 3 : Nat) : Int)
theorem kd_len (p n : Nat) : (kd p n).length = p := by simp [kd]
theorem kd_kinds (p n : Nat) : kinds3 (kd p n) := fun k hk => by
 obtain ⟨i,_,rfl⟩ := List.mem_map.1 hk
 have : n / 3 ^ i % 3 < 3 := Nat.mod_lt _ (by omega)
 omega
theorem kd_succ (p n : Nat) : kd (p + 1) n = ((n % 3 : Nat) : Int) :: kd p (n / 3) := by
 unfold kd
 rw [List.range_succ_eq_map,List.map_cons,List.map_map]
 congr 1
 ·simp
 ·apply List.map_congr_left
  intro k _
  simp only [Function.comp]
  rw [Nat.pow_succ,Nat.mul_comm,Nat.div_div_eq_div_mul]
theorem kd_surj : ∀ (p : Nat) (ks : List Int),ks.length = p → kinds3 ks → ∃ n,n < 3 ^ p ∧ kd p n = ks
 | 0,ks,h,_ => ⟨0,by simp,by rw [List.length_eq_zero_iff.1 h]; rfl⟩
 | p + 1,[],h,_ => by simp at h
 | p + 1,k :: ks,h,hk => by
  obtain ⟨n,h1,h2⟩ := kd_surj p ks (by simpa using h) fun k hk' => hk k (List.mem_cons_of_mem _ hk')
  have h3 := hk k (List.mem_cons_self ..)
  obtain ⟨j,hj,hj3⟩ : ∃ j : Nat,k = j ∧ j < 3 := by
   rcases h3 with rfl | rfl | rfl
   ·exact ⟨0,rfl,by omega⟩
   ·exact ⟨1,rfl,by omega⟩
   ·exact ⟨2,rfl,by omega⟩
  refine ⟨j + 3 * n,by rw [Nat.pow_succ]; omega, ?_⟩
  rw [kd_succ,hj,show (j + 3 * n) % 3 = j by omega,show (j + 3 * n) / 3 = n by omega,h2]
/-- The least number of spies among the kinds of the first numbers. -/
def bestK (ok : List Int → Bool) (p : Nat) : Nat → Nat
 | 0 => p
 | n + 1 => if ok (kd p n) = true then min (bestK ok p n) (spN (kd p n)) else bestK ok p n
theorem spN_le (ks : List Int) : spN ks ≤ ks.length := List.count_le_length ..
theorem bestK_le (ok : List Int → Bool) (p : Nat) : ∀ n,bestK ok p n ≤ p
 | 0 => Nat.le_refl _
 | n + 1 => by
  have := bestK_le ok p n
  unfold bestK
  split <;> omega
theorem bestK_low {ok : List Int → Bool} {p : Nat} : ∀ {n k : Nat},k < n → ok (kd p k) = true → bestK ok p n ≤ spN (kd p k)
 | n + 1,k,hk,h => by
  unfold bestK
  by_cases e : k = n
  ·subst e; rw [if_pos h]; omega
  ·have := bestK_low (n := n) (by omega) h
   split <;> omega
theorem bestK_high {ok : List Int → Bool} {p : Nat} (h : ok (List.replicate p 2) = true) : ∀ n,fewest ok p ≤ bestK ok p n
 | 0 => (fewest_spec h).1
 | n + 1 => by
  have ih := bestK_high h n
  unfold bestK
  split
  ·rename_i hk
   have := fewest_le h (kd_len p n) (kd_kinds p n) hk
   omega
  ·exact ih
theorem bestK_eq {ok : List Int → Bool} {p : Nat} (h : ok (List.replicate p 2) = true) : bestK ok p (3 ^ p) = fewest ok p := by
 have h1 := bestK_high h (3 ^ p)
 obtain ⟨ks,a1,a2,a3,a4⟩ := fewest_at h
 obtain ⟨n,b1,b2⟩ := kd_surj p ks a1 a2
 have := bestK_low (ok := ok) (p := p) b1 (by rw [b2]; exact a3)
 rw [b2,a4] at this
 omega
theorem spyOk_all {p : Nat} {l : List Claim} (h : ∀ c ∈ l,claimOk p c = true) : spyOk l (List.replicate p 2) = true := by
 unfold spyOk
 rw [List.all_eq_true]
 intro c hc
 have h1 := h c hc
 simp only [claimOk,Bool.and_eq_true,decide_eq_true_eq] at h1
 have h2 : c.who.toNat < p := by omega
 unfold saysB
 rw [Bool.or_eq_true]; left
 rw [decide_eq_true_eq,List.getElem?_replicate,if_pos h2]
end TL

namespace TL
open Go Go.Proofs
attribute [local simp] marksV storyV codeV Claim.v Place.v numsV
theorem kinds3_at {ks : List Int} (h : kinds3 ks) {i : Nat} (hi : i < ks.length) : ks[i] = 0 ∨ ks[i] = 1 ∨ ks[i] = 2 := h _ (List.getElem_mem hi)
def Iko (ks : List Int) (e : Nat) (s : S) : Prop := ∃ i : Nat,s.tm 0 = .v (.sl (ks.map (V.int .i64))) ∧ s.tm 5 = .v (.sl (ks.map (V.int .i64))) ∧ s.tm 6 = .v (.int .i64 ks.length) ∧ s.tm 7 = .v (.int .i64 i) ∧ i ≤ ks.length ∧ (e = 1 → i = ks.length)
theorem kindsOk_fn (ks : List Int) (hk : kinds3 ks) (h1 : 1 ≤ ks.length) (h4 : ks.length ≤ 4) : FnZ Tryz.prog 200 [numsV ks] (.bool true) := by
 have hpo := peopleOk_at (ks.length : Int)
 have hpt : peopleOk (ks.length : Int) = true := by simp [peopleOk]; omega
 rw [hpt] at hpo
 refine FZ (rs := [.tmp 2]) false Tryz.func200 ?_
 simp -dsimp [numsV]
 refine twp_loopC (Iko ks 0) (fun s => ks.length - natOf (s.tm 7)) (Iko ks 1) ?_ ?_ ?_
 ·exact ⟨0,by simp -dsimp,by simp -dsimp,by simp -dsimp,by simp -dsimp,by omega,by simp⟩
 ·rintro s ⟨i,t0,t5,t6,t7,hi,hend⟩
  by_cases hlt : i < ks.length
  case neg =>
   simp -dsimp [t6,t7,hlt]
   exact ⟨i,by simp -dsimp [t0],by simp -dsimp [t5],by simp -dsimp [t6],by simp -dsimp [t7],hi,fun _ => by omega⟩
  have hget : (ks.map (V.int .i64))[i]? = some (.int .i64 ks[i]) := by simp [hlt]
  have wi : IntKind.wrap .i64 ((i : Int) + 1) = ((i + 1 : Nat) : Int) := by rw [w64 (by omega) (by omega)]; omega
  have hmu1 : ks.length - (i + 1) < ks.length - i := by omega
  rcases kinds3_at hk hlt with hv | hv | hv 
  ·simp -dsimp [t5,t6,t7,hlt,hv,wi,hmu1]
   exact ⟨i + 1,by simp -dsimp [t0],by simp -dsimp [t5],by simp -dsimp [t6],by simp -dsimp,by omega,by simp⟩
  ·simp -dsimp [t5,t6,t7,hlt,hv,wi,hmu1]
   exact ⟨i + 1,by simp -dsimp [t0],by simp -dsimp [t5],by simp -dsimp [t6],by simp -dsimp,by omega,by simp⟩
  ·simp -dsimp [t5,t6,t7,hlt,hv,wi,hmu1]
   exact ⟨i + 1,by simp -dsimp [t0],by simp -dsimp [t5],by simp -dsimp [t6],by simp -dsimp,by omega,by simp⟩
 ·rintro s ⟨i,t0,t5,t6,t7,hi,hend⟩
  simp -dsimp [t0]
  refine cl hpo ?_
  simp -dsimp
def Iwk (ks : List Int) (e : Nat) (s : S) : Prop := ∃ i : Nat,s.tm 9 = .v (.sl (ks.map (V.int .i64))) ∧ s.tm 10 = .v (.int .i64 ks.length) ∧ s.tm 11 = .v (.int .i64 i) ∧ s.tm 3 = .v (.int .i64 (tabN i fun i => decide (ks[i]? = some 1))) ∧ i ≤ ks.length ∧ (e = 1 → i = ks.length)
theorem worldOfKinds_fn (ks : List Int) (hk : kinds3 ks) (h1 : 1 ≤ ks.length) (h4 : ks.length ≤ 4) : FnZ Tryz.prog 219 [numsV ks] (.int .i64 (worldK ks)) := by
 have hok := kindsOk_fn ks hk h1 h4
 refine FZ (rs := [.tmp 2]) false Tryz.func219 ?_
 simp -dsimp [numsV]
 refine call_ hok (by simp -dsimp [numsV]) ?_
 simp -dsimp
 refine twp_loopC (Iwk ks 0) (fun s => ks.length - natOf (s.tm 11)) (Iwk ks 1) ?_ ?_ ?_
 ·exact ⟨0,by simp -dsimp,by simp -dsimp,by simp -dsimp,by simp -dsimp [tabN],by omega,by simp⟩
 ·rintro s ⟨i,t9,t10,t11,t3,hi,hend⟩
  by_cases hlt : i < ks.length
  case neg =>
   simp -dsimp [t10,t11,hlt]
   exact ⟨i,by simp -dsimp [t9],by simp -dsimp [t10],by simp -dsimp [t11],by simp -dsimp [t3],hi,fun _ => by omega⟩
  have hget : (ks.map (V.int .i64))[i]? = some (.int .i64 ks[i]) := by simp [hlt]
  have hg2 : ks[i]? = some ks[i] := List.getElem?_eq_getElem hlt
  have wi : IntKind.wrap .i64 ((i : Int) + 1) = ((i + 1 : Nat) : Int) := by rw [w64 (by omega) (by omega)]; omega
  have hmu1 : ks.length - (i + 1) < ks.length - i := by omega
  have z1 : ¬ (i : Int) < 0 := by omega
  have hb := tabN_lt (fun i => decide (ks[i]? = some 1)) i
  have hp : 2 ^ i ≤ 2 ^ 16 := Nat.pow_le_pow_right (by omega) (by omega)
  have h2 : (2 : Nat) ^ i < 4611686018427387904 := by omega
  have wsh : IntKind.wrap .i64 (2 ^ min i IntKind.i64.bits) = ((2 ^ i : Nat) : Int) := by rw [shl_fact (by omega)]; simp
  have hor := or_ni (a := tabN i fun i => decide (ks[i]? = some 1)) (b := 2 ^ i) (x := (2 : Int) ^ i) (by simp) (by omega) h2
  have hsucc : tabN (i + 1) (fun i => decide (ks[i]? = some 1)) = if decide (ks[i]? = some 1) = true then tabN i (fun i => decide (ks[i]? = some 1)) ||| 2 ^ i else tabN i (fun i => decide (ks[i]? = some 1)) := rfl
  obtain ⟨A,hA⟩ : ∃ A,tabN i (fun i => decide (ks[i]? = some 1)) = A := ⟨_,rfl⟩
  rw [hA] at t3 hor hsucc
  by_cases hv : ks[i] = 1
  ·rw [hg2,hv,if_pos (by simp)] at hsucc
   simp -dsimp [t3,t9,t10,t11,hlt,hv,wi,hmu1,wsh,hor,z1]
   exact ⟨i + 1,by simp -dsimp [t9],by simp -dsimp [t10],by simp -dsimp,by simp -dsimp [hsucc],by omega,by simp⟩
  ·rw [hg2,if_neg (by simp [hv])] at hsucc
   simp -dsimp [t3,t9,t10,t11,hlt,wi,hmu1,wsh,hor,z1,hv]
   exact ⟨i + 1,by simp -dsimp [t9],by simp -dsimp [t10],by simp -dsimp,by simp -dsimp [t3,hsucc],by omega,by simp⟩
 ·rintro s ⟨i,t9,t10,t11,t3,hi,hend⟩
  have := hend rfl
  subst this
  have e : tabN ks.length (fun i => decide (ks[i]? = some 1)) = worldK ks := rfl
  rw [e] at t3
  simp -dsimp [t3]
theorem worldK_lt {ks : List Int} (h4 : ks.length ≤ 4) : worldK ks < 16 := by
 have h1 := tabN_lt (fun i => decide (ks[i]? = some 1)) ks.length
 have h2 := pow_small h4
 have e : tabN ks.length (fun i => decide (ks[i]? = some 1)) = worldK ks := rfl
 omega
theorem spySays_fn (ks : List Int) (c : Claim) (hk : kinds3 ks) (h : claimOk (ks.length : Nat) c = true) : FnZ Tryz.prog 201 [numsV ks,c.v] (.bool (saysB ks c)) := by
 obtain ⟨hp1,hp4,h0,h1,ht,hl,hr⟩ := claim_facts h
 have hok := kindsOk_fn ks hk (by omega) (by omega)
 have hck := claimOk_fn (ks.length : Nat) c
 rw [h] at hck
 have hwk := worldOfKinds_fn ks hk (by omega) (by omega)
 have hms := maySay_fn _ c h (worldK ks) (worldK_lt (by omega))
 obtain ⟨k,hk0⟩ := Int.eq_ofNat_of_zero_le h0
 have hkl : k < ks.length := by omega
 have e : saysB ks c = (decide (ks[k] = 2) || mayB c (worldK ks)) := by
  unfold saysB
  rw [hk0,Int.toNat_natCast,List.getElem?_eq_getElem hkl]; simp
 have hget : (ks.map (V.int .i64))[k]? = some (.int .i64 ks[k]) := by simp [hkl]
 rw [e]
 obtain ⟨B,hB⟩ : ∃ B,mayB c (worldK ks) = B := ⟨_,rfl⟩
 rw [hB] at hms ⊢
 obtain ⟨who,says⟩ := c
 simp only at hk0
 subst hk0
 have z1 : ¬ (k : Int) < 0 := by omega
 by_cases hv : ks[k] = 2
 ·rw [hv]
  refine FZ (rs := [.tmp 4]) false Tryz.func201 ?_
  simp -dsimp [numsV]
  refine call_ hok (by simp -dsimp [numsV]) ?_
  simp -dsimp
  refine cl hck ?_
  simp -dsimp
  refine twd (List.range 13) [0] (List.replicate 13 [0]) (List.replicate 13 [0]) ?_
  simp -dsimp [List.range_succ,hkl,hv,z1]
 ·refine FZ (rs := [.tmp 4]) false Tryz.func201 ?_
  simp -dsimp [numsV]
  refine call_ hok (by simp -dsimp [numsV]) ?_
  simp -dsimp
  refine cl hck ?_
  simp -dsimp
  refine twd (List.range 13) [0] (List.replicate 13 [0]) (List.replicate 13 [0]) ?_
  simp -dsimp [List.range_succ,hkl,z1,hv]
  refine call_ hwk (by simp -dsimp [numsV]) ?_
  simp -dsimp [hkl,z1,hv]
  refine cl hms ?_
  simp -dsimp [hv]
def Iss (ks : List Int) (l : List Claim) (e : Nat) (s : S) : Prop := ∃ i : Nat,s.tm 0 = .v (.sl (ks.map (V.int .i64))) ∧ s.tm 17 = .v (.sl (l.map Claim.v)) ∧ s.tm 18 = .v (.int .i64 l.length) ∧ s.tm 19 = .v (.int .i64 i) ∧ i ≤ l.length ∧ (l.take i).all (saysB ks) = true ∧ (e = 1 → i = l.length)
theorem spyStory_fn (ks : List Int) (l : List Claim) (hk : kinds3 ks) (h : storyOk (ks.length : Nat) l = true) : FnZ Tryz.prog 175 [numsV ks,storyV l] (.bool (spyOk l ks)) := by
 obtain ⟨h1,h4,hc,h6⟩ := allOk_of h
 have hok := kindsOk_fn ks hk (by omega) (by omega)
 have hst := storyOk_fn (ks.length : Nat) l (by omega)
 rw [h] at hst
 refine FZ (rs := [.tmp 4]) false Tryz.func175 ?_
 simp -dsimp [numsV]
 refine call_ hok (by simp -dsimp [numsV]) ?_
 simp -dsimp
 refine cl hst ?_
 simp -dsimp
 refine twp_loopC (Iss ks l 0) (fun s => l.length - natOf (s.tm 19)) (Iss ks l 1) ?_ ?_ ?_
 ·exact ⟨0,by simp -dsimp,by simp -dsimp,by simp -dsimp,by simp -dsimp,by omega,by simp,by simp⟩
 ·rintro s ⟨i,t0,t17,t18,t19,hi,hall,hend⟩
  by_cases hlt : i < l.length
  case neg =>
   simp -dsimp [t18,t19,hlt]
   exact ⟨i,by simp -dsimp [t0],by simp -dsimp [t17],by simp -dsimp [t18],by simp -dsimp [t19],hi,hall,fun _ => by omega⟩
  have hget : (l.map Claim.v)[i]? = some (l[i].v) := by simp [hlt]
  have wi : IntKind.wrap .i64 ((i : Int) + 1) = ((i + 1 : Nat) : Int) := by rw [w64 (by omega) (by omega)]; omega
  have hmu1 : l.length - (i + 1) < l.length - i := by omega
  have hss := spySays_fn ks l[i] hk (hc _ (List.getElem_mem hlt))
  have hnx : (l.take (i + 1)).all (saysB ks) = ((l.take i).all (saysB ks) && saysB ks l[i]) := by
   rw [List.take_succ_eq_append_getElem hlt,List.all_append]; simp
  have hwhole : saysB ks l[i] = false → spyOk l ks = false := fun hf => by
   unfold spyOk
   cases hq : l.all (saysB ks) with
   | false => rfl
   | true => rw [List.all_eq_true.1 hq _ (List.getElem_mem hlt)] at hf; cases hf
  simp -dsimp [t0,t17,t18,t19,hlt,hget,claim_cellsE]
  refine call_ hss (by simp -dsimp [numsV]) ?_
  have hb := ft (saysB ks l[i])
  rcases hb with hb | hb
  ·have hw := hwhole hb
   simp -dsimp [hb,hw]
  ·rw [hall,hb] at hnx
   simp -dsimp [hb,t19,wi,hmu1]
   exact ⟨i + 1,by simp -dsimp [t0],by simp -dsimp [t17],by simp -dsimp [t18],by simp -dsimp,by omega,by rw [hnx]; rfl,by simp⟩
 ·rintro s ⟨i,t0,t17,t18,t19,hi,hall,hend⟩
  have := hend rfl
  subst this
  rw [List.take_length] at hall
  have e : spyOk l ks = true := hall
  simp -dsimp [e]
end TL

namespace TL
open Go Go.Proofs
theorem mapZ_ii : mapZ Tryz.prog 144 = some (.int .i64 0) := by kernel_rfl
attribute [local simp] mapZ_ii
/-- A loop in its block at the end of another block, with a cut behind it. -/
theorem twp_loopB {P : Program} {c : Code} {i : Nat} {Q : TExit → S → Prop} {s : S} (I : S → Prop) (μ : S → Nat) (J : S → Prop) (hi : I s)
  (hs : ∀ s,I s → twp P c (fun e s1 => thenP (fun s' => I s' ∧ μ s' < μ s) (fun e s => blockP i (fun e s1 => thenP J Q e s1) e s) e s1) s)
  (hj : ∀ s,J s → Q .normal s) : twp P (.loop c) (fun e s => blockP i Q e s) s := by
 refine twp_mono (.loop c) (fun e s g => ?_) (twp_loopC (A := fun s => Q .normal s) (Q := Q) (i := i) I μ J hi hs hj)
 have key : ∀ e s,thenP (fun s => Q .normal s) Q e s → Q e s := fun e s g => by
  cases e with
  | normal => exact g
  | exit j => exact g
  | ret => exact g
 cases e with
 | normal => exact key .normal s g
 | ret => exact key .ret s g
 | exit j =>
  by_cases hj : j = i
  ·simp only [blockP,hj,if_true] at g ⊢; exact key _ _ g
  ·simp only [blockP,hj,if_false] at g ⊢; exact key _ _ g
theorem mget_mset (k j : Int) (v : V) : ∀ es : List (Int × V),mget k (mset j v es) = if k = j then some v else mget k es
 | [] => by
  simp only [mset,mget]
  by_cases h : j = k
  ·simp [h]
  ·simp [h,Ne.symm h]
 | (a,u) :: es => by
  have ih := mget_mset k j v es
  by_cases h : a = j
  ·subst h
   simp only [mset,if_true,mget]
   by_cases h2 : a = k
   ·simp [h2]
   ·simp [h2,Ne.symm h2]
  ·simp only [mset,if_neg h,mget]
   by_cases h2 : a = k
   ·subst h2; simp [h]
   ·simp only [if_neg h2,ih]
def GoodM (p : Nat) (es : List (Int × V)) : Prop := ∀ (T : Nat) (v : V),mget (T : Int) es = some v → v = .int .i64 (lv p p T)
theorem GoodM.set {p T : Nat} {es : List (Int × V)} (h : GoodM p es) : GoodM p (mset (T : Int) (.int .i64 (lv p p T)) es) := fun U v hv => by
 rw [mget_mset] at hv
 split at hv
 ·rename_i he
  have : U = T := by omega
  subst this
  cases hv; rfl
 ·exact h U v hv
theorem split_lt {p T i j : Nat} (hT : InT p T) (h : splits p T i j = true) : askY p T i j < T ∧ askN p T i j < T := by
 obtain ⟨h1,h2⟩ := splits_iff.1 h
 have l1 : askY p T i j ≤ T := Nat.and_le_left
 have l2 : askN p T i j ≤ T := Nat.and_le_left
 obtain ⟨u,hu⟩ := ne_zero_iff.1 h1
 obtain ⟨v,hv⟩ := ne_zero_iff.1 h2
 rw [bit_askY hT,Bool.and_eq_true] at hu
 rw [bit_askN hT,Bool.and_eq_true] at hv
 refine ⟨Nat.lt_of_le_of_ne l1 fun e => ?_,Nat.lt_of_le_of_ne l2 fun e => ?_⟩
 ·have := bit_askY (i := i) (j := j) (w := v) hT
  rw [e,hv.1] at this
  have q := hv.2
  rw [show (v.testBit i == v.testBit j) = true by simpa using this.symm] at q
  cases q
 ·have := bit_askN (i := i) (j := j) (w := u) hT
  rw [e,hu.1,hu.2] at this
  simp at this
theorem andnot_ask {p T i j : Nat} (h4 : p ≤ 4) (hT : InT p T) : IntKind.i64.wrap ((T % 2 ^ IntKind.i64.bits &&& 2 ^ IntKind.i64.bits - 1 - askY p T i j % 2 ^ IntKind.i64.bits : Nat) : Int) = ((askN p T i j : Nat) : Int) := by
 have hs : T < 65536 := table_small h4 hT
 have l1 : askY p T i j ≤ T := Nat.and_le_left
 have l2 : askN p T i j ≤ T := Nat.and_le_left
 have e : (T % 2 ^ IntKind.i64.bits &&& 2 ^ IntKind.i64.bits - 1 - askY p T i j % 2 ^ IntKind.i64.bits) = askN p T i j := by
  have hb : IntKind.i64.bits = 64 := rfl
  rw [hb]
  have e1 : T % 2 ^ 64 = T := Nat.mod_eq_of_lt (by omega)
  have e2 : askY p T i j % 2 ^ 64 = askY p T i j := Nat.mod_eq_of_lt (by omega)
  rw [e1,e2,show 2 ^ 64 - 1 - askY p T i j = 2 ^ 64 - (askY p T i j + 1) by omega]
  apply Nat.eq_of_testBit_eq; intro w
  rw [Nat.testBit_and,Nat.testBit_two_pow_sub_succ (by omega),bit_askY hT,bit_askN hT]
  cases hw : T.testBit w
  ·rfl
  ·have hw16 := hT.bit hw
   have hN : 2 ^ p ≤ 2 ^ 4 := Nat.pow_le_pow_right (by omega) h4
   have : w < 64 := by omega
   simp [this]
 rw [e,w64 (by omega) (by omega)]
theorem asked_ask {p T i j : Nat} (h1 : 1 ≤ p) (h4 : p ≤ 4) (hT : InT p T) (hi : i < p) (hj : j < p) : asked p T i j true = ((askY p T i j : Nat) : Int) := by
 unfold asked
 rw [if_pos ⟨tab_ok h1 h4 hT,by omega,by omega,by omega,by omega⟩]; rfl
theorem lv_ge (p m T : Nat) : -1 ≤ lv p m T := by
 rcases lv_is p m T with ⟨h1,_⟩ | ⟨d,_,h2,_⟩ <;> omega
theorem updM_two (m : Mem) (i : Nat) (a b : Option Blk) : updM (updM m i a) i b = updM m i b := by
 funext x; by_cases h : x = i <;> simp [h]
def Ilo (p T id : Nat) (m0 : Mem) (n0 : Nat) (e : Nat) (s : S) : Prop := ∃ (i : Nat) (best : Int) (es : List (Int × V)),s.tm 0 = .v (.int .i64 p) ∧ s.tm 1 = .v (.int .i64 T) ∧ s.tm 2 = .mp id ∧ s.tm 9 = .v (.int .i64 best) ∧ s.tm 32 = .v (.int .i64 p) ∧ s.tm 33 = .v (.int .i64 i) ∧ i ≤ p ∧
 InvB p T (lv p p) (fun a b => a < i ∧ b < a) best ∧ n0 ≤ s.n ∧ GoodM p es ∧ s.m = updM m0 id (some (.mp es)) ∧ (e = 1 → i = p)
def Ili (p T id i : Nat) (m0 : Mem) (n0 : Nat) (e : Nat) (s : S) : Prop := ∃ (j : Nat) (best : Int) (es : List (Int × V)),s.tm 0 = .v (.int .i64 p) ∧ s.tm 1 = .v (.int .i64 T) ∧ s.tm 2 = .mp id ∧ s.tm 9 = .v (.int .i64 best) ∧ s.tm 10 = .v (.int .i64 i) ∧ s.tm 32 = .v (.int .i64 p) ∧ s.tm 33 = .v (.int .i64 i) ∧ s.tm 36 = .v (.int .i64 i) ∧ s.tm 37 = .v (.int .i64 j) ∧ j ≤ i ∧
 InvB p T (lv p p) (fun a b => (a < i ∧ b < a) ∨ (a = i ∧ b < j)) best ∧ n0 ≤ s.n ∧ GoodM p es ∧ s.m = updM m0 id (some (.mp es)) ∧ (e = 1 → j = i)
theorem leastAsks_s (p : Nat) (h1 : 1 ≤ p) (h4 : p ≤ 4) : ∀ T,InT p T → ∀ (m : Mem) (n id : Nat) (es : List (Int × V)),id < n → m id = some (.mp es) → GoodM p es →
  FnS Tryz.prog 129 m n [.v (.int .i64 p),.v (.int .i64 T),.mp id] (fun t m' n' => t = .v (.int .i64 (lv p p T)) ∧ n ≤ n' ∧ ∃ es',GoodM p es' ∧ m' = updM m id (some (.mp es'))) := by
 intro T
 induction T using Nat.strongRecOn with
 | _ T ih =>
 intro hT m n id es hid hm hg
 have hkt := knownTeller_fn p T h1 h4 hT
 have hdn := kt_done (p := p) (T := T)
 have hself : m = updM m id (some (.mp es)) := (updM_self hm).symm
 by_cases h0 : T = 0
 ·have e : lv p p T = 0 := lv_done (hdn.1 (.inr h0))
  refine FS (rs := [.tmp 6]) false Tryz.func129 ?_
  simp -dsimp [h0]
  exact ⟨by rw [← h0,e],es,hg,hself⟩
 by_cases hk : 0 ≤ kt p T
 ·have e : lv p p T = 0 := lv_done (hdn.1 (.inl hk))
  generalize kt p T = q at *
  refine FS (rs := [.tmp 6]) false Tryz.func129 ?_
  simp -dsimp [h0]
  refine cl hkt ?_
  simp -dsimp [h0,hk]
  exact ⟨by rw [e],es,hg,hself⟩
 have hd : doneT p T = false := by
  cases hq : doneT p T
  ·rfl
  ·rcases hdn.2 hq with h | h
   ·exact absurd h hk
   ·exact absurd h h0
 generalize kt p T = q at *
 cases hme : mget (T : Int) es with
 | some v =>
  have hv := hg T v hme
  subst hv
  refine FS (rs := [.tmp 6]) false Tryz.func129 ?_
  simp -dsimp [h0]
  refine cl hkt ?_
  simp -dsimp [h0,hk,hm,hme]
  exact ⟨es,hg,hself⟩
 | none =>
  refine FS (rs := [.tmp 6]) false Tryz.func129 ?_
  simp -dsimp [h0]
  refine cl hkt ?_
  simp -dsimp [h0,hk,hm,hme]
  refine twp_loopC (Ilo p T id m n 0) (fun s => p - natOf (s.tm 33)) (Ilo p T id m n 1) ?_ ?_ ?_
  ·exact ⟨0, -1,es,by simp -dsimp,by simp -dsimp,by simp -dsimp,by simp -dsimp,by simp -dsimp,by simp -dsimp,by omega,.inl ⟨rfl,fun a b hab => by omega⟩,by simp -dsimp,hg,by simpa -dsimp using hself,by simp⟩
  ·rintro s ⟨i,best,es1,t0,t1,t2,t9,t32,t33,hi,hinv,hn,hg1,hmm,hend⟩
   by_cases hlt : i < p
   case neg =>
    simp -dsimp [t32,t33,hlt]
    exact ⟨i,best,es1,by simp -dsimp [t0],by simp -dsimp [t1],by simp -dsimp [t2],by simp -dsimp [t9],by simp -dsimp [t32],by simp -dsimp [t33],hi,hinv,by simp -dsimp [hn],hg1,by simp -dsimp [hmm],fun _ => by omega⟩
   have wi : IntKind.wrap .i64 ((i : Int) + 1) = ((i + 1 : Nat) : Int) := by rw [w64 (by omega) (by omega)]; omega
   have hmu : p - (i + 1) < p - i := by omega
   simp -dsimp [t32,t33,hlt]
   refine twp_loopB (Ili p T id i m n 0) (fun s => i - natOf (s.tm 37)) (Ili p T id i m n 1) ?_ ?_ ?_
   ·exact ⟨0,best,es1,by simp -dsimp [t0],by simp -dsimp [t1],by simp -dsimp [t2],by simp -dsimp [t9],by simp -dsimp,by simp -dsimp [t32],by simp -dsimp [t33],by simp -dsimp,by simp -dsimp,by omega,hinv.same (fun a b => by omega),by simp -dsimp [hn],hg1,by simp -dsimp [hmm],by simp⟩
   ·rintro s2 ⟨j,best,es2,u0,u1,u2,u9,u10,u32,u33,u36,u37,hj,hinv2,hn2,hg2,hmm2,hend2⟩
    by_cases hlt2 : j < i
    case neg =>
     simp -dsimp [u36,u37,hlt2]
     exact ⟨j,best,es2,by simp -dsimp [u0],by simp -dsimp [u1],by simp -dsimp [u2],by simp -dsimp [u9],by simp -dsimp [u10],by simp -dsimp [u32],by simp -dsimp [u33],by simp -dsimp [u36],by simp -dsimp [u37],hj,hinv2,by simp -dsimp [hn2],hg2,by simp -dsimp [hmm2],fun _ => by omega⟩
    have wj : IntKind.wrap .i64 ((j : Int) + 1) = ((j + 1 : Nat) : Int) := by rw [w64 (by omega) (by omega)]; omega
    have hmu2 : i - (j + 1) < i - j := by omega
    have hask := asked_fn p T i j true
    rw [asked_ask h1 h4 hT hlt (show j < p by omega)] at hask
    have hnot := andnot_ask (i := i) (j := j) h4 hT
    have hstep := hinv2.step (S' := fun a b => (a < i ∧ b < a) ∨ (a = i ∧ b < j + 1)) (a := i) (c := j) (fun a b => by omega)
    obtain ⟨y,hY⟩ : ∃ y,askY p T i j = y := ⟨_,rfl⟩
    obtain ⟨z,hZ⟩ : ∃ z,askN p T i j = z := ⟨_,rfl⟩
    have hyT := hT.askY (i := i) (j := j)
    have hzT := hT.askN (i := i) (j := j)
    have hlts := fun h => split_lt (i := i) (j := j) hT h
    have hcd : candB p T (lv p p) i j = if splits p T i j = true ∧ 0 ≤ lv p p y ∧ 0 ≤ lv p p z then some (1 + max (lv p p y) (lv p p z)) else none := by rw [← hY,← hZ]; rfl
    have hspi := splits_iff (p := p) (T := T) (i := i) (j := j)
    rw [hY] at hask hnot hyT hlts hspi
    rw [hZ] at hnot hzT hlts hspi
    cases hsp : splits p T i j with
    | false =>
     rw [hsp] at hcd hspi
     rw [hcd,if_neg (by simp)] at hstep
     simp only [stepB] at hstep
     by_cases hy0 : y = 0
     ·simp -dsimp [u0,u1,u2,u9,u10,u36,u37,hlt2,hnot]
      refine cl hask ?_
      simp -dsimp [u0,u1,u2,u9,u10,u36,u37,hlt2,hnot,hy0,wj,hmu2]
      exact ⟨j + 1,best,es2,by simp -dsimp [u0],by simp -dsimp [u1],by simp -dsimp [u2],by simp -dsimp [u9],by simp -dsimp [u10],by simp -dsimp [u32],by simp -dsimp [u33],by simp -dsimp [u36],by simp -dsimp,by omega,hstep,by simp -dsimp; omega,hg2,by simp -dsimp [hmm2],by simp⟩
     ·have hz0 : z = 0 := by
       refine Classical.byContradiction fun hz => ?_
       have := hspi.2 ⟨hy0,hz⟩
       cases this
      simp -dsimp [u0,u1,u2,u9,u10,u36,u37,hlt2,hnot]
      refine cl hask ?_
      simp -dsimp [u0,u1,u2,u9,u10,u36,u37,hlt2,hnot,hy0,hz0,wj,hmu2]
      exact ⟨j + 1,best,es2,by simp -dsimp [u0],by simp -dsimp [u1],by simp -dsimp [u2],by simp -dsimp [u9],by simp -dsimp [u10],by simp -dsimp [u32],by simp -dsimp [u33],by simp -dsimp [u36],by simp -dsimp,by omega,hstep,by simp -dsimp; omega,hg2,by simp -dsimp [hmm2],by simp⟩
    | true =>
     rw [hsp] at hspi hcd
     obtain ⟨hy0,hz0⟩ := hspi.1 rfl
     obtain ⟨l1,l2⟩ := hlts hsp
     have ihy := ih y l1 hyT
     have ihz := ih z l2 hzT
     have a1 := lv_ge p p y
     have a2 := lv_lt (m := p) h1 hyT
     have b1 := lv_ge p p z
     have b2 := lv_lt (m := p) h1 hzT
     obtain ⟨a,ha⟩ : ∃ a,lv p p y = a := ⟨_,rfl⟩
     obtain ⟨b,hb⟩ : ∃ b,lv p p z = b := ⟨_,rfl⟩
     simp only [ha,hb] at ihy ihz a1 a2 b1 b2 hcd
     have wab : IntKind.wrap .i64 (1 + max a b) = 1 + max a b := w64 (by omega) (by omega)
     simp -dsimp [u0,u1,u2,u9,u10,u36,u37,hlt2,hnot]
     refine cl hask ?_
     simp -dsimp [u0,u1,u2,u9,u10,u36,u37,hlt2,hnot,hy0,hz0]
     refine callS_ (ihy s2.m s2.n id es2 (by omega) (by rw [hmm2]; simp) hg2) ?_
     rintro t m3 n3 ⟨rfl,hn3,es3,hg3,rfl⟩
     simp -dsimp [u0,u1,u2,u9,u10,u36,u37,hlt2,hnot,hy0,hz0]
     refine callS_ (ihz _ n3 id es3 (by omega) (by simp) hg3) ?_
     rintro t m4 n4 ⟨rfl,hn4,es4,hg4,rfl⟩
     by_cases ca : 0 ≤ a
     case neg =>
      rw [hcd,if_neg (by omega)] at hstep
      simp only [stepB] at hstep
      simp -dsimp [u0,u1,u2,u9,u10,u36,u37,hlt2,hnot,ca,wj,hmu2]
      exact ⟨j + 1,best,es4,by simp -dsimp [u0],by simp -dsimp [u1],by simp -dsimp [u2],by simp -dsimp [u9],by simp -dsimp [u10],by simp -dsimp [u32],by simp -dsimp [u33],by simp -dsimp [u36],by simp -dsimp,by omega,hstep,by simp -dsimp; omega,hg4,by simp -dsimp [hmm2,updM_two],by simp⟩
     by_cases cb : 0 ≤ b
     case neg =>
      rw [hcd,if_neg (by omega)] at hstep
      simp only [stepB] at hstep
      simp -dsimp [u0,u1,u2,u9,u10,u36,u37,hlt2,hnot,ca,cb,wj,hmu2]
      exact ⟨j + 1,best,es4,by simp -dsimp [u0],by simp -dsimp [u1],by simp -dsimp [u2],by simp -dsimp [u9],by simp -dsimp [u10],by simp -dsimp [u32],by simp -dsimp [u33],by simp -dsimp [u36],by simp -dsimp,by omega,hstep,by simp -dsimp; omega,hg4,by simp -dsimp [hmm2,updM_two],by simp⟩
     rw [hcd,if_pos (by simp [ca,cb])] at hstep
     simp only [stepB] at hstep
     by_cases cc : best < 0
     ·rw [if_pos (.inl cc)] at hstep
      simp -dsimp [u0,u1,u2,u9,u10,u36,u37,hlt2,hnot,ca,cb,cc,wab,wj,hmu2]
      exact ⟨j + 1,1 + max a b,es4,by simp -dsimp [u0],by simp -dsimp [u1],by simp -dsimp [u2],by simp -dsimp [u9],by simp -dsimp [u10],by simp -dsimp [u32],by simp -dsimp [u33],by simp -dsimp [u36],by simp -dsimp,by omega,hstep,by simp -dsimp; omega,hg4,by simp -dsimp [hmm2,updM_two],by simp⟩
     by_cases cd : 1 + max a b < best
     ·rw [if_pos (.inr cd)] at hstep
      simp -dsimp [u0,u1,u2,u9,u10,u36,u37,hlt2,hnot,ca,cb,cc,cd,wab,wj,hmu2]
      exact ⟨j + 1,1 + max a b,es4,by simp -dsimp [u0],by simp -dsimp [u1],by simp -dsimp [u2],by simp -dsimp [u9],by simp -dsimp [u10],by simp -dsimp [u32],by simp -dsimp [u33],by simp -dsimp [u36],by simp -dsimp,by omega,hstep,by simp -dsimp; omega,hg4,by simp -dsimp [hmm2,updM_two],by simp⟩
     ·rw [if_neg (by omega)] at hstep
      simp -dsimp [u0,u1,u2,u9,u10,u36,u37,hlt2,hnot,ca,cb,cc,cd,wab,wj,hmu2]
      exact ⟨j + 1,best,es4,by simp -dsimp [u0],by simp -dsimp [u1],by simp -dsimp [u2],by simp -dsimp [u9],by simp -dsimp [u10],by simp -dsimp [u32],by simp -dsimp [u33],by simp -dsimp [u36],by simp -dsimp,by omega,hstep,by simp -dsimp; omega,hg4,by simp -dsimp [hmm2,updM_two],by simp⟩
   ·rintro s2 ⟨j,best,es2,u0,u1,u2,u9,u10,u32,u33,u36,u37,hj,hinv2,hn2,hg2,hmm2,hend2⟩
    have := hend2 rfl
    subst this
    simp -dsimp [u0,u33,wi,hmu,t33]
    exact ⟨j + 1,best,es2,by simp -dsimp [u0],by simp -dsimp [u1],by simp -dsimp [u2],by simp -dsimp [u9],by simp -dsimp [u32],by simp -dsimp,by omega,hinv2.same (fun a b => by omega),by simp -dsimp [hn2],hg2,by simp -dsimp [hmm2],by simp⟩
  ·rintro s ⟨i,best,es1,t0,t1,t2,t9,t32,t33,hi,hinv,hn,hg1,hmm,hend⟩
   have := hend rfl
   subst this
   have hlv := (hinv.lv hT hd (fun a b hab => by omega) (fun a b ha hb => .inl ⟨ha,hb⟩)).down h1 (by omega) hT
   have e : best = lv i i T := IsLv.uniq hlv (lv_is i i T)
   subst e
   simp -dsimp [t1,t2,t9,hmm,V.flat]
   exact ⟨by omega,_,hg1.set (T := T),rfl⟩
end TL

namespace TL
open Go Go.Proofs
attribute [local simp] marksV storyV codeV Claim.v Place.v numsV
/-- The cells of kinds. -/
def ksT (ks : List Int) : List T := ks.map fun k => T.v (.int .i64 k)
@[simp] theorem ksT_len (ks : List Int) : (ksT ks).length = ks.length := by simp [ksT]
theorem ksT_set (ks : List Int) (i : Nat) (k : Int) : (ksT ks).set i (.v (.int .i64 k)) = ksT (ks.set i k) := by simp [ksT,List.map_set]
theorem ksT_bor (m : Mem) (d : Nat) (ks : List Int) : mapO (bor true m d) (ksT ks) = some (ks.map (V.int .i64)) := by
 induction ks with
 | nil => rfl
 | cons k ks ih =>
  show (bor true m d (.v (.int .i64 k))).bind _ = _
  rw [show bor true m d (.v (.int .i64 k)) = some (.int .i64 k) by cases d <;> rfl]
  show (mapO (bor true m d) (ksT ks)).map _ = _
  rw [ih]; rfl
theorem ksV_chunk (ks : List Int) : chunk 1 ks.length (ks.map (V.int .i64)) = ks.map (V.int .i64) := by
 induction ks with
 | nil => rfl
 | cons k ks ih => simp [chunk]; exact ih
theorem ks_bor {m : Mem} {i : Nat} {e : TypeId} {ks : List Int} {p : Nat} (h : m i = some (.box e 1 (ksT ks))) (hp : ks.length = p) (d : Nat) : bor true m (d + 1) (.sv i 0 p) = some (numsV ks) := by
 subst hp
 show (match m i with | some (.box _ z cs) => tst (0 + ks.length * z ≤ cs.length) (obind (mapO (TL.bor true m d) ((cs.drop 0).take (ks.length * z))) fun xs => tst (∀ x ∈ xs,x.cell = true) (some (V.sl (chunk z ks.length xs)))) | _ => none) = _
 rw [h]
 show tst (0 + ks.length * 1 ≤ (ksT ks).length) (obind (mapO (TL.bor true m d) (((ksT ks).drop 0).take (ks.length * 1))) fun xs => tst (∀ x ∈ xs,x.cell = true) (some (V.sl (chunk 1 ks.length xs)))) = _
 rw [tst_pos (by simp),List.drop_zero,List.take_of_length_le (by simp),ksT_bor,obind_some,tst_pos (by simp [V.cell]),ksV_chunk]; rfl
def SpyM (m : Mem) (p : Nat) (l : List Claim) (ks : List Int) (many : Nat) : Prop :=
 m 0 = some (.box 3 1 [.v (.int .i64 p)]) ∧ m 1 = some (.box 29 1 [.v (storyV l)]) ∧ m 2 = some (.box 3 1 [.v (.int .i64 many)]) ∧ m 4 = some (.box 3 1 (ksT ks)) ∧
 m 5 = some (.box 77 1 [.sv 4 0 p]) ∧ m 7 = some (.box 185 1 [.fn 174 [.ptr 0 0,.ptr 5 0,.ptr 1 0,.ptr 2 0,.ptr 7 0]])
def spyPost (p : Nat) (l : List Claim) (a : Nat) (pre : List Int) (all : Nat) (m : Mem) (n : Nat) (t : T) (m' : Mem) (n' : Nat) : Prop := n ≤ n' ∧ (∀ i,8 ≤ i → i < n → m' i = m i) ∧ ∃ ks',ks'.length = p ∧ ks'.take a = pre ∧ SpyM m' p l ks' all
def part3 (ok : List Int → Bool) (r : Nat) (pre : List Int) (left : Int) : Nat → Nat
 | 0 => 0
 | 1 => cntK ok r (pre ++ [0]) left
 | 2 => cntK ok r (pre ++ [0]) left + cntK ok r (pre ++ [1]) left
 | _ => cntK ok r (pre ++ [0]) left + cntK ok r (pre ++ [1]) left + cntK ok r (pre ++ [2]) (left - 1)
def Isr (p : Nat) (l : List Claim) (r a : Nat) (pre : List Int) (many : Nat) (left : Int) (m : Mem) (n : Nat) (e : Nat) (s : S) : Prop := ∃ (j : Nat) (ks' : List Int) (many' : Nat),s.tm 0 = .v (.int .i64 a) ∧ s.tm 1 = .v (.int .i64 left) ∧ s.tm 2 = .ptr 0 0 ∧ s.tm 3 = .ptr 5 0 ∧ s.tm 4 = .ptr 1 0 ∧ s.tm 5 = .ptr 2 0 ∧ s.tm 6 = .ptr 7 0 ∧
 s.tm 23 = .loc n ∧ s.tm 24 = .v (.int .i64 3) ∧ s.tm 25 = .v (.int .i64 j) ∧ j ≤ 3 ∧ n + 1 ≤ s.n ∧ s.m n = some (.arr 3 [.int .i64 0,.int .i64 1,.int .i64 2]) ∧ SpyM s.m p l ks' many' ∧ ks'.length = p ∧ ks'.take a = pre ∧
 many' = many + part3 (spyOk l) r pre left j ∧ (∀ i,8 ≤ i → i < n → s.m i = m i) ∧ (e = 1 → j = 3)
theorem take_set_succ {ks : List Int} {a : Nat} (v : Int) (h : a < ks.length) : (ks.set a v).take (a + 1) = ks.take a ++ [v] := by
 rw [List.take_succ_eq_append_getElem (by simpa using h),List.take_set_of_le (Nat.le_refl _)]; simp
theorem spyRows1_s (p : Nat) (l : List Claim) (hp1 : 1 ≤ p) (hp4 : p ≤ 4) (hl : storyOk p l = true) : ∀ (r a : Nat) (ks : List Int) (many : Nat) (left : Int) (m : Mem) (n : Nat),a + r = p → ks.length = p → kinds3 (ks.take a) → many + 3 ^ r ≤ 100 → -4 + (r : Int) ≤ left → left ≤ 4 → 8 ≤ n → SpyM m p l ks many →
  FnS Tryz.prog 174 m n [.v (.int .i64 a),.v (.int .i64 left),.ptr 0 0,.ptr 5 0,.ptr 1 0,.ptr 2 0,.ptr 7 0] (spyPost p l a (ks.take a) (many + cntK (spyOk l) r (ks.take a) left) m n)
 | 0,a,ks,many,left,m,n,ha,hks,hk,hm81,hl0,hl4,hn,hM => by
  have hap : a = p := by omega
  subst hap
  have etk : ks.take a = ks := List.take_of_length_le (by omega)
  rw [etk] at hk ⊢
  have m0 := hM.1
  have m1 := hM.2.1
  have m2 := hM.2.2.1
  have m3 := hM.2.2.2.1
  have m4 := hM.2.2.2.2.1
  have m5 := hM.2.2.2.2.2
  have hss := spyStory_fn ks l hk (by rw [hks]; exact hl)
  have hbr := ks_bor m3 hks
  have hmany : IntKind.wrap .i64 ((many : Int) + 1) = ((many + 1 : Nat) : Int) := by rw [w64 (by omega) (by omega)]; omega
  by_cases hleft : left = 0
  ·subst hleft
   have hb := ft (spyOk l ks)
   rcases hb with hb | hb
   ·have ec : cntK (spyOk l) 0 ks 0 = 0 := by unfold cntK; rw [if_neg (by simp [hb])]
    rw [ec]
    rw [hb] at hss
    refine FS (rs := []) false Tryz.func174 ?_
    simp -dsimp [m0,m1,m2,m3,m4,m5]
    refine callM_ hss (by simp -dsimp [hbr]) rfl ?_
    simp -dsimp
    exact ⟨by omega,fun i _ _ => rfl,ks,hks,etk,m0,m1,m2,m3,m4,m5⟩
   ·have ec : cntK (spyOk l) 0 ks 0 = 1 := by unfold cntK; rw [if_pos ⟨rfl,hb⟩]
    rw [ec]
    rw [hb] at hss
    refine FS (rs := []) false Tryz.func174 ?_
    simp -dsimp [m0,m1,m2,m3,m4,m5]
    refine callM_ hss (by simp -dsimp [hbr]) rfl ?_
    simp -dsimp [m2,hmany]
    exact ⟨by omega,fun i h6 _ => by simp [show ¬ i = 2 by omega],ks,hks,etk,by simp [m0],by simp [m1],by simp,by simp [m3],by simp [m4],by simp [m5]⟩
  ·have ec : cntK (spyOk l) 0 ks left = 0 := by unfold cntK; rw [if_neg (by simp [hleft])]
   rw [ec]
   refine FS (rs := []) false Tryz.func174 ?_
   simp -dsimp [m0,m1,m2,m3,m4,m5,hleft]
   exact ⟨by omega,fun i _ _ => rfl,ks,hks,etk,m0,m1,m2,m3,m4,m5⟩
 | r + 1,a,ks,many,left,m,n,ha,hks,hk,hm81,hl0,hl4,hn,hM => by
  have m0 := hM.1
  have m1 := hM.2.1
  have m2 := hM.2.2.1
  have m3 := hM.2.2.2.1
  have m4 := hM.2.2.2.2.1
  have m5 := hM.2.2.2.2.2
  have hap : ¬ (a : Int) = p := by omega
  have hap' : ¬ a = p := by omega
  have hap3 : a < p := by omega
  have hap4 : a + 1 ≤ p := by omega
  have ih := spyRows1_s p l hp1 hp4 hl r (a + 1)
  have ec : cntK (spyOk l) (r + 1) (ks.take a) left = part3 (spyOk l) r (ks.take a) left 3 := rfl
  rw [ec]
  obtain ⟨pre,hpre⟩ : ∃ pre,ks.take a = pre := ⟨_,rfl⟩
  have c0 := cntK_le (spyOk l) r (pre ++ [0]) left
  have c1 := cntK_le (spyOk l) r (pre ++ [1]) left
  rw [Nat.pow_succ] at hm81
  have wa : IntKind.wrap .i64 ((a : Int) + 1) = ((a + 1 : Nat) : Int) := by rw [w64 (by omega) (by omega)]; omega
  have wl : IntKind.wrap .i64 (left - 1) = left - 1 := w64 (by omega) (by omega)
  have hkpre : ∀ v : Int,v = 0 ∨ v = 1 ∨ v = 2 → kinds3 (pre ++ [v]) := fun v hv k hk' => by
   rcases List.mem_append.1 hk' with h | h
   ·exact hk k (by rw [hpre]; exact h)
   ·rw [List.mem_singleton.1 h]; exact hv
  rw [hpre]
  refine FS (rs := []) false Tryz.func174 ?_
  simp -dsimp [m0,m1,m2,m3,m4,m5,hap,hap']
  refine twp_loopB (Isr p l r a pre many left m n 0) (fun s => 3 - natOf (s.tm 25)) (Isr p l r a pre many left m n 1) ?_ ?_ ?_
  ·exact ⟨0,ks,many,by simp -dsimp,by simp -dsimp,by simp -dsimp,by simp -dsimp,by simp -dsimp,by simp -dsimp,by simp -dsimp,by simp -dsimp,by simp -dsimp,by simp -dsimp,by omega,by simp -dsimp,by simp -dsimp,
    ⟨by simp [m0,show ¬ 0 = n by omega],by simp [m1,show ¬ 1 = n by omega],by simp [m2,show ¬ 2 = n by omega],by simp [m3,show ¬ 4 = n by omega],by simp [m4,show ¬ 5 = n by omega],by simp [m5,show ¬ 7 = n by omega]⟩,hks,hpre,by simp [part3],fun i h6 hi => by simp [show ¬ i = n by omega],by simp⟩
  ·rintro s ⟨j,ks',many',t0,t1,t2,t3,t4,t5,t6,t23,t24,t25,hj,hsn,hrow,hM',hks',hpre',hmany',hout,hend⟩
   have n0 := hM'.1
   have n1 := hM'.2.1
   have n2 := hM'.2.2.1
   have n3 := hM'.2.2.2.1
   have n4 := hM'.2.2.2.2.1
   have n5 := hM'.2.2.2.2.2
   have hal : a < ks'.length := by omega
   have hst := fun v => ksT_set ks' a v
   have upd : ∀ (v : Int),SpyM (updM s.m 4 (some (.box 3 1 (ksT (ks'.set a v))))) p l (ks'.set a v) many' := fun v => ⟨by simp [n0],by simp [n1],by simp [n2],by simp,by simp [n4],by simp [n5]⟩
   have htk : ∀ v : Int,(ks'.set a v).take (a + 1) = pre ++ [v] := fun v => by rw [take_set_succ v hal,hpre']
   have hcall : ∀ (v left' : Int),(v = 0 ∨ v = 1 ∨ v = 2) → many' + 3 ^ r ≤ 100 → -4 + (r : Int) ≤ left' → left' ≤ 4 → FnS Tryz.prog 174 (updM s.m 4 (some (.box 3 1 (ksT (ks'.set a v))))) (s.n + 1) [.v (.int .i64 ((a : Int) + 1)),.v (.int .i64 left'),.ptr 0 0,.ptr 5 0,.ptr 1 0,.ptr 2 0,.ptr 7 0]
     (spyPost p l (a + 1) (pre ++ [v]) (many' + cntK (spyOk l) r (pre ++ [v]) left') (updM s.m 4 (some (.box 3 1 (ksT (ks'.set a v))))) (s.n + 1)) := fun v left' hv h81 hl1 hl2 => by
    have := ih (ks'.set a v) many' left' (updM s.m 4 (some (.box 3 1 (ksT (ks'.set a v))))) (s.n + 1) (by omega) (by simpa using hks') (by rw [htk]; exact hkpre v hv) h81 hl1 hl2 (by omega) (upd v)
    rw [htk,show ((a + 1 : Nat) : Int) = (a : Int) + 1 by omega] at this
    exact this
   have fin : ∀ (v left' : Int) (t : T) (m3 : Mem) (n3 : Nat),spyPost p l (a + 1) (pre ++ [v]) (many' + cntK (spyOk l) r (pre ++ [v]) left') (updM s.m 4 (some (.box 3 1 (ksT (ks'.set a v))))) (s.n + 1) t m3 n3 →
     n + 1 ≤ n3 ∧ m3 n = some (.arr 3 [.int .i64 0,.int .i64 1,.int .i64 2]) ∧ (∀ i,8 ≤ i → i < n → m3 i = m i) ∧ ∃ ks3,ks3.length = p ∧ ks3.take a = pre ∧ SpyM m3 p l ks3 (many' + cntK (spyOk l) r (pre ++ [v]) left') := fun v left' t m3 n3 hq => by
    have q1 := hq.1
    have q2 := hq.2.1
    obtain ⟨ks3,q3,q4,q5⟩ := hq.2.2
    refine ⟨by omega,by rw [q2 n (by omega) (by omega)]; simp [show ¬ n = 4 by omega,hrow],fun i h6 hi => by rw [q2 i h6 (by omega)]; simp [show ¬ i = 4 by omega,hout i h6 hi],ks3,q3, ?_,q5⟩
    have e1 : ks3.take a = (ks3.take (a + 1)).take a := by rw [List.take_take,Nat.min_eq_left (by omega)]
    rw [e1,q4]
    have hpl : pre.length = a := by rw [← hpre]; simp; omega
    rw [List.take_append_of_le_length (by omega),List.take_of_length_le (by omega)]
   have hj' : j = 0 ∨ j = 1 ∨ j = 2 ∨ j = 3 := by omega
   rcases hj' with rfl | rfl | rfl | rfl
   ·have e0 : many' = many := by rw [hmany']; rfl
    subst e0
    have hc := hcall 0 left (.inl rfl) (by omega) (by omega) (by omega)
    simp -dsimp [t0,t1,t2,t3,t4,t5,t6,t23,t24,t25,hrow,n3,n4,hal,hap3,hap4,hks',hst,n5,wa]
    refine callS_ hc ?_
    intro t m3 n3 hq
    have hq' := fin 0 left t m3 n3 hq
    have q1 := hq'.1
    have q2 := hq'.2.1
    have q3 := hq'.2.2.1
    obtain ⟨ks3,q4,q5,q6⟩ := hq'.2.2.2
    simp -dsimp [t25,show IntKind.wrap .i64 1 = 1 from rfl,show IntKind.wrap .i64 2 = 2 from rfl,show IntKind.wrap .i64 3 = 3 from rfl]
    exact ⟨1,ks3,many' + cntK (spyOk l) r (pre ++ [0]) left,by simp -dsimp [t0],by simp -dsimp [t1],by simp -dsimp [t2],by simp -dsimp [t3],by simp -dsimp [t4],by simp -dsimp [t5],by simp -dsimp [t6],by simp -dsimp [t23],by simp -dsimp [t24],by simp -dsimp,by omega,by simp -dsimp; omega,by simp -dsimp [q2],q6,q4,q5,rfl,fun i h6 hi => by simp -dsimp [q3 i h6 hi],by simp⟩
   ·have e0 : many' = many + cntK (spyOk l) r (pre ++ [0]) left := by rw [hmany']; rfl
    have hc := hcall 1 left (.inr (.inl rfl)) (by omega) (by omega) (by omega)
    simp -dsimp [t0,t1,t2,t3,t4,t5,t6,t23,t24,t25,hrow,n3,n4,hal,hap3,hap4,hks',hst,n5,wa]
    refine callS_ hc ?_
    intro t m3 n3 hq
    have hq' := fin 1 left t m3 n3 hq
    have q1 := hq'.1
    have q2 := hq'.2.1
    have q3 := hq'.2.2.1
    obtain ⟨ks3,q4,q5,q6⟩ := hq'.2.2.2
    simp -dsimp [t25,show IntKind.wrap .i64 1 = 1 from rfl,show IntKind.wrap .i64 2 = 2 from rfl,show IntKind.wrap .i64 3 = 3 from rfl]
    exact ⟨2,ks3,_,by simp -dsimp [t0],by simp -dsimp [t1],by simp -dsimp [t2],by simp -dsimp [t3],by simp -dsimp [t4],by simp -dsimp [t5],by simp -dsimp [t6],by simp -dsimp [t23],by simp -dsimp [t24],by simp -dsimp,by omega,by simp -dsimp; omega,by simp -dsimp [q2],by simpa -dsimp using q6,q4,q5,by rw [e0,Nat.add_assoc]; rfl,fun i h6 hi => by simp -dsimp [q3 i h6 hi],by simp⟩
   ·have e0 : many' = many + (cntK (spyOk l) r (pre ++ [0]) left + cntK (spyOk l) r (pre ++ [1]) left) := by rw [hmany']; rfl
    have hc := hcall 2 (left - 1) (.inr (.inr rfl)) (by omega) (by omega) (by omega)
    simp -dsimp [t0,t1,t2,t3,t4,t5,t6,t23,t24,t25,hrow,n3,n4,hal,hap3,hap4,hks',hst,n5,wa,wl]
    refine callS_ hc ?_
    intro t m3 n3 hq
    have hq' := fin 2 (left - 1) t m3 n3 hq
    have q1 := hq'.1
    have q2 := hq'.2.1
    have q3 := hq'.2.2.1
    obtain ⟨ks3,q4,q5,q6⟩ := hq'.2.2.2
    simp -dsimp [t25,show IntKind.wrap .i64 1 = 1 from rfl,show IntKind.wrap .i64 2 = 2 from rfl,show IntKind.wrap .i64 3 = 3 from rfl]
    exact ⟨3,ks3,_,by simp -dsimp [t0],by simp -dsimp [t1],by simp -dsimp [t2],by simp -dsimp [t3],by simp -dsimp [t4],by simp -dsimp [t5],by simp -dsimp [t6],by simp -dsimp [t23],by simp -dsimp [t24],by simp -dsimp,by omega,by simp -dsimp; omega,by simp -dsimp [q2],by simpa -dsimp using q6,q4,q5,by rw [e0,Nat.add_assoc]; rfl,fun i h6 hi => by simp -dsimp [q3 i h6 hi],by simp⟩
   ·simp -dsimp [t24,t25]
    exact ⟨3,ks',many',by simp -dsimp [t0],by simp -dsimp [t1],by simp -dsimp [t2],by simp -dsimp [t3],by simp -dsimp [t4],by simp -dsimp [t5],by simp -dsimp [t6],by simp -dsimp [t23],by simp -dsimp [t24],by simp -dsimp [t25],by omega,by simp -dsimp; omega,by simp -dsimp [hrow],by simpa -dsimp using hM',hks',hpre',hmany',fun i h6 hi => by simp -dsimp [hout i h6 hi],fun _ => rfl⟩
  ·rintro s ⟨j,ks',many',t0,t1,t2,t3,t4,t5,t6,t23,t24,t25,hj,hsn,hrow,hM',hks',hpre',hmany',hout,hend⟩
   have := hend rfl
   subst this
   subst hmany'
   simp -dsimp
   exact ⟨by omega,hout,ks',hks',hpre',hM'⟩
end TL

namespace TL
open Go Go.Proofs
attribute [local simp] marksV storyV codeV Claim.v Place.v numsV
theorem spyRows_fn (p : Nat) (l : List Claim) (h : storyOk p l = true) (s : Nat) (hs : s ≤ p) : FnZ Tryz.prog 128 [.int .i64 p,storyV l,.int .i64 s] (.int .i64 (cntK (spyOk l) p [] (s : Nat))) := by
 obtain ⟨h1,h4,hc,h6⟩ := allOk_of h
 have e0 : List.flatten (List.replicate p [T.v (.int .i64 0)]) = ksT (List.replicate p 0) := by
  rw [List.flatten_replicate_singleton]; simp [ksT]
 have h3 : 3 ^ p ≤ 3 ^ 4 := Nat.pow_le_pow_right (by omega) (by omega)
 have hz : ((0 : Nat) : Int) = 0 := rfl
 have hcl := fun m n => spyRows1_s p l (by omega) (by omega) h p 0 (List.replicate p 0) 0 (s : Nat) m n (by omega) (by simp) (fun k hk => by cases hk) (by omega) (by omega) (by omega)
 simp only [List.take_zero,Nat.zero_add,Int.natCast_zero] at hcl
 have b1 : (8 : Int) * p ≤ 281474976710656 := by omega
 have b2 : (p : Int) ≤ 9223372036854775807 := by omega
 refine FZ (rs := [.tmp 6]) false Tryz.func128 ?_
 simp -dsimp [b1,b2,e0]
 refine callS_ (hcl _ _ ?_ ?_) ?_
 ·simp
 ·exact ⟨by simp,by simp,by simp,by simp,by simp,by simp⟩
 intro t m3 n3 hq
 obtain ⟨ks3,q3,q4,q5⟩ := hq.2.2
 have q2 := q5.2.2.1
 simp -dsimp [q2]
def Ifs (p : Nat) (l : List Claim) (e : Nat) (s : S) : Prop := ∃ i : Nat,s.tm 0 = .v (.int .i64 p) ∧ s.tm 1 = .v (storyV l) ∧ s.tm 5 = .v (.int .i64 i) ∧ i ≤ fewest (spyOk l) p
theorem fewestSpies_fn (p : Nat) (l : List Claim) (h : storyOk p l = true) : FnZ Tryz.prog 81 [.int .i64 p,storyV l] (.int .i64 (fewest (spyOk l) p)) := by
 obtain ⟨h1,h4,hc,h6⟩ := allOk_of h
 have hok := storyOk_fn p l (by omega)
 rw [h] at hok
 have hall := spyOk_all (p := p) hc
 obtain ⟨f1,f2,f3⟩ := fewest_spec hall
 refine FZ (rs := [.tmp 4]) false Tryz.func81 ?_
 simp -dsimp
 refine cl hok ?_
 simp -dsimp
 refine twp_loopB (Ifs p l 0) (fun s => p + 1 - natOf (s.tm 5)) (fun _ => False) ?_ ?_ ?_
 ·exact ⟨0,by simp -dsimp,by simp -dsimp,by simp -dsimp,by omega⟩
 ·rintro s ⟨i,t0,t1,t5,hi⟩
  have hsr := spyRows_fn p l h i (by omega)
  have wi : IntKind.wrap .i64 ((i : Int) + 1) = ((i + 1 : Nat) : Int) := by rw [w64 (by omega) (by omega)]; omega
  have hmu1 : (p - i).succ ≤ p + 1 - i := by omega
  have hmu2 : p - i < p + 1 - i := by omega
  by_cases hlt : i < fewest (spyOk l) p
  ·have h0 := f3 i hlt
   rw [h0] at hsr
   simp -dsimp [t0,t1,t5]
   refine cl hsr ?_
   simp -dsimp [t5,wi,hmu1,hmu2]
   exact ⟨i + 1,by simp -dsimp [t0],by simp -dsimp [t1],by simp -dsimp,by omega⟩
  ·have e : i = fewest (spyOk l) p := by omega
   rw [← e] at f2 ⊢
   have hpos : (0 : Int) < (cntK (spyOk l) p [] (i : Nat) : Nat) := by omega
   generalize cntK (spyOk l) p [] (i : Nat) = C at *
   simp -dsimp [t0,t1,t5]
   refine cl hsr ?_
   simp -dsimp [t5,hpos,f2]
 ·intro s hs; exact hs.elim
end TL

namespace TL
open Go Go.Proofs
attribute [local simp] marksV storyV codeV Claim.v Place.v numsV
def bitI (w i : Nat) : Int := if w.testBit i then 1 else 0
def knownOf (ws : List Nat) (i : Nat) : Int := match ws with
 | [] => -1
 | w :: _ => if ws.all (fun v => v.testBit i == w.testBit i) = true then bitI w i else -1
def knownL (p : Nat) (l : List Claim) : List Int := if sw p l = [] then [] else (List.range p).map (knownOf (sw p l))
theorem knownOf_le (ws : List Nat) (i : Nat) : knownOf ws i ≤ 1 := by
 unfold knownOf
 split
 ·omega
 ·split
  ·unfold bitI; split <;> omega
  ·omega
def Ikp1 (p : Nat) (W : List Nat) (e : Nat) (s : S) : Prop := ∃ i id : Nat,s.tm 0 = .v (.int .i64 p) ∧ s.tm 5 = .v (natsV W) ∧ s.tm 6 = .loc id ∧ id < s.n ∧ s.mu = false ∧ s.m id = some (.arr 3 (((List.range i).map (knownOf W)).map (V.int .i64))) ∧
 s.tm 20 = .v (.int .i64 p) ∧ s.tm 21 = .v (.int .i64 i) ∧ i ≤ p ∧ (e = 1 → i = p)
def Ikp2 (p : Nat) (W : List Nat) (i id : Nat) (e : Nat) (s : S) : Prop := ∃ j : Nat,s.tm 0 = .v (.int .i64 p) ∧ s.tm 5 = .v (natsV W) ∧ s.tm 6 = .loc id ∧ id < s.n ∧ s.mu = false ∧ s.m id = some (.arr 3 (((List.range i).map (knownOf W)).map (V.int .i64))) ∧
 s.tm 20 = .v (.int .i64 p) ∧ s.tm 21 = .v (.int .i64 i) ∧ s.tm 7 = .v (.int .i64 i) ∧ s.tm 30 = .v (natsV W) ∧ s.tm 31 = .v (.int .i64 W.length) ∧ s.tm 32 = .v (.int .i64 j) ∧ j ≤ W.length ∧
 (e = 0 → s.tm 8 = .v (.int .i64 (bitI (W.headD 0) i)) ∧ (W.take j).all (fun v => v.testBit i == (W.headD 0).testBit i) = true) ∧ (e = 1 → s.tm 8 = .v (.int .i64 (knownOf W i)))
theorem knownPeople_fn (p : Nat) (l : List Claim) (h : storyOk p l = true) : FnZ Tryz.prog 79 [.int .i64 p,storyV l] (numsV (knownL p l)) := by
 obtain ⟨h1,h4,hc,h6⟩ := allOk_of h
 have hst := storyTable_v p l (by omega)
 rw [storyTableV_ok h] at hst
 have hwi := worldsIn_fn p (storyTab p l) (storyTab_ok (by omega) (by omega) l) (by omega) (by omega)
 have hsl := sw_len (p := p) (by omega) l
 have hwl : ∀ w ∈ sw p l,w < 16 := fun w hw => sw_lt (by omega) hw
 have e0 : worldsOf p (storyTab p l) = sw p l := rfl
 rw [e0] at hwi
 unfold knownL
 generalize sw p l = W at *
 have hpp : 1 ≤ p ∧ p ≤ 4 := by omega
 clear e0
 match W,hsl,hwl,hwi with
 | [],_,_,hwi =>
  refine FZ (rs := [.tmp 4]) false Tryz.func79 ?_
  simp -dsimp
  refine cl hst ?_
  simp -dsimp
  refine cl hwi ?_
  simp -dsimp
 | w0 :: W',hsl,hwl,hwi =>
  obtain ⟨W,hW⟩ : ∃ W,w0 :: W' = W := ⟨_,rfl⟩
  have hh : W.headD 0 = w0 := by rw [← hW]; rfl
  have h0 : 0 < W.length := by rw [← hW]; simp
  have hg0 : W[0] = w0 := by subst hW; rfl
  have hw0 := hwl w0 (List.mem_cons_self ..)
  rw [hW] at hsl hwl hwi ⊢
  rw [if_neg (by rw [← hW]; simp)]
  have hkn : ∀ i,knownOf W i = if W.all (fun v => v.testBit i == w0.testBit i) = true then bitI w0 i else -1 := fun i => by rw [← hW]; rfl
  have hne : ¬ W = [] := by rw [← hW]; simp
  clear hW
  have hl0 : ¬ (W.length : Int) = 0 := by omega
  refine FZ (rs := [.tmp 4]) false Tryz.func79 ?_
  simp -dsimp
  refine cl hst ?_
  simp -dsimp
  refine cl hwi ?_
  simp -dsimp [hne,hl0]
  refine twp_loopC (Ikp1 p W 0) (fun s => p - natOf (s.tm 21)) (Ikp1 p W 1) ?_ ?_ ?_
  ·exact ⟨0,0,by simp -dsimp,by simp -dsimp [natsV],by simp -dsimp,by simp -dsimp,by simp -dsimp,by simp -dsimp,by simp -dsimp,by simp -dsimp,by omega,by simp⟩
  ·rintro s ⟨i,id,t0,t5,t6,hid,hmu,hm,t20,t21,hi,hend⟩
   by_cases hlt : i < p
   case neg =>
    simp -dsimp [t20,t21,hlt]
    exact ⟨i,id,by simp -dsimp [t0],by simp -dsimp [t5],by simp -dsimp [t6],by simp -dsimp; omega,by simp -dsimp [hmu],by simp -dsimp [hm],by simp -dsimp [t20],by simp -dsimp [t21],hi,fun _ => by omega⟩
   have wi : IntKind.wrap .i64 ((i : Int) + 1) = ((i + 1 : Nat) : Int) := by rw [w64 (by omega) (by omega)]; omega
   have hmu1 : p - (i + 1) < p - i := by omega
   have z1 : ¬ (i : Int) < 0 := by omega
   have b0 := bit1 w0 i (by omega) (by omega)
   have eb0 : (if w0.testBit i then (1 : Int) else 0) = bitI w0 i := rfl
   simp -dsimp [t0,t5,t6,t20,t21,hlt,natsV,h0,hg0,z1,b0]
   refine twp_loopC (Ikp2 p W i id 0) (fun s => W.length - natOf (s.tm 32)) (Ikp2 p W i id 1) ?_ ?_ ?_
   ·exact ⟨0,by simp -dsimp [t0],by simp -dsimp [t5,natsV],by simp -dsimp [t6],by simp -dsimp; omega,by simp -dsimp [hmu],by simp -dsimp [hm],by simp -dsimp [t20],by simp -dsimp [t21],by simp -dsimp,by simp -dsimp [natsV],by simp -dsimp,by simp -dsimp,by omega,fun _ => ⟨by rw [hh]; simp -dsimp [bitI],by simp⟩,by simp⟩
   ·rintro s2 ⟨j,u0,u5,u6,uid,umu,um,u20,u21,u7,u30,u31,u32,hj,h8,hend2⟩
    have u8 := (h8 rfl).1
    have uall := (h8 rfl).2
    rw [hh] at u8 uall
    by_cases hlt2 : j < W.length
    case neg =>
     have hjl : j = W.length := by omega
     rw [hjl,List.take_length] at uall
     have ek : knownOf W i = bitI w0 i := by rw [hkn,if_pos uall]
     simp -dsimp [u31,u32,hlt2]
     exact ⟨j,by simp -dsimp [u0],by simp -dsimp [u5],by simp -dsimp [u6],by simp -dsimp; omega,by simp -dsimp [umu],by simp -dsimp [um],by simp -dsimp [u20],by simp -dsimp [u21],by simp -dsimp [u7],by simp -dsimp [u30],by simp -dsimp [u31],by simp -dsimp [u32],hj,by simp,fun _ => by simp -dsimp [u8,ek]⟩
    have wj : IntKind.wrap .i64 ((j : Int) + 1) = ((j + 1 : Nat) : Int) := by rw [w64 (by omega) (by omega)]; omega
    have hmu2 : W.length - (j + 1) < W.length - j := by omega
    obtain ⟨v,hv⟩ : ∃ v,W[j] = v := ⟨_,rfl⟩
    have hvl : v < 16 := by rw [← hv]; exact hwl _ (List.getElem_mem hlt2)
    have b1 := bit1 v i (by omega) (by omega)
    have hnx : (W.take (j + 1)).all (fun v => v.testBit i == w0.testBit i) = ((W.take j).all (fun v => v.testBit i == w0.testBit i) && (v.testBit i == w0.testBit i)) := by
     rw [List.take_succ_eq_append_getElem hlt2,List.all_append,hv]; simp
    have hwhole : (v.testBit i == w0.testBit i) = false → knownOf W i = -1 := fun hf => by
     rw [hkn,if_neg]
     intro hq
     have := List.all_eq_true.1 hq W[j] (List.getElem_mem hlt2)
     rw [hv,hf] at this; cases this
    have hb := ft (v.testBit i)
    have hb0 := ft (w0.testBit i)
    rcases hb with hb | hb <;> rcases hb0 with hb0 | hb0 <;> rw [hb] at b1 hnx hwhole <;> rw [hb0] at hnx hwhole
    ·rw [show bitI w0 i = 0 by simp [bitI,hb0]] at u8
     simp -dsimp [u0,u5,u7,u8,u30,u31,u32,hlt2,hv,natsV,z1,b1,wj,hmu2]
     exact ⟨j + 1,by simp -dsimp [u0],by simp -dsimp [u5,natsV],by simp -dsimp [u6],by simp -dsimp; omega,by simp -dsimp [umu],by simp -dsimp [um],by simp -dsimp [u20],by simp -dsimp [u21],by simp -dsimp [u7],by simp -dsimp [u30,natsV],by simp -dsimp [u31],by simp -dsimp,by omega,fun _ => ⟨by rw [hh]; simp -dsimp [u8,bitI,hb0],by rw [hh,hb0,hnx]; simp at uall ⊢; first | exact uall | (simp only [hb0] at uall; exact uall)⟩,by simp⟩
    ·have ek := hwhole rfl
     rw [show bitI w0 i = 1 by simp [bitI,hb0]] at u8
     simp -dsimp [u0,u5,u7,u8,u30,u31,u32,hlt2,hv,natsV,z1,b1,wj,hmu2]
     exact ⟨j,by simp -dsimp [u0],by simp -dsimp [u5,natsV],by simp -dsimp [u6],by simp -dsimp; omega,by simp -dsimp [umu],by simp -dsimp [um],by simp -dsimp [u20],by simp -dsimp [u21],by simp -dsimp [u7],by simp -dsimp [u30,natsV],by simp -dsimp [u31],by simp -dsimp [u32],by omega,by simp,fun _ => by simp -dsimp [ek]⟩
    ·have ek := hwhole rfl
     rw [show bitI w0 i = 0 by simp [bitI,hb0]] at u8
     simp -dsimp [u0,u5,u7,u8,u30,u31,u32,hlt2,hv,natsV,z1,b1,wj,hmu2]
     exact ⟨j,by simp -dsimp [u0],by simp -dsimp [u5,natsV],by simp -dsimp [u6],by simp -dsimp; omega,by simp -dsimp [umu],by simp -dsimp [um],by simp -dsimp [u20],by simp -dsimp [u21],by simp -dsimp [u7],by simp -dsimp [u30,natsV],by simp -dsimp [u31],by simp -dsimp [u32],by omega,by simp,fun _ => by simp -dsimp [ek]⟩
    ·rw [show bitI w0 i = 1 by simp [bitI,hb0]] at u8
     simp -dsimp [u0,u5,u7,u8,u30,u31,u32,hlt2,hv,natsV,z1,b1,wj,hmu2]
     exact ⟨j + 1,by simp -dsimp [u0],by simp -dsimp [u5,natsV],by simp -dsimp [u6],by simp -dsimp; omega,by simp -dsimp [umu],by simp -dsimp [um],by simp -dsimp [u20],by simp -dsimp [u21],by simp -dsimp [u7],by simp -dsimp [u30,natsV],by simp -dsimp [u31],by simp -dsimp,by omega,fun _ => ⟨by rw [hh]; simp -dsimp [u8,bitI,hb0],by rw [hh,hb0,hnx]; simp at uall ⊢; first | exact uall | (simp only [hb0] at uall; exact uall)⟩,by simp⟩
   ·rintro s2 ⟨j,u0,u5,u6,uid,umu,um,u20,u21,u7,u30,u31,u32,hj,h8,hend2⟩
    have u8 := hend2 rfl
    have f1 := far uid
    have hnx : ((List.range (i + 1)).map (knownOf W)).map (V.int .i64) = ((List.range i).map (knownOf W)).map (V.int .i64) ++ [.int .i64 (knownOf W i)] := by
     rw [List.range_succ,List.map_append,List.map_append]; rfl
    have b1 : (i + 1) * 8 ≤ 140737488355328 := by omega
    simp -dsimp [u0,u5,u6,u7,u8,u20,u21,umu,um,f1,b1,wi,hmu1,t21,nes]
    refine st_out fun s' ht hm' hn' hu' => ?_
    have a0 := ht 0
    have a5 := ht 5
    have a6 := ht 6
    have a20 := ht 20
    have a21 := ht 21
    simp -dsimp [u0,u5,u20] at a0 a5 a6 a20 a21 hm' hn' hu'
    clear ht
    refine ⟨i + 1,_,a0,by rw [a5],a6,by omega,by rw [hu',umu], ?_,a20,a21,by omega,by simp⟩
    rw [hnx]; simp [hm',nes]
  ·rintro s ⟨i,id,t0,t5,t6,hid,hmu,hm,t20,t21,hi,hend⟩
   have := hend rfl
   subst this
   simp -dsimp [t6,hm]
/-- What is left of one table without another. -/
def andN (a b : Nat) : Nat := a % 2 ^ IntKind.i64.bits &&& 2 ^ IntKind.i64.bits - 1 - b % 2 ^ IntKind.i64.bits
theorem andN_w {a b : Nat} (ha : a < 65536) : IntKind.wrap .i64 ((a % 2 ^ IntKind.i64.bits &&& 2 ^ IntKind.i64.bits - 1 - b % 2 ^ IntKind.i64.bits : Nat) : Int) = ((andN a b : Nat) : Int) := by
 have l1 : andN a b ≤ a % 2 ^ IntKind.i64.bits := Nat.and_le_left
 have l2 : a % 2 ^ IntKind.i64.bits ≤ a := Nat.mod_le _ _
 exact w64 (by unfold andN at l1; omega) (by unfold andN at l1; omega)
def followsB (p : Nat) (l : List Claim) (t : List Mark) : Bool := decide (andN (storyTab p l) (termTab p t) = 0)
theorem followsFrom_fn (p : Nat) (l : List Claim) (t : List Mark) (h : storyOk p l = true) (ht : termOk p t = true) : FnZ Tryz.prog 84 [.int .i64 p,storyV l,marksV t] (.bool (followsB p l t)) := by
 obtain ⟨h1,h4,hc,h6⟩ := allOk_of h
 have hok := storyOk_fn p l (by omega)
 rw [h] at hok
 have hto := termOk_fn p t
 rw [ht] at hto
 have hst := storyTable_fn p l (by omega) (by omega) (by omega) hc
 have htt := tableOf_fn p t ht
 have hs := storyTab_small (p := p) (by omega) l
 unfold followsB
 obtain ⟨A,hA⟩ : ∃ A,storyTab p l = A := ⟨_,rfl⟩
 obtain ⟨B,hB⟩ : ∃ B,termTab p t = B := ⟨_,rfl⟩
 rw [hA] at hst hs ⊢
 rw [hB] at htt ⊢
 have hw := andN_w (b := B) hs
 obtain ⟨C,hC⟩ : ∃ C,andN A B = C := ⟨_,rfl⟩
 rw [hC] at hw ⊢
 refine FZ (rs := [.tmp 6]) false Tryz.func84 ?_
 simp -dsimp
 refine cl hok ?_
 simp -dsimp
 refine cl hto ?_
 simp -dsimp
 refine cl hst ?_
 simp -dsimp
 refine cl htt ?_
 simp -dsimp [hw]
end TL

namespace TL
open Go Go.Proofs
/-- A split: who, where the case goes on to if the person lies, and else. -/
structure Sp where
 who : Int
 no : Int
 yes : Int
def Sp.v (s : Sp) : V := .agg [.int .i64 s.who,.int .i64 s.no,.int .i64 s.yes]
inductive PT where
 | goal
 | claim (i : Nat)
 | split (who : Nat) (no yes : PT)
/-- How many splits. -/
def PT.size : PT → Nat
 | .goal | .claim _ => 0
 | .split _ a b => 1 + a.size + b.size
/-- Where a tree is gone on to whose splits lie from a place on. -/
def PT.to (at_ : Nat) : PT → Int
 | .goal => -1
 | .claim i => -2 - (i : Int)
 | .split _ _ _ => at_
/-- Its splits, from a place on. -/
def PT.row : PT → Nat → List Sp
 | .goal,_ | .claim _,_ => []
 | .split who a b,n => ⟨who,a.to (n + 1),b.to (n + 1 + a.size)⟩ :: (a.row (n + 1) ++ b.row (n + 1 + a.size))
theorem PT.row_len : ∀ (t : PT) (n : Nat),(t.row n).length = t.size
 | .goal,n => rfl
 | .claim i,n => rfl
 | .split who a b,n => by simp [PT.row,PT.size,PT.row_len a,PT.row_len b]; omega
/-- A tree's text. -/
def PT.tx : PT → List UInt8
 | .goal => [42]
 | .claim i => dec i
 | .split who a b => UInt8.ofNat (97 + who) :: 40 :: (a.tx ++ 44 :: (b.tx ++ [41]))
theorem dec_ne (i : Nat) : dec (i : Int) ≠ [] := by
 unfold dec
 rw [Int.toNat_natCast]
 intro h
 have h1 := Go.Lib.decDigits_length i
 have h2 := Go.Lib.nDigits_pos i
 rw [h] at h1
 simp at h1; omega
theorem PT.tx_ne (t : PT) : t.tx ≠ [] := by
 cases t with
 | goal => simp [PT.tx]
 | claim i => exact dec_ne i
 | split who a b => simp [PT.tx]
/-- The worlds that agree with what is known of the first k people. -/
def agr (p k world : Nat) : Nat := tabN (2 ^ p) fun w => w % 2 ^ k == world
/-- A case is closed by what is to be proved. -/
def closG (p : Nat) (t : List Mark) (k world : Nat) : Bool := decide (andN (agr p k world) (termTab p t) = 0)
/-- A case is closed by a claim. -/
def closC (p : Nat) (c : Claim) (k world : Nat) : Bool := decide (agr p k world &&& claimTab p c = 0)
def closI (p : Nat) (l : List Claim) (k world i : Nat) : Bool := match l[i]? with
 | some c => closC p c k world
 | none => false
def leaf (p : Nat) (l : List Claim) (t : List Mark) (k world : Nat) : Option PT :=
 if closG p t k world = true then some .goal else ((List.range l.length).find? (closI p l k world)).map .claim
/-- The proof that is found, with so many people not known yet. -/
def findT (p : Nat) (l : List Claim) (t : List Mark) : Nat → Nat → Option PT
 | 0,world => leaf p l t p world
 | r + 1,world => match leaf p l t (p - (r + 1)) world with
  | some x => some x
  | none => match findT p l t r world,findT p l t r (world + 2 ^ (p - (r + 1))) with
   | some a,some b => some (.split (p - (r + 1)) a b)
   | _,_ => none
/-- A tree is right for a case. -/
def okT (p : Nat) (l : List Claim) (t : List Mark) : PT → Nat → Nat → Prop
 | .goal,k,world => closG p t k world = true
 | .claim i,k,world => i < l.length ∧ closI p l k world i = true
 | .split who a b,k,world => who = k ∧ k < p ∧ okT p l t a (k + 1) world ∧ okT p l t b (k + 1) (world + 2 ^ k)
theorem leaf_ok {p : Nat} {l : List Claim} {t : List Mark} {k world : Nat} {x : PT} (h : leaf p l t k world = some x) : okT p l t x k world ∧ x.size = 0 := by
 unfold leaf at h
 split at h
 ·rename_i hg; cases h; exact ⟨hg,rfl⟩
 ·rw [Option.map_eq_some_iff] at h
  obtain ⟨i,hi,rfl⟩ := h
  have h1 := List.find?_some hi
  have h2 := List.mem_of_find?_eq_some hi
  exact ⟨⟨List.mem_range.1 h2,h1⟩,rfl⟩
theorem findT_ok {p : Nat} {l : List Claim} {t : List Mark} : ∀ (r world : Nat) (x : PT),r ≤ p → findT p l t r world = some x → okT p l t x (p - r) world ∧ x.size + 1 ≤ 2 ^ r
 | 0,world,x,_,h => by
  obtain ⟨h1,h2⟩ := leaf_ok h
  exact ⟨h1,by omega⟩
 | r + 1,world,x,hr,h => by
  unfold findT at h
  split at h
  ·rename_i y hy
   cases h
   obtain ⟨h1,h2⟩ := leaf_ok hy
   have := Nat.one_le_two_pow (n := r + 1)
   exact ⟨h1,by omega⟩
  ·split at h
   ·rename_i a b ha hb
    cases h
    obtain ⟨a1,a2⟩ := findT_ok r _ _ (by omega) ha
    obtain ⟨b1,b2⟩ := findT_ok r _ _ (by omega) hb
    have e : p - (r + 1) + 1 = p - r := by omega
    refine ⟨⟨rfl,by omega,by rw [e]; exact a1,by rw [e]; exact b1⟩, ?_⟩
    rw [Nat.pow_succ]
    simp only [PT.size]; omega
   ·cases h
end TL

namespace TL
open Go Go.Proofs
attribute [local simp] marksV storyV codeV Claim.v Place.v numsV
/-- What is known: the first so many. -/
def kn (k : Nat) : Int := ((2 ^ k - 1 : Nat) : Int)
theorem agr_small {p : Nat} (h4 : p ≤ 4) (k world : Nat) : agr p k world < 65536 := table_small h4 (tabN_lt _ _)
theorem closed1_fn (k world w : Nat) (hk : k ≤ 4) (hw : w < 16) : FnZ Tryz.prog 180 [.int .i64 w,.ref [.int .i64 (kn k)],.ref [.int .i64 world]] (.bool (w % 2 ^ k == world)) := by
 have hp := pow_small hk
 have ha := and_ni (a := w) (b := 2 ^ k - 1) (x := kn k) rfl (by omega) (by omega)
 rw [Nat.and_two_pow_sub_one_eq_mod] at ha
 have e : (w % 2 ^ k == world) = decide (((w % 2 ^ k : Nat) : Int) = (world : Int)) := by
  rw [Bool.eq_iff_iff]; simp only [beq_iff_eq,decide_eq_true_eq,Int.natCast_inj]
 rw [e]
 generalize w % 2 ^ k = A at *
 generalize kn k = K at *
 refine FZ (rs := [.tmp 4]) false Tryz.func180 ?_
 simp -dsimp [ha]
/-- What the map of a case says. -/
def MapOk (p : Nat) (l : List Claim) (t : List Mark) (k world i : Nat) (es : List (Int × V)) : Prop := mget (-1) es = some (.bool (closG p t k world)) ∧ ∀ j,j < i → mget (-2 - (j : Int)) es = some (.bool (closI p l k world j))
def clPost (p : Nat) (l : List Claim) (t : List Mark) (k world : Nat) (m : Mem) (n : Nat) (x : T) (m' : Mem) (n' : Nat) : Prop := ∃ (id : Nat) (es : List (Int × V)),x = .mp id ∧ n ≤ id ∧ id < n' ∧ m' id = some (.mp es) ∧ MapOk p l t k world l.length es ∧ ∀ j,j < n → m' j = m j
def Icb (p : Nat) (l : List Claim) (t : List Mark) (k world : Nat) (m : Mem) (n id : Nat) (e : Nat) (s : S) : Prop := ∃ (i : Nat) (es : List (Int × V)),s.tm 0 = .v (.int .i64 p) ∧ s.tm 11 = .v (.int .i64 (agr p k world)) ∧ s.tm 12 = .mp id ∧ s.tm 26 = .v (.sl (l.map Claim.v)) ∧ s.tm 27 = .v (.int .i64 l.length) ∧ s.tm 28 = .v (.int .i64 i) ∧
 i ≤ l.length ∧ id < s.n ∧ s.m id = some (.mp es) ∧ MapOk p l t k world i es ∧ (∀ j,j < n → s.m j = m j) ∧ (e = 1 → i = l.length)
theorem closedBy_s (p : Nat) (l : List Claim) (t : List Mark) (h : storyOk p l = true) (ht : termOk p t = true) (k world : Nat) (hk : k ≤ 4) (m : Mem) (n : Nat) :
  FnS Tryz.prog 135 m n [.v (.int .i64 p),.v (storyV l),.v (marksV t),.v (.int .i64 (kn k)),.v (.int .i64 world)] (clPost p l t k world m n) := by
 obtain ⟨h1,h4,hc,h6⟩ := allOk_of h
 have hN := pow_small (p := p) (by omega)
 have htb := tableBy_fn p (by omega) (by omega) 180 [.ref [.int .i64 (kn k)],.ref [.int .i64 world]] (fun w => w % 2 ^ k == world) (fun w hw => closed1_fn k world w hk (by omega))
 have e1 : tabN (2 ^ p) (fun w => w % 2 ^ k == world) = agr p k world := rfl
 rw [e1] at htb
 have htt := tableOf_fn p t ht
 have hs := agr_small (p := p) (by omega) k world
 have hw := andN_w (b := termTab p t) hs
 have eG : closG p t k world = decide (andN (agr p k world) (termTab p t) = 0) := rfl
 obtain ⟨B,hB⟩ : ∃ B,termTab p t = B := ⟨_,rfl⟩
 rw [hB] at htt hw eG
 have hcI : ∀ (i : Nat) (hi : i < l.length),closI p l k world i = decide (agr p k world &&& claimTab p l[i] = 0) := fun i hi => by
  unfold closI; rw [List.getElem?_eq_getElem hi]; rfl
 obtain ⟨A,hA⟩ : ∃ A,agr p k world = A := ⟨_,rfl⟩
 rw [hA] at htb hs hw eG
 obtain ⟨C,hC⟩ : ∃ C,andN A B = C := ⟨_,rfl⟩
 rw [hC] at hw eG
 have hcap : ∀ K : Int,kn k = K → True := fun _ _ => trivial
 obtain ⟨K,hK⟩ : ∃ K,kn k = K := ⟨_,rfl⟩
 rw [hK] at htb ⊢
 refine FS (rs := [.tmp 10]) false Tryz.func135 ?_
 simp -dsimp [nes]
 refine callM_ htb (by simp -dsimp [nes]) rfl ?_
 simp -dsimp [nes]
 refine cl htt ?_
 simp -dsimp [hw,nes,V.flat]
 refine twp_loopC (Icb p l t k world m n (n + 1 + 1) 0) (fun s => l.length - natOf (s.tm 28)) (Icb p l t k world m n (n + 1 + 1) 1) ?_ ?_ ?_
 ·refine ⟨0,[(-1,.bool (closG p t k world))],by simp -dsimp,by simp -dsimp [hA],by simp -dsimp,by simp -dsimp,by simp -dsimp,by simp -dsimp,by omega,by simp -dsimp,by simp -dsimp [mset,eG],⟨by simp [mget],fun j hj => absurd hj (by omega)⟩,fun j hj => ?_,by simp⟩
  have f := far hj
  simp -dsimp [f]
 ·rintro s ⟨i,es,t0,t11,t12,t26,t27,t28,hi,hid,hm,hok,hout,hend⟩
  by_cases hlt : i < l.length
  case neg =>
   simp -dsimp [t27,t28,hlt]
   exact ⟨i,es,by simp -dsimp [t0],by simp -dsimp [t11],by simp -dsimp [t12],by simp -dsimp [t26],by simp -dsimp [t27],by simp -dsimp [t28],hi,by simp -dsimp; omega,by simp -dsimp [hm],hok,fun j hj => by simp -dsimp [hout j hj],fun _ => by omega⟩
  rw [hA] at t11
  have hget : (l.map Claim.v)[i]? = some (l[i].v) := by simp [hlt]
  have wi : IntKind.wrap .i64 ((i : Int) + 1) = ((i + 1 : Nat) : Int) := by rw [w64 (by omega) (by omega)]; omega
  have w2 : IntKind.wrap .i64 (-2 - (i : Int)) = -2 - (i : Int) := w64 (by omega) (by omega)
  have hmu1 : l.length - (i + 1) < l.length - i := by omega
  have hct := claimTable_fn p l[i] (hc _ (List.getElem_mem hlt))
  rw [Int.toNat_natCast] at hct
  have hcs := claimTab_small (p := p) (by omega) l[i]
  have hci := hcI i hlt
  rw [hA] at hci
  have f1 := far hid
  obtain ⟨D,hD⟩ : ∃ D,claimTab p l[i] = D := ⟨_,rfl⟩
  rw [hD] at hct hcs hci
  have hand := and_ni (a := A) (b := D) (x := (D : Int)) rfl (by omega) (by omega)
  have hnx : MapOk p l t k world (i + 1) (mset (-2 - (i : Int)) (.bool (decide (A &&& D = 0))) es) := by
   refine ⟨?_,fun j hj => ?_⟩
   ·rw [mget_mset,if_neg (by omega)]; exact hok.1
   ·rw [mget_mset]
    by_cases hji : j = i
    ·subst hji; rw [if_pos rfl,hci]
    ·rw [if_neg (by omega)]; exact hok.2 j (by omega)
  have hdz : decide (((A &&& D : Nat) : Int) = 0) = decide (A &&& D = 0) := by
   rw [Bool.eq_iff_iff]; simp only [decide_eq_true_eq]; omega
  obtain ⟨E,hE⟩ : ∃ E,A &&& D = E := ⟨_,rfl⟩
  have hEA : E ≤ A := by rw [← hE]; exact Nat.and_le_left
  have hand2 : IntKind.wrap .i64 ((A % 2 ^ IntKind.i64.bits &&& D % 2 ^ IntKind.i64.bits : Nat) : Int) = (E : Int) := by
   rw [Nat.mod_eq_of_lt (show A < 2 ^ IntKind.i64.bits by simp [IntKind.bits]; omega),Nat.mod_eq_of_lt (show D < 2 ^ IntKind.i64.bits by simp [IntKind.bits]; omega),hE]
   exact w64 (by omega) (by omega)
  rw [hE] at hand hnx hdz
  simp -dsimp [t26,t27,t28,hlt,hget,t0,t11,t12,claim_cellsE,w2,f1,nes]
  refine cl hct ?_
  simp -dsimp [t0,t11,t12,t26,t27,t28,w2,hand,hm,f1,nes,V.flat,wi,hmu1]
  refine st_out fun s' ht' hm' hn' hu' => ?_
  have q0 := ht' 0
  have q11 := ht' 11
  have q12 := ht' 12
  have q26 := ht' 26
  have q27 := ht' 27
  have q28 := ht' 28
  simp -dsimp [t0,t11,t12,t26,t27] at q0 q11 q12 q26 q27 q28 hm' hn' hu'
  clear ht'
  refine ⟨i + 1,_,q0,by rw [q11,hA],q12,q26,q27,q28,by omega,by omega, ?_,hnx,fun j hj => ?_,by simp⟩
  ·rw [hm']; simp [hand2]
  ·have fj := far (show j < s.n by omega)
   rw [hm']; simp [fj,show ¬ j = n + 1 + 1 by omega,hout j hj]
 ·rintro s ⟨i,es,t0,t11,t12,t26,t27,t28,hi,hid,hm,hok,hout,hend⟩
  have := hend rfl
  subst this
  simp -dsimp [t12]
  exact ⟨n + 1 + 1,es,rfl,by omega,hid,hm,hok,hout⟩
end TL

namespace TL
open Go Go.Proofs
attribute [local simp] marksV storyV codeV Claim.v Place.v numsV
/-- The cells of splits. -/
def spT (sps : List Sp) : List T := sps.flatMap fun s => [.v (.int .i64 s.who),.v (.int .i64 s.no),.v (.int .i64 s.yes)]
@[simp] theorem spT_len (sps : List Sp) : (spT sps).length = sps.length * 3 := by
 induction sps with
 | nil => rfl
 | cons s sps ih => simp only [spT,List.flatMap_cons,List.length_append,List.length_cons,List.length_nil] at ih ⊢; omega
theorem spT_cons (s : Sp) (sps : List Sp) : spT (s :: sps) = .v (.int .i64 s.who) :: .v (.int .i64 s.no) :: .v (.int .i64 s.yes) :: spT sps := rfl
theorem spT_app (a b : List Sp) : spT (a ++ b) = spT a ++ spT b := by simp [spT]
theorem spT_take (sps : List Sp) : (spT sps).take (sps.length * 3) = spT sps := List.take_of_length_le (by simp)
def setNo (i : Nat) (x : Int) (sps : List Sp) : List Sp := sps.modify i fun s => { s with no := x }
def setYes (i : Nat) (x : Int) (sps : List Sp) : List Sp := sps.modify i fun s => { s with yes := x }
@[simp] theorem setNo_len (i : Nat) (x : Int) (sps : List Sp) : (setNo i x sps).length = sps.length := by simp [setNo]
@[simp] theorem setYes_len (i : Nat) (x : Int) (sps : List Sp) : (setYes i x sps).length = sps.length := by simp [setYes]
theorem spT_no : ∀ (sps : List Sp) (i : Nat) (x : Int),(spT sps).set (i * 3 + 1) (.v (.int .i64 x)) = spT (setNo i x sps)
 | [],i,x => by cases i <;> rfl
 | s :: sps,0,x => rfl
 | s :: sps,i + 1,x => by
  have ih := spT_no sps i x
  rw [spT_cons,show (i + 1) * 3 + 1 = (i * 3 + 1) + 1 + 1 + 1 by omega,List.set_cons_succ,List.set_cons_succ,List.set_cons_succ,ih]
  rfl
theorem spT_yes : ∀ (sps : List Sp) (i : Nat) (x : Int),(spT sps).set (i * 3 + 2) (.v (.int .i64 x)) = spT (setYes i x sps)
 | [],i,x => by cases i <;> rfl
 | s :: sps,0,x => rfl
 | s :: sps,i + 1,x => by
  have ih := spT_yes sps i x
  rw [spT_cons,show (i + 1) * 3 + 2 = (i * 3 + 2) + 1 + 1 + 1 by omega,List.set_cons_succ,List.set_cons_succ,List.set_cons_succ,ih]
  rfl
theorem set_mid (a : List Sp) (w x y u v : Int) (b : List Sp) : setYes a.length v (setNo a.length u (a ++ ⟨w,x,y⟩ :: b)) = a ++ ⟨w,u,v⟩ :: b := by
 induction a with
 | nil => rfl
 | cons s a ih =>
  simp only [setYes,setNo,List.cons_append,List.length_cons,List.modify_succ_cons] at ih ⊢
  rw [ih]
/-- The memory of the search. -/
def FpM (m : Mem) (n : Nat) (p : Nat) (l : List Claim) (t : List Mark) (sps : List Sp) : Prop :=
 m 0 = some (.box 3 1 [.v (.int .i64 p)]) ∧ m 1 = some (.box 29 1 [.v (storyV l)]) ∧ m 2 = some (.box 83 1 [.v (marksV t)]) ∧ m 3 = some (.box 89 2 [.v (.int .i64 0),.nil]) ∧
 m 6 = some (.box 149 1 [.fn 134 [.ptr 0 0,.ptr 1 0,.ptr 2 0,.ptr 4 0,.ptr 6 0]]) ∧
 ∃ X,m 4 = some (.box 89 2 [.v (.int .i64 0),X]) ∧ ((X = .nil ∧ sps = []) ∨ ∃ id,X = .sv id 0 sps.length ∧ 8 ≤ id ∧ id < n ∧ m id = some (.box 153 3 (spT sps)))
theorem FpM.keep {m m' : Mem} {n n' p : Nat} {l : List Claim} {t : List Mark} {sps : List Sp} (h : FpM m n p l t sps) (hn : 8 ≤ n) (h1 : n ≤ n') (h2 : ∀ j,j < n → m' j = m j) : FpM m' n' p l t sps := by
 obtain ⟨a0,a1,a2,a3,a6,X,a4,hX⟩ := h
 refine ⟨by rw [h2 0 (by omega),a0],by rw [h2 1 (by omega),a1],by rw [h2 2 (by omega),a2],by rw [h2 3 (by omega),a3],by rw [h2 6 (by omega),a6],X,by rw [h2 4 (by omega),a4], ?_⟩
 rcases hX with hX | ⟨id,b1,b2,b3,b4⟩
 ·exact .inl hX
 ·exact .inr ⟨id,b1,b2,by omega,by rw [h2 id b3,b4]⟩
def fpPost (p : Nat) (l : List Claim) (t : List Mark) (o : Option PT) (sps : List Sp) (n : Nat) (x : T) (m' : Mem) (n' : Nat) : Prop := n ≤ n' ∧ match o with
 | some y => x = .tup [.v (.int .i64 (y.to sps.length)),.v (.bool true)] ∧ FpM m' n' p l t (sps ++ y.row sps.length)
 | none => ∃ (z : Int) (sps' : List Sp),x = .tup [.v (.int .i64 z),.v (.bool false)] ∧ sps.length ≤ sps'.length ∧ FpM m' n' p l t sps'
theorem fpPost_some {p : Nat} {l : List Claim} {t : List Mark} {y : PT} {sps : List Sp} {n : Nat} {x : T} {m' : Mem} {n' L : Nat} (h : fpPost p l t (some y) sps n x m' n') (hL : sps.length = L) :
  ∃ (A : List Sp) (Y : Int),x = .tup [.v (.int .i64 Y),.v (.bool true)] ∧ A = sps ++ y.row L ∧ Y = y.to L ∧ A.length = L + y.size ∧ FpM m' n' p l t A := by
 subst hL
 exact ⟨_,_,h.2.1,rfl,rfl,by rw [List.length_append,PT.row_len],h.2.2⟩
theorem findT_leaf {p : Nat} {l : List Claim} {t : List Mark} {r k world : Nat} {x : PT} (hk : k + r = p) (h : leaf p l t k world = some x) : findT p l t r world = some x := by
  cases r with
  | zero => obtain rfl : k = p := by omega
            exact h
  | succ r => rw [findT,show p - (r + 1) = k by omega,h]
theorem leaf_cases (p : Nat) (l : List Claim) (t : List Mark) (k world : Nat) : (closG p t k world = true ∧ leaf p l t k world = some .goal) ∨ (closG p t k world = false ∧ ∃ i,i < l.length ∧ closI p l k world i = true ∧ (∀ j,j < i → closI p l k world j = false) ∧ leaf p l t k world = some (.claim i)) ∨
  (closG p t k world = false ∧ (∀ j,j < l.length → closI p l k world j = false) ∧ leaf p l t k world = none) := by
 unfold leaf
 rcases ft (closG p t k world) with h | h
 ·rw [if_neg (by simp [h])]
  rcases find_range (f := closI p l k world) l.length with ⟨d,g1,g2,g3,g4⟩ | ⟨g1,g2⟩
  ·exact .inr (.inl ⟨h,d,g2,g3,g4,by rw [g1]; rfl⟩)
  ·exact .inr (.inr ⟨h,g2,by rw [g1]; rfl⟩)
 ·rw [if_pos h]; exact .inl ⟨h,rfl⟩
theorem kn_succ (k : Nat) : (2 ^ k - 1) ||| 2 ^ k = 2 ^ (k + 1) - 1 := by
 have h := Nat.two_pow_pos k
 have h1 := Nat.two_pow_add_eq_or_of_lt (show 2 ^ k - 1 < 2 ^ k by omega) 1
 rw [Nat.mul_one] at h1
 rw [Nat.or_comm,← h1,Nat.pow_succ]; omega
theorem or_pow {world k : Nat} (h : world < 2 ^ k) : world ||| 2 ^ k = world + 2 ^ k := by
 have h1 := Nat.two_pow_add_eq_or_of_lt h 1
 rw [Nat.mul_one] at h1
 rw [Nat.or_comm,← h1]; omega
def Ifp1 (l : List Claim) (k world : Nat) (id : Nat) (m1 : Mem) (n1 hi : Nat) (e : Nat) (s : S) : Prop := ∃ i : Nat,s.tm 0 = .v (.int .i64 (kn k)) ∧ s.tm 1 = .v (.int .i64 world) ∧ s.tm 2 = .ptr 0 0 ∧ s.tm 3 = .ptr 1 0 ∧ s.tm 4 = .ptr 2 0 ∧ s.tm 5 = .ptr 4 0 ∧ s.tm 6 = .ptr 6 0 ∧
 s.tm 11 = .mp id ∧ s.tm 28 = .v (.int .i64 l.length) ∧ s.tm 29 = .v (.int .i64 i) ∧ i ≤ hi ∧ s.m = m1 ∧ s.n = n1 ∧ s.mu = true ∧ (e = 1 → i = l.length)
def Ifp2 (k world : Nat) (m1 : Mem) (n1 : Nat) (e : Nat) (s : S) : Prop := ∃ i : Nat,s.tm 0 = .v (.int .i64 (kn k)) ∧ s.tm 1 = .v (.int .i64 world) ∧ s.tm 2 = .ptr 0 0 ∧ s.tm 3 = .ptr 1 0 ∧ s.tm 4 = .ptr 2 0 ∧ s.tm 5 = .ptr 4 0 ∧ s.tm 6 = .ptr 6 0 ∧
 s.tm 13 = .v (.int .i64 i) ∧ i ≤ k ∧ s.m = m1 ∧ s.n = n1 ∧ s.mu = true ∧ (e = 1 → i = k)
theorem kn_bit (k i : Nat) (hk : k ≤ 4) (hi : i < 60) : IntKind.wrap .i64 (((kn k).fdiv (2 ^ min i IntKind.i64.bits) % 2 ^ IntKind.i64.bits).toNat &&& 1 % 2 ^ IntKind.i64.bits : Nat) = if i < k then 1 else 0 := by
 have hp := pow_small hk
 have h := bit1 (2 ^ k - 1) i (by omega) hi
 rw [show (((2 ^ k - 1 : Nat) : Int)) = kn k from rfl,Nat.testBit_two_pow_sub_one] at h
 rw [h]; simp
theorem find_A (p : Nat) (l : List Claim) (t : List Mark) (h : storyOk p l = true) (ht : termOk p t = true) (r k world : Nat) (sps : List Sp) (m : Mem) (n : Nat) (hk : k + r = p) (hn : 8 ≤ n) (hM : FpM m n p l t sps) (hl : closG p t k world = true ∧ leaf p l t k world = some .goal) :
  FnS Tryz.prog 134 m n [.v (.int .i64 (kn k)),.v (.int .i64 world),.ptr 0 0,.ptr 1 0,.ptr 2 0,.ptr 4 0,.ptr 6 0] (fpPost p l t (findT p l t r world) sps n) := by
 obtain ⟨h1,h4,hc,h6⟩ := allOk_of h
 have hcl := closedBy_s p l t h ht k world (by omega) m n
 rw [findT_leaf hk hl.2]
 have m0 := hM.1
 have m1 := hM.2.1
 have m2 := hM.2.2.1
 refine FS (rs := [.tmp 9,.tmp 10]) true Tryz.func134 ?_
 simp -dsimp [m0,m1,m2]
 refine callS_ hcl ?_
 rintro x m1 n1 ⟨id,es,rfl,hid,hid2,hmid,hok,hout⟩
 have hg := hok.1
 rw [hl.1] at hg
 simp -dsimp [hmid,hg]
 exact ⟨by omega,rfl,by rw [show PT.goal.row sps.length = [] from rfl,List.append_nil]; exact hM.keep hn (by omega) hout⟩
theorem find_B (p : Nat) (l : List Claim) (t : List Mark) (h : storyOk p l = true) (ht : termOk p t = true) (r k world : Nat) (sps : List Sp) (m : Mem) (n : Nat) (hk : k + r = p) (hn : 8 ≤ n) (hM : FpM m n p l t sps) (i0 : Nat) (hg0 : closG p t k world = false) (hi0 : i0 < l.length)
  (hci : closI p l k world i0 = true) (hcj : ∀ j,j < i0 → closI p l k world j = false) (hl : leaf p l t k world = some (.claim i0)) :
  FnS Tryz.prog 134 m n [.v (.int .i64 (kn k)),.v (.int .i64 world),.ptr 0 0,.ptr 1 0,.ptr 2 0,.ptr 4 0,.ptr 6 0] (fpPost p l t (findT p l t r world) sps n) := by
 obtain ⟨h1,h4,hc,h6⟩ := allOk_of h
 have hcl := closedBy_s p l t h ht k world (by omega) m n
 rw [findT_leaf hk hl]
 have m0 := hM.1
 have m1 := hM.2.1
 have m2 := hM.2.2.1
 refine FS (rs := [.tmp 9,.tmp 10]) true Tryz.func134 ?_
 simp -dsimp [m0,m1,m2]
 refine callS_ hcl ?_
 rintro x m1 n1 ⟨id,es,rfl,hid,hid2,hmid,hok,hout⟩
 have hM1 := hM.keep hn (show n ≤ n1 by omega) hout
 have q1 := hM1.2.1
 have hg := hok.1
 rw [hg0] at hg
 simp -dsimp [hmid,hg,q1]
 refine twp_loopC (Ifp1 l k world id m1 n1 i0 0) (fun s => l.length - natOf (s.tm 29)) (fun _ => False) ?_ ?_ ?_
 ·exact ⟨0,by simp -dsimp,by simp -dsimp,by simp -dsimp,by simp -dsimp,by simp -dsimp,by simp -dsimp,by simp -dsimp,by simp -dsimp,by simp -dsimp,by simp -dsimp,by omega,by simp -dsimp,by simp -dsimp,by simp -dsimp,by simp⟩
 ·rintro s ⟨i,t0,t1,t2,t3,t4,t5,t6,t11,t28,t29,hi,hm,hsn,hmu,hend⟩
  have hlt : i < l.length := by omega
  have wi : IntKind.wrap .i64 ((i : Int) + 1) = ((i + 1 : Nat) : Int) := by rw [w64 (by omega) (by omega)]; omega
  have w2 : IntKind.wrap .i64 (-2 - (i : Int)) = -2 - (i : Int) := w64 (by omega) (by omega)
  have hmu1 : l.length - (i + 1) < l.length - i := by omega
  have hmi := hok.2 i hlt
  by_cases he : i = i0
  ·subst he
   rw [hci] at hmi
   simp -dsimp [t11,t28,t29,hlt,hm,hmid,w2,hmi]
   exact ⟨by omega,rfl,by rw [show (PT.claim i).row sps.length = [] from rfl,List.append_nil]; simpa -dsimp [hm,hsn] using hM1⟩
  ·rw [hcj i (by omega)] at hmi
   simp -dsimp [t11,t28,t29,hlt,hm,hmid,w2,hmi,wi,hmu1]
   exact ⟨i + 1,by simp -dsimp [t0],by simp -dsimp [t1],by simp -dsimp [t2],by simp -dsimp [t3],by simp -dsimp [t4],by simp -dsimp [t5],by simp -dsimp [t6],by simp -dsimp [t11],by simp -dsimp [t28],by simp -dsimp,by omega,by simp -dsimp [hm],by simp -dsimp [hsn],by simp -dsimp [hmu],by simp⟩
 ·intro s hs; exact hs.elim
theorem find_C0 (p : Nat) (l : List Claim) (t : List Mark) (h : storyOk p l = true) (ht : termOk p t = true) (k world : Nat) (sps : List Sp) (m : Mem) (n : Nat) (hk : k = p) (hn : 8 ≤ n) (hM : FpM m n p l t sps) (hg0 : closG p t k world = false)
  (hcj : ∀ j,j < l.length → closI p l k world j = false) (hl : leaf p l t k world = none) :
  FnS Tryz.prog 134 m n [.v (.int .i64 (kn k)),.v (.int .i64 world),.ptr 0 0,.ptr 1 0,.ptr 2 0,.ptr 4 0,.ptr 6 0] (fpPost p l t (findT p l t 0 world) sps n) := by
 have e0 : findT p l t 0 world = none := by rw [findT]; rw [hk] at hl; exact hl
 rw [e0]
 have hkp : p ≤ k := by omega
 have hkp2 : (p : Int) ≤ k := by omega
 obtain ⟨h1,h4,hc,h6⟩ := allOk_of h
 have hcl := closedBy_s p l t h ht k world (by omega) m n
 have m0 := hM.1
 have m1 := hM.2.1
 have m2 := hM.2.2.1
 refine FS (rs := [.tmp 9,.tmp 10]) true Tryz.func134 ?_
 simp -dsimp [m0,m1,m2]
 refine callS_ hcl ?_
 rintro x m1 n1 ⟨id,es,rfl,hid,hid2,hmid,hok,hout⟩
 have hM1 := hM.keep hn (show n ≤ n1 by omega) hout
 have q0 := hM1.1
 have q1 := hM1.2.1
 have q6 := hM1.2.2.2.2.1
 have hXX := hM1.2.2.2.2.2
 have hg := hok.1
 rw [hg0] at hg
 simp -dsimp [hmid,hg,q1]
 refine twp_loopC (Ifp1 l k world id m1 n1 l.length 0) (fun s => l.length - natOf (s.tm 29)) (Ifp1 l k world id m1 n1 l.length 1) ?_ ?_ ?_
 ·exact ⟨0,by simp -dsimp,by simp -dsimp,by simp -dsimp,by simp -dsimp,by simp -dsimp,by simp -dsimp,by simp -dsimp,by simp -dsimp,by simp -dsimp,by simp -dsimp,by omega,by simp -dsimp,by simp -dsimp,by simp -dsimp,by simp⟩
 ·rintro s ⟨i,t0,t1,t2,t3,t4,t5,t6,t11,t28,t29,hi,hm,hsn,hmu,hend⟩
  by_cases hlt : i < l.length
  case neg =>
   simp -dsimp [t28,t29,hlt]
   exact ⟨i,by simp -dsimp [t0],by simp -dsimp [t1],by simp -dsimp [t2],by simp -dsimp [t3],by simp -dsimp [t4],by simp -dsimp [t5],by simp -dsimp [t6],by simp -dsimp [t11],by simp -dsimp [t28],by simp -dsimp [t29],by omega,by simp -dsimp [hm],by simp -dsimp [hsn],by simp -dsimp [hmu],fun _ => by omega⟩
  have wi : IntKind.wrap .i64 ((i : Int) + 1) = ((i + 1 : Nat) : Int) := by rw [w64 (by omega) (by omega)]; omega
  have w2 : IntKind.wrap .i64 (-2 - (i : Int)) = -2 - (i : Int) := w64 (by omega) (by omega)
  have hmu1 : l.length - (i + 1) < l.length - i := by omega
  have hmi := hok.2 i hlt
  rw [hcj i (by omega)] at hmi
  simp -dsimp [t11,t28,t29,hlt,hm,hmid,w2,hmi,wi,hmu1]
  exact ⟨i + 1,by simp -dsimp [t0],by simp -dsimp [t1],by simp -dsimp [t2],by simp -dsimp [t3],by simp -dsimp [t4],by simp -dsimp [t5],by simp -dsimp [t6],by simp -dsimp [t11],by simp -dsimp [t28],by simp -dsimp,by omega,by simp -dsimp [hm],by simp -dsimp [hsn],by simp -dsimp [hmu],by simp⟩
 rintro s ⟨i,t0,t1,t2,t3,t4,t5,t6,t11,t28,t29,hi,hm,hsn,hmu,hend⟩
 clear hend t29 t28 t11 hi
 simp -dsimp
 refine twp_loopC (Ifp2 k world m1 n1 0) (fun s => k - natOf (s.tm 13)) (Ifp2 k world m1 n1 1) ?_ ?_ ?_
 ·exact ⟨0,by simp -dsimp [t0],by simp -dsimp [t1],by simp -dsimp [t2],by simp -dsimp [t3],by simp -dsimp [t4],by simp -dsimp [t5],by simp -dsimp [t6],by simp -dsimp,by omega,by simp -dsimp [hm],by simp -dsimp [hsn],by simp -dsimp [hmu],by simp⟩
 ·rintro s ⟨i,t0,t1,t2,t3,t4,t5,t6,t13,hi,hm,hsn,hmu,hend⟩
  have hb := kn_bit k i (by omega) (by omega)
  have z1 : ¬ (i : Int) < 0 := by omega
  by_cases hlt : i < k
  case neg =>
   rw [if_neg hlt] at hb
   simp -dsimp [t0,t13,hb,z1]
   exact ⟨i,by simp -dsimp [t0],by simp -dsimp [t1],by simp -dsimp [t2],by simp -dsimp [t3],by simp -dsimp [t4],by simp -dsimp [t5],by simp -dsimp [t6],by simp -dsimp [t13],by omega,by simp -dsimp [hm],by simp -dsimp [hsn],by simp -dsimp [hmu],fun _ => by omega⟩
  have wi : IntKind.wrap .i64 ((i : Int) + 1) = ((i + 1 : Nat) : Int) := by rw [w64 (by omega) (by omega)]; omega
  have hmu1 : k - (i + 1) < k - i := by omega
  rw [if_pos hlt] at hb
  simp -dsimp [t0,t13,hb,z1,wi,hmu1]
  exact ⟨i + 1,by simp -dsimp [t0],by simp -dsimp [t1],by simp -dsimp [t2],by simp -dsimp [t3],by simp -dsimp [t4],by simp -dsimp [t5],by simp -dsimp [t6],by simp -dsimp,by omega,by simp -dsimp [hm],by simp -dsimp [hsn],by simp -dsimp [hmu],by simp⟩
 rintro s ⟨i,t0,t1,t2,t3,t4,t5,t6,t13,hi,hm,hsn,hmu,hend⟩
 have hik : k = i := (hend rfl).symm
 subst hik
 clear hend hi
 obtain ⟨X,q4,hX⟩ := hXX
 rcases hX with ⟨rfl,hs⟩ | ⟨id2,rfl,b1,b2,b3⟩
 ·simp -dsimp [t0,t1,t2,t3,t4,t5,t6,t13,hm,q0,q4,hkp,hkp2]
  exact ⟨by omega,0,sps,rfl,by omega,by simpa -dsimp [hm,hsn] using hM1⟩
 ·simp -dsimp [t0,t1,t2,t3,t4,t5,t6,t13,hm,q0,q4,hkp,hkp2]
  exact ⟨by omega,0,sps,rfl,by omega,by simpa -dsimp [hm,hsn] using hM1⟩
end TL
