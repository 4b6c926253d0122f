/- TL: parts FnsJD, FnsJE, FnsJF, FnsJGa, FnsJGb, FnsJGc, FnsJGd, FnsJG, FnsP3, FnsS1, FnsJH, TlPure, FnsIT. -/
import Derived.Test.YtnimfdpinpggdaaGreatDoorHj
import Derived.Test.YtnimfdpinpggdaaGreatDoorHf
import Derived.Test.YtnimfdpinpggdaaGreatDoorHh
import Derived.Test.YtnimfdpinpggdaaGreatDoorHi
import Derived.Test.YtnimfdpinpggdaaGreatDoorHc
set_option linter.unusedSimpArgs false
set_option linter.unusedVariables false
set_option maxRecDepth 100000
set_option maxHeartbeats 4000000
set_option pp.maxSteps 1500
namespace TL
open Go Go.Proofs
attribute [local simp] marksV storyV codeV Claim.v Place.v Desk.v
theorem OwnPl.wide {m : Mem} {l : List Place} {ss : List T} {lo hi lo' hi' : Nat} (h : OwnPl m lo hi l ss) (h1 : lo' ≤ lo) (h2 : hi ≤ hi') : OwnPl m lo' hi' l ss := by
 induction l generalizing ss lo lo' with
 | nil =>
  cases ss with
  | nil => have : lo ≤ hi := h; show lo' ≤ hi'; omega
  | cons st ss => exact h.elim
 | cons p l ih =>
  cases ss with
  | nil => exact h.elim
  | cons st ss =>
   obtain ⟨mid,js,g1,g2,g3⟩ := h
   exact ⟨mid,js,by omega,g2.wide h1 (Nat.le_refl _) fun _ _ _ => rfl,ih g3 (Nat.le_refl _)⟩
theorem PastO.keep {m m' : Mem} {b hi b' hi' : Nat} {P : T} {l : List Place} {ss : List T} (h : PastO m b hi P l ss) (h1 : b' ≤ b) (h2 : hi ≤ hi') (hk : ∀ j,b ≤ j → j < hi → m' j = m j) : PastO m' b' hi' P l ss := by
 rcases h with h | ⟨id,ex,e1,e2,e3,e4,e5⟩
 ·exact .inl h
 ·exact .inr ⟨id,ex,e1,by omega,by omega,e4,by rw [hk id e2 e3,e5]⟩
/-- A desk of one's own: three parts of memory, apart from each other. -/
def OwnD (m : Mem) (lo hi : Nat) (sn P : T) (d : Desk) : Prop := ∃ (jn : List Nat) (ss : List T) (a1 b1 a2 b2 a3 b3 : Nat),OwnRowC m a1 b1 sn d.now.story jn ∧ OwnPl m a2 b2 d.past ss ∧ PastO m a3 b3 P d.past ss ∧ lo ≤ a1 ∧ a1 ≤ b1 ∧ b1 ≤ hi ∧ lo ≤ a2 ∧ b2 ≤ hi ∧ lo ≤ a3 ∧ a3 ≤ b3 ∧ b3 ≤ hi ∧ (b1 ≤ a2 ∨ b2 ≤ a1) ∧ (b1 ≤ a3 ∨ b3 ≤ a1) ∧ (b2 ≤ a3 ∨ b3 ≤ a2)
def dT (d : Desk) (sn P : T) : T := .agg [.v (.int .i64 d.now.people),sn,P]
theorem OwnD.keep {m m' : Mem} {lo hi lo' hi' : Nat} {sn P : T} {d : Desk} (h : OwnD m lo hi sn P d) (h1 : lo' ≤ lo) (h2 : hi ≤ hi') (hk : ∀ j,lo ≤ j → j < hi → m' j = m j) : OwnD m' lo' hi' sn P d := by
 obtain ⟨jn,ss,a1,b1,a2,b2,a3,b3,r1,r2,r3,c1,c2,c3,c4,c5,c6,c7,c8,c9,c10,c11⟩ := h
 exact ⟨jn,ss,a1,b1,a2,b2,a3,b3,r1.keep fun j j1 j2 => hk j (by omega) (by omega),r2.keep fun j j1 j2 => hk j (by omega) (by omega),r3.keep (Nat.le_refl _) (Nat.le_refl _) fun j j1 j2 => hk j (by omega) (by omega),by omega,by omega,by omega,by omega,by omega,by omega,by omega,by omega,c9,c10,c11⟩
theorem OwnD.facts {m : Mem} {lo hi : Nat} {sn P : T} {d : Desk} (h : OwnD m lo hi sn P d) : sn.cell = true ∧ sn.cells = [sn] ∧ P.cell = true ∧ P.cells = [P] := by
 obtain ⟨jn,ss,a1,b1,a2,b2,a3,b3,r1,r2,r3,_⟩ := h
 exact ⟨r1.cell,r1.cells,r3.cell,r3.cells⟩
/-! Lent. -/
theorem pcT_bor {m : Mem} (d : Nat) : ∀ {l : List Place} {ss : List T} {lo hi : Nat},OwnPl m lo hi l ss → mapO (bor true m (d + 2)) (pcT l ss) = some (l.flatMap fun p => p.v.cells)
 | [],[],lo,hi,_ => rfl
 | p :: l,st :: ss,lo,hi,⟨mid,js,h1,h2,h3⟩ => by
  have e := h2.bor d
  have e2 := pcT_bor d h3
  simp [mapO,e,e2,V.cells]
 | [],st :: ss,_,_,h => h.elim
 | p :: l,[],_,_,h => h.elim
theorem plV_cell (l : List Place) : ∀ x ∈ (l.flatMap fun p => p.v.cells),x.cell = true := by
 intro x hx
 obtain ⟨p,_,hp⟩ := List.mem_flatMap.1 hx
 simp [V.cells] at hp
 rcases hp with rfl | rfl <;> rfl
theorem plV_chunk (l : List Place) : chunk 2 l.length (l.flatMap fun p => p.v.cells) = l.map Place.v := by
 induction l with
 | nil => rfl
 | cons x xs ih => simp [chunk,V.cells]; simpa [V.cells] using ih
theorem PastO.bor {m : Mem} {lo hi b hh : Nat} {P : T} {l : List Place} {ss : List T} (h : PastO m b hh P l ss) (hp : OwnPl m lo hi l ss) (d : Nat) : TL.bor true m (d + 3) P = some (.sl (l.map Place.v)) := by
 rcases h with ⟨rfl,rfl,rfl⟩ | ⟨i,ex,rfl,_,_,_,h⟩
 ·rfl
 ·have hl := pcT_len l ss hp.len
  have c1 : 0 + l.length * 2 ≤ (pcT l ss ++ ex).length := by simp; omega
  have e1 : List.take (l.length * 2) (List.drop 0 (pcT l ss ++ ex)) = pcT l ss := by rw [List.drop_zero,← hl]; exact List.take_left
  show (match m i with | some (.box _ z cs) => tst (0 + l.length * z ≤ cs.length) (obind (mapO (TL.bor true m (d + 2)) ((cs.drop 0).take (l.length * z))) fun xs => tst (∀ x ∈ xs,x.cell = true) (some (V.sl (chunk z l.length xs)))) | _ => none) = _
  rw [h]
  show tst (0 + l.length * 2 ≤ (pcT l ss ++ ex).length) (obind (mapO (TL.bor true m (d + 2)) (((pcT l ss ++ ex).drop 0).take (l.length * 2))) fun xs => tst (∀ x ∈ xs,x.cell = true) (some (V.sl (chunk 2 l.length xs)))) = _
  rw [tst_pos c1,e1,pcT_bor d hp,obind_some,tst_pos (plV_cell l),plV_chunk]
theorem OwnD.bor {m : Mem} {lo hi : Nat} {sn P : T} {d : Desk} (h : OwnD m lo hi sn P d) : TL.bor true m 3 sn = some (.sl (d.now.story.map Claim.v)) ∧ TL.bor true m 3 P = some (.sl (d.past.map Place.v)) := by
 obtain ⟨jn,ss,a1,b1,a2,b2,a3,b3,r1,r2,r3,_⟩ := h
 exact ⟨r1.bor 1,r3.bor r2 0⟩
/-! The part of memory that names nothing but memory. -/
def flM (m : Mem) : Mem := fun i => match m i with
 | some b => if b.fl = true then some b else none
 | none => none
theorem flM_le (m : Mem) : LeM (flM m) m := fun i b hb => by
 unfold flM at hb
 split at hb
 ·rename_i c hc; split at hb
  ·cases hb; exact hc
  ·cases hb
 ·cases hb
theorem flM_fl (m : Mem) : ∀ i b,flM m i = some b → b.fl = true := fun i b hb => by
 unfold flM at hb
 split at hb
 ·split at hb
  ·cases hb; assumption
  ·cases hb
 ·cases hb
theorem flM_of {m : Mem} {i : Nat} {b : Blk} (h : m i = some b) (hf : b.fl = true) : flM m i = some b := by
 unfold flM; rw [h]; exact if_pos hf
theorem Says.flat {m : Mem} : ∀ {l : List Claim} {js : List Nat},Says m l js → Says (flM m) l js
 | [],[],_ => trivial
 | c :: l,j :: js,h => ⟨flM_of h.1 (mkT_fl _),h.2.flat⟩
 | [],j :: js,h => h.elim
 | c :: l,[],h => h.elim
theorem OwnRowC.flat {m : Mem} {lo hi : Nat} {st : T} {l : List Claim} {js : List Nat} (h : OwnRowC m lo hi st l js) : OwnRowC (flM m) lo hi st l js := by
 obtain ⟨h1,h2,h3,h4⟩ := h
 refine ⟨h1,h2,h3.flat, ?_⟩
 rcases h4 with h4 | ⟨id,e,i0,i1,i2,i3⟩
 ·exact .inl h4
 ·exact .inr ⟨id,e,i0,i1,i2,flM_of i3 (clT_fl _ _)⟩
theorem OwnPl.flat {m : Mem} : ∀ {l : List Place} {ss : List T} {lo hi : Nat},OwnPl m lo hi l ss → OwnPl (flM m) lo hi l ss
 | [],[],lo,hi,h => h
 | p :: l,st :: ss,lo,hi,⟨mid,js,h1,h2,h3⟩ => ⟨mid,js,h1,h2.flat,h3.flat⟩
 | [],st :: ss,_,_,h => h.elim
 | p :: l,[],_,_,h => h.elim
theorem OwnPl.fl {m : Mem} : ∀ {l : List Place} {ss : List T} {lo hi : Nat},OwnPl m lo hi l ss → flT (pcT l ss) = true
 | [],[],lo,hi,h => rfl
 | p :: l,st :: ss,lo,hi,⟨mid,js,h1,h2,h3⟩ => by simp [h2.fl,h3.fl,V.flat]
 | [],st :: ss,_,_,h => h.elim
 | p :: l,[],_,_,h => h.elim
theorem PastO.flat {m : Mem} {lo hi b hh : Nat} {P : T} {l : List Place} {ss : List T} (h : PastO m b hh P l ss) (hp : OwnPl m lo hi l ss) : PastO (flM m) b hh P l ss := by
 rcases h with h | ⟨id,ex,e1,e2,e3,e4,e5⟩
 ·exact .inl h
 ·exact .inr ⟨id,ex,e1,e2,e3,e4,flM_of e5 (by show flT _ = true; rw [flT_append,hp.fl,e4]; rfl)⟩
theorem OwnD.flat {m : Mem} {lo hi : Nat} {sn P : T} {d : Desk} (h : OwnD m lo hi sn P d) : OwnD (flM m) lo hi sn P d ∧ (dT d sn P).fl = true := by
 obtain ⟨jn,ss,a1,b1,a2,b2,a3,b3,r1,r2,r3,c⟩ := h
 refine ⟨⟨jn,ss,a1,b1,a2,b2,a3,b3,r1.flat,r2.flat,r3.flat r2,c⟩, ?_⟩
 have e : P.fl = true := by rcases r3 with ⟨rfl,_⟩ | ⟨_,_,rfl,_⟩ <;> rfl
 simp [dT,r1.fl,e,V.flat]
/-! Moved up. -/
theorem mkT_up (k : Nat) (l : List Mark) : upT k (mkT l) = mkT l := by
 induction l with
 | nil => rfl
 | cons x xs ih => simp [mkT,ih]
theorem clT_up (k : Nat) : ∀ (l : List Claim) (js : List Nat),upT k (clT l js) = clT l (js.map (· + k))
 | [],js => by simp
 | c :: l,[] => by simp [clT]
 | c :: l,j :: js => by simp [clT_up k l js]
theorem Says.up {n : Nat} {m m' : Mem} : ∀ {l : List Claim} {js : List Nat},Says m' l js → Says (catM n m m') l (js.map (· + n))
 | [],[],_ => trivial
 | c :: l,j :: js,h => ⟨by rw [catM_hi h.1,up_box,mkT_up],h.2.up⟩
 | [],j :: js,h => h.elim
 | c :: l,[],h => h.elim
theorem OwnRowC.up {n : Nat} {m m' : Mem} {lo hi : Nat} {st : T} {l : List Claim} {js : List Nat} (h : OwnRowC m' lo hi st l js) : OwnRowC (catM n m m') (lo + n) (hi + n) (st.up n) l (js.map (· + n)) := by
  obtain ⟨h1,h2,h3,h4⟩ := h
  refine ⟨fun j hj => ?_, ?_,h3.up, ?_⟩
  · obtain ⟨i,hi,rfl⟩ := List.mem_map.1 hj
    have := h1 i hi; omega
  · exact List.pairwise_map.2 (List.Pairwise.imp (fun {a b} h e => h (by omega)) h2)
  · rcases h4 with ⟨rfl,rfl,rfl⟩ | ⟨id,rfl,i0,i1,i2,i3⟩
    · exact .inl ⟨rfl,rfl,rfl⟩
    · refine .inr ⟨id + n,rfl,by omega,by omega,fun h => ?_,by rw [catM_hi i3,up_box,clT_up]⟩
      obtain ⟨i,hi,e⟩ := List.mem_map.1 h
      exact i2 (by have : i = id := by omega
                   rw [← this]; exact hi)
theorem pcT_up (k : Nat) : ∀ (l : List Place) (ss : List T),upT k (pcT l ss) = pcT l (upT k ss)
 | [],ss => by simp
 | p :: l,[] => by simp [pcT]
 | p :: l,st :: ss => by simp [pcT_up k l ss]
theorem OwnPl.up {n : Nat} {m m' : Mem} : ∀ {l : List Place} {ss : List T} {lo hi : Nat},OwnPl m' lo hi l ss → OwnPl (catM n m m') (lo + n) (hi + n) l (upT n ss)
 | [],[],lo,hi,h => by have : lo ≤ hi := h; show lo + n ≤ hi + n; omega
 | p :: l,st :: ss,lo,hi,⟨mid,js,h1,h2,h3⟩ => ⟨mid + n,_,by omega,h2.up,h3.up⟩
 | [],st :: ss,_,_,h => h.elim
 | p :: l,[],_,_,h => h.elim
mutual
theorem up_fl (k : Nat) : ∀ (x : T),x.fl = true → (x.up k).fl = true
 | .sv _ _ _,_ => rfl
 | .ptr _ _,_ => rfl
 | .agg cs,h => upT_fl k cs h
 | .tup cs,h => upT_fl k cs h
 | .v _,h => h
 | .nil,_ => rfl
 | .loc _,h => by cases h
 | .fptr _ _,h => by cases h
 | .fn _ _,h => by cases h
theorem upT_fl (k : Nat) : ∀ (cs : List T),flT cs = true → flT (upT k cs) = true
 | [],_ => rfl
 | x :: xs,h => by
  simp only [flT_cons,Bool.and_eq_true] at h
  simp only [upT_cons,flT_cons,Bool.and_eq_true]
  exact ⟨up_fl k x h.1,upT_fl k xs h.2⟩
end
theorem PastO.up {n : Nat} {m m' : Mem} {b hh : Nat} {P : T} {l : List Place} {ss : List T} (h : PastO m' b hh P l ss) : PastO (catM n m m') (b + n) (hh + n) (P.up n) l (upT n ss) := by
 rcases h with ⟨rfl,rfl,rfl⟩ | ⟨id,ex,rfl,e2,e3,e4,e5⟩
 ·exact .inl ⟨rfl,rfl,rfl⟩
 ·exact .inr ⟨id + n,upT n ex,rfl,by omega,by omega,upT_fl n _ e4,by rw [catM_hi e5,up_box,upT_append,pcT_up]⟩
theorem OwnD.up {n : Nat} {m m' : Mem} {lo hi : Nat} {sn P : T} {d : Desk} (h : OwnD m' lo hi sn P d) : OwnD (catM n m m') (lo + n) (hi + n) (sn.up n) (P.up n) d := by
 obtain ⟨jn,ss,a1,b1,a2,b2,a3,b3,r1,r2,r3,c1,c2,c3,c4,c5,c6,c7,c8,c9,c10,c11⟩ := h
 exact ⟨_,_,a1 + n,b1 + n,a2 + n,b2 + n,a3 + n,b3 + n,r1.up,r2.up,r3.up,by omega,by omega,by omega,by omega,by omega,by omega,by omega,by omega,by omega,by omega,by omega⟩
theorem OwnD.none {m : Mem} {lo hi : Nat} : lo ≤ hi → OwnD m lo hi .nil .nil noDeskV := fun h => ⟨[],[],lo,lo,lo,lo,lo,lo,⟨by simp,List.nodup_nil,trivial,.inl ⟨rfl,rfl,rfl⟩⟩,Nat.le_refl _,.inl ⟨rfl,rfl,rfl⟩,by omega,by omega,by omega,by omega,by omega,by omega,by omega,by omega,by omega,by omega,by omega⟩
/-- A copied desk. -/
theorem DeepD.own {d : Desk} {m m' : Mem} {n n' : Nat} {t : T} (h : DeepD d m n t m' n') : n ≤ n' ∧ (∀ j,j < n → m' j = m j) ∧ ∃ sn P,t = dT d sn P ∧ OwnD m' n n' sn P d := by
 obtain ⟨h1,h2,sn,P,jn,ss,a,b,e,r1,c1,r2,c2,r3⟩ := h
 have := r2.le
 refine ⟨h1,h2,sn,P,e,jn,ss,n,a,a,b,b,n',r1,r2,r3, ?_, ?_, ?_, ?_, ?_, ?_, ?_, ?_, ?_, ?_, ?_⟩ <;> omega
end TL

namespace TL
open Go Go.Proofs
attribute [local simp] marksV storyV codeV Claim.v Place.v Desk.v
def mkp (k : Int) : List Place → List Place
 | [] => []
 | p :: l => ⟨k,mkc (k + 1) p.story⟩ :: mkp (mkn (k + 1) p.story) l
def mkpn (k : Int) : List Place → Int
 | [] => k
 | p :: l => mkpn (mkn (k + 1) p.story) l
theorem mkpn_ge : ∀ (l : List Place) (k : Int),k + l.length ≤ mkpn k l
 | [],k => by simp [mkpn]
 | p :: l,k => by have := mkpn_ge l (mkn (k + 1) p.story); have := mkn_ge p.story (k + 1); simp only [mkpn,List.length_cons]; omega
@[simp] theorem mkp_length : ∀ (l : List Place) (k : Int),(mkp k l).length = l.length
 | [],k => rfl
 | p :: l,k => by simp [mkp,mkp_length l]
def mkD (k : Int) (d : Desk) : Desk := ⟨⟨d.now.people,mkc k d.now.story⟩,mkp (mkn k d.now.story) d.past⟩
def mkDn (k : Int) (d : Desk) : Int := mkpn (mkn k d.now.story) d.past
theorem mkn_sum : ∀ (l : List Claim) (k : Int),mkn k l ≤ k + 2 * (l.length + saysSum l)
 | [],k => by simp [mkn,saysSum]
 | c :: l,k => by
  have := mkn_sum l (k + 1 + 2 * c.says.length)
  have e : saysSum (c :: l) = c.says.length + saysSum l := by simp [saysSum]
  simp only [mkn,List.length_cons,e]; omega
theorem mkpn_sum : ∀ (l : List Place) (k : Int),mkpn k l ≤ k + 2 * (l.length + bulkSum l)
 | [],k => by simp [mkpn,bulkSum]
 | p :: l,k => by
  have h1 := mkpn_sum l (mkn (k + 1) p.story)
  have h2 := mkn_sum p.story (k + 1)
  have e : bulkSum (p :: l) = p.bulk + bulkSum l := by simp [bulkSum]
  have e2 : p.bulk = p.story.length + saysSum p.story := rfl
  simp only [mkpn,List.length_cons,e,e2]; omega
theorem mkDn_sum (d : Desk) (k : Int) : mkn k d.now.story ≤ k + 2 * d.bulk ∧ mkDn k d ≤ k + 2 * d.bulk ∧ k ≤ mkn k d.now.story ∧ mkn k d.now.story ≤ mkDn k d := by
 have h1 := mkpn_sum d.past (mkn k d.now.story)
 have h2 := mkn_sum d.now.story k
 have h3 := mkpn_ge d.past (mkn k d.now.story)
 have h4 := mkn_ge d.now.story k
 have e : d.bulk = (d.now.story.length + saysSum d.now.story) + (d.past.length + bulkSum d.past) := rfl
 unfold mkDn
 omega
theorem markClaimS_own (l : List Claim) (k : Int) (hk0 : 0 ≤ k) (hk : mkn k l ≤ 100000000000000) (hl : ∀ c ∈ l,c.says.length ≤ 1000000000) (m : Mem) (lo hi n : Nat) (hlo : hi ≤ n) (st : T) (js : List Nat) (h : OwnRowC m lo hi st l js) :
  FnS Tryz.prog 90 m n [st,.v (.int .i64 k)] (fun t m' n' => t = .v (.int .i64 (mkn k l)) ∧ n ≤ n' ∧ OwnRowC m' lo hi st (mkc k l) js ∧ ∀ j,j < n → j < lo ∨ hi ≤ j → m' j = m j) := by
 obtain ⟨h1,h2,h3,h4⟩ := h
 rcases h4 with ⟨rfl,rfl,rfl⟩ | ⟨id,rfl,i0,i1,i2,i3⟩
 ·refine (markClaimS_nil m n k).weak ?_
  rintro t m' n' ⟨rfl,hn,rfl⟩
  exact ⟨rfl,hn,⟨by simp,List.nodup_nil,trivial,.inl ⟨rfl,rfl,rfl⟩⟩,fun j _ _ => rfl⟩
 ·refine (markClaimS_fn l js k hk0 hk m n id (by omega) (fun j hj => by have := (h1 j hj).2; omega) h2 i2 i3 h3 hl).weak ?_
  rintro t m' n' ⟨rfl,hn,e1,e2,e3⟩
  refine ⟨rfl,hn,⟨h1,h2,e2,.inr ⟨id,by simp,i0,i1,i2,e1⟩⟩,fun j j1 j2 => ?_⟩
  have q1 : j ∉ js := fun hj => by have := h1 j hj; omega
  exact e3 j j1 (by omega) q1
theorem OwnPl.parts {m : Mem} : ∀ {A B : List Place} {sa sb : List T} {lo hi : Nat},A.length = sa.length → (OwnPl m lo hi (A ++ B) (sa ++ sb) ↔ ∃ mid,OwnPl m lo mid A sa ∧ OwnPl m mid hi B sb)
 | [],B,[],sb,lo,hi,_ => ⟨fun h => ⟨lo,Nat.le_refl _,h⟩,fun ⟨mid,h1,h2⟩ => h2.wide h1 (Nat.le_refl _)⟩
 | p :: A,B,st :: sa,sb,lo,hi,h => by
  have ih := fun lo => OwnPl.parts (m := m) (A := A) (B := B) (sa := sa) (sb := sb) (lo := lo) (hi := hi) (by simpa using h)
  constructor
  ·rintro ⟨mid,js,h1,h2,h3⟩
   obtain ⟨mid2,h4,h5⟩ := (ih mid).1 h3
   exact ⟨mid2,⟨mid,js,h1,h2,h4⟩,h5⟩
  ·rintro ⟨mid2,⟨mid,js,h1,h2,h4⟩,h5⟩
   exact ⟨mid,js,h1,h2,(ih mid).2 ⟨mid2,h4,h5⟩⟩
 | [],B,st :: sa,sb,lo,hi,h => by simp at h
 | p :: A,B,[],sb,lo,hi,h => by simp at h
def Imp (id : Nat) (l : List Place) (ss ex : List T) (k : Int) (m0 : Mem) (n0 lo hi : Nat) (e : Nat) (s : S) : Prop := ∃ (i mid : Nat) (A B : List Place) (sa sb : List T) (kk : Int),s.tm 0 = .sv id 0 l.length ∧ s.tm 1 = .v (.int .i64 kk) ∧ s.tm 5 = .v (.int .i64 i) ∧ A.length = i ∧ sa.length = i ∧ i + B.length = l.length ∧ sa ++ sb = ss ∧
 n0 ≤ s.n ∧ s.m id = some (.box 31 2 (pcT (A ++ B) ss ++ ex)) ∧ OwnPl s.m lo mid A sa ∧ OwnPl s.m mid hi B sb ∧ mkp k l = A ++ mkp kk B ∧ mkpn k l = mkpn kk B ∧ 0 ≤ kk ∧ (∀ j,j < n0 → j ≠ id → j < lo ∨ hi ≤ j → s.m j = m0 j) ∧ (∀ p ∈ B,∀ c ∈ p.story,c.says.length ≤ 1000000000) ∧ (e = 1 → B = [])
theorem markPlaceS_own (l : List Place) (ss ex : List T) (k : Int) (hk0 : 0 ≤ k) (hk : mkpn k l ≤ 100000000000000) (m : Mem) (n id lo hi : Nat) (hid : id < n) (hhi : hi ≤ n) (hin : id < lo ∨ hi ≤ id) (hm : m id = some (.box 31 2 (pcT l ss ++ ex))) (hp : OwnPl m lo hi l ss) (hl : ∀ p ∈ l,∀ c ∈ p.story,c.says.length ≤ 1000000000) :
  FnS Tryz.prog 36 m n [.sv id 0 l.length,.v (.int .i64 k)] (fun t m' n' => t = .v (.int .i64 (mkpn k l)) ∧ n ≤ n' ∧ m' id = some (.box 31 2 (pcT (mkp k l) ss ++ ex)) ∧ OwnPl m' lo hi (mkp k l) ss ∧ ∀ j,j < n → j ≠ id → j < lo ∨ hi ≤ j → m' j = m j) := by
 refine FS (rs := [.tmp 4]) false Tryz.func36 ?_
 have hge := mkpn_ge l k
 simp -dsimp
 refine twp_loopC (Imp id l ss ex k m n lo hi 0) (fun s => l.length - natOf (s.tm 5)) (Imp id l ss ex k m n lo hi 1) ?_ ?_ ?_
 ·exact ⟨0,lo,[],l,[],ss,k,by simp -dsimp,by simp -dsimp,by simp -dsimp,rfl,rfl,by omega,rfl,by simp -dsimp,by simpa -dsimp using hm,Nat.le_refl _,by simpa -dsimp using hp,rfl,rfl,hk0,fun j _ _ _ => by simp -dsimp,hl,by simp⟩
 ·rintro s ⟨i,mid,A,B,sa,sb,kk,t0,t1,t5,hA,hsa,hB,hss,hn,hmm,hpa,hpb,hmk,hmn,hk1,hout,hbl,hend⟩
  cases B with
  | nil =>
   have hlt : ¬ i < l.length := by simp at hB; omega
   simp -dsimp [t0,t5,hlt]
   exact ⟨i,mid,A,[],sa,sb,kk,by simp -dsimp [t0],by simp -dsimp [t1],by simp -dsimp [t5],hA,hsa,hB,hss,by simp -dsimp [hn],by simp -dsimp [hmm],hpa,hpb,hmk,hmn,hk1,fun j j1 j2 j3 => by simp -dsimp [hout j j1 j2 j3],hbl,fun _ => rfl⟩
  | cons p B =>
   have hlt : i < l.length := by simp at hB; omega
   cases sb with
   | nil => exact hpb.elim
   | cons st sb =>
    subst hss
    obtain ⟨mid2,js,g1,g2,g3⟩ := hpb
    have hAj : A.length = sa.length := by omega
    have hle1 := hpa.le
    have hle2 := g3.le
    have ecl : pcT (A ++ p :: B) (sa ++ st :: sb) ++ ex = pcT A sa ++ .v (.int .i64 p.people) :: st :: (pcT B sb ++ ex) := by rw [pcT_app _ _ _ _ hAj]; simp
    have hAl : (pcT A sa).length = i * 2 := by rw [pcT_len _ _ hAj,hA]
    have hset := cell_set (pcT A sa) (.v (.int .i64 p.people)) (.v (.int .i64 kk)) (st :: (pcT B sb ++ ex)) (i * 2) hAl
    have hll : (pcT A sa ++ T.v (.int .i64 p.people) :: st :: (pcT B sb ++ ex)).length = i * 2 + 2 + (pcT B sb ++ ex).length := by simp [hAl]; omega
    have hg1 : (pcT A sa ++ T.v (.int .i64 kk) :: st :: (pcT B sb ++ ex))[i * 2 + 1]? = some st := by
     rw [List.getElem?_append_right (by omega),hAl]; simp
    have hcl := hbl p (by simp)
    have hmnl := mkpn_ge B (mkn (kk + 1) p.story)
    have hmnk := mkn_ge p.story (kk + 1)
    have hmn2 : mkpn k l = mkpn (mkn (kk + 1) p.story) B := hmn
    rw [hmn2] at hk
    have wi : IntKind.wrap .i64 ((i : Int) + 1) = ((i + 1 : Nat) : Int) := by rw [w64 (by omega) (by omega)]; omega
    have w1 : IntKind.wrap .i64 (kk + 1) = kk + 1 := w64 (by omega) (by omega)
    have hmu : l.length - (i + 1) < l.length - i := by omega
    have hlt' : (i : Int) < (l.length : Int) := by omega
    have f1 := far (show id < s.n by omega)
    rw [ecl] at hmm
    have hmark := fun m n hlo h => markClaimS_own p.story (kk + 1) (by omega) (by omega) hcl m mid mid2 n hlo st js h
    have o1 : i * 2 + 1 ≤ i * 2 + 2 + (pcT B sb ++ ex).length := by omega
    have o2 : i * 2 + 1 + 1 ≤ i * 2 + 2 + (pcT B sb ++ ex).length := by omega
    have o3 : i * 2 < i * 2 + 2 + (pcT B sb ++ ex).length := by omega
    have hc := g2.cell
    have hcs := g2.cells
    generalize hc1 : pcT A sa ++ T.v (.int .i64 p.people) :: st :: (pcT B sb ++ ex) = c1 at *
    generalize hc2 : pcT A sa ++ T.v (.int .i64 kk) :: st :: (pcT B sb ++ ex) = c2 at *
    generalize hll2 : (pcT B sb ++ ex).length = ll at *
    simp -dsimp [t0,t1,t5,hlt,hlt',hmm,hll,setAt,hset,hg1,w1,wi,hmu,o1,o2,o3]
    refine callS_ (hmark _ _ (by omega) (g2.keep fun j j1 j2 => by simp [show ¬ j = id by omega])) ?_
    rintro t m2 n2 ⟨rfl,hn2,e1,e2⟩
    have k1 := e2 id (by omega) (by omega)
    simp -dsimp at k1
    simp -dsimp [t0,t1,t5,wi,hmu]
    refine st_out fun s' ht hm' hn' hu' => ?_
    have a0 := ht 0
    have a1 := ht 1
    have a5 := ht 5
    simp -dsimp [t0,wi] at a0 a1 a5 hm' hn' hu'
    clear ht
    have e0 : A ++ [(⟨kk,mkc (kk + 1) p.story⟩ : Place)] ++ B = A ++ ⟨kk,mkc (kk + 1) p.story⟩ :: B := by simp
    refine ⟨i + 1,mid2,A ++ [⟨kk,mkc (kk + 1) p.story⟩],B,sa ++ [st],sb,mkn (kk + 1) p.story,a0,by rw [a1],a5,by simp [hA],by simp [hsa],by simp at hB ⊢; omega,by simp,by omega, ?_, ?_, ?_, ?_,hmn,by omega,fun j j1 j2 j3 => ?_,fun x hx => hbl x (by simp [hx]),by simp⟩
    ·rw [e0,pcT_app _ _ _ _ hAj,pcT_cons,hm',k1,← hc2]; simp
    ·rw [hm']
     exact (hpa.keep fun j j1 j2 => by rw [e2 j (by omega) (by omega)]; simp [show ¬ j = id by omega]).snoc (Nat.le_refl _) g1 e1
    ·rw [hm']
     exact g3.keep fun j j1 j2 => by rw [e2 j (by omega) (by omega)]; simp [show ¬ j = id by omega]
    ·rw [hmk]; simp [mkp]
    ·rw [hm',e2 j (by omega) (by omega)]; simp [j2,hout j j1 j2 j3]
 ·rintro s ⟨i,mid,A,B,sa,sb,kk,t0,t1,t5,hA,hsa,hB,hss,hn,hmm,hpa,hpb,hmk,hmn,hk1,hout,hbl,hend⟩
  have hb := hend rfl
  subst hb
  have hsb : sb = [] := by
   cases sb with
   | nil => rfl
   | cons st sb => exact hpb.elim
  subst hsb
  rw [List.append_nil] at hmm hss
  subst hss
  have e1 : mkp k l = A := by rw [hmk]; simp [mkp]
  have e2 : mkpn k l = kk := hmn
  rw [e1,e2]
  have : mid ≤ hi := hpb
  simp -dsimp [t1]
  exact ⟨hn,hmm,hpa.wide (Nat.le_refl _) this,hout⟩
theorem markDesk_deep (d : Desk) (k : Int) (hk0 : 0 ≤ k) (hk : mkDn k d ≤ 100000000000000) (hl0 : ∀ c ∈ d.now.story,c.says.length ≤ 1000000000) (hl : ∀ p ∈ d.past,∀ c ∈ p.story,c.says.length ≤ 1000000000) (m : Mem) (lo hi n : Nat) (hlo : hi ≤ n) (sn P : T) (h : OwnD m lo hi sn P d) :
  FnS Tryz.prog 10 m n [dT d sn P,.v (.int .i64 k)] (fun t m' n' => t = .v (.int .i64 (mkDn k d)) ∧ n ≤ n' ∧ OwnD m' lo hi sn P (mkD k d) ∧ ∀ j,j < n → j < lo ∨ hi ≤ j → m' j = m j) := by
 obtain ⟨hc,hcs,hcP,hcsP⟩ := h.facts
 obtain ⟨jn,ss,a1,b1,a2,b2,a3,b3,r1,r2,r3,c1,c2,c3,c4,c5,c6,c7,c8,c9,c10,c11⟩ := h
 have hge1 := mkn_ge d.now.story k
 have hge2 := mkpn_ge d.past (mkn k d.now.story)
 have hle2 := r2.le
 unfold mkDn at hk
 unfold dT
 refine FS (rs := [.tmp 4]) false Tryz.func10 ?_
 simp -dsimp [nes,hc,hcs,hcP,hcsP]
 refine callS_ (markPlace_own d.now k hk0 (by omega) hl0 _ a1 b1 _ (by omega) sn jn (r1.keep fun j j1 j2 => by simp [show ¬ j = n by omega])) ?_
 rintro t m1 n1 ⟨rfl,hn1,hrow,hout⟩
 have k0 := hout n (by omega) (.inr (by omega))
 simp -dsimp at k0
 simp -dsimp [nes,hc,hcs,hcP,hcsP,k0]
 have hk1 : ∀ j,a2 ≤ j → j < b2 → m1 j = m j := fun j j1 j2 => by rw [hout j (by omega) (by omega)]; simp [show ¬ j = n by omega]
 have r2' := r2.keep hk1
 rcases r3 with ⟨rfl,e1,rfl⟩ | ⟨id,ex,rfl,i0,i1,i2,i3⟩
 ·refine callS_ (markPlaceS_nil _ _ _) ?_
  rintro t m2 n2 ⟨rfl,hn2,rfl⟩
  simp -dsimp
  refine ⟨by simp [mkDn,e1,mkpn],by omega,⟨jn,[],a1,b1,a2,b2,a3,b3,hrow, ?_,.inl ⟨rfl,by simp [mkD,e1,mkp],rfl⟩,c1,c2,c3,c4,c5,c6,c7,c8,c9,c10,c11⟩,fun j j1 j2 => ?_⟩
  ·simp only [mkD,e1,mkp]; exact hle2
  ·rw [hout j (by omega) (by omega)]; simp [show ¬ j = n by omega]
 ·have hid : m1 id = m id := by rw [hout id (by omega) (by omega)]; simp [show ¬ id = n by omega]
  refine callS_ (markPlaceS_own d.past ss ex _ (by omega) hk _ _ id a2 b2 (by omega) (by omega) (by omega) (by rw [hid,i3]) r2' hl) ?_
  rintro t m2 n2 ⟨rfl,hn2,e1,e2,e3⟩
  simp -dsimp
  refine ⟨rfl,by omega,⟨jn,ss,a1,b1,a2,b2,a3,b3,hrow.keep fun j j1 j2 => e3 j (by omega) (by omega) (by omega),e2,.inr ⟨id,ex,by simp [mkD],i0,i1,i2,e1⟩,c1,c2,c3,c4,c5,c6,c7,c8,c9,c10,c11⟩,fun j j1 j2 => ?_⟩
  rw [e3 j (by omega) (by omega) (by omega),hout j (by omega) (by omega)]; simp [show ¬ j = n by omega]
def Ihp (l : List Place) (k : Int) (e : Nat) (s : S) : Prop := ∃ (i : Nat) (A B : List Place) (kk : Int),s.tm 0 = .v (.sl ((mkp k l).map Place.v)) ∧ s.tm 1 = .v (.int .i64 kk) ∧ s.tm 5 = .v (.int .i64 i) ∧ A.length = i ∧ i + B.length = l.length ∧ mkp k l = A ++ mkp kk B ∧ mkpn k l = mkpn kk B ∧ 0 ≤ kk ∧ (∀ p ∈ B,∀ c ∈ p.story,c.says.length ≤ 1000000000) ∧ (e = 1 → B = [])
theorem heldPlaceS_fn (l : List Place) (k : Int) (hk0 : 0 ≤ k) (hk : mkpn k l ≤ 100000000000000) (hl : ∀ p ∈ l,∀ c ∈ p.story,c.says.length ≤ 1000000000) : FnZ Tryz.prog 38 [.sl ((mkp k l).map Place.v),.int .i64 k] (.int .i64 (mkpn k l)) := by
 refine FZ (rs := [.tmp 4]) false Tryz.func38 ?_
 have hge := mkpn_ge l k
 simp -dsimp
 refine twp_loopC (Ihp l k 0) (fun s => l.length - natOf (s.tm 5)) (Ihp l k 1) ?_ ?_ ?_
 ·exact ⟨0,[],l,k,by simp -dsimp,by simp -dsimp,by simp -dsimp,rfl,by omega,rfl,rfl,hk0,hl,by simp⟩
 ·rintro s ⟨i,A,B,kk,t0,t1,t5,hA,hB,hmk,hmn,hk1,hbl,hend⟩
  have hcl : ((mkp k l).map Place.v).length = l.length := by simp
  cases B with
  | nil =>
   have hlt : ¬ i < l.length := by simp at hB; omega
   simp -dsimp [t0,t5,hlt]
   exact ⟨i,A,[],kk,by simp -dsimp [t0],by simp -dsimp [t1],by simp -dsimp [t5],hA,hB,hmk,hmn,hk1,hbl,fun _ => rfl⟩
  | cons p B =>
   have hlt : i < l.length := by simp at hB; omega
   have hget : ((mkp k l).map Place.v)[i]? = some (Place.v ⟨kk,mkc (kk + 1) p.story⟩) := by
    rw [hmk,List.getElem?_map,List.getElem?_append_right (by omega),hA,Nat.sub_self]; rfl
   have hcc := hbl p (by simp)
   have hmnl := mkpn_ge B (mkn (kk + 1) p.story)
   have hmnk := mkn_ge p.story (kk + 1)
   have hmn2 : mkpn k l = mkpn (mkn (kk + 1) p.story) B := hmn
   have hmk2 : mkp k l = (A ++ [⟨kk,mkc (kk + 1) p.story⟩]) ++ mkp (mkn (kk + 1) p.story) B := by rw [hmk]; simp [mkp]
   rw [hmn2] at hk
   have wi : IntKind.wrap .i64 ((i : Int) + 1) = ((i + 1 : Nat) : Int) := by rw [w64 (by omega) (by omega)]; omega
   have w1 : IntKind.wrap .i64 (kk + 1) = kk + 1 := w64 (by omega) (by omega)
   have hmu : l.length - (i + 1) < l.length - i := by omega
   have hneg : ¬ mkn (kk + 1) p.story < 0 := by omega
   have hheld := heldClaimS_fn p.story (kk + 1) (by omega) (by omega) hcc
   generalize hrow : (mkp k l).map Place.v = row at *
   have hlt2 : i < row.length := by omega
   have hget2 : row[i] = Place.v ⟨kk,mkc (kk + 1) p.story⟩ := by rw [List.getElem?_eq_getElem hlt2] at hget; exact Option.some.inj hget
   generalize hM : mkn (kk + 1) p.story = M at *
   simp -dsimp [t0,t1,t5,hlt,hlt2,hcl,hget2,w1,wi,hmu]
   refine cl hheld ?_
   simp -dsimp [t0,t1,t5,hlt,hlt2,hcl,hget2,w1,wi,hmu,hneg]
   refine st_out fun s' ht hm' hn' hu' => ?_
   have a0 := ht 0
   have a1 := ht 1
   have a5 := ht 5
   simp -dsimp [t0,wi] at a0 a1 a5 hm' hn' hu'
   clear ht
   exact ⟨i + 1,A ++ [⟨kk,mkc (kk + 1) p.story⟩],B,M,by rw [a0,hrow],by rw [a1],a5,by simp [hA],by simp at hB ⊢; omega,hmk2,hmn2,by omega,fun x hx => hbl x (by simp [hx]),by simp⟩
 ·rintro s ⟨i,A,B,kk,t0,t1,t5,hA,hB,hmk,hmn,hk1,hbl,hend⟩
  have hb := hend rfl
  subst hb
  have e2 : mkpn k l = kk := hmn
  rw [e2]
  simp -dsimp [t1]
theorem heldDesk_deep (d : Desk) (k : Int) (hk0 : 0 ≤ k) (hk : mkDn k d ≤ 100000000000000) (hl0 : ∀ c ∈ d.now.story,c.says.length ≤ 1000000000) (hl : ∀ p ∈ d.past,∀ c ∈ p.story,c.says.length ≤ 1000000000) : FnZ Tryz.prog 11 [(mkD k d).v,.int .i64 k] (.int .i64 (mkDn k d)) := by
 have hge1 := mkn_ge d.now.story k
 have hge2 := mkpn_ge d.past (mkn k d.now.story)
 unfold mkDn at hk
 have h := heldPlace_fn d.now.people d.now.story k hk0 (by omega) hl0
 have h2 := heldPlaceS_fn d.past (mkn k d.now.story) (by omega) hk hl
 have h0 : ¬ mkn k d.now.story < 0 := by omega
 have h02 : ¬ mkpn (mkn k d.now.story) d.past < 0 := by omega
 unfold mkD mkDn
 generalize mkn k d.now.story = y at *
 generalize mkpn y d.past = z at *
 refine FZ (rs := [.tmp 4]) false Tryz.func11 ?_
 simp -dsimp
 refine cl h ?_
 simp -dsimp [h0]
 refine cl h2 ?_
 simp -dsimp [h02]
end TL

namespace TL
open Go Go.Proofs
attribute [local simp] marksV storyV codeV Claim.v Place.v Desk.v
def ItpO (l : List Place) (m : Mem) (n : Nat) (a : Nat) (s : S) : Prop := ∃ (i : Nat) (ss : List T),s.tm 0 = .v (.sl (l.map Place.v)) ∧ s.tm 3 = .sv n 0 l.length ∧ s.tm 4 = .v (.int .i64 i) ∧ i ≤ l.length ∧ n < s.n ∧ s.m n = some (.box 31 2 (pcT (l.take i) ss ++ zc (l.length - i))) ∧
 OwnPl s.m (n + 1) s.n (l.take i) ss ∧ (∀ j,j < n → s.m j = m j) ∧ (a = 1 → i = l.length)
theorem toPlaceS_own (l : List Place) (hl : l.length ≤ 1048576) (hs : ∀ a ∈ l,a.small) (m : Mem) (n : Nat) : FnS Tryz.prog 27 m n [.v (.sl (l.map Place.v))] (fun t m' n' => n < n' ∧ (∀ j,j < n → m' j = m j) ∧ ∃ ss,t = .sv n 0 l.length ∧ m' n = some (.box 31 2 (pcT l ss ++ [])) ∧ OwnPl m' (n + 1) n' l ss) := by
 have b1 : (32 : Int) * l.length ≤ 281474976710656 := by omega
 have b2 : (l.length : Int) ≤ 9223372036854775807 := by omega
 have b3 : (0 : Int) ≤ l.length := by omega
 refine FS (rs := [.tmp 2]) true Tryz.func27 ?_
 simp -dsimp [b1,b2,b3]
 refine twp_loopC (ItpO l m n 0) (fun s => l.length - natOf (s.tm 4)) (ItpO l m n 1) ?_ ?_ ?_
 ·exact ⟨0,[],by simp -dsimp,by simp -dsimp,by simp -dsimp,by omega,by simp -dsimp <;> omega,by simp -dsimp [zc],by simp -dsimp [OwnPl] <;> omega,fun j j1 => by simp -dsimp [far j1],by simp⟩
 ·rintro s ⟨i,ss,h0,h3,h4,hi,hn,hm,hpl,hout,hend⟩
  by_cases hlt : i < l.length
  case neg =>
   simp -dsimp [h0,h4,hlt]
   exact ⟨i,ss,by simp -dsimp [h0],by simp -dsimp [h3],by simp -dsimp [h4],hi,by simp -dsimp; omega,by simp -dsimp [hm],hpl,fun j j1 => by simp -dsimp [hout j j1],fun _ => by omega⟩
  have hget : (l.map Place.v)[i]? = some (l[i].v) := by simp [hlt]
  have wi : IntKind.wrap .i64 ((i : Int) + 1) = ((i + 1 : Nat) : Int) := by rw [w64 (by omega) (by omega)]; omega
  have hmu : l.length - (i + 1) < l.length - i := by omega
  have hlt' : (i : Int) < l.length := by omega
  have htk : l.take (i + 1) = l.take i ++ [l[i]] := List.take_succ_eq_append_getElem hlt
  have htl : (l.take i).length = i := by simp; omega
  have r5 := pcT_len (l.take i) ss hpl.len
  rw [htl] at r5
  have ezc : l.length - i = (l.length - (i + 1)) + 1 := by omega
  rw [ezc,zc_succ] at hm
  have zl := zc_len (l.length - (i + 1))
  have hown := fun m n => toPlace_own l[i] (hs _ (List.getElem_mem hlt)) m n
  generalize hc : l[i] = c at *
  have hset := fun st => cell_set2 (pcT (l.take i) ss) (.v (.int .i64 0)) .nil (.v (.int .i64 c.people)) st (zc (l.length - (i + 1))) (i * 2) r5
  have hll : (pcT (l.take i) ss ++ T.v (.int .i64 0) :: T.nil :: zc (l.length - (i + 1))).length = l.length * 2 := by simp [r5,zl]; omega
  have hoff : i * 2 + 2 ≤ l.length * 2 := by omega
  have f1 := far hn
  generalize hcells : pcT (l.take i) ss ++ T.v (.int .i64 0) :: T.nil :: zc (l.length - (i + 1)) = cells at *
  obtain ⟨c1,c2⟩ := c
  simp -dsimp [h0,h3,h4,hlt,hget,hc]
  refine callL_ (vs := [(⟨c1,c2⟩ : Place).v]) (hown _ _) (by simp -dsimp) ?_
  rintro t m2 n2 ⟨hn2,hout2,st,js,rfl,hrow⟩
  have k1 := hout2 n (by omega)
  have g1 := far (show n < n2 by omega)
  have hset2 := hset st
  have hcc := hrow.cell
  have hcs := hrow.cells
  simp -dsimp [f1,hm] at k1
  simp only at hset2
  simp -dsimp [h0,h3,h4,hlt',k1,hll,hoff,setAt,hset2,wi,hmu,nes,hcc,hcs]
  refine st_out fun s' ht hm' hn' hu' => ?_
  have a0 := ht 0
  have a3 := ht 3
  have a4 := ht 4
  simp -dsimp [h0,h3,wi] at a0 a3 a4 hm' hn' hu'
  clear ht
  have hsl : (l.take i).length = ss.length := hpl.len
  refine ⟨i + 1,ss ++ [st],a0,a3,a4,by omega,by omega, ?_, ?_,fun j j1 => ?_,by simp⟩
  ·rw [htk,pcT_app _ _ _ _ hsl]
   simp [hm']
  ·rw [htk]
   have hle := hpl.le
   refine OwnPl.snoc (a := s.n) (hpl.keep fun j j1 j2 => ?_) (Nat.le_refl _) (by omega) (hrow.wide (Nat.le_refl _) (by omega) fun j j1 j2 => by simp [hm',show ¬ j = n by omega])
   have q3 := hout2 j (by omega)
   simp [hm',show ¬ j = n by omega,q3]
  ·have q3 := hout2 j (by omega)
   simp [hm',show ¬ j = n by omega,q3,hout j j1]
 ·rintro s ⟨i,ss,h0,h3,h4,hi,hn,hm,hpl,hout,hend⟩
  have := hend rfl
  subst this
  rw [Nat.sub_self,List.take_length] at hm
  rw [List.take_length] at hpl
  have e : pcT l ss ++ zc 0 = pcT l ss ++ [] := by simp [zc]
  rw [e] at hm
  simp -dsimp [h3]
  exact ⟨by omega,hout,ss,by simpa using hm,hpl⟩
/-- A desk of the caller's own. -/
def DeepK (d : Desk) (m : Mem) (n : Nat) (t : T) (m' : Mem) (n' : Nat) : Prop := n ≤ n' ∧ (∀ j,j < n → m' j = m j) ∧ ∃ sn P,t = dT d sn P ∧ OwnD m' n n' sn P d
theorem toDesk_own (d : Desk) (hd : d.small) (m : Mem) (n : Nat) : FnS Tryz.prog 7 m n [.v d.v] (DeepK d m n) := by
 refine FS (rs := [.cell 2 34]) true Tryz.func7 ?_
 have e0 : ¬ n = n + 1 := by omega
 have e5 : ¬ n + 1 = n := by omega
 simp -dsimp [nes,e0,e5]
 refine callL_ (vs := [d.now.v]) (toPlace_own d.now hd.1 _ _) (by simp -dsimp) ?_
 rintro t m1 n1 ⟨hn1,hout,sn,js,rfl,hrow⟩
 have k0 := hout n (by omega)
 have k1 := hout (n + 1) (by omega)
 have k2 := hout (n + 1 + 1) (by omega)
 simp -dsimp [nes,e0,e5] at k0 k1 k2
 have hc := hrow.cell
 have hcs := hrow.cells
 have f0 := far (show n < n1 by omega)
 have f1 := far (show n + 1 < n1 by omega)
 have f2 := far (show n + 1 + 1 < n1 by omega)
 have ho : ∀ j,j < n → m1 j = m j := fun j j1 => by have hj := hout j (by omega); simp [far j1] at hj; exact hj
 simp -dsimp [nes,e0,e5,k0,k1,k2,hc,hcs,f0,f1,f2]
 refine callS_ (toPlaceS_own d.past hd.2.1 hd.2.2 _ _) ?_
 rintro t m2 n2 ⟨hn2,hout2,ss,rfl,him,hpl⟩
 have q0 := hout2 n (by omega)
 have q1 := hout2 (n + 1) (by omega)
 have q2 := hout2 (n + 1 + 1) (by omega)
 simp -dsimp [nes,e0,e5,k0,k1,k2,f0,f1,f2] at q0 q1 q2
 simp -dsimp [nes,e0,e5,q0,q1,q2,hc,hcs]
 have hk : ∀ j,¬ j = n + 1 → ¬ j = n + 1 + 1 → (updM (updM m2 (n + 1 + 1) (some (.box 34 3 [.v (.int .i64 d.now.people),sn,.sv (n1 + 1) 0 d.past.length]))) (n + 1) (some (.box 34 3 [.v (.int .i64 d.now.people),sn,.sv (n1 + 1) 0 d.past.length]))) j = m2 j := fun j j1 j2 => by simp [j1,j2]
 generalize updM (updM m2 (n + 1 + 1) _) (n + 1) _ = mm at *
 have hrow2 : OwnRowC mm n n1 sn d.now.story js := hrow.wide (by omega) (Nat.le_refl _) fun j j1 j2 => by
  rw [hk j (by omega) (by omega),hout2 j (by omega)]; simp [show ¬ j = n1 by omega,show ¬ j = n by omega,show ¬ j = n + 1 by omega,show ¬ j = n + 1 + 1 by omega]
 refine ⟨by omega,fun j j1 => ?_,sn,.sv (n1 + 1) 0 d.past.length,rfl,js,ss,n,n1,n1 + 1 + 1,n2,n1 + 1,n1 + 1 + 1,hrow2,hpl.keep fun j j1 j2 => hk j (by omega) (by omega),.inr ⟨n1 + 1,[],rfl,by omega,by omega,rfl,by rw [hk _ (by omega) (by omega),him]⟩, ?_, ?_, ?_, ?_, ?_, ?_, ?_, ?_, ?_, ?_, ?_⟩
 ·rw [hk j (by omega) (by omega),hout2 j (by omega)]; simp [show ¬ j = n1 by omega,show ¬ j = n + 1 by omega,show ¬ j = n + 1 + 1 by omega,ho j j1]
 all_goals omega
theorem OwnD.form {m : Mem} {lo hi : Nat} {sn P : T} {d : Desk} (hown : OwnD m lo hi sn P d) : sn = .nil ∧ d.now.story.length = 0 ∨ ∃ i,sn = .sv i 0 d.now.story.length := by
 obtain ⟨jn,ss,a1,b1,a2,b2,a3,b3,r1,_⟩ := hown
 rcases r1.2.2.2 with ⟨h1,h2,_⟩ | ⟨i,h1,_⟩
 ·exact .inl ⟨h1,by rw [h2]; rfl⟩
 ·exact .inr ⟨i,h1⟩
theorem OwnD.none_past {m : Mem} {lo hi : Nat} {sn P : T} {d : Desk} (hown : OwnD m lo hi sn P d) (he : d.past = []) : P = .nil ∨ ∃ i,P = .sv i 0 0 := by
 obtain ⟨jn,ss,a1,b1,a2,b2,a3,b3,r1,r2,r3,_⟩ := hown
 rcases r3 with ⟨h1,_⟩ | ⟨i,ex,h1,_⟩
 ·exact .inl h1
 ·exact .inr ⟨i,by rw [h1,he]; rfl⟩
/-- The place of before taken back. -/
theorem OwnD.last {m : Mem} {lo hi : Nat} {sn P : T} {d : Desk} {dd : List Place} {q : Place} (h : OwnD m lo hi sn P d) (hp : d.past = dd ++ [q]) :
  ∃ (r : Nat) (cc : List T) (st : T) (ex : List T),P = .sv r 0 (dd.length + 1) ∧ lo ≤ r ∧ r < hi ∧ m r = some (.box 31 2 cc) ∧ cc.length = dd.length * 2 + 2 + ex.length ∧ cc.drop (dd.length * 2) = .v (.int .i64 q.people) :: st :: ex ∧ st.cell = true ∧ st.cells = [st] ∧
   OwnD m lo hi st (.sv r 0 dd.length) ⟨q,dd⟩ := by
 obtain ⟨jn,ss,a1,b1,a2,b2,a3,b3,r1,r2,r3,c1,c2,c3,c4,c5,c6,c7,c8,c9,c10,c11⟩ := h
 rw [hp] at r2 r3
 rcases r3 with ⟨_,h1,_⟩ | ⟨r,ex,rfl,i0,i1,hex,him⟩
 ·simp at h1
 have hsl := r2.len
 have hss : ss ≠ [] := fun h => by rw [h] at hsl; simp at hsl
 have hslast := List.dropLast_concat_getLast hss
 generalize ss.getLast hss = st at *
 generalize ss.dropLast = sd at *
 subst hslast
 have hdl : dd.length = sd.length := by simpa using hsl
 obtain ⟨mid,r5,mid2,js,g1,g2,g3⟩ := (OwnPl.parts hdl).1 r2
 have hle := r5.le
 have hle3 : mid2 ≤ b2 := g3
 have hpl := pcT_len dd sd hdl
 have ecl : pcT (dd ++ [q]) (sd ++ [st]) ++ ex = pcT dd sd ++ (.v (.int .i64 q.people) :: st :: ex) := by rw [pcT_app _ _ _ _ hdl]; simp
 refine ⟨r,_,st,ex,by simp,by omega,by omega,him,by rw [ecl]; simp [hpl]; omega,by rw [ecl,← hpl]; exact List.drop_left,g2.cell,g2.cells,js,sd,mid,mid2,a2,mid,a3,b3,g2,r5,.inr ⟨r,.v (.int .i64 q.people) :: st :: ex,rfl,i0,i1, ?_,by rw [him,ecl]⟩, ?_, ?_, ?_, ?_, ?_, ?_, ?_, ?_, ?_, ?_, ?_⟩
 ·simp [g2.fl,hex,V.flat]
 all_goals omega
end TL

namespace TL
open Go Go.Proofs
attribute [local simp] marksV storyV codeV Claim.v Place.v Deed.v Desk.v
/-- A desk and a truth of the caller's own. -/
def PostK (R : Desk × Bool) (t : T) (m' : Mem) (n' : Nat) : Prop := ∃ sn P,t = .tup [dT R.1 sn P,.v (.bool R.2)] ∧ OwnD m' 0 n' sn P R.1
theorem desk_says {d : Desk} (hk : deskOk d = true) : (∀ c ∈ d.now.story,c.says ≠ []) ∧ (∀ p ∈ d.past,∀ c ∈ p.story,c.says ≠ []) := by
 obtain ⟨hpast,hnow,_⟩ := deskOk_iff.1 hk
 have h : ∀ p : Place,placeOk p = true → ∀ c ∈ p.story,c.says ≠ [] := fun p hp c hc h0 => by
  have := termOk_pos (claimOk_all ((placeOk_all hp).2.2.2 c hc)).2.2.2.2.1
  rw [h0] at this; simp at this
 exact ⟨h _ hnow,fun p hp => h p (hpast p hp)⟩
theorem copyDesk_k (d : Desk) (hd : d.small) (hk : deskOk d = true) (m : Mem) (n : Nat) : FnS Tryz.prog 31 m n [.v d.v] (DeepK d m n) :=
 (copyDesk_deep d hd (desk_says hk).1 (desk_says hk).2 m n).weak fun _ _ _ h => h.own
theorem clip_own (i l : Nat) (hl : l ≤ 1048576) (m : Mem) (n : Nat) : FnS Tryz.prog 71 m n [.sv i 0 l] (fun t m' n' => t = .sv i 0 l ∧ m' = m ∧ n ≤ n') := by
 refine FS (rs := [.tmp 2]) false Tryz.func71 ?_
 simp -dsimp [evClipM]
theorem do_people_k (d : Desk) (num : Int) (hd : d.small) (hk : deskOk d = true) (X : Place) (hXl : X.story.length ≤ 7) (hX : X = ⟨num,d.now.story⟩) :
  FnS Tryz.prog 30 (fun _ => none) 0 [.v d.v,.v (⟨2,num,[]⟩ : Deed).v] (PostK (if (placeOk X && !decide (placeTx X = placeTx d.now)) = true then ((⟨X,keep8 (d.past ++ [d.now])⟩,true) : Desk × Bool) else (d,false))) := by
 have hpo := placeOk_fn X (by omega)
 have hpt := placeText_fn X (by omega)
 have hpn := placeText_fn d.now (by have := hd.1.1; omega)
 have hcn := copyPlace_fn d.now hd.1
 have hok := deskOk_fn d (by have := hd.2.1; omega) (by have := hd.1.1; omega) (fun p hp => by have := (hd.2.2 p hp).1; omega)
 rw [hk] at hok
 obtain ⟨hpast,hnow,hp8⟩ := deskOk_iff.1 hk
 have hcopy := fun m n => copyDesk_own d hd m n
 have hcopyK := fun m n => copyDesk_k d hd hk m n
 have fullb : (d.past.length + 1) * 32 ≤ 140737488355328 := by omega
 have zplaces : allZ 2 (List.map Place.v d.past ++ [d.now.v]) := fun x hx => by
  rcases List.mem_append.1 hx with hx | hx
  ·obtain ⟨p,_,rfl⟩ := List.mem_map.1 hx; exact ⟨by simp,by simp⟩
  ·rw [List.mem_singleton.1 hx]; exact ⟨by simp,by simp⟩
 have hR : placeOk X = true → ∀ l,keep8 (d.past ++ [d.now]) = l → ∀ m n,FnS Tryz.prog 31 m n [.v (⟨X,l⟩ : Desk).v] (DeepK ⟨X,l⟩ m n) := fun hX l hl m n => by
  have ok : deskOk ⟨X,l⟩ = true := deskOk_iff.2 ⟨fun p hp => by
   rw [← hl] at hp
   rcases List.mem_append.1 (keep8_mem hp) with h1 | h1
   ·exact hpast p h1
   ·rw [List.mem_singleton.1 h1]; exact hnow,hX,by rw [← hl]; exact keep8_len _ (by simp; omega)⟩
  exact copyDesk_k ⟨X,l⟩ (desk_fine ok).1 ok m n
 have hkX := ft (placeOk X)
 have htx : placeTx X = placeTx d.now ∨ ¬ placeTx X = placeTx d.now := Classical.em _
 generalize placeTx X = tX at *
 generalize placeTx d.now = tN at *
 generalize placeOk X = okX at *
 subst hX
 refine FS (rs := [.cell 4 34,.tmp 5]) false Tryz.func30 ?_
 simp -dsimp
 refine cl hok ?_
 simp -dsimp
 refine callL_ (vs := [d.v]) (hcopy _ _) (by simp -dsimp) ?_
 rintro t m1 n1 ⟨hn1,hout,id,st,rfl,hi0,hi1,him,hst,hne⟩
 have k0 := hout 0 (by omega)
 have k1 := hout 1 (by omega)
 have k2 := hout 2 (by omega)
 simp -dsimp at k0 k1 k2
 have f0 := far (show 0 < n1 by omega)
 have f1 := far (show 1 < n1 by omega)
 have f2 := far (show 2 < n1 by omega)
 have z1 : ¬ n1 = 0 := by omega
 have z2 : ¬ n1 = 1 := by omega
 have z3 : ¬ n1 = 2 := by omega
 have g1 := far hi1
 have y0 : ¬ id = 0 := by omega
 have y1 : ¬ id = 1 := by omega
 have y2 : ¬ id = 2 := by omega
 have yn : ¬ id = n1 := by omega
 have hc := hst.cell
 rcases hst with ⟨rfl,hs0⟩ | ⟨r,rfl,hr0,hr1,hrm⟩
 ·have hp0 : d.past = [] := by simpa using hs0
  simp -dsimp [nes8 n1,k0,k1,k2,f0,f1,f2,z1,z2,z3,nes,g1,y0,y1,y2,yn,Ne.symm y0,Ne.symm y1,Ne.symm y2,him,hc]
  refine twd [0,1,2,3,4,5,6,7,8,10,11,9,12,13,14] [0,n1] (List.replicate 15 [0,1]) (List.replicate 15 [0,1]) ?_
  simp -dsimp [nes8 n1,k0,k1,k2,f0,f1,f2,z1,z2,z3,nes,g1,y0,y1,y2,yn,Ne.symm y0,Ne.symm y1,Ne.symm y2,him,hc,hp0]
  refine call_ hpo (by simp -dsimp [nes8 n1,k0,k1,k2,f0,f1,f2,z1,z2,z3,nes,g1,y0,y1,y2,yn,Ne.symm y0,Ne.symm y1,Ne.symm y2,him,hc,hp0]) ?_
  rcases hkX with rfl | rfl
  ·simp -dsimp [nes8 n1,k0,k1,k2,f0,f1,f2,z1,z2,z3,nes,g1,y0,y1,y2,yn,Ne.symm y0,Ne.symm y1,Ne.symm y2,him,hc,hp0]
   refine callL_ (vs := [d.v]) (hcopyK _ _) (by simp -dsimp [hc,hp0]) ?_
   rintro t m2 n2 ⟨hn2,hout2,sn2,P2,rfl,hown2⟩
   have q2 := hout2 2 (by omega)
   simp -dsimp [nes8 n1,k0,k1,k2,f0,f1,f2,z1,z2,z3,nes,g1,y0,y1,y2,yn,Ne.symm y0,Ne.symm y1,Ne.symm y2,him] at q2
   have hfc := hown2.facts
   have hc2 := hfc.1
   have hcs2 := hfc.2.1
   have hcP2 := hfc.2.2.1
   have hcsP2 := hfc.2.2.2
   clear hfc
   simp -dsimp [dT,q2,hc2,hcs2,hcP2,hcsP2]
   exact ⟨sn2,P2,rfl,hown2.keep (Nat.zero_le _) (by omega) fun j j1 j2 => by simp [show ¬ j = 2 by omega]⟩
  simp -dsimp [nes8 n1,k0,k1,k2,f0,f1,f2,z1,z2,z3,nes,g1,y0,y1,y2,yn,Ne.symm y0,Ne.symm y1,Ne.symm y2,him,hc,hp0]
  refine call_ hpt (by simp -dsimp [nes8 n1,k0,k1,k2,f0,f1,f2,z1,z2,z3,nes,g1,y0,y1,y2,yn,Ne.symm y0,Ne.symm y1,Ne.symm y2,him,hc,hp0]) ?_
  simp -dsimp [nes8 n1,k0,k1,k2,f0,f1,f2,z1,z2,z3,nes,g1,y0,y1,y2,yn,Ne.symm y0,Ne.symm y1,Ne.symm y2,him,hc,hp0]
  refine cl hpn ?_
  rcases htx with rfl | htx
  ·simp -dsimp [nes8 n1,k0,k1,k2,f0,f1,f2,z1,z2,z3,nes,g1,y0,y1,y2,yn,Ne.symm y0,Ne.symm y1,Ne.symm y2,him,hc,hp0]
   refine callL_ (vs := [d.v]) (hcopyK _ _) (by simp -dsimp [hc,hp0]) ?_
   rintro t m2 n2 ⟨hn2,hout2,sn2,P2,rfl,hown2⟩
   have q2 := hout2 2 (by omega)
   simp -dsimp [nes8 n1,k0,k1,k2,f0,f1,f2,z1,z2,z3,nes,g1,y0,y1,y2,yn,Ne.symm y0,Ne.symm y1,Ne.symm y2,him] at q2
   have hfc := hown2.facts
   have hc2 := hfc.1
   have hcs2 := hfc.2.1
   have hcP2 := hfc.2.2.1
   have hcsP2 := hfc.2.2.2
   clear hfc
   simp -dsimp [dT,q2,hc2,hcs2,hcP2,hcsP2]
   exact ⟨sn2,P2,rfl,hown2.keep (Nat.zero_le _) (by omega) fun j j1 j2 => by simp [show ¬ j = 2 by omega]⟩
  have hRs := hR rfl
  simp -dsimp [nes8 n1,k0,k1,k2,f0,f1,f2,z1,z2,z3,nes,g1,y0,y1,y2,yn,Ne.symm y0,Ne.symm y1,Ne.symm y2,him,hc,hp0,htx]
  refine twd (List.range 9) [0,n1] (List.replicate 9 [0,1]) (List.replicate 8 [0,1] ++ [[0]]) ?_
  simp -dsimp [List.range_succ,nes8 n1,k0,k1,k2,f0,f1,f2,z1,z2,z3,nes,g1,y0,y1,y2,yn,Ne.symm y0,Ne.symm y1,Ne.symm y2,him,hc,hp0,htx]
  refine cl hcn ?_
  have hR2 := hRs [d.now] (by rw [hp0]; rfl)
  simp -dsimp [List.range_succ,nes8 n1,k0,k1,k2,f0,f1,f2,z1,z2,z3,nes,g1,y0,y1,y2,yn,Ne.symm y0,Ne.symm y1,Ne.symm y2,him,hc,hp0,htx]
  refine callL_ (vs := [(⟨⟨num,d.now.story⟩,[d.now]⟩ : Desk).v]) (hR2 _ _) (by simp -dsimp [nes8 n1,k0,k1,k2,f0,f1,f2,z1,z2,z3,nes,g1,y0,y1,y2,yn,Ne.symm y0,Ne.symm y1,Ne.symm y2,him,hc,hp0]) ?_
  rintro t m2 n2 ⟨hn2,hout2,sn2,P2,rfl,hown2⟩
  have q2 := hout2 2 (by omega)
  simp -dsimp [nes8 n1,k0,k1,k2,f0,f1,f2,z1,z2,z3,nes,g1,y0,y1,y2,yn,Ne.symm y0,Ne.symm y1,Ne.symm y2,him] at q2
  have hfc := hown2.facts
  have hc2 := hfc.1
  have hcs2 := hfc.2.1
  have hcP2 := hfc.2.2.1
  have hcsP2 := hfc.2.2.2
  clear hfc
  simp -dsimp [dT,q2,hc2,hcs2,hcP2,hcsP2,htx,hp0,keep8]
  exact ⟨sn2,P2,rfl,hown2.keep (Nat.zero_le _) (by omega) fun j j1 j2 => by simp [show ¬ j = 2 by omega]⟩
 ·have g2 := far hr1
  have x0 : ¬ r = 0 := by omega
  have x1 : ¬ r = 1 := by omega
  have x2 : ¬ r = 2 := by omega
  have xi : ¬ r = id := fun h => hne (by rw [h])
  simp -dsimp [nes8 n1,k0,k1,k2,f0,f1,f2,z1,z2,z3,nes,g1,y0,y1,y2,yn,Ne.symm y0,Ne.symm y1,Ne.symm y2,him,g2,x0,x1,x2,xi,Ne.symm x0,Ne.symm x1,Ne.symm x2,Ne.symm xi,hrm,hc]
  refine twd [0,1,2,3,4,5,6,7,8,10,11,9,12,13,14] [0,n1] (List.replicate 15 [0,1]) (List.replicate 15 [0,1]) ?_
  simp -dsimp [nes8 n1,k0,k1,k2,f0,f1,f2,z1,z2,z3,nes,g1,y0,y1,y2,yn,Ne.symm y0,Ne.symm y1,Ne.symm y2,him,g2,x0,x1,x2,xi,Ne.symm x0,Ne.symm x1,Ne.symm x2,Ne.symm xi,hrm,hc]
  refine call_ hpo (by simp -dsimp [nes8 n1,k0,k1,k2,f0,f1,f2,z1,z2,z3,nes,g1,y0,y1,y2,yn,Ne.symm y0,Ne.symm y1,Ne.symm y2,him,g2,x0,x1,x2,xi,Ne.symm x0,Ne.symm x1,Ne.symm x2,Ne.symm xi,hrm,hc]) ?_
  rcases hkX with rfl | rfl
  ·simp -dsimp [nes8 n1,k0,k1,k2,f0,f1,f2,z1,z2,z3,nes,g1,y0,y1,y2,yn,Ne.symm y0,Ne.symm y1,Ne.symm y2,him,g2,x0,x1,x2,xi,Ne.symm x0,Ne.symm x1,Ne.symm x2,Ne.symm xi,hrm,hc]
   refine callL_ (vs := [d.v]) (hcopyK _ _) (by simp -dsimp [hc]) ?_
   rintro t m2 n2 ⟨hn2,hout2,sn2,P2,rfl,hown2⟩
   have q2 := hout2 2 (by omega)
   simp -dsimp [nes8 n1,k0,k1,k2,f0,f1,f2,z1,z2,z3,nes,g1,y0,y1,y2,yn,Ne.symm y0,Ne.symm y1,Ne.symm y2,him,g2,x0,x1,x2,xi,Ne.symm x0,Ne.symm x1,Ne.symm x2,Ne.symm xi,hrm] at q2
   have hfc := hown2.facts
   have hc2 := hfc.1
   have hcs2 := hfc.2.1
   have hcP2 := hfc.2.2.1
   have hcsP2 := hfc.2.2.2
   clear hfc
   simp -dsimp [dT,q2,hc2,hcs2,hcP2,hcsP2]
   exact ⟨sn2,P2,rfl,hown2.keep (Nat.zero_le _) (by omega) fun j j1 j2 => by simp [show ¬ j = 2 by omega]⟩
  simp -dsimp [nes8 n1,k0,k1,k2,f0,f1,f2,z1,z2,z3,nes,g1,y0,y1,y2,yn,Ne.symm y0,Ne.symm y1,Ne.symm y2,him,g2,x0,x1,x2,xi,Ne.symm x0,Ne.symm x1,Ne.symm x2,Ne.symm xi,hrm,hc]
  refine call_ hpt (by simp -dsimp [nes8 n1,k0,k1,k2,f0,f1,f2,z1,z2,z3,nes,g1,y0,y1,y2,yn,Ne.symm y0,Ne.symm y1,Ne.symm y2,him,g2,x0,x1,x2,xi,Ne.symm x0,Ne.symm x1,Ne.symm x2,Ne.symm xi,hrm,hc]) ?_
  simp -dsimp [nes8 n1,k0,k1,k2,f0,f1,f2,z1,z2,z3,nes,g1,y0,y1,y2,yn,Ne.symm y0,Ne.symm y1,Ne.symm y2,him,g2,x0,x1,x2,xi,Ne.symm x0,Ne.symm x1,Ne.symm x2,Ne.symm xi,hrm,hc]
  refine cl hpn ?_
  rcases htx with rfl | htx
  ·simp -dsimp [nes8 n1,k0,k1,k2,f0,f1,f2,z1,z2,z3,nes,g1,y0,y1,y2,yn,Ne.symm y0,Ne.symm y1,Ne.symm y2,him,g2,x0,x1,x2,xi,Ne.symm x0,Ne.symm x1,Ne.symm x2,Ne.symm xi,hrm,hc]
   refine callL_ (vs := [d.v]) (hcopyK _ _) (by simp -dsimp [hc]) ?_
   rintro t m2 n2 ⟨hn2,hout2,sn2,P2,rfl,hown2⟩
   have q2 := hout2 2 (by omega)
   simp -dsimp [nes8 n1,k0,k1,k2,f0,f1,f2,z1,z2,z3,nes,g1,y0,y1,y2,yn,Ne.symm y0,Ne.symm y1,Ne.symm y2,him,g2,x0,x1,x2,xi,Ne.symm x0,Ne.symm x1,Ne.symm x2,Ne.symm xi,hrm] at q2
   have hfc := hown2.facts
   have hc2 := hfc.1
   have hcs2 := hfc.2.1
   have hcP2 := hfc.2.2.1
   have hcsP2 := hfc.2.2.2
   clear hfc
   simp -dsimp [dT,q2,hc2,hcs2,hcP2,hcsP2]
   exact ⟨sn2,P2,rfl,hown2.keep (Nat.zero_le _) (by omega) fun j j1 j2 => by simp [show ¬ j = 2 by omega]⟩
  have hRs := hR rfl
  simp -dsimp [nes8 n1,k0,k1,k2,f0,f1,f2,z1,z2,z3,nes,g1,y0,y1,y2,yn,Ne.symm y0,Ne.symm y1,Ne.symm y2,him,g2,x0,x1,x2,xi,Ne.symm x0,Ne.symm x1,Ne.symm x2,Ne.symm xi,hrm,hc,htx]
  refine twd (List.range 9) [0,n1] (List.replicate 9 [0,1]) (List.replicate 8 [0,1] ++ [[0]]) ?_
  simp -dsimp [List.range_succ,nes8 n1,k0,k1,k2,f0,f1,f2,z1,z2,z3,nes,g1,y0,y1,y2,yn,Ne.symm y0,Ne.symm y1,Ne.symm y2,him,g2,x0,x1,x2,xi,Ne.symm x0,Ne.symm x1,Ne.symm x2,Ne.symm xi,hrm,hc,htx]
  refine cl hcn ?_
  by_cases h8 : d.past.length = 8
  ·have e8 : (d.past.length : Int) = 8 := by omega
   have ek : keep8 (d.past ++ [d.now]) = (d.past ++ [d.now]).tail := by unfold keep8; rw [if_pos (by simp [h8])]; simp
   have hR2 := hRs (d.past ++ [d.now]).tail ek
   have tk : List.take 9 (List.map Place.v d.past ++ [d.now.v]) = List.map Place.v d.past ++ [d.now.v] := List.take_of_length_le (by simp [h8])
   have zk : allZ 2 (List.map Place.v d.past ++ [d.now.v]).tail := fun x hx => zplaces x (List.mem_of_mem_tail hx)
   simp only [Place.v,storyV] at tk zk
   simp -dsimp [List.range_succ,nes8 n1,k0,k1,k2,f0,f1,f2,z1,z2,z3,nes,g1,y0,y1,y2,yn,Ne.symm y0,Ne.symm y1,Ne.symm y2,him,g2,x0,x1,x2,xi,Ne.symm x0,Ne.symm x1,Ne.symm x2,Ne.symm xi,hrm,hc,htx,fullb,h8,e8,tk,zk]
   refine callL_ (vs := [(⟨⟨num,d.now.story⟩,(d.past ++ [d.now]).tail⟩ : Desk).v]) (hR2 _ _) (by simp -dsimp [nes8 n1,k0,k1,k2,f0,f1,f2,z1,z2,z3,nes,g1,y0,y1,y2,yn,Ne.symm y0,Ne.symm y1,Ne.symm y2,him,g2,x0,x1,x2,xi,Ne.symm x0,Ne.symm x1,Ne.symm x2,Ne.symm xi,hrm,hc,List.map_tail,List.map_append]) ?_
   rintro t m2 n2 ⟨hn2,hout2,sn2,P2,rfl,hown2⟩
   have q2 := hout2 2 (by omega)
   simp -dsimp [nes8 n1,k0,k1,k2,f0,f1,f2,z1,z2,z3,nes,g1,y0,y1,y2,yn,Ne.symm y0,Ne.symm y1,Ne.symm y2,him,g2,x0,x1,x2,xi,Ne.symm x0,Ne.symm x1,Ne.symm x2,Ne.symm xi,hrm] at q2
   have hfc := hown2.facts
   have hc2 := hfc.1
   have hcs2 := hfc.2.1
   have hcP2 := hfc.2.2.1
   have hcsP2 := hfc.2.2.2
   clear hfc
   simp -dsimp [dT,q2,hc2,hcs2,hcP2,hcsP2,htx,ek]
   exact ⟨sn2,P2,rfl,hown2.keep (Nat.zero_le _) (by omega) fun j j1 j2 => by simp [show ¬ j = 2 by omega]⟩
  ·have e8 : d.past.length < 8 := by omega
   have e8' : ¬ (8 : Int) < (d.past.length : Int) + 1 := by omega
   have e8'' : ¬ 8 < d.past.length + 1 := by omega
   have ek : keep8 (d.past ++ [d.now]) = d.past ++ [d.now] := by unfold keep8; rw [if_neg (by simp; omega)]
   have hR2 := hRs (d.past ++ [d.now]) ek
   simp -dsimp [List.range_succ,nes8 n1,k0,k1,k2,f0,f1,f2,z1,z2,z3,nes,g1,y0,y1,y2,yn,Ne.symm y0,Ne.symm y1,Ne.symm y2,him,g2,x0,x1,x2,xi,Ne.symm x0,Ne.symm x1,Ne.symm x2,Ne.symm xi,hrm,hc,htx,fullb,h8,e8,e8',e8'']
   refine callL_ (vs := [(⟨⟨num,d.now.story⟩,d.past ++ [d.now]⟩ : Desk).v]) (hR2 _ _) (by simp -dsimp [nes8 n1,k0,k1,k2,f0,f1,f2,z1,z2,z3,nes,g1,y0,y1,y2,yn,Ne.symm y0,Ne.symm y1,Ne.symm y2,him,g2,x0,x1,x2,xi,Ne.symm x0,Ne.symm x1,Ne.symm x2,Ne.symm xi,hrm,hc]) ?_
   rintro t m2 n2 ⟨hn2,hout2,sn2,P2,rfl,hown2⟩
   have q2 := hout2 2 (by omega)
   simp -dsimp [nes8 n1,k0,k1,k2,f0,f1,f2,z1,z2,z3,nes,g1,y0,y1,y2,yn,Ne.symm y0,Ne.symm y1,Ne.symm y2,him,g2,x0,x1,x2,xi,Ne.symm x0,Ne.symm x1,Ne.symm x2,Ne.symm xi,hrm] at q2
   have hfc := hown2.facts
   have hc2 := hfc.1
   have hcs2 := hfc.2.1
   have hcP2 := hfc.2.2.1
   have hcsP2 := hfc.2.2.2
   clear hfc
   simp -dsimp [dT,q2,hc2,hcs2,hcP2,hcsP2,htx,ek]
   exact ⟨sn2,P2,rfl,hown2.keep (Nat.zero_le _) (by omega) fun j j1 j2 => by simp [show ¬ j = 2 by omega]⟩
end TL

namespace TL
open Go Go.Proofs
attribute [local simp] marksV storyV codeV Claim.v Place.v Deed.v Desk.v
theorem do_least_k (d : Desk)  (hd : d.small) (hk : deskOk d = true) (X : Place) (hXl : X.story.length ≤ 7) (hX : X = ⟨d.now.people,least d.now.people.toNat d.now.story⟩) :
  FnS Tryz.prog 30 (fun _ => none) 0 [.v d.v,.v (⟨3,0,[]⟩ : Deed).v] (PostK (if (placeOk X && !decide (placeTx X = placeTx d.now)) = true then ((⟨X,keep8 (d.past ++ [d.now])⟩,true) : Desk × Bool) else (d,false))) := by
 have hpo := placeOk_fn X (by omega)
 have hpt := placeText_fn X (by omega)
 have hpn := placeText_fn d.now (by have := hd.1.1; omega)
 have hcn := copyPlace_fn d.now hd.1
 have hok := deskOk_fn d (by have := hd.2.1; omega) (by have := hd.1.1; omega) (fun p hp => by have := (hd.2.2 p hp).1; omega)
 rw [hk] at hok
 obtain ⟨hpast,hnow,hp8⟩ := deskOk_iff.1 hk
 have hcopy := fun m n => copyDesk_own d hd m n
 have hcopyK := fun m n => copyDesk_k d hd hk m n
 have fullb : (d.past.length + 1) * 32 ≤ 140737488355328 := by omega
 have zplaces : allZ 2 (List.map Place.v d.past ++ [d.now.v]) := fun x hx => by
  rcases List.mem_append.1 hx with hx | hx
  ·obtain ⟨p,_,rfl⟩ := List.mem_map.1 hx; exact ⟨by simp,by simp⟩
  ·rw [List.mem_singleton.1 hx]; exact ⟨by simp,by simp⟩
 have hR : placeOk X = true → ∀ l,keep8 (d.past ++ [d.now]) = l → ∀ m n,FnS Tryz.prog 31 m n [.v (⟨X,l⟩ : Desk).v] (DeepK ⟨X,l⟩ m n) := fun hX l hl m n => by
  have ok : deskOk ⟨X,l⟩ = true := deskOk_iff.2 ⟨fun p hp => by
   rw [← hl] at hp
   rcases List.mem_append.1 (keep8_mem hp) with h1 | h1
   ·exact hpast p h1
   ·rw [List.mem_singleton.1 h1]; exact hnow,hX,by rw [← hl]; exact keep8_len _ (by simp; omega)⟩
  exact copyDesk_k ⟨X,l⟩ (desk_fine ok).1 ok m n
 have hls := leastStory_fn d.now.people d.now.story hnow
 have hkX := ft (placeOk X)
 have htx : placeTx X = placeTx d.now ∨ ¬ placeTx X = placeTx d.now := Classical.em _
 generalize placeTx X = tX at *
 generalize placeTx d.now = tN at *
 generalize placeOk X = okX at *
 subst hX
 generalize least d.now.people.toNat d.now.story = R at *
 refine FS (rs := [.cell 4 34,.tmp 5]) false Tryz.func30 ?_
 simp -dsimp
 refine cl hok ?_
 simp -dsimp
 refine callL_ (vs := [d.v]) (hcopy _ _) (by simp -dsimp) ?_
 rintro t m1 n1 ⟨hn1,hout,id,st,rfl,hi0,hi1,him,hst,hne⟩
 have k0 := hout 0 (by omega)
 have k1 := hout 1 (by omega)
 have k2 := hout 2 (by omega)
 simp -dsimp at k0 k1 k2
 have f0 := far (show 0 < n1 by omega)
 have f1 := far (show 1 < n1 by omega)
 have f2 := far (show 2 < n1 by omega)
 have z1 : ¬ n1 = 0 := by omega
 have z2 : ¬ n1 = 1 := by omega
 have z3 : ¬ n1 = 2 := by omega
 have g1 := far hi1
 have y0 : ¬ id = 0 := by omega
 have y1 : ¬ id = 1 := by omega
 have y2 : ¬ id = 2 := by omega
 have yn : ¬ id = n1 := by omega
 have hc := hst.cell
 rcases hst with ⟨rfl,hs0⟩ | ⟨r,rfl,hr0,hr1,hrm⟩
 ·have hp0 : d.past = [] := by simpa using hs0
  simp -dsimp [nes8 n1,k0,k1,k2,f0,f1,f2,z1,z2,z3,nes,g1,y0,y1,y2,yn,Ne.symm y0,Ne.symm y1,Ne.symm y2,him,hc]
  refine twd (List.range 16) [n1] (List.replicate 12 [0] ++ [[],[],[],[]]) (List.replicate 15 [0] ++ [[]]) ?_
  simp -dsimp [List.range_succ,nes8 n1,k0,k1,k2,f0,f1,f2,z1,z2,z3,nes,g1,y0,y1,y2,yn,Ne.symm y0,Ne.symm y1,Ne.symm y2,him,hc]
  refine call_ hls (by simp -dsimp [nes8 n1,k0,k1,k2,f0,f1,f2,z1,z2,z3,nes,g1,y0,y1,y2,yn,Ne.symm y0,Ne.symm y1,Ne.symm y2,him,hc]) ?_
  simp -dsimp [List.range_succ,nes8 n1,k0,k1,k2,f0,f1,f2,z1,z2,z3,nes,g1,y0,y1,y2,yn,Ne.symm y0,Ne.symm y1,Ne.symm y2,him,hc]
  refine twd [0,1,2,3,4,5,6,7,8,10,11,9,12,13,14] [0,n1] (List.replicate 15 [0,1]) (List.replicate 15 [0,1]) ?_
  simp -dsimp [nes8 n1,k0,k1,k2,f0,f1,f2,z1,z2,z3,nes,g1,y0,y1,y2,yn,Ne.symm y0,Ne.symm y1,Ne.symm y2,him,hc,hp0]
  refine call_ hpo (by simp -dsimp [nes8 n1,k0,k1,k2,f0,f1,f2,z1,z2,z3,nes,g1,y0,y1,y2,yn,Ne.symm y0,Ne.symm y1,Ne.symm y2,him,hc,hp0]) ?_
  rcases hkX with rfl | rfl
  ·simp -dsimp [nes8 n1,k0,k1,k2,f0,f1,f2,z1,z2,z3,nes,g1,y0,y1,y2,yn,Ne.symm y0,Ne.symm y1,Ne.symm y2,him,hc,hp0]
   refine callL_ (vs := [d.v]) (hcopyK _ _) (by simp -dsimp [hc,hp0]) ?_
   rintro t m2 n2 ⟨hn2,hout2,sn2,P2,rfl,hown2⟩
   have q2 := hout2 2 (by omega)
   simp -dsimp [nes8 n1,k0,k1,k2,f0,f1,f2,z1,z2,z3,nes,g1,y0,y1,y2,yn,Ne.symm y0,Ne.symm y1,Ne.symm y2,him] at q2
   have hfc := hown2.facts
   have hc2 := hfc.1
   have hcs2 := hfc.2.1
   have hcP2 := hfc.2.2.1
   have hcsP2 := hfc.2.2.2
   clear hfc
   simp -dsimp [dT,q2,hc2,hcs2,hcP2,hcsP2]
   exact ⟨sn2,P2,rfl,hown2.keep (Nat.zero_le _) (by omega) fun j j1 j2 => by simp [show ¬ j = 2 by omega]⟩
  simp -dsimp [nes8 n1,k0,k1,k2,f0,f1,f2,z1,z2,z3,nes,g1,y0,y1,y2,yn,Ne.symm y0,Ne.symm y1,Ne.symm y2,him,hc,hp0]
  refine call_ hpt (by simp -dsimp [nes8 n1,k0,k1,k2,f0,f1,f2,z1,z2,z3,nes,g1,y0,y1,y2,yn,Ne.symm y0,Ne.symm y1,Ne.symm y2,him,hc,hp0]) ?_
  simp -dsimp [nes8 n1,k0,k1,k2,f0,f1,f2,z1,z2,z3,nes,g1,y0,y1,y2,yn,Ne.symm y0,Ne.symm y1,Ne.symm y2,him,hc,hp0]
  refine cl hpn ?_
  rcases htx with rfl | htx
  ·simp -dsimp [nes8 n1,k0,k1,k2,f0,f1,f2,z1,z2,z3,nes,g1,y0,y1,y2,yn,Ne.symm y0,Ne.symm y1,Ne.symm y2,him,hc,hp0]
   refine callL_ (vs := [d.v]) (hcopyK _ _) (by simp -dsimp [hc,hp0]) ?_
   rintro t m2 n2 ⟨hn2,hout2,sn2,P2,rfl,hown2⟩
   have q2 := hout2 2 (by omega)
   simp -dsimp [nes8 n1,k0,k1,k2,f0,f1,f2,z1,z2,z3,nes,g1,y0,y1,y2,yn,Ne.symm y0,Ne.symm y1,Ne.symm y2,him] at q2
   have hfc := hown2.facts
   have hc2 := hfc.1
   have hcs2 := hfc.2.1
   have hcP2 := hfc.2.2.1
   have hcsP2 := hfc.2.2.2
   clear hfc
   simp -dsimp [dT,q2,hc2,hcs2,hcP2,hcsP2]
   exact ⟨sn2,P2,rfl,hown2.keep (Nat.zero_le _) (by omega) fun j j1 j2 => by simp [show ¬ j = 2 by omega]⟩
  have hRs := hR rfl
  simp -dsimp [nes8 n1,k0,k1,k2,f0,f1,f2,z1,z2,z3,nes,g1,y0,y1,y2,yn,Ne.symm y0,Ne.symm y1,Ne.symm y2,him,hc,hp0,htx]
  refine twd (List.range 9) [0,n1] (List.replicate 9 [0,1]) (List.replicate 8 [0,1] ++ [[0]]) ?_
  simp -dsimp [List.range_succ,nes8 n1,k0,k1,k2,f0,f1,f2,z1,z2,z3,nes,g1,y0,y1,y2,yn,Ne.symm y0,Ne.symm y1,Ne.symm y2,him,hc,hp0,htx]
  refine cl hcn ?_
  have hR2 := hRs [d.now] (by rw [hp0]; rfl)
  simp -dsimp [List.range_succ,nes8 n1,k0,k1,k2,f0,f1,f2,z1,z2,z3,nes,g1,y0,y1,y2,yn,Ne.symm y0,Ne.symm y1,Ne.symm y2,him,hc,hp0,htx]
  refine callL_ (vs := [(⟨⟨d.now.people,R⟩,[d.now]⟩ : Desk).v]) (hR2 _ _) (by simp -dsimp [nes8 n1,k0,k1,k2,f0,f1,f2,z1,z2,z3,nes,g1,y0,y1,y2,yn,Ne.symm y0,Ne.symm y1,Ne.symm y2,him,hc,hp0]) ?_
  rintro t m2 n2 ⟨hn2,hout2,sn2,P2,rfl,hown2⟩
  have q2 := hout2 2 (by omega)
  simp -dsimp [nes8 n1,k0,k1,k2,f0,f1,f2,z1,z2,z3,nes,g1,y0,y1,y2,yn,Ne.symm y0,Ne.symm y1,Ne.symm y2,him] at q2
  have hfc := hown2.facts
  have hc2 := hfc.1
  have hcs2 := hfc.2.1
  have hcP2 := hfc.2.2.1
  have hcsP2 := hfc.2.2.2
  clear hfc
  simp -dsimp [dT,q2,hc2,hcs2,hcP2,hcsP2,htx,hp0,keep8]
  exact ⟨sn2,P2,rfl,hown2.keep (Nat.zero_le _) (by omega) fun j j1 j2 => by simp [show ¬ j = 2 by omega]⟩
 ·have g2 := far hr1
  have x0 : ¬ r = 0 := by omega
  have x1 : ¬ r = 1 := by omega
  have x2 : ¬ r = 2 := by omega
  have xi : ¬ r = id := fun h => hne (by rw [h])
  simp -dsimp [nes8 n1,k0,k1,k2,f0,f1,f2,z1,z2,z3,nes,g1,y0,y1,y2,yn,Ne.symm y0,Ne.symm y1,Ne.symm y2,him,g2,x0,x1,x2,xi,Ne.symm x0,Ne.symm x1,Ne.symm x2,Ne.symm xi,hrm,hc]
  refine twd (List.range 16) [n1] (List.replicate 12 [0] ++ [[],[],[],[]]) (List.replicate 15 [0] ++ [[]]) ?_
  simp -dsimp [List.range_succ,nes8 n1,k0,k1,k2,f0,f1,f2,z1,z2,z3,nes,g1,y0,y1,y2,yn,Ne.symm y0,Ne.symm y1,Ne.symm y2,him,g2,x0,x1,x2,xi,Ne.symm x0,Ne.symm x1,Ne.symm x2,Ne.symm xi,hrm,hc]
  refine call_ hls (by simp -dsimp [nes8 n1,k0,k1,k2,f0,f1,f2,z1,z2,z3,nes,g1,y0,y1,y2,yn,Ne.symm y0,Ne.symm y1,Ne.symm y2,him,g2,x0,x1,x2,xi,Ne.symm x0,Ne.symm x1,Ne.symm x2,Ne.symm xi,hrm,hc]) ?_
  simp -dsimp [List.range_succ,nes8 n1,k0,k1,k2,f0,f1,f2,z1,z2,z3,nes,g1,y0,y1,y2,yn,Ne.symm y0,Ne.symm y1,Ne.symm y2,him,g2,x0,x1,x2,xi,Ne.symm x0,Ne.symm x1,Ne.symm x2,Ne.symm xi,hrm,hc]
  refine twd [0,1,2,3,4,5,6,7,8,10,11,9,12,13,14] [0,n1] (List.replicate 15 [0,1]) (List.replicate 15 [0,1]) ?_
  simp -dsimp [nes8 n1,k0,k1,k2,f0,f1,f2,z1,z2,z3,nes,g1,y0,y1,y2,yn,Ne.symm y0,Ne.symm y1,Ne.symm y2,him,g2,x0,x1,x2,xi,Ne.symm x0,Ne.symm x1,Ne.symm x2,Ne.symm xi,hrm,hc]
  refine call_ hpo (by simp -dsimp [nes8 n1,k0,k1,k2,f0,f1,f2,z1,z2,z3,nes,g1,y0,y1,y2,yn,Ne.symm y0,Ne.symm y1,Ne.symm y2,him,g2,x0,x1,x2,xi,Ne.symm x0,Ne.symm x1,Ne.symm x2,Ne.symm xi,hrm,hc]) ?_
  rcases hkX with rfl | rfl
  ·simp -dsimp [nes8 n1,k0,k1,k2,f0,f1,f2,z1,z2,z3,nes,g1,y0,y1,y2,yn,Ne.symm y0,Ne.symm y1,Ne.symm y2,him,g2,x0,x1,x2,xi,Ne.symm x0,Ne.symm x1,Ne.symm x2,Ne.symm xi,hrm,hc]
   refine callL_ (vs := [d.v]) (hcopyK _ _) (by simp -dsimp [hc]) ?_
   rintro t m2 n2 ⟨hn2,hout2,sn2,P2,rfl,hown2⟩
   have q2 := hout2 2 (by omega)
   simp -dsimp [nes8 n1,k0,k1,k2,f0,f1,f2,z1,z2,z3,nes,g1,y0,y1,y2,yn,Ne.symm y0,Ne.symm y1,Ne.symm y2,him,g2,x0,x1,x2,xi,Ne.symm x0,Ne.symm x1,Ne.symm x2,Ne.symm xi,hrm] at q2
   have hfc := hown2.facts
   have hc2 := hfc.1
   have hcs2 := hfc.2.1
   have hcP2 := hfc.2.2.1
   have hcsP2 := hfc.2.2.2
   clear hfc
   simp -dsimp [dT,q2,hc2,hcs2,hcP2,hcsP2]
   exact ⟨sn2,P2,rfl,hown2.keep (Nat.zero_le _) (by omega) fun j j1 j2 => by simp [show ¬ j = 2 by omega]⟩
  simp -dsimp [nes8 n1,k0,k1,k2,f0,f1,f2,z1,z2,z3,nes,g1,y0,y1,y2,yn,Ne.symm y0,Ne.symm y1,Ne.symm y2,him,g2,x0,x1,x2,xi,Ne.symm x0,Ne.symm x1,Ne.symm x2,Ne.symm xi,hrm,hc]
  refine call_ hpt (by simp -dsimp [nes8 n1,k0,k1,k2,f0,f1,f2,z1,z2,z3,nes,g1,y0,y1,y2,yn,Ne.symm y0,Ne.symm y1,Ne.symm y2,him,g2,x0,x1,x2,xi,Ne.symm x0,Ne.symm x1,Ne.symm x2,Ne.symm xi,hrm,hc]) ?_
  simp -dsimp [nes8 n1,k0,k1,k2,f0,f1,f2,z1,z2,z3,nes,g1,y0,y1,y2,yn,Ne.symm y0,Ne.symm y1,Ne.symm y2,him,g2,x0,x1,x2,xi,Ne.symm x0,Ne.symm x1,Ne.symm x2,Ne.symm xi,hrm,hc]
  refine cl hpn ?_
  rcases htx with rfl | htx
  ·simp -dsimp [nes8 n1,k0,k1,k2,f0,f1,f2,z1,z2,z3,nes,g1,y0,y1,y2,yn,Ne.symm y0,Ne.symm y1,Ne.symm y2,him,g2,x0,x1,x2,xi,Ne.symm x0,Ne.symm x1,Ne.symm x2,Ne.symm xi,hrm,hc]
   refine callL_ (vs := [d.v]) (hcopyK _ _) (by simp -dsimp [hc]) ?_
   rintro t m2 n2 ⟨hn2,hout2,sn2,P2,rfl,hown2⟩
   have q2 := hout2 2 (by omega)
   simp -dsimp [nes8 n1,k0,k1,k2,f0,f1,f2,z1,z2,z3,nes,g1,y0,y1,y2,yn,Ne.symm y0,Ne.symm y1,Ne.symm y2,him,g2,x0,x1,x2,xi,Ne.symm x0,Ne.symm x1,Ne.symm x2,Ne.symm xi,hrm] at q2
   have hfc := hown2.facts
   have hc2 := hfc.1
   have hcs2 := hfc.2.1
   have hcP2 := hfc.2.2.1
   have hcsP2 := hfc.2.2.2
   clear hfc
   simp -dsimp [dT,q2,hc2,hcs2,hcP2,hcsP2]
   exact ⟨sn2,P2,rfl,hown2.keep (Nat.zero_le _) (by omega) fun j j1 j2 => by simp [show ¬ j = 2 by omega]⟩
  have hRs := hR rfl
  simp -dsimp [nes8 n1,k0,k1,k2,f0,f1,f2,z1,z2,z3,nes,g1,y0,y1,y2,yn,Ne.symm y0,Ne.symm y1,Ne.symm y2,him,g2,x0,x1,x2,xi,Ne.symm x0,Ne.symm x1,Ne.symm x2,Ne.symm xi,hrm,hc,htx]
  refine twd (List.range 9) [0,n1] (List.replicate 9 [0,1]) (List.replicate 8 [0,1] ++ [[0]]) ?_
  simp -dsimp [List.range_succ,nes8 n1,k0,k1,k2,f0,f1,f2,z1,z2,z3,nes,g1,y0,y1,y2,yn,Ne.symm y0,Ne.symm y1,Ne.symm y2,him,g2,x0,x1,x2,xi,Ne.symm x0,Ne.symm x1,Ne.symm x2,Ne.symm xi,hrm,hc,htx]
  refine cl hcn ?_
  by_cases h8 : d.past.length = 8
  ·have e8 : (d.past.length : Int) = 8 := by omega
   have ek : keep8 (d.past ++ [d.now]) = (d.past ++ [d.now]).tail := by unfold keep8; rw [if_pos (by simp [h8])]; simp
   have hR2 := hRs (d.past ++ [d.now]).tail ek
   have tk : List.take 9 (List.map Place.v d.past ++ [d.now.v]) = List.map Place.v d.past ++ [d.now.v] := List.take_of_length_le (by simp [h8])
   have zk : allZ 2 (List.map Place.v d.past ++ [d.now.v]).tail := fun x hx => zplaces x (List.mem_of_mem_tail hx)
   simp only [Place.v,storyV] at tk zk
   simp -dsimp [List.range_succ,nes8 n1,k0,k1,k2,f0,f1,f2,z1,z2,z3,nes,g1,y0,y1,y2,yn,Ne.symm y0,Ne.symm y1,Ne.symm y2,him,g2,x0,x1,x2,xi,Ne.symm x0,Ne.symm x1,Ne.symm x2,Ne.symm xi,hrm,hc,htx,fullb,h8,e8,tk,zk]
   refine callL_ (vs := [(⟨⟨d.now.people,R⟩,(d.past ++ [d.now]).tail⟩ : Desk).v]) (hR2 _ _) (by simp -dsimp [nes8 n1,k0,k1,k2,f0,f1,f2,z1,z2,z3,nes,g1,y0,y1,y2,yn,Ne.symm y0,Ne.symm y1,Ne.symm y2,him,g2,x0,x1,x2,xi,Ne.symm x0,Ne.symm x1,Ne.symm x2,Ne.symm xi,hrm,hc,List.map_tail,List.map_append]) ?_
   rintro t m2 n2 ⟨hn2,hout2,sn2,P2,rfl,hown2⟩
   have q2 := hout2 2 (by omega)
   simp -dsimp [nes8 n1,k0,k1,k2,f0,f1,f2,z1,z2,z3,nes,g1,y0,y1,y2,yn,Ne.symm y0,Ne.symm y1,Ne.symm y2,him,g2,x0,x1,x2,xi,Ne.symm x0,Ne.symm x1,Ne.symm x2,Ne.symm xi,hrm] at q2
   have hfc := hown2.facts
   have hc2 := hfc.1
   have hcs2 := hfc.2.1
   have hcP2 := hfc.2.2.1
   have hcsP2 := hfc.2.2.2
   clear hfc
   simp -dsimp [dT,q2,hc2,hcs2,hcP2,hcsP2,htx,ek]
   exact ⟨sn2,P2,rfl,hown2.keep (Nat.zero_le _) (by omega) fun j j1 j2 => by simp [show ¬ j = 2 by omega]⟩
  ·have e8 : d.past.length < 8 := by omega
   have e8' : ¬ (8 : Int) < (d.past.length : Int) + 1 := by omega
   have e8'' : ¬ 8 < d.past.length + 1 := by omega
   have ek : keep8 (d.past ++ [d.now]) = d.past ++ [d.now] := by unfold keep8; rw [if_neg (by simp; omega)]
   have hR2 := hRs (d.past ++ [d.now]) ek
   simp -dsimp [List.range_succ,nes8 n1,k0,k1,k2,f0,f1,f2,z1,z2,z3,nes,g1,y0,y1,y2,yn,Ne.symm y0,Ne.symm y1,Ne.symm y2,him,g2,x0,x1,x2,xi,Ne.symm x0,Ne.symm x1,Ne.symm x2,Ne.symm xi,hrm,hc,htx,fullb,h8,e8,e8',e8'']
   refine callL_ (vs := [(⟨⟨d.now.people,R⟩,d.past ++ [d.now]⟩ : Desk).v]) (hR2 _ _) (by simp -dsimp [nes8 n1,k0,k1,k2,f0,f1,f2,z1,z2,z3,nes,g1,y0,y1,y2,yn,Ne.symm y0,Ne.symm y1,Ne.symm y2,him,g2,x0,x1,x2,xi,Ne.symm x0,Ne.symm x1,Ne.symm x2,Ne.symm xi,hrm,hc]) ?_
   rintro t m2 n2 ⟨hn2,hout2,sn2,P2,rfl,hown2⟩
   have q2 := hout2 2 (by omega)
   simp -dsimp [nes8 n1,k0,k1,k2,f0,f1,f2,z1,z2,z3,nes,g1,y0,y1,y2,yn,Ne.symm y0,Ne.symm y1,Ne.symm y2,him,g2,x0,x1,x2,xi,Ne.symm x0,Ne.symm x1,Ne.symm x2,Ne.symm xi,hrm] at q2
   have hfc := hown2.facts
   have hc2 := hfc.1
   have hcs2 := hfc.2.1
   have hcP2 := hfc.2.2.1
   have hcsP2 := hfc.2.2.2
   clear hfc
   simp -dsimp [dT,q2,hc2,hcs2,hcP2,hcsP2,htx,ek]
   exact ⟨sn2,P2,rfl,hown2.keep (Nat.zero_le _) (by omega) fun j j1 j2 => by simp [show ¬ j = 2 by omega]⟩
end TL

namespace TL
open Go Go.Proofs
attribute [local simp] marksV storyV codeV Claim.v Place.v Deed.v Desk.v
theorem do_drop_k (d : Desk) (k : Nat) (hd : d.small) (hk : deskOk d = true) (X : Place) (hXl : X.story.length ≤ 7) (hlt : k < d.now.story.length) (hX : X = ⟨d.now.people,d.now.story.eraseIdx k⟩) :
  FnS Tryz.prog 30 (fun _ => none) 0 [.v d.v,.v (⟨1,(k : Int),[]⟩ : Deed).v] (PostK (if (placeOk X && !decide (placeTx X = placeTx d.now)) = true then ((⟨X,keep8 (d.past ++ [d.now])⟩,true) : Desk × Bool) else (d,false))) := by
 have hpo := placeOk_fn X (by omega)
 have hpt := placeText_fn X (by omega)
 have hpn := placeText_fn d.now (by have := hd.1.1; omega)
 have hcn := copyPlace_fn d.now hd.1
 have hok := deskOk_fn d (by have := hd.2.1; omega) (by have := hd.1.1; omega) (fun p hp => by have := (hd.2.2 p hp).1; omega)
 rw [hk] at hok
 obtain ⟨hpast,hnow,hp8⟩ := deskOk_iff.1 hk
 have hcopy := fun m n => copyDesk_own d hd m n
 have hcopyK := fun m n => copyDesk_k d hd hk m n
 have fullb : (d.past.length + 1) * 32 ≤ 140737488355328 := by omega
 have zplaces : allZ 2 (List.map Place.v d.past ++ [d.now.v]) := fun x hx => by
  rcases List.mem_append.1 hx with hx | hx
  ·obtain ⟨p,_,rfl⟩ := List.mem_map.1 hx; exact ⟨by simp,by simp⟩
  ·rw [List.mem_singleton.1 hx]; exact ⟨by simp,by simp⟩
 have hR : placeOk X = true → ∀ l,keep8 (d.past ++ [d.now]) = l → ∀ m n,FnS Tryz.prog 31 m n [.v (⟨X,l⟩ : Desk).v] (DeepK ⟨X,l⟩ m n) := fun hX l hl m n => by
  have ok : deskOk ⟨X,l⟩ = true := deskOk_iff.2 ⟨fun p hp => by
   rw [← hl] at hp
   rcases List.mem_append.1 (keep8_mem hp) with h1 | h1
   ·exact hpast p h1
   ·rw [List.mem_singleton.1 h1]; exact hnow,hX,by rw [← hl]; exact keep8_len _ (by simp; omega)⟩
  exact copyDesk_k ⟨X,l⟩ (desk_fine ok).1 ok m n
 have hw := without_fn d.now.story k hlt (by have := hd.1.1; omega)
 have hkX := ft (placeOk X)
 have htx : placeTx X = placeTx d.now ∨ ¬ placeTx X = placeTx d.now := Classical.em _
 generalize placeTx X = tX at *
 generalize placeTx d.now = tN at *
 generalize placeOk X = okX at *
 subst hX
 have c1 : ¬ (d.now.story.length : Int) ≤ k := by omega
 have c2 : ¬ d.now.story.length ≤ k := by omega
 have c3 : ¬ (k : Int) < 0 := by omega
 generalize d.now.story.eraseIdx k = R at *
 refine FS (rs := [.cell 4 34,.tmp 5]) false Tryz.func30 ?_
 simp -dsimp
 refine cl hok ?_
 simp -dsimp
 refine callL_ (vs := [d.v]) (hcopy _ _) (by simp -dsimp) ?_
 rintro t m1 n1 ⟨hn1,hout,id,st,rfl,hi0,hi1,him,hst,hne⟩
 have k0 := hout 0 (by omega)
 have k1 := hout 1 (by omega)
 have k2 := hout 2 (by omega)
 simp -dsimp at k0 k1 k2
 have f0 := far (show 0 < n1 by omega)
 have f1 := far (show 1 < n1 by omega)
 have f2 := far (show 2 < n1 by omega)
 have z1 : ¬ n1 = 0 := by omega
 have z2 : ¬ n1 = 1 := by omega
 have z3 : ¬ n1 = 2 := by omega
 have g1 := far hi1
 have y0 : ¬ id = 0 := by omega
 have y1 : ¬ id = 1 := by omega
 have y2 : ¬ id = 2 := by omega
 have yn : ¬ id = n1 := by omega
 have hc := hst.cell
 rcases hst with ⟨rfl,hs0⟩ | ⟨r,rfl,hr0,hr1,hrm⟩
 ·have hp0 : d.past = [] := by simpa using hs0
  simp -dsimp [nes8 n1,k0,k1,k2,f0,f1,f2,z1,z2,z3,nes,g1,y0,y1,y2,yn,Ne.symm y0,Ne.symm y1,Ne.symm y2,him,hc,c1,c2,c3]
  refine twd (List.range 13) [1,n1,id] (List.replicate 13 [0,1,2]) (List.replicate 13 [0,1,2]) ?_
  simp -dsimp [List.range_succ,nes8 n1,k0,k1,k2,f0,f1,f2,z1,z2,z3,nes,g1,y0,y1,y2,yn,Ne.symm y0,Ne.symm y1,Ne.symm y2,him,hc,c1,c2,c3]
  refine twd (List.range 11) [1,n1] (List.replicate 8 [0,1] ++ [[],[],[]]) (List.replicate 10 [0,1] ++ [[0]]) ?_
  simp -dsimp [List.range_succ,nes8 n1,k0,k1,k2,f0,f1,f2,z1,z2,z3,nes,g1,y0,y1,y2,yn,Ne.symm y0,Ne.symm y1,Ne.symm y2,him,hc,c1,c2,c3]
  refine call_ hw (by simp -dsimp [nes8 n1,k0,k1,k2,f0,f1,f2,z1,z2,z3,nes,g1,y0,y1,y2,yn,Ne.symm y0,Ne.symm y1,Ne.symm y2,him,hc,c1,c2,c3]) ?_
  simp -dsimp [List.range_succ,nes8 n1,k0,k1,k2,f0,f1,f2,z1,z2,z3,nes,g1,y0,y1,y2,yn,Ne.symm y0,Ne.symm y1,Ne.symm y2,him,hc,c1,c2,c3]
  refine twd [0,1,2,3,4,5,6,7,8,10,11,9,12,13,14] [0,n1] (List.replicate 15 [0,1]) (List.replicate 15 [0,1]) ?_
  simp -dsimp [nes8 n1,k0,k1,k2,f0,f1,f2,z1,z2,z3,nes,g1,y0,y1,y2,yn,Ne.symm y0,Ne.symm y1,Ne.symm y2,him,hc,c1,c2,c3,hp0]
  refine call_ hpo (by simp -dsimp [nes8 n1,k0,k1,k2,f0,f1,f2,z1,z2,z3,nes,g1,y0,y1,y2,yn,Ne.symm y0,Ne.symm y1,Ne.symm y2,him,hc,c1,c2,c3,hp0]) ?_
  rcases hkX with rfl | rfl
  ·simp -dsimp [nes8 n1,k0,k1,k2,f0,f1,f2,z1,z2,z3,nes,g1,y0,y1,y2,yn,Ne.symm y0,Ne.symm y1,Ne.symm y2,him,hc,c1,c2,c3,hp0]
   refine callL_ (vs := [d.v]) (hcopyK _ _) (by simp -dsimp [hc,c1,c2,c3,hp0]) ?_
   rintro t m2 n2 ⟨hn2,hout2,sn2,P2,rfl,hown2⟩
   have q2 := hout2 2 (by omega)
   simp -dsimp [nes8 n1,k0,k1,k2,f0,f1,f2,z1,z2,z3,nes,g1,y0,y1,y2,yn,Ne.symm y0,Ne.symm y1,Ne.symm y2,him] at q2
   have hfc := hown2.facts
   have hc2 := hfc.1
   have hcs2 := hfc.2.1
   have hcP2 := hfc.2.2.1
   have hcsP2 := hfc.2.2.2
   clear hfc
   simp -dsimp [dT,q2,hc2,hcs2,hcP2,hcsP2]
   exact ⟨sn2,P2,rfl,hown2.keep (Nat.zero_le _) (by omega) fun j j1 j2 => by simp [show ¬ j = 2 by omega]⟩
  simp -dsimp [nes8 n1,k0,k1,k2,f0,f1,f2,z1,z2,z3,nes,g1,y0,y1,y2,yn,Ne.symm y0,Ne.symm y1,Ne.symm y2,him,hc,c1,c2,c3,hp0]
  refine call_ hpt (by simp -dsimp [nes8 n1,k0,k1,k2,f0,f1,f2,z1,z2,z3,nes,g1,y0,y1,y2,yn,Ne.symm y0,Ne.symm y1,Ne.symm y2,him,hc,c1,c2,c3,hp0]) ?_
  simp -dsimp [nes8 n1,k0,k1,k2,f0,f1,f2,z1,z2,z3,nes,g1,y0,y1,y2,yn,Ne.symm y0,Ne.symm y1,Ne.symm y2,him,hc,c1,c2,c3,hp0]
  refine cl hpn ?_
  rcases htx with rfl | htx
  ·simp -dsimp [nes8 n1,k0,k1,k2,f0,f1,f2,z1,z2,z3,nes,g1,y0,y1,y2,yn,Ne.symm y0,Ne.symm y1,Ne.symm y2,him,hc,c1,c2,c3,hp0]
   refine callL_ (vs := [d.v]) (hcopyK _ _) (by simp -dsimp [hc,c1,c2,c3,hp0]) ?_
   rintro t m2 n2 ⟨hn2,hout2,sn2,P2,rfl,hown2⟩
   have q2 := hout2 2 (by omega)
   simp -dsimp [nes8 n1,k0,k1,k2,f0,f1,f2,z1,z2,z3,nes,g1,y0,y1,y2,yn,Ne.symm y0,Ne.symm y1,Ne.symm y2,him] at q2
   have hfc := hown2.facts
   have hc2 := hfc.1
   have hcs2 := hfc.2.1
   have hcP2 := hfc.2.2.1
   have hcsP2 := hfc.2.2.2
   clear hfc
   simp -dsimp [dT,q2,hc2,hcs2,hcP2,hcsP2]
   exact ⟨sn2,P2,rfl,hown2.keep (Nat.zero_le _) (by omega) fun j j1 j2 => by simp [show ¬ j = 2 by omega]⟩
  have hRs := hR rfl
  simp -dsimp [nes8 n1,k0,k1,k2,f0,f1,f2,z1,z2,z3,nes,g1,y0,y1,y2,yn,Ne.symm y0,Ne.symm y1,Ne.symm y2,him,hc,c1,c2,c3,hp0,htx]
  refine twd (List.range 9) [0,n1] (List.replicate 9 [0,1]) (List.replicate 8 [0,1] ++ [[0]]) ?_
  simp -dsimp [List.range_succ,nes8 n1,k0,k1,k2,f0,f1,f2,z1,z2,z3,nes,g1,y0,y1,y2,yn,Ne.symm y0,Ne.symm y1,Ne.symm y2,him,hc,c1,c2,c3,hp0,htx]
  refine cl hcn ?_
  have hR2 := hRs [d.now] (by rw [hp0]; rfl)
  simp -dsimp [List.range_succ,nes8 n1,k0,k1,k2,f0,f1,f2,z1,z2,z3,nes,g1,y0,y1,y2,yn,Ne.symm y0,Ne.symm y1,Ne.symm y2,him,hc,c1,c2,c3,hp0,htx]
  refine callL_ (vs := [(⟨⟨d.now.people,R⟩,[d.now]⟩ : Desk).v]) (hR2 _ _) (by simp -dsimp [nes8 n1,k0,k1,k2,f0,f1,f2,z1,z2,z3,nes,g1,y0,y1,y2,yn,Ne.symm y0,Ne.symm y1,Ne.symm y2,him,hc,c1,c2,c3,hp0]) ?_
  rintro t m2 n2 ⟨hn2,hout2,sn2,P2,rfl,hown2⟩
  have q2 := hout2 2 (by omega)
  simp -dsimp [nes8 n1,k0,k1,k2,f0,f1,f2,z1,z2,z3,nes,g1,y0,y1,y2,yn,Ne.symm y0,Ne.symm y1,Ne.symm y2,him] at q2
  have hfc := hown2.facts
  have hc2 := hfc.1
  have hcs2 := hfc.2.1
  have hcP2 := hfc.2.2.1
  have hcsP2 := hfc.2.2.2
  clear hfc
  simp -dsimp [dT,q2,hc2,hcs2,hcP2,hcsP2,htx,hp0,keep8]
  exact ⟨sn2,P2,rfl,hown2.keep (Nat.zero_le _) (by omega) fun j j1 j2 => by simp [show ¬ j = 2 by omega]⟩
 ·have g2 := far hr1
  have x0 : ¬ r = 0 := by omega
  have x1 : ¬ r = 1 := by omega
  have x2 : ¬ r = 2 := by omega
  have xi : ¬ r = id := fun h => hne (by rw [h])
  simp -dsimp [nes8 n1,k0,k1,k2,f0,f1,f2,z1,z2,z3,nes,g1,y0,y1,y2,yn,Ne.symm y0,Ne.symm y1,Ne.symm y2,him,g2,x0,x1,x2,xi,Ne.symm x0,Ne.symm x1,Ne.symm x2,Ne.symm xi,hrm,hc,c1,c2,c3]
  refine twd (List.range 13) [1,n1,id] (List.replicate 13 [0,1,2]) (List.replicate 13 [0,1,2]) ?_
  simp -dsimp [List.range_succ,nes8 n1,k0,k1,k2,f0,f1,f2,z1,z2,z3,nes,g1,y0,y1,y2,yn,Ne.symm y0,Ne.symm y1,Ne.symm y2,him,g2,x0,x1,x2,xi,Ne.symm x0,Ne.symm x1,Ne.symm x2,Ne.symm xi,hrm,hc,c1,c2,c3]
  refine twd (List.range 11) [1,n1] (List.replicate 8 [0,1] ++ [[],[],[]]) (List.replicate 10 [0,1] ++ [[0]]) ?_
  simp -dsimp [List.range_succ,nes8 n1,k0,k1,k2,f0,f1,f2,z1,z2,z3,nes,g1,y0,y1,y2,yn,Ne.symm y0,Ne.symm y1,Ne.symm y2,him,g2,x0,x1,x2,xi,Ne.symm x0,Ne.symm x1,Ne.symm x2,Ne.symm xi,hrm,hc,c1,c2,c3]
  refine call_ hw (by simp -dsimp [nes8 n1,k0,k1,k2,f0,f1,f2,z1,z2,z3,nes,g1,y0,y1,y2,yn,Ne.symm y0,Ne.symm y1,Ne.symm y2,him,g2,x0,x1,x2,xi,Ne.symm x0,Ne.symm x1,Ne.symm x2,Ne.symm xi,hrm,hc,c1,c2,c3]) ?_
  simp -dsimp [List.range_succ,nes8 n1,k0,k1,k2,f0,f1,f2,z1,z2,z3,nes,g1,y0,y1,y2,yn,Ne.symm y0,Ne.symm y1,Ne.symm y2,him,g2,x0,x1,x2,xi,Ne.symm x0,Ne.symm x1,Ne.symm x2,Ne.symm xi,hrm,hc,c1,c2,c3]
  refine twd [0,1,2,3,4,5,6,7,8,10,11,9,12,13,14] [0,n1] (List.replicate 15 [0,1]) (List.replicate 15 [0,1]) ?_
  simp -dsimp [nes8 n1,k0,k1,k2,f0,f1,f2,z1,z2,z3,nes,g1,y0,y1,y2,yn,Ne.symm y0,Ne.symm y1,Ne.symm y2,him,g2,x0,x1,x2,xi,Ne.symm x0,Ne.symm x1,Ne.symm x2,Ne.symm xi,hrm,hc,c1,c2,c3]
  refine call_ hpo (by simp -dsimp [nes8 n1,k0,k1,k2,f0,f1,f2,z1,z2,z3,nes,g1,y0,y1,y2,yn,Ne.symm y0,Ne.symm y1,Ne.symm y2,him,g2,x0,x1,x2,xi,Ne.symm x0,Ne.symm x1,Ne.symm x2,Ne.symm xi,hrm,hc,c1,c2,c3]) ?_
  rcases hkX with rfl | rfl
  ·simp -dsimp [nes8 n1,k0,k1,k2,f0,f1,f2,z1,z2,z3,nes,g1,y0,y1,y2,yn,Ne.symm y0,Ne.symm y1,Ne.symm y2,him,g2,x0,x1,x2,xi,Ne.symm x0,Ne.symm x1,Ne.symm x2,Ne.symm xi,hrm,hc,c1,c2,c3]
   refine callL_ (vs := [d.v]) (hcopyK _ _) (by simp -dsimp [hc,c1,c2,c3]) ?_
   rintro t m2 n2 ⟨hn2,hout2,sn2,P2,rfl,hown2⟩
   have q2 := hout2 2 (by omega)
   simp -dsimp [nes8 n1,k0,k1,k2,f0,f1,f2,z1,z2,z3,nes,g1,y0,y1,y2,yn,Ne.symm y0,Ne.symm y1,Ne.symm y2,him,g2,x0,x1,x2,xi,Ne.symm x0,Ne.symm x1,Ne.symm x2,Ne.symm xi,hrm] at q2
   have hfc := hown2.facts
   have hc2 := hfc.1
   have hcs2 := hfc.2.1
   have hcP2 := hfc.2.2.1
   have hcsP2 := hfc.2.2.2
   clear hfc
   simp -dsimp [dT,q2,hc2,hcs2,hcP2,hcsP2]
   exact ⟨sn2,P2,rfl,hown2.keep (Nat.zero_le _) (by omega) fun j j1 j2 => by simp [show ¬ j = 2 by omega]⟩
  simp -dsimp [nes8 n1,k0,k1,k2,f0,f1,f2,z1,z2,z3,nes,g1,y0,y1,y2,yn,Ne.symm y0,Ne.symm y1,Ne.symm y2,him,g2,x0,x1,x2,xi,Ne.symm x0,Ne.symm x1,Ne.symm x2,Ne.symm xi,hrm,hc,c1,c2,c3]
  refine call_ hpt (by simp -dsimp [nes8 n1,k0,k1,k2,f0,f1,f2,z1,z2,z3,nes,g1,y0,y1,y2,yn,Ne.symm y0,Ne.symm y1,Ne.symm y2,him,g2,x0,x1,x2,xi,Ne.symm x0,Ne.symm x1,Ne.symm x2,Ne.symm xi,hrm,hc,c1,c2,c3]) ?_
  simp -dsimp [nes8 n1,k0,k1,k2,f0,f1,f2,z1,z2,z3,nes,g1,y0,y1,y2,yn,Ne.symm y0,Ne.symm y1,Ne.symm y2,him,g2,x0,x1,x2,xi,Ne.symm x0,Ne.symm x1,Ne.symm x2,Ne.symm xi,hrm,hc,c1,c2,c3]
  refine cl hpn ?_
  rcases htx with rfl | htx
  ·simp -dsimp [nes8 n1,k0,k1,k2,f0,f1,f2,z1,z2,z3,nes,g1,y0,y1,y2,yn,Ne.symm y0,Ne.symm y1,Ne.symm y2,him,g2,x0,x1,x2,xi,Ne.symm x0,Ne.symm x1,Ne.symm x2,Ne.symm xi,hrm,hc,c1,c2,c3]
   refine callL_ (vs := [d.v]) (hcopyK _ _) (by simp -dsimp [hc,c1,c2,c3]) ?_
   rintro t m2 n2 ⟨hn2,hout2,sn2,P2,rfl,hown2⟩
   have q2 := hout2 2 (by omega)
   simp -dsimp [nes8 n1,k0,k1,k2,f0,f1,f2,z1,z2,z3,nes,g1,y0,y1,y2,yn,Ne.symm y0,Ne.symm y1,Ne.symm y2,him,g2,x0,x1,x2,xi,Ne.symm x0,Ne.symm x1,Ne.symm x2,Ne.symm xi,hrm] at q2
   have hfc := hown2.facts
   have hc2 := hfc.1
   have hcs2 := hfc.2.1
   have hcP2 := hfc.2.2.1
   have hcsP2 := hfc.2.2.2
   clear hfc
   simp -dsimp [dT,q2,hc2,hcs2,hcP2,hcsP2]
   exact ⟨sn2,P2,rfl,hown2.keep (Nat.zero_le _) (by omega) fun j j1 j2 => by simp [show ¬ j = 2 by omega]⟩
  have hRs := hR rfl
  simp -dsimp [nes8 n1,k0,k1,k2,f0,f1,f2,z1,z2,z3,nes,g1,y0,y1,y2,yn,Ne.symm y0,Ne.symm y1,Ne.symm y2,him,g2,x0,x1,x2,xi,Ne.symm x0,Ne.symm x1,Ne.symm x2,Ne.symm xi,hrm,hc,c1,c2,c3,htx]
  refine twd (List.range 9) [0,n1] (List.replicate 9 [0,1]) (List.replicate 8 [0,1] ++ [[0]]) ?_
  simp -dsimp [List.range_succ,nes8 n1,k0,k1,k2,f0,f1,f2,z1,z2,z3,nes,g1,y0,y1,y2,yn,Ne.symm y0,Ne.symm y1,Ne.symm y2,him,g2,x0,x1,x2,xi,Ne.symm x0,Ne.symm x1,Ne.symm x2,Ne.symm xi,hrm,hc,c1,c2,c3,htx]
  refine cl hcn ?_
  by_cases h8 : d.past.length = 8
  ·have e8 : (d.past.length : Int) = 8 := by omega
   have ek : keep8 (d.past ++ [d.now]) = (d.past ++ [d.now]).tail := by unfold keep8; rw [if_pos (by simp [h8])]; simp
   have hR2 := hRs (d.past ++ [d.now]).tail ek
   have tk : List.take 9 (List.map Place.v d.past ++ [d.now.v]) = List.map Place.v d.past ++ [d.now.v] := List.take_of_length_le (by simp [h8])
   have zk : allZ 2 (List.map Place.v d.past ++ [d.now.v]).tail := fun x hx => zplaces x (List.mem_of_mem_tail hx)
   simp only [Place.v,storyV] at tk zk
   simp -dsimp [List.range_succ,nes8 n1,k0,k1,k2,f0,f1,f2,z1,z2,z3,nes,g1,y0,y1,y2,yn,Ne.symm y0,Ne.symm y1,Ne.symm y2,him,g2,x0,x1,x2,xi,Ne.symm x0,Ne.symm x1,Ne.symm x2,Ne.symm xi,hrm,hc,c1,c2,c3,htx,fullb,h8,e8,tk,zk]
   refine callL_ (vs := [(⟨⟨d.now.people,R⟩,(d.past ++ [d.now]).tail⟩ : Desk).v]) (hR2 _ _) (by simp -dsimp [nes8 n1,k0,k1,k2,f0,f1,f2,z1,z2,z3,nes,g1,y0,y1,y2,yn,Ne.symm y0,Ne.symm y1,Ne.symm y2,him,g2,x0,x1,x2,xi,Ne.symm x0,Ne.symm x1,Ne.symm x2,Ne.symm xi,hrm,hc,c1,c2,c3,List.map_tail,List.map_append]) ?_
   rintro t m2 n2 ⟨hn2,hout2,sn2,P2,rfl,hown2⟩
   have q2 := hout2 2 (by omega)
   simp -dsimp [nes8 n1,k0,k1,k2,f0,f1,f2,z1,z2,z3,nes,g1,y0,y1,y2,yn,Ne.symm y0,Ne.symm y1,Ne.symm y2,him,g2,x0,x1,x2,xi,Ne.symm x0,Ne.symm x1,Ne.symm x2,Ne.symm xi,hrm] at q2
   have hfc := hown2.facts
   have hc2 := hfc.1
   have hcs2 := hfc.2.1
   have hcP2 := hfc.2.2.1
   have hcsP2 := hfc.2.2.2
   clear hfc
   simp -dsimp [dT,q2,hc2,hcs2,hcP2,hcsP2,htx,ek]
   exact ⟨sn2,P2,rfl,hown2.keep (Nat.zero_le _) (by omega) fun j j1 j2 => by simp [show ¬ j = 2 by omega]⟩
  ·have e8 : d.past.length < 8 := by omega
   have e8' : ¬ (8 : Int) < (d.past.length : Int) + 1 := by omega
   have e8'' : ¬ 8 < d.past.length + 1 := by omega
   have ek : keep8 (d.past ++ [d.now]) = d.past ++ [d.now] := by unfold keep8; rw [if_neg (by simp; omega)]
   have hR2 := hRs (d.past ++ [d.now]) ek
   simp -dsimp [List.range_succ,nes8 n1,k0,k1,k2,f0,f1,f2,z1,z2,z3,nes,g1,y0,y1,y2,yn,Ne.symm y0,Ne.symm y1,Ne.symm y2,him,g2,x0,x1,x2,xi,Ne.symm x0,Ne.symm x1,Ne.symm x2,Ne.symm xi,hrm,hc,c1,c2,c3,htx,fullb,h8,e8,e8',e8'']
   refine callL_ (vs := [(⟨⟨d.now.people,R⟩,d.past ++ [d.now]⟩ : Desk).v]) (hR2 _ _) (by simp -dsimp [nes8 n1,k0,k1,k2,f0,f1,f2,z1,z2,z3,nes,g1,y0,y1,y2,yn,Ne.symm y0,Ne.symm y1,Ne.symm y2,him,g2,x0,x1,x2,xi,Ne.symm x0,Ne.symm x1,Ne.symm x2,Ne.symm xi,hrm,hc,c1,c2,c3]) ?_
   rintro t m2 n2 ⟨hn2,hout2,sn2,P2,rfl,hown2⟩
   have q2 := hout2 2 (by omega)
   simp -dsimp [nes8 n1,k0,k1,k2,f0,f1,f2,z1,z2,z3,nes,g1,y0,y1,y2,yn,Ne.symm y0,Ne.symm y1,Ne.symm y2,him,g2,x0,x1,x2,xi,Ne.symm x0,Ne.symm x1,Ne.symm x2,Ne.symm xi,hrm] at q2
   have hfc := hown2.facts
   have hc2 := hfc.1
   have hcs2 := hfc.2.1
   have hcP2 := hfc.2.2.1
   have hcsP2 := hfc.2.2.2
   clear hfc
   simp -dsimp [dT,q2,hc2,hcs2,hcP2,hcsP2,htx,ek]
   exact ⟨sn2,P2,rfl,hown2.keep (Nat.zero_le _) (by omega) fun j j1 j2 => by simp [show ¬ j = 2 by omega]⟩
end TL

namespace TL
open Go Go.Proofs
attribute [local simp] marksV storyV codeV Claim.v Place.v Deed.v Desk.v
theorem do_say_k (d : Desk) (words : List UInt8) (c : Claim) (hd : d.small) (hk : deskOk d = true) (X : Place) (hXl : X.story.length ≤ 7) (hr : readC d.now.people words = some c) (hwl : words.length ≤ 1000000000) (hX : X = ⟨d.now.people,d.now.story ++ [c]⟩) :
  FnS Tryz.prog 30 (fun _ => none) 0 [.v d.v,.v (⟨0,0,words⟩ : Deed).v] (PostK (if (placeOk X && !decide (placeTx X = placeTx d.now)) = true then ((⟨X,keep8 (d.past ++ [d.now])⟩,true) : Desk × Bool) else (d,false))) := by
 have hpo := placeOk_fn X (by omega)
 have hpt := placeText_fn X (by omega)
 have hpn := placeText_fn d.now (by have := hd.1.1; omega)
 have hcn := copyPlace_fn d.now hd.1
 have hok := deskOk_fn d (by have := hd.2.1; omega) (by have := hd.1.1; omega) (fun p hp => by have := (hd.2.2 p hp).1; omega)
 rw [hk] at hok
 obtain ⟨hpast,hnow,hp8⟩ := deskOk_iff.1 hk
 have hcopy := fun m n => copyDesk_own d hd m n
 have hcopyK := fun m n => copyDesk_k d hd hk m n
 have fullb : (d.past.length + 1) * 32 ≤ 140737488355328 := by omega
 have zplaces : allZ 2 (List.map Place.v d.past ++ [d.now.v]) := fun x hx => by
  rcases List.mem_append.1 hx with hx | hx
  ·obtain ⟨p,_,rfl⟩ := List.mem_map.1 hx; exact ⟨by simp,by simp⟩
  ·rw [List.mem_singleton.1 hx]; exact ⟨by simp,by simp⟩
 have hR : placeOk X = true → ∀ l,keep8 (d.past ++ [d.now]) = l → ∀ m n,FnS Tryz.prog 31 m n [.v (⟨X,l⟩ : Desk).v] (DeepK ⟨X,l⟩ m n) := fun hX l hl m n => by
  have ok : deskOk ⟨X,l⟩ = true := deskOk_iff.2 ⟨fun p hp => by
   rw [← hl] at hp
   rcases List.mem_append.1 (keep8_mem hp) with h1 | h1
   ·exact hpast p h1
   ·rw [List.mem_singleton.1 h1]; exact hnow,hX,by rw [← hl]; exact keep8_len _ (by simp; omega)⟩
  exact copyDesk_k ⟨X,l⟩ (desk_fine ok).1 ok m n
 have hrc := readClaim_fn d.now.people words (by omega)
 rw [hr] at hrc
 have b1 : (d.now.story.length + 1) * 32 ≤ 140737488355328 := by have := hd.1.1; omega
 have hkX := ft (placeOk X)
 have htx : placeTx X = placeTx d.now ∨ ¬ placeTx X = placeTx d.now := Classical.em _
 generalize placeTx X = tX at *
 generalize placeTx d.now = tN at *
 generalize placeOk X = okX at *
 subst hX
 refine FS (rs := [.cell 4 34,.tmp 5]) false Tryz.func30 ?_
 simp -dsimp
 refine cl hok ?_
 simp -dsimp
 refine callL_ (vs := [d.v]) (hcopy _ _) (by simp -dsimp) ?_
 rintro t m1 n1 ⟨hn1,hout,id,st,rfl,hi0,hi1,him,hst,hne⟩
 have k0 := hout 0 (by omega)
 have k1 := hout 1 (by omega)
 have k2 := hout 2 (by omega)
 simp -dsimp at k0 k1 k2
 have f0 := far (show 0 < n1 by omega)
 have f1 := far (show 1 < n1 by omega)
 have f2 := far (show 2 < n1 by omega)
 have z1 : ¬ n1 = 0 := by omega
 have z2 : ¬ n1 = 1 := by omega
 have z3 : ¬ n1 = 2 := by omega
 have g1 := far hi1
 have y0 : ¬ id = 0 := by omega
 have y1 : ¬ id = 1 := by omega
 have y2 : ¬ id = 2 := by omega
 have yn : ¬ id = n1 := by omega
 have hc := hst.cell
 rcases hst with ⟨rfl,hs0⟩ | ⟨r,rfl,hr0,hr1,hrm⟩
 ·have hp0 : d.past = [] := by simpa using hs0
  simp -dsimp [nes8 n1,k0,k1,k2,f0,f1,f2,z1,z2,z3,nes,g1,y0,y1,y2,yn,Ne.symm y0,Ne.symm y1,Ne.symm y2,him,hc,b1]
  refine twd [0,1,2,3,4,5,1006,7,8,9,10,11,12] [1,n1] (List.replicate 13 [0,1]) (List.replicate 13 [0,1]) ?_
  simp -dsimp [List.range_succ,nes8 n1,k0,k1,k2,f0,f1,f2,z1,z2,z3,nes,g1,y0,y1,y2,yn,Ne.symm y0,Ne.symm y1,Ne.symm y2,him,hc,b1]
  refine pure_ hrc (by simp -dsimp [nes8 n1,k0,k1,k2,f0,f1,f2,z1,z2,z3,nes,g1,y0,y1,y2,yn,Ne.symm y0,Ne.symm y1,Ne.symm y2,him,hc,b1]) ?_
  simp -dsimp [List.range_succ,nes8 n1,k0,k1,k2,f0,f1,f2,z1,z2,z3,nes,g1,y0,y1,y2,yn,Ne.symm y0,Ne.symm y1,Ne.symm y2,him,hc,b1,optC]
  refine twd (List.range 11) [n1,n1 + 1 + 1] (List.replicate 8 [0,1] ++ [[],[],[]]) (List.replicate 10 [0,1] ++ [[1]]) ?_
  simp -dsimp [List.range_succ,nes8 n1,k0,k1,k2,f0,f1,f2,z1,z2,z3,nes,g1,y0,y1,y2,yn,Ne.symm y0,Ne.symm y1,Ne.symm y2,him,hc,b1,b1]
  refine twd [0,1,2,3,4,5,6,7,8,10,11,9,12,13,14] [0,n1] (List.replicate 15 [0,1]) (List.replicate 15 [0,1]) ?_
  simp -dsimp [nes8 n1,k0,k1,k2,f0,f1,f2,z1,z2,z3,nes,g1,y0,y1,y2,yn,Ne.symm y0,Ne.symm y1,Ne.symm y2,him,hc,b1,hp0]
  refine call_ hpo (by simp -dsimp [nes8 n1,k0,k1,k2,f0,f1,f2,z1,z2,z3,nes,g1,y0,y1,y2,yn,Ne.symm y0,Ne.symm y1,Ne.symm y2,him,hc,b1,hp0]) ?_
  rcases hkX with rfl | rfl
  ·simp -dsimp [nes8 n1,k0,k1,k2,f0,f1,f2,z1,z2,z3,nes,g1,y0,y1,y2,yn,Ne.symm y0,Ne.symm y1,Ne.symm y2,him,hc,b1,hp0]
   refine callL_ (vs := [d.v]) (hcopyK _ _) (by simp -dsimp [hc,b1,hp0]) ?_
   rintro t m2 n2 ⟨hn2,hout2,sn2,P2,rfl,hown2⟩
   have q2 := hout2 2 (by omega)
   simp -dsimp [nes8 n1,k0,k1,k2,f0,f1,f2,z1,z2,z3,nes,g1,y0,y1,y2,yn,Ne.symm y0,Ne.symm y1,Ne.symm y2,him] at q2
   have hfc := hown2.facts
   have hc2 := hfc.1
   have hcs2 := hfc.2.1
   have hcP2 := hfc.2.2.1
   have hcsP2 := hfc.2.2.2
   clear hfc
   simp -dsimp [dT,q2,hc2,hcs2,hcP2,hcsP2]
   exact ⟨sn2,P2,rfl,hown2.keep (Nat.zero_le _) (by omega) fun j j1 j2 => by simp [show ¬ j = 2 by omega]⟩
  simp -dsimp [nes8 n1,k0,k1,k2,f0,f1,f2,z1,z2,z3,nes,g1,y0,y1,y2,yn,Ne.symm y0,Ne.symm y1,Ne.symm y2,him,hc,b1,hp0]
  refine call_ hpt (by simp -dsimp [nes8 n1,k0,k1,k2,f0,f1,f2,z1,z2,z3,nes,g1,y0,y1,y2,yn,Ne.symm y0,Ne.symm y1,Ne.symm y2,him,hc,b1,hp0]) ?_
  simp -dsimp [nes8 n1,k0,k1,k2,f0,f1,f2,z1,z2,z3,nes,g1,y0,y1,y2,yn,Ne.symm y0,Ne.symm y1,Ne.symm y2,him,hc,b1,hp0]
  refine cl hpn ?_
  rcases htx with rfl | htx
  ·simp -dsimp [nes8 n1,k0,k1,k2,f0,f1,f2,z1,z2,z3,nes,g1,y0,y1,y2,yn,Ne.symm y0,Ne.symm y1,Ne.symm y2,him,hc,b1,hp0]
   refine callL_ (vs := [d.v]) (hcopyK _ _) (by simp -dsimp [hc,b1,hp0]) ?_
   rintro t m2 n2 ⟨hn2,hout2,sn2,P2,rfl,hown2⟩
   have q2 := hout2 2 (by omega)
   simp -dsimp [nes8 n1,k0,k1,k2,f0,f1,f2,z1,z2,z3,nes,g1,y0,y1,y2,yn,Ne.symm y0,Ne.symm y1,Ne.symm y2,him] at q2
   have hfc := hown2.facts
   have hc2 := hfc.1
   have hcs2 := hfc.2.1
   have hcP2 := hfc.2.2.1
   have hcsP2 := hfc.2.2.2
   clear hfc
   simp -dsimp [dT,q2,hc2,hcs2,hcP2,hcsP2]
   exact ⟨sn2,P2,rfl,hown2.keep (Nat.zero_le _) (by omega) fun j j1 j2 => by simp [show ¬ j = 2 by omega]⟩
  have hRs := hR rfl
  simp -dsimp [nes8 n1,k0,k1,k2,f0,f1,f2,z1,z2,z3,nes,g1,y0,y1,y2,yn,Ne.symm y0,Ne.symm y1,Ne.symm y2,him,hc,b1,hp0,htx]
  refine twd (List.range 9) [0,n1] (List.replicate 9 [0,1]) (List.replicate 8 [0,1] ++ [[0]]) ?_
  simp -dsimp [List.range_succ,nes8 n1,k0,k1,k2,f0,f1,f2,z1,z2,z3,nes,g1,y0,y1,y2,yn,Ne.symm y0,Ne.symm y1,Ne.symm y2,him,hc,b1,hp0,htx]
  refine cl hcn ?_
  have hR2 := hRs [d.now] (by rw [hp0]; rfl)
  simp -dsimp [List.range_succ,nes8 n1,k0,k1,k2,f0,f1,f2,z1,z2,z3,nes,g1,y0,y1,y2,yn,Ne.symm y0,Ne.symm y1,Ne.symm y2,him,hc,b1,hp0,htx]
  refine callL_ (vs := [(⟨⟨d.now.people,d.now.story ++ [c]⟩,[d.now]⟩ : Desk).v]) (hR2 _ _) (by simp -dsimp [nes8 n1,k0,k1,k2,f0,f1,f2,z1,z2,z3,nes,g1,y0,y1,y2,yn,Ne.symm y0,Ne.symm y1,Ne.symm y2,him,hc,b1,hp0]) ?_
  rintro t m2 n2 ⟨hn2,hout2,sn2,P2,rfl,hown2⟩
  have q2 := hout2 2 (by omega)
  simp -dsimp [nes8 n1,k0,k1,k2,f0,f1,f2,z1,z2,z3,nes,g1,y0,y1,y2,yn,Ne.symm y0,Ne.symm y1,Ne.symm y2,him] at q2
  have hfc := hown2.facts
  have hc2 := hfc.1
  have hcs2 := hfc.2.1
  have hcP2 := hfc.2.2.1
  have hcsP2 := hfc.2.2.2
  clear hfc
  simp -dsimp [dT,q2,hc2,hcs2,hcP2,hcsP2,htx,hp0,keep8]
  exact ⟨sn2,P2,rfl,hown2.keep (Nat.zero_le _) (by omega) fun j j1 j2 => by simp [show ¬ j = 2 by omega]⟩
 ·have g2 := far hr1
  have x0 : ¬ r = 0 := by omega
  have x1 : ¬ r = 1 := by omega
  have x2 : ¬ r = 2 := by omega
  have xi : ¬ r = id := fun h => hne (by rw [h])
  simp -dsimp [nes8 n1,k0,k1,k2,f0,f1,f2,z1,z2,z3,nes,g1,y0,y1,y2,yn,Ne.symm y0,Ne.symm y1,Ne.symm y2,him,g2,x0,x1,x2,xi,Ne.symm x0,Ne.symm x1,Ne.symm x2,Ne.symm xi,hrm,hc,b1]
  refine twd [0,1,2,3,4,5,1006,7,8,9,10,11,12] [1,n1] (List.replicate 13 [0,1]) (List.replicate 13 [0,1]) ?_
  simp -dsimp [List.range_succ,nes8 n1,k0,k1,k2,f0,f1,f2,z1,z2,z3,nes,g1,y0,y1,y2,yn,Ne.symm y0,Ne.symm y1,Ne.symm y2,him,g2,x0,x1,x2,xi,Ne.symm x0,Ne.symm x1,Ne.symm x2,Ne.symm xi,hrm,hc,b1]
  refine pure_ hrc (by simp -dsimp [nes8 n1,k0,k1,k2,f0,f1,f2,z1,z2,z3,nes,g1,y0,y1,y2,yn,Ne.symm y0,Ne.symm y1,Ne.symm y2,him,g2,x0,x1,x2,xi,Ne.symm x0,Ne.symm x1,Ne.symm x2,Ne.symm xi,hrm,hc,b1]) ?_
  simp -dsimp [List.range_succ,nes8 n1,k0,k1,k2,f0,f1,f2,z1,z2,z3,nes,g1,y0,y1,y2,yn,Ne.symm y0,Ne.symm y1,Ne.symm y2,him,g2,x0,x1,x2,xi,Ne.symm x0,Ne.symm x1,Ne.symm x2,Ne.symm xi,hrm,hc,b1,optC]
  refine twd (List.range 11) [n1,n1 + 1 + 1] (List.replicate 8 [0,1] ++ [[],[],[]]) (List.replicate 10 [0,1] ++ [[1]]) ?_
  simp -dsimp [List.range_succ,nes8 n1,k0,k1,k2,f0,f1,f2,z1,z2,z3,nes,g1,y0,y1,y2,yn,Ne.symm y0,Ne.symm y1,Ne.symm y2,him,g2,x0,x1,x2,xi,Ne.symm x0,Ne.symm x1,Ne.symm x2,Ne.symm xi,hrm,hc,b1,b1]
  refine twd [0,1,2,3,4,5,6,7,8,10,11,9,12,13,14] [0,n1] (List.replicate 15 [0,1]) (List.replicate 15 [0,1]) ?_
  simp -dsimp [nes8 n1,k0,k1,k2,f0,f1,f2,z1,z2,z3,nes,g1,y0,y1,y2,yn,Ne.symm y0,Ne.symm y1,Ne.symm y2,him,g2,x0,x1,x2,xi,Ne.symm x0,Ne.symm x1,Ne.symm x2,Ne.symm xi,hrm,hc,b1]
  refine call_ hpo (by simp -dsimp [nes8 n1,k0,k1,k2,f0,f1,f2,z1,z2,z3,nes,g1,y0,y1,y2,yn,Ne.symm y0,Ne.symm y1,Ne.symm y2,him,g2,x0,x1,x2,xi,Ne.symm x0,Ne.symm x1,Ne.symm x2,Ne.symm xi,hrm,hc,b1]) ?_
  rcases hkX with rfl | rfl
  ·simp -dsimp [nes8 n1,k0,k1,k2,f0,f1,f2,z1,z2,z3,nes,g1,y0,y1,y2,yn,Ne.symm y0,Ne.symm y1,Ne.symm y2,him,g2,x0,x1,x2,xi,Ne.symm x0,Ne.symm x1,Ne.symm x2,Ne.symm xi,hrm,hc,b1]
   refine callL_ (vs := [d.v]) (hcopyK _ _) (by simp -dsimp [hc,b1]) ?_
   rintro t m2 n2 ⟨hn2,hout2,sn2,P2,rfl,hown2⟩
   have q2 := hout2 2 (by omega)
   simp -dsimp [nes8 n1,k0,k1,k2,f0,f1,f2,z1,z2,z3,nes,g1,y0,y1,y2,yn,Ne.symm y0,Ne.symm y1,Ne.symm y2,him,g2,x0,x1,x2,xi,Ne.symm x0,Ne.symm x1,Ne.symm x2,Ne.symm xi,hrm] at q2
   have hfc := hown2.facts
   have hc2 := hfc.1
   have hcs2 := hfc.2.1
   have hcP2 := hfc.2.2.1
   have hcsP2 := hfc.2.2.2
   clear hfc
   simp -dsimp [dT,q2,hc2,hcs2,hcP2,hcsP2]
   exact ⟨sn2,P2,rfl,hown2.keep (Nat.zero_le _) (by omega) fun j j1 j2 => by simp [show ¬ j = 2 by omega]⟩
  simp -dsimp [nes8 n1,k0,k1,k2,f0,f1,f2,z1,z2,z3,nes,g1,y0,y1,y2,yn,Ne.symm y0,Ne.symm y1,Ne.symm y2,him,g2,x0,x1,x2,xi,Ne.symm x0,Ne.symm x1,Ne.symm x2,Ne.symm xi,hrm,hc,b1]
  refine call_ hpt (by simp -dsimp [nes8 n1,k0,k1,k2,f0,f1,f2,z1,z2,z3,nes,g1,y0,y1,y2,yn,Ne.symm y0,Ne.symm y1,Ne.symm y2,him,g2,x0,x1,x2,xi,Ne.symm x0,Ne.symm x1,Ne.symm x2,Ne.symm xi,hrm,hc,b1]) ?_
  simp -dsimp [nes8 n1,k0,k1,k2,f0,f1,f2,z1,z2,z3,nes,g1,y0,y1,y2,yn,Ne.symm y0,Ne.symm y1,Ne.symm y2,him,g2,x0,x1,x2,xi,Ne.symm x0,Ne.symm x1,Ne.symm x2,Ne.symm xi,hrm,hc,b1]
  refine cl hpn ?_
  rcases htx with rfl | htx
  ·simp -dsimp [nes8 n1,k0,k1,k2,f0,f1,f2,z1,z2,z3,nes,g1,y0,y1,y2,yn,Ne.symm y0,Ne.symm y1,Ne.symm y2,him,g2,x0,x1,x2,xi,Ne.symm x0,Ne.symm x1,Ne.symm x2,Ne.symm xi,hrm,hc,b1]
   refine callL_ (vs := [d.v]) (hcopyK _ _) (by simp -dsimp [hc,b1]) ?_
   rintro t m2 n2 ⟨hn2,hout2,sn2,P2,rfl,hown2⟩
   have q2 := hout2 2 (by omega)
   simp -dsimp [nes8 n1,k0,k1,k2,f0,f1,f2,z1,z2,z3,nes,g1,y0,y1,y2,yn,Ne.symm y0,Ne.symm y1,Ne.symm y2,him,g2,x0,x1,x2,xi,Ne.symm x0,Ne.symm x1,Ne.symm x2,Ne.symm xi,hrm] at q2
   have hfc := hown2.facts
   have hc2 := hfc.1
   have hcs2 := hfc.2.1
   have hcP2 := hfc.2.2.1
   have hcsP2 := hfc.2.2.2
   clear hfc
   simp -dsimp [dT,q2,hc2,hcs2,hcP2,hcsP2]
   exact ⟨sn2,P2,rfl,hown2.keep (Nat.zero_le _) (by omega) fun j j1 j2 => by simp [show ¬ j = 2 by omega]⟩
  have hRs := hR rfl
  simp -dsimp [nes8 n1,k0,k1,k2,f0,f1,f2,z1,z2,z3,nes,g1,y0,y1,y2,yn,Ne.symm y0,Ne.symm y1,Ne.symm y2,him,g2,x0,x1,x2,xi,Ne.symm x0,Ne.symm x1,Ne.symm x2,Ne.symm xi,hrm,hc,b1,htx]
  refine twd (List.range 9) [0,n1] (List.replicate 9 [0,1]) (List.replicate 8 [0,1] ++ [[0]]) ?_
  simp -dsimp [List.range_succ,nes8 n1,k0,k1,k2,f0,f1,f2,z1,z2,z3,nes,g1,y0,y1,y2,yn,Ne.symm y0,Ne.symm y1,Ne.symm y2,him,g2,x0,x1,x2,xi,Ne.symm x0,Ne.symm x1,Ne.symm x2,Ne.symm xi,hrm,hc,b1,htx]
  refine cl hcn ?_
  by_cases h8 : d.past.length = 8
  ·have e8 : (d.past.length : Int) = 8 := by omega
   have ek : keep8 (d.past ++ [d.now]) = (d.past ++ [d.now]).tail := by unfold keep8; rw [if_pos (by simp [h8])]; simp
   have hR2 := hRs (d.past ++ [d.now]).tail ek
   have tk : List.take 9 (List.map Place.v d.past ++ [d.now.v]) = List.map Place.v d.past ++ [d.now.v] := List.take_of_length_le (by simp [h8])
   have zk : allZ 2 (List.map Place.v d.past ++ [d.now.v]).tail := fun x hx => zplaces x (List.mem_of_mem_tail hx)
   simp only [Place.v,storyV] at tk zk
   simp -dsimp [List.range_succ,nes8 n1,k0,k1,k2,f0,f1,f2,z1,z2,z3,nes,g1,y0,y1,y2,yn,Ne.symm y0,Ne.symm y1,Ne.symm y2,him,g2,x0,x1,x2,xi,Ne.symm x0,Ne.symm x1,Ne.symm x2,Ne.symm xi,hrm,hc,b1,htx,fullb,h8,e8,tk,zk]
   refine callL_ (vs := [(⟨⟨d.now.people,d.now.story ++ [c]⟩,(d.past ++ [d.now]).tail⟩ : Desk).v]) (hR2 _ _) (by simp -dsimp [nes8 n1,k0,k1,k2,f0,f1,f2,z1,z2,z3,nes,g1,y0,y1,y2,yn,Ne.symm y0,Ne.symm y1,Ne.symm y2,him,g2,x0,x1,x2,xi,Ne.symm x0,Ne.symm x1,Ne.symm x2,Ne.symm xi,hrm,hc,b1,List.map_tail,List.map_append]) ?_
   rintro t m2 n2 ⟨hn2,hout2,sn2,P2,rfl,hown2⟩
   have q2 := hout2 2 (by omega)
   simp -dsimp [nes8 n1,k0,k1,k2,f0,f1,f2,z1,z2,z3,nes,g1,y0,y1,y2,yn,Ne.symm y0,Ne.symm y1,Ne.symm y2,him,g2,x0,x1,x2,xi,Ne.symm x0,Ne.symm x1,Ne.symm x2,Ne.symm xi,hrm] at q2
   have hfc := hown2.facts
   have hc2 := hfc.1
   have hcs2 := hfc.2.1
   have hcP2 := hfc.2.2.1
   have hcsP2 := hfc.2.2.2
   clear hfc
   simp -dsimp [dT,q2,hc2,hcs2,hcP2,hcsP2,htx,ek]
   exact ⟨sn2,P2,rfl,hown2.keep (Nat.zero_le _) (by omega) fun j j1 j2 => by simp [show ¬ j = 2 by omega]⟩
  ·have e8 : d.past.length < 8 := by omega
   have e8' : ¬ (8 : Int) < (d.past.length : Int) + 1 := by omega
   have e8'' : ¬ 8 < d.past.length + 1 := by omega
   have ek : keep8 (d.past ++ [d.now]) = d.past ++ [d.now] := by unfold keep8; rw [if_neg (by simp; omega)]
   have hR2 := hRs (d.past ++ [d.now]) ek
   simp -dsimp [List.range_succ,nes8 n1,k0,k1,k2,f0,f1,f2,z1,z2,z3,nes,g1,y0,y1,y2,yn,Ne.symm y0,Ne.symm y1,Ne.symm y2,him,g2,x0,x1,x2,xi,Ne.symm x0,Ne.symm x1,Ne.symm x2,Ne.symm xi,hrm,hc,b1,htx,fullb,h8,e8,e8',e8'']
   refine callL_ (vs := [(⟨⟨d.now.people,d.now.story ++ [c]⟩,d.past ++ [d.now]⟩ : Desk).v]) (hR2 _ _) (by simp -dsimp [nes8 n1,k0,k1,k2,f0,f1,f2,z1,z2,z3,nes,g1,y0,y1,y2,yn,Ne.symm y0,Ne.symm y1,Ne.symm y2,him,g2,x0,x1,x2,xi,Ne.symm x0,Ne.symm x1,Ne.symm x2,Ne.symm xi,hrm,hc,b1]) ?_
   rintro t m2 n2 ⟨hn2,hout2,sn2,P2,rfl,hown2⟩
   have q2 := hout2 2 (by omega)
   simp -dsimp [nes8 n1,k0,k1,k2,f0,f1,f2,z1,z2,z3,nes,g1,y0,y1,y2,yn,Ne.symm y0,Ne.symm y1,Ne.symm y2,him,g2,x0,x1,x2,xi,Ne.symm x0,Ne.symm x1,Ne.symm x2,Ne.symm xi,hrm] at q2
   have hfc := hown2.facts
   have hc2 := hfc.1
   have hcs2 := hfc.2.1
   have hcP2 := hfc.2.2.1
   have hcsP2 := hfc.2.2.2
   clear hfc
   simp -dsimp [dT,q2,hc2,hcs2,hcP2,hcsP2,htx,ek]
   exact ⟨sn2,P2,rfl,hown2.keep (Nat.zero_le _) (by omega) fun j j1 j2 => by simp [show ¬ j = 2 by omega]⟩
end TL

namespace TL
open Go Go.Proofs
attribute [local simp] marksV storyV codeV Claim.v Place.v Deed.v Desk.v
theorem do_bad1_k (d : Desk) (kind num : Int) (words : List UInt8) (hd : d.small) (hk : deskOk d = true) (h0 : ¬ kind = 0) (hw : ¬ words = []) : FnS Tryz.prog 30 (fun _ => none) 0 [.v d.v,.v (⟨kind,num,words⟩ : Deed).v] (PostK (d,false)) := by
 have hok := deskOk_fn d (by have := hd.2.1; omega) (by have := hd.1.1; omega) (fun p hp => by have := (hd.2.2 p hp).1; omega)
 rw [hk] at hok
 have hcopyK := fun m n => copyDesk_k d hd hk m n
 refine FS (rs := [.cell 4 34,.tmp 5]) false Tryz.func30 ?_
 simp -dsimp
 refine cl hok ?_
 simp -dsimp
 refine callL_ (vs := [d.v]) (hcopyK _ _) (by simp -dsimp) ?_
 rintro t m1 n1 ⟨hn1,hout,sn,P,rfl,hown⟩
 have k0 := hout 0 (by omega)
 have k1 := hout 1 (by omega)
 have k2 := hout 2 (by omega)
 simp -dsimp at k0 k1 k2
 have f0 := far (show 0 < n1 by omega)
 have f1 := far (show 1 < n1 by omega)
 have f2 := far (show 2 < n1 by omega)
 have z1 : ¬ n1 = 0 := by omega
 have z2 : ¬ n1 = 1 := by omega
 have z3 : ¬ n1 = 2 := by omega
 have hfc := hown.facts
 have hc := hfc.1
 have hcs := hfc.2.1
 have hcP := hfc.2.2.1
 have hcsP := hfc.2.2.2
 clear hfc
 simp -dsimp [dT,hc,hcs,hcP,hcsP,nes8 n1,k0,k1,k2,f0,f1,f2,z1,z2,z3,nes,h0,hw]
 exact ⟨sn,P,rfl,hown.keep (Nat.zero_le _) (by omega) fun j j1 j2 => by simp [show ¬ j = 0 by omega,show ¬ j = 1 by omega,show ¬ j = 2 by omega,show ¬ j = n1 by omega,far j2]⟩
theorem do_bad2_k (d : Desk) (num : Int) (words : List UInt8) (hd : d.small) (hk : deskOk d = true) (h0 : ¬ num = 0) : FnS Tryz.prog 30 (fun _ => none) 0 [.v d.v,.v (⟨0,num,words⟩ : Deed).v] (PostK (d,false)) := by
 have hok := deskOk_fn d (by have := hd.2.1; omega) (by have := hd.1.1; omega) (fun p hp => by have := (hd.2.2 p hp).1; omega)
 rw [hk] at hok
 have hcopyK := fun m n => copyDesk_k d hd hk m n
 refine FS (rs := [.cell 4 34,.tmp 5]) false Tryz.func30 ?_
 simp -dsimp
 refine cl hok ?_
 simp -dsimp
 refine callL_ (vs := [d.v]) (hcopyK _ _) (by simp -dsimp) ?_
 rintro t m1 n1 ⟨hn1,hout,sn,P,rfl,hown⟩
 have k0 := hout 0 (by omega)
 have k1 := hout 1 (by omega)
 have k2 := hout 2 (by omega)
 simp -dsimp at k0 k1 k2
 have f0 := far (show 0 < n1 by omega)
 have f1 := far (show 1 < n1 by omega)
 have f2 := far (show 2 < n1 by omega)
 have z1 : ¬ n1 = 0 := by omega
 have z2 : ¬ n1 = 1 := by omega
 have z3 : ¬ n1 = 2 := by omega
 have hfc := hown.facts
 have hc := hfc.1
 have hcs := hfc.2.1
 have hcP := hfc.2.2.1
 have hcsP := hfc.2.2.2
 clear hfc
 simp -dsimp [dT,hc,hcs,hcP,hcsP,nes8 n1,k0,k1,k2,f0,f1,f2,z1,z2,z3,nes,h0]
 exact ⟨sn,P,rfl,hown.keep (Nat.zero_le _) (by omega) fun j j1 j2 => by simp [show ¬ j = 0 by omega,show ¬ j = 1 by omega,show ¬ j = 2 by omega,show ¬ j = n1 by omega,far j2]⟩
theorem do_bad3_k (d : Desk) (kind num : Int) (hd : d.small) (hk : deskOk d = true) (h0 : ¬ kind = 0) (h1 : ¬ kind = 1) (h2 : ¬ kind = 2) (h3 : ¬ num = 0) : FnS Tryz.prog 30 (fun _ => none) 0 [.v d.v,.v (⟨kind,num,[]⟩ : Deed).v] (PostK (d,false)) := by
 have hok := deskOk_fn d (by have := hd.2.1; omega) (by have := hd.1.1; omega) (fun p hp => by have := (hd.2.2 p hp).1; omega)
 rw [hk] at hok
 have hcopyK := fun m n => copyDesk_k d hd hk m n
 refine FS (rs := [.cell 4 34,.tmp 5]) false Tryz.func30 ?_
 simp -dsimp
 refine cl hok ?_
 simp -dsimp
 refine callL_ (vs := [d.v]) (hcopyK _ _) (by simp -dsimp) ?_
 rintro t m1 n1 ⟨hn1,hout,sn,P,rfl,hown⟩
 have k0 := hout 0 (by omega)
 have k1 := hout 1 (by omega)
 have k2 := hout 2 (by omega)
 simp -dsimp at k0 k1 k2
 have f0 := far (show 0 < n1 by omega)
 have f1 := far (show 1 < n1 by omega)
 have f2 := far (show 2 < n1 by omega)
 have z1 : ¬ n1 = 0 := by omega
 have z2 : ¬ n1 = 1 := by omega
 have z3 : ¬ n1 = 2 := by omega
 have hfc := hown.facts
 have hc := hfc.1
 have hcs := hfc.2.1
 have hcP := hfc.2.2.1
 have hcsP := hfc.2.2.2
 clear hfc
 simp -dsimp [dT,hc,hcs,hcP,hcsP,nes8 n1,k0,k1,k2,f0,f1,f2,z1,z2,z3,nes,h0,h1,h2,h3]
 exact ⟨sn,P,rfl,hown.keep (Nat.zero_le _) (by omega) fun j j1 j2 => by simp [show ¬ j = 0 by omega,show ¬ j = 1 by omega,show ¬ j = 2 by omega,show ¬ j = n1 by omega,far j2]⟩
theorem do_other_k (d : Desk) (kind : Int) (hd : d.small) (hk : deskOk d = true) (h0 : ¬ kind = 0) (h1 : ¬ kind = 1) (h2 : ¬ kind = 2) (h3 : ¬ kind = 3) (h4 : ¬ kind = 4) : FnS Tryz.prog 30 (fun _ => none) 0 [.v d.v,.v (⟨kind,0,[]⟩ : Deed).v] (PostK (d,false)) := by
 have hok := deskOk_fn d (by have := hd.2.1; omega) (by have := hd.1.1; omega) (fun p hp => by have := (hd.2.2 p hp).1; omega)
 rw [hk] at hok
 have hcopyK := fun m n => copyDesk_k d hd hk m n
 refine FS (rs := [.cell 4 34,.tmp 5]) false Tryz.func30 ?_
 simp -dsimp
 refine cl hok ?_
 simp -dsimp
 refine callL_ (vs := [d.v]) (hcopyK _ _) (by simp -dsimp) ?_
 rintro t m1 n1 ⟨hn1,hout,sn,P,rfl,hown⟩
 have k0 := hout 0 (by omega)
 have k1 := hout 1 (by omega)
 have k2 := hout 2 (by omega)
 simp -dsimp at k0 k1 k2
 have f0 := far (show 0 < n1 by omega)
 have f1 := far (show 1 < n1 by omega)
 have f2 := far (show 2 < n1 by omega)
 have z1 : ¬ n1 = 0 := by omega
 have z2 : ¬ n1 = 1 := by omega
 have z3 : ¬ n1 = 2 := by omega
 have hfc := hown.facts
 have hc := hfc.1
 have hcs := hfc.2.1
 have hcP := hfc.2.2.1
 have hcsP := hfc.2.2.2
 clear hfc
 simp -dsimp [dT,hc,hcs,hcP,hcsP,nes8 n1,k0,k1,k2,f0,f1,f2,z1,z2,z3,nes,h0,h1,h2,h3,h4]
 exact ⟨sn,P,rfl,hown.keep (Nat.zero_le _) (by omega) fun j j1 j2 => by simp [show ¬ j = 0 by omega,show ¬ j = 1 by omega,show ¬ j = 2 by omega,show ¬ j = n1 by omega,far j2]⟩
theorem do_nosay_k (d : Desk) (words : List UInt8) (hd : d.small) (hk : deskOk d = true) (hr : readC d.now.people words = none) (hwl : words.length ≤ 1000000000) : FnS Tryz.prog 30 (fun _ => none) 0 [.v d.v,.v (⟨0,0,words⟩ : Deed).v] (PostK (d,false)) := by
 have hok := deskOk_fn d (by have := hd.2.1; omega) (by have := hd.1.1; omega) (fun p hp => by have := (hd.2.2 p hp).1; omega)
 rw [hk] at hok
 have hcopyK := fun m n => copyDesk_k d hd hk m n
 have hrc := readClaim_fn d.now.people words (by omega)
 rw [hr] at hrc
 refine FS (rs := [.cell 4 34,.tmp 5]) false Tryz.func30 ?_
 simp -dsimp
 refine cl hok ?_
 simp -dsimp
 refine callL_ (vs := [d.v]) (hcopyK _ _) (by simp -dsimp) ?_
 rintro t m1 n1 ⟨hn1,hout,sn,P,rfl,hown⟩
 have k0 := hout 0 (by omega)
 have k1 := hout 1 (by omega)
 have k2 := hout 2 (by omega)
 simp -dsimp at k0 k1 k2
 have f0 := far (show 0 < n1 by omega)
 have f1 := far (show 1 < n1 by omega)
 have f2 := far (show 2 < n1 by omega)
 have z1 : ¬ n1 = 0 := by omega
 have z2 : ¬ n1 = 1 := by omega
 have z3 : ¬ n1 = 2 := by omega
 have hfc := hown.facts
 have hc := hfc.1
 have hcs := hfc.2.1
 have hcP := hfc.2.2.1
 have hcsP := hfc.2.2.2
 clear hfc
 simp -dsimp [dT,hc,hcs,hcP,hcsP,nes8 n1,k0,k1,k2,f0,f1,f2,z1,z2,z3,nes]
 refine twd [0,1,2,3,4,5,1006,7,8,9,10,11,12] [1,n1] (List.replicate 13 [0,1]) (List.replicate 13 [0,1]) ?_
 simp -dsimp [List.range_succ,dT,hc,hcs,hcP,hcsP,nes8 n1,k0,k1,k2,f0,f1,f2,z1,z2,z3,nes]
 refine pure_ hrc (by simp -dsimp [dT,hc,hcs,hcP,hcsP,nes8 n1,k0,k1,k2,f0,f1,f2,z1,z2,z3,nes]) ?_
 simp -dsimp [List.range_succ,dT,hc,hcs,hcP,hcsP,nes8 n1,k0,k1,k2,f0,f1,f2,z1,z2,z3,nes,optC]
 exact ⟨sn,P,rfl,hown.keep (Nat.zero_le _) (by omega) fun j j1 j2 => by simp [show ¬ j = 0 by omega,show ¬ j = 1 by omega,show ¬ j = 2 by omega,show ¬ j = n1 by omega,far j2]⟩
theorem do_nodrop1_k (d : Desk) (num : Int) (hd : d.small) (hk : deskOk d = true) (h0 : num < 0) : FnS Tryz.prog 30 (fun _ => none) 0 [.v d.v,.v (⟨1,num,[]⟩ : Deed).v] (PostK (d,false)) := by
 have hok := deskOk_fn d (by have := hd.2.1; omega) (by have := hd.1.1; omega) (fun p hp => by have := (hd.2.2 p hp).1; omega)
 rw [hk] at hok
 have hcopyK := fun m n => copyDesk_k d hd hk m n
 refine FS (rs := [.cell 4 34,.tmp 5]) false Tryz.func30 ?_
 simp -dsimp
 refine cl hok ?_
 simp -dsimp
 refine callL_ (vs := [d.v]) (hcopyK _ _) (by simp -dsimp) ?_
 rintro t m1 n1 ⟨hn1,hout,sn,P,rfl,hown⟩
 have k0 := hout 0 (by omega)
 have k1 := hout 1 (by omega)
 have k2 := hout 2 (by omega)
 simp -dsimp at k0 k1 k2
 have f0 := far (show 0 < n1 by omega)
 have f1 := far (show 1 < n1 by omega)
 have f2 := far (show 2 < n1 by omega)
 have z1 : ¬ n1 = 0 := by omega
 have z2 : ¬ n1 = 1 := by omega
 have z3 : ¬ n1 = 2 := by omega
 have hfc := hown.facts
 have hc := hfc.1
 have hcs := hfc.2.1
 have hcP := hfc.2.2.1
 have hcsP := hfc.2.2.2
 clear hfc
 have hsn := hown.form
 rcases hsn with ⟨rfl,hs0⟩ | ⟨i,rfl⟩
 ·simp -dsimp [dT,hc,hcs,hcP,hcsP,nes8 n1,k0,k1,k2,f0,f1,f2,z1,z2,z3,nes,h0,hs0]
  refine twd (List.range 13) [1,n1] (List.replicate 13 [0,1]) (List.replicate 13 [0,1]) ?_
  simp -dsimp [List.range_succ,dT,hc,hcs,hcP,hcsP,nes8 n1,k0,k1,k2,f0,f1,f2,z1,z2,z3,nes,h0,hs0]
  exact ⟨.nil,P,rfl,hown.keep (Nat.zero_le _) (by omega) fun j j1 j2 => by simp [show ¬ j = 0 by omega,show ¬ j = 1 by omega,show ¬ j = 2 by omega,show ¬ j = n1 by omega,far j2]⟩
 ·simp -dsimp [dT,hc,hcs,hcP,hcsP,nes8 n1,k0,k1,k2,f0,f1,f2,z1,z2,z3,nes,h0]
  refine twd (List.range 13) [1,n1] (List.replicate 13 [0,1]) (List.replicate 13 [0,1]) ?_
  simp -dsimp [List.range_succ,dT,hc,hcs,hcP,hcsP,nes8 n1,k0,k1,k2,f0,f1,f2,z1,z2,z3,nes,h0]
  exact ⟨.sv i 0 d.now.story.length,P,rfl,hown.keep (Nat.zero_le _) (by omega) fun j j1 j2 => by simp [show ¬ j = 0 by omega,show ¬ j = 1 by omega,show ¬ j = 2 by omega,show ¬ j = n1 by omega,far j2]⟩
theorem do_nodrop2_k (d : Desk) (num : Int) (hd : d.small) (hk : deskOk d = true) (h0 : ¬ num < 0) (h1 : (d.now.story.length : Int) ≤ num) : FnS Tryz.prog 30 (fun _ => none) 0 [.v d.v,.v (⟨1,num,[]⟩ : Deed).v] (PostK (d,false)) := by
 have hok := deskOk_fn d (by have := hd.2.1; omega) (by have := hd.1.1; omega) (fun p hp => by have := (hd.2.2 p hp).1; omega)
 rw [hk] at hok
 have hcopyK := fun m n => copyDesk_k d hd hk m n
 have h2 : 0 ≤ num := by omega
 refine FS (rs := [.cell 4 34,.tmp 5]) false Tryz.func30 ?_
 simp -dsimp
 refine cl hok ?_
 simp -dsimp
 refine callL_ (vs := [d.v]) (hcopyK _ _) (by simp -dsimp) ?_
 rintro t m1 n1 ⟨hn1,hout,sn,P,rfl,hown⟩
 have k0 := hout 0 (by omega)
 have k1 := hout 1 (by omega)
 have k2 := hout 2 (by omega)
 simp -dsimp at k0 k1 k2
 have f0 := far (show 0 < n1 by omega)
 have f1 := far (show 1 < n1 by omega)
 have f2 := far (show 2 < n1 by omega)
 have z1 : ¬ n1 = 0 := by omega
 have z2 : ¬ n1 = 1 := by omega
 have z3 : ¬ n1 = 2 := by omega
 have hfc := hown.facts
 have hc := hfc.1
 have hcs := hfc.2.1
 have hcP := hfc.2.2.1
 have hcsP := hfc.2.2.2
 clear hfc
 have hsn := hown.form
 rcases hsn with ⟨rfl,hs0⟩ | ⟨i,rfl⟩
 ·simp -dsimp [dT,hc,hcs,hcP,hcsP,nes8 n1,k0,k1,k2,f0,f1,f2,z1,z2,z3,nes,h0,h1,h2,hs0]
  refine twd (List.range 13) [1,n1] (List.replicate 13 [0,1]) (List.replicate 13 [0,1]) ?_
  simp -dsimp [List.range_succ,dT,hc,hcs,hcP,hcsP,nes8 n1,k0,k1,k2,f0,f1,f2,z1,z2,z3,nes,h0,h1,h2,hs0]
  exact ⟨.nil,P,rfl,hown.keep (Nat.zero_le _) (by omega) fun j j1 j2 => by simp [show ¬ j = 0 by omega,show ¬ j = 1 by omega,show ¬ j = 2 by omega,show ¬ j = n1 by omega,far j2]⟩
 ·simp -dsimp [dT,hc,hcs,hcP,hcsP,nes8 n1,k0,k1,k2,f0,f1,f2,z1,z2,z3,nes,h0,h1,h2]
  refine twd (List.range 13) [1,n1] (List.replicate 13 [0,1]) (List.replicate 13 [0,1]) ?_
  simp -dsimp [List.range_succ,dT,hc,hcs,hcP,hcsP,nes8 n1,k0,k1,k2,f0,f1,f2,z1,z2,z3,nes,h0,h1,h2]
  exact ⟨.sv i 0 d.now.story.length,P,rfl,hown.keep (Nat.zero_le _) (by omega) fun j j1 j2 => by simp [show ¬ j = 0 by omega,show ¬ j = 1 by omega,show ¬ j = 2 by omega,show ¬ j = n1 by omega,far j2]⟩
theorem do_noback_k (d : Desk)  (hd : d.small) (hk : deskOk d = true) (he : d.past = []) : FnS Tryz.prog 30 (fun _ => none) 0 [.v d.v,.v (⟨4,0,[]⟩ : Deed).v] (PostK (d,false)) := by
 have hok := deskOk_fn d (by have := hd.2.1; omega) (by have := hd.1.1; omega) (fun p hp => by have := (hd.2.2 p hp).1; omega)
 rw [hk] at hok
 have hcopyK := fun m n => copyDesk_k d hd hk m n
 refine FS (rs := [.cell 4 34,.tmp 5]) false Tryz.func30 ?_
 simp -dsimp
 refine cl hok ?_
 simp -dsimp
 refine callL_ (vs := [d.v]) (hcopyK _ _) (by simp -dsimp) ?_
 rintro t m1 n1 ⟨hn1,hout,sn,P,rfl,hown⟩
 have k0 := hout 0 (by omega)
 have k1 := hout 1 (by omega)
 have k2 := hout 2 (by omega)
 simp -dsimp at k0 k1 k2
 have f0 := far (show 0 < n1 by omega)
 have f1 := far (show 1 < n1 by omega)
 have f2 := far (show 2 < n1 by omega)
 have z1 : ¬ n1 = 0 := by omega
 have z2 : ¬ n1 = 1 := by omega
 have z3 : ¬ n1 = 2 := by omega
 have hfc := hown.facts
 have hc := hfc.1
 have hcs := hfc.2.1
 have hcP := hfc.2.2.1
 have hcsP := hfc.2.2.2
 clear hfc
 have w0 : IntKind.wrap .i64 (-1) = -1 := rfl
 have hP := hown.none_past he
 rcases hP with rfl | ⟨i,rfl⟩
 ·simp -dsimp [dT,hc,hcs,hcP,hcsP,nes8 n1,k0,k1,k2,f0,f1,f2,z1,z2,z3,nes,w0]
  exact ⟨sn,.nil,rfl,hown.keep (Nat.zero_le _) (by omega) fun j j1 j2 => by simp [show ¬ j = 0 by omega,show ¬ j = 1 by omega,show ¬ j = 2 by omega,show ¬ j = n1 by omega,far j2]⟩
 ·simp -dsimp [dT,hc,hcs,hcP,hcsP,nes8 n1,k0,k1,k2,f0,f1,f2,z1,z2,z3,nes,w0]
  exact ⟨sn,.sv i 0 0,rfl,hown.keep (Nat.zero_le _) (by omega) fun j j1 j2 => by simp [show ¬ j = 0 by omega,show ¬ j = 1 by omega,show ¬ j = 2 by omega,show ¬ j = n1 by omega,far j2]⟩
theorem do_back_k (d : Desk)  (hd : d.small) (hk : deskOk d = true) (hne0 : d.past ≠ []) : FnS Tryz.prog 30 (fun _ => none) 0 [.v d.v,.v (⟨4,0,[]⟩ : Deed).v] (PostK (⟨d.past.getLast?.getD d.now,d.past.dropLast⟩,true)) := by
 have hok := deskOk_fn d (by have := hd.2.1; omega) (by have := hd.1.1; omega) (fun p hp => by have := (hd.2.2 p hp).1; omega)
 rw [hk] at hok
 have hcopyK := fun m n => copyDesk_k d hd hk m n
 have hl8 := hd.2.1
 obtain ⟨q,dd,hpq,hgl,hdl⟩ : ∃ q dd,d.past = dd ++ [q] ∧ d.past.getLast?.getD d.now = q ∧ d.past.dropLast = dd :=
  ⟨d.past.getLast hne0,d.past.dropLast,(List.dropLast_concat_getLast hne0).symm,by rw [List.getLast?_eq_some_getLast hne0]; rfl,rfl⟩
 rw [hgl,hdl]
 clear hgl hdl
 have hlen : d.past.length = dd.length + 1 := by rw [hpq]; simp
 refine FS (rs := [.cell 4 34,.tmp 5]) false Tryz.func30 ?_
 simp -dsimp
 refine cl hok ?_
 simp -dsimp
 refine callL_ (vs := [d.v]) (hcopyK _ _) (by simp -dsimp) ?_
 rintro t m1 n1 ⟨hn1,hout,sn,P,rfl,hown⟩
 have k0 := hout 0 (by omega)
 have k1 := hout 1 (by omega)
 have k2 := hout 2 (by omega)
 simp -dsimp at k0 k1 k2
 have f0 := far (show 0 < n1 by omega)
 have f1 := far (show 1 < n1 by omega)
 have f2 := far (show 2 < n1 by omega)
 have z1 : ¬ n1 = 0 := by omega
 have z2 : ¬ n1 = 1 := by omega
 have z3 : ¬ n1 = 2 := by omega
 have hfc := hown.facts
 have hc := hfc.1
 have hcs := hfc.2.1
 have hcP := hfc.2.2.1
 have hcsP := hfc.2.2.2
 clear hfc
 have hla := hown.last hpq
 obtain ⟨r,cc,st,ex,rfl,i0,i1,him,hll,hdr,hcst,hcsst,hown2⟩ := hla
 have w1 : IntKind.wrap .i64 ((dd.length : Int) + 1 - 1) = (dd.length : Int) := by rw [w64 (by omega) (by omega)]; omega
 have p3 : ¬ (dd.length : Int) < 0 := by omega
 have w2 : IntKind.wrap .i64 (dd.length : Int) = (dd.length : Int) := w64 (by omega) (by omega)
 have p4 : (dd.length : Int) < dd.length + 1 := by omega
 have p5 : (dd.length : Int) ≤ dd.length + 1 := by omega
 have g0 := far (show r < n1 by omega)
 have y0 : ¬ r = 0 := by omega
 have y1 : ¬ r = 1 := by omega
 have y2 : ¬ r = 2 := by omega
 have yn : ¬ r = n1 := by omega
 have hclip := fun m n => clip_own r dd.length (by omega) m n
 have hoff : dd.length * 2 + 2 ≤ dd.length * 2 + 2 + ex.length := by omega
 generalize ex.length = exl at hll hoff
 simp -dsimp [dT,hc,hcs,hcP,hcsP,nes8 n1,k0,k1,k2,f0,f1,f2,z1,z2,z3,nes,w1,w2,p3,p4,p5]
 refine twd (List.range 13) [n1,r] (List.replicate 13 [0,1]) (List.replicate 13 [0,1]) ?_
 simp -dsimp [List.range_succ,dT,hc,hcs,hcP,hcsP,nes8 n1,k0,k1,k2,f0,f1,f2,z1,z2,z3,nes,w1,w2,p3,p4,p5,g0,y0,y1,y2,yn,Ne.symm yn,him,hll,hdr,hoff,hcst,hcsst]
 refine callS_ (hclip _ _) ?_
 rintro t m3 n3 ⟨rfl,rfl,hn3⟩
 simp -dsimp [List.range_succ,dT,hc,hcs,hcP,hcsP,nes8 n1,k0,k1,k2,f0,f1,f2,z1,z2,z3,nes,w1,w2,p3,p4,p5,g0,y0,y1,y2,yn,Ne.symm yn,him,hll,hdr,hoff,hcst,hcsst]
 exact ⟨st,.sv r 0 dd.length,rfl,hown2.keep (Nat.zero_le _) (by omega) fun j j1 j2 => by simp [show ¬ j = 0 by omega,show ¬ j = 1 by omega,show ¬ j = 2 by omega,show ¬ j = n1 by omega,far j2]⟩
theorem deskDo_k (d : Desk) (a : Deed) (hd : d.small) (ha : a.words.length ≤ 1000000000) : FnS Tryz.prog 30 (fun _ => none) 0 [.v d.v,.v a.v] (PostK (deskDo d a)) := by
 have hk := ft (deskOk d)
 rcases hk with hk | hk
 ·have hok := deskOk_fn d (by have := hd.2.1; omega) (by have := hd.1.1; omega) (fun p hp => by have := (hd.2.2 p hp).1; omega)
  rw [deskDo_no hk]
  rw [hk] at hok
  obtain ⟨a1,a2,a3⟩ := a
  refine FS (rs := [.cell 4 34,.tmp 5]) false Tryz.func30 ?_
  simp -dsimp
  refine cl hok ?_
  simp -dsimp [noDeskV]
  exact ⟨.nil,.nil,rfl,OwnD.none (Nat.zero_le _)⟩
 obtain ⟨hpast,hnow,hp8⟩ := deskOk_iff.1 hk
 have ml := (made_fine d.now a hnow).2.1
 obtain ⟨kind,num,words⟩ := a
 simp only at ha
 have zero : ∀ a : Deed,isBack a = false → made d.now a = ⟨0,[]⟩ → FnS Tryz.prog 30 (fun _ => none) 0 [.v d.v,.v a.v] (PostK (d,false)) → FnS Tryz.prog 30 (fun _ => none) 0 [.v d.v,.v a.v] (PostK (deskDo d a)) := fun a h1 h2 h3 => by
  rw [deskDo_zero hk h1 h2]; exact h3
 by_cases k0 : kind = 0
 ·subst k0
  by_cases n0 : num = 0
  ·subst n0
   have hb : isBack ⟨0,0,words⟩ = false := back_no (by simp)
   cases hr : readC d.now.people words with
   | none => exact zero _ hb (by simp [made,hr]) (do_nosay_k d words hd hk hr ha)
   | some c =>
    have hm : made d.now ⟨0,0,words⟩ = ⟨d.now.people,d.now.story ++ [c]⟩ := by simp [made,hr]
    rw [deskDo_made hk hb]
    exact do_say_k d words c hd hk _ ml hr ha hm
  ·exact zero _ (back_no (by simp)) (by simp [made,n0]) (do_bad2_k d num words hd hk n0)
 by_cases hw : words = []
 case neg => exact zero _ (back_no (by simp [hw])) (by simp [made,k0,hw]) (do_bad1_k d kind num words hd hk k0 hw)
 subst hw
 by_cases k1 : kind = 1
 ·subst k1
  have hb : isBack ⟨1,num,[]⟩ = false := back_no (by simp)
  by_cases h0 : num < 0
  ·exact zero _ hb (by simp [made]; omega) (do_nodrop1_k d num hd hk h0)
  ·by_cases h1 : (d.now.story.length : Int) ≤ num
   ·exact zero _ hb (by simp [made]; omega) (do_nodrop2_k d num hd hk h0 h1)
   ·obtain ⟨k,rfl⟩ := Int.eq_ofNat_of_zero_le (show 0 ≤ num by omega)
    have hm : made d.now ⟨1,(k : Int),[]⟩ = ⟨d.now.people,d.now.story.eraseIdx k⟩ := by
     unfold made; rw [if_neg (by simp),if_pos ⟨rfl,rfl,by simp,by simp; omega⟩]; rfl
    rw [deskDo_made hk hb]
    exact do_drop_k d k hd hk _ ml (by omega) hm
 by_cases k2 : kind = 2
 ·subst k2
  have hb : isBack ⟨2,num,[]⟩ = false := back_no (by simp)
  have hm : made d.now ⟨2,num,[]⟩ = ⟨num,d.now.story⟩ := by simp [made]
  rw [deskDo_made hk hb]
  exact do_people_k d num hd hk _ ml hm
 by_cases n0 : num = 0
 case neg => exact zero _ (back_no (by simp [n0])) (by simp [made,k0,k1,k2,n0]) (do_bad3_k d kind num hd hk k0 k1 k2 n0)
 subst n0
 by_cases k3 : kind = 3
 ·subst k3
  have hb : isBack ⟨3,0,[]⟩ = false := back_no (by simp)
  have hm : made d.now ⟨3,0,[]⟩ = ⟨d.now.people,least d.now.people.toNat d.now.story⟩ := by simp [made]
  rw [deskDo_made hk hb]
  exact do_least_k d hd hk _ ml hm
 by_cases k4 : kind = 4
 ·subst k4
  by_cases he : d.past = []
  ·rw [deskDo_bad hk (good_back (by rfl)) (by simp [he])]
   exact do_noback_k d hd hk he
  ·rw [deskDo_back hk (by rfl) he]
   exact do_back_k d hd hk he
 exact zero _ (back_no (by simp [k4])) (by simp [made,k0,k1,k2,k3]) (do_other_k d kind hd hk k0 k1 k2 k3 k4)
end TL

namespace TL
open Go Go.Proofs
/-- What the lost deeds, done again, have made so far. -/
structure EndInv (s x : Store) (k : Nat) : Prop where
 ok : storeOk x = true
 full : (readJ x.log).2 = x.log.length
 same : opened x = (doAll ⟨placeOf s,[]⟩ ((readJ s.log).1.take k)).1
 short : x.log.length ≤ (jr ((readJ s.log).1.take k) deedTx).length
end TL

namespace TL
open Go Go.Proofs
attribute [local simp] marksV storyV codeV Claim.v Place.v Deed.v Desk.v
theorem l15Copy_v (d : Desk) (hd : d.small) (m : Mem) (n : Nat) : FnS Tryz.prog 22 m n [.v d.v] (Drawn (fun x => x = d.v) m n) := by
 refine Drawn_of ⟨_,Tryz.func22,rfl,rfl⟩ fun hfr => ?_
 refine (l15Copy_own d hd m n).weak ?_
 rintro t m' n' ⟨hn,hout,st,rfl,hst⟩
 refine ⟨hn,⟨d.v, ?_,rfl⟩,hout⟩
 have hb := hst.bor (n0 := n) (m' := m') (Nat.le_refl _) (fun i _ _ _ => rfl) 3
 simp [hb]
end TL

namespace TL
open Go Go.Proofs
attribute [local simp] marksV storyV codeV Claim.v Place.v Deed.v Desk.v
/-- A desk of the caller's own, and a value beside it. -/
def PostX (D : Desk) (x : V) (t : T) (m' : Mem) (n' : Nat) : Prop := ∃ sn P,t = .tup [dT D sn P,.v x] ∧ OwnD m' 0 n' sn P D
theorem callK_ {f : Nat} {m : Mem} {n : Nat} {args : List T} {vs : List V} {D : Desk} {x : V} {k : T → Mem → Nat → Prop} (hx : x.flat = true) (h : FnS Tryz.prog f (fun _ => none) 0 (vs.map .v) (PostX D x)) (ha : mapO (bor true m 4) args = some vs)
  (hk : ∀ sn P m2 n2,n ≤ n2 → (∀ j,j < n → m2 j = m j) → OwnD m2 n n2 sn P D → k (.tup [dT D sn P,.v x]) m2 n2) : callP Tryz.prog f m n args k := by
 refine callU_ (Q := PostX D x) h ha ?_ ?_
 ·rintro t m' n' ⟨sn,P,rfl,ho⟩
  exact ⟨flM m',flM_le _,by have := ho.flat.2; simp [this,hx],flM_fl _,sn,P,rfl,ho.flat.1⟩
 ·rintro t m' n' ⟨sn,P,rfl,ho⟩
  have h2 := ho.up (n := n) (m := m)
  rw [Nat.zero_add,Nat.add_comm n' n] at h2
  exact hk (sn.up n) (P.up n) _ _ (by omega) (fun j j1 => catM_lo j1) h2
end TL

namespace TL
open Go Go.RowKit
variable {P : Program}
theorem FnZ_own {f : Nat} {vs : List V} {r : V} {post : T → Mem → Nat → Prop} (h : FnS P f (fun _ => none) 0 (vs.map .v) post) (d : Nat) (hp : ∀ t m' n',post t m' n' → bor true m' d t = some r) : FnZ P f vs r := by
 refine ⟨h.1,fun Z w us hz hv => ?_⟩
 have hm : RelM P φ0 Z (fun _ => none) 0 w := ⟨fun i u h => (by simp at h),fun _ _ => rfl,fun i b h => (by cases h),fun i j a b u v k h => (by cases h),hz⟩
 refine (h.2 φ0 Z w us hm hv.toTs).mono fun e w' hh => ?_
 obtain ⟨v,φ',Z',m',n',t,rfl,h1,h2,h3,h4⟩ := hh
 have no : ∀ k,¬ Owned φ0 (fun _ => none) k := fun k ⟨i,b,v,h1,_⟩ => by cases h1
 have hsub : SubZ Z' (freshZ Z w.heap.size w'.heap.size) := fun k o hz' => by
  rcases h3.znew k o hz' with g | g | g
  ·exact .inl g
  ·exact .inr ⟨g,h1.zlt.lt k o hz'⟩
  ·exact absurd g (no k)
 have hown : ∀ g,Owned φ' m' g → ∀ o,freshZ Z w.heap.size w'.heap.size g o := fun g hg o => by
  refine .inr ⟨?_,h1.owned_lt hg⟩
  rcases Nat.lt_or_ge g w.heap.size with h5 | h5
  ·exact absurd (h3.own g h5 hg) (no g)
  ·exact h5
 exact ⟨v,rfl,⟨h3.os,h3.tape,h3.output,h3.size,fun k hk => h3.out k hk (no k)⟩,bor_sound h1 (k := true) hsub (fun _ => hown) d _ _ _ h2 (hp _ _ _ h4)⟩
end TL

namespace TL
open Go Go.Proofs
attribute [local simp] marksV storyV codeV Claim.v Place.v Deed.v Desk.v
theorem words_le {line : List UInt8} {a : Deed} (h : readD line = some a) : a.words.length ≤ line.length := by
 obtain ⟨h1,h2⟩ := readD_is h
 rcases deed_cases (a := a) (by rw [h2]; exact h1) with ⟨w,rfl,_,e⟩ | ⟨n,_,_,rfl,e⟩ | ⟨n,_,_,rfl,e⟩ | ⟨rfl,e⟩ | ⟨rfl,e⟩
 ·rw [h2] at e; rw [e]; simp
 all_goals simp
theorem deskLineS_fn (d : Desk) (line : List UInt8) (hd : d.small) (hf : d.fit) (hl : line.length ≤ 1000000000) : FnZ Tryz.prog 6 [d.v,.str line] (.tup [(deskLine d line).1.v,.str (deskLine d line).2]) := by
 have hok := deskOkS_fn d hd hf
 cases hk : deskOk d with
 | false =>
  rw [deskLine_no hk]
  rw [hk] at hok
  refine FZ (rs := [.cell 4 34,.tmp 5]) false Tryz.func6 ?_
  simp -dsimp
  refine cl hok ?_
  simp -dsimp [noDeskV,nes]
 | true =>
  rw [hk] at hok
  have hcp := fun m n => l15Copy_v d hd m n
  have hrd := readDeedS_fn line (by omega)
  cases hr : readD line with
  | some a =>
   rw [deskLine_deed hk hr]
   rw [hr] at hrd
   have hdo := deskDoS_fn d a hd hf (by have := words_le hr; omega)
   clear hr
   generalize deskDo d a = E at *
   obtain ⟨⟨⟨E1,E2⟩,E3⟩,b⟩ := E
   obtain ⟨a1,a2,a3⟩ := a
   obtain ⟨⟨d1,d2⟩,d3⟩ := d
   simp only [optD,Option.getD_some,Option.isSome_some] at hrd
   refine FZ (rs := [.cell 4 34,.tmp 5]) false Tryz.func6 ?_
   simp -dsimp
   refine cl hok ?_
   simp -dsimp [nes]
   refine callL_ (vs := [(⟨⟨d1,d2⟩,d3⟩ : Desk).v]) (hcp _ _) (by simp -dsimp) ?_
   rintro t m1 n1 ⟨hn1,⟨x,rfl,rfl⟩,rfl⟩
   have f0 := far (show 0 < n1 by omega)
   have f1 := far (show 1 < n1 by omega)
   simp -dsimp [nes,f0,f1]
   refine cl hrd ?_
   simp -dsimp [nes,f0,f1]
   refine cl hdo ?_
   cases b with
   | false => simp -dsimp [nes,okNot,f0,f1]
   | true => simp -dsimp [nes,okNot,f0,f1]
  | none =>
   rw [deskLine_ask hk hr]
   rw [hr] at hrd
   have han := answerS_fn d.now (deskOk_iff.1 hk).2.1 line (by omega)
   generalize ans d.now line = A at *
   obtain ⟨⟨d1,d2⟩,d3⟩ := d
   simp only [optD,Option.getD_none,Option.isSome_none] at hrd
   refine FZ (rs := [.cell 4 34,.tmp 5]) false Tryz.func6 ?_
   simp -dsimp
   refine cl hok ?_
   simp -dsimp [nes]
   refine callL_ (vs := [(⟨⟨d1,d2⟩,d3⟩ : Desk).v]) (hcp _ _) (by simp -dsimp) ?_
   rintro t m1 n1 ⟨hn1,⟨x,rfl,rfl⟩,rfl⟩
   have f0 := far (show 0 < n1 by omega)
   have f1 := far (show 1 < n1 by omega)
   simp -dsimp [nes,f0,f1]
   refine cl hrd ?_
   simp -dsimp [nes,f0,f1]
   refine twd (List.range 7) [0,n1] (List.replicate 7 [0,1]) (List.replicate 7 [0,1]) ?_
   simp -dsimp [List.range_succ,nes,f0,f1]
   refine cl han ?_
   simp -dsimp [List.range_succ,nes,f0,f1]
theorem deskLine_k (d : Desk) (line : List UInt8) (hd : d.small) (hl : line.length ≤ 1000000000) : FnS Tryz.prog 8 (fun _ => none) 0 [.v d.v,.v (.str line)] (PostX (deskLine d line).1 (.str (deskLine d line).2)) := by
 have hok := deskOk_fn d (by have := hd.2.1; omega) (by have := hd.1.1; omega) (fun p hp => by have := (hd.2.2 p hp).1; omega)
 cases hk : deskOk d with
 | false =>
  rw [deskLine_no hk]
  rw [hk] at hok
  refine FS (rs := [.cell 4 34,.tmp 5]) false Tryz.func8 ?_
  simp -dsimp
  refine cl hok ?_
  simp -dsimp [noDeskV,nes]
  exact ⟨.nil,.nil,rfl,OwnD.none (Nat.zero_le _)⟩
 | true =>
  rw [hk] at hok
  have hrd := readDeed_fn line (by omega)
  cases hr : readD line with
  | some a =>
   rw [deskLine_deed hk hr]
   rw [hr] at hrd
   have hdo := deskDo_k d a hd (by have := words_le hr; omega)
   have hdo : FnS Tryz.prog 30 (fun _ => none) 0 [.v d.v,.v a.v] (PostX (deskDo d a).1 (.bool (deskDo d a).2)) := hdo
   clear hr
   generalize deskDo d a = E at *
   obtain ⟨D,b⟩ := E
   obtain ⟨a1,a2,a3⟩ := a
   simp only [optD,Option.getD_some,Option.isSome_some] at hrd
   refine FS (rs := [.cell 4 34,.tmp 5]) false Tryz.func8 ?_
   simp -dsimp
   refine cl hok ?_
   simp -dsimp [nes]
   refine cl hrd ?_
   simp -dsimp [nes]
   refine callK_ (vs := [d.v,(⟨a1,a2,a3⟩ : Deed).v]) (D := D) (x := .bool b) rfl hdo (by simp -dsimp) ?_
   intro sn P m2 n2 hn2 hout2 hown2
   have k0 := hout2 0 (by omega)
   have k1 := hout2 1 (by omega)
   have k2 := hout2 2 (by omega)
   simp -dsimp [nes] at k0 k1 k2
   have hfc := hown2.facts
   have hc := hfc.1
   have hcs := hfc.2.1
   have hcP := hfc.2.2.1
   have hcsP := hfc.2.2.2
   clear hfc
   have f0 := far (show 0 < n2 by omega)
   have f1 := far (show 1 < n2 by omega)
   have f2 := far (show 2 < n2 by omega)
   cases b with
   | false =>
    simp -dsimp [dT,nes,k0,k1,k2,f0,f1,f2,hc,hcs,hcP,hcsP]
    exact ⟨sn,P,rfl,hown2.keep (Nat.zero_le _) (by omega) fun j j1 j2 => by simp [show ¬ j = 1 by omega,show ¬ j = n2 by omega]⟩
   | true =>
    simp -dsimp [dT,nes,k0,k1,k2,f0,f1,f2,hc,hcs,hcP,hcsP]
    exact ⟨sn,P,rfl,hown2.keep (Nat.zero_le _) (by omega) fun j j1 j2 => by simp [show ¬ j = 1 by omega,show ¬ j = n2 by omega]⟩
  | none =>
   rw [deskLine_ask hk hr]
   rw [hr] at hrd
   have hcv := fun m n => copyDesk_k d hd hk m n
   have han := answer_fn d.now (deskOk_iff.1 hk).2.1 line (by omega)
   generalize ans d.now line = A at *
   simp only [optD,Option.getD_none,Option.isSome_none] at hrd
   refine FS (rs := [.cell 4 34,.tmp 5]) false Tryz.func8 ?_
   simp -dsimp
   refine cl hok ?_
   simp -dsimp [nes]
   refine cl hrd ?_
   simp -dsimp [nes]
   refine twd [0,2,3,4,1,5,6,7] [0] (List.replicate 8 [0]) (List.replicate 8 [0]) ?_
   simp -dsimp [List.range_succ,nes]
   refine callL_ (vs := [d.v]) (hcv _ _) (by simp -dsimp) ?_
   rintro t m1 n1 ⟨hn1,hout,sn,P,rfl,hown⟩
   have k0 := hout 0 (by omega)
   have k1 := hout 1 (by omega)
   simp -dsimp [nes] at k0 k1
   have hfc := hown.facts
   have hc := hfc.1
   have hcs := hfc.2.1
   have hcP := hfc.2.2.1
   have hcsP := hfc.2.2.2
   clear hfc
   have f0 := far (show 0 < n1 by omega)
   have f1 := far (show 1 < n1 by omega)
   simp -dsimp [List.range_succ,dT,nes,keepP,k0,k1,f0,f1,hc,hcs,hcP,hcsP]
   refine cl han ?_
   simp -dsimp [List.range_succ,dT,nes,keepP,k0,k1,f0,f1,hc,hcs,hcP,hcsP]
   exact ⟨sn,P,rfl,hown.keep (Nat.zero_le _) (by omega) fun j j1 j2 => by simp [show ¬ j = 1 by omega,show ¬ j = n1 by omega]⟩
end TL
