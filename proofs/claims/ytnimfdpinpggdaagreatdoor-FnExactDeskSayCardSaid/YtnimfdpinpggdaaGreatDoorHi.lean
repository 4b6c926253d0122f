/- TL: parts FnsE3, FnsE6, FnsE15a, FnsE15b, FnsE18p, FnsE5, FnsE12, FnsP2, FnsK7, FnsIV, FnsIJ, FnsIK, FnsIM, FnsIN, FnsIO, FnsIR, FnsIP. -/
import Derived.Test.YtnimfdpinpggdaaGreatDoorHe
import Derived.Test.YtnimfdpinpggdaaGreatDoorHf
import Derived.Test.YtnimfdpinpggdaaGreatDoorHh
import Derived.Test.YtnimfdpinpggdaaGreatDoorHg
set_option linter.unusedSimpArgs false
set_option linter.unusedVariables false
set_option maxRecDepth 100000
set_option maxHeartbeats 4000000
set_option pp.maxSteps 1500
namespace TL
open Go Go.Proofs
attribute [local simp] marksV storyV codeV Claim.v Place.v Deed.v
def Deed.fit (a : Deed) : Prop := TL.fit a.kind ∧ TL.fit a.num ∧ a.words.length ≤ 9223372036854775807
end TL

namespace TL
open Go Go.Proofs
attribute [local simp] marksV storyV codeV Claim.v Place.v Deed.v
def jr (l : List Deed) (f : Deed → List UInt8) : List UInt8 := (l.map fun a => f a ++ [10]).flatten
/-! Rows of deeds. -/
end TL

namespace TL
open Go Go.Proofs
attribute [local simp] marksV storyV codeV Claim.v Place.v Deed.v
theorem readDeed_fn (s : List UInt8) (hl : s.length ≤ 2000000000) : FnZ Tryz.prog 29 [.str s] (optD (readD s)) := by
 have hcut := cut_fn s [32] (by omega)
 have hon : ∀ a,deedW (Go.Lib.cut s [32]).1 (Go.Lib.cut s [32]).2.1 = some a → s ≠ [] → readD s = if deedTx a = s then some a else none := fun a h => readD_on h
 have hoff : deedW (Go.Lib.cut s [32]).1 (Go.Lib.cut s [32]).2.1 = none → readD s = none := readD_off
 have hne := cutW_nil (s := s)
 have hrl := cutR_len s [32]
 have hdt : ∀ a : Deed,a.words.length ≤ 2000000000 → FnZ Tryz.prog 67 [a.v] (.str (deedTx a)) := fun a h => deedText_fn a h
 generalize (Go.Lib.cut s [32]).2.2 = f at *
 generalize (Go.Lib.cut s [32]).2.1 = r at *
 generalize (Go.Lib.cut s [32]).1 = w at *
 have hrl2 : r.length ≤ 2000000000 := by omega
 by_cases h1 : w = [115,97,121]
 ·subst h1
  have ho := hon ⟨0,0,r⟩ rfl (hne (by simp))
  have hd := hdt ⟨0,0,r⟩ hrl2
  clear hon hoff hne hdt
  rw [ho]
  by_cases hx : deedTx ⟨0,0,r⟩ = s
  ·rw [hx] at hd
   rw [if_pos hx]
   refine FZ (rs := [.cell 2 53,.tmp 3]) false Tryz.func29 ?_
   simp -dsimp
   refine cl hcut ?_
   simp -dsimp
   refine cl hd ?_
   simp -dsimp [optD]
  ·rw [if_neg hx]
   refine FZ (rs := [.cell 2 53,.tmp 3]) false Tryz.func29 ?_
   simp -dsimp
   refine cl hcut ?_
   simp -dsimp
   refine cl hd ?_
   simp -dsimp [optD,hx]
 by_cases h2 : w = [100,114,111,112]
 ·subst h2
  have ho := hon ⟨1,atoiV r,[]⟩ rfl (hne (by simp))
  have hd := hdt ⟨1,atoiV r,[]⟩ (by simp)
  have ha := atoi_fn r hrl2
  clear hon hoff hne hdt
  rw [ho]
  generalize atoiV r = num at *
  by_cases hx : deedTx ⟨1,num,[]⟩ = s
  ·rw [hx] at hd
   rw [if_pos hx]
   refine FZ (rs := [.cell 2 53,.tmp 3]) false Tryz.func29 ?_
   simp -dsimp
   refine cl hcut ?_
   simp -dsimp
   refine cl ha ?_
   simp -dsimp
   refine cl hd ?_
   simp -dsimp [optD]
  ·rw [if_neg hx]
   refine FZ (rs := [.cell 2 53,.tmp 3]) false Tryz.func29 ?_
   simp -dsimp
   refine cl hcut ?_
   simp -dsimp
   refine cl ha ?_
   simp -dsimp
   refine cl hd ?_
   simp -dsimp [optD,hx]
 by_cases h3 : w = [112,101,111,112,108,101]
 ·subst h3
  have ho := hon ⟨2,atoiV r,[]⟩ rfl (hne (by simp))
  have hd := hdt ⟨2,atoiV r,[]⟩ (by simp)
  have ha := atoi_fn r hrl2
  clear hon hoff hne hdt
  rw [ho]
  generalize atoiV r = num at *
  by_cases hx : deedTx ⟨2,num,[]⟩ = s
  ·rw [hx] at hd
   rw [if_pos hx]
   refine FZ (rs := [.cell 2 53,.tmp 3]) false Tryz.func29 ?_
   simp -dsimp
   refine cl hcut ?_
   simp -dsimp
   refine cl ha ?_
   simp -dsimp
   refine cl hd ?_
   simp -dsimp [optD]
  ·rw [if_neg hx]
   refine FZ (rs := [.cell 2 53,.tmp 3]) false Tryz.func29 ?_
   simp -dsimp
   refine cl hcut ?_
   simp -dsimp
   refine cl ha ?_
   simp -dsimp
   refine cl hd ?_
   simp -dsimp [optD,hx]
 by_cases h4 : w = [108,101,97,115,116]
 ·subst h4
  have ho := hon ⟨3,0,[]⟩ rfl (hne (by simp))
  have hd := hdt ⟨3,0,[]⟩ (by simp)
  clear hon hoff hne hdt
  rw [ho]
  by_cases hx : deedTx ⟨3,0,[]⟩ = s
  ·rw [hx] at hd
   rw [if_pos hx]
   refine FZ (rs := [.cell 2 53,.tmp 3]) false Tryz.func29 ?_
   simp -dsimp
   refine cl hcut ?_
   simp -dsimp
   refine cl hd ?_
   simp -dsimp [optD]
  ·rw [if_neg hx]
   refine FZ (rs := [.cell 2 53,.tmp 3]) false Tryz.func29 ?_
   simp -dsimp
   refine cl hcut ?_
   simp -dsimp
   refine cl hd ?_
   simp -dsimp [optD,hx]
 by_cases h5 : w = [98,97,99,107]
 ·subst h5
  have ho := hon ⟨4,0,[]⟩ rfl (hne (by simp))
  have hd := hdt ⟨4,0,[]⟩ (by simp)
  clear hon hoff hne hdt
  rw [ho]
  by_cases hx : deedTx ⟨4,0,[]⟩ = s
  ·rw [hx] at hd
   rw [if_pos hx]
   refine FZ (rs := [.cell 2 53,.tmp 3]) false Tryz.func29 ?_
   simp -dsimp
   refine cl hcut ?_
   simp -dsimp
   refine cl hd ?_
   simp -dsimp [optD]
  ·rw [if_neg hx]
   refine FZ (rs := [.cell 2 53,.tmp 3]) false Tryz.func29 ?_
   simp -dsimp
   refine cl hcut ?_
   simp -dsimp
   refine cl hd ?_
   simp -dsimp [optD,hx]
 ·have e : deedW w r = none := by unfold deedW; rw [if_neg h1,if_neg h2,if_neg h3,if_neg h4,if_neg h5]
  rw [hoff e]
  clear hon hoff hne hdt
  refine FZ (rs := [.cell 2 53,.tmp 3]) false Tryz.func29 ?_
  simp -dsimp
  refine cl hcut ?_
  simp -dsimp [optD,h1,h2,h3,h4,h5]
end TL

namespace TL
open Go Go.Proofs
attribute [local simp] marksV storyV codeV Claim.v Place.v Deed.v
/-! The reference. -/
def Isrd (s : List UInt8) (l : List Deed) (e : Nat) (y : S) : Prop := ∃ i id : Nat,y.tm 0 = .v (.str s) ∧ y.tm 2 = .ptr 0 0 ∧ y.m 0 = some (.box 53 3 [.v (.int .i64 0),.v (.int .i64 0),.v (.str [])]) ∧ y.tm 5 = .loc id ∧ 0 < id ∧ id < y.n ∧
 y.m id = some (.arr 53 (l.map Deed.v)) ∧ y.tm 7 = .v (.int .i64 i) ∧ y.mu = false ∧ i ≤ l.length ∧ (∀ a ∈ l.take i,s ≠ [] → deedTx a ≠ s) ∧ (e = 1 → i = l.length)
theorem deedS_two {s x r : List UInt8} (h : cutAt 32 s = [x,r]) : deedS s = [⟨3,0,[]⟩,⟨4,0,[]⟩,⟨0,0,r⟩,⟨1,digS r,[]⟩,⟨2,digS r,[]⟩] := by
 unfold deedS; rw [h]; rfl
theorem deedS_not {s : List UInt8} (h : (cutAt 32 s).length ≠ 2) : deedS s = [⟨3,0,[]⟩,⟨4,0,[]⟩] := by
 unfold deedS
 generalize cutAt 32 s = ps at h
 match ps,h with
 | [],_ => rfl
 | [_],_ => rfl
 | [_,_],h => exact absurd rfl h
 | _ :: _ :: _ :: _,_ => rfl
theorem readDeedS_fn (s : List UInt8) (hl : s.length ≤ 2000000000) : FnZ Tryz.prog 23 [.str s] (optD (readD s)) := by
 have hcut := l1Cut_fn s 32 hl
 have e32 : (((32 : UInt8).toNat : Nat) : Int) = 32 := rfl
 rw [e32] at hcut
 have hno := readD_none' (s := s)
 have hyes : ∀ a,s ≠ [] → deedTx a = s → readD s = some a := fun a => readD_some
 have hlen : ∀ a ∈ deedS s,a.words.length ≤ 2000000000 := by
  by_cases h2 : (cutAt 32 s).length = 2
  ·have h3 : ∃ x rest,cutAt 32 s = [x,rest] := by
    generalize cutAt 32 s = ps at h2
    match ps,h2 with
    | [x,r],_ => exact ⟨x,r,rfl⟩
   obtain ⟨x,r,h5⟩ := h3
   have hrl : r.length ≤ s.length := cutAt_piece (c := 32) (by rw [h5]; simp)
   rw [deedS_two h5]
   intro a ha
   simp only [List.mem_cons,List.mem_nil_iff,or_false] at ha
   rcases ha with rfl | rfl | rfl | rfl | rfl <;> simp <;> omega
  ·rw [deedS_not h2]
   intro a ha
   simp only [List.mem_cons,List.mem_nil_iff,or_false] at ha
   rcases ha with rfl | rfl <;> simp
 have hll : (deedS s).length ≤ 5 := by
  by_cases h2 : (cutAt 32 s).length = 2
  ·have h3 : ∃ x rest,cutAt 32 s = [x,rest] := by
    generalize cutAt 32 s = ps at h2
    match ps,h2 with
    | [x,r],_ => exact ⟨x,r,rfl⟩
   obtain ⟨x,r,h5⟩ := h3
   rw [deedS_two h5]; simp
  ·rw [deedS_not h2]; simp
 by_cases h2 : (cutAt 32 s).length = 2
 case pos =>
  have h3 : ∃ x rest,cutAt 32 s = [x,rest] := by
   generalize cutAt 32 s = ps at h2
   match ps,h2 with
   | [x,r],_ => exact ⟨x,r,rfl⟩
  refine h3.elim fun x h4 => h4.elim fun r h5 => ?_
  clear h3 h4 h2
  have hrl : r.length ≤ s.length := cutAt_piece (c := 32) (by rw [h5]; simp)
  have hdg := l1Digits_fn r (by omega)
  have hds := deedS_two h5
  rw [h5] at hcut
  generalize deedS s = l at *
  generalize digS r = D at *
  clear h5
  refine FZ (rs := [.cell 2 53,.tmp 3]) false Tryz.func23 ?_
  simp -dsimp
  refine cl hcut ?_
  simp -dsimp
  refine cl hdg ?_
  simp -dsimp
  refine twp_loopC (Isrd s l 0) (fun y => l.length - natOf (y.tm 7)) (Isrd s l 1) ?_ ?_ ?_
  ·refine ⟨0,_,by simp -dsimp,by simp -dsimp,by simp -dsimp,by simp -dsimp; rfl,by simp -dsimp,by simp -dsimp,by simp -dsimp [hds],by simp -dsimp,by simp -dsimp,by omega,by simp,by simp⟩
  ·rintro y ⟨i,id,t0,t2,m0,t5,hid0,hid,hm,t7,hmu,hi,hall,hend⟩
   by_cases hlt : i < l.length
   case neg =>
    simp -dsimp [t5,t7,hm,hlt]
    exact ⟨i,id,by simp -dsimp [t0],by simp -dsimp [t2],by simp -dsimp [m0],by simp -dsimp [t5],hid0,by simp -dsimp [hid],by simp -dsimp [hm],by simp -dsimp [t7],by simp -dsimp [hmu],hi,hall,fun _ => by omega⟩
   have hget : (l.map Deed.v)[i]? = some (l[i].v) := by simp [hlt]
   have wi : IntKind.wrap .i64 ((i : Int) + 1) = ((i + 1 : Nat) : Int) := by rw [w64 (by omega) (by omega)]; omega
   have hmu1 : l.length - (i + 1) < l.length - i := by omega
   have hdt := deedTextS_fn l[i] (hlen _ (List.getElem_mem _))
   have f0 := far (show 0 < y.n by omega)
   have f1 := far hid
   by_cases hs : s = []
   ·have hnx : ∀ a ∈ l.take (i + 1),s ≠ [] → deedTx a ≠ s := fun a _ h => absurd hs h
    simp -dsimp [t0,t5,t7,hm,hlt,hs,wi,hmu1]
    exact ⟨i + 1,id,by simp -dsimp [t0,hs],by simp -dsimp [t2],by simp -dsimp [m0],by simp -dsimp [t5],hid0,by simp -dsimp [hid],by simp -dsimp [hm],by simp -dsimp,by simp -dsimp [hmu],by omega,fun a _ h => absurd rfl h,by simp⟩
   ·by_cases he : deedTx l[i] = s
    ·rw [hyes _ hs he]
     rw [he] at hdt
     simp -dsimp [t0,t5,t7,hm,hlt,hs,hget]
     refine cl hdt ?_
     simp -dsimp [t0,t2,t5,t7,m0,hm,hget,hlt,f0,f1,optD]
    ·have hnx : ∀ a ∈ l.take (i + 1),s ≠ [] → deedTx a ≠ s := fun a ha h => by
      rw [List.take_succ_eq_append_getElem hlt] at ha
      rcases List.mem_append.1 ha with ha | ha
      ·exact hall a ha h
      ·rw [List.mem_singleton.1 ha]; exact he
     simp -dsimp [t0,t5,t7,hm,hlt,hs,hget]
     refine cl hdt ?_
     simp -dsimp [t0,he,t7,wi,hmu1]
     exact ⟨i + 1,id,by simp -dsimp [t0],by simp -dsimp [t2],by simp -dsimp [m0],by simp -dsimp [t5],hid0,by simp -dsimp [hid],by simp -dsimp [hm],by simp -dsimp,by simp -dsimp [hmu],by omega,hnx,by simp⟩
  ·rintro y ⟨i,id,t0,t2,m0,t5,hid0,hid,hm,t7,hmu,hi,hall,hend⟩
   have hil := hend rfl
   rw [hil,List.take_length] at hall
   rw [hno hall]
   have f0 := far (show 0 < y.n by omega)
   simp -dsimp [t2,m0,f0,optD]
 case neg =>
  have h2' : ¬ ((cutAt 32 s).length : Int) = 2 := by omega
  have hds := deedS_not h2
  generalize deedS s = l at *
  refine FZ (rs := [.cell 2 53,.tmp 3]) false Tryz.func23 ?_
  simp -dsimp
  refine cl hcut ?_
  simp -dsimp [h2,h2']
  refine twp_loopC (Isrd s l 0) (fun y => l.length - natOf (y.tm 7)) (Isrd s l 1) ?_ ?_ ?_
  ·refine ⟨0,_,by simp -dsimp,by simp -dsimp,by simp -dsimp,by simp -dsimp; rfl,by simp -dsimp,by simp -dsimp,by simp -dsimp [hds],by simp -dsimp,by simp -dsimp,by omega,by simp,by simp⟩
  ·rintro y ⟨i,id,t0,t2,m0,t5,hid0,hid,hm,t7,hmu,hi,hall,hend⟩
   by_cases hlt : i < l.length
   case neg =>
    simp -dsimp [t5,t7,hm,hlt]
    exact ⟨i,id,by simp -dsimp [t0],by simp -dsimp [t2],by simp -dsimp [m0],by simp -dsimp [t5],hid0,by simp -dsimp [hid],by simp -dsimp [hm],by simp -dsimp [t7],by simp -dsimp [hmu],hi,hall,fun _ => by omega⟩
   have hget : (l.map Deed.v)[i]? = some (l[i].v) := by simp [hlt]
   have wi : IntKind.wrap .i64 ((i : Int) + 1) = ((i + 1 : Nat) : Int) := by rw [w64 (by omega) (by omega)]; omega
   have hmu1 : l.length - (i + 1) < l.length - i := by omega
   have hdt := deedTextS_fn l[i] (hlen _ (List.getElem_mem _))
   have f0 := far (show 0 < y.n by omega)
   have f1 := far hid
   by_cases hs : s = []
   ·have hnx : ∀ a ∈ l.take (i + 1),s ≠ [] → deedTx a ≠ s := fun a _ h => absurd hs h
    simp -dsimp [t0,t5,t7,hm,hlt,hs,wi,hmu1]
    exact ⟨i + 1,id,by simp -dsimp [t0,hs],by simp -dsimp [t2],by simp -dsimp [m0],by simp -dsimp [t5],hid0,by simp -dsimp [hid],by simp -dsimp [hm],by simp -dsimp,by simp -dsimp [hmu],by omega,fun a _ h => absurd rfl h,by simp⟩
   ·by_cases he : deedTx l[i] = s
    ·rw [hyes _ hs he]
     rw [he] at hdt
     simp -dsimp [t0,t5,t7,hm,hlt,hs,hget]
     refine cl hdt ?_
     simp -dsimp [t0,t2,t5,t7,m0,hm,hget,hlt,f0,f1,optD]
    ·have hnx : ∀ a ∈ l.take (i + 1),s ≠ [] → deedTx a ≠ s := fun a ha h => by
      rw [List.take_succ_eq_append_getElem hlt] at ha
      rcases List.mem_append.1 ha with ha | ha
      ·exact hall a ha h
      ·rw [List.mem_singleton.1 ha]; exact he
     simp -dsimp [t0,t5,t7,hm,hlt,hs,hget]
     refine cl hdt ?_
     simp -dsimp [t0,he,t7,wi,hmu1]
     exact ⟨i + 1,id,by simp -dsimp [t0],by simp -dsimp [t2],by simp -dsimp [m0],by simp -dsimp [t5],hid0,by simp -dsimp [hid],by simp -dsimp [hm],by simp -dsimp,by simp -dsimp [hmu],by omega,hnx,by simp⟩
  ·rintro y ⟨i,id,t0,t2,m0,t5,hid0,hid,hm,t7,hmu,hi,hall,hend⟩
   have hil := hend rfl
   rw [hil,List.take_length] at hall
   rw [hno hall]
   have f0 := far (show 0 < y.n by omega)
   simp -dsimp [t2,m0,f0,optD]
end TL

namespace TL
open Go Go.Proofs
/-- What ReadJournal reads, and how far. -/
noncomputable def readJF : Nat → List UInt8 → List Deed × Nat
 | 0,_ => ([],0)
 | f + 1,s => if (Go.Lib.cut s [10]).2.2 = true then match readD (Go.Lib.cut s [10]).1 with
  | some a => (a :: (readJF f (Go.Lib.cut s [10]).2.1).1,(Go.Lib.cut s [10]).1.length + 1 + (readJF f (Go.Lib.cut s [10]).2.1).2)
  | none => ([],0) else ([],0)
noncomputable def readJ (s : List UInt8) : List Deed × Nat := readJF (s.length + 1) s
end TL

namespace TL
open Go Go.Proofs
attribute [local simp] marksV storyV codeV Claim.v Place.v Deed.v
structure Store where
 saved : List UInt8
 log : List UInt8
 sure : Int
 deriving DecidableEq
def Store.v (s : Store) : V := .agg [.str s.saved,.str s.log,.int .i64 s.sure]
end TL

namespace TL
open Go Go.Proofs
attribute [local simp] marksV storyV codeV Claim.v Place.v Store.v
noncomputable def storeOk (s : Store) : Bool := (readP s.saved).isSome && decide (s.log.length ≤ 1000) && decide (0 ≤ s.sure) && decide (s.sure ≤ s.log.length)
def Store.small (s : Store) : Prop := s.saved.length ≤ 2000000000 ∧ s.log.length ≤ 2000000000
/-! The exact laws. -/
def Store.bulk (s : Store) : Nat := s.saved.length + s.log.length
def Store.mid (s : Store) : Prop := s.saved.length ≤ 9223372036854775807 ∧ s.log.length ≤ 9223372036854775807
end TL

namespace TL
open Go Go.Proofs
/-! Stores. -/
noncomputable def placeOf (s : Store) : Place := (readP s.saved).getD ⟨0,[]⟩
noncomputable def opened (s : Store) : Desk := (doAll ⟨placeOf s,[]⟩ (readJ s.log).1).1
end TL

namespace TL
open Go Go.Proofs
attribute [local simp] marksV storyV codeV Claim.v Place.v Deed.v Desk.v
def okNot (b : Bool) : List UInt8 := if b = true then [111,107] else [110,111,116]
end TL

namespace TL
open Go Go.Proofs
theorem numTx_ne (n : Int) : numTx n ≠ [] := by
 unfold numTx
 split
 ·simp
 ·obtain ⟨k,rfl⟩ := Int.eq_ofNat_of_zero_le (show 0 ≤ n by omega)
  exact dec_ne k
theorem cellTx_ne (n : Int) : cellTx n ≠ [] := by
 unfold cellTx
 split
 ·simp
 ·obtain ⟨k,rfl⟩ := Int.eq_ofNat_of_zero_le (show 0 ≤ n by omega)
  exact dec_ne k
theorem rowTx_ne (l : List Int) : rowTx l ≠ [] := by
 unfold rowTx
 split
 ·simp
 ·match l with
  | [] => contradiction
  | [x] => simp [Go.Lib.join_one,cellTx_ne]
  | x :: y :: r => rw [List.map_cons,Go.Lib.join_cons]; simp [cellTx_ne]
theorem askT_ne (p : Nat) (l : List Claim) (w : List UInt8) (t : List Mark) : askT p l w t ≠ [] := by
 unfold askT
 split
 ·split <;> simp [wYes,wNo]
 ·split
  ·split
   ·exact PT.tx_ne _
   ·simp [wNone]
  ·split
   ·exact dec_ne _
   ·simp [wWhat]
theorem ans_ne {q : Place} (h : placeOk q = true) (line : List UInt8) : ans q line ≠ [] := by
 unfold ans
 split
 ·unfold placeTx; rw [if_pos h]; simp
 ·split
  ·exact rowTx_ne _
  ·split
   ·exact numTx_ne _
   ·split
    ·exact rowTx_ne _
    ·split
     ·exact rowTx_ne _
     ·split
      ·exact numTx_ne _
      ·split
       ·exact numTx_ne _
       ·split
        ·exact askT_ne _ _ _ _
        ·simp [wWhat]
noncomputable def deskLine (d : Desk) (line : List UInt8) : Desk × List UInt8 :=
 if deskOk d = true then (match readD line with
  | some a => ((deskDo d a).1,okNot (deskDo d a).2)
  | none => (d,ans d.now line)) else (noDeskV,[])
theorem deskLine_no {d : Desk} (h : deskOk d = false) (line : List UInt8) : deskLine d line = (noDeskV,[]) := by unfold deskLine; rw [if_neg (by simp [h])]
theorem deskLine_deed {d : Desk} (h : deskOk d = true) {line : List UInt8} {a : Deed} (ha : readD line = some a) : deskLine d line = ((deskDo d a).1,okNot (deskDo d a).2) := by unfold deskLine; rw [if_pos h,ha]
theorem deskLine_ask {d : Desk} (h : deskOk d = true) {line : List UInt8} (ha : readD line = none) : deskLine d line = (d,ans d.now line) := by unfold deskLine; rw [if_pos h,ha]
theorem deskLine_ok {d : Desk} (h : deskOk d = true) (line : List UInt8) : deskOk (deskLine d line).1 = true := by
 cases hr : readD line with
 | none => rw [deskLine_ask h hr]; exact h
 | some a => rw [deskLine_deed h hr]; exact deskDo_ok d a h
theorem okNot_ne (b : Bool) : okNot b ≠ [] := by unfold okNot; split <;> simp
theorem deskLine_ne {d : Desk} (h : deskOk d = true) (line : List UInt8) : (deskLine d line).2 ≠ [] := by
 cases hr : readD line with
 | none => rw [deskLine_ask h hr]; exact ans_ne (deskOk_iff.1 h).2.1 line
 | some a => rw [deskLine_deed h hr]; exact okNot_ne _
/-! Many lines. -/
noncomputable def sayStep (x : Desk × List (List UInt8)) (w : List UInt8) : Desk × List (List UInt8) := ((deskLine x.1 w).1,x.2 ++ [(deskLine x.1 w).2])
noncomputable def sayAll (d : Desk) (ws : List (List UInt8)) : Desk × List (List UInt8) := ws.foldl sayStep (d,[])
theorem sayAll_from (ws : List (List UInt8)) : ∀ (d : Desk) (o : List (List UInt8)),ws.foldl sayStep (d,o) = ((sayAll d ws).1,o ++ (sayAll d ws).2) := by
 induction ws with
 | nil => intro d o; simp [sayAll]
 | cons w ws ih =>
  intro d o
  have a := ih (deskLine d w).1 (o ++ [(deskLine d w).2])
  have b := ih (deskLine d w).1 ([] ++ [(deskLine d w).2])
  have e : sayAll d (w :: ws) = ws.foldl sayStep ((deskLine d w).1,[] ++ [(deskLine d w).2]) := rfl
  rw [e,b]
  show ws.foldl sayStep ((deskLine d w).1,o ++ [(deskLine d w).2]) = _
  rw [a]; simp
theorem sayAll_append (d : Desk) (l k : List (List UInt8)) : sayAll d (l ++ k) = ((sayAll (sayAll d l).1 k).1,(sayAll d l).2 ++ (sayAll (sayAll d l).1 k).2) := by
 unfold sayAll
 rw [List.foldl_append]
 exact sayAll_from k _ _
theorem sayAll_snoc (d : Desk) (l : List (List UInt8)) (w : List UInt8) : sayAll d (l ++ [w]) = ((deskLine (sayAll d l).1 w).1,(sayAll d l).2 ++ [(deskLine (sayAll d l).1 w).2]) := by
 rw [sayAll_append]; rfl
theorem sayAll_ok (l : List (List UInt8)) : ∀ d : Desk,deskOk d = true → deskOk (sayAll d l).1 = true ∧ (∀ x ∈ (sayAll d l).2,x ≠ []) ∧ (sayAll d l).2.length = l.length := by
 induction l with
 | nil => intro d h; exact ⟨h,by simp [sayAll],rfl⟩
 | cons w ws ih =>
  intro d h
  obtain ⟨a,b,c⟩ := ih _ (deskLine_ok h w)
  have e : sayAll d (w :: ws) = ((sayAll (deskLine d w).1 ws).1,[(deskLine d w).2] ++ (sayAll (deskLine d w).1 ws).2) := sayAll_append d [w] ws
  rw [e]
  refine ⟨a,fun x hx => ?_,by simp [c]⟩
  rcases List.mem_append.1 hx with hx | hx
  ·rw [List.mem_singleton.1 hx]; exact deskLine_ne h w
  ·exact b x hx
noncomputable def deskSay (d : Desk) (ws : List (List UInt8)) : Desk × List (List UInt8) := if deskOk d = true ∧ ws.length ≤ 40 then sayAll d ws else (noDeskV,[])
/-! Answers are short. -/
end TL

namespace TL
open Go Go.Proofs
attribute [local simp] marksV storyV codeV Claim.v Place.v numsV natsV
theorem storyTableS_fn (p : Nat) (l : List Claim) (h : storyOk p l = true) : FnZ Tryz.prog 101 [.int .i64 p,storyV l] (.int .i64 (storyTab p l)) := by
 obtain ⟨h1,h4,hc,h6⟩ := allOk_of h
 have hok := storyOkS_fn p l (by omega) fun c hx => (claim_fine (hc c hx)).1
 rw [h] at hok
 have hst := l4Story_fn p l (by omega) (by omega) (by omega) hc
 refine FZ (rs := [.tmp 4]) false Tryz.func101 ?_
 simp -dsimp
 refine cl hok ?_
 simp -dsimp
 refine cl hst ?_
 simp -dsimp
def Iws (p n N : Nat) (e : Nat) (s : S) : Prop := ∃ w id : Nat,s.tm 0 = .v (.int .i64 p) ∧ s.tm 1 = .v (.int .i64 n) ∧ s.tm 5 = .loc id ∧ s.tm 6 = .v (.int .i64 w) ∧ w ≤ N ∧ s.mu = false ∧ id < s.n ∧
 s.m id = some (.arr 3 (((List.range w).filter fun w => n.testBit w).map fun w => V.int .i64 (w : Nat))) ∧ (e = 1 → w = N)
theorem worldsInS_fn (p n : Nat) (hk : tableOk p n = true) (hp1 : 1 ≤ p) (hp4 : p ≤ 4) (hn : n < 65536) : FnZ Tryz.prog 50 [.int .i64 p,.int .i64 n] (natsV (worldsOf p n)) := by
 have hok := tableOkS_fn p n
 rw [hk] at hok
 have hN := pow_small (p := p) (by omega)
 have ws := (shl_pow (p := p) (by omega)).1
 have e : worldsOf p n = (List.range (2 ^ p)).filter fun w => n.testBit w := rfl
 rw [e]
 obtain ⟨N,hNN⟩ : ∃ N,2 ^ p = N := ⟨_,rfl⟩
 rw [hNN] at hN ws ⊢
 have hp0 : ¬ (p : Int) < 0 := by omega
 refine FZ (rs := [.tmp 4]) false Tryz.func50 ?_
 simp -dsimp
 refine twp_loopC (Iws p n N 0) (fun s => N - natOf (s.tm 6)) (Iws p n N 1) ?_ ?_ ?_
 ·exact ⟨0,0,by simp -dsimp,by simp -dsimp,by simp -dsimp,by simp -dsimp,by omega,by simp -dsimp,by simp -dsimp,by simp -dsimp,by simp⟩
 ·rintro s ⟨w,id,t0,t1,t5,t6,hw,hmu,hid,hm,hend⟩
  by_cases hlt : w < N
  case neg =>
   simp -dsimp [t0,t1,t6]
   refine cl hok ?_
   simp -dsimp [t0,t1,t6,hp0,ws,hlt]
   exact ⟨w,id,by simp -dsimp [t0],by simp -dsimp [t1],by simp -dsimp [t5],by simp -dsimp [t6],hw,by simp -dsimp [hmu],by simp -dsimp; omega,by simp -dsimp [hm],fun _ => by omega⟩
  have wi : IntKind.wrap .i64 ((w : Int) + 1) = ((w + 1 : Nat) : Int) := by rw [w64 (by omega) (by omega)]; omega
  have hmu1 : N - (w + 1) < N - w := by omega
  have z1 : ¬ (w : Int) < 0 := by omega
  have b1 := bit2 n w (by omega)
  have f1 := far hid
  have hsucc : (List.range (w + 1)).filter (fun w => n.testBit w) = (List.range w).filter (fun w => n.testBit w) ++ (if n.testBit w = true then [w] else []) := by
   rw [List.range_succ,List.filter_append]; congr 1
   by_cases h : n.testBit w = true <;> simp [h]
  have hfl : ((List.range w).filter fun w => n.testBit w).length ≤ w := by
   have := List.length_filter_le (fun w => n.testBit w) (List.range w)
   simpa using this
  obtain ⟨xs,hxs⟩ : ∃ xs,((List.range w).filter fun w => n.testBit w).map (fun w => V.int .i64 (w : Nat)) = xs := ⟨_,rfl⟩
  have hxl : xs.length ≤ 16 := by rw [← hxs]; simp only [List.length_map]; omega
  have bb : (xs.length + 1) * 8 ≤ 140737488355328 := by omega
  rw [hxs] at hm
  have hc := ft (n.testBit w)
  rcases hc with hc | hc
  ·rw [hc] at b1 hsucc
   simp -dsimp [t0,t1,t6]
   refine cl hok ?_
   simp -dsimp [t0,t1,t6,hp0,ws,hlt,b1,z1,wi,hmu1]
   refine ⟨w + 1,id,by simp -dsimp [t0],by simp -dsimp [t1],by simp -dsimp [t5],by simp -dsimp,by omega,by simp -dsimp [hmu],by simp -dsimp; omega, ?_,by simp⟩
   rw [hsucc]; simp -dsimp [hm,hxs]
  ·rw [hc] at b1 hsucc
   simp -dsimp [t0,t1,t6]
   refine cl hok ?_
   simp -dsimp [t0,t1,t5,t6,hp0,ws,hlt,b1,z1,wi,hmu1,hm,hmu,f1,bb]
   refine st_out fun s' ht hm' hn' hu' => ?_
   have a0 := ht 0
   have a1 := ht 1
   have a5 := ht 5
   have a6 := ht 6
   simp -dsimp [t0,t1] at a0 a1 a5 a6 hm' hn' hu'
   clear ht
   refine ⟨w + 1,_,a0,a1,a5,a6,by omega,by rw [hu',hmu],by omega, ?_,by simp⟩
   rw [hsucc]; simp [hm',nes,hxs]
 ·rintro s ⟨w,id,t0,t1,t5,t6,hw,hmu,hid,hm,hend⟩
  have := hend rfl
  subst this
  simp -dsimp [t5,hm]
theorem onlyV_not {p : Nat} {l : List Claim} (h : ¬ (sw p l).length = 1) : onlyV p l = -1 := by
 unfold onlyV
 split
 ·rename_i w hw; rw [hw] at h; exact absurd rfl h
 ·rfl
theorem onlyV_one {p : Nat} {l : List Claim} {w : Nat} (h : sw p l = [w]) : onlyV p l = w := by
 unfold onlyV; rw [h]
theorem onlyWorldS_fn (p : Nat) (l : List Claim) (h : storyOk p l = true) : FnZ Tryz.prog 51 [.int .i64 p,storyV l] (.tup [.int .i64 (onlyV p l),.bool (onlyB p l)]) := by
 obtain ⟨h1,h4,hc,h6⟩ := allOk_of h
 have hst := storyTableS_fn p l h
 have hwi := worldsInS_fn p (storyTab p l) (storyTab_ok (by omega) (by omega) l) (by omega) (by omega) (storyTab_small (by omega) l)
 have e0 : worldsOf p (storyTab p l) = sw p l := rfl
 rw [e0] at hwi
 by_cases c1 : (sw p l).length = 1
 ·obtain ⟨w,hw⟩ := List.length_eq_one_iff.1 c1
  rw [onlyV_one hw,show onlyB p l = true from decide_eq_true c1]
  rw [hw] at hwi
  refine FZ (rs := [.tmp 4,.tmp 5]) false Tryz.func51 ?_
  simp -dsimp
  refine cl hst ?_
  simp -dsimp
  refine cl hwi ?_
  simp -dsimp
 ·rw [onlyV_not c1,show onlyB p l = false from decide_eq_false c1]
  generalize sw p l = W at *
  have c2 : ¬ ((W.length : Int) = 1) := by omega
  refine FZ (rs := [.tmp 4,.tmp 5]) false Tryz.func51 ?_
  simp -dsimp
  refine cl hst ?_
  simp -dsimp
  refine cl hwi ?_
  simp -dsimp [c1,c2]
def Isx1 (p : Nat) (W : List Nat) (e : Nat) (s : S) : Prop := ∃ i id : Nat,s.tm 0 = .v (.int .i64 p) ∧ s.tm 5 = .loc id ∧ s.tm 6 = .v (natsV W) ∧ id < s.n ∧ s.mu = false ∧ s.m id = some (.arr 3 (((List.range i).map (knownOf W)).map (V.int .i64))) ∧ s.tm 7 = .v (.int .i64 i) ∧ i ≤ p ∧ (e = 1 → i = p)
def Isx2 (p : Nat) (W : List Nat) (i id : Nat) (e : Nat) (s : S) : Prop := ∃ j : Nat,s.tm 0 = .v (.int .i64 p) ∧ s.tm 5 = .loc id ∧ s.tm 6 = .v (natsV W) ∧ id < s.n ∧ s.mu = false ∧ s.m id = some (.arr 3 (((List.range i).map (knownOf W)).map (V.int .i64))) ∧ s.tm 7 = .v (.int .i64 i) ∧
 s.tm 8 = .v (.int .i64 (cntB (W.take j) i)) ∧ s.tm 9 = .v (.int .i64 j) ∧ j ≤ W.length ∧ (e = 1 → j = W.length)
theorem knownPeopleS_fn (p : Nat) (l : List Claim) (h : storyOk p l = true) : FnZ Tryz.prog 53 [.int .i64 p,storyV l] (numsV (knownL p l)) := by
 obtain ⟨h1,h4,hc,h6⟩ := allOk_of h
 have hst := storyTableS_fn p l h
 have hwi := worldsInS_fn p (storyTab p l) (storyTab_ok (by omega) (by omega) l) (by omega) (by omega) (storyTab_small (by omega) l)
 have hsl := sw_len (p := p) (by omega) l
 have hwl : ∀ w ∈ sw p l,w < 16 := fun w hw => sw_lt (by omega) hw
 have e0 : worldsOf p (storyTab p l) = sw p l := rfl
 rw [e0] at hwi
 unfold knownL
 generalize sw p l = W at *
 have hpp : 1 ≤ p ∧ p ≤ 4 := by omega
 clear e0
 by_cases hne : W = []
 ·rw [if_pos hne]
  rw [hne] at hwi
  refine FZ (rs := [.tmp 4]) false Tryz.func53 ?_
  simp -dsimp
  refine cl hst ?_
  simp -dsimp
  refine cl hwi ?_
  simp -dsimp
  refine twp_loopC (fun s => s.tm 0 = .v (.int .i64 p) ∧ s.tm 5 = .loc 0 ∧ s.tm 6 = .v (natsV []) ∧ s.mu = false ∧ s.m 0 = some (.arr 3 []) ∧ s.tm 7 = .v (.int .i64 0)) (fun s => 0) (fun s => s.tm 5 = .loc 0 ∧ s.mu = false ∧ s.m 0 = some (.arr 3 [])) ?_ ?_ ?_
  ·exact ⟨by simp -dsimp,by simp -dsimp,by simp -dsimp,by simp -dsimp,by simp -dsimp,by simp -dsimp⟩
  ·rintro s ⟨t0,t5,t6,hmu,hm,t7⟩
   have hlt : (0 : Int) < p := by omega
   have hlt' : 0 < p := by omega
   simp -dsimp [t0,t6,t7,hlt,hlt']
   exact ⟨by simp -dsimp [t5],by simp -dsimp [hmu],by simp -dsimp [hm]⟩
  ·rintro s ⟨t5,hmu,hm⟩
   simp -dsimp [t5,hm]
 ·rw [if_neg hne]
  have hl0 : ¬ (W.length : Int) = 0 := fun h => hne (List.length_eq_zero_iff.1 (by omega))
  have hlp : (0 : Int) < W.length := by omega
  have hlp' : 0 < W.length := by omega
  refine FZ (rs := [.tmp 4]) false Tryz.func53 ?_
  simp -dsimp
  refine cl hst ?_
  simp -dsimp
  refine cl hwi ?_
  simp -dsimp
  refine twp_loopC (Isx1 p W 0) (fun s => p - natOf (s.tm 7)) (Isx1 p W 1) ?_ ?_ ?_
  ·exact ⟨0,0,by simp -dsimp,by simp -dsimp,by simp -dsimp,by simp -dsimp,by simp -dsimp,by simp -dsimp,by simp -dsimp,by omega,by simp⟩
  ·rintro s ⟨i,id,t0,t5,t6,hid,hmu,hm,t7,hi,hend⟩
   by_cases hlt : i < p
   case neg =>
    simp -dsimp [t0,t7,hlt]
    exact ⟨i,id,by simp -dsimp [t0],by simp -dsimp [t5],by simp -dsimp [t6],by simp -dsimp; omega,by simp -dsimp [hmu],by simp -dsimp [hm],by simp -dsimp [t7],hi,fun _ => by omega⟩
   have wi : IntKind.wrap .i64 ((i : Int) + 1) = ((i + 1 : Nat) : Int) := by rw [w64 (by omega) (by omega)]; omega
   have hmu1 : p - (i + 1) < p - i := by omega
   have z1 : ¬ (i : Int) < 0 := by omega
   simp -dsimp [t0,t6,t7,hlt,natsV,hlp,hlp',hne]
   refine twp_loopC (Isx2 p W i id 0) (fun s => W.length - natOf (s.tm 9)) (Isx2 p W i id 1) ?_ ?_ ?_
   ·exact ⟨0,by simp -dsimp [t0],by simp -dsimp [t5],by simp -dsimp [t6,natsV],by simp -dsimp; omega,by simp -dsimp [hmu],by simp -dsimp [hm],by simp -dsimp [t7],by simp -dsimp [cntB],by simp -dsimp,by omega,by simp⟩
   ·rintro s2 ⟨j,u0,u5,u6,uid,umu,um,u7,u8,u9,hj,hend2⟩
    by_cases hlt2 : j < W.length
    case neg =>
     simp -dsimp [u6,u9,hlt2,natsV]
     exact ⟨j,by simp -dsimp [u0],by simp -dsimp [u5],by simp -dsimp [u6,natsV],by simp -dsimp; omega,by simp -dsimp [umu],by simp -dsimp [um],by simp -dsimp [u7],by simp -dsimp [u8],by simp -dsimp [u9],hj,fun _ => by omega⟩
    have wj : IntKind.wrap .i64 ((j : Int) + 1) = ((j + 1 : Nat) : Int) := by rw [w64 (by omega) (by omega)]; omega
    have hmu2 : W.length - (j + 1) < W.length - j := by omega
    obtain ⟨v,hv⟩ : ∃ v,W[j] = v := ⟨_,rfl⟩
    have b1 := bit2 v i (by omega)
    have hcl := cntB_le (W.take j) i
    have hnx : cntB (W.take (j + 1)) i = cntB (W.take j) i + (if v.testBit i = true then 1 else 0) := by
     unfold cntB
     rw [List.take_succ_eq_append_getElem hlt2,List.filter_append,List.length_append,hv]
     by_cases hb : v.testBit i = true <;> simp [hb]
    have hget : (W.map fun w => V.int .i64 (w : Nat))[j]? = some (.int .i64 v) := by simp [hlt2,hv]
    simp only [List.length_take] at hcl
    obtain ⟨q,hq⟩ : ∃ q,cntB (W.take j) i = q := ⟨_,rfl⟩
    rw [hq] at u8 hnx hcl
    have hb := ft (v.testBit i)
    rcases hb with hb | hb
    ·rw [hb] at b1 hnx
     have wq : IntKind.wrap .i64 (q : Int) = (q : Int) := w64 (by omega) (by omega)
     simp -dsimp [u0,u6,u7,u8,u9,hlt2,hv,hget,natsV,z1,b1,wj,hmu2,wq]
     exact ⟨j + 1,by simp -dsimp [u0],by simp -dsimp [u5],by simp -dsimp [u6,natsV],by simp -dsimp; omega,by simp -dsimp [umu],by simp -dsimp [um],by simp -dsimp [u7],by simp -dsimp [u8,hnx],by simp -dsimp,by omega,by simp⟩
    ·rw [hb] at b1 hnx
     have wq : IntKind.wrap .i64 ((q : Int) + 1) = (q : Int) + 1 := w64 (by omega) (by omega)
     simp -dsimp [u0,u6,u7,u8,u9,hlt2,hv,hget,natsV,z1,b1,wj,hmu2,wq]
     exact ⟨j + 1,by simp -dsimp [u0],by simp -dsimp [u5],by simp -dsimp [u6,natsV],by simp -dsimp; omega,by simp -dsimp [umu],by simp -dsimp [um],by simp -dsimp [u7],by simp -dsimp [hnx],by simp -dsimp,by omega,by simp⟩
   ·rintro s2 ⟨j,u0,u5,u6,uid,umu,um,u7,u8,u9,hj,hend2⟩
    have hjl := hend2 rfl
    rw [hjl,List.take_length] at u8
    have f1 := far uid
    have hkn := knownOf_cnt hne i
    have hnx : ((List.range (i + 1)).map (knownOf W)).map (V.int .i64) = ((List.range i).map (knownOf W)).map (V.int .i64) ++ [.int .i64 (knownOf W i)] := by
     rw [List.range_succ,List.map_append,List.map_append]; rfl
    have b1 : (i + 1) * 8 ≤ 140737488355328 := by omega
    obtain ⟨q,hq⟩ : ∃ q,cntB W i = q := ⟨_,rfl⟩
    rw [hq] at u8 hkn
    have fin : ∀ (s' : S) (id' : Nat),s'.tm 0 = .v (.int .i64 p) → s'.tm 5 = .loc id' → s'.tm 6 = .v (natsV W) → id' < s'.n → s'.mu = false → s'.m id' = some (.arr 3 (((List.range i).map (knownOf W)).map (V.int .i64) ++ [.int .i64 (knownOf W i)])) → s'.tm 7 = .v (.int .i64 (i + 1 : Nat)) → Isx1 p W 0 s' := by
     intro s' id' a0 a5 a6 aid amu am a7
     exact ⟨i + 1,id',a0,a5,a6,aid,amu,by rw [am,hnx],a7,by omega,by simp⟩
    by_cases c0 : q = 0
    ·have hk0 : knownOf W i = 0 := by rw [hkn,if_pos c0]
     have c0' : (q : Int) = 0 := by omega
     simp -dsimp [u0,u5,u6,u7,u8,umu,um,f1,b1,wi,hmu1,t7,nes,c0,c0',natsV]
     refine st_out fun s' ht hm' hn' hu' => ?_
     have a0 := ht 0
     have a5 := ht 5
     have a6 := ht 6
     have a7 := ht 7
     simp -dsimp [u0,u6] at a0 a5 a6 a7 hm' hn' hu'
     clear ht
     exact fin s' _ a0 a5 (by rw [a6]; rfl) (by omega) (by rw [hu',umu]) (by rw [hk0]; simp [hm',nes]) a7
    ·have c0' : ¬ (q : Int) = 0 := by omega
     by_cases c1 : q = W.length
     ·have hk0 : knownOf W i = 1 := by rw [hkn,if_neg c0,if_pos c1]
      have c1' : (q : Int) = W.length := by omega
      simp -dsimp [u0,u5,u6,u7,u8,umu,um,f1,b1,wi,hmu1,t7,nes,c0,c0',c1,c1',natsV,hne,hl0]
      refine st_out fun s' ht hm' hn' hu' => ?_
      have a0 := ht 0
      have a5 := ht 5
      have a6 := ht 6
      have a7 := ht 7
      simp -dsimp [u0,u6] at a0 a5 a6 a7 hm' hn' hu'
      clear ht
      exact fin s' _ a0 a5 (by rw [a6]; rfl) (by omega) (by rw [hu',umu]) (by rw [hk0]; simp [hm',nes]) a7
     ·have hk0 : knownOf W i = -1 := by rw [hkn,if_neg c0,if_neg c1]
      have c1' : ¬ (q : Int) = W.length := by omega
      simp -dsimp [u0,u5,u6,u7,u8,umu,um,f1,b1,wi,hmu1,t7,nes,c0,c0',c1,c1',natsV]
      refine st_out fun s' ht hm' hn' hu' => ?_
      have a0 := ht 0
      have a5 := ht 5
      have a6 := ht 6
      have a7 := ht 7
      simp -dsimp [u0,u6] at a0 a5 a6 a7 hm' hn' hu'
      clear ht
      exact fin s' _ a0 a5 (by rw [a6]; rfl) (by omega) (by rw [hu',umu]) (by rw [hk0]; simp [hm',nes]) a7
  ·rintro s ⟨i,id,t0,t5,t6,hid,hmu,hm,t7,hi,hend⟩
   have := hend rfl
   subst this
   simp -dsimp [t5,hm]
end TL

namespace TL
open Go Go.Proofs
attribute [local simp] marksV storyV codeV Claim.v Place.v numsV natsV
def Isn (p : Nat) (l : List Claim) (e : Nat) (s : S) : Prop := ∃ i id : Nat,s.tm 0 = .v (.int .i64 p) ∧ s.tm 1 = .v (storyV l) ∧ s.tm 5 = .loc id ∧ id < s.n ∧ s.mu = false ∧
 s.m id = some (.arr 3 (((List.range i).filter fun i => decide (storyTab p (l.eraseIdx i) = storyTab p l)).map fun w => V.int .i64 (w : Nat))) ∧
 s.tm 6 = .v (.int .i64 i) ∧ i ≤ l.length ∧ (e = 1 → i = l.length)
theorem needlessS_fn (p : Nat) (l : List Claim) (h : storyOk p l = true) : FnZ Tryz.prog 54 [.int .i64 p,storyV l] (natsV (needless p l)) := by
 obtain ⟨h1,h4,hc,h6⟩ := allOk_of h
 have hok := storyOkS_fn p l (by omega) fun c hx => (claim_fine (hc c hx)).1
 rw [h] at hok
 have hst := l4Story_fn p l (by omega) (by omega) (by omega) hc
 refine FZ (rs := [.tmp 4]) false Tryz.func54 ?_
 simp -dsimp
 refine twp_loopC (Isn p l 0) (fun s => l.length - natOf (s.tm 6)) (Isn p l 1) ?_ ?_ ?_
 ·exact ⟨0,0,by simp -dsimp,by simp -dsimp,by simp -dsimp,by simp -dsimp,by simp -dsimp,by simp -dsimp,by simp -dsimp,by omega,by simp⟩
 ·rintro s ⟨i,id,t0,t1,t5,hid,hmu,hm,t6,hi,hend⟩
  by_cases hlt : i < l.length
  case neg =>
   simp -dsimp [t1,t6,hlt]
   exact ⟨i,id,by simp -dsimp [t0],by simp -dsimp [t1],by simp -dsimp [t5],by simp -dsimp; omega,by simp -dsimp [hmu],by simp -dsimp [hm],by simp -dsimp [t6],hi,fun _ => by omega⟩
  have wi : IntKind.wrap .i64 ((i : Int) + 1) = ((i + 1 : Nat) : Int) := by rw [w64 (by omega) (by omega)]; omega
  have hmu1 : l.length - (i + 1) < l.length - i := by omega
  have hwo := l5Without_fn l i hlt (by omega)
  obtain ⟨_,_,hc2,h62⟩ := allOk_of (storyOk_erase h i)
  have hs2 := l4Story_fn p (l.eraseIdx i) (by omega) (by omega) (by omega) hc2
  have hrl : ((List.range i).filter fun i => decide (storyTab p (l.eraseIdx i) = storyTab p l)).length ≤ i := by
   have := List.length_filter_le (fun i => decide (storyTab p (l.eraseIdx i) = storyTab p l)) (List.range i)
   simpa using this
  have hsucc : (List.range (i + 1)).filter (fun i => decide (storyTab p (l.eraseIdx i) = storyTab p l)) = (List.range i).filter (fun i => decide (storyTab p (l.eraseIdx i) = storyTab p l)) ++ (if storyTab p (l.eraseIdx i) = storyTab p l then [i] else []) := by
   rw [List.range_succ,List.filter_append]; congr 1
   by_cases h : storyTab p (l.eraseIdx i) = storyTab p l <;> simp [h]
  have f1 := far hid
  have fin : ∀ (s' : S) (id' : Nat),s'.tm 0 = .v (.int .i64 p) → s'.tm 1 = .v (storyV l) → s'.tm 5 = .loc id' → id' < s'.n → s'.mu = false → 
    s'.m id' = some (.arr 3 (((List.range i).filter fun i => decide (storyTab p (l.eraseIdx i) = storyTab p l)).map (fun w => V.int .i64 (w : Nat)) ++ (if storyTab p (l.eraseIdx i) = storyTab p l then [V.int .i64 (i : Nat)] else []))) →
    s'.tm 6 = .v (.int .i64 (i + 1 : Nat)) → Isn p l 0 s' := by
   intro s' id' a0 a1 a5 aid amu am a6
   refine ⟨i + 1,id',a0,a1,a5,aid,amu, ?_,a6,by omega,by simp⟩
   rw [am,hsucc]; split <;> simp
  generalize hxs : ((List.range i).filter fun i => decide (storyTab p (l.eraseIdx i) = storyTab p l)).map (fun w => V.int .i64 (w : Nat)) = xs at *
  have hxl : xs.length ≤ 6 := by rw [← hxs]; simp only [List.length_map]; omega
  have b1 : (xs.length + 1) * 8 ≤ 140737488355328 := by omega
  generalize hA : storyTab p (l.eraseIdx i) = A at *
  generalize hB : storyTab p l = B at *
  simp -dsimp [t0,t1,t5,t6,hlt]
  refine cl hok ?_
  simp -dsimp [t0,t1,t5,t6]
  refine cl hwo ?_
  simp -dsimp [t0,t1]
  refine cl hs2 ?_
  simp -dsimp [t0,t1]
  refine cl hst ?_
  by_cases c0 : A = B
  ·have c1 : (A : Int) = B := by omega
   simp -dsimp [t0,t1,t5,t6,hmu,hm,f1,b1,wi,hmu1,c1]
   refine st_out fun s' ht' hm' hn' hu' => ?_
   have q0 := ht' 0
   have q1 := ht' 1
   have q5 := ht' 5
   have q6 := ht' 6
   simp -dsimp [t0,t1,t5] at q0 q1 q5 q6 hm' hn' hu'
   clear ht'
   exact fin s' _ q0 q1 q5 (by omega) (by rw [hu',hmu]) (by simp [hm',c0]) q6
  ·have c1 : ¬ (A : Int) = B := by omega
   simp -dsimp [t0,t1,t5,t6,hmu,hm,f1,b1,wi,hmu1,c1]
   exact fin _ id (by simp -dsimp [t0]) (by simp -dsimp [t1]) (by simp -dsimp [t5]) (by simp -dsimp; omega) (by simp -dsimp [hmu]) (by simp -dsimp [hm,c0]) (by simp -dsimp)
 ·rintro s ⟨i,id,t0,t1,t5,hid,hmu,hm,t6,hi,hend⟩
  have := hend rfl
  subst this
  simp -dsimp [t5,hm]
  rfl
def Il3 (N : Nat) (p : Nat) (t : List Mark) (e : Nat) (s : S) : Prop := ∃ w : Nat,s.tm 0 = .v (.int .i64 p) ∧ s.tm 1 = .v (marksV t) ∧ s.tm 6 = .v (.int .i64 w) ∧ s.tm 5 = .v (.int .i64 (tabN w (truth t))) ∧ w ≤ N ∧ (e = 1 → w = N)
theorem l3Table_fn (p : Nat) (t : List Mark) (h : termOk p t = true) : FnZ Tryz.prog 62 [.int .i64 p,marksV t] (.int .i64 (termTab p t)) := by
 obtain ⟨hp1,hp4,hl,hr⟩ := termOk_facts h
 obtain ⟨T,hT,eT⟩ := termOk_tree h
 have e : termTab p t = tabN (2 ^ p) (truth t) := rfl
 rw [e]
 have hN := pow_small (p := p) (by omega)
 have ws := (shl_pow (p := p) (by omega)).1
 have hm : ∀ w : Nat,w < 2 ^ p → FnZ Tryz.prog 114 [marksV t,.int .i64 w] (.bool (truth t w)) := fun w hw => by
  have hh := l3Holds_fn w (by omega) T hT (by rw [eT]; omega)
  have etr := truth_tm w hT
  rw [eT] at hh etr
  rw [← etr] at hh; exact hh
 generalize hNN : 2 ^ p = N at *
 have hp0 : ¬ (p : Int) < 0 := by omega
 clear eT hr
 refine FZ (rs := [.tmp 4]) false Tryz.func62 ?_
 simp -dsimp
 refine twp_loopC (Il3 N p t 0) (fun s => N - natOf (s.tm 6)) (Il3 N p t 1) ?_ ?_ ?_
 ·exact ⟨0,by simp -dsimp,by simp -dsimp,by simp -dsimp,by simp -dsimp [tabN],by omega,by simp⟩
 ·rintro s ⟨w,t0,t1,t6,t5,hw,hend⟩
  by_cases hlt : w < N
  case neg =>
   simp -dsimp [t0,t6,hp0,ws,hlt]
   exact ⟨w,by simp -dsimp [t0],by simp -dsimp [t1],by simp -dsimp [t6],by simp -dsimp [t5],hw,fun _ => by omega⟩
  have wi : IntKind.wrap .i64 ((w : Int) + 1) = ((w + 1 : Nat) : Int) := by rw [w64 (by omega) (by omega)]; omega
  have hmu : N - (w + 1) < N - w := by omega
  have hb := tabN_lt (truth t) w
  have h2 := (shl_pow (p := w) (by omega)).2
  have wsh := (shl_pow (p := w) (by omega)).1
  have hp : 2 ^ w ≤ 2 ^ 16 := Nat.pow_le_pow_right (by omega) (by omega)
  have hor := or_ni (a := tabN w (truth t)) (b := 2 ^ w) (x := (2 : Int) ^ w) (by simp) (by omega) h2
  have hgw := ft (truth t w)
  have hz : ¬ (w : Int) < 0 := by omega
  simp -dsimp [t0,t1,t6,hp0,ws,hlt]
  refine cl (hm w hlt) ?_
  rcases hgw with hgw | hgw
  ·have ht : tabN (w + 1) (truth t) = tabN w (truth t) := by simp [tabN,hgw]
   simp -dsimp [hgw,t5,t6,wi,hmu]
   exact ⟨w + 1,by simp -dsimp [t0],by simp -dsimp [t1],by simp -dsimp,by simp -dsimp [t5,ht],by omega,by simp⟩
  ·have ht : tabN (w + 1) (truth t) = tabN w (truth t) ||| 2 ^ w := by simp [tabN,hgw]
   simp -dsimp [hgw,t5,t6,wi,hmu,wsh,hor,hz]
   exact ⟨w + 1,by simp -dsimp [t0],by simp -dsimp [t1],by simp -dsimp,by simp -dsimp [ht],by omega,by simp⟩
 ·rintro s ⟨w,t0,t1,t6,t5,hw,hend⟩
  have := hend rfl
  subst this
  simp -dsimp [t5]
theorem followsFromS_fn (p : Nat) (l : List Claim) (t : List Mark) (h : storyOk p l = true) (ht : termOk p t = true) : FnZ Tryz.prog 58 [.int .i64 p,storyV l,marksV t] (.bool (followsB p l t)) := by
 obtain ⟨h1,h4,hc,h6⟩ := allOk_of h
 have hok := storyOkS_fn p l (by omega) fun c hx => (claim_fine (hc c hx)).1
 rw [h] at hok
 have hto := termOkS_fn p t (termOk_fits ht) (by have := (termOk_facts ht).2.2.1; omega)
 rw [ht] at hto
 have hst := l4Story_fn p l (by omega) (by omega) (by omega) hc
 have htt := l3Table_fn p t ht
 have hs := storyTab_small (p := p) (by omega) l
 unfold followsB
 obtain ⟨A,hA⟩ : ∃ A,storyTab p l = A := ⟨_,rfl⟩
 obtain ⟨B,hB⟩ : ∃ B,termTab p t = B := ⟨_,rfl⟩
 rw [hA] at hst hs ⊢
 rw [hB] at htt ⊢
 have hw := andN_w (b := B) hs
 obtain ⟨C,hC⟩ : ∃ C,andN A B = C := ⟨_,rfl⟩
 rw [hC] at hw ⊢
 refine FZ (rs := [.tmp 6]) false Tryz.func58 ?_
 simp -dsimp
 refine cl hok ?_
 simp -dsimp
 refine cl hto ?_
 simp -dsimp
 refine cl hst ?_
 simp -dsimp
 refine cl htt ?_
 simp -dsimp [hw]
@[simp] theorem rowJ_nil : rowJ [] = [] := rfl
def Irw (l : List Int) (e : Nat) (s : S) : Prop := ∃ i : Nat,s.tm 0 = .v (numsV l) ∧ s.tm 3 = .v (.str (rowJ (l.take i))) ∧ s.tm 4 = .v (.int .i64 i) ∧ i ≤ l.length ∧ (e = 1 → i = l.length)
theorem l15Row_fn (l : List Int) (hl : l.length ≤ 16) (h : ∀ n ∈ l,n ≤ 99) : FnZ Tryz.prog 49 [numsV l] (.str (rowTx l)) := by
 refine FZ (rs := [.tmp 2]) false Tryz.func49 ?_
 simp -dsimp
 refine twp_loopC (Irw l 0) (fun s => l.length - natOf (s.tm 4)) (Irw l 1) ?_ ?_ ?_
 ·exact ⟨0,by simp -dsimp,by simp -dsimp [rowJ_zero],by simp -dsimp,by omega,by simp⟩
 ·rintro s ⟨i,t0,t3,t4,hi,hend⟩
  by_cases hlt : i < l.length
  case neg =>
   simp -dsimp [t0,t4,hlt,numsV]
   exact ⟨i,by simp -dsimp [t0],by simp -dsimp [t3],by simp -dsimp [t4],hi,fun _ => by omega⟩
  have hget : (l.map (V.int .i64))[i]? = some (.int .i64 l[i]) := by simp [hlt]
  have wi : IntKind.wrap .i64 ((i : Int) + 1) = ((i + 1 : Nat) : Int) := by rw [w64 (by omega) (by omega)]; omega
  have hmu1 : l.length - (i + 1) < l.length - i := by omega
  have hb := h l[i] (List.getElem_mem hlt)
  have hct := cellTx_len hb
  have hst2 := rowJ_len (l := l.take i) fun n hn => h n (List.mem_of_mem_take hn)
  rw [List.length_take] at hst2
  by_cases hi0 : i = 0
  ·have hnx : rowJ (l.take (i + 1)) = cellTx l[i] := by
    subst hi0; exact rowJ_first l hlt
   have t3' : s.tm 3 = .v (.str []) := by rw [t3,hi0]; rfl
   have hi1 : ¬ 0 < i := by omega
   have hi1' : ¬ (0 : Int) < (i : Int) := by omega
   by_cases hneg : l[i] < 0
   ·have ec : cellTx l[i] = [46] := if_pos hneg
    rw [ec] at hnx
    simp -dsimp [t0,t3',t4,hlt,hget,hi1,hi1',hneg,wi,hmu1,numsV]
    exact ⟨i + 1,by simp -dsimp [t0,numsV],by simp -dsimp [hnx],by simp -dsimp,by omega,by simp⟩
   ·have ec : cellTx l[i] = dec l[i] := if_neg hneg
    have hit := l1Number2_fn l[i] (by omega) hb
    rw [ec] at hnx hct
    generalize hD : dec l[i] = D at hnx hit hct
    have b2 : (D.length : Int) ≤ 9223372036854775807 := by omega
    simp -dsimp [t0,t3',t4,hlt,hget,hi1,hi1',hneg,numsV]
    refine cl hit ?_
    simp -dsimp [List.range_succ,t0,t3',t4,hlt,hget,wi,hmu1,numsV,b2]
    exact ⟨i + 1,by simp -dsimp [t0,numsV],by simp -dsimp [hnx],by simp -dsimp,by omega,by simp⟩
  ·have hi1 : 0 < i := by omega
   have hi1' : (0 : Int) < (i : Int) := by omega
   have hnx := rowJ_next l i hi1 hlt
   generalize hX : rowJ (l.take i) = X at *
   have b0 : (X.length : Int) + 1 ≤ 9223372036854775807 := by omega
   have b00 : (X.length : Int) + 1 + 1 ≤ 9223372036854775807 := by omega
   have b000 : (X.length : Int) + (1 + 1) ≤ 9223372036854775807 := by omega
   by_cases hneg : l[i] < 0
   ·have ec : cellTx l[i] = [46] := if_pos hneg
    rw [ec] at hnx
    simp -dsimp [t0,t3,t4,hlt,hget,hi1,hi1',hneg,wi,hmu1,numsV,b0,b00,b000]
    exact ⟨i + 1,by simp -dsimp [t0,numsV],by simp -dsimp [hnx],by simp -dsimp,by omega,by simp⟩
   ·have ec : cellTx l[i] = dec l[i] := if_neg hneg
    have hit := l1Number2_fn l[i] (by omega) hb
    rw [ec] at hnx hct
    generalize hD : dec l[i] = D at hnx hit hct
    have b1 : (X.length : Int) + 1 + D.length ≤ 9223372036854775807 := by omega
    have b2 : (X.length : Int) + (1 + D.length) ≤ 9223372036854775807 := by omega
    simp -dsimp [t0,t3,t4,hlt,hget,hi1,hi1',hneg,b0,numsV]
    refine cl hit ?_
    simp -dsimp [List.range_succ,t0,t3,t4,hlt,hget,wi,hmu1,b0,b1,b2,numsV]
    exact ⟨i + 1,by simp -dsimp [t0,numsV],by simp -dsimp [hnx],by simp -dsimp,by omega,by simp⟩
 ·rintro s ⟨i,t0,t3,t4,hi,hend⟩
  have hil := hend rfl
  rw [hil,List.take_length] at t3
  by_cases hs : l = []
  ·have e : rowTx l = [110,111,110,101] := if_pos hs
   rw [e]
   rw [hs] at t0
   simp -dsimp [t0,numsV]
  ·have e : rowTx l = rowJ l := if_neg hs
   have hnn : ¬ (l.length : Int) = 0 := fun h => hs (List.length_eq_zero_iff.1 (by omega))
   rw [e]
   simp -dsimp [t0,t3,numsV,hs,hnn]
end TL

namespace TL
open Go Go.Proofs
attribute [local simp] marksV storyV codeV Claim.v Place.v
theorem agree_all {p k : Nat} (hk : k ≤ p) (X : Nat → Bool) : ((List.range p).all fun i => !decide (i < k) || X i) = (List.range k).all X := by
 rw [Bool.eq_iff_iff,List.all_eq_true,List.all_eq_true]
 constructor
 ·intro h i hi
  have hi := List.mem_range.1 hi
  have := h i (List.mem_range.2 (by omega))
  simpa [hi] using this
 ·intro h i hi
  by_cases hik : i < k
  ·simp [h i (List.mem_range.2 hik)]
  ·simp [hik]
/-- Agrees, of the first so many people. -/
def agB (k world w j : Nat) : Bool := (List.range j).all fun i => !decide (i < k) || (world.testBit i == w.testBit i)
theorem agB_succ (k world w j : Nat) : agB k world w (j + 1) = (agB k world w j && (!decide (j < k) || (world.testBit j == w.testBit j))) := by
 unfold agB; rw [List.range_succ,List.all_append]; simp
theorem agB_end {p k world w : Nat} (hk : k ≤ p) (hw : world < 2 ^ k) : agB k world w p = (w % 2 ^ k == world) := by
 unfold agB; rw [agree_all hk,agree_iff hk hw]
def Iag1 (p k world N : Nat) (e : Nat) (s : S) : Prop := ∃ w : Nat,s.tm 0 = .v (.int .i64 p) ∧ s.tm 1 = .v (numsV (knownR p k world)) ∧ s.tm 5 = .v (.int .i64 (tabN w fun w => w % 2 ^ k == world)) ∧ s.tm 6 = .v (.int .i64 w) ∧ w ≤ N ∧ (e = 1 → w = N)
def Iag2 (p k world N w : Nat) (e : Nat) (s : S) : Prop := ∃ j : Nat,s.tm 0 = .v (.int .i64 p) ∧ s.tm 1 = .v (numsV (knownR p k world)) ∧ s.tm 5 = .v (.int .i64 (tabN w fun w => w % 2 ^ k == world)) ∧ s.tm 6 = .v (.int .i64 w) ∧ s.tm 7 = .v (.bool (agB k world w j)) ∧ s.tm 8 = .v (.int .i64 j) ∧ j ≤ p ∧ (e = 1 → j = p)
theorem l11Agree_fn (p k world : Nat) (hp1 : 1 ≤ p) (hp4 : p ≤ 4) (hk : k ≤ p) (hw : world < 2 ^ k) : FnZ Tryz.prog 187 [.int .i64 p,numsV (knownR p k world)] (.int .i64 (agr p k world)) := by
 have hN := pow_small (p := p) (by omega)
 have ws := (shl_pow (p := p) (by omega)).1
 have e : agr p k world = tabN (2 ^ p) fun w => w % 2 ^ k == world := rfl
 rw [e]
 obtain ⟨N,hNN⟩ : ∃ N,2 ^ p = N := ⟨_,rfl⟩
 rw [hNN] at hN ws ⊢
 have hp0 : ¬ (p : Int) < 0 := by omega
 have hend0 : ∀ w,agB k world w p = (w % 2 ^ k == world) := fun w => agB_end hk hw
 have hwk := pow_small (p := k) (by omega)
 refine FZ (rs := [.tmp 4]) false Tryz.func187 ?_
 simp -dsimp
 refine twp_loopC (Iag1 p k world N 0) (fun s => N - natOf (s.tm 6)) (Iag1 p k world N 1) ?_ ?_ ?_
 ·exact ⟨0,by simp -dsimp,by simp -dsimp,by simp -dsimp [tabN],by simp -dsimp,by omega,by simp⟩
 ·rintro s ⟨w,t0,t1,t5,t6,hwN,hend⟩
  by_cases hlt : w < N
  case neg =>
   simp -dsimp [t0,t6,hp0,ws,hlt]
   exact ⟨w,by simp -dsimp [t0],by simp -dsimp [t1],by simp -dsimp [t5],by simp -dsimp [t6],hwN,fun _ => by omega⟩
  have wi : IntKind.wrap .i64 ((w : Int) + 1) = ((w + 1 : Nat) : Int) := by rw [w64 (by omega) (by omega)]; omega
  have hmu1 : N - (w + 1) < N - w := by omega
  simp -dsimp [t0,t6,hp0,ws,hlt]
  refine twp_loopC (Iag2 p k world N w 0) (fun s => p - natOf (s.tm 8)) (Iag2 p k world N w 1) ?_ ?_ ?_
  ·exact ⟨0,by simp -dsimp [t0],by simp -dsimp [t1],by simp -dsimp [t5],by simp -dsimp [t6],by simp -dsimp [agB],by simp -dsimp,by omega,by simp⟩
  ·rintro s2 ⟨j,u0,u1,u5,u6,u7,u8,hj,hend2⟩
   by_cases hlt2 : j < p
   case neg =>
    simp -dsimp [u0,u8,hlt2]
    exact ⟨j,by simp -dsimp [u0],by simp -dsimp [u1],by simp -dsimp [u5],by simp -dsimp [u6],by simp -dsimp [u7],by simp -dsimp [u8],hj,fun _ => by omega⟩
   have wj : IntKind.wrap .i64 ((j : Int) + 1) = ((j + 1 : Nat) : Int) := by rw [w64 (by omega) (by omega)]; omega
   have hmu2 : p - (j + 1) < p - j := by omega
   have z1 : ¬ (j : Int) < 0 := by omega
   have b2 := bit2 w j (by omega)
   have hsc := agB_succ k world w j
   have hkl := knownR_len p k world
   have hgk := knownR_get (p := p) (k := k) (world := world) hlt2
   have hlen : ((knownR p k world).map (V.int .i64)).length = p := by simp [hkl]
   have hget : ((knownR p k world).map (V.int .i64))[j]? = some (.int .i64 (if j < k then bitI world j else -1)) := by rw [List.getElem?_map,hgk]; rfl
   obtain ⟨A,hA⟩ : ∃ A,agB k world w j = A := ⟨_,rfl⟩
   rw [hA] at u7 hsc
   have hu1 : s2.tm 1 = .v (.sl ((knownR p k world).map (V.int .i64))) := u1
   have fin : ∀ s' : S,s'.tm 0 = .v (.int .i64 p) → s'.tm 1 = .v (numsV (knownR p k world)) → s'.tm 5 = .v (.int .i64 (tabN w fun w => w % 2 ^ k == world)) → s'.tm 6 = .v (.int .i64 w) → s'.tm 7 = .v (.bool (agB k world w (j + 1))) → s'.tm 8 = .v (.int .i64 (j + 1 : Nat)) → Iag2 p k world N w 0 s' :=
    fun s' a0 a1 a5 a6 a7 a8 => ⟨j + 1,a0,a1,a5,a6,a7,a8,by omega,by simp⟩
   obtain ⟨K,hK⟩ : ∃ K,(knownR p k world).map (V.int .i64) = K := ⟨_,rfl⟩
   rw [hK] at hu1 hlen hget
   have hltK : j < K.length := by omega
   have hgetK : K[j] = .int .i64 (if j < k then bitI world j else -1) := by rw [List.getElem?_eq_getElem hltK] at hget; exact Option.some.inj hget
   cases A with
   | false =>
    simp -dsimp [u0,u8,hlt2]
    refine twd (List.range 20) [] (List.replicate 20 []) (List.replicate 20 []) ?_
    simp -dsimp [List.range_succ,u0,hu1,u6,u7,u8,hlt2,wj,hmu2]
    exact fin _ (by simp -dsimp [u0]) (by simp -dsimp [u1]) (by simp -dsimp [u5]) (by simp -dsimp [u6]) (by simp -dsimp [hsc]) (by simp -dsimp)
   | true =>
    by_cases hjk : j < k
    ·have hnn : ¬ bitI world j < 0 := by unfold bitI; split <;> omega
     rw [if_pos hjk] at hgetK
     have hsc2 : agB k world w (j + 1) = (world.testBit j == w.testBit j) := by rw [hsc]; simp [hjk]
     have hcmp : decide (bitI world j = if w.testBit j = true then (1 : Int) else 0) = (world.testBit j == w.testBit j) := by
      unfold bitI
      cases world.testBit j <;> cases w.testBit j <;> simp
     obtain ⟨BI,hBI⟩ : ∃ BI,bitI world j = BI := ⟨_,rfl⟩
     rw [hBI] at hnn hgetK hcmp
     have hb := ft (w.testBit j)
     rcases hb with hb | hb
     ·rw [hb] at b2 hcmp
      by_cases hq : BI = 0
      ·have hsc3 : agB k world w (j + 1) = true := by rw [hsc2,hb,← hcmp]; simp [hq]
       simp -dsimp [u0,u8,hlt2]
       refine twd (List.range 20) [] (List.replicate 20 []) (List.replicate 20 []) ?_
       simp -dsimp [List.range_succ,u0,hu1,u6,u7,u8,hlt2,hltK,hgetK,hnn,b2,z1,wj,hmu2,hq]
       exact fin _ (by simp -dsimp [u0]) (by simp -dsimp [u1]) (by simp -dsimp [u5]) (by simp -dsimp [u6]) (by simp -dsimp [hsc3]) (by simp -dsimp)
      ·have hsc3 : agB k world w (j + 1) = false := by rw [hsc2,hb,← hcmp]; simp [hq]
       simp -dsimp [u0,u8,hlt2]
       refine twd (List.range 20) [] (List.replicate 20 []) (List.replicate 20 []) ?_
       simp -dsimp [List.range_succ,u0,hu1,u6,u7,u8,hlt2,hltK,hgetK,hnn,b2,z1,wj,hmu2,hq]
       exact fin _ (by simp -dsimp [u0]) (by simp -dsimp [u1]) (by simp -dsimp [u5]) (by simp -dsimp [u6]) (by simp -dsimp [hsc3]) (by simp -dsimp)
     ·rw [hb] at b2 hcmp
      by_cases hq : BI = 1
      ·have hsc3 : agB k world w (j + 1) = true := by rw [hsc2,hb,← hcmp]; simp [hq]
       simp -dsimp [u0,u8,hlt2]
       refine twd (List.range 20) [] (List.replicate 20 []) (List.replicate 20 []) ?_
       simp -dsimp [List.range_succ,u0,hu1,u6,u7,u8,hlt2,hltK,hgetK,hnn,b2,z1,wj,hmu2,hq]
       exact fin _ (by simp -dsimp [u0]) (by simp -dsimp [u1]) (by simp -dsimp [u5]) (by simp -dsimp [u6]) (by simp -dsimp [hsc3]) (by simp -dsimp)
      ·have hsc3 : agB k world w (j + 1) = false := by rw [hsc2,hb,← hcmp]; simp [hq]
       simp -dsimp [u0,u8,hlt2]
       refine twd (List.range 20) [] (List.replicate 20 []) (List.replicate 20 []) ?_
       simp -dsimp [List.range_succ,u0,hu1,u6,u7,u8,hlt2,hltK,hgetK,hnn,b2,z1,wj,hmu2,hq]
       exact fin _ (by simp -dsimp [u0]) (by simp -dsimp [u1]) (by simp -dsimp [u5]) (by simp -dsimp [u6]) (by simp -dsimp [hsc3]) (by simp -dsimp)
    ·rw [if_neg hjk] at hgetK
     have hsc2 : agB k world w (j + 1) = true := by rw [hsc]; simp [hjk]
     simp -dsimp [u0,u8,hlt2]
     refine twd (List.range 20) [] (List.replicate 20 []) (List.replicate 20 []) ?_
     simp -dsimp [List.range_succ,u0,hu1,u6,u7,u8,hlt2,hltK,hgetK,wj,hmu2]
     exact fin _ (by simp -dsimp [u0]) (by simp -dsimp [u1]) (by simp -dsimp [u5]) (by simp -dsimp [u6]) (by simp -dsimp [hsc2]) (by simp -dsimp)
  ·rintro s2 ⟨j,u0,u1,u5,u6,u7,u8,hj,hend2⟩
   have hjp := hend2 rfl
   rw [hjp,hend0] at u7
   have hb := tabN_lt (fun w => w % 2 ^ k == world) w
   have h2 := (shl_pow (p := w) (by omega)).2
   have wsh := (shl_pow (p := w) (by omega)).1
   have hp : 2 ^ w ≤ 2 ^ 16 := Nat.pow_le_pow_right (by omega) (by omega)
   have hor := or_ni (a := tabN w fun w => w % 2 ^ k == world) (b := 2 ^ w) (x := (2 : Int) ^ w) (by simp) (by omega) h2
   have hz : ¬ (w : Int) < 0 := by omega
   have hsucc : tabN (w + 1) (fun w => w % 2 ^ k == world) = if (w % 2 ^ k == world) = true then tabN w (fun w => w % 2 ^ k == world) ||| 2 ^ w else tabN w (fun w => w % 2 ^ k == world) := rfl
   obtain ⟨A,hA⟩ : ∃ A,tabN w (fun w => w % 2 ^ k == world) = A := ⟨_,rfl⟩
   rw [hA] at u5 hor hsucc
   obtain ⟨B,hB⟩ : ∃ B,(w % 2 ^ k == world) = B := ⟨_,rfl⟩
   rw [hB] at u7 hsucc
   cases B with
   | false =>
    rw [if_neg (by simp)] at hsucc
    simp -dsimp [u5,u6,u7,t6,wi,hmu1]
    exact ⟨w + 1,by simp -dsimp [u0],by simp -dsimp [u1],by simp -dsimp [u5,hsucc],by simp -dsimp,by omega,by simp⟩
   | true =>
    rw [if_pos rfl] at hsucc
    simp -dsimp [u5,u6,u7,t6,wi,hmu1,wsh,hor,hz]
    exact ⟨w + 1,by simp -dsimp [u0],by simp -dsimp [u1],by simp -dsimp [hsucc],by simp -dsimp,by omega,by simp⟩
 ·rintro s ⟨w,t0,t1,t5,t6,hwN,hend⟩
  have := hend rfl
  subst this
  simp -dsimp [t5]
theorem closesG_fn (p : Nat) (l : List Claim) (t : List Mark) (h : storyOk p l = true) (ht : termOk p t = true) (k world : Nat) (hk : k ≤ p) (hw : world < 2 ^ k) : FnZ Tryz.prog 156 [.int .i64 p,storyV l,marksV t,.int .i64 (-1),numsV (knownR p k world)] (.bool (closG p t k world)) := by
 obtain ⟨h1,h4,hc,h6⟩ := allOk_of h
 have hag := l11Agree_fn p k world (by omega) (by omega) hk hw
 have htt := l3Table_fn p t ht
 have hs := agr_small (p := p) (k := k) (world := world) (by omega)
 unfold closG
 obtain ⟨A,hA⟩ : ∃ A,agr p k world = A := ⟨_,rfl⟩
 obtain ⟨B,hB⟩ : ∃ B,termTab p t = B := ⟨_,rfl⟩
 obtain ⟨K,hK⟩ : ∃ K,(knownR p k world).map (V.int .i64) = K := ⟨_,rfl⟩
 rw [hA] at hag hs ⊢
 rw [hB] at htt ⊢
 have hw := andN_w (b := B) hs
 obtain ⟨C,hC⟩ : ∃ C,andN A B = C := ⟨_,rfl⟩
 rw [hC] at hw ⊢
 simp only [numsV,hK] at hag ⊢
 refine FZ (rs := [.tmp 10]) false Tryz.func156 ?_
 simp -dsimp
 refine cl hag ?_
 simp -dsimp
 refine cl htt ?_
 simp -dsimp [hw]
theorem closesC_fn (p : Nat) (l : List Claim) (t : List Mark) (h : storyOk p l = true) (k world : Nat) (hk : k ≤ p) (hw : world < 2 ^ k) (i : Nat) (hi : i < l.length) : FnZ Tryz.prog 156 [.int .i64 p,storyV l,marksV t,.int .i64 (-2 - (i : Int)),numsV (knownR p k world)] (.bool (closI p l k world i)) := by
 obtain ⟨h1,h4,hc,h6⟩ := allOk_of h
 have hag := l11Agree_fn p k world (by omega) (by omega) hk hw
 have hct := l4Table_fn p l[i] (hc _ (List.getElem_mem hi))
 rw [Int.toNat_natCast] at hct
 have hs := agr_small (p := p) (k := k) (world := world) (by omega)
 have hcs := claimTab_small (p := p) (by omega) l[i]
 have e : closI p l k world i = decide (agr p k world &&& claimTab p l[i] = 0) := by
  unfold closI; rw [List.getElem?_eq_getElem hi]; rfl
 rw [e]
 have hin := l1In_fn (i : Int) 0 ((l.length - 1 : Nat) : Int)
 have hit : inR (i : Int) 0 ((l.length - 1 : Nat) : Int) = true := (inR_true ..).2 (by omega)
 rw [hit] at hin
 have hget : (l.map Claim.v)[i]? = some (l[i].v) := by simp [hi]
 have w1 : IntKind.wrap .i64 ((l.length : Int) - 1) = ((l.length - 1 : Nat) : Int) := by rw [w64 (by omega) (by omega)]; omega
 have w2 : IntKind.wrap .i64 (-2 - (-2 - (i : Int))) = (i : Int) := by rw [w64 (by omega) (by omega)]; omega
 have c1 : ¬ (-2 - (i : Int) = -1) := by omega
 obtain ⟨A,hA⟩ : ∃ A,agr p k world = A := ⟨_,rfl⟩
 obtain ⟨B,hB⟩ : ∃ B,claimTab p l[i] = B := ⟨_,rfl⟩
 obtain ⟨K,hK⟩ : ∃ K,(knownR p k world).map (V.int .i64) = K := ⟨_,rfl⟩
 rw [hA] at hag hs ⊢
 rw [hB] at hct hcs ⊢
 have hand := and_nn (a := A) (b := B) (by omega) (by omega)
 simp only [numsV,hK] at hag ⊢
 obtain ⟨X,hX⟩ : ∃ X, -2 - (i : Int) = X := ⟨_,rfl⟩
 rw [hX] at c1 w2 ⊢
 have z1 : ¬ (i : Int) < 0 := by omega
 have hd : decide (((A &&& B : Nat) : Int) = 0) = decide (A &&& B = 0) := by simp
 refine FZ (rs := [.tmp 10]) false Tryz.func156 ?_
 simp -dsimp
 refine cl hag ?_
 simp -dsimp [c1,w1,w2]
 refine cl hin ?_
 simp -dsimp [w2,hi,hget,z1,claim_cellsE]
 refine cl hct ?_
 simp -dsimp [hand]
end TL

namespace TL
open Go Go.Proofs
attribute [local simp] marksV storyV codeV Claim.v Place.v
/-- The cells of a row of numbers. -/
def intsT (l : List Int) : List T := l.map fun x => T.v (.int .i64 x)
@[simp] theorem intsT_length (l : List Int) : (intsT l).length = l.length := by simp [intsT]
theorem intsT_set (l : List Int) (i : Nat) (x : Int) : (intsT l).set i (.v (.int .i64 x)) = intsT (l.set i x) := by simp [intsT,List.map_set]
theorem intsT_app (a b : List Int) : intsT (a ++ b) = intsT a ++ intsT b := by simp [intsT]
theorem intsT_mapO (m : Mem) (d : Nat) (l : List Int) : mapO (bor true m d) (intsT l) = some (l.map (V.int .i64)) := by
 induction l with
 | nil => rfl
 | cons x xs ih =>
  show (bor true m d (.v (.int .i64 x))).bind _ = _
  rw [show bor true m d (.v (.int .i64 x)) = some (.int .i64 x) by cases d <;> rfl]
  show (mapO (bor true m d) (intsT xs)).map _ = _
  rw [ih]; rfl
theorem ints_chunk (l : List Int) : chunk 1 l.length (l.map (V.int .i64)) = l.map (V.int .i64) := by
 induction l with
 | nil => rfl
 | cons x xs ih => simp [chunk]; exact ih
theorem bor_ints {m : Mem} {i : Nat} {e : TypeId} {l : List Int} {p : Nat} (d : Nat) (h : m i = some (.box e 1 (intsT l))) (hp : l.length = p) : bor true m (d + 1) (.sv i 0 p) = some (numsV l) := by
 subst hp
 show (match m i with | some (.box _ z cs) => tst (0 + l.length * z ≤ cs.length) (obind (mapO (TL.bor true m d) ((cs.drop 0).take (l.length * z))) fun xs => tst (∀ x ∈ xs,x.cell = true) (some (V.sl (chunk z l.length xs)))) | _ => none) = _
 rw [h]
 show tst (0 + l.length * 1 ≤ (intsT l).length) (obind (mapO (TL.bor true m d) (((intsT l).drop 0).take (l.length * 1))) fun xs => tst (∀ x ∈ xs,x.cell = true) (some (V.sl (chunk 1 l.length xs)))) = _
 rw [tst_pos (by simp),List.drop_zero,Nat.mul_one,List.take_of_length_le (by simp),intsT_mapO,obind_some,tst_pos (fun x hx => by obtain ⟨w,_,rfl⟩ := List.mem_map.1 hx; rfl),ints_chunk]; rfl
theorem spT_set (x : Sp) : ∀ (l : List Sp) (i : Nat),i < l.length → (((spT l).set (i * 3) (.v (.int .i64 x.who))).set (i * 3 + 1) (.v (.int .i64 x.no))).set (i * 3 + 2) (.v (.int .i64 x.yes)) = spT (l.set i x)
 | s :: l,0,_ => rfl
 | s :: l,i + 1,h => by
  have ih := spT_set x l i (by simpa using h)
  rw [spT_cons,show (i + 1) * 3 + 2 = (i * 3 + 2) + 1 + 1 + 1 by omega,show (i + 1) * 3 + 1 = (i * 3 + 1) + 1 + 1 + 1 by omega,show (i + 1) * 3 = (i * 3) + 1 + 1 + 1 by omega]
  simp only [List.set_cons_succ]
  rw [ih]; rfl
theorem intsT_allC (l : List Int) : allC (intsT l) := fun x hx => by obtain ⟨w,_,rfl⟩ := List.mem_map.1 hx; rfl
theorem spT_allC (l : List Sp) : allC (spT l) := fun x hx => by
 obtain ⟨w,_,hw⟩ := List.mem_flatMap.1 hx
 simp at hw
 rcases hw with rfl | rfl | rfl <;> rfl
def Ino (p : Nat) (m : Mem) (n : Nat) (e : Nat) (s : S) : Prop := ∃ i id : Nat,s.tm 0 = .v (.int .i64 p) ∧ s.tm 3 = .sv id 0 i ∧ n ≤ id ∧ id < s.n ∧ s.mu = true ∧ s.m id = some (.box 3 1 (intsT (List.replicate i (-1)))) ∧ s.tm 4 = .v (.int .i64 i) ∧ i ≤ p ∧ (∀ j,j < n → s.m j = m j) ∧ (e = 1 → i = p)
theorem l11Nothing_own (p : Nat) (hp : p ≤ 4) (m : Mem) (n : Nat) : FnS Tryz.prog 111 m n [.v (.int .i64 p)] (fun t m' n' => ∃ id,t = .sv id 0 p ∧ n ≤ id ∧ id < n' ∧ m' id = some (.box 3 1 (intsT (List.replicate p (-1)))) ∧ ∀ j,j < n → m' j = m j) := by
 refine FS (rs := [.tmp 2]) true Tryz.func111 ?_
 simp -dsimp
 refine twp_loopC (Ino p m n 0) (fun s => p - natOf (s.tm 4)) (Ino p m n 1) ?_ ?_ ?_
 ·exact ⟨0,n,by simp -dsimp,by simp -dsimp,by omega,by simp -dsimp,by simp -dsimp,by simp -dsimp [intsT],by simp -dsimp,by omega,fun j j1 => by simp -dsimp [far j1],by simp⟩
 ·rintro s ⟨i,id,t0,t3,hid0,hid,hmu,hm,t4,hi,hout,hend⟩
  by_cases hlt : i < p
  case neg =>
   simp -dsimp [t0,t4,hlt]
   exact ⟨i,id,by simp -dsimp [t0],by simp -dsimp [t3],hid0,by simp -dsimp; omega,by simp -dsimp [hmu],by simp -dsimp [hm],by simp -dsimp [t4],hi,fun j j1 => by simp -dsimp [hout j j1],fun _ => by omega⟩
  have wi : IntKind.wrap .i64 ((i : Int) + 1) = ((i + 1 : Nat) : Int) := by rw [w64 (by omega) (by omega)]; omega
  have hmu1 : p - (i + 1) < p - i := by omega
  have f1 := far hid
  have b1 : (i + 1) * 8 ≤ 140737488355328 := by omega
  simp -dsimp [t0,t3,t4,hlt,hm,hmu,f1,b1,wi,hmu1,nes]
  refine st_out fun s' ht hm' hn' hu' => ?_
  have a0 := ht 0
  have a3 := ht 3
  have a4 := ht 4
  simp -dsimp [t0] at a0 a3 a4 hm' hn' hu'
  clear ht
  refine ⟨i + 1,_,a0,a3,by omega,by omega,by rw [hu',hmu], ?_,a4,by omega,fun j j1 => ?_,by simp⟩
  ·rw [List.replicate_succ',intsT_app]; simp [hm',nes,f1,intsT]
  ·simp [hm',far (show j < s.n by omega),show ¬ j = id by omega,hout j j1]
 ·rintro s ⟨i,id,t0,t3,hid0,hid,hmu,hm,t4,hi,hout,hend⟩
  have := hend rfl
  subst this
  simp -dsimp [t3]
  exact ⟨hid0,hid,hm,hout⟩
/-! Growing. -/
def grPost (G : List Sp × Int × Bool) (sid : Nat) (m : Mem) (n : Nat) (t : T) (m' : Mem) (n' : Nat) : Prop := ∃ id,t = .tup [.sv id 0 G.1.length,.v (.int .i64 G.2.1),.v (.bool G.2.2)] ∧ n ≤ n' ∧ (∀ j,j < n → m' j = m j) ∧ m' id = some (.box 153 3 (spT G.1)) ∧ (id = sid ∨ n ≤ id) ∧ id < n'
theorem growR_zero (p : Nat) (l : List Claim) (t : List Mark) (world : Nat) (sps : List Sp) : growR p l t 0 world sps = match leaf p l t p world with
  | some x => (sps,x.to 0,true)
  | none => (sps, -1,false) := rfl
theorem growR_leaf {p : Nat} {l : List Claim} {t : List Mark} {r k world : Nat} {x : PT} (hk : k + r = p) (h : leaf p l t k world = some x) (sps : List Sp) : growR p l t r world sps = (sps,x.to 0,true) := by
  cases r with
  | zero => obtain rfl : k = p := by omega
            rw [growR_zero,h]
  | succ r => rw [growR,show p - (r + 1) = k by omega,h]
theorem growR_none {p : Nat} {l : List Claim} {t : List Mark} {world : Nat} (h : leaf p l t p world = none) (sps : List Sp) : growR p l t 0 world sps = (sps, -1,false) := by rw [growR_zero,h]
theorem growR_succ (p : Nat) (l : List Claim) (t : List Mark) (r world : Nat) (sps : List Sp) : growR p l t (r + 1) world sps = match leaf p l t (p - (r + 1)) world with
  | some x => (sps,x.to 0,true)
  | none => ((growR p l t r (world + 2 ^ (p - (r + 1))) (growR p l t r world (sps ++ [⟨(p - (r + 1) : Nat), -1, -1⟩])).1).1.set sps.length ⟨(p - (r + 1) : Nat),(growR p l t r world (sps ++ [⟨(p - (r + 1) : Nat), -1, -1⟩])).2.1,(growR p l t r (world + 2 ^ (p - (r + 1))) (growR p l t r world (sps ++ [⟨(p - (r + 1) : Nat), -1, -1⟩])).1).2.1⟩,sps.length,(growR p l t r world (sps ++ [⟨(p - (r + 1) : Nat), -1, -1⟩])).2.2 && (growR p l t r (world + 2 ^ (p - (r + 1))) (growR p l t r world (sps ++ [⟨(p - (r + 1) : Nat), -1, -1⟩])).1).2.2) := rfl
theorem growR_step {p : Nat} {l : List Claim} {t : List Mark} {r k world : Nat} (hk : k + (r + 1) = p) (h : leaf p l t k world = none) (sps : List Sp) (A B : List Sp × Int × Bool) (hA : A = growR p l t r world (sps ++ [(⟨k, -1, -1⟩ : Sp)])) (hB : B = growR p l t r (world + 2 ^ k) A.1) :
  growR p l t (r + 1) world sps = (B.1.set sps.length ⟨k,A.2.1,B.2.1⟩,((sps.length : Nat) : Int),A.2.2 && B.2.2) := by
 subst hB; subst hA
 have e : p - (r + 1) = k := by omega
 rw [growR_succ,e,h]
def cntOf : T → Nat
 | .v (.int _ x) => (x + 1).toNat
 | _ => 0
@[simp] theorem cntOf_int (k : IntKind) (x : Int) : cntOf (.v (.int k x)) = (x + 1).toNat := rfl
def GrM (p k world : Nat) (sps : List Sp) (kid sid : Nat) (m : Mem) (n : Nat) : Prop := kid < n ∧ sid < n ∧ m kid = some (.box 3 1 (intsT (knownR p k world))) ∧ m sid = some (.box 153 3 (spT sps))
def Igr (p : Nat) (l : List Claim) (t : List Mark) (kid sid L : Nat) (m : Mem) (n hi : Nat) (e : Nat) (s : S) : Prop := ∃ i : Nat,s.tm 0 = .v (.int .i64 p) ∧ s.tm 1 = .v (storyV l) ∧ s.tm 2 = .v (marksV t) ∧ s.tm 3 = .sv kid 0 p ∧ s.tm 4 = .sv sid 0 L ∧ s.tm 13 = .v (.int .i64 (-1)) ∧ s.tm 14 = .v (.int .i64 i) ∧ i ≤ hi ∧ s.m = m ∧ s.n = n ∧ s.mu = true ∧ (e = 1 → i = l.length)
theorem grow_goal (p : Nat) (l : List Claim) (t : List Mark) (h : storyOk p l = true) (ht : termOk p t = true) (k world : Nat) (hk : k ≤ p) (hw : world < 2 ^ k) (sps : List Sp) (kid sid : Nat) (m : Mem) (n : Nat) (hM : GrM p k world sps kid sid m n) (hg : closG p t k world = true) :
  FnS Tryz.prog 110 m n [.v (.int .i64 p),.v (storyV l),.v (marksV t),.sv kid 0 p,.sv sid 0 sps.length] (grPost (sps, -1,true) sid m n) := by
 obtain ⟨k1,s1,km,sm⟩ := hM
 have hc := closesG_fn p l t h ht k world hk hw
 rw [hg] at hc
 have hb := fun d => bor_ints (p := p) d km (knownR_len p k world)
 have hb3 := hb 3
 obtain ⟨K,hK⟩ : ∃ K,numsV (knownR p k world) = K := ⟨_,rfl⟩
 rw [hK] at hc hb3
 refine FS (rs := [.tmp 10,.tmp 11,.tmp 12]) true Tryz.func110 ?_
 simp -dsimp
 refine callM_ hc (by simp -dsimp [hb3]) rfl ?_
 simp -dsimp
 exact ⟨sid,rfl,Nat.le_refl _,fun j j1 => rfl,sm,.inl rfl,s1⟩
theorem grow_claim (p : Nat) (l : List Claim) (t : List Mark) (h : storyOk p l = true) (ht : termOk p t = true) (k world : Nat) (hk : k ≤ p) (hw : world < 2 ^ k) (sps : List Sp) (kid sid : Nat) (m : Mem) (n : Nat) (hM : GrM p k world sps kid sid m n)
  (hg : closG p t k world = false) (i0 : Nat) (hi0 : i0 < l.length) (h1 : closI p l k world i0 = true) (h2 : ∀ j,j < i0 → closI p l k world j = false) :
  FnS Tryz.prog 110 m n [.v (.int .i64 p),.v (storyV l),.v (marksV t),.sv kid 0 p,.sv sid 0 sps.length] (grPost (sps, -2 - (i0 : Int),true) sid m n) := by
 obtain ⟨k1,s1,km,sm⟩ := hM
 have h6 := (allOk_of h).2.2.2
 have hc := closesG_fn p l t h ht k world hk hw
 rw [hg] at hc
 have hcc := fun i hi => closesC_fn p l t h k world hk hw i hi
 have hb := fun d => bor_ints (p := p) d km (knownR_len p k world)
 have hb3 := hb 3
 obtain ⟨K,hK⟩ : ∃ K,numsV (knownR p k world) = K := ⟨_,rfl⟩
 rw [hK] at hc hb3
 simp only [hK] at hcc
 clear hb
 refine FS (rs := [.tmp 10,.tmp 11,.tmp 12]) true Tryz.func110 ?_
 simp -dsimp
 refine callM_ hc (by simp -dsimp [hb3]) rfl ?_
 simp -dsimp
 refine twp_loopC (Igr p l t kid sid sps.length m n i0 0) (fun s => l.length - natOf (s.tm 14)) (fun _ => False) ?_ ?_ ?_
 ·exact ⟨0,by simp -dsimp,by simp -dsimp,by simp -dsimp,by simp -dsimp,by simp -dsimp,by simp -dsimp,by simp -dsimp,by omega,by simp -dsimp,by simp -dsimp,by simp -dsimp,by simp⟩
 ·rintro s ⟨i,t0,t1,t2,t3,t4,t13,t14,hi,hm,hn,hmu,hend⟩
  have hlt : i < l.length := by omega
  have hlt' : (i : Int) < l.length := by omega
  have wi : IntKind.wrap .i64 ((i : Int) + 1) = ((i + 1 : Nat) : Int) := by rw [w64 (by omega) (by omega)]; omega
  have hmu1 : l.length - (i + 1) < l.length - i := by omega
  have w2 : IntKind.wrap .i64 (-2 - (i : Int)) = -2 - (i : Int) := w64 (by omega) (by omega)
  have hci := hcc i hlt
  by_cases he : i = i0
  ·rw [he] at hci w2 t14 hlt hlt'
   rw [h1] at hci
   obtain ⟨X,hX⟩ : ∃ X, -2 - (i0 : Int) = X := ⟨_,rfl⟩
   have w2 := w2.trans hX
   rw [hX] at hci ⊢
   simp -dsimp [t0,t1,t2,t3,t4,t14,hlt,hlt',w2]
   refine callM_ hci (by simp -dsimp [hm,hb3]) rfl ?_
   simp -dsimp [t4,t14,w2,hm,hn]
   exact ⟨sid,rfl,Nat.le_refl _,fun j j1 => rfl,sm,.inl rfl,s1⟩
  ·rw [h2 i (by omega)] at hci
   simp -dsimp [t0,t1,t2,t3,t4,t14,hlt,hlt',w2]
   refine callM_ hci (by simp -dsimp [hm,hb3]) rfl ?_
   simp -dsimp [t14,wi,hmu1]
   exact ⟨i + 1,by simp -dsimp [t0],by simp -dsimp [t1],by simp -dsimp [t2],by simp -dsimp [t3],by simp -dsimp [t4],by simp -dsimp [t13],by simp -dsimp,by omega,by simp -dsimp [hm],by simp -dsimp [hn],by simp -dsimp [hmu],by simp⟩
 ·intro s hs; exact hs.elim
/-- Behind the search of the person: the next person is k, if there is one. -/
def Igp (p k : Nat) (l : List Claim) (t : List Mark) (kid sid L : Nat) (m : Mem) (n : Nat) (e : Nat) (s : S) : Prop := ∃ c : Nat,s.tm 0 = .v (.int .i64 p) ∧ s.tm 1 = .v (storyV l) ∧ s.tm 2 = .v (marksV t) ∧ s.tm 3 = .sv kid 0 p ∧ s.tm 4 = .sv sid 0 L ∧ s.tm 13 = .v (.int .i64 (if max k c < p then ((max k c : Nat) : Int) else -1)) ∧ s.tm 15 = .v (.int .i64 ((c : Int) - 1)) ∧ c ≤ p ∧ s.m = m ∧ s.n = n ∧ s.mu = true ∧ (e = 1 → c = 0)
theorem grow_rest (p : Nat) (l : List Claim) (t : List Mark) (h : storyOk p l = true) (ht : termOk p t = true) (k world : Nat) (hk : k ≤ p) (hw : world < 2 ^ k) (sps : List Sp) (hL : sps.length ≤ 1000) (kid sid : Nat) (m : Mem) (n : Nat) (hM : GrM p k world sps kid sid m n)
  (hg : closG p t k world = false) (h2 : ∀ j,j < l.length → closI p l k world j = false) (G : List Sp × Int × Bool) (h0 : k = p → G = (sps, -1,false))
  (A B : List Sp × Int × Bool) (hG : k < p → G = (B.1.set sps.length ⟨k,A.2.1,B.2.1⟩,((sps.length : Nat) : Int),A.2.2 && B.2.2) ∧ sps.length < B.1.length ∧ B.1.length ≤ 1000)
  (ia : k < p → ∀ (kid sid : Nat) (m : Mem) (n : Nat),GrM p (k + 1) world (sps ++ [⟨k, -1, -1⟩]) kid sid m n → FnS Tryz.prog 110 m n [.v (.int .i64 p),.v (storyV l),.v (marksV t),.sv kid 0 p,.sv sid 0 (sps.length + 1)] (grPost A sid m n))
  (ib : k < p → ∀ (kid sid : Nat) (m : Mem) (n : Nat),GrM p (k + 1) (world + 2 ^ k) A.1 kid sid m n → FnS Tryz.prog 110 m n [.v (.int .i64 p),.v (storyV l),.v (marksV t),.sv kid 0 p,.sv sid 0 A.1.length] (grPost B sid m n)) :
  FnS Tryz.prog 110 m n [.v (.int .i64 p),.v (storyV l),.v (marksV t),.sv kid 0 p,.sv sid 0 sps.length] (grPost G sid m n) := by
 obtain ⟨k1,s1,km,sm⟩ := hM
 obtain ⟨hp1,hp4,_,h6⟩ := allOk_of h
 have hc := closesG_fn p l t h ht k world hk hw
 rw [hg] at hc
 have hcc := fun i hi => closesC_fn p l t h k world hk hw i hi
 have hb := fun d => bor_ints (p := p) d km (knownR_len p k world)
 have hb3 := hb 3
 have hkl := knownR_len p k world
 have hkg := fun i (hi : i < p) => knownR_get (k := k) (world := world) hi
 have hno := fun (hkp : k < p) => knownR_no hkp hw
 have hyes := fun (hkp : k < p) => knownR_yes hkp hw
 obtain ⟨K,hK⟩ : ∃ K,numsV (knownR p k world) = K := ⟨_,rfl⟩
 rw [hK] at hc hb3
 simp only [hK] at hcc
 clear hb
 obtain ⟨A1,A2,A3⟩ := A
 obtain ⟨B1,B2,B3⟩ := B
 obtain ⟨G1,G2,G3⟩ := G
 simp only [Prod.mk.injEq] at hG ia ib
 have hst2 : k < p → (((spT B1).set (sps.length * 3) (.v (.int .i64 k))).set (sps.length * 3 + 1) (.v (.int .i64 A2))).set (sps.length * 3 + 2) (.v (.int .i64 B2)) = spT G1 := fun h => by
  rw [(hG h).1.1]; exact spT_set ⟨k,A2,B2⟩ B1 sps.length (hG h).2.1
 have hln : k < p → G1.length = B1.length := fun h => by rw [(hG h).1.1,List.length_set]
 have hbl := spT_len B1
 obtain ⟨c3,hc3⟩ : ∃ c3,spT B1 = c3 := ⟨_,rfl⟩
 rw [hc3] at hst2 hbl
 refine FS (rs := [.tmp 10,.tmp 11,.tmp 12]) true Tryz.func110 ?_
 simp -dsimp
 refine callM_ hc (by simp -dsimp [hb3]) rfl ?_
 simp -dsimp
 refine twp_loopC (Igr p l t kid sid sps.length m n l.length 0) (fun s => l.length - natOf (s.tm 14)) (Igr p l t kid sid sps.length m n l.length 1) ?_ ?_ ?_
 ·exact ⟨0,by simp -dsimp,by simp -dsimp,by simp -dsimp,by simp -dsimp,by simp -dsimp,by simp -dsimp,by simp -dsimp,by omega,by simp -dsimp,by simp -dsimp,by simp -dsimp,by simp⟩
 ·rintro s ⟨i,t0,t1,t2,t3,t4,t13,t14,hi,hm,hn,hmu,hend⟩
  by_cases hlt : i < l.length
  case neg =>
   simp -dsimp [t1,t14,hlt]
   exact ⟨i,by simp -dsimp [t0],by simp -dsimp [t1],by simp -dsimp [t2],by simp -dsimp [t3],by simp -dsimp [t4],by simp -dsimp [t13],by simp -dsimp [t14],by omega,by simp -dsimp [hm],by simp -dsimp [hn],by simp -dsimp [hmu],fun _ => by omega⟩
  have hlt' : (i : Int) < l.length := by omega
  have wi : IntKind.wrap .i64 ((i : Int) + 1) = ((i + 1 : Nat) : Int) := by rw [w64 (by omega) (by omega)]; omega
  have hmu1 : l.length - (i + 1) < l.length - i := by omega
  have w2 : IntKind.wrap .i64 (-2 - (i : Int)) = -2 - (i : Int) := w64 (by omega) (by omega)
  have hci := hcc i hlt
  rw [h2 i hlt] at hci
  simp -dsimp [t0,t1,t2,t3,t4,t14,hlt,hlt',w2]
  refine callM_ hci (by simp -dsimp [hm,hb3]) rfl ?_
  simp -dsimp [t14,wi,hmu1]
  exact ⟨i + 1,by simp -dsimp [t0],by simp -dsimp [t1],by simp -dsimp [t2],by simp -dsimp [t3],by simp -dsimp [t4],by simp -dsimp [t13],by simp -dsimp,by omega,by simp -dsimp [hm],by simp -dsimp [hn],by simp -dsimp [hmu],by simp⟩
 rintro s ⟨i,t0,t1,t2,t3,t4,t13,t14,hi,hm,hn,hmu,hend⟩
 have wp : IntKind.wrap .i64 ((p : Int) - 1) = (p : Int) - 1 := w64 (by omega) (by omega)
 simp -dsimp [t0,wp]
 refine twp_loopC (Igp p k l t kid sid sps.length m n 0) (fun s => cntOf (s.tm 15)) (Igp p k l t kid sid sps.length m n 1) ?_ ?_ ?_
 ·refine ⟨p,by simp -dsimp [t0],by simp -dsimp [t1],by simp -dsimp [t2],by simp -dsimp [t3],by simp -dsimp [t4], ?_,by simp -dsimp,by omega,by simp -dsimp [hm],by simp -dsimp [hn],by simp -dsimp [hmu],by simp⟩
  rw [if_neg (by omega)]; simp -dsimp [t13]
 ·rintro s ⟨c,t0,t1,t2,t3,t4,t13,t15,hcp,hm,hn,hmu,hend⟩
  by_cases hc0 : c = 0
  ·subst hc0
   have t15 : s.tm 15 = .v (.int .i64 (-1)) := by rw [t15]; rfl
   simp -dsimp [t15]
   exact ⟨0,by simp -dsimp [t0],by simp -dsimp [t1],by simp -dsimp [t2],by simp -dsimp [t3],by simp -dsimp [t4],by simp -dsimp [t13],by simp -dsimp [t15],hcp,by simp -dsimp [hm],by simp -dsimp [hn],by simp -dsimp [hmu],fun _ => rfl⟩
  obtain ⟨d,rfl⟩ : ∃ d,c = d + 1 := ⟨c - 1,by omega⟩
  have ed : ((d + 1 : Nat) : Int) - 1 = (d : Int) := by omega
  rw [ed] at t15
  have hdp : d < p := by omega
  have hdp' : (d : Int) < p := by omega
  have z1 : ¬ (d : Int) < 0 := by omega
  have wd : IntKind.wrap .i64 ((d : Int) - 1) = (d : Int) - 1 := w64 (by omega) (by omega)
  have hkm : s.m kid = some (.box 3 1 (intsT (knownR p k world))) := by rw [hm,km]
  have hgt : (intsT (knownR p k world))[d]? = some (.v (.int .i64 (if d < k then bitI world d else -1))) := by
   have := hkg d hdp
   unfold intsT; rw [List.getElem?_map,this]; rfl
  have hit : (intsT (knownR p k world)).length = p := by simp [hkl]
  have hms : ((d : Int) - 1 + 1).toNat < ((d : Int) + 1).toNat := by omega
  obtain ⟨c1,hc1⟩ : ∃ c1,intsT (knownR p k world) = c1 := ⟨_,rfl⟩
  rw [hc1] at hkm hgt hit
  have hdc : d < c1.length := by omega
  rw [List.getElem?_eq_getElem hdc] at hgt
  have hgt := Option.some.inj hgt
  by_cases hdk : d < k
  ·rw [if_pos hdk] at hgt
   have hnn : ¬ bitI world d < 0 := by unfold bitI; split <;> omega
   have em : max k (d + 1) = max k d := by omega
   rw [em] at t13
   simp -dsimp [t3,t15,hdp,hdp',z1,hkm,hgt,hit,hnn,wd]
   exact ⟨d,by simp -dsimp [t0],by simp -dsimp [t1],by simp -dsimp [t2],by simp -dsimp [t3],by simp -dsimp [t4],by simp -dsimp [t13],by simp -dsimp,by omega,by simp -dsimp [hm],by simp -dsimp [hn],by simp -dsimp [hmu],by simp⟩
  ·rw [if_neg hdk] at hgt
   have em : max k d = d := by omega
   simp -dsimp [t3,t15,hdp,hdp',z1,hkm,hgt,hit,wd]
   exact ⟨d,by simp -dsimp [t0],by simp -dsimp [t1],by simp -dsimp [t2],by simp -dsimp [t3],by simp -dsimp [t4],by simp -dsimp [em,hdp],by simp -dsimp,by omega,by simp -dsimp [hm],by simp -dsimp [hn],by simp -dsimp [hmu],by simp⟩
 ·rintro s ⟨c,t0,t1,t2,t3,t4,t13,t15,hcp,hm,hn,hmu,hend⟩
  have hc0 := hend rfl
  subst hc0
  rw [show max k 0 = k by omega] at t13
  by_cases hkp : k < p
  case neg =>
   have hG := h0 (by omega)
   rw [hG]
   rw [if_neg hkp] at t13
   simp -dsimp [t4,t13,hm,hn]
   exact ⟨sid,rfl,Nat.le_refl _,fun j j1 => rfl,sm,.inl rfl,s1⟩
  rw [if_pos hkp] at t13
  have z1 : ¬ (k : Int) < 0 := by omega
  have hno := hno hkp
  have hyes := hyes hkp
  have hG := hG hkp
  have ia := ia hkp
  have ib := ib hkp
  have hkm : s.m kid = some (.box 3 1 (intsT (knownR p k world))) := by rw [hm,km]
  have hsm : s.m sid = some (.box 153 3 (spT sps)) := by rw [hm,sm]
  have hit : (intsT (knownR p k world)).length = p := by simp [hkl]
  have st0 : (intsT (knownR p k world)).set k (.v (.int .i64 0)) = intsT (knownR p (k + 1) world) := by rw [intsT_set,hno]
  have st1 : (intsT (knownR p k world)).set k (.v (.int .i64 1)) = intsT (knownR p (k + 1) (world + 2 ^ k)) := by rw [intsT_set,hyes]
  have itk : (intsT (knownR p k world)).take p = intsT (knownR p k world) := List.take_of_length_le (by omega)
  have sps1 : spT sps ++ [T.v (.int .i64 k),.v (.int .i64 (-1)),.v (.int .i64 (-1))] = spT (sps ++ [⟨k, -1, -1⟩]) := by rw [spT_app]; rfl
  have stk := spT_take sps
  have sln := spT_len sps
  have al1 : allC (intsT (knownR p k world)) := intsT_allC _
  have al2 : allC (spT sps) := spT_allC _
  obtain ⟨c1,hc1⟩ : ∃ c1,intsT (knownR p k world) = c1 := ⟨_,rfl⟩
  obtain ⟨c2,hc2⟩ : ∃ c2,spT sps = c2 := ⟨_,rfl⟩
  rw [hc1] at al1
  rw [hc2] at al2
  rw [hc1] at hkm hit st0 st1 itk
  rw [hc2] at hsm sps1 stk sln
  have hkn : kid < s.n := by omega
  have hsn : sid < s.n := by omega
  have f1 := far hkn
  have f2 := far hsn
  have hkp' : (k : Int) < p := by omega
  have b1 : sps.length * 24 ≤ 140737488355328 := by omega
  have b2 : (sps.length + 1) * 24 ≤ 140737488355328 := by omega
  have b3 : p * 8 ≤ 140737488355328 := by omega
  have o1 : k + 1 ≤ p := hkp
  simp -dsimp [t0,t1,t2,t3,t4,t13,z1,hkm,hsm,hit,itk,stk,sln,al1,al2,st0,st1,sps1,f1,f2,b1,b2,b3,hmu,hkp,hkp',o1,setAt,nes,nes8]
  refine callS_ (ia _ _ _ _ ?_) ?_
  ·refine ⟨?_, ?_, ?_, ?_⟩
   ·omega
   ·omega
   ·simp -dsimp [nes,nes8]
   ·simp -dsimp [nes,nes8]
  rintro t m1 n1 ⟨id1,rfl,hn1,hout1,hm1,hid1,hid1b⟩
  have hb1 := hout1 (s.n + 1 + 1 + 1 + 1 + 1 + 1 + 1 + 1) (by omega)
  simp -dsimp [nes,nes8] at hb1
  simp only at hm1
  simp -dsimp [t0,t1,t2,nes,nes8]
  refine callS_ (ib _ _ _ _ ?_) ?_
  ·refine ⟨?_, ?_, ?_, ?_⟩
   ·omega
   ·omega
   ·exact hb1
   ·exact hm1
  rintro t m2 n2 ⟨id2,rfl,hn2,hout2,hm2,hid2,hid2b⟩
  simp only [hc3] at hm2
  have hB1 := hG.2.1
  have hB2 := hG.2.2
  have hst2 := hst2 hkp
  have hln := hln hkp
  have o2 : sps.length * 3 + 3 ≤ B1.length * 3 := by omega
  have hB1' : (sps.length : Int) < B1.length := by omega
  have hfl : ∀ j,j < n → m2 j = s.m j := fun j j1 => by rw [hout2 j (by omega),hout1 j (by omega)]; simp -dsimp [far (show j < s.n by omega)]
  have hid2n : n ≤ id2 := by omega
  have f3 := far hid2b
  cases A3
  ·simp -dsimp [t0,t1,t2,t13,hm2,hB1,hB1',o2,hbl,hst2,setAt,f3,nes,nes8]
   refine ⟨id2, ?_, ?_, ?_, ?_, ?_, ?_⟩
   ·simp only [hln,hG.1.2.1,hG.1.2.2]; rfl
   ·omega
   ·intro j j1
    simp [show ¬ j = id2 by omega,hfl j j1,hm]
   ·simp
   ·exact .inr hid2n
   ·omega
  ·simp -dsimp [t0,t1,t2,t13,hm2,hB1,hB1',o2,hbl,hst2,setAt,f3,nes,nes8]
   refine ⟨id2, ?_, ?_, ?_, ?_, ?_, ?_⟩
   ·simp only [hln,hG.1.2.1,hG.1.2.2]; rfl
   ·omega
   ·intro j j1
    simp [show ¬ j = id2 by omega,hfl j j1,hm]
   ·simp
   ·exact .inr hid2n
   ·omega
theorem grow_s (p : Nat) (l : List Claim) (t : List Mark) (h : storyOk p l = true) (ht : termOk p t = true) : ∀ (r k world : Nat) (sps : List Sp) (kid sid : Nat) (m : Mem) (n : Nat),k + r = p → world < 2 ^ k → sps.length + 2 ^ r ≤ 1000 → GrM p k world sps kid sid m n →
  FnS Tryz.prog 110 m n [.v (.int .i64 p),.v (storyV l),.v (marksV t),.sv kid 0 p,.sv sid 0 sps.length] (grPost (growR p l t r world sps) sid m n)
 | 0,k,world,sps,kid,sid,m,n,hk,hw,hlen,hM => by
  rcases leaf_cases p l t k world with ⟨a1,a2⟩ | ⟨b1,i0,b2,b3,b4,b5⟩ | ⟨c1,c2,c3⟩
  ·rw [growR_leaf hk a2]; exact grow_goal p l t h ht k world (by omega) hw sps kid sid m n hM a1
  ·rw [growR_leaf hk b5]; exact grow_claim p l t h ht k world (by omega) hw sps kid sid m n hM b1 i0 b2 b3 b4
  ·obtain rfl : k = p := by omega
   exact grow_rest k l t h ht k world (by omega) hw sps (by omega) kid sid m n hM c1 c2 _ (fun _ => growR_none c3 sps) ([],0,false) ([],0,false) (fun h => absurd h (by omega)) (fun h => absurd h (by omega)) (fun h => absurd h (by omega))
 | r + 1,k,world,sps,kid,sid,m,n,hk,hw,hlen,hM => by
  rcases leaf_cases p l t k world with ⟨a1,a2⟩ | ⟨b1,i0,b2,b3,b4,b5⟩ | ⟨c1,c2,c3⟩
  ·rw [growR_leaf hk a2]; exact grow_goal p l t h ht k world (by omega) hw sps kid sid m n hM a1
  ·rw [growR_leaf hk b5]; exact grow_claim p l t h ht k world (by omega) hw sps kid sid m n hM b1 i0 b2 b3 b4
  ·have hA := growR_len p l t r world (sps ++ [(⟨k, -1, -1⟩ : Sp)])
   have hB := growR_len p l t r (world + 2 ^ k) (growR p l t r world (sps ++ [(⟨k, -1, -1⟩ : Sp)])).1
   have hst := growR_step hk c3 sps _ _ rfl rfl
   have e : (sps ++ [(⟨k, -1, -1⟩ : Sp)]).length = sps.length + 1 := by simp
   rw [e] at hA
   rw [Nat.pow_succ] at hlen
   refine grow_rest p l t h ht k world (by omega) hw sps (by omega) kid sid m n hM c1 c2 _ (fun h => absurd h (by omega)) (growR p l t r world (sps ++ [(⟨k, -1, -1⟩ : Sp)])) (growR p l t r (world + 2 ^ k) (growR p l t r world (sps ++ [(⟨k, -1, -1⟩ : Sp)])).1) (fun _ => ⟨hst,by omega,by omega⟩) (fun _ kid sid m n hM => ?_) (fun _ kid sid m n hM => ?_)
   ·have := grow_s p l t h ht r (k + 1) world (sps ++ [(⟨k, -1, -1⟩ : Sp)]) kid sid m n (by omega) (by rw [Nat.pow_succ]; omega) (by rw [e]; omega) hM
    rw [e] at this; exact this
   ·exact grow_s p l t h ht r (k + 1) (world + 2 ^ k) _ kid sid m n (by omega) (by rw [Nat.pow_succ]; omega) (by omega) hM
end TL

namespace TL
open Go Go.Proofs
attribute [local simp] marksV storyV codeV Claim.v Place.v
def InoF (p : Nat) (e : Nat) (s : S) : Prop := ∃ i id : Nat,s.tm 0 = .v (.int .i64 p) ∧ s.tm 3 = .loc id ∧ id < s.n ∧ s.mu = false ∧ s.m id = some (.arr 3 ((List.replicate i (-1 : Int)).map (V.int .i64))) ∧ s.tm 4 = .v (.int .i64 i) ∧ i ≤ p ∧ (e = 1 → i = p)
theorem l11Nothing_fn (p : Nat) (hp : p ≤ 4) : FnZ Tryz.prog 111 [.int .i64 p] (numsV (List.replicate p (-1))) := by
 refine FZ (rs := [.tmp 2]) false Tryz.func111 ?_
 simp -dsimp
 refine twp_loopC (InoF p 0) (fun s => p - natOf (s.tm 4)) (InoF p 1) ?_ ?_ ?_
 ·exact ⟨0,0,by simp -dsimp,by simp -dsimp,by simp -dsimp,by simp -dsimp,by simp -dsimp,by simp -dsimp,by omega,by simp⟩
 ·rintro s ⟨i,id,t0,t3,hid,hmu,hm,t4,hi,hend⟩
  by_cases hlt : i < p
  case neg =>
   simp -dsimp [t0,t4,hlt]
   exact ⟨i,id,by simp -dsimp [t0],by simp -dsimp [t3],by simp -dsimp; omega,by simp -dsimp [hmu],by simp -dsimp [hm],by simp -dsimp [t4],hi,fun _ => by omega⟩
  have wi : IntKind.wrap .i64 ((i : Int) + 1) = ((i + 1 : Nat) : Int) := by rw [w64 (by omega) (by omega)]; omega
  have hmu1 : p - (i + 1) < p - i := by omega
  have f1 := far hid
  have b1 : (i + 1) * 8 ≤ 140737488355328 := by omega
  have hnx : (List.replicate (i + 1) (-1 : Int)).map (V.int .i64) = (List.replicate i (-1 : Int)).map (V.int .i64) ++ [.int .i64 (-1)] := by rw [List.replicate_succ',List.map_append]; rfl
  have hrl : ((List.replicate i (-1 : Int)).map (V.int .i64)).length = i := by simp
  obtain ⟨xs,hxs⟩ : ∃ xs,(List.replicate i (-1 : Int)).map (V.int .i64) = xs := ⟨_,rfl⟩
  rw [hxs] at hm hnx hrl
  have b2 : (xs.length + 1) * 8 ≤ 140737488355328 := by omega
  simp -dsimp [t0,t3,t4,hlt,hm,hmu,f1,b1,b2,hrl,wi,hmu1,nes]
  refine st_out fun s' ht hm' hn' hu' => ?_
  have a0 := ht 0
  have a3 := ht 3
  have a4 := ht 4
  simp -dsimp [t0] at a0 a3 a4 hm' hn' hu'
  clear ht
  refine ⟨i + 1,_,a0,a3,by omega,by rw [hu',hmu], ?_,a4,by omega,by simp⟩
  rw [hnx]; simp [hm',nes]
 ·rintro s ⟨i,id,t0,t3,hid,hmu,hm,t4,hi,hend⟩
  have := hend rfl
  subst this
  simp -dsimp [t3,hm,numsV]
/-! Texts. -/
theorem l11Text_fn (p : Nat) (l : List Claim) (t : List Mark) (hp : p ≤ 4) (hl : l.length ≤ 6) : ∀ (y : PT) (k world : Nat) (pre post : List Sp) (F : Int) (R : List Sp),okT p l t y k world → y.size ≤ 15 → pre.length + y.size ≤ 1000 → R = pre ++ y.row pre.length ++ post →
  FnZ Tryz.prog 113 [.agg [.int .i64 F,spsV R],.int .i64 (y.to pre.length)] (.str y.tx)
 | .goal,k,world,pre,post,F,R,h,hs,hpr,hR => by
  have e1 : PT.goal.to pre.length = -1 := rfl
  have e2 : PT.goal.tx = [42] := rfl
  rw [e1,e2]
  refine FZ (rs := [.tmp 4]) false Tryz.func113 ?_
  simp -dsimp [spsV]
 | .claim i,k,world,pre,post,F,R,h,hs,hpr,hR => by
  have hi := h.1
  have e1 : (PT.claim i).to pre.length = -2 - (i : Int) := rfl
  have e2 : (PT.claim i).tx = dec i := rfl
  have hit := l1Number2_fn (i : Int) (by omega) (by omega)
  have c1 : ¬ (-2 - (i : Int) = -1) := by omega
  have c2 : -2 - (i : Int) < 0 := by omega
  have w1 : IntKind.wrap .i64 (-2 - (-2 - (i : Int))) = (i : Int) := by rw [w64 (by omega) (by omega)]; omega
  rw [e1,e2]
  generalize dec (i : Int) = D at *
  generalize hX : -2 - (i : Int) = X at *
  refine FZ (rs := [.tmp 4]) false Tryz.func113 ?_
  simp -dsimp [spsV,c1,c2,w1]
  refine cl hit ?_
  simp -dsimp
 | .split who a b,k,world,pre,post,F,R,h,hs,hpr,hR => by
  obtain ⟨hk,hkp,ha,hb⟩ := h
  have la := tx_len (by omega) a _ _ ha
  have lb := tx_len (by omega) b _ _ hb
  simp only [PT.size] at hs hpr
  subst hk
  have ia := l11Text_fn p l t hp hl a (who + 1) world (pre ++ [⟨who,a.to (pre.length + 1),b.to (pre.length + 1 + a.size)⟩]) (b.row (pre.length + 1 + a.size) ++ post) F R ha (by omega) (by simp only [List.length_append,List.length_cons,List.length_nil]; omega) (by rw [hR]; simp [PT.row,List.append_assoc])
  have ib := l11Text_fn p l t hp hl b (who + 1) (world + 2 ^ who) (pre ++ [⟨who,a.to (pre.length + 1),b.to (pre.length + 1 + a.size)⟩] ++ a.row (pre.length + 1)) post F R hb (by omega) (by simp only [List.length_append,List.length_cons,List.length_nil,PT.row_len]; omega) (by rw [hR]; simp [PT.row,PT.row_len,List.append_assoc]; congr 1; omega)
  have e3 : (pre ++ [(⟨who,a.to (pre.length + 1),b.to (pre.length + 1 + a.size)⟩ : Sp)]).length = pre.length + 1 := by simp
  have e4 : (pre ++ [(⟨who,a.to (pre.length + 1),b.to (pre.length + 1 + a.size)⟩ : Sp)] ++ a.row (pre.length + 1)).length = pre.length + 1 + a.size := by simp [PT.row_len]; omega
  rw [e3] at ia
  rw [e4] at ib
  have hget : (R.map Sp.v)[pre.length]? = some (Sp.v ⟨who,a.to (pre.length + 1),b.to (pre.length + 1 + a.size)⟩) := by
   rw [hR]; simp [PT.row,Sp.v]
  have e5 : (PT.split who a b).to pre.length = (pre.length : Int) := rfl
  have e6 : (PT.split who a b).tx = UInt8.ofNat (97 + who) :: 40 :: (a.tx ++ 44 :: (b.tx ++ [41])) := rfl
  rw [e5,e6]
  obtain ⟨TA,hTA⟩ : ∃ TA,a.to (pre.length + 1) = TA := ⟨_,rfl⟩
  obtain ⟨TB,hTB⟩ : ∃ TB,b.to (pre.length + 1 + a.size) = TB := ⟨_,rfl⟩
  rw [hTA] at ia hget
  rw [hTB] at ib hget
  obtain ⟨xa,hxa⟩ : ∃ xa,a.tx = xa := ⟨_,rfl⟩
  obtain ⟨xb,hxb⟩ : ∃ xb,b.tx = xb := ⟨_,rfl⟩
  rw [hxa] at ia la ⊢
  rw [hxb] at ib lb ⊢
  obtain ⟨rowV,hrow⟩ : ∃ rowV,R.map Sp.v = rowV := ⟨_,rfl⟩
  have es : spsV R = .sl rowV := by rw [← hrow]; rfl
  rw [hrow] at hget
  rw [es] at ia ib ⊢
  have hcell : ∀ x y z : Int,(Sp.v ⟨x,y,z⟩).cells = [.int .i64 x,.int .i64 y,.int .i64 z] := fun _ _ _ => rfl
  obtain ⟨N,hN⟩ : ∃ N,pre.length = N := ⟨_,rfl⟩
  rw [hN] at hget ⊢
  have z1 : ¬ (N : Int) = -1 := by omega
  have z2 : ¬ (N : Int) < 0 := by omega
  have b1 : (1 + 1 + xa.length : Int) ≤ 9223372036854775807 := by omega
  have b5 : (2 + xa.length : Int) ≤ 9223372036854775807 := by omega
  have b6 : (2 + (xa.length + 1) : Int) ≤ 9223372036854775807 := by omega
  have b7 : (2 + (xa.length + 1 + xb.length) : Int) ≤ 9223372036854775807 := by omega
  have b8 : (2 + (xa.length + (1 + xb.length)) : Int) ≤ 9223372036854775807 := by omega
  have b9 : (2 + (xa.length + (xb.length + 1)) : Int) ≤ 9223372036854775807 := by omega
  have b10 : (2 + (xa.length + (xb.length + 1)) + 1 : Int) ≤ 9223372036854775807 := by omega
  have b11 : (2 + (xa.length + (xb.length + 1 + 1)) : Int) ≤ 9223372036854775807 := by omega
  have b12 : (2 + xa.length + 1 : Int) ≤ 9223372036854775807 := by omega
  have b13 : (2 + (xa.length + 1) + xb.length : Int) ≤ 9223372036854775807 := by omega
  have b14 : (2 + (xa.length + (xb.length + 2)) : Int) ≤ 9223372036854775807 := by omega
  have b2 : (1 + 1 + xa.length + 1 : Int) ≤ 9223372036854775807 := by omega
  have b3 : (1 + 1 + xa.length + 1 + xb.length : Int) ≤ 9223372036854775807 := by omega
  have b4 : (1 + 1 + xa.length + 1 + xb.length + 1 : Int) ≤ 9223372036854775807 := by omega
  have d0 : ((xa.length + 1 + 1 + 1 : Nat) : Int) ≤ 9223372036854775807 := by omega
  have d1 : ((xa.length + 1 + 1 + 1 + xb.length : Nat) : Int) ≤ 9223372036854775807 := by omega
  have d2 : ((xa.length + (xb.length + 1) + 1 + 1 : Nat) : Int) ≤ 9223372036854775807 := by omega
  have d3 : ((xa.length + (xb.length + 1) + 1 + 1 + 1 : Nat) : Int) ≤ 9223372036854775807 := by omega
  have d4 : ((xa.length + (xb.length + 1 + 1) + 1 + 1 : Nat) : Int) ≤ 9223372036854775807 := by omega
  have d5 : ((xa.length + 1 + 1 + 1 + xb.length + 1 : Nat) : Int) ≤ 9223372036854775807 := by omega
  have d6 : ((xa.length + 1 + 1 : Nat) : Int) ≤ 9223372036854775807 := by omega
  have d7 : ((xa.length + (1 + xb.length) + 1 + 1 : Nat) : Int) ≤ 9223372036854775807 := by omega
  have d8 : ((xa.length + (xb.length + (1 + 1)) + 1 + 1 : Nat) : Int) ≤ 9223372036854775807 := by omega
  simp only [Int.natCast_add,Int.natCast_one] at d0 d1 d2 d3 d4 d5 d6 d7 d8
  clear hTA hTB hxa hxb hrow hR e3 e4 e5 e6 es
  have hwho : who = 0 ∨ who = 1 ∨ who = 2 ∨ who = 3 := by omega
  rcases hwho with rfl | rfl | rfl | rfl
  all_goals
   refine FZ (rs := [.tmp 4]) false Tryz.func113 ?_
   simp -dsimp [z1,z2,hget,hcell]
   refine twd [0,1,2,3,4,5,6,7,8,9,13,14,15,10,11,12,16,17,18,19] [0,1] (List.replicate 20 [0,1]) (List.replicate 20 [0,1]) ?_
   simp -dsimp [z1,z2,hget,hcell,show IntKind.wrap .i64 1 = 1 from rfl,show IntKind.wrap .i64 2 = 2 from rfl,show IntKind.wrap .i64 3 = 3 from rfl,show IntKind.wrap .i64 4 = 4 from rfl]
   refine cl ia ?_
   simp -dsimp [b1,b2,b3,b4,b5,b6,b7,b8,b9,b10,b11,b12,b13,b14,d0,d1,d2,d3,d4,d5,d6,d7,d8]
   refine cl ib ?_
   simp -dsimp [b1,b2,b3,b4,b5,b6,b7,b8,b9,b10,b11,b12,b13,b14,d0,d1,d2,d3,d4,d5,d6,d7,d8]
/-! Each split is come to once. -/
theorem tgs_at {R : List Sp} {i : Nat} (h : i < R.length) : tgs R = tgs (R.take i) ++ ([R[i].no,R[i].yes] ++ tgs (R.drop (i + 1))) := by
 have e : R = R.take i ++ R[i] :: R.drop (i + 1) := by rw [← drop_cons h,List.take_append_drop]
 have e2 : tgs R = tgs (R.take i ++ R[i] :: R.drop (i + 1)) := congrArg tgs e
 rw [e2]
 unfold tgs
 rw [List.flatMap_append,List.flatMap_cons]; rfl
theorem tgs_succ {R : List Sp} {i : Nat} (h : i < R.length) : tgs (R.take (i + 1)) = tgs (R.take i) ++ [R[i].no,R[i].yes] := by
 rw [List.take_succ_eq_append_getElem h]
 unfold tgs
 rw [List.flatMap_append]; simp [Sp.tg]
/-- What stands of a split's targets ahead of a side. -/
def side2 (x : Sp) : Nat → List Int
 | 0 => []
 | 1 => [x.no]
 | _ => [x.no,x.yes]
def Ion1 (F : Int) (R : List Sp) (e : Nat) (s : S) : Prop := ∃ i : Nat,s.tm 1 = .ptr 0 0 ∧ s.m 0 = some (.box 89 2 [.v (.int .i64 F),.v (spsV R)]) ∧ s.tm 3 = .sv 1 0 R.length ∧ s.m 1 = some (.box 4 1 (bsT (seenL R.length (tgs (R.take i))))) ∧ s.tm 4 = .v (.int .i64 i) ∧ i ≤ R.length ∧ s.mu = true ∧ 2 ≤ s.n ∧ (e = 1 → i = R.length)
def Ion2 (F : Int) (R : List Sp) (i : Nat) (x : Sp) (P : List Int) (e : Nat) (s : S) : Prop := ∃ j : Nat,s.tm 1 = .ptr 0 0 ∧ s.m 0 = some (.box 89 2 [.v (.int .i64 F),.v (spsV R)]) ∧ s.tm 3 = .sv 1 0 R.length ∧ s.m 1 = some (.box 4 1 (bsT (seenL R.length (P ++ side2 x j)))) ∧ s.tm 4 = .v (.int .i64 i) ∧ s.tm 5 = .v (.int .i64 j) ∧ j ≤ 2 ∧ s.mu = true ∧ 2 ≤ s.n ∧ (e = 1 → j = 2)
theorem l11Once_fn (F : Int) (R : List Sp) (hR : R.length ≤ 1000) (ho : onceT (tgs R)) (hf : ∀ x ∈ tgs R,x < R.length) : FnZ Tryz.prog 158 [.agg [.int .i64 F,spsV R]] (.bool true) := by
 have b1 : (R.length : Int) ≤ 281474976710656 := by omega
 have b2 : (R.length : Int) ≤ 9223372036854775807 := by omega
 have b3 : (0 : Int) ≤ R.length := by omega
 have e0 : List.replicate R.length (T.v (.bool false)) = bsT (seenL R.length (tgs [])) := by
  refine (List.eq_replicate_iff.2 ⟨by simp [seenL_len],fun x hx => ?_⟩).symm
  obtain ⟨b,hb,rfl⟩ := List.mem_map.1 hx
  obtain ⟨j,_,rfl⟩ := List.mem_map.1 hb
  simp [tgs]
 refine FZ (rs := [.tmp 2]) true Tryz.func158 ?_
 simp -dsimp [spsV,b1,b2,b3]
 refine twp_loopC (Ion1 F R 0) (fun s => R.length - natOf (s.tm 4)) (Ion1 F R 1) ?_ ?_ ?_
 ·exact ⟨0,by simp -dsimp,by simp -dsimp [spsV],by simp -dsimp,by simp -dsimp [e0],by simp -dsimp,by omega,by simp -dsimp,by simp -dsimp,by simp⟩
 ·rintro s ⟨i,t1,m0,t3,m1,t4,hi,hmu,hn,hend⟩
  by_cases hlt : i < R.length
  case neg =>
   simp -dsimp [t1,m0,t4,hlt,spsV]
   exact ⟨i,by simp -dsimp [t1],by simp -dsimp [m0],by simp -dsimp [t3],by simp -dsimp [m1],by simp -dsimp [t4],hi,by simp -dsimp [hmu],by simp -dsimp [hn],fun _ => by omega⟩
  have wi : IntKind.wrap .i64 ((i : Int) + 1) = ((i + 1 : Nat) : Int) := by rw [w64 (by omega) (by omega)]; omega
  have hmu1 : R.length - (i + 1) < R.length - i := by omega
  have hget : (R.map Sp.v)[i]? = some (Sp.v R[i]) := by simp [hlt]
  have hta := tgs_at hlt
  have hts := tgs_succ hlt
  have hlti : (i : Int) < R.length := by omega
  obtain ⟨x,hx⟩ : ∃ x,R[i] = x := ⟨_,rfl⟩
  rw [hx] at hget hta hts
  obtain ⟨P,hP⟩ : ∃ P,tgs (R.take i) = P := ⟨_,rfl⟩
  rw [hP] at hta hts m1
  have hfx : ∀ z ∈ [x.no,x.yes],z < R.length := fun z hz => hf z (by rw [hta]; simp only [List.mem_append]; exact .inr (.inl hz))
  have hno := hfx x.no (by simp)
  have hye := hfx x.yes (by simp)
  have hn1 : 0 ≤ x.no → x.no ∉ P := fun h0 => once_next (post := x.yes :: tgs (R.drop (i + 1))) (by rw [hta] at ho; exact ho) h0
  have hn2 : 0 ≤ x.yes → x.yes ∉ P ++ [x.no] := fun h0 => once_next (post := tgs (R.drop (i + 1))) (by rw [hta] at ho; simpa using ho) h0
  obtain ⟨w,xn,xy⟩ := x
  simp only at hno hye hn1 hn2
  have hcell : (Sp.v ⟨w,xn,xy⟩).cells = [.int .i64 w,.int .i64 xn,.int .i64 xy] := rfl
  have hvv : Sp.v ⟨w,xn,xy⟩ = .agg [.int .i64 w,.int .i64 xn,.int .i64 xy] := rfl
  obtain ⟨rv,hrv⟩ : ∃ rv,R.map Sp.v = rv := ⟨_,rfl⟩
  have es : spsV R = .sl rv := by rw [← hrv]; rfl
  have erl : rv.length = R.length := by rw [← hrv]; simp
  rw [hrv] at hget
  rw [es] at m0
  have hltv : i < rv.length := by omega
  have hgv : rv[i] = Sp.v ⟨w,xn,xy⟩ := by rw [List.getElem?_eq_getElem hltv] at hget; exact Option.some.inj hget
  clear ho hf hfx hta
  simp -dsimp [t1,m0,t4,hlt,hlti,erl]
  refine twp_loopB (Ion2 F R i ⟨w,xn,xy⟩ P 0) (fun s => 2 - natOf (s.tm 5)) (Ion2 F R i ⟨w,xn,xy⟩ P 1) ?_ ?_ ?_
  ·exact ⟨0,by simp -dsimp [t1],by simp -dsimp [m0,es],by simp -dsimp [t3],by simp -dsimp [m1,side2],by simp -dsimp [t4],by simp -dsimp,by omega,by simp -dsimp [hmu],by simp -dsimp [hn],by simp⟩
  ·rintro s2 ⟨j,u1,um0,u3,um1,u4,u5,hj,umu,un,hend2⟩
   rw [es] at um0
   by_cases hj2 : j = 2
   ·simp -dsimp [u5,hj2]
    exact ⟨2,by simp -dsimp [u1],by simp -dsimp [um0,es],by simp -dsimp [u3],by simp -dsimp [um1,hj2],by simp -dsimp [u4],by simp -dsimp [u5,hj2],by omega,by simp -dsimp [umu],by simp -dsimp [un],fun _ => rfl⟩
   by_cases hj0 : j = 0
   ·subst hj0
    simp only [side2,List.append_nil] at um1
    by_cases hx0 : xn < 0
    ·have hs := seenL_skip (n := R.length) (xs := P) hx0
     simp -dsimp [u1,um0,u4,u5,hlt,hltv,hlti,erl,hget,hgv,hcell,hvv,hx0,show IntKind.wrap .i64 1 = 1 from rfl,show IntKind.wrap .i64 2 = 2 from rfl]
     exact ⟨1,by simp -dsimp [u1],by simp -dsimp [um0,es],by simp -dsimp [u3],by simp -dsimp [um1,side2,hs],by simp -dsimp [u4],by simp -dsimp,by omega,by simp -dsimp [umu],(by simp -dsimp <;> omega),by simp⟩
    ·obtain ⟨q,rfl⟩ := Int.eq_ofNat_of_zero_le (show 0 ≤ xn by omega)
     have hq : q < R.length := by omega
     have hq' : (q : Int) < R.length := by omega
     have hq2 : ¬ (R.length : Int) ≤ q := by omega
     have hq3 : ¬ R.length ≤ q := by omega
     have hsg := seenL_get (xs := P) hq
     rw [decide_eq_false (hn1 (by omega))] at hsg
     have hst := seenL_set (xs := P) hq
     have hbg : (bsT (seenL R.length P))[q]? = some (.v (.bool false)) := by rw [bsT_get,hsg]; rfl
     have hbs : (bsT (seenL R.length P)).set q (.v (.bool true)) = bsT (seenL R.length (P ++ [(q : Int)])) := by rw [bsT_set,hst]
     have hbl : (bsT (seenL R.length P)).length = R.length := by simp [seenL_len]
     have z1 : ¬ (q : Int) < 0 := by omega
     have o1 : q + 1 ≤ R.length := by omega
     obtain ⟨c1,hc1⟩ : ∃ c1,bsT (seenL R.length P) = c1 := ⟨_,rfl⟩
     rw [hc1] at um1 hbg hbs hbl
     have hqc : q < c1.length := by omega
     rw [List.getElem?_eq_getElem hqc] at hbg
     have hbg := Option.some.inj hbg
     simp -dsimp [u1,um0,u3,um1,u4,u5,hlt,hltv,hlti,erl,hget,hgv,hcell,hvv,z1,hq,hq',hq2,hq3,hbg,hbs,hbl,setAt,o1,show IntKind.wrap .i64 1 = 1 from rfl,show IntKind.wrap .i64 2 = 2 from rfl]
     exact ⟨1,by simp -dsimp [u1],by simp -dsimp [um0,es],by simp -dsimp [u3],by simp -dsimp [side2],by simp -dsimp [u4],by simp -dsimp,by omega,by simp -dsimp [umu],(by simp -dsimp <;> omega),by simp⟩
   ·have hj1 : j = 1 := by omega
    subst hj1
    simp only [side2] at um1
    have hap : ∀ z : Int,P ++ [xn] ++ [z] = P ++ [xn,z] := fun z => by simp
    by_cases hx0 : xy < 0
    ·have hs := seenL_skip (n := R.length) (xs := P ++ [xn]) hx0
     rw [hap] at hs
     simp -dsimp [u1,um0,u4,u5,hlt,hltv,hlti,erl,hget,hgv,hcell,hvv,hx0,show IntKind.wrap .i64 1 = 1 from rfl,show IntKind.wrap .i64 2 = 2 from rfl]
     exact ⟨2,by simp -dsimp [u1],by simp -dsimp [um0,es],by simp -dsimp [u3],by simp -dsimp [um1,side2,hs],by simp -dsimp [u4],by simp -dsimp,by omega,by simp -dsimp [umu],(by simp -dsimp <;> omega),by simp⟩
    ·obtain ⟨q,rfl⟩ := Int.eq_ofNat_of_zero_le (show 0 ≤ xy by omega)
     have hq : q < R.length := by omega
     have hq' : (q : Int) < R.length := by omega
     have hq2 : ¬ (R.length : Int) ≤ q := by omega
     have hq3 : ¬ R.length ≤ q := by omega
     have hsg := seenL_get (xs := P ++ [xn]) hq
     rw [decide_eq_false (hn2 (by omega))] at hsg
     have hst := seenL_set (xs := P ++ [xn]) hq
     rw [hap] at hst
     have hbg : (bsT (seenL R.length (P ++ [xn])))[q]? = some (.v (.bool false)) := by rw [bsT_get,hsg]; rfl
     have hbs : (bsT (seenL R.length (P ++ [xn]))).set q (.v (.bool true)) = bsT (seenL R.length (P ++ [xn,(q : Int)])) := by rw [bsT_set,hst]
     have hbl : (bsT (seenL R.length (P ++ [xn]))).length = R.length := by simp [seenL_len]
     have z1 : ¬ (q : Int) < 0 := by omega
     have o1 : q + 1 ≤ R.length := by omega
     obtain ⟨c1,hc1⟩ : ∃ c1,bsT (seenL R.length (P ++ [xn])) = c1 := ⟨_,rfl⟩
     rw [hc1] at um1 hbg hbs hbl
     have hqc : q < c1.length := by omega
     rw [List.getElem?_eq_getElem hqc] at hbg
     have hbg := Option.some.inj hbg
     simp -dsimp [u1,um0,u3,um1,u4,u5,hlt,hltv,hlti,erl,hget,hgv,hcell,hvv,z1,hq,hq',hq2,hq3,hbg,hbs,hbl,setAt,o1,show IntKind.wrap .i64 1 = 1 from rfl,show IntKind.wrap .i64 2 = 2 from rfl]
     exact ⟨2,by simp -dsimp [u1],by simp -dsimp [um0,es],by simp -dsimp [u3],by simp -dsimp [side2],by simp -dsimp [u4],by simp -dsimp,by omega,by simp -dsimp [umu],(by simp -dsimp <;> omega),by simp⟩
  ·rintro s2 ⟨j,u1,um0,u3,um1,u4,u5,hj,umu,un,hend2⟩
   have := hend2 rfl
   subst this
   simp only [side2] at um1
   rw [← hts] at um1
   simp -dsimp [u4,wi,hmu1,t4]
   exact ⟨i + 1,by simp -dsimp [u1],by simp -dsimp [um0],by simp -dsimp [u3],by simp -dsimp [um1],by simp -dsimp,by omega,by simp -dsimp [umu],(by simp -dsimp <;> omega),by simp⟩
 ·rintro s ⟨i,t1,m0,t3,m1,t4,hi,hmu,hn,hend⟩
  simp -dsimp
end TL

namespace TL
open Go Go.Proofs
attribute [local simp] marksV storyV codeV Claim.v Place.v
def Ick (p : Nat) (l : List Claim) (t : List Mark) (F : Int) (rv : List V) (K : V) (N who : Nat) (TA TB : Int) (sa sb : Nat) (e : Nat) (s : S) : Prop := ∃ j : Nat,s.tm 0 = .v (.int .i64 p) ∧ s.tm 1 = .v (storyV l) ∧ s.tm 2 = .v (marksV t) ∧ s.tm 4 = .v (.int .i64 N) ∧ s.tm 5 = .v K ∧ s.tm 9 = .ptr 0 0 ∧ s.tm 14 = .ptr 1 0 ∧
 s.tm 15 = .v (.int .i64 ((1 + (if 1 ≤ j then sa else 0) + (if 2 ≤ j then sb else 0) : Nat) : Int)) ∧ s.tm 16 = .v (.int .i64 j) ∧ s.m 0 = some (.box 89 2 [.v (.int .i64 F),.v (.sl rv)]) ∧ s.m 1 = some (.box 153 3 [.v (.int .i64 who),.v (.int .i64 TA),.v (.int .i64 TB)]) ∧ j ≤ 2 ∧ s.mu = true ∧ 2 ≤ s.n ∧ (e = 1 → j = 2)
theorem checks_split (p : Nat) (l : List Claim) (t : List Mark) (h : storyOk p l = true) (F : Int) (rv : List V) (who N sa sb world : Nat) (TA TB : Int) (hkp : who < p) (hw : world < 2 ^ who) (hN : N < rv.length) (hlen : rv.length ≤ 1000) (hs : 1 + sa + sb ≤ 1000) (hget : rv[N]? = some (Sp.v ⟨who,TA,TB⟩))
  (hTA : TA < 0 ∨ ((N : Int) < TA ∧ TA < rv.length)) (hTB : TB < 0 ∨ ((N : Int) < TB ∧ TB < rv.length))
  (ia : FnZ Tryz.prog 157 [.int .i64 p,storyV l,marksV t,.agg [.int .i64 F,.sl rv],.int .i64 TA,numsV (knownR p (who + 1) world)] (.tup [.int .i64 (sa : Nat),.bool true]))
  (ib : FnZ Tryz.prog 157 [.int .i64 p,storyV l,marksV t,.agg [.int .i64 F,.sl rv],.int .i64 TB,numsV (knownR p (who + 1) (world + 2 ^ who))] (.tup [.int .i64 (sb : Nat),.bool true])) :
  FnZ Tryz.prog 157 [.int .i64 p,storyV l,marksV t,.agg [.int .i64 F,.sl rv],.int .i64 N,numsV (knownR p who world)] (.tup [.int .i64 ((1 + sa + sb : Nat) : Int),.bool true]) := by
 have h4 : p ≤ 4 := by have := (allOk_of h).2.1; omega
 have hin := l1In_fn (who : Int) 0 ((p - 1 : Nat) : Int)
 have hit : inR (who : Int) 0 ((p - 1 : Nat) : Int) = true := (inR_true ..).2 (by omega)
 rw [hit] at hin
 have w1 : IntKind.wrap .i64 ((p : Int) - 1) = ((p - 1 : Nat) : Int) := by rw [w64 (by omega) (by omega)]; omega
 have z1 : ¬ (N : Int) < 0 := by omega
 have z2 : ¬ (who : Int) < 0 := by omega
 have hNi : (N : Int) < rv.length := by omega
 have hcell : ∀ x y z : Int,(Sp.v ⟨x,y,z⟩).cells = [.int .i64 x,.int .i64 y,.int .i64 z] := fun _ _ _ => rfl
 have hgv : rv[N] = Sp.v ⟨who,TA,TB⟩ := by rw [List.getElem?_eq_getElem hN] at hget; exact Option.some.inj hget
 have hkl := knownR_len p who world
 have hkg := knownR_get (k := who) (world := world) hkp
 rw [if_neg (by omega)] at hkg
 have hno := knownR_no hkp hw
 have hyes := knownR_yes hkp hw
 have hmv : (knownR p who world).map (V.int .i64) = (knownR p who world).map (V.int .i64) := rfl
 have e0 : numsV (knownR p who world) = .sl ((knownR p who world).map (V.int .i64)) := rfl
 have hkl2 : ((knownR p who world).map (V.int .i64)).length = p := by simp [hkl]
 have hkg2 : ((knownR p who world).map (V.int .i64))[who]? = some (.int .i64 (-1)) := by rw [List.getElem?_map,hkg]; rfl
 have hmt : ((knownR p who world).map (V.int .i64)).flatMap (fun x => x.cells.map T.v) = intsT (knownR p who world) := by
  rw [List.flatMap_map]; unfold intsT; induction knownR p who world with
  | nil => rfl
  | cons x xs ih => simp [V.cells] at ih ⊢; exact ih
 have hzK : allZ 1 ((knownR p who world).map (V.int .i64)) := by
  intro x hx; obtain ⟨b,_,rfl⟩ := List.mem_map.1 hx; simp [V.cells,V.cell]
 have st0 : (intsT (knownR p who world)).set who (.v (.int .i64 0)) = intsT (knownR p (who + 1) world) := by rw [intsT_set,hno]
 have st1 : (intsT (knownR p who world)).set who (.v (.int .i64 1)) = intsT (knownR p (who + 1) (world + 2 ^ who)) := by rw [intsT_set,hyes]
 have hbr0 := fun (m : Mem) (i d : Nat) (hm : m i = some (.box 3 1 (intsT (knownR p (who + 1) world)))) => bor_ints (m := m) (p := p) d hm (knownR_len ..)
 have hbr1 := fun (m : Mem) (i d : Nat) (hm : m i = some (.box 3 1 (intsT (knownR p (who + 1) (world + 2 ^ who))))) => bor_ints (m := m) (p := p) d hm (knownR_len ..)
 have itl : (intsT (knownR p who world)).length = p := by simp [hkl]
 have al1 : allC (intsT (knownR p who world)) := intsT_allC _
 rw [e0]
 obtain ⟨c0,hc0⟩ : ∃ c0,intsT (knownR p who world) = c0 := ⟨_,rfl⟩
 obtain ⟨c1,hc1⟩ : ∃ c1,intsT (knownR p (who + 1) world) = c1 := ⟨_,rfl⟩
 obtain ⟨c2,hc2⟩ : ∃ c2,intsT (knownR p (who + 1) (world + 2 ^ who)) = c2 := ⟨_,rfl⟩
 obtain ⟨K1,hK1⟩ : ∃ K1,numsV (knownR p (who + 1) world) = K1 := ⟨_,rfl⟩
 obtain ⟨K2,hK2⟩ : ∃ K2,numsV (knownR p (who + 1) (world + 2 ^ who)) = K2 := ⟨_,rfl⟩
 obtain ⟨K,hK⟩ : ∃ K,(knownR p who world).map (V.int .i64) = K := ⟨_,rfl⟩
 rw [hc0] at hmt st0 st1 itl al1
 rw [hc1] at st0
 rw [hc2] at st1
 simp only [hc1,hK1] at hbr0
 simp only [hc2,hK2] at hbr1
 rw [hK1] at ia
 rw [hK2] at ib
 rw [hK] at hkl2 hkg2 hmt hzK ⊢
 have hbrA : ∀ (m : Mem) (i : Nat),m i = some (.box 3 1 c1) → bor true m 4 (.sv i 0 p) = some K1 := fun m i hm => hbr0 m i 3 hm
 have hbrB : ∀ (m : Mem) (i : Nat),m i = some (.box 3 1 c2) → bor true m 4 (.sv i 0 p) = some K2 := fun m i hm => hbr1 m i 3 hm
 have hwK : who < K.length := by omega
 have hkgK : K[who] = .int .i64 (-1) := by rw [List.getElem?_eq_getElem hwK] at hkg2; exact Option.some.inj hkg2
 have hwi : (who : Int) < p := by omega
 have o1 : who + 1 ≤ p := hkp
 have b3 : p * 8 ≤ 140737488355328 := by omega
 clear hbr0 hbr1 hc0 hc1 hc2 hK1 hK2 hK hno hyes hkg hkl e0 hmv
 refine FZ (rs := [.tmp 12,.tmp 13]) true Tryz.func157 ?_
 simp -dsimp [z1,hN,hNi,hgv,hcell,w1]
 refine cl hin ?_
 simp -dsimp [z2,hwi,hkl2,hkgK,hwK,hkp]
 refine twp_loopC (Ick p l t F rv (.sl K) N who TA TB sa sb 0) (fun s => 2 - natOf (s.tm 16)) (Ick p l t F rv (.sl K) N who TA TB sa sb 1) ?_ ?_ ?_
 ·exact ⟨0,by simp -dsimp,by simp -dsimp,by simp -dsimp,by simp -dsimp,by simp -dsimp,by simp -dsimp,by simp -dsimp,by simp -dsimp,by simp -dsimp,by simp -dsimp,by simp -dsimp,by omega,by simp -dsimp,by simp -dsimp,by simp⟩
 ·rintro s ⟨j,t0,t1,t2,t4,t5,t9,t14,t15,t16,m0,m1,hj,hmu,hn,hend⟩
  have f0 := far (show 0 < s.n by omega)
  have f1 := far (show 1 < s.n by omega)
  by_cases hj2 : j = 2
  ·simp -dsimp [t16,hj2]
   exact ⟨2,by simp -dsimp [t0],by simp -dsimp [t1],by simp -dsimp [t2],by simp -dsimp [t4],by simp -dsimp [t5],by simp -dsimp [t9],by simp -dsimp [t14],by simp -dsimp [t15,hj2],by simp -dsimp [t16,hj2],by simp -dsimp [m0],by simp -dsimp [m1],by omega,by simp -dsimp [hmu],by simp -dsimp [hn],fun _ => rfl⟩
  by_cases hj0 : j = 0
  ·subst hj0
   have t15 : s.tm 15 = .v (.int .i64 1) := by rw [t15]; rfl
   have wq : IntKind.wrap .i64 (1 + (sa : Int)) = ((1 + sa : Nat) : Int) := by rw [w64 (by omega) (by omega)]; omega
   have fin : ∀ s' : S,s'.tm 0 = .v (.int .i64 p) → s'.tm 1 = .v (storyV l) → s'.tm 2 = .v (marksV t) → s'.tm 4 = .v (.int .i64 N) → s'.tm 5 = .v (.sl K) → s'.tm 9 = .ptr 0 0 → s'.tm 14 = .ptr 1 0 → s'.tm 15 = .v (.int .i64 ((1 + sa : Nat) : Int)) → s'.tm 16 = .v (.int .i64 1) → s'.m 0 = some (.box 89 2 [.v (.int .i64 F),.v (.sl rv)]) → s'.m 1 = some (.box 153 3 [.v (.int .i64 who),.v (.int .i64 TA),.v (.int .i64 TB)]) → s'.mu = true → 2 ≤ s'.n → Ick p l t F rv (.sl K) N who TA TB sa sb 0 s' :=
    fun s' a0 a1 a2 a4 a5 a9 a14 a15 a16 am0 am1 amu an => ⟨1,a0,a1,a2,a4,a5,a9,a14,by rw [a15]; simp,a16,am0,am1,by omega,amu,an,by simp⟩
   rcases hTA with hTA | ⟨hT1,hT2⟩
   ·have zt : ¬ (0 : Int) ≤ TA := by omega
    simp -dsimp [t0,t1,t2,t4,t5,t9,t14,t15,t16,m0,m1,f0,f1,hmu,hzK,hmt,hkl2,itl,al1,b3,hkp,hwi,o1,z2,setAt,nes,zt,st0]
    refine callM_ ia (by simp -dsimp [t0,t1,t2,t4,t5,t9,t14,t15,t16,m0,m1,f0,f1,hmu,hzK,hmt,hkl2,itl,al1,b3,hkp,hwi,o1,z2,setAt,nes,hbrA]) rfl ?_
    simp -dsimp [t0,t1,t2,t4,t5,t9,t14,t15,t16,m0,m1,f0,f1,hmu,hzK,hmt,hkl2,itl,al1,b3,hkp,hwi,o1,z2,setAt,nes,zt,st0,wq,show IntKind.wrap .i64 1 = 1 from rfl,show IntKind.wrap .i64 2 = 2 from rfl]
    refine st_out (I := Ick p l t F rv (.sl K) N who TA TB sa sb 0) fun s' ht hm' hn' hu' => ?_
    have a0 := ht 0
    have a1 := ht 1
    have a2 := ht 2
    have a4 := ht 4
    have a5 := ht 5
    have a9 := ht 9
    have a14 := ht 14
    have a15 := ht 15
    have a16 := ht 16
    simp -dsimp [t0,t1,t2,t4,t5,t9,t14,wq,show IntKind.wrap .i64 1 = 1 from rfl,show IntKind.wrap .i64 2 = 2 from rfl] at a0 a1 a2 a4 a5 a9 a14 a15 a16 hm' hn' hu'
    clear ht
    exact fin s' a0 a1 a2 a4 a5 a9 a14 (by rw [a15]; first | rfl | simp) (by rw [a16]) (by rw [hm']; simp [f0,m0,show ¬ s.n = 0 by omega]) (by rw [hm']; simp [f1,m1,show ¬ s.n = 1 by omega,show ¬ s.n = 0 by omega]) (by rw [hu',hmu]) (by omega)
   ·have zt : (0 : Int) ≤ TA := by omega
    have zu : ¬ TA ≤ N := by omega
    have zv : ¬ (rv.length : Int) ≤ TA := by omega
    simp -dsimp [t0,t1,t2,t4,t5,t9,t14,t15,t16,m0,m1,f0,f1,hmu,hzK,hmt,hkl2,itl,al1,b3,hkp,hwi,o1,z2,setAt,nes,zt,zu,zv,st0]
    refine callM_ ia (by simp -dsimp [t0,t1,t2,t4,t5,t9,t14,t15,t16,m0,m1,f0,f1,hmu,hzK,hmt,hkl2,itl,al1,b3,hkp,hwi,o1,z2,setAt,nes,hbrA]) rfl ?_
    simp -dsimp [t0,t1,t2,t4,t5,t9,t14,t15,t16,m0,m1,f0,f1,hmu,hzK,hmt,hkl2,itl,al1,b3,hkp,hwi,o1,z2,setAt,nes,zt,zu,zv,st0,wq,show IntKind.wrap .i64 1 = 1 from rfl,show IntKind.wrap .i64 2 = 2 from rfl]
    refine st_out (I := Ick p l t F rv (.sl K) N who TA TB sa sb 0) fun s' ht hm' hn' hu' => ?_
    have a0 := ht 0
    have a1 := ht 1
    have a2 := ht 2
    have a4 := ht 4
    have a5 := ht 5
    have a9 := ht 9
    have a14 := ht 14
    have a15 := ht 15
    have a16 := ht 16
    simp -dsimp [t0,t1,t2,t4,t5,t9,t14,wq,show IntKind.wrap .i64 1 = 1 from rfl,show IntKind.wrap .i64 2 = 2 from rfl] at a0 a1 a2 a4 a5 a9 a14 a15 a16 hm' hn' hu'
    clear ht
    exact fin s' a0 a1 a2 a4 a5 a9 a14 (by rw [a15]; first | rfl | simp) (by rw [a16]) (by rw [hm']; simp [f0,m0,show ¬ s.n = 0 by omega]) (by rw [hm']; simp [f1,m1,show ¬ s.n = 1 by omega,show ¬ s.n = 0 by omega]) (by rw [hu',hmu]) (by omega)
  ·have hj1 : j = 1 := by omega
   subst hj1
   have t15 : s.tm 15 = .v (.int .i64 ((1 + sa : Nat) : Int)) := by rw [t15]; rfl
   have wq : IntKind.wrap .i64 (1 + (sa : Int) + (sb : Int)) = ((1 + sa + sb : Nat) : Int) := by rw [w64 (by omega) (by omega)]; omega
   have fin : ∀ s' : S,s'.tm 0 = .v (.int .i64 p) → s'.tm 1 = .v (storyV l) → s'.tm 2 = .v (marksV t) → s'.tm 4 = .v (.int .i64 N) → s'.tm 5 = .v (.sl K) → s'.tm 9 = .ptr 0 0 → s'.tm 14 = .ptr 1 0 → s'.tm 15 = .v (.int .i64 ((1 + sa + sb : Nat) : Int)) → s'.tm 16 = .v (.int .i64 2) → s'.m 0 = some (.box 89 2 [.v (.int .i64 F),.v (.sl rv)]) → s'.m 1 = some (.box 153 3 [.v (.int .i64 who),.v (.int .i64 TA),.v (.int .i64 TB)]) → s'.mu = true → 2 ≤ s'.n → Ick p l t F rv (.sl K) N who TA TB sa sb 0 s' :=
    fun s' a0 a1 a2 a4 a5 a9 a14 a15 a16 am0 am1 amu an => ⟨2,a0,a1,a2,a4,a5,a9,a14,by rw [a15]; simp,a16,am0,am1,by omega,amu,an,by simp⟩
   rcases hTB with hTB | ⟨hT1,hT2⟩
   ·have zt : ¬ (0 : Int) ≤ TB := by omega
    simp -dsimp [t0,t1,t2,t4,t5,t9,t14,t15,t16,m0,m1,f0,f1,hmu,hzK,hmt,hkl2,itl,al1,b3,hkp,hwi,o1,z2,setAt,nes,zt,st1]
    refine callM_ ib (by simp -dsimp [t0,t1,t2,t4,t5,t9,t14,t15,t16,m0,m1,f0,f1,hmu,hzK,hmt,hkl2,itl,al1,b3,hkp,hwi,o1,z2,setAt,nes,hbrB]) rfl ?_
    simp -dsimp [t0,t1,t2,t4,t5,t9,t14,t15,t16,m0,m1,f0,f1,hmu,hzK,hmt,hkl2,itl,al1,b3,hkp,hwi,o1,z2,setAt,nes,zt,st1,wq,show IntKind.wrap .i64 1 = 1 from rfl,show IntKind.wrap .i64 2 = 2 from rfl]
    refine st_out (I := Ick p l t F rv (.sl K) N who TA TB sa sb 0) fun s' ht hm' hn' hu' => ?_
    have a0 := ht 0
    have a1 := ht 1
    have a2 := ht 2
    have a4 := ht 4
    have a5 := ht 5
    have a9 := ht 9
    have a14 := ht 14
    have a15 := ht 15
    have a16 := ht 16
    simp -dsimp [t0,t1,t2,t4,t5,t9,t14,wq,show IntKind.wrap .i64 1 = 1 from rfl,show IntKind.wrap .i64 2 = 2 from rfl] at a0 a1 a2 a4 a5 a9 a14 a15 a16 hm' hn' hu'
    clear ht
    exact fin s' a0 a1 a2 a4 a5 a9 a14 (by rw [a15]; first | rfl | simp) (by rw [a16]) (by rw [hm']; simp [f0,m0,show ¬ s.n = 0 by omega]) (by rw [hm']; simp [f1,m1,show ¬ s.n = 1 by omega,show ¬ s.n = 0 by omega]) (by rw [hu',hmu]) (by omega)
   ·have zt : (0 : Int) ≤ TB := by omega
    have zu : ¬ TB ≤ N := by omega
    have zv : ¬ (rv.length : Int) ≤ TB := by omega
    simp -dsimp [t0,t1,t2,t4,t5,t9,t14,t15,t16,m0,m1,f0,f1,hmu,hzK,hmt,hkl2,itl,al1,b3,hkp,hwi,o1,z2,setAt,nes,zt,zu,zv,st1]
    refine callM_ ib (by simp -dsimp [t0,t1,t2,t4,t5,t9,t14,t15,t16,m0,m1,f0,f1,hmu,hzK,hmt,hkl2,itl,al1,b3,hkp,hwi,o1,z2,setAt,nes,hbrB]) rfl ?_
    simp -dsimp [t0,t1,t2,t4,t5,t9,t14,t15,t16,m0,m1,f0,f1,hmu,hzK,hmt,hkl2,itl,al1,b3,hkp,hwi,o1,z2,setAt,nes,zt,zu,zv,st1,wq,show IntKind.wrap .i64 1 = 1 from rfl,show IntKind.wrap .i64 2 = 2 from rfl]
    refine st_out (I := Ick p l t F rv (.sl K) N who TA TB sa sb 0) fun s' ht hm' hn' hu' => ?_
    have a0 := ht 0
    have a1 := ht 1
    have a2 := ht 2
    have a4 := ht 4
    have a5 := ht 5
    have a9 := ht 9
    have a14 := ht 14
    have a15 := ht 15
    have a16 := ht 16
    simp -dsimp [t0,t1,t2,t4,t5,t9,t14,wq,show IntKind.wrap .i64 1 = 1 from rfl,show IntKind.wrap .i64 2 = 2 from rfl] at a0 a1 a2 a4 a5 a9 a14 a15 a16 hm' hn' hu'
    clear ht
    exact fin s' a0 a1 a2 a4 a5 a9 a14 (by rw [a15]; first | rfl | simp) (by rw [a16]) (by rw [hm']; simp [f0,m0,show ¬ s.n = 0 by omega]) (by rw [hm']; simp [f1,m1,show ¬ s.n = 1 by omega,show ¬ s.n = 0 by omega]) (by rw [hu',hmu]) (by omega)
 ·rintro s ⟨j,t0,t1,t2,t4,t5,t9,t14,t15,t16,m0,m1,hj,hmu,hn,hend⟩
  have := hend rfl
  subst this
  have t15 : s.tm 15 = .v (.int .i64 ((1 + sa + sb : Nat) : Int)) := by rw [t15]; rfl
  simp -dsimp [t15]
theorem checks_fn (p : Nat) (l : List Claim) (t : List Mark) (h : storyOk p l = true) (ht : termOk p t = true) (F : Int) (R : List Sp) (hR15 : R.length ≤ 1000) : ∀ (y : PT) (k world : Nat) (pre post : List Sp),okT p l t y k world → k ≤ p → world < 2 ^ k → R = pre ++ y.row pre.length ++ post →
  FnZ Tryz.prog 157 [.int .i64 p,storyV l,marksV t,.agg [.int .i64 F,spsV R],.int .i64 (y.to pre.length),numsV (knownR p k world)] (.tup [.int .i64 (y.size : Nat),.bool true])
 | .goal,k,world,pre,post,hy,hk,hw,hR => by
  have h6 := (allOk_of h).2.2.2
  have hcl := closesG_fn p l t h ht k world hk hw
  rw [show closG p t k world = true from hy] at hcl
  have e1 : PT.goal.to pre.length = -1 := rfl
  have e2 : PT.goal.size = 0 := rfl
  have w1 : IntKind.wrap .i64 (-2 - (l.length : Int)) = -2 - (l.length : Int) := w64 (by omega) (by omega)
  have c1 : -2 - (l.length : Int) ≤ -1 := by omega
  rw [e1,e2]
  obtain ⟨K,hK⟩ : ∃ K,(knownR p k world).map (V.int .i64) = K := ⟨_,rfl⟩
  obtain ⟨rv,hrv⟩ : ∃ rv,R.map Sp.v = rv := ⟨_,rfl⟩
  simp only [numsV,spsV,hK,hrv] at hcl ⊢
  refine FZ (rs := [.tmp 12,.tmp 13]) true Tryz.func157 ?_
  simp -dsimp [w1,c1]
  refine cl hcl ?_
  simp -dsimp
 | .claim i,k,world,pre,post,hy,hk,hw,hR => by
  have h6 := (allOk_of h).2.2.2
  have hi := hy.1
  have hcl := closesC_fn p l t h k world hk hw i hi
  rw [hy.2] at hcl
  have e1 : (PT.claim i).to pre.length = -2 - (i : Int) := rfl
  have e2 : (PT.claim i).size = 0 := rfl
  have w1 : IntKind.wrap .i64 (-2 - (l.length : Int)) = -2 - (l.length : Int) := w64 (by omega) (by omega)
  have c1 : -2 - (l.length : Int) ≤ -2 - (i : Int) := by omega
  have c2 : -2 - (i : Int) < 0 := by omega
  rw [e1,e2]
  obtain ⟨K,hK⟩ : ∃ K,(knownR p k world).map (V.int .i64) = K := ⟨_,rfl⟩
  obtain ⟨rv,hrv⟩ : ∃ rv,R.map Sp.v = rv := ⟨_,rfl⟩
  simp only [numsV,spsV,hK,hrv] at hcl ⊢
  obtain ⟨X,hX⟩ : ∃ X, -2 - (i : Int) = X := ⟨_,rfl⟩
  obtain ⟨Y,hY⟩ : ∃ Y, -2 - (l.length : Int) = Y := ⟨_,rfl⟩
  have w2 := w1.trans hY
  rw [hX] at hcl c1 c2 ⊢
  rw [hY] at c1
  refine FZ (rs := [.tmp 12,.tmp 13]) true Tryz.func157 ?_
  simp -dsimp [w2,c1,c2]
  refine cl hcl ?_
  simp -dsimp
 | .split who a b,k,world,pre,post,hy,hk,hw,hR => by
  obtain ⟨hwho,hkp,ha,hb⟩ := hy
  subst hwho
  have hlen : R.length = pre.length + (1 + a.size + b.size) + post.length := by rw [hR]; simp [PT.row_len,PT.size]; omega
  have e3 : (pre ++ [(⟨who,a.to (pre.length + 1),b.to (pre.length + 1 + a.size)⟩ : Sp)]).length = pre.length + 1 := by simp
  have e4 : (pre ++ [(⟨who,a.to (pre.length + 1),b.to (pre.length + 1 + a.size)⟩ : Sp)] ++ a.row (pre.length + 1)).length = pre.length + 1 + a.size := by rw [List.length_append,e3,PT.row_len]
  have ia := checks_fn p l t h ht F R hR15 a (who + 1) world (pre ++ [⟨who,a.to (pre.length + 1),b.to (pre.length + 1 + a.size)⟩]) (b.row (pre.length + 1 + a.size) ++ post) ha (by omega) (by rw [Nat.pow_succ]; omega) (by rw [hR]; simp [PT.row,List.append_assoc])
  have ib := checks_fn p l t h ht F R hR15 b (who + 1) (world + 2 ^ who) (pre ++ [⟨who,a.to (pre.length + 1),b.to (pre.length + 1 + a.size)⟩] ++ a.row (pre.length + 1)) post hb (by omega) (by rw [Nat.pow_succ]; omega) (by rw [hR]; simp [PT.row,PT.row_len,List.append_assoc]; congr 1; omega)
  rw [e3] at ia
  rw [e4] at ib
  have hget : (R.map Sp.v)[pre.length]? = some (Sp.v ⟨who,a.to (pre.length + 1),b.to (pre.length + 1 + a.size)⟩) := by
   rw [hR]; simp [PT.row,Sp.v]
  have hta := to_range a (pre.length + 1)
  have htb := to_range b (pre.length + 1 + a.size)
  have hml : (R.map Sp.v).length = R.length := by simp
  exact checks_split p l t h F (R.map Sp.v) who pre.length a.size b.size world _ _ hkp hw (by omega) (by omega) (by omega) hget (by rw [hml]; omega) (by rw [hml]; omega) ia ib
theorem proofOkS_fn (p : Nat) (l : List Claim) (t : List Mark) (h : storyOk p l = true) (ht : termOk p t = true) (y : PT) (hy : okT p l t y 0 0) (hs : y.size ≤ 15) : FnZ Tryz.prog 112 [.int .i64 p,storyV l,marksV t,proofV (some y)] (.bool true) := by
 obtain ⟨h1,h4,hc,h6⟩ := allOk_of h
 have hok := storyOkS_fn p l (by omega) fun c hx => (claim_fine (hc c hx)).1
 rw [h] at hok
 have hto := termOkS_fn p t (termOk_fits ht) (by have := (termOk_facts ht).2.2.1; omega)
 rw [ht] at hto
 have hrl := y.row_len 0
 have hno := l11Nothing_fn p (by omega)
 have hck := checks_fn p l t h ht (y.to 0) (y.row 0) (by omega) y 0 0 [] [] hy (by omega) (by simp) (by simp)
 rw [knownR_zero] at hck
 have hon := l11Once_fn (y.to 0) (y.row 0) (by omega) (onceT_row y 0) (tgs_fit y)
 have htr := to_range y 0
 have hz := to_zero y
 have hpv : proofV (some y) = .agg [.int .i64 (y.to 0),.sl ((y.row 0).map Sp.v)] := rfl
 have hml : ((y.row 0).map Sp.v).length = y.size := by rw [List.length_map,hrl]
 rw [hpv]
 obtain ⟨F,hF⟩ : ∃ F,y.to 0 = F := ⟨_,rfl⟩
 obtain ⟨rv,hrv⟩ : ∃ rv,(y.row 0).map Sp.v = rv := ⟨_,rfl⟩
 obtain ⟨K,hK⟩ : ∃ K,(List.replicate p (-1 : Int)).map (V.int .i64) = K := ⟨_,rfl⟩
 simp only [List.length_nil,spsV,numsV,hF,hrv,hK] at hck hon hno htr hz hml ⊢
 have b0 : ¬ (15 : Int) < rv.length := by omega
 have b3 : ¬ 15 < rv.length := by omega
 have b1 : ¬ (0 : Int) < F := by omega
 rcases hz with hz | hz
 ·have c0 : ¬ F = 0 ∨ F = 0 := by omega
  have c1 : rv.length = 0 := by omega
  have c2 : ¬ F = 0 := by omega
  have c3 : rv = [] := List.length_eq_zero_iff.1 c1
  have c4 : (y.size : Int) = rv.length := by omega
  refine FZ (rs := [.tmp 8]) false Tryz.func112 ?_
  simp -dsimp
  refine cl hok ?_
  simp -dsimp
  refine cl hto ?_
  simp -dsimp [b0,b3,b1,c2]
  refine twd (List.range 14) [0] (List.replicate 14 [0]) (List.replicate 14 [0]) ?_
  simp -dsimp [List.range_succ]
  refine cl hno ?_
  simp -dsimp [List.range_succ]
  refine cl hck ?_
  simp -dsimp [List.range_succ,c4]
  refine cl hon ?_
  simp -dsimp
 ·have c4 : (y.size : Int) = rv.length := by omega
  by_cases c1 : rv.length = 0
  ·exfalso
   rcases htr with h | ⟨h,h2⟩
   ·omega
   ·omega
  subst hz
  have c2 : ¬ (rv.length : Int) = 0 := by omega
  have c3 : ¬ rv = [] := fun h => c1 (by rw [h]; rfl)
  refine FZ (rs := [.tmp 8]) false Tryz.func112 ?_
  simp -dsimp
  refine cl hok ?_
  simp -dsimp
  refine cl hto ?_
  simp -dsimp [b0,b3,b1,c1,c2,c3]
  refine twd (List.range 14) [0] (List.replicate 14 [0]) (List.replicate 14 [0]) ?_
  simp -dsimp [List.range_succ]
  refine cl hno ?_
  simp -dsimp [List.range_succ]
  refine cl hck ?_
  simp -dsimp [List.range_succ,c4]
  refine cl hon ?_
  simp -dsimp
theorem proofTextS_fn (p : Nat) (l : List Claim) (t : List Mark) (h : storyOk p l = true) (ht : termOk p t = true) (y : PT) (hy : okT p l t y 0 0) (hs : y.size ≤ 15) : FnZ Tryz.prog 60 [.int .i64 p,storyV l,marksV t,proofV (some y)] (.str y.tx) := by
 obtain ⟨h1,h4,hc,h6⟩ := allOk_of h
 have hpo := proofOkS_fn p l t h ht y hy hs
 have hct := l11Text_fn p l t (by omega) h6 y 0 0 [] [] (y.to 0) (y.row 0) hy hs (by simp; omega) (by simp)
 simp only [List.length_nil] at hct
 have hpv : proofV (some y) = .agg [.int .i64 (y.to 0),spsV (y.row 0)] := rfl
 rw [hpv] at hpo ⊢
 obtain ⟨F,hF⟩ : ∃ F,y.to 0 = F := ⟨_,rfl⟩
 obtain ⟨W,hW⟩ : ∃ W,spsV (y.row 0) = W := ⟨_,rfl⟩
 have hWs : ∃ xs,W = .sl xs := ⟨_,hW.symm⟩
 obtain ⟨xs,rfl⟩ := hWs
 rw [hF,hW] at hpo hct ⊢
 refine FZ (rs := [.tmp 8]) false Tryz.func60 ?_
 simp -dsimp
 refine cl hpo ?_
 simp -dsimp
 refine cl hct ?_
 simp -dsimp
end TL

namespace TL
open Go Go.Proofs
attribute [local simp] marksV storyV codeV Claim.v Place.v
theorem findProofS_fn (p : Nat) (l : List Claim) (t : List Mark) (h : storyOk p l = true) (ht : termOk p t = true) : FnZ Tryz.prog 59 [.int .i64 p,storyV l,marksV t] (.tup [proofV (findT p l t p 0),.bool (findT p l t p 0).isSome]) := by
 obtain ⟨h1,h4,hc,h6⟩ := allOk_of h
 have hok := storyOkS_fn p l (by omega) fun c hx => (claim_fine (hc c hx)).1
 rw [h] at hok
 have hto := termOkS_fn p t (termOk_fits ht) (by have := (termOk_facts ht).2.2.1; omega)
 rw [ht] at hto
 have hN := pow_small (p := p) (by omega)
 have hno := fun m n => l11Nothing_own p (by omega) m n
 have hgr := fun kid sid m n => grow_s p l t h ht p 0 0 [] kid sid m n (by omega) (by simp) (by simp; omega)
 have hsp := growR_spec p l t p 0 []
 have hk0 := knownR_zero p 0
 obtain ⟨G,hG⟩ : ∃ G,growR p l t p 0 [] = G := ⟨_,rfl⟩
 rw [hG] at hgr hsp
 obtain ⟨o,ho⟩ : ∃ o,findT p l t p 0 = o := ⟨_,rfl⟩
 rw [ho] at hsp ⊢
 obtain ⟨G1,G2,G3⟩ := G
 simp only [List.length_nil,Nat.add_zero] at hgr
 have hpv : proofV o = (if o.isSome = true then .agg [.int .i64 G2,spsV G1] else .agg [.int .i64 0,.sl []]) ∧ G3 = o.isSome := by
  cases o with
  | none => simp only at hsp; exact ⟨rfl,hsp⟩
  | some y =>
   simp only [List.nil_append,List.length_nil,Prod.mk.injEq] at hsp
   obtain ⟨e1,e2,e3⟩ := hsp
   exact ⟨by rw [e1,e2]; rfl,e3⟩
 obtain ⟨hpv,hg3⟩ := hpv
 obtain ⟨b,hb⟩ : ∃ b,o.isSome = b := ⟨_,rfl⟩
 rw [hb] at hpv hg3 ⊢
 subst hg3
 obtain ⟨PV,hPV⟩ : ∃ PV,proofV o = PV := ⟨_,rfl⟩
 rw [hPV] at hpv ⊢
 have hspb := fun (m : Mem) (id : Nat) (hm : m id = some (.box 153 3 (spT G1))) (d : Nat) => sp_bor hm rfl d
 clear ho hsp hb hPV hG
 refine FZ (rs := [.cell 6 89,.tmp 7]) true Tryz.func59 ?_
 simp -dsimp
 refine cl hok ?_
 simp -dsimp
 refine cl hto ?_
 simp -dsimp
 refine callS_ (hno _ _) ?_
 rintro t1 m1 n1 ⟨kid,rfl,k1,k2,km,kout⟩
 rw [← hk0] at km
 have kf := far k2
 have q0 := kout 0 (by omega)
 simp -dsimp at q0
 simp -dsimp [kf]
 refine callS_ (hgr _ _ _ _ ?_) ?_
 ·refine ⟨?_, ?_, ?_, ?_⟩
  ·omega
  ·omega
  ·simp -dsimp [kf,km]
  ·simp -dsimp [spT]
 rintro t2 m2 n2 ⟨id2,rfl,hn2,hout2,hm2,hid2,hid2b⟩
 simp only at hm2
 have q1 : m2 0 = some (.box 89 2 [.v (.int .i64 0),.nil]) := by rw [hout2 0 (by omega)]; simp -dsimp [kf,q0,show ¬ 0 = n1 by omega]
 have hid0 : ¬ id2 = 0 := by omega
 have hid0' : ¬ 0 = id2 := by omega
 cases G3 with
 | false =>
  rw [if_neg (by simp)] at hpv
  subst hpv
  simp -dsimp [q1]
 | true =>
  rw [if_pos rfl] at hpv
  subst hpv
  have hb3 := hspb (updM m2 0 (some (.box 89 2 [.v (.int .i64 G2),.sv id2 0 G1.length]))) id2 (by simp -dsimp [hid0,hm2]) 2
  simp -dsimp [q1,hid0,hid0',hb3,spsV]
end TL
