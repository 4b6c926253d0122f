/- TL: parts Fns7, Fns8, FnsT, FnsR1, FnsR2, FnsR5, FnsU, FnsW. -/
import Derived.Test.YtnimfdpinpggdabGreatDoorGc
set_option linter.unusedSimpArgs false
set_option linter.unusedVariables false
set_option maxRecDepth 100000
set_option maxHeartbeats 4000000
set_option pp.maxSteps 1500
namespace TL
open Go Go.Proofs
attribute [local simp] marksV storyV codeV Claim.v Place.v
def peopleOk (p:Int):Bool:=decide (1≤p) && decide (p≤4)
def markStep (people:Int) (parts:Nat) (m:Mark):Option Nat :=
 if m.kind=0 then (if 0≤m.num∧m.num<people then some (parts+1) else none)
 else if m.kind=1 then (if 0≤m.num∧m.num≤people+1 then some (parts+1) else none)
 else if m.kind=2 then (if m.num=0∧1≤parts then some parts else none)
 else if m.kind=3∨m.kind=4∨m.kind=5 then (if m.num=0∧2≤parts then some (parts-1) else none)
 else none
def marksRun (people:Int):Nat→List Mark→Option Nat
 | parts,[]=>some parts
 | parts,m :: ms=>(markStep people parts m).bind fun q=>marksRun people q ms
def termOk (people:Int) (t:List Mark):Bool:=peopleOk people && decide (1≤t.length) && decide (t.length≤15) && decide (marksRun people 0 t=some 1)
theorem markStep_le {people:Int} {parts q:Nat} {m:Mark} (h:markStep people parts m=some q):q≤parts+1:=by
 unfold markStep at h
 repeat' split at h
 all_goals first | (cases h; done) | (cases h; omega)
def TOI (people:Int) (t:List Mark) (a:Nat) (s:S):Prop:=∃ (i parts:Nat),s.tm 0=.v (.int .i64 people)∧s.tm 21=.v (.sl (t.map Mark.v))∧s.tm 22=.v (.int .i64 t.length)∧s.tm 23=.v (.int .i64 i)∧s.tm 5=.v (.int .i64 parts)∧i≤t.length∧parts≤i ∧
 marksRun people parts (t.drop i)=marksRun people 0 t∧(a=1→i=t.length)
theorem termOk_fn (people:Int) (t:List Mark):FnZ Tryz.prog 113 [.int .i64 people,marksV t] (.bool (termOk people t)):=by
 by_cases hp:1≤people∧people≤4
 case neg =>
  have hk:peopleOk people=false:=by simp only [peopleOk,Bool.and_eq_false_iff,decide_eq_false_iff_not]; omega
  have hr:termOk people t=false:=by simp [termOk,hk]
  rw [hr]
  refine FZ (rs:=[.tmp 4]) false Tryz.func113 ?_
  simp -dsimp
  refine call_ (peopleOk_fn people) (by simp) ?_
  rw [show (decide (1≤people) && decide (people≤4))=false from hk]
  simp -dsimp
 have hk:peopleOk people=true:=by simp [peopleOk,hp]
 by_cases hl:1≤t.length∧t.length≤15
 case neg =>
  have hr:termOk people t=false:=by
   simp only [termOk,hk,Bool.true_and,Bool.and_eq_false_iff,decide_eq_false_iff_not]; omega
  rw [hr]
  refine FZ (rs:=[.tmp 4]) false Tryz.func113 ?_
  simp -dsimp
  refine call_ (peopleOk_fn people) (by simp) ?_
  rw [show (decide (1≤people) && decide (people≤4))=true from hk]
  by_cases h0:(t.length:Int)<1
  ·simp -dsimp [h0]
  ·have h1:(15:Int)<t.length:=by omega
   simp -dsimp [h0,h1]
 have h0:¬(t.length:Int)<1:=by omega
 have h1:¬(15:Int)<t.length:=by omega
 have h1':(t.length:Int)≤15:=by omega
 have hr:termOk people t=decide (marksRun people 0 t=some 1):=by simp [termOk,hk,hl]
 rw [hr]
 refine FZ (rs:=[.tmp 4]) false Tryz.func113 ?_
 simp -dsimp
 refine call_ (peopleOk_fn people) (by simp) ?_
 rw [show (decide (1≤people) && decide (people≤4))=true from hk]
 simp -dsimp [h0,h1,h1']
 refine twp_loopC (TOI people t 0) (fun s=>t.length-natOf (s.tm 23)) (TOI people t 1) ?_ ?_ ?_
 ·exact ⟨0,0,by simp -dsimp,by simp -dsimp,by simp -dsimp,by simp -dsimp,by simp -dsimp,by simp,by simp,by simp,by simp⟩
 ·rintro s ⟨i,parts,h0,h21,h22,h23,h5,hi,hpi,hrun,hend⟩
  by_cases hlt:i<t.length
  case neg =>
   simp -dsimp [h23,h22,hlt]
   exact ⟨i,parts,by simp [h0],by simp [h21],by simp [h22],by simp [h23],by simp [h5],hi,hpi,hrun,fun _=>by omega⟩
  have hget:(t.map Mark.v)[i]? = some (.agg [.int .i64 t[i].kind,.int .i64 t[i].num]):=by simp [Mark.v,hlt]
  have hstep:=hrun
  rw [drop_cons hlt] at hstep
  simp only [marksRun] at hstep
  have wi:IntKind.wrap .i64 ((i:Int)+1)=((i+1:Nat):Int):=by rw [w64 (by omega) (by omega)]; omega
  have wp:IntKind.wrap .i64 ((parts:Int)+1)=((parts+1:Nat):Int):=by rw [w64 (by omega) (by omega)]; omega
  have wq:IntKind.wrap .i64 ((parts:Int)-1)=if 1≤parts then ((parts-1:Nat):Int) else -1:=by rw [w64 (by omega) (by omega)]; split <;> omega
  have hmu:t.length-(i+1)<t.length-i:=by omega
  by_cases k0:t[i].kind=0
  ·by_cases a0:0≤t[i].num∧t[i].num<people
   ·have hs:markStep people parts t[i]=some (parts+1):=by simp [markStep,k0,a0]
    rw [hs] at hstep
    simp -dsimp [h0,h5,h23,h22,h21,hlt,hget,wi,wp,wq,k0,show ¬t[i].num<0 by omega,show ¬people≤t[i].num by omega,hmu]
    exact ⟨i+1,parts+1,by simp -dsimp [h0],by simp -dsimp [h21],by simp -dsimp [h22],by simp -dsimp,by simp -dsimp [h5],by omega,by omega,hstep,by simp⟩
   ·have hs:markStep people parts t[i]=none:=by simp only [markStep,k0,if_neg a0,if_true]
    rw [hs] at hstep
    have hn:marksRun people 0 t=none:=hstep.symm
    by_cases a1:t[i].num<0
    ·simp -dsimp [h0,h5,h23,h22,h21,hlt,hget,wi,wp,wq,k0,a1,hn]
    ·simp -dsimp [h0,h5,h23,h22,h21,hlt,hget,wi,wp,wq,k0,a1,hn,show people≤t[i].num by omega]
  by_cases k1:t[i].kind=1
  ·have w1:IntKind.wrap .i64 (people+1)=people+1:=w64 (by omega) (by omega)
   by_cases a0:0≤t[i].num∧t[i].num≤people+1
   ·have hs:markStep people parts t[i]=some (parts+1):=by simp [markStep,k1,a0]
    rw [hs] at hstep
    simp -dsimp [h0,h5,h23,h22,h21,hlt,hget,wi,wp,wq,k1,w1,show ¬t[i].num<0 by omega,show ¬people+1<t[i].num by omega,hmu]
    exact ⟨i+1,parts+1,by simp -dsimp [h0],by simp -dsimp [h21],by simp -dsimp [h22],by simp -dsimp,by simp -dsimp [h5],by omega,by omega,hstep,by simp⟩
   ·have hs:markStep people parts t[i]=none:=by simp only [markStep,k1,if_neg a0,if_true]; simp
    rw [hs] at hstep
    have hn:marksRun people 0 t=none:=hstep.symm
    by_cases a1:t[i].num<0
    ·simp -dsimp [h0,h5,h23,h22,h21,hlt,hget,wi,wp,wq,k1,a1,hn]
    ·simp -dsimp [h0,h5,h23,h22,h21,hlt,hget,wi,wp,wq,k1,a1,hn,w1,show people+1<t[i].num by omega]
  by_cases k2:t[i].kind=2
  ·by_cases a0:t[i].num=0∧1≤parts
   ·have hs:markStep people parts t[i]=some (parts):=by simp [markStep,k2,a0]
    rw [hs] at hstep
    simp -dsimp [h0,h5,h23,h22,h21,hlt,hget,wi,wp,wq,k2,a0.1,show ¬(parts:Int)<1 by omega,show ¬parts=0 by omega,hmu]
    exact ⟨i+1,parts,by simp -dsimp [h0],by simp -dsimp [h21],by simp -dsimp [h22],by simp -dsimp,by simp -dsimp [h5],by omega,by omega,hstep,by simp⟩
   ·have hs:markStep people parts t[i]=none:=by simp only [markStep,k2,if_neg a0,if_true]; simp
    rw [hs] at hstep
    have hn:marksRun people 0 t=none:=hstep.symm
    by_cases a1:t[i].num=0
    ·simp -dsimp [h0,h5,h23,h22,h21,hlt,hget,wi,wp,wq,k2,a1,hn,show (parts:Int)<1 by omega,show parts=0 by omega]
    ·simp -dsimp [h0,h5,h23,h22,h21,hlt,hget,wi,wp,wq,k2,a1,hn]
  by_cases k3:t[i].kind=3∨t[i].kind=4∨t[i].kind=5
  ·by_cases a0:t[i].num=0∧2≤parts
   ·have hs:markStep people parts t[i]=some (parts-1):=by simp [markStep,k0,k1,k2,k3,a0]
    rw [hs] at hstep
    have e1:¬(parts:Int)<2:=by omega
    have e2:1≤parts:=by omega
    rcases k3 with k3 | k3 | k3
    all_goals
     simp -dsimp [h0,h5,h23,h22,h21,hlt,hget,wi,wp,wq,k3,a0.1,e1,e2,hmu]
     exact ⟨i+1,parts-1,by simp -dsimp [h0],by simp -dsimp [h21],by simp -dsimp [h22],by simp -dsimp,by simp -dsimp [h5],by omega,by omega,hstep,by simp⟩
   ·have hs:markStep people parts t[i]=none:=by simp only [markStep,if_neg k0,if_neg k1,if_neg k2,if_pos k3,if_neg a0]
    rw [hs] at hstep
    have hn:marksRun people 0 t=none:=hstep.symm
    by_cases a1:t[i].num=0
    ·have e1:(parts:Int)<2:=by omega
     rcases k3 with k3 | k3 | k3 <;> simp -dsimp [h0,h5,h23,h22,h21,hlt,hget,wi,wp,wq,k3,a1,hn,e1]
    ·rcases k3 with k3 | k3 | k3 <;> simp -dsimp [h0,h5,h23,h22,h21,hlt,hget,wi,wp,wq,k3,a1,hn]
  ·have hs:markStep people parts t[i]=none:=by simp only [markStep,if_neg k0,if_neg k1,if_neg k2,if_neg k3]
   rw [hs] at hstep
   have hn:marksRun people 0 t=none:=hstep.symm
   have k3':=not_or.1 k3
   have k4':=not_or.1 k3'.2
   simp -dsimp [h0,h5,h23,h22,h21,hlt,hget,wi,wp,wq,k0,k1,k2,k3'.1,k4'.1,k4'.2,hn]
 ·rintro s ⟨i,parts,h0,h21,h22,h23,h5,hi,hpi,hrun,hend⟩
  simp -dsimp [h5]
  have:=hend rfl
  subst this
  simp [marksRun] at hrun
  rw [← hrun]; simp; omega
end TL

namespace TL
open Go Go.Proofs
attribute [local simp] marksV storyV codeV Claim.v Place.v
def inR (n a b:Int):Bool:=decide (a≤n) && decide (n≤b)
theorem inR_true {n a b:Int} : inR n a b=true↔a≤n∧n≤b:=by simp [inR]
theorem inR_false {n a b:Int} : inR n a b=false↔¬(a≤n∧n≤b):=by rw [← inR_true]; cases inR n a b <;> simp
theorem l1In_fn (n a b:Int):FnZ Tryz.prog 99 [.int .i64 n,.int .i64 a,.int .i64 b] (.bool (inR n a b)):=by
 unfold inR
 refine FZ (rs:=[.tmp 6]) false Tryz.func99 ?_
 by_cases h:a≤n <;> simp -dsimp [h]
theorem termOk_eq (people:Int) (t:List Mark):termOk people t=(peopleOk people && decide (marksRun people 0 t=some 1) && decide (t.length≤15)):=by
 cases t with
 | nil=>simp [termOk,marksRun]
 | cons x xs =>
  rw [Bool.eq_iff_iff]
  simp only [termOk,Bool.and_eq_true,decide_eq_true_eq,List.length_cons]
  constructor
  ·rintro ⟨⟨⟨h1,h2⟩,h3⟩,h4⟩; exact ⟨⟨h1,h4⟩,h3⟩
  ·rintro ⟨⟨h1,h4⟩,h3⟩; exact ⟨⟨⟨h1,by omega⟩,h3⟩,h4⟩
def TOS (people:Int) (t:List Mark) (a:Nat) (s:S):Prop:=∃ (i parts:Nat),s.tm 0=.v (.int .i64 people)∧s.tm 1=.v (.sl (t.map Mark.v))∧s.tm 6=.v (.int .i64 i)∧s.tm 5=.v (.int .i64 parts)∧i≤t.length∧parts≤i ∧
 marksRun people parts (t.drop i)=marksRun people 0 t∧(a=1→i=t.length)
theorem termOkS_fn (people:Int) (t:List Mark) (hf:fits t) (hl:t.length<1000000000000):FnZ Tryz.prog 97 [.int .i64 people,marksV t] (.bool (termOk people t)):=by
 rw [termOk_eq]
 refine FZ (rs:=[.tmp 4]) false Tryz.func97 ?_
 simp -dsimp
 refine twp_loopC (TOS people t 0) (fun s=>t.length-natOf (s.tm 6)) (TOS people t 1) ?_ ?_ ?_
 ·exact ⟨0,0,by simp -dsimp,by simp -dsimp,by simp -dsimp,by simp -dsimp,by simp,by simp,by simp,by simp⟩
 ·rintro s ⟨i,parts,h0,h1,h6,h5,hi,hpi,hrun,hend⟩
  by_cases hlt:i<t.length
  case neg =>
   simp -dsimp [h1,h6,hlt]
   exact ⟨i,parts,by simp -dsimp [h0],by simp -dsimp [h1],by simp -dsimp [h6],by simp -dsimp [h5],hi,hpi,hrun,fun _=>by omega⟩
  have hget:(t.map Mark.v)[i]? = some (.agg [.int .i64 t[i].kind,.int .i64 t[i].num]):=by simp [Mark.v,hlt]
  have hv:t[i].v=.agg [.int .i64 t[i].kind,.int .i64 t[i].num]:=rfl
  have hfi:=hf t[i] (List.getElem_mem _)
  have hfa:=hfi.2
  unfold TL.fit at hfa
  have hstep:=hrun
  rw [drop_cons hlt] at hstep
  simp only [marksRun] at hstep
  have wi:IntKind.wrap .i64 ((i:Int)+1)=((i+1:Nat):Int):=by rw [w64 (by omega) (by omega)]; omega
  have wp:IntKind.wrap .i64 ((parts:Int)+1)=((parts+1:Nat):Int):=by rw [w64 (by omega) (by omega)]; omega
  have wq:2≤parts→IntKind.wrap .i64 ((parts:Int)-1)=((parts-1:Nat):Int):=fun h=>by rw [w64 (by omega) (by omega)]; omega
  have hmu:t.length-(i+1)<t.length-i:=by omega
  have bad:markStep people parts t[i]=none→marksRun people 0 t=none:=fun hs=>by rw [hs] at hstep; exact hstep.symm
  by_cases k0:t[i].kind=0
  ·by_cases a0:0≤t[i].num∧t[i].num<people
   ·have hs:markStep people parts t[i]=some (parts+1):=by simp [markStep,k0,a0]
    rw [hs] at hstep
    simp -dsimp [h0,h1,h5,h6,hlt,hget,wi,wp,k0,a0.1,a0.2,hmu]
    exact ⟨i+1,parts+1,by simp -dsimp [h0],by simp -dsimp [h1],by simp -dsimp,by simp -dsimp [h5],by omega,by omega,hstep,by simp⟩
   ·have hn:=bad (by simp only [markStep,k0,if_neg a0,if_true])
    by_cases a1:0≤t[i].num
    ·have a2:¬t[i].num<people:=by omega
     simp -dsimp [h0,h1,h5,h6,hlt,hget,wi,wp,k0,a1,a2]
     refine call_ (l1In_fn _ _ _) (by simp -dsimp <;> exact ⟨rfl,rfl,rfl⟩) ?_
     simp -dsimp [k0,hn,show inR 0 3 5=false from rfl]
    ·simp -dsimp [h0,h1,h5,h6,hlt,hget,wi,wp,k0,a1]
     refine call_ (l1In_fn _ _ _) (by simp -dsimp <;> exact ⟨rfl,rfl,rfl⟩) ?_
     simp -dsimp [k0,hn,show inR 0 3 5=false from rfl]
  by_cases k1:t[i].kind=1
  ·have w1:IntKind.wrap .i64 (t[i].num-1)=if 0≤t[i].num then t[i].num-1 else IntKind.wrap .i64 (t[i].num-1):=by
    split
    ·exact w64 (by omega) (by omega)
    ·rfl
   by_cases a0:0≤t[i].num∧t[i].num≤people+1
   ·have hs:markStep people parts t[i]=some (parts+1):=by simp [markStep,k1,a0]
    rw [hs] at hstep
    have w2:IntKind.wrap .i64 (t[i].num-1)=t[i].num-1:=w64 (by omega) (by omega)
    by_cases a1:t[i].num≤people
    ·simp -dsimp [h0,h1,h5,h6,hlt,hget,wi,wp,k1,a0.1,a1,hmu]
     exact ⟨i+1,parts+1,by simp -dsimp [h0],by simp -dsimp [h1],by simp -dsimp,by simp -dsimp [h5],by omega,by omega,hstep,by simp⟩
    ·have a2:t[i].num-1=people:=by omega
     simp -dsimp [h0,h1,h5,h6,hlt,hget,wi,wp,k1,a0.1,show ¬t[i].num≤people from a1,w2.trans a2,hmu]
     exact ⟨i+1,parts+1,by simp -dsimp [h0],by simp -dsimp [h1],by simp -dsimp,by simp -dsimp [h5],by omega,by omega,hstep,by simp⟩
   ·have hn:=bad (by simp only [markStep,k1,if_neg a0,if_true]; simp)
    by_cases a1:0≤t[i].num
    ·have a2:¬t[i].num≤people:=by omega
     have a3:¬t[i].num-1=people:=by omega
     have w2:IntKind.wrap .i64 (t[i].num-1)=t[i].num-1:=w64 (by omega) (by omega)
     simp -dsimp [h0,h1,h5,h6,hlt,hget,wi,wp,k1,a1,a2,w2,a3]
     refine call_ (l1In_fn _ _ _) (by simp -dsimp <;> exact ⟨rfl,rfl,rfl⟩) ?_
     simp -dsimp [k1,hn,show inR 1 3 5=false from rfl]
    ·simp -dsimp [h0,h1,h5,h6,hlt,hget,wi,wp,k1,a1]
     refine call_ (l1In_fn _ _ _) (by simp -dsimp <;> exact ⟨rfl,rfl,rfl⟩) ?_
     simp -dsimp [k1,hn,show inR 1 3 5=false from rfl]
  by_cases k2:t[i].kind=2
  ·by_cases a0:t[i].num=0∧1≤parts
   ·have hs:markStep people parts t[i]=some parts:=by simp [markStep,k2,a0]
    rw [hs] at hstep
    have e1:(1:Int)≤parts:=by omega
    simp -dsimp [h0,h1,h5,h6,hlt,hget,wi,wp,hv,k2,a0.1,e1,hmu]
    exact ⟨i+1,parts,by simp -dsimp [h0],by simp -dsimp [h1],by simp -dsimp,by simp -dsimp [h5],by omega,by omega,hstep,by simp⟩
   ·have hn:=bad (by simp only [markStep,k2,if_neg a0,if_true]; simp)
    by_cases a1:t[i].num=0
    ·have e1:¬(1:Int)≤parts:=by omega
     simp -dsimp [h0,h1,h5,h6,hlt,hget,wi,wp,hv,k2,a1,e1]
     refine call_ (l1In_fn _ _ _) (by simp -dsimp <;> exact ⟨rfl,rfl,rfl⟩) ?_
     simp -dsimp [k2,hn,show inR 2 3 5=false from rfl]
    ·simp -dsimp [h0,h1,h5,h6,hlt,hget,wi,wp,hv,k2,a1]
     refine call_ (l1In_fn _ _ _) (by simp -dsimp <;> exact ⟨rfl,rfl,rfl⟩) ?_
     simp -dsimp [k2,hn,show inR 2 3 5=false from rfl]
  have hk2:(decide (t[i].kind=2))=false:=by simp [k2]
  by_cases k3:t[i].kind=3∨t[i].kind=4∨t[i].kind=5
  ·have hin:inR t[i].kind 3 5=true:=inR_true.2 (by omega)
   by_cases a0:t[i].num=0∧2≤parts
   ·have hs:markStep people parts t[i]=some (parts-1):=by simp [markStep,k0,k1,k2,k3,a0]
    rw [hs] at hstep
    have e1:(2:Int)≤parts:=by omega
    have wq:=wq a0.2
    simp -dsimp [h0,h1,h5,h6,hlt,hget,wi,wp,hv,k0,k1,k2]
    refine call_ (l1In_fn _ _ _) (by simp -dsimp <;> exact ⟨rfl,rfl,rfl⟩) ?_
    simp -dsimp [h0,h1,h5,h6,hlt,hget,wi,wp,hin,a0.1,e1,wq,hmu]
    exact ⟨i+1,parts-1,by simp -dsimp [h0],by simp -dsimp [h1],by simp -dsimp,by simp -dsimp [h5],by omega,by omega,hstep,by simp⟩
   ·have hn:=bad (by simp only [markStep,if_neg k0,if_neg k1,if_neg k2,if_pos k3,if_neg a0])
    simp -dsimp [h0,h1,h5,h6,hlt,hget,wi,wp,hv,k0,k1,k2]
    refine call_ (l1In_fn _ _ _) (by simp -dsimp <;> exact ⟨rfl,rfl,rfl⟩) ?_
    by_cases a1:t[i].num=0
    ·have e1:¬(2:Int)≤parts:=by omega
     simp -dsimp [h0,h1,h5,h6,hlt,hget,wi,wp,hin,a1,e1,hn]
    ·simp -dsimp [h0,h1,h5,h6,hlt,hget,wi,wp,hin,a1,hn]
  ·have hn:=bad (by simp only [markStep,if_neg k0,if_neg k1,if_neg k2,if_neg k3])
   have hin:inR t[i].kind 3 5=false:=inR_false.2 (by omega)
   simp -dsimp [h0,h1,h5,h6,hlt,hget,wi,wp,hv,k0,k1,k2]
   refine call_ (l1In_fn _ _ _) (by simp -dsimp <;> exact ⟨rfl,rfl,rfl⟩) ?_
   simp -dsimp [hin,hn]
 ·rintro s ⟨i,parts,h0,h1,h6,h5,hi,hpi,hrun,hend⟩
  have:=hend rfl
  subst this
  simp [marksRun] at hrun
  simp -dsimp [h0]
  refine call_ (l1In_fn _ _ _) (by simp -dsimp <;> exact ⟨rfl,rfl,rfl⟩) ?_
  have hpk:inR people 1 4=peopleOk people:=rfl
  have hk:=ft (peopleOk people)
  rcases hk with hk | hk
  ·simp -dsimp [hpk,hk,← hrun]
  ·by_cases e1:parts=1
   ·have e2:(parts:Int)=1:=by omega
    simp -dsimp [h1,h5,e1,hpk,hk,← hrun]; omega
   ·have e2:¬(parts:Int)=1:=by omega
    simp -dsimp [h1,h5,e1,e2,hpk,hk,← hrun]
end TL

namespace TL
open Go Go.Proofs
attribute [local simp] marksV storyV codeV Claim.v Place.v
inductive Tm where
 | tells (i:Nat) | count (n:Nat) | not (a:Tm) | bin (k:Nat) (a b:Tm)
def Tm.marks:Tm→List Mark
 | .tells i=>[⟨0,i⟩]
 | .count n=>[⟨1,n⟩]
 | .not a=>a.marks++[⟨2,0⟩]
 | .bin k a b=>a.marks++b.marks++[⟨3+k,0⟩]
def Tm.kind:Tm→Nat
 | .tells _=>0
 | .count _=>1
 | .not _=>2
 | .bin k _ _=>3+k
def Tm.ok:Tm→Prop
 | .tells i=>i<4
 | .count n=>n<6
 | .not a=>a.ok
 | .bin k a b=>k<3∧a.ok∧b.ok
def par (b:Bool) (s:List UInt8):List UInt8:=if b then 40 :: (s++[41]) else s
def sign (k:Nat):UInt8:=if k=0 then 38 else if k=1 then 124 else 61
def Tm.text:Tm→List UInt8
 | .tells i=>[UInt8.ofNat (97+i)]
 | .count n=>[UInt8.ofNat (48+n)]
 | .not a=>33 :: par (decide (3≤a.kind)) a.text
 | .bin k a b=>par (decide (3+k<a.kind)) a.text++sign k :: par (decide (3+k≤b.kind)) b.text
theorem par_len (b:Bool) (s:List UInt8):(par b s).length≤s.length+2:=by unfold par; split <;> simp
theorem Tm.marks_pos:∀ T:Tm,1≤T.marks.length
 | .tells _=>by simp [marks]
 | .count _=>by simp [marks]
 | .not a=>by simp [marks]
 | .bin k a b=>by simp [marks]; omega
theorem Tm.text_len:∀ T:Tm,T.text.length≤6 * T.marks.length
 | .tells _=>by simp [text,marks]
 | .count _=>by simp [text,marks]
 | .not a=>by
  have:=a.text_len; have:=par_len (decide (3≤a.kind)) a.text
  simp [text,marks] at *; omega
 | .bin k a b=>by
  have:=a.text_len; have:=b.text_len; have:=par_len (decide (3+k<a.kind)) a.text; have:=par_len (decide (3+k≤b.kind)) b.text
  simp [text,marks] at *; omega
theorem Tm.last:∀ T:Tm,∃ pre m,T.marks=pre++[m]∧m.kind=(T.kind:Int)
 | .tells i=>⟨[],⟨0,i⟩,rfl,rfl⟩
 | .count n=>⟨[],⟨1,n⟩,rfl,rfl⟩
 | .not a=>⟨a.marks,⟨2,0⟩,rfl,rfl⟩
 | .bin k a b=>⟨a.marks++b.marks,⟨3+k,0⟩,rfl,by simp [kind]⟩
theorem Tm.kinds:∀ T:Tm,T.ok→∀ m ∈ T.marks,0≤m.kind∧m.kind≤5
 | .tells i,_,m,hm=>by simp [marks] at hm; subst hm; simp
 | .count n,_,m,hm=>by simp [marks] at hm; subst hm; simp
 | .not a,h,m,hm=>by
  simp only [marks,List.mem_append,List.mem_singleton] at hm
  rcases hm with hm | rfl
  ·exact a.kinds h m hm
  ·simp
 | .bin k a b,h,m,hm=>by
  simp only [marks,List.mem_append,List.mem_singleton] at hm
  rcases hm with (hm | hm) | rfl
  ·exact a.kinds h.2.1 m hm
  ·exact b.kinds h.2.2 m hm
  ·have:=h.1; simp; omega
/-! A row of marks that is a term is a tree. -/
def flat (st:List Tm):List Mark:=st.flatMap Tm.marks
theorem last_of {α:Type} {l:List α} {n:Nat} (h:l.length=n+1):∃ a x,l=a++[x]∧a.length=n:=by
 have hne:l ≠ []:=by rintro rfl; simp at h
 refine ⟨l.dropLast,l.getLast hne,(List.dropLast_concat_getLast hne).symm,by simp [h]⟩
theorem run_tree {people:Int} (hp:people≤4):∀ (ms:List Mark) (parts q:Nat) (st:List Tm),st.length=parts→(∀ T ∈ st,T.ok)→marksRun people parts ms=some q→∃ st':List Tm,st'.length=q∧(∀ T ∈ st',T.ok)∧flat st'=flat st++ms
 | [],parts,q,st,h1,h2,h3=>by
  simp [marksRun] at h3; exact ⟨st,by omega,h2,by simp⟩
 | m :: ms,parts,q,st,h1,h2,h3=>by
  simp only [marksRun] at h3
  cases e:markStep people parts m with
  | none=>rw [e] at h3; cases h3
  | some r =>
   rw [e] at h3
   have go:∀ st1:List Tm,st1.length=r→(∀ T ∈ st1,T.ok)→flat st1=flat st++[m]→∃ st':List Tm,st'.length=q∧(∀ T ∈ st',T.ok)∧flat st'=flat st++m :: ms:=fun st1 a b c=>by
    obtain ⟨st',x,y,z⟩:=run_tree hp ms r q st1 a b h3
    exact ⟨st',x,y,by rw [z,c]; simp⟩
   obtain ⟨k,a⟩:=m
   unfold markStep at e
   simp only at e
   split at e
   ·rename_i hk; subst hk
    split at e
    ·rename_i ha; cases e
     refine go (st++[.tells a.toNat]) (by simp; omega) ?_ ?_
     ·intro T hT; rcases List.mem_append.1 hT with hT | hT
      ·exact h2 T hT
      ·cases List.mem_singleton.1 hT; show a.toNat<4; omega
     ·have:((a.toNat:Nat):Int)=a:=by omega
      simp [flat,Tm.marks,this]
    ·cases e
   split at e
   ·rename_i hk; subst hk
    split at e
    ·rename_i ha; cases e
     refine go (st++[.count a.toNat]) (by simp; omega) ?_ ?_
     ·intro T hT; rcases List.mem_append.1 hT with hT | hT
      ·exact h2 T hT
      ·cases List.mem_singleton.1 hT; show a.toNat<6; omega
     ·have:((a.toNat:Nat):Int)=a:=by omega
      simp [flat,Tm.marks,this]
    ·cases e
   split at e
   ·rename_i hk; subst hk
    split at e
    ·rename_i ha; cases e
     obtain ⟨rfl,hp1⟩:=ha
     obtain ⟨st0,x,rfl,hx⟩:=last_of (l:=st) (n:=parts-1) (by omega)
     refine go (st0++[.not x]) (by simp at h1 ⊢; omega) ?_ ?_
     ·intro T hT; rcases List.mem_append.1 hT with hT | hT
      ·exact h2 T (List.mem_append_left _ hT)
      ·cases List.mem_singleton.1 hT; exact h2 x (by simp)
     ·simp [flat,Tm.marks]
    ·cases e
   split at e
   ·rename_i hk
    split at e
    ·rename_i ha; cases e
     obtain ⟨rfl,hp1⟩:=ha
     obtain ⟨st0,y,rfl,hy⟩:=last_of (l:=st) (n:=parts-1) (by omega)
     obtain ⟨st1,x,rfl,hx⟩:=last_of (l:=st0) (n:=parts-2) (by omega)
     refine go (st1++[.bin (k-3).toNat x y]) (by simp at h1 ⊢; omega) ?_ ?_
     ·intro T hT; rcases List.mem_append.1 hT with hT | hT
      ·exact h2 T (by simp [hT])
      ·cases List.mem_singleton.1 hT; exact ⟨by omega,h2 x (by simp),h2 y (by simp)⟩
     ·have:(3:Int)+((k-3).toNat:Nat)=k:=by omega
      simp [flat,Tm.marks]; omega
    ·cases e
   ·cases e
theorem termOk_tree {people:Int} {t:List Mark} (h:termOk people t=true):∃ T:Tm,T.ok∧T.marks=t:=by
 simp only [termOk,peopleOk,Bool.and_eq_true,decide_eq_true_eq] at h
 obtain ⟨st,h1,h2,h3⟩:=run_tree (by omega) t 0 1 [] rfl (by simp) h.2
 obtain ⟨T,rfl⟩:=List.length_eq_one_iff.1 h1
 exact ⟨T,h2 T (by simp),by simpa [flat] using h3⟩
/-! Where the last part begins. -/
def dl (m:Mark):Int:=if m.kind=0∨m.kind=1 then -1 else if m.kind=3∨m.kind=4∨m.kind=5 then 1 else 0
def dsum (l:List Mark):Int:=(l.map dl).sum
@[simp] theorem dsum_nil:dsum []=0:=rfl
@[simp] theorem dsum_cons (m:Mark) (l:List Mark):dsum (m :: l)=dl m+dsum l:=by simp [dsum]
@[simp] theorem dsum_append (a b:List Mark):dsum (a++b)=dsum a+dsum b:=by simp [dsum]
theorem dl_abs (m:Mark) : -1≤dl m∧dl m≤1:=by unfold dl; split <;> (try split) <;> omega
theorem dsum_abs:∀ l:List Mark, -(l.length:Int)≤dsum l∧dsum l≤l.length
 | []=>by simp
 | m :: l=>by have:=dsum_abs l; have:=dl_abs m; simp; omega
theorem Tm.scan:∀ T:Tm,T.ok→dsum T.marks = -1∧∀ j,1≤j→0≤dsum (T.marks.drop j)
 | .tells i,_=>⟨by simp [marks,dl],fun j hj=>by rw [List.drop_eq_nil_of_le (by simp [marks]; omega)]; simp⟩
 | .count i,_=>⟨by simp [marks,dl],fun j hj=>by rw [List.drop_eq_nil_of_le (by simp [marks]; omega)]; simp⟩
 | .not a,h=>by
  obtain ⟨h1,h2⟩:=a.scan h
  have e:dl ⟨2,0⟩=0:=by simp [dl]
  refine ⟨by simp [marks,h1,e],fun j hj => ?_⟩
  have:=h2 j hj
  have e3:0≤dsum ([(⟨2,0⟩:Mark)].drop (j-a.marks.length)):=by
   rcases Nat.eq_zero_or_pos (j-a.marks.length) with h | h
   ·rw [h]; simp [e]
   ·rw [List.drop_eq_nil_of_le (by simp; omega)]; simp
  simp only [marks,List.drop_append,dsum_append]; omega
 | .bin k a b,h=>by
  obtain ⟨h1,h2⟩:=a.scan h.2.1
  obtain ⟨h3,h4⟩:=b.scan h.2.2
  have e:dl ⟨3+k,0⟩=1:=by have:=h.1; unfold dl; rw [if_neg (by simp; omega),if_pos (by simp; omega)]
  refine ⟨by simp [marks,h1,h3,e],fun j hj => ?_⟩
  have:=h2 j hj
  simp only [marks,List.drop_append,dsum_append,List.length_append]
  rcases Nat.eq_zero_or_pos (j-a.marks.length) with h0 | h0
  ·have e4:j-(a.marks.length+b.marks.length)=0:=by omega
   rw [h0,e4]; simp [h3,e]; omega
  ·have:=h4 _ h0
   have e3:0≤dsum ([(⟨3+k,0⟩:Mark)].drop (j-(a.marks.length+b.marks.length))):=by
    rcases Nat.eq_zero_or_pos (j-(a.marks.length+b.marks.length)) with h | h
    ·rw [h]; simp [e]
    ·rw [List.drop_eq_nil_of_le (by simp; omega)]; simp
   omega
def Ilp (l:List Mark) (p:Nat) (s:S):Prop:=∃ i:Nat,s.tm 0=.v (.sl (l.map Mark.v))∧s.tm 4=.v (.int .i64 i)∧i<l.length∧p≤i∧s.tm 3=.v (.int .i64 (1+dsum (l.drop (i+1))))
theorem lastPart_fn (pre:List Mark) (T:Tm) (hok:T.ok) (hl:(pre++T.marks).length≤1048576):FnZ Tryz.prog 184 [marksV (pre++T.marks)] (.int .i64 pre.length):=by
 obtain ⟨s1,s2⟩:=T.scan hok
 have hpos:=T.marks_pos
 have d1:dsum ((pre++T.marks).drop pre.length) = -1:=by simpa using s1
 have d2:∀ i,pre.length<i→0≤dsum ((pre++T.marks).drop i):=fun i hi=>by
  rw [List.drop_append,List.drop_eq_nil_of_le (by omega),List.nil_append]; exact s2 _ (by omega)
 have hlen:pre.length<(pre++T.marks).length:=by simp; omega
 generalize pre++T.marks=l at *
 generalize pre.length=p at *
 have w1:IntKind.wrap .i64 ((l.length:Int)-1)=((l.length-1:Nat):Int):=by rw [w64 (by omega) (by omega)]; omega
 refine FZ (rs:=[.tmp 2]) false Tryz.func184 ?_
 simp -dsimp [w1]
 refine twp_loop (Ilp l p) (fun s=>natOf (s.tm 4)) ?_ ?_
 ·refine ⟨l.length-1,by simp -dsimp,by simp -dsimp,by omega,by omega, ?_⟩
  have e:l.drop (l.length-1+1)=[]:=List.drop_eq_nil_of_le (by omega)
  rw [e]; simp -dsimp
 ·rintro s ⟨i,t0,t4,hi,hpi,t3⟩
  have hget:(l.map Mark.v)[i]? = some (l[i].v):=by simp [hi]
  have hd:dsum (l.drop i)=dl l[i]+dsum (l.drop (i+1)):=by rw [drop_cons hi,dsum_cons]
  have habs:=dsum_abs (l.drop (i+1))
  rw [List.length_drop] at habs
  have hN0:=d2 (i+1) (by omega)
  generalize hN:dsum (l.drop (i+1))=N at *
  have wn:IntKind.wrap .i64 (1+N-1)=N:=by rw [w64 (by omega) (by omega)]; omega
  have wn':IntKind.wrap .i64 N=N:=w64 (by omega) (by omega)
  have wp:IntKind.wrap .i64 (1+N+1)=1+N+1:=w64 (by omega) (by omega)
  have z1:¬1+N=0:=by omega
  have z2:¬1+N+1=0:=by omega
  have again:∀ (s':S) (x:Int),0<i→x=1+dsum (l.drop i)→s'.tm 0=.v (.sl (l.map Mark.v))→s'.tm 4=.v (.int .i64 ((i-1:Nat):Int))→p≤i-1→s'.tm 3=.v (.int .i64 x)→Ilp l p s':=fun s' x h0 hx a0 a4 hp a3 =>
   ⟨i-1,a0,a4,by omega,hp,by rw [a3,hx,show i-1+1=i by omega]⟩
  have hmu:0<i→i-1<i:=fun h=>by omega
  have mins:dl l[i] = -1→(N=0→i=p)∧(¬N=0→p<i):=fun h=>by
   constructor
   ·intro h0
    by_cases hip:i=p
    ·exact hip
    ·have:=d2 i (by omega); omega
   ·intro h0
    by_cases hip:i=p
    ·subst hip; omega
    ·omega
  have plus:0≤dl l[i]→p<i:=fun h=>by
   by_cases hip:i=p
   ·subst hip; omega
   ·omega
  have wi:0<i→IntKind.wrap .i64 ((i:Int)-1)=((i-1:Nat):Int):=fun h=>by rw [w64 (by omega) (by omega)]; omega
  by_cases k01:l[i].kind=0∨l[i].kind=1
  ·have hdl:dl l[i] = -1:=by unfold dl; rw [if_pos k01]
   obtain ⟨m1,m2⟩:=mins hdl
   by_cases hz:N=0
   ·have hip:=m1 hz
    subst hip
    rcases k01 with k | k <;> simp -dsimp [t0,t3,t4,hi,hget,k,wn,wn',hz,show IntKind.wrap .i64 0=0 from rfl]
   ·have hip:=m2 hz
    have h0i:0<i:=by omega
    have wi:=wi h0i
    have hmu:=hmu h0i
    rcases k01 with k | k
    ·simp -dsimp [t0,t3,t4,hi,hget,k,wn,wn',hz,wi,hmu]
     exact again _ N h0i (by omega) (by simp -dsimp [t0]) (by simp -dsimp) (by omega) (by simp -dsimp)
    ·simp -dsimp [t0,t3,t4,hi,hget,k,wn,wn',hz,wi,hmu]
     exact again _ N h0i (by omega) (by simp -dsimp [t0]) (by simp -dsimp) (by omega) (by simp -dsimp)
  have k0:=(not_or.1 k01).1
  have k1:=(not_or.1 k01).2
  by_cases k345:l[i].kind=3∨l[i].kind=4∨l[i].kind=5
  ·have hdl:dl l[i]=1:=by unfold dl; rw [if_neg k01,if_pos k345]
   have hip:=plus (by omega)
   have h0i:0<i:=by omega
   have wi:=wi h0i
   have hmu:=hmu h0i
   rcases k345 with k | k | k
   all_goals
    simp -dsimp [t0,t3,t4,hi,hget,k,wp,z2,wi,hmu]
    exact again _ (1+N+1) h0i (by omega) (by simp -dsimp [t0]) (by simp -dsimp) (by omega) (by simp -dsimp)
  ·have hdl:dl l[i]=0:=by unfold dl; rw [if_neg k01,if_neg k345]
   have hip:=plus (by omega)
   have h0i:0<i:=by omega
   have wi:=wi h0i
   have hmu:=hmu h0i
   have k3:=(not_or.1 k345).1
   have k4:=(not_or.1 (not_or.1 k345).2).1
   have k5:=(not_or.1 (not_or.1 k345).2).2
   simp -dsimp [t0,t3,t4,hi,hget,k0,k1,k3,k4,k5,z1,wi,hmu]
   exact again _ (1+N) h0i (by omega) (by simp -dsimp [t0]) (by simp -dsimp) (by omega) (by simp -dsimp [t3])
def intOf:T→Int
 | .v (.int _ z)=>z
 | _=>0
@[simp] theorem intOf_int (k:IntKind) (z:Int):intOf (.v (.int k z))=z:=rfl
def Ils (l:List Mark) (p e:Nat) (B:List Mark) (x:Nat) (s:S):Prop:=∃ i:Nat,s.tm 0=.v (.sl (l.map Mark.v))∧s.tm 6=.v (.int .i64 ((p:Int)+i-1))∧i≤B.length∧s.tm 5=.v (.int .i64 (1+dsum (B.drop i)))∧(x=1→i=0)
theorem l2Starts_fn (pre rest:List Mark) (T:Tm) (hok:T.ok) (hl:(pre++T.marks++rest).length≤1048576) :
  FnZ Tryz.prog 150 [marksV (pre++T.marks++rest),.int .i64 ((pre.length:Int)+T.marks.length-1)] (.int .i64 pre.length):=by
 obtain ⟨s1,s2⟩:=T.scan hok
 have hpos:=T.marks_pos
 have hk:=T.kinds hok
 have hget:∀ i,i<T.marks.length→∃ m,T.marks[i]? = some m∧0≤m.kind∧m.kind≤5∧(pre++T.marks++rest)[pre.length+i]? = some m:=fun i hi=>by
  refine ⟨T.marks[i],List.getElem?_eq_getElem hi,(hk _ (List.getElem_mem _)).1,(hk _ (List.getElem_mem _)).2, ?_⟩
  rw [List.append_assoc,List.getElem?_append_right (by omega),List.getElem?_append_left (by omega)]
  rw [show pre.length+i-pre.length=i by omega,List.getElem?_eq_getElem hi]
 have hlen:pre.length+T.marks.length≤(pre++T.marks++rest).length:=by simp
 generalize pre++T.marks++rest=l at *
 generalize pre.length=p at *
 generalize T.marks=B at *
 refine FZ (rs:=[.tmp 4]) false Tryz.func150 ?_
 simp -dsimp
 refine twp_loopC (Ils l p 0 B 0) (fun s=>(intOf (s.tm 6)-p+1).toNat) (Ils l p 0 B 1) ?_ ?_ ?_
 ·refine ⟨B.length,by simp -dsimp,by simp -dsimp,by omega, ?_,by simp⟩
  rw [List.drop_length]; simp -dsimp
 ·rintro s ⟨i,t0,t6,hi,t5,hx⟩
  by_cases hi0:i=0
  ·subst hi0
   rw [List.drop_zero,s1] at t5
   simp -dsimp [t5]
   exact ⟨0,by simp -dsimp [t0],by simp -dsimp [t6],hi,by rw [List.drop_zero,s1]; simp -dsimp [t5],fun _=>rfl⟩
  have hN:=s2 i (by omega)
  obtain ⟨m,hm1,hm2,hm3,hm4⟩:=hget (i-1) (by omega)
  have hd:dsum (B.drop (i-1))=dl m+dsum (B.drop i):=by
   have hlt:i-1<B.length:=by omega
   rw [drop_cons hlt,dsum_cons,show i-1+1=i by omega]
   rw [List.getElem?_eq_getElem hlt] at hm1
   cases hm1; rfl
  have habs:=dsum_abs (B.drop i)
  rw [List.length_drop] at habs
  generalize hNN:dsum (B.drop i)=N at *
  have hz:0<1+N:=by omega
  obtain ⟨q,hq⟩:∃ q:Nat,q=p+(i-1):=⟨_,rfl⟩
  have idx:((p:Int)+i-1)=(q:Int):=by omega
  rw [← hq] at hm4
  have wn:IntKind.wrap .i64 (1+N-1)=1+N-1:=w64 (by omega) (by omega)
  have wn':IntKind.wrap .i64 N=N:=w64 (by omega) (by omega)
  have wp:IntKind.wrap .i64 (1+N+1)=1+N+1:=w64 (by omega) (by omega)
  have wi:IntKind.wrap .i64 ((q:Int)-1)=(p:Int)+(i-1:Nat)-1:=by rw [w64 (by omega) (by omega)]; omega
  have again:∀ (s':S) (x:Int),x=1+dsum (B.drop (i-1))→s'.tm 0=.v (.sl (l.map Mark.v))→s'.tm 6=.v (.int .i64 ((p:Int)+(i-1:Nat)-1))→s'.tm 5=.v (.int .i64 x)→Ils l p 0 B 0 s':=fun s' x hx a0 a6 a5 =>
   ⟨i-1,a0,a6,by omega,by rw [a5,hx],by simp⟩
  rw [idx] at t6
  have hmu:((p:Int)+(i-1:Nat)-1-p+1).toNat<((q:Int)-p+1).toNat:=by omega
  by_cases k1:m.kind≤1
  ·have hdl:dl m = -1:=by unfold dl; rw [if_pos (by omega)]
   simp -dsimp [t0,t5,t6,hz,hm4,k1,wn,wi]
   refine ⟨again _ (1+N-1) (by omega) (by simp -dsimp [t0]) (by simp -dsimp) (by simp -dsimp [t5]), ?_⟩
   omega
  ·have k2:¬m.kind≤1:=k1
   by_cases k3:2<m.kind
   ·have hdl:dl m=1:=by unfold dl; rw [if_neg (by omega),if_pos (by omega)]
    simp -dsimp [t0,t5,t6,hz,hm4,k2,k3,wp,wi]
    refine ⟨again _ (1+N+1) (by omega) (by simp -dsimp [t0]) (by simp -dsimp) (by simp -dsimp [t5]), ?_⟩
    omega
   ·have hdl:dl m=0:=by unfold dl; rw [if_neg (by omega),if_neg (by omega)]
    simp -dsimp [t0,t5,t6,hz,hm4,k2,k3,wi]
    refine ⟨again _ (1+N) (by omega) (by simp -dsimp [t0]) (by simp -dsimp) (by simp -dsimp [t5]), ?_⟩
    omega
 ·rintro s ⟨i,t0,t6,hi,t5,hx⟩
  have:=hx rfl
  subst this
  have w:IntKind.wrap .i64 ((p:Int)+(0:Nat)-1+1)=p:=by rw [w64 (by omega) (by omega)]; omega
  simp -dsimp [t6]
  exact w64 (by omega) (by omega)
/-! The texts. -/
def Ihe (l:List Mark) (st:List UInt8) (ks:List Int) (m:Mark) (s:S):Prop:=∃ i:Nat,s.tm 0=.v (.sl (l.map Mark.v))∧s.tm 5=.v (.str st)∧s.tm 10=.v (.sl (ks.map (V.int .i64)))∧s.tm 11=.v (.int .i64 ks.length)∧s.tm 12=.v (.int .i64 i)∧i≤ks.length∧m.kind ∉ ks.take i
theorem held_fn (l:List Mark) (st:List UInt8) (pre:List Mark) (m:Mark) (ks:List Int) (hlast:l=pre++[m]) (h:FnZ Tryz.prog 144 [marksV l] (.str st)) (hs:st.length≤1000000000) (hl:l.length≤1048576) (hks:ks.length≤10) :
  FnZ Tryz.prog 183 [marksV l,.sl (ks.map (V.int .i64))] (.str (par (decide (m.kind ∈ ks)) st)):=by
 have hlen:l.length=pre.length+1:=by rw [hlast]; simp
 have hget:l[pre.length]? = some m:=by rw [hlast]; simp
 have w1:IntKind.wrap .i64 ((l.length:Int)-1)=(pre.length:Int):=by rw [w64 (by omega) (by omega)]; omega
 have b1:(1:Int)+st.length≤9223372036854775807:=by omega
 have b2:(st.length:Int)+1+1≤9223372036854775807:=by omega
 generalize pre.length=n at *
 refine FZ (rs:=[.tmp 4]) false Tryz.func183 ?_
 simp -dsimp
 refine cl h ?_
 simp -dsimp
 refine twp_loopC (Ihe l st ks m) (fun s=>ks.length-natOf (s.tm 12))
  (fun s=>s.tm 5=.v (.str st)∧m.kind ∉ ks) ?_ ?_ ?_
 ·exact ⟨0,by simp -dsimp,by simp -dsimp,by simp -dsimp,by simp -dsimp,by simp -dsimp,by omega,by simp⟩
 ·rintro s ⟨i,t0,t5,t10,t11,t12,hi,hn⟩
  by_cases hlt:i<ks.length
  case neg =>
   have:i=ks.length:=by omega
   subst this
   rw [List.take_length] at hn
   simp -dsimp [t11,t12]
   exact ⟨by simp -dsimp [t5],hn⟩
  have hk:(ks.map (V.int .i64))[i]? = some (.int .i64 ks[i]):=by simp [hlt]
  have wi:IntKind.wrap .i64 ((i:Int)+1)=((i+1:Nat):Int):=by rw [w64 (by omega) (by omega)]; omega
  have hmu:ks.length-(i+1)<ks.length-i:=by omega
  by_cases he:m.kind=ks[i]
  ·have hin:m.kind ∈ ks:=by rw [he]; exact List.getElem_mem _
   have he':(m.kind=ks[i])=True:=eq_true he
   simp -dsimp [t0,t5,t10,t11,t12,hlt,hk,w1,hget,he',par,hin,b1,b2]
  ·have hn':m.kind ∉ ks.take (i+1):=by
    rw [List.take_succ_eq_append_getElem hlt,List.mem_append,List.mem_singleton]
    exact not_or.2 ⟨hn,he⟩
   simp -dsimp [t0,t5,t10,t11,t12,hlt,hk,w1,hget,he,wi,hmu]
   exact ⟨i+1,by simp -dsimp [t0],by simp -dsimp [t5],by simp -dsimp [t10],by simp -dsimp [t11],by simp -dsimp,by omega,hn'⟩
 ·rintro s ⟨t5,hn⟩
  simp -dsimp [t5,par,hn]
end TL

namespace TL
/-- What a reader has read: marks, what is left, whether it was one. -/
structure R where
 ms:List Mark
 rest:List UInt8
 ok:Bool
def rLoop (p:List UInt8→R) (sg:UInt8) (k:Int):Nat→List Mark→List UInt8→R
 | 0,t,s=>⟨t,s,true⟩
 | _+1,t,[]=>⟨t,[],true⟩
 | g+1,t,c :: more=>if c=sg then (if (p more).ok=true then rLoop p sg k g (t++(p more).ms++[⟨k,0⟩]) (p more).rest else ⟨[],(p more).rest,false⟩) else ⟨t,c :: more,true⟩
def rRow (p:List UInt8→R) (sg:UInt8) (k:Int) (g:Nat) (s:List UInt8):R:=if (p s).ok=true then rLoop p sg k g (p s).ms (p s).rest else ⟨[],(p s).rest,false⟩
def shut (r:R):R:=match r.rest with
 | []=>⟨r.ms,[],false⟩
 | c :: q=>if c=41 then ⟨r.ms,q,r.ok⟩ else ⟨r.ms,c :: q,false⟩
def rPart (A:UInt8→Option Mark):Nat→List UInt8→R
 | 0,s=>⟨[],s,false⟩
 | _+1,[]=>⟨[],[],false⟩
 | f+1,c :: s=>match A c with
  | some m=>⟨[m],s,true⟩
  | none=>if c=33 then ⟨(rPart A f s).ms++[⟨2,0⟩],(rPart A f s).rest,(rPart A f s).ok⟩
   else if c=40 then shut (rRow (rRow (rRow (rPart A f) 38 3 f) 124 4 f) 61 5 f s)
   else ⟨[],c :: s,false⟩
def rAnd (A:UInt8→Option Mark) (f:Nat) (s:List UInt8):R:=rRow (rPart A f) 38 3 f s
def rOr (A:UInt8→Option Mark) (f:Nat) (s:List UInt8):R:=rRow (rAnd A f) 124 4 f s
def rSame (A:UInt8→Option Mark) (f:Nat) (s:List UInt8):R:=rRow (rOr A f) 61 5 f s
theorem rPart_open (A:UInt8→Option Mark) (f:Nat) (s:List UInt8) (h:A 40=none):rPart A (f+1) (40 :: s)=shut (rSame A f s):=by
 show (match A 40 with
  | some m=>_
  | none=>_)=_
 rw [h]; rfl
theorem rPart_not (A:UInt8→Option Mark) (f:Nat) (s:List UInt8) (h:A 33=none):rPart A (f+1) (33 :: s)=⟨(rPart A f s).ms++[⟨2,0⟩],(rPart A f s).rest,(rPart A f s).ok⟩:=by
 show (match A 33 with
  | some m=>_
  | none=>_)=_
 rw [h]; rfl
theorem rPart_one (A:UInt8→Option Mark) (f:Nat) (c:UInt8) (s:List UInt8) (m:Mark) (h:A c=some m):rPart A (f+1) (c :: s)=⟨[m],s,true⟩:=by
 show (match A c with
  | some m=>_
  | none=>_)=_
 rw [h]
/-! How much is read, and what marks there are. -/
def good (p:List UInt8→R):Prop:=∀ s,(p s).ms.length+(p s).rest.length≤s.length∧∀ m ∈ (p s).ms,0≤m.kind∧m.kind≤5∧0≤m.num∧m.num≤1000
theorem rLoop_good {p:List UInt8→R} (hp:good p) {sg:UInt8} {k:Int} (h0:0≤k) (h5:k≤5):∀ (g:Nat) (t:List Mark) (s:List UInt8),(∀ m ∈ t,0≤m.kind∧m.kind≤5∧0≤m.num∧m.num≤1000) →
  (rLoop p sg k g t s).ms.length+(rLoop p sg k g t s).rest.length≤t.length+s.length∧∀ m ∈ (rLoop p sg k g t s).ms,0≤m.kind∧m.kind≤5∧0≤m.num∧m.num≤1000
 | 0,t,s,h=>⟨by simp [rLoop],h⟩
 | g+1,t,[],h=>⟨by simp [rLoop],h⟩
 | g+1,t,c :: more,h=>by
  simp only [rLoop]
  have:=(hp more).1
  split
  ·split
   ·have ih:=rLoop_good hp (sg:=sg) h0 h5 g (t++(p more).ms++[⟨k,0⟩]) (p more).rest (fun m hm=>by
     rcases List.mem_append.1 hm with hm | hm
     ·rcases List.mem_append.1 hm with hm | hm
      ·exact h m hm
      ·exact (hp more).2 m hm
     ·cases List.mem_singleton.1 hm; exact ⟨h0,h5,by simp,by simp⟩)
    refine ⟨?_,ih.2⟩
    have:=ih.1
    simp at this ⊢; omega
   ·refine ⟨by simp; omega,by simp⟩
  ·exact ⟨by simp,h⟩
theorem rRow_good {p:List UInt8→R} (hp:good p) {sg:UInt8} {k:Int} (h0:0≤k) (h5:k≤5) (g:Nat):good (rRow p sg k g):=fun s=>by
 have:=hp s
 unfold rRow
 split
 ·have h:=rLoop_good hp (sg:=sg) h0 h5 g (p s).ms (p s).rest this.2
  exact ⟨by omega,h.2⟩
 ·exact ⟨by simp; omega,by simp⟩
theorem shut_good {r:R} {n:Nat} (h:r.ms.length+r.rest.length≤n):(shut r).ms.length+(shut r).rest.length≤n∧(shut r).ms=r.ms:=by
 unfold shut
 split
 ·rename_i e; rw [e] at h; exact ⟨by simpa using h,rfl⟩
 ·rename_i e; rw [e] at h
  split
  ·exact ⟨by simp at h ⊢; omega,rfl⟩
  ·exact ⟨by simpa using h,rfl⟩
theorem rPart_good {A:UInt8→Option Mark} (hA:∀ c m,A c=some m→0≤m.kind∧m.kind≤5∧0≤m.num∧m.num≤1000):∀ f,good (rPart A f)
 | 0=>fun s=>⟨by simp [rPart],by simp [rPart]⟩
 | f+1=>fun s=>by
  have ih:=rPart_good hA f
  cases s with
  | nil=>exact ⟨by simp [rPart],by simp [rPart]⟩
  | cons c s =>
   simp only [rPart]
   split
   ·rename_i m e; exact ⟨by simp; omega,fun x hx=>by cases List.mem_singleton.1 hx; exact hA c m e⟩
   split
   ·have:=ih s
    refine ⟨by simp; omega,fun x hx => ?_⟩
    rcases List.mem_append.1 hx with hx | hx
    ·exact this.2 x hx
    ·cases List.mem_singleton.1 hx; simp
   split
   ·have g3:=rRow_good (rRow_good (rRow_good ih (sg:=38) (k:=3) (by omega) (by omega) f) (sg:=124) (k:=4) (by omega) (by omega) f) (sg:=61) (k:=5) (by omega) (by omega) f s
    have h:=shut_good (n:=s.length) g3.1
    refine ⟨by simp only [List.length_cons]; omega, ?_⟩
    rw [h.2]; exact g3.2
   ·exact ⟨by simp,by simp⟩
/-! What was written is read. -/
def noHead (sg:UInt8) (r:List UInt8):Prop:=r.head? ≠ some sg
theorem rLoop_stop {p:List UInt8→R} {sg:UInt8} {k:Int} (g:Nat) (t:List Mark) {r:List UInt8} (h:noHead sg r):rLoop p sg k g t r=⟨t,r,true⟩:=by
 cases g with
 | zero=>rfl
 | succ g =>
  cases r with
  | nil=>rfl
  | cons c r=>simp only [rLoop]; rw [if_neg (fun e=>h (by rw [e]; rfl))]
theorem rLoop_step {p:List UInt8→R} {sg:UInt8} {k:Int} {g:Nat} {t u:List Mark} {s r:List UInt8} (hg:(sg :: s).length≤g) (hr:r.length≤s.length) (h:p s=⟨u,r,true⟩) :
  ∃ g',r.length≤g'∧rLoop p sg k g t (sg :: s)=rLoop p sg k g' (t++u++[⟨k,0⟩]) r:=by
 cases g with
 | zero=>simp at hg
 | succ g =>
  refine ⟨g,by simp at hg; omega, ?_⟩
  simp only [rLoop,if_true,h]
theorem rRow_up {p:List UInt8→R} {sg:UInt8} {k:Int} {g:Nat} {t:List Mark} {s r:List UInt8} (h:p s=⟨t,r,true⟩):rRow p sg k g s=rLoop p sg k g t r:=by
 unfold rRow; rw [h]; rfl
structure AOk (A:UInt8→Option Mark):Prop where
 letter:∀ i:Nat,i<4→A (UInt8.ofNat (97+i))=some ⟨0,i⟩
 digit:∀ i:Nat,i<6→A (UInt8.ofNat (48+i))=some ⟨1,i⟩
 bang:A 33=none
 brak:A 40=none
/-- How a text is read at each level. -/
structure RT (A:UInt8→Option Mark) (T:Tm) (s:List UInt8) (b:Bool):Prop where
 l0:∀ f r,(s++r).length≤f→(b=false→T.kind≤2)→rPart A f (s++r)=⟨T.marks,r,true⟩
 l1:∀ f r,(s++r).length≤f→(b=false→T.kind≤3)→∃ g,r.length≤g∧rAnd A f (s++r)=rLoop (rPart A f) 38 3 g T.marks r
 l2:∀ f r,(s++r).length≤f→(b=false→T.kind≤4)→noHead 38 r→∃ g,r.length≤g∧rOr A f (s++r)=rLoop (rAnd A f) 124 4 g T.marks r
 l3:∀ f r,(s++r).length≤f→noHead 38 r→noHead 124 r→∃ g,r.length≤g∧rSame A f (s++r)=rLoop (rOr A f) 61 5 g T.marks r
theorem lift1 {A:UInt8→Option Mark} {f:Nat} {t:List Mark} {s r:List UInt8} (hl:(s++r).length≤f) (h:rPart A f (s++r)=⟨t,r,true⟩):∃ g,r.length≤g∧rAnd A f (s++r)=rLoop (rPart A f) 38 3 g t r :=
 ⟨f,by simp at hl; omega,rRow_up h⟩
theorem lift2 {A:UInt8→Option Mark} {f:Nat} {t:List Mark} {s r:List UInt8} (hl:(s++r).length≤f) (hn:noHead 38 r) (h:∃ g,r.length≤g∧rAnd A f (s++r)=rLoop (rPart A f) 38 3 g t r):∃ g,r.length≤g∧rOr A f (s++r)=rLoop (rAnd A f) 124 4 g t r:=by
 obtain ⟨g,_,h⟩:=h
 rw [rLoop_stop g t hn] at h
 exact ⟨f,by simp at hl; omega,rRow_up h⟩
theorem lift3 {A:UInt8→Option Mark} {f:Nat} {t:List Mark} {s r:List UInt8} (hl:(s++r).length≤f) (hn:noHead 124 r) (h:∃ g,r.length≤g∧rOr A f (s++r)=rLoop (rAnd A f) 124 4 g t r):∃ g,r.length≤g∧rSame A f (s++r)=rLoop (rOr A f) 61 5 g t r:=by
 obtain ⟨g,_,h⟩:=h
 rw [rLoop_stop g t hn] at h
 exact ⟨f,by simp at hl; omega,rRow_up h⟩
theorem RT.of0 {A:UInt8→Option Mark} {T:Tm} {s:List UInt8} {b:Bool} (h:∀ f r,(s++r).length≤f→rPart A f (s++r)=⟨T.marks,r,true⟩):RT A T s b :=
 ⟨fun f r hl _=>h f r hl,fun f r hl _=>lift1 hl (h f r hl),fun f r hl _ hn=>lift2 hl hn (lift1 hl (h f r hl)),fun f r hl hn hn2=>lift3 hl hn2 (lift2 hl hn (lift1 hl (h f r hl)))⟩
theorem RT.par {A:UInt8→Option Mark} (hA:AOk A) {T:Tm} (h:RT A T T.text false) (b:Bool):RT A T (par b T.text) b:=by
 cases b with
 | false=>exact h
 | true =>
  refine RT.of0 fun f r hl => ?_
  have e:TL.par true T.text++r=40 :: (T.text++41 :: r):=by simp [TL.par]
  rw [e] at hl ⊢
  cases f with
  | zero=>simp at hl
  | succ f =>
   obtain ⟨g,_,h3⟩:=h.l3 f (41 :: r) (by simp at hl ⊢; omega) (by simp [noHead]) (by simp [noHead])
   rw [rPart_open A f _ hA.brak,h3,rLoop_stop g _ (by simp [noHead])]
   simp [shut]
theorem RT.tm {A:UInt8→Option Mark} (hA:AOk A):∀ T:Tm,T.ok→RT A T T.text false
 | .tells i,h=>RT.of0 fun f r hl=>by
  cases f with
  | zero=>simp [Tm.text] at hl
  | succ f=>exact rPart_one A f _ r _ (hA.letter i h)
 | .count i,h=>RT.of0 fun f r hl=>by
  cases f with
  | zero=>simp [Tm.text] at hl
  | succ f=>exact rPart_one A f _ r _ (hA.digit i h)
 | .not a,h=>RT.of0 fun f r hl=>by
  have e:(Tm.not a).text++r=33 :: (TL.par (decide (3≤a.kind)) a.text++r):=rfl
  rw [e] at hl ⊢
  cases f with
  | zero=>simp at hl
  | succ f =>
   have ih:=((RT.tm hA a h).par hA (decide (3≤a.kind))).l0 f r (by simp at hl ⊢; omega) (by simp; omega)
   rw [rPart_not A f _ hA.bang,ih]; rfl
 | .bin k a b,h=>by
  have ia:=(RT.tm hA a h.2.1).par hA (decide (3+k<a.kind))
  have ib:=(RT.tm hA b h.2.2).par hA (decide (3+k≤b.kind))
  have e:∀ r,(Tm.bin k a b).text++r=TL.par (decide (3+k<a.kind)) a.text++sign k :: (TL.par (decide (3+k≤b.kind)) b.text++r):=fun r=>by simp [Tm.text]
  have em:(Tm.bin k a b).marks=a.marks++b.marks++[⟨3+k,0⟩]:=rfl
  have ek:(Tm.bin k a b).kind=3+k:=rfl
  have hk:=h.1
  generalize TL.par (decide (3+k<a.kind)) a.text=sa at *
  generalize TL.par (decide (3+k≤b.kind)) b.text=sb at *
  generalize (Tm.bin k a b).text=st at *
  have g1:k=0→∀ f r,(st++r).length≤f→∃ g,r.length≤g∧rAnd A f (st++r)=rLoop (rPart A f) 38 3 g (Tm.bin k a b).marks r:=by
   rintro rfl f r hl
   rw [e] at hl ⊢
   have la:sign 0=38:=rfl
   rw [la] at hl ⊢
   obtain ⟨g,hg,h1⟩:=ia.l1 f _ hl (by simp <;> omega)
   have h2:=ib.l0 f r (by simp at hl ⊢; omega) (by simp; omega)
   obtain ⟨g',hg',h3⟩:=rLoop_step (k:=3) (t:=a.marks) hg (by simp) h2
   exact ⟨g',hg',by rw [h1,h3,em]; rfl⟩
  have g2:k=1→∀ f r,(st++r).length≤f→noHead 38 r→∃ g,r.length≤g∧rOr A f (st++r)=rLoop (rAnd A f) 124 4 g (Tm.bin k a b).marks r:=by
   rintro rfl f r hl hn
   rw [e] at hl ⊢
   have la:sign 1=124:=rfl
   rw [la] at hl ⊢
   obtain ⟨g,hg,h1⟩:=ia.l2 f _ hl (by simp <;> omega) (by simp [noHead])
   obtain ⟨g0,_,h2⟩:=ib.l1 f r (by simp at hl ⊢; omega) (by simp; omega)
   rw [rLoop_stop g0 _ hn] at h2
   obtain ⟨g',hg',h3⟩:=rLoop_step (k:=4) (t:=a.marks) hg (by simp) h2
   exact ⟨g',hg',by rw [h1,h3,em]; rfl⟩
  have g3:k=2→∀ f r,(st++r).length≤f→noHead 38 r→noHead 124 r→∃ g,r.length≤g∧rSame A f (st++r)=rLoop (rOr A f) 61 5 g (Tm.bin k a b).marks r:=by
   rintro rfl f r hl hn hn2
   rw [e] at hl ⊢
   have la:sign 2=61:=rfl
   rw [la] at hl ⊢
   obtain ⟨g,hg,h1⟩:=ia.l3 f _ hl (by simp [noHead]) (by simp [noHead])
   obtain ⟨g0,_,h2⟩:=ib.l2 f r (by simp at hl ⊢; omega) (by simp; omega) hn
   rw [rLoop_stop g0 _ hn2] at h2
   obtain ⟨g',hg',h3⟩:=rLoop_step (k:=5) (t:=a.marks) hg (by simp) h2
   exact ⟨g',hg',by rw [h1,h3,em]; rfl⟩
  refine ⟨fun f r hl hq => ?_,fun f r hl hq => ?_,fun f r hl hq hn => ?_,fun f r hl hn hn2 => ?_⟩
  ·have:=hq rfl; omega
  ·have:=hq rfl; exact g1 (by omega) f r hl
  ·have:=hq rfl
   rcases (by omega:k=0∨k=1) with hk | hk
   ·exact lift2 hl hn (g1 hk f r hl)
   ·exact g2 hk f r hl hn
  ·rcases (by omega:k=0∨k=1∨k=2) with hk | hk | hk
   ·exact lift3 hl hn2 (lift2 hl hn (g1 hk f r hl))
   ·exact lift3 hl hn2 (g2 hk f r hl hn)
   ·exact g3 hk f r hl hn hn2
theorem read_text {A:UInt8→Option Mark} (hA:AOk A) (T:Tm) (h:T.ok) (f:Nat) (hf:T.text.length≤f):rSame A f T.text=⟨T.marks,[],true⟩:=by
 obtain ⟨g,_,e⟩:=(RT.tm hA T h).l3 f [] (by simpa using hf) (by simp [noHead]) (by simp [noHead])
 rw [List.append_nil] at e
 rw [e,rLoop_stop g _ (by simp [noHead])]
theorem rRow_nil {p:List UInt8→R} {sg:UInt8} {k:Int} {g:Nat} (h:(p []).ok=false):(rRow p sg k g []).ok=false:=by
 unfold rRow; rw [if_neg (by simp [h])]
theorem rPart_nil (A:UInt8→Option Mark) (f:Nat):(rPart A f []).ok=false:=by cases f <;> rfl
theorem rSame_nil (A:UInt8→Option Mark) (f:Nat):(rSame A f []).ok=false:=rRow_nil (rRow_nil (rRow_nil (rPart_nil A f)))
/-- The atoms of the program, and of the reference. -/
def atomI (c:UInt8):Option Mark:=if 97≤c.toNat∧c.toNat≤122 then some ⟨0,(c.toNat:Int)-97⟩ else if 48≤c.toNat∧c.toNat≤57 then some ⟨1,(c.toNat:Int)-48⟩ else none
def atomS (c:UInt8):Option Mark:=if 97≤c.toNat∧c.toNat≤100 then some ⟨0,(c.toNat:Int)-97⟩ else if 48≤c.toNat∧c.toNat≤53 then some ⟨1,(c.toNat:Int)-48⟩ else none
theorem atomI_ok:AOk atomI where
 letter i hi:=by rcases (by omega:i=0∨i=1∨i=2∨i=3) with rfl | rfl | rfl | rfl <;> rfl
 digit i hi:=by rcases (by omega:i=0∨i=1∨i=2∨i=3∨i=4∨i=5) with rfl | rfl | rfl | rfl | rfl | rfl <;> rfl
 bang:=rfl
 brak:=rfl
theorem atomS_ok:AOk atomS where
 letter i hi:=by rcases (by omega:i=0∨i=1∨i=2∨i=3) with rfl | rfl | rfl | rfl <;> rfl
 digit i hi:=by rcases (by omega:i=0∨i=1∨i=2∨i=3∨i=4∨i=5) with rfl | rfl | rfl | rfl | rfl | rfl <;> rfl
 bang:=rfl
 brak:=rfl
theorem atomI_good (c:UInt8) (m:Mark) (h:atomI c=some m):0≤m.kind∧m.kind≤5∧0≤m.num∧m.num≤1000:=by
 unfold atomI at h
 split at h
 ·cases h; simp only; omega
 split at h
 ·cases h; simp only; omega
 ·cases h
theorem atomS_good (c:UInt8) (m:Mark) (h:atomS c=some m):0≤m.kind∧m.kind≤5∧0≤m.num∧m.num≤1000:=by
 unfold atomS at h
 split at h
 ·cases h; simp only; omega
 split at h
 ·cases h; simp only; omega
 ·cases h
/-- The text of a term. -/
noncomputable def termText (people:Int) (t:List Mark):List UInt8:=by
 classical exact if h:termOk people t=true then (Classical.choose (termOk_tree h)).text else []
theorem termText_no {people:Int} {t:List Mark} (h:termOk people t=false):termText people t=[]:=by
 unfold termText; rw [dif_neg (by simp [h])]
theorem termText_tree {people:Int} {t:List Mark} (h:termOk people t=true):∃ T:Tm,T.ok∧T.marks=t∧T.text=termText people t:=by
 unfold termText; rw [dif_pos h]
 exact ⟨_,(Classical.choose_spec (termOk_tree h)).1,(Classical.choose_spec (termOk_tree h)).2,rfl⟩
theorem termOk_pos {people:Int} {t:List Mark} (h:termOk people t=true):1≤t.length:=by
 obtain ⟨T,_,rfl,_⟩:=termText_tree h; exact T.marks_pos
theorem tm_text_pos:∀ T:Tm,T.text ≠ []
 | .tells i=>by simp [Tm.text]
 | .count i=>by simp [Tm.text]
 | .not a=>by simp [Tm.text]
 | .bin k a b=>by simp [Tm.text]
theorem termText_pos {people:Int} {t:List Mark} (h:termOk people t=true):termText people t ≠ []:=by
 obtain ⟨T,_,_,h3⟩:=termText_tree h; rw [← h3]; exact tm_text_pos T
/-- What ReadTerm finds. -/
noncomputable def readT (people:Int) (s:List UInt8):Option (List Mark):=by
 classical exact if h:s.length≤60∧∃ t,termOk people t=true∧termText people t=s then some (Classical.choose h.2) else none
theorem text_inj {people:Int} {t u:List Mark} (ht:termOk people t=true) (hu:termOk people u=true) (h:termText people t=termText people u):t=u:=by
 obtain ⟨T,a1,a2,a3⟩:=termText_tree ht
 obtain ⟨U,b1,b2,b3⟩:=termText_tree hu
 have e1:=read_text atomI_ok T a1 _ (Nat.le_refl _)
 have e2:=read_text atomI_ok U b1 _ (Nat.le_refl _)
 have:T.text=U.text:=by rw [a3,b3,h]
 rw [this,e2] at e1
 have:=congrArg R.ms e1
 simp only at this
 rw [← a2,← b2,this]
theorem readT_some {people:Int} {s:List UInt8} {t:List Mark} (hl:s.length≤60) (h:termOk people t=true) (hs:termText people t=s):readT people s=some t:=by
 have hx:s.length≤60∧∃ t,termOk people t=true∧termText people t=s:=⟨hl,t,h,hs⟩
 unfold readT; rw [dif_pos hx]
 have:=Classical.choose_spec hx.2
 exact congrArg some (text_inj this.1 h (by rw [this.2,hs]))
theorem readT_is {people:Int} {s:List UInt8} {t:List Mark} (h:readT people s=some t):s.length≤60∧termOk people t=true∧termText people t=s:=by
 unfold readT at h
 split at h
 ·rename_i hx; cases h; exact ⟨hx.1,Classical.choose_spec hx.2⟩
 ·cases h
theorem readT_none {people:Int} {s:List UInt8} (h:∀ t,s.length≤60→termOk people t=true→termText people t ≠ s):readT people s=none:=by
 unfold readT; rw [dif_neg]; rintro ⟨hl,t,h1,h2⟩; exact h t hl h1 h2
/-- What the code does: read, then compare. -/
theorem readT_code {people:Int} {s:List UInt8} {A:UInt8→Option Mark} (hA:AOk A) (hl:s.length≤60) :
  readT people s=if (rSame A s.length s).ok=true∧(rSame A s.length s).rest=[]∧termOk people (rSame A s.length s).ms=true∧termText people (rSame A s.length s).ms=s then some (rSame A s.length s).ms else none:=by
 split
 ·rename_i h; exact readT_some hl h.2.2.1 h.2.2.2
 ·rename_i h
  refine readT_none fun t _ h1 h2=>h ?_
  obtain ⟨T,a1,a2,a3⟩:=termText_tree h1
  have e:=read_text hA T a1 s.length (by rw [a3,h2]; exact Nat.le_refl _)
  rw [a3,h2] at e
  rw [e]
  exact ⟨rfl,rfl,by rw [a2]; exact h1,by rw [a2]; exact h2⟩
end TL

namespace TL
open Go Go.Proofs
attribute [local simp] marksV storyV codeV Claim.v Place.v
def cutB (s:List UInt8) (c:UInt8):List UInt8 × Bool:=match s with
 | []=>([],false)
 | x :: r=>if x=c then (r,true) else (x :: r,false)
theorem hasPrefix_fn (s:List UInt8) (c:UInt8) (hl:s.length≤1000000000):FnZ Tryz.prog 223 [.str s,.str [c]] (.bool (cutB s c).2):=by
 refine FZ (rs:=[.tmp 4]) false Tryz.func223 ?_
 cases s with
 | nil=>simp -dsimp [cutB]
 | cons x r =>
  have h1:(1:Int)≤(r.length:Int)+1:=by omega
  have h0:¬(r.length:Int)+1<1:=by omega
  by_cases hx:x=c
  ·subst hx; simp -dsimp [cutB,h1,h0]
  ·simp -dsimp [cutB,h1,h0,hx]
theorem cutPrefixL_fn (s:List UInt8) (c:UInt8) (hl:s.length≤1000000000):FnZ Tryz.prog 216 [.str s,.str [c]] (.tup [.str (cutB s c).1,.bool (cutB s c).2]):=by
 refine FZ (rs:=[.tmp 4,.tmp 5]) false Tryz.func216 ?_
 simp -dsimp
 refine cl (hasPrefix_fn s c hl) ?_
 cases s with
 | nil=>simp -dsimp [cutB]
 | cons x r =>
  have h1:(1:Int)≤(r.length:Int)+1:=by omega
  by_cases hx:x=c
  ·subst hx; simp -dsimp [cutB,h1]
  ·simp -dsimp [cutB,h1,hx]
theorem cutPrefix_fn (s:List UInt8) (c:UInt8) (hl:s.length≤1000000000):FnZ Tryz.prog 197 [.str s,.str [c]] (.tup [.str (cutB s c).1,.bool (cutB s c).2]):=by
 refine FZ (rs:=[.tmp 4,.tmp 5]) false Tryz.func197 ?_
 simp -dsimp
 refine cl (cutPrefixL_fn s c hl) ?_
 simp -dsimp
/-- What a reader gives back: a row of its own. -/
structure RPost (m:Mem) (n:Nat) (r:R) (t:T) (m':Mem) (n':Nat):Prop where
 le:n≤n'
 out:∀ j,j<n→m' j=m j
 res:∃ st,t=.tup [st,.v (.str r.rest),.v (.bool r.ok)]∧IsRow m' n n' 119 st (r.ms.map Mark.v)∧(r.ok=true→st ≠ .nil)
abbrev RFn (f:Nat) (L:Nat) (p:List UInt8→R):Prop:=∀ s:List UInt8,s.length≤L→∀ m n,FnS Tryz.prog f m n [.v (.str s)] (RPost m n (p s))
/-- The loop of readRow. -/
def Irr (m0:Mem) (n0:Nat) (F:Nat) (p:List UInt8→R) (sg:UInt8) (k:Int) (f:Nat) (G:R) (s:S):Prop:=∃ (ms:List Mark) (rest:List UInt8) (ok:Bool) (st:T) (g:Nat),
 s.tm 0=.v (.str rest)∧s.tm 1=.v (.str [sg])∧s.tm 2=.v (.int .i64 k)∧s.tm 3=.fn f []∧s.tm 11=st∧s.tm 12=.v (.bool ok)∧s.mu=false∧n0≤s.n∧(∀ j,j<n0→s.m j=m0 j) ∧
 IsRow s.m n0 s.n 119 st (ms.map Mark.v)∧rest.length≤g∧rest.length≤F∧ms.length+rest.length≤F∧(ok=true→st ≠ .nil∧G=rLoop p sg k g ms rest)∧(ok=false→G=⟨[],rest,false⟩)
def lenOf:T→Nat
 | .v (.str s)=>s.length+1
 | .v (.bool b)=>if b then 1 else 0
 | _=>0
@[simp] theorem lenOf_str (s:List UInt8):lenOf (.v (.str s))=s.length+1:=rfl
@[simp] theorem lenOf_bool (b:Bool):lenOf (.v (.bool b))=if b then 1 else 0:=rfl
def Xrr (m0:Mem) (n0:Nat) (G:R) (s:S):Prop:=∃ rest:List UInt8,s.tm 0=.v (.str rest)∧G=⟨[],rest,false⟩∧n0≤s.n∧∀ j,j<n0→s.m j=m0 j
theorem cutB_len (s:List UInt8) (c:UInt8):(cutB s c).1.length≤s.length:=by
 unfold cutB; split
 ·simp
 ·split <;> simp
theorem cut_no {p:List UInt8→R} {sg:UInt8} {k:Int} {g:Nat} {ms:List Mark} {rest:List UInt8} (h:(cutB rest sg).2=false):rLoop p sg k g ms rest=⟨ms,rest,true⟩:=by
 cases g with
 | zero=>rfl
 | succ g =>
  cases rest with
  | nil=>rfl
  | cons c r =>
   simp only [rLoop]
   by_cases hc:c=sg
   ·subst hc; simp [cutB] at h
   ·rw [if_neg hc]
theorem cut_yes {p:List UInt8→R} {sg:UInt8} {k:Int} {g:Nat} {ms:List Mark} {rest:List UInt8} (hg:rest.length≤g) (h:(cutB rest sg).2=true) :
  ∃ g',(cutB rest sg).1.length≤g'∧(cutB rest sg).1.length+1=rest.length∧rLoop p sg k g ms rest=if (p (cutB rest sg).1).ok=true then rLoop p sg k g' (ms++(p (cutB rest sg).1).ms++[⟨k,0⟩]) (p (cutB rest sg).1).rest else ⟨[],(p (cutB rest sg).1).rest,false⟩:=by
 cases rest with
 | nil=>cases h
 | cons c r =>
  have hc:c=sg:=by
   unfold cutB at h; simp only at h
   split at h
   ·assumption
   ·cases h
  subst hc
  have e:(cutB (c :: r) c).1=r:=by simp [cutB]
  rw [e]
  cases g with
  | zero=>simp at hg
  | succ g=>exact ⟨g,by simpa using hg,by simp,by simp only [rLoop,if_true]⟩
theorem readRow_fn (f:Nat) (p:List UInt8→R) (sg:UInt8) (k:Int) (F:Nat) (hp:good p) (hF:F≤1000000) (hf:RFn f F p):∀ s:List UInt8,s.length≤F→∀ m n,FnS Tryz.prog 164 m n [.v (.str s),.v (.str [sg]),.v (.int .i64 k),.fn f []] (RPost m n (rRow p sg k F s)):=by
 intro s hs m n
 have g0:=(hp s).1
 refine FS (rs:=[.tmp 8,.tmp 9,.tmp 10]) false Tryz.func164 ?_
 simp -dsimp
 refine callS_ (hf s hs _ _) ?_
 rintro t m1 n1 ⟨hle,hout,st,rfl,hrow,hnil⟩
 simp -dsimp
 refine twp_loopC (Irr m n F p sg k f (rRow p sg k F s)) (fun s=>lenOf (s.tm 0)+lenOf (s.tm 12)) (Xrr m n (rRow p sg k F s)) ?_ ?_ ?_
 ·refine ⟨(p s).ms,(p s).rest,(p s).ok,st,F,by simp -dsimp,by simp -dsimp,by simp -dsimp,by simp -dsimp,by simp -dsimp,by simp -dsimp,by simp -dsimp,by simp -dsimp [hle],by simp -dsimp; exact hout,by simp -dsimp; exact hrow,by omega,by omega,by omega,fun h=>⟨hnil h, ?_⟩,fun h => ?_⟩
  ·unfold rRow; rw [if_pos h]
  ·unfold rRow; rw [if_neg (by simp [h])]
 ·rintro s1 ⟨ms,rest,ok,st,g,t0,t1,t2,t3,t11,t12,hmu,hn,hm,hrow,hg,hrF,hmsF,h1,h0⟩
  cases ok with
  | false =>
   simp -dsimp [t12]
   exact ⟨rest,by simp -dsimp [t0],h0 rfl,by simp -dsimp [hn],by simp -dsimp; exact hm⟩
  | true =>
   obtain ⟨hst,hG⟩:=h1 rfl
   have hloc:∃ i,st=.loc i∧n≤i∧i<s1.n∧s1.m i=some (.arr 119 (ms.map Mark.v)):=by
    rcases hrow with ⟨rfl,_⟩ | h
    ·exact absurd rfl hst
    ·exact h
   obtain ⟨i,rfl,hi0,hi1,hmi⟩:=hloc
   have hcl:=cutB_len rest sg
   simp -dsimp [t0,t1,t12]
   refine cl (cutPrefix_fn rest sg (by omega)) ?_
   have hq:=ft (cutB rest sg).2
   rcases hq with hq | hq
   ·rw [cut_no hq] at hG
    simp -dsimp [hq,t0,t11]
    rw [hG]
    exact ⟨hn,hm,.loc i,rfl,.inr ⟨i,rfl,hi0,hi1,hmi⟩,by simp⟩
   ·obtain ⟨g',hg1,hg2,hg3⟩:=cut_yes (p:=p) (sg:=sg) (k:=k) (ms:=ms) hg hq
    rw [hG,hg3]
    generalize (cutB rest sg).1=more at *
    have gm:=(hp more).1
    simp -dsimp [hq,t3]
    refine callS_ (hf more (by omega) _ _) ?_
    rintro t m2 n2 ⟨hle2,hout2,st2,rfl,hrow2,hnil2⟩
    have hi2:i<n2:=by omega
    have hmi2:m2 i=some (.arr 119 (ms.map Mark.v)):=by rw [hout2 i hi1,hmi]
    have f1:=far hi2
    have b1:(ms.length+(p more).ms.length) * 16≤140737488355328:=by omega
    have b2:(ms.length+(p more).ms.length+1) * 16≤140737488355328:=by omega
    have eL:∀ ok':Bool,(p more).ok=ok'→(ok'=true→(if (p more).ok=true then rLoop p sg k g' (ms++(p more).ms++[⟨k,0⟩]) (p more).rest else ⟨[],(p more).rest,false⟩)=rLoop p sg k g' (ms++(p more).ms++[⟨k,0⟩]) (p more).rest) ∧
     (ok'=false→(if (p more).ok=true then rLoop p sg k g' (ms++(p more).ms++[⟨k,0⟩]) (p more).rest else ⟨[],(p more).rest,false⟩)=⟨[],(p more).rest,false⟩):=fun ok' h=>⟨fun h1=>by rw [if_pos (by rw [h,h1])],fun h1=>by rw [if_neg (by simp [h,h1])]⟩
    have eL2:=eL _ rfl
    clear eL hG hg3
    generalize (if (p more).ok=true then rLoop p sg k g' (ms++(p more).ms++[⟨k,0⟩]) (p more).rest else ⟨[],(p more).rest,false⟩)=G at *
    have hkmu:∀ b:Bool,(p more).rest.length+1+(if b=true then 1 else 0)<rest.length+1+1:=fun b=>by split <;> omega
    generalize (p more).ms=qms at *
    generalize (p more).rest=qrest at *
    generalize (p more).ok=qok at *
    rcases hrow2 with ⟨rfl,h0⟩ | ⟨i2,rfl,hj0,hj1,hmj⟩
    ·have hq0:qms=[]:=by simpa using h0
     subst hq0
     have b3:(ms.length+1) * 16≤140737488355328:=by omega
     have b4:ms.length * 16≤140737488355328:=by omega
     simp -dsimp [t0,t1,t2,t3,t11,hmu,hmi2,f1,b3,b4,nes]
     refine ⟨st_out fun s' ht hm' hn' hu' => ?_,by rw [t12]; exact hkmu qok⟩
     have q0:=ht 0
     have q1:=ht 1
     have q2:=ht 2
     have q3:=ht 3
     have q11:=ht 11
     have q12:=ht 12
     simp -dsimp [t1,t2,t3] at q0 q1 q2 q3 q11 q12 hm' hn' hu'
     clear ht
     refine ⟨ms++[⟨k,0⟩],qrest,qok,_,g',q0,q1,q2,q3,q11,q12,by rw [hu',hmu],by omega,fun j hj => ?_,.inr ⟨_,rfl,by omega,by omega, ?_⟩,by omega,by omega,by simp; omega,fun h=>⟨by simp,by rw [eL2.1 h]; simp⟩,fun h=>eL2.2 h⟩
     ·have e1:j<n2:=by omega
      have e2:¬j=i:=by rintro rfl; omega
      have e3:=far e1
      simp [hm',e2,e3,hout2 j (by omega),hm j hj]
     ·simp [hm',nes,Mark.v]
    ·have f2:=far hj1
     simp -dsimp [t0,t1,t2,t3,t11,hmu,hmi2,hmj,f1,f2,b1,b2,nes]
     refine ⟨st_out fun s' ht hm' hn' hu' => ?_,by rw [t12]; exact hkmu qok⟩
     have q0:=ht 0
     have q1:=ht 1
     have q2:=ht 2
     have q3:=ht 3
     have q11:=ht 11
     have q12:=ht 12
     simp -dsimp [t1,t2,t3] at q0 q1 q2 q3 q11 q12 hm' hn' hu'
     clear ht
     refine ⟨ms++qms++[⟨k,0⟩],qrest,qok,_,g',q0,q1,q2,q3,q11,q12,by rw [hu',hmu],by omega,fun j hj => ?_,.inr ⟨_,rfl,by omega,by omega, ?_⟩,by omega,by omega,by simp; omega,fun h=>⟨by simp,eL2.1 h⟩,fun h=>eL2.2 h⟩
     ·have e1:j<n2:=by omega
      have e2:¬j=i:=by rintro rfl; omega
      have e3:=far e1
      simp [hm',e2,e3,hout2 j (by omega),hm j hj]
     ·simp [hm',nes,Mark.v]
 ·rintro s1 ⟨rest,t0,hG,hn,hm⟩
  simp -dsimp [t0]
  rw [hG]
  exact ⟨hn,hm,.nil,rfl,.inl ⟨rfl,rfl⟩,by simp⟩
theorem RPost.mk' {r:R} {m m':Mem} {n n':Nat} {st:T} {a:List UInt8} {b:Bool} (h1:n≤n') (h2:∀ j,j<n→m' j=m j) (h3:IsRow m' n n' 119 st (r.ms.map Mark.v)) (h4:b=true→st ≠ .nil) (ha:r.rest=a) (hb:r.ok=b):RPost m n r (.tup [st,.v (.str a),.v (.bool b)]) m' n':=by
 subst ha; subst hb; exact ⟨h1,h2,st,rfl,h3,h4⟩
theorem rowFn (f:Nat) (p:List UInt8→R) (sg:UInt8) (k:Int) (F:Nat) (hp:good p) (hF:F≤1000000) (hf:RFn f F p) (g:Nat) (hg:∀ s:List UInt8,s.length≤F→∀ m n,FnS Tryz.prog 164 m n [.v (.str s),.v (.str [sg]),.v (.int .i64 k),.fn f []] (RPost m n (rRow p sg k F s))→FnS Tryz.prog g m n [.v (.str s)] (RPost m n (rRow p sg k F s))):RFn g F (rRow p sg k F) :=
 fun s hs m n=>hg s hs m n (readRow_fn f p sg k F hp hF hf s hs m n)
theorem readAnd_fn (F:Nat) (p:List UInt8→R) (hp:good p) (hF:F≤1000000) (hf:RFn 217 F p):RFn 198 F (rRow p 38 3 F):=by
 refine rowFn 217 p 38 3 F hp hF hf 198 fun s hs m n h => ?_
 generalize rRow p 38 3 F s=r at *
 refine FS (rs:=[.tmp 2,.tmp 3,.tmp 4]) false Tryz.func198 ?_
 simp -dsimp
 refine callS_ h ?_
 rintro t m1 n1 ⟨hle,hout,st,rfl,hrow,hnil⟩
 simp -dsimp
 exact ⟨hle,hout,st,rfl,hrow,hnil⟩
theorem readOr_fn (F:Nat) (p:List UInt8→R) (hp:good p) (hF:F≤1000000) (hf:RFn 198 F p):RFn 165 F (rRow p 124 4 F):=by
 refine rowFn 198 p 124 4 F hp hF hf 165 fun s hs m n h => ?_
 generalize rRow p 124 4 F s=r at *
 refine FS (rs:=[.tmp 2,.tmp 3,.tmp 4]) false Tryz.func165 ?_
 simp -dsimp
 refine callS_ h ?_
 rintro t m1 n1 ⟨hle,hout,st,rfl,hrow,hnil⟩
 simp -dsimp
 exact ⟨hle,hout,st,rfl,hrow,hnil⟩
theorem readSame_fn (F:Nat) (p:List UInt8→R) (hp:good p) (hF:F≤1000000) (hf:RFn 165 F p):RFn 111 F (rRow p 61 5 F):=by
 refine rowFn 165 p 61 5 F hp hF hf 111 fun s hs m n h => ?_
 generalize rRow p 61 5 F s=r at *
 refine FS (rs:=[.tmp 2,.tmp 3,.tmp 4]) false Tryz.func111 ?_
 simp -dsimp
 refine callS_ h ?_
 rintro t m1 n1 ⟨hle,hout,st,rfl,hrow,hnil⟩
 simp -dsimp
 exact ⟨hle,hout,st,rfl,hrow,hnil⟩
/-- What readPart does with its first sign. -/
theorem rPart_letter (f:Nat) (c:UInt8) (s:List UInt8) (h1:97≤c.toNat) (h2:c.toNat≤122):rPart atomI (f+1) (c :: s)=⟨[⟨0,(c.toNat:Int)-97⟩],s,true⟩:=rPart_one _ _ _ _ _ (if_pos ⟨h1,h2⟩)
theorem rPart_digit (f:Nat) (c:UInt8) (s:List UInt8) (h0:¬(97≤c.toNat∧c.toNat≤122)) (h1:48≤c.toNat) (h2:c.toNat≤57):rPart atomI (f+1) (c :: s)=⟨[⟨1,(c.toNat:Int)-48⟩],s,true⟩:=rPart_one _ _ _ _ _ (by unfold atomI; rw [if_neg h0,if_pos ⟨h1,h2⟩])
theorem rPart_else (A:UInt8→Option Mark) (f:Nat) (c:UInt8) (s:List UInt8) (h:A c=none) (h1:c ≠ 33) (h2:c ≠ 40):rPart A (f+1) (c :: s)=⟨[],c :: s,false⟩:=by
 show (match A c with
  | some m=>_
  | none=>_)=_
 rw [h]; simp only; rw [if_neg h1,if_neg h2]
theorem atomI_none {c:UInt8} (h0:¬(97≤c.toNat∧c.toNat≤122)) (h1:¬(48≤c.toNat∧c.toNat≤57)):atomI c=none:=by unfold atomI; rw [if_neg h0,if_neg h1]
theorem readPart_fn:∀ F,F≤1000000→RFn 217 F (rPart atomI F)
 | 0,_=>fun s hs m n=>by
  have:s=[]:=List.length_eq_zero_iff.1 (by omega)
  subst this
  refine FS (rs:=[.tmp 2,.tmp 3,.tmp 4]) false Tryz.func217 ?_
  simp -dsimp
  exact RPost.mk' (Nat.le_refl _) (fun _ _=>rfl) (.inl ⟨rfl,rfl⟩) (by simp) rfl rfl
 | F+1,hF=>fun s hs m n=>by
  cases s with
  | nil =>
   refine FS (rs:=[.tmp 2,.tmp 3,.tmp 4]) false Tryz.func217 ?_
   simp -dsimp
   exact RPost.mk' (Nat.le_refl _) (fun _ _=>rfl) (.inl ⟨rfl,rfl⟩) (by simp) rfl rfl
  | cons c s =>
   have hs':s.length≤F:=by simpa using hs
   have hp:=rPart_good atomI_good F
   have ih:=readPart_fn F (by omega)
   have hS:RFn 111 F (rSame atomI F):=readSame_fn F _ (rRow_good (rRow_good hp (by omega) (by omega) F) (by omega) (by omega) F) (by omega) (readOr_fn F _ (rRow_good hp (by omega) (by omega) F) (by omega) (readAnd_fn F _ hp (by omega) ih))
   have gp:=(hp s).1
   have gs:=(rRow_good (rRow_good (rRow_good hp (sg:=38) (k:=3) (by omega) (by omega) F) (sg:=124) (k:=4) (by omega) (by omega) F) (sg:=61) (k:=5) (by omega) (by omega) F s).1
   have gs:(rSame atomI F s).ms.length+(rSame atomI F s).rest.length≤s.length:=gs
   have hlt:=UInt8.toNat_lt c
   have l1:(1:Int)≤(s.length:Int)+1:=by omega
   have l2:((s.length:Int)+1).toNat=s.length+1:=by omega
   have run:∀ (post:T→Mem→Nat→Prop),(FnS Tryz.prog 217 m n [.v (.str (c :: s))] post→FnS Tryz.prog 217 m n [.v (.str (c :: s))] post):=fun _ h=>h
   by_cases hlet:97≤c.toNat∧c.toNat≤122
   ·have i1:(97:Int)≤c.toNat:=by omega
    have i2:(c.toNat:Int)≤122:=by omega
    have w1:IntKind.wrap .u8 ((c.toNat:Int)-97)=(c.toNat:Int)-97:=by rw [IntKind.wrap_u8]; omega
    have w2:IntKind.wrap .i64 ((c.toNat:Int)-97)=(c.toNat:Int)-97:=w64 (by omega) (by omega)
    rw [rPart_letter F c s hlet.1 hlet.2]
    refine FS (rs:=[.tmp 2,.tmp 3,.tmp 4]) false Tryz.func217 ?_
    simp -dsimp
    refine twd (List.range 6) [] (List.replicate 6 []) (List.replicate 6 []) ?_
    simp -dsimp [List.range_succ,i1,i2,w1,w2,l1,l2]
    exact RPost.mk' (by omega) (fun j hj=>by simp; omega) (.inr ⟨n,rfl,by omega,by omega,by simp [Mark.v]⟩) (by simp) rfl rfl
   by_cases hdig:48≤c.toNat∧c.toNat≤57
   ·have i1:(48:Int)≤c.toNat:=by omega
    have i2:(c.toNat:Int)≤57:=by omega
    have i3:¬(97:Int)≤c.toNat:=by omega
    have w1:IntKind.wrap .u8 ((c.toNat:Int)-48)=(c.toNat:Int)-48:=by rw [IntKind.wrap_u8]; omega
    have w2:IntKind.wrap .i64 ((c.toNat:Int)-48)=(c.toNat:Int)-48:=w64 (by omega) (by omega)
    rw [rPart_digit F c s hlet hdig.1 hdig.2]
    refine FS (rs:=[.tmp 2,.tmp 3,.tmp 4]) false Tryz.func217 ?_
    simp -dsimp
    refine twd (List.range 6) [] (List.replicate 6 []) (List.replicate 6 []) ?_
    simp -dsimp [List.range_succ,i1,i2,i3,w1,w2,l1,l2]
    exact RPost.mk' (by omega) (fun j hj=>by simp; omega) (.inr ⟨n,rfl,by omega,by omega,by simp [Mark.v]⟩) (by simp) rfl rfl
   have hA:=atomI_none hlet hdig
   by_cases h33:c=33
   ·subst h33
    have ePart:=rPart_not atomI F s rfl
    have hq:=ih s hs' 
    rw [ePart]
    have b1:((rPart atomI F s).ms.length+1) * 16≤140737488355328:=by omega
    refine FS (rs:=[.tmp 2,.tmp 3,.tmp 4]) false Tryz.func217 ?_
    simp -dsimp
    refine twd (List.range 6) [] (List.replicate 6 []) (List.replicate 6 []) ?_
    simp -dsimp [List.range_succ,l1,l2]
    refine callS_ (hq _ _) ?_
    rintro t m2 n2 ⟨hle2,hout2,st2,rfl,hrow2,hnil2⟩
    rcases hrow2 with ⟨rfl,h0⟩ | ⟨i2,rfl,hj0,hj1,hmj⟩
    ·have hq0:(rPart atomI F s).ms=[]:=by simpa using h0
     simp -dsimp
     refine RPost.mk' (by omega) (fun j hj => ?_) (.inr ⟨_,rfl,by omega,by omega,by simp [hq0,Mark.v,nes]⟩) (by simp) rfl rfl
     have hj':j<n:=hj
     have f3:=far (show j<n2 by omega)
     simp [f3,hout2 j hj]
    ·have f2:=far hj1
     simp -dsimp [hmj,f2,b1,nes]
     refine RPost.mk' (by omega) (fun j hj => ?_) (.inr ⟨_,rfl,by omega,by omega,by simp [Mark.v,nes]⟩) (by simp) rfl rfl
     have hj':j<n:=hj
     have f3:=far (show j<n2 by omega)
     have f4:¬j=i2:=by omega
     simp [f3,f4,hout2 j hj]
   by_cases h40:c=40
   ·subst h40
    have ePart:=rPart_open atomI F s rfl
    have hq:=hS s hs'
    rw [ePart]
    have hcl:(rSame atomI F s).rest.length≤1000000000:=by omega
    have esh:shut (rSame atomI F s)=⟨(rSame atomI F s).ms,(cutB (rSame atomI F s).rest 41).1,(rSame atomI F s).ok && (cutB (rSame atomI F s).rest 41).2⟩:=by
     unfold shut cutB
     cases (rSame atomI F s).rest with
     | nil=>simp
     | cons x r =>
      simp only
      split <;> simp
    rw [esh]
    refine FS (rs:=[.tmp 2,.tmp 3,.tmp 4]) false Tryz.func217 ?_
    simp -dsimp
    refine twd (List.range 6) [] (List.replicate 6 []) (List.replicate 6 []) ?_
    simp -dsimp [List.range_succ,l1,l2]
    refine callS_ (hq _ _) ?_
    rintro t m2 n2 ⟨hle2,hout2,st2,rfl,hrow2,hnil2⟩
    simp -dsimp
    refine cl (cutPrefix_fn (rSame atomI F s).rest 41 hcl) ?_
    simp -dsimp
    have hb:=ft (rSame atomI F s).ok
    rcases hb with hb | hb
    ·simp -dsimp [hb]
     exact RPost.mk' hle2 hout2 hrow2 (by simp) rfl (by simp)
    ·simp -dsimp [hb]
     exact RPost.mk' hle2 hout2 hrow2 (fun _=>hnil2 hb) rfl (by simp)
   have eElse:=rPart_else atomI F c s hA h33 h40
   rw [eElse]
   have k33:¬(c.toNat:Int)=33:=fun h=>h33 (UInt8.toNat.inj (by show c.toNat=33; omega))
   have k40:¬(c.toNat:Int)=40:=fun h=>h40 (UInt8.toNat.inj (by show c.toNat=40; omega))
   have three:((¬(97:Int)≤c.toNat)∧¬(48:Int)≤c.toNat)∨((¬(97:Int)≤c.toNat)∧(48:Int)≤c.toNat∧¬(c.toNat:Int)≤57)∨((97:Int)≤c.toNat∧(¬(c.toNat:Int)≤122)∧(48:Int)≤c.toNat∧¬(c.toNat:Int)≤57):=by omega
   rcases three with ⟨h1,h2⟩ | ⟨h1,h2,h3⟩ | ⟨h1,h2,h3,h4⟩
   ·refine FS (rs:=[.tmp 2,.tmp 3,.tmp 4]) false Tryz.func217 ?_
    simp -dsimp
    refine twd (List.range 6) [] (List.replicate 6 []) (List.replicate 6 []) ?_
    simp -dsimp [List.range_succ,l1,l2,h1,h2,k33,k40]
    exact RPost.mk' (Nat.le_refl _) (fun _ _=>rfl) (.inl ⟨rfl,rfl⟩) (by simp) rfl rfl
   ·refine FS (rs:=[.tmp 2,.tmp 3,.tmp 4]) false Tryz.func217 ?_
    simp -dsimp
    refine twd (List.range 6) [] (List.replicate 6 []) (List.replicate 6 []) ?_
    simp -dsimp [List.range_succ,l1,l2,h1,h2,h3,k33,k40]
    exact RPost.mk' (Nat.le_refl _) (fun _ _=>rfl) (.inl ⟨rfl,rfl⟩) (by simp) rfl rfl
   ·refine FS (rs:=[.tmp 2,.tmp 3,.tmp 4]) false Tryz.func217 ?_
    simp -dsimp
    refine twd (List.range 6) [] (List.replicate 6 []) (List.replicate 6 []) ?_
    simp -dsimp [List.range_succ,l1,l2,h1,h2,h3,h4,k33,k40]
    exact RPost.mk' (Nat.le_refl _) (fun _ _=>rfl) (.inl ⟨rfl,rfl⟩) (by simp) rfl rfl
theorem readSame_all (F:Nat) (hF:F≤1000000):RFn 111 F (rSame atomI F):=by
 have hp:=rPart_good atomI_good F
 exact readSame_fn F _ (rRow_good (rRow_good hp (by omega) (by omega) F) (by omega) (by omega) F) (by omega) (readOr_fn F _ (rRow_good hp (by omega) (by omega) F) (by omega) (readAnd_fn F _ hp (by omega) (readPart_fn F hF)))
end TL

namespace TL
open Go Go.Proofs
attribute [local simp] marksV storyV codeV Claim.v Place.v
theorem drop_one {Tx:List UInt8} {q:Nat} {c:UInt8} {more:List UInt8} (h:Tx.drop q=c :: more):Tx[q]? = some c∧Tx.drop (q+1)=more∧q<Tx.length:=by
 have hlt:q<Tx.length:=by
  rcases Nat.lt_or_ge q Tx.length with h1 | h1
  ·exact h1
  ·rw [List.drop_eq_nil_of_le h1] at h; cases h
 rw [drop_cons hlt] at h
 injection h with h1 h2
 exact ⟨by rw [List.getElem?_eq_getElem hlt,h1],h2,hlt⟩
/-- What a reader of the reference gives back. -/
structure SPost (Tx:List UInt8) (L:Nat) (m:Mem) (n:Nat) (r:R) (t:T) (m':Mem) (n':Nat):Prop where
 le:n≤n'
 out:∀ j,j<n→m' j=m j
 res:∃ (i:Nat) (xs:List Mark) (next:Int),t=.tup [.loc i,.v (.int .i64 next)]∧n≤i∧i<n'∧m' i=some (.arr 119 (xs.map Mark.v))∧xs.length≤L ∧
  (r.ok=true→xs=r.ms∧∃ q:Nat,next=q∧Tx.drop q=r.rest∧q≤Tx.length)∧(r.ok=false→next = -1)
abbrev SFn (f:Nat) (Tx:List UInt8) (F:Nat) (more:List T) (p:List UInt8→R):Prop:=∀ q:Nat,q≤Tx.length→Tx.length-q≤F→∀ m n,FnS Tryz.prog f m n ([.v (.str Tx),.v (.int .i64 q)]++more) (SPost Tx (Tx.length-q) m n (p (Tx.drop q)))
def numAt:T→Int
 | .v (.int _ z)=>z
 | _=>0
@[simp] theorem numAt_int (k:IntKind) (z:Int):numAt (.v (.int k z))=z:=rfl
def Isl (Tx:List UInt8) (L:Nat) (m0:Mem) (n0:Nat) (p:List UInt8→R) (sg:UInt8) (k:Int) (G:R) (s:S):Prop:=∃ (i:Nat) (xs:List Mark) (next:Int),
 s.tm 0=.v (.str Tx)∧s.tm 2=.v (.int .i64 k)∧s.tm 8=.v (.int .u8 sg.toNat)∧s.tm 9=.loc i∧s.tm 10=.v (.int .i64 next)∧s.mu=false∧n0≤s.n∧(∀ j,j<n0→s.m j=m0 j) ∧
 n0≤i∧i<s.n∧s.m i=some (.arr 119 (xs.map Mark.v))∧xs.length≤L ∧
 ((next = -1∧G.ok=false)∨∃ (q g:Nat),next=q∧q≤Tx.length∧Tx.length-q≤g∧Tx.length-q≤L∧xs.length+(Tx.length-q)≤L∧G=rLoop p sg k g xs (Tx.drop q))
def Xsl (Tx:List UInt8) (L:Nat) (m0:Mem) (n0:Nat) (G:R) (s:S):Prop:=∃ (i:Nat) (xs:List Mark) (next:Int),
 s.tm 9=.loc i∧s.tm 10=.v (.int .i64 next)∧n0≤s.n∧(∀ j,j<n0→s.m j=m0 j) ∧
 n0≤i∧i<s.n∧s.m i=some (.arr 119 (xs.map Mark.v))∧xs.length≤L ∧
 (G.ok=true→xs=G.ms∧∃ q:Nat,next=q∧Tx.drop q=G.rest∧q≤Tx.length)∧(G.ok=false→next = -1)
theorem level_start {Tx:List UInt8} {p:List UInt8→R} {sg:UInt8} {k:Int} {F L q:Nat} {xs:List Mark} {next:Int} (hF:L≤F) (g0:(p (Tx.drop q)).ms.length+(p (Tx.drop q)).rest.length≤L)
  (hok:(p (Tx.drop q)).ok=true→xs=(p (Tx.drop q)).ms∧∃ q':Nat,next=q'∧Tx.drop q'=(p (Tx.drop q)).rest∧q'≤Tx.length) (hno:(p (Tx.drop q)).ok=false→next = -1) :
  (next = -1∧(rRow p sg k F (Tx.drop q)).ok=false)∨∃ (q' g:Nat),next=q'∧q'≤Tx.length∧Tx.length-q'≤g∧Tx.length-q'≤L∧xs.length+(Tx.length-q')≤L∧rRow p sg k F (Tx.drop q)=rLoop p sg k g xs (Tx.drop q'):=by
 have hb:=ft (p (Tx.drop q)).ok
 rcases hb with hb | hb
 ·left; exact ⟨hno hb,by unfold rRow; rw [if_neg (by simp [hb])]⟩
 ·obtain ⟨rfl,q',e1,e2,e3⟩:=hok hb
  have e4:=congrArg List.length e2
  rw [List.length_drop] at e4
  right; exact ⟨q',F,e1,e3,by omega,by omega,by omega,by unfold rRow; rw [if_pos hb,e2]⟩
theorem level_next {Tx:List UInt8} {p:List UInt8→R} {sg:UInt8} {k:Int} {L L2:Nat} {xs ys:List Mark} {next:Int} {more:List UInt8} {G:R}
  (hG:∃ g',more.length≤g'∧G=if (p more).ok=true then rLoop p sg k g' (xs++(p more).ms++[(⟨k,0⟩:Mark)]) (p more).rest else (⟨[],(p more).rest,false⟩:R)) (g2:(p more).ms.length+(p more).rest.length≤L2)
  (hok:(p more).ok=true→ys=(p more).ms∧∃ q':Nat,next=q'∧Tx.drop q'=(p more).rest∧q'≤Tx.length) (hno:(p more).ok=false→next = -1) (h1:more.length=L2) (h2:xs.length+1+L2≤L) :
  (next = -1∧G.ok=false)∨∃ (q' g:Nat),next=q'∧q'≤Tx.length∧Tx.length-q'≤g∧Tx.length-q'≤L∧(xs++ys++[(⟨k,0⟩:Mark)]).length+(Tx.length-q')≤L∧G=rLoop p sg k g (xs++ys++[⟨k,0⟩]) (Tx.drop q'):=by
 obtain ⟨g',hg',rfl⟩:=hG
 have hb:=ft (p more).ok
 rcases hb with hb | hb
 ·left; exact ⟨hno hb,by rw [if_neg (by simp [hb])]⟩
 ·obtain ⟨rfl,q',e1,e2,e3⟩:=hok hb
  have e4:=congrArg List.length e2
  rw [List.length_drop] at e4
  right; exact ⟨q',g',e1,e3,by omega,by omega,by simp; omega,by rw [if_pos hb,e2]⟩
theorem level_mu {Tx:List UInt8} {p:List UInt8→R} {L2:Nat} {ys:List Mark} {next:Int} {more:List UInt8} (g2:(p more).ms.length+(p more).rest.length≤L2)
  (hok:(p more).ok=true→ys=(p more).ms∧∃ q':Nat,next=q'∧Tx.drop q'=(p more).rest∧q'≤Tx.length) (hno:(p more).ok=false→next = -1) :
  (if next<0 then 0 else Tx.length+1-next.toNat)≤L2+1:=by
 have hb:=ft (p more).ok
 rcases hb with hb | hb
 ·rw [hno hb]; simp
 ·obtain ⟨_,q',rfl,e2,e3⟩:=hok hb
  have e4:=congrArg List.length e2
  rw [List.length_drop] at e4
  rw [if_neg (by omega)]; omega
theorem level_step {Tx:List UInt8} {p:List UInt8→R} {sg:UInt8} {k:Int} {g q:Nat} {xs:List Mark} {more:List UInt8} (hd:Tx.drop q=sg :: more) (hg:Tx.length-q≤g) :
  ∃ g',more.length≤g'∧rLoop p sg k g xs (Tx.drop q)=if (p more).ok=true then rLoop p sg k g' (xs++(p more).ms++[⟨k,0⟩]) (p more).rest else ⟨[],(p more).rest,false⟩:=by
 have e4:=congrArg List.length hd
 rw [List.length_drop] at e4
 cases g with
 | zero=>simp at e4; omega
 | succ g=>exact ⟨g,by simp at e4; omega,by rw [hd]; simp only [rLoop,if_true]⟩
theorem l2Level_fn (Tx:List UInt8) (hS:Tx.length≤1000000) (F:Nat) (p:List UInt8→R) (sg:UInt8) (k:Int) (hk:(k=3∧sg=38)∨(k=4∧sg=124)∨(k=5∧sg=61)) (hp:good p) (hf:SFn 132 Tx F [.v (.int .i64 (k-1))] p) :
  SFn 132 Tx F [.v (.int .i64 k)] (rRow p sg k F):=by
 intro q hq hF m n
 have g0:=(hp (Tx.drop q)).1
 rw [List.length_drop] at g0
 generalize hL:Tx.length-q=L at *
 have hf0:=hf q hq (by omega)
 rw [hL] at hf0
 rcases hk with ⟨rfl,rfl⟩ | ⟨rfl,rfl⟩ | ⟨rfl,rfl⟩
 ·refine FS (rs:=[.tmp 6,.tmp 7]) false Tryz.func132 ?_
  simp -dsimp [show IntKind.wrap .i64 0=0 from rfl,show IntKind.wrap .i64 1=1 from rfl,show IntKind.wrap .i64 2=2 from rfl,show IntKind.wrap .i64 3=3 from rfl,show IntKind.wrap .i64 4=4 from rfl]
  refine callS_ (hf0 _ _) ?_
  rintro t m1 n1 ⟨hle,hout,i,xs,next,rfl,hi0,hi1,hmi,hxl,hok,hno⟩
  simp -dsimp
  refine twp_loopC (Isl Tx L m n p 38 3 (rRow p 38 3 F (Tx.drop q))) (fun s=>if numAt (s.tm 10)<0 then 0 else Tx.length+1-(numAt (s.tm 10)).toNat) (Xsl Tx L m n (rRow p 38 3 F (Tx.drop q))) ?_ ?_ ?_
  ·refine ⟨i,xs,next,by simp -dsimp,by simp -dsimp,by simp -dsimp,by simp -dsimp,by simp -dsimp,by simp -dsimp,by simp -dsimp [hle],by simp -dsimp; exact hout,hi0,by simp -dsimp [hi1],by simp -dsimp [hmi],hxl, ?_⟩
   exact level_start hF g0 hok hno
  ·rintro s1 ⟨i,xs,next,t0,t2,t8,t9,t10,hmu,hn,hm,hi0,hi1,hmi,hxl,hcase⟩
   rcases hcase with ⟨rfl,hG⟩ | ⟨q2,g,rfl,hq2,hg2,hqL,hxq,hG⟩
   ·simp -dsimp [t0,t10]
    exact ⟨i,xs, -1,by simp -dsimp [t9],by simp -dsimp [t10],by simp -dsimp [hn],by simp -dsimp; exact hm,hi0,by simp -dsimp [hi1],by simp -dsimp [hmi],hxl,by simp [hG],fun _=>rfl⟩
   have z0:¬(q2:Int)<0:=by omega
   cases hd:Tx.drop q2 with
   | nil =>
    have hql:q2=Tx.length:=by
     rcases Nat.lt_or_ge q2 Tx.length with h | h
     ·rw [drop_cons h] at hd; cases hd
     ·omega
    have z1:¬(q2:Int)<(Tx.length:Int):=by omega
    have z2:¬q2<Tx.length:=by omega
    rw [rLoop_stop g xs (by rw [hd]; simp [noHead])] at hG
    simp -dsimp [t0,t10,z0,z1,z2]
    exact ⟨i,xs,q2,by simp -dsimp [t9],by simp -dsimp [t10],by simp -dsimp [hn],by simp -dsimp; exact hm,hi0,by simp -dsimp [hi1],by simp -dsimp [hmi],hxl,fun _=>⟨by rw [hG],q2,rfl,by rw [hG],hq2⟩,by simp [hG]⟩
   | cons c more =>
    obtain ⟨d1,d2,d3⟩:=drop_one hd
    have z1:(q2:Int)<(Tx.length:Int):=by omega
    have d4:Tx[q2]=c:=by rw [List.getElem?_eq_getElem d3] at d1; exact Option.some.inj d1
    by_cases hc:c=38
    case neg =>
     have hc':¬(c.toNat:Int)=38:=fun h=>hc (UInt8.toNat.inj (by show c.toNat=38; omega))
     rw [rLoop_stop g xs (by rw [hd]; simp [noHead,hc])] at hG
     simp -dsimp [t0,t8,t10,z0,z1,d1,d3,d4,hc']
     exact ⟨i,xs,q2,by simp -dsimp [t9],by simp -dsimp [t10],by simp -dsimp [hn],by simp -dsimp; exact hm,hi0,by simp -dsimp [hi1],by simp -dsimp [hmi],hxl,fun _=>⟨by rw [hG],q2,rfl,by rw [hG],hq2⟩,by simp [hG]⟩
    subst hc
    have h2:=hf (q2+1) (by omega) (by omega)
    have eq1:((q2+1:Nat):Int)=(q2:Int)+1:=by omega
    rw [eq1] at h2
    have w1:IntKind.wrap .i64 ((q2:Int)+1)=(q2:Int)+1:=w64 (by omega) (by omega)
    have g2:=(hp (Tx.drop (q2+1))).1
    rw [List.length_drop] at g2
    have hG2:=level_step (p:=p) (sg:=38) (k:=3) (xs:=xs) (g:=g) (hd) hg2
    rw [d2] at h2 g2
    have hml:more.length=Tx.length-(q2+1):=by rw [← d2,List.length_drop]
    rw [← hG] at hG2
    clear hG hd
    generalize hq3:q2+1=q3 at *
    generalize hL2:Tx.length-q3=L2 at *
    simp -dsimp [t0,t2,t8,t10,z0,z1,d1,d3,d4,w1,show IntKind.wrap .i64 0=0 from rfl,show IntKind.wrap .i64 1=1 from rfl,show IntKind.wrap .i64 2=2 from rfl,show IntKind.wrap .i64 3=3 from rfl,show IntKind.wrap .i64 4=4 from rfl]
    refine callS_ (h2 _ _) ?_
    rintro t m2 n2 ⟨hle2,hout2,i2,ys,next2,rfl,hj0,hj1,hmj,hyl,hok2,hno2⟩
    have hi2:i<n2:=by omega
    have hmi2:m2 i=some (.arr 119 (xs.map Mark.v)):=by rw [hout2 i hi1,hmi]
    have f1:=far hi2
    have f2:=far hj1
    have b0:xs.length * 16≤140737488355328:=by omega
    have b1:(xs.length+ys.length) * 16≤140737488355328:=by omega
    have b2:(xs.length+ys.length+1) * 16≤140737488355328:=by omega
    simp -dsimp [t0,t2,t8,t9,t10,hmu,hmi2,hmj,f1,f2,b0,b1,b2,nes]
    refine ⟨st_out fun s' ht hm' hn' hu' => ?_, ?_⟩
    ·have a0:=ht 0
     have a2:=ht 2
     have a8:=ht 8
     have a9:=ht 9
     have a10:=ht 10
     simp -dsimp [t0,t2,t8] at a0 a2 a8 a9 a10 hm' hn' hu'
     clear ht
     refine ⟨_,xs++ys++[⟨3,0⟩],next2,a0,a2,a8,a9,a10,by rw [hu',hmu],by omega,fun j hj => ?_,by omega,by omega, ?_,by simp; omega, ?_⟩
     ·have e1:j<n2:=by omega
      have e2:¬j=i:=by rintro rfl; omega
      have e3:=far e1
      simp [hm',e2,e3,hout2 j (by omega),hm j hj]
     ·simp [hm',nes,Mark.v]
     ·exact level_next hG2 g2 hok2 hno2 (by omega) (by omega)
    ·have:=level_mu (Tx:=Tx) g2 hok2 hno2
     generalize (p more).ok=b at *
     simp only [t10,numAt_int,if_neg z0] at this ⊢
     omega
  ·rintro s1 ⟨i,xs,next,t9,t10,hn,hm,hi0,hi1,hmi,hxl,hok,hno⟩
   simp -dsimp [t9,t10]
   exact ⟨hn,hm,i,xs,next,rfl,hi0,hi1,hmi,hxl,hok,hno⟩
 ·refine FS (rs:=[.tmp 6,.tmp 7]) false Tryz.func132 ?_
  simp -dsimp [show IntKind.wrap .i64 0=0 from rfl,show IntKind.wrap .i64 1=1 from rfl,show IntKind.wrap .i64 2=2 from rfl,show IntKind.wrap .i64 3=3 from rfl,show IntKind.wrap .i64 4=4 from rfl]
  refine callS_ (hf0 _ _) ?_
  rintro t m1 n1 ⟨hle,hout,i,xs,next,rfl,hi0,hi1,hmi,hxl,hok,hno⟩
  simp -dsimp
  refine twp_loopC (Isl Tx L m n p 124 4 (rRow p 124 4 F (Tx.drop q))) (fun s=>if numAt (s.tm 10)<0 then 0 else Tx.length+1-(numAt (s.tm 10)).toNat) (Xsl Tx L m n (rRow p 124 4 F (Tx.drop q))) ?_ ?_ ?_
  ·refine ⟨i,xs,next,by simp -dsimp,by simp -dsimp,by simp -dsimp,by simp -dsimp,by simp -dsimp,by simp -dsimp,by simp -dsimp [hle],by simp -dsimp; exact hout,hi0,by simp -dsimp [hi1],by simp -dsimp [hmi],hxl, ?_⟩
   exact level_start hF g0 hok hno
  ·rintro s1 ⟨i,xs,next,t0,t2,t8,t9,t10,hmu,hn,hm,hi0,hi1,hmi,hxl,hcase⟩
   rcases hcase with ⟨rfl,hG⟩ | ⟨q2,g,rfl,hq2,hg2,hqL,hxq,hG⟩
   ·simp -dsimp [t0,t10]
    exact ⟨i,xs, -1,by simp -dsimp [t9],by simp -dsimp [t10],by simp -dsimp [hn],by simp -dsimp; exact hm,hi0,by simp -dsimp [hi1],by simp -dsimp [hmi],hxl,by simp [hG],fun _=>rfl⟩
   have z0:¬(q2:Int)<0:=by omega
   cases hd:Tx.drop q2 with
   | nil =>
    have hql:q2=Tx.length:=by
     rcases Nat.lt_or_ge q2 Tx.length with h | h
     ·rw [drop_cons h] at hd; cases hd
     ·omega
    have z1:¬(q2:Int)<(Tx.length:Int):=by omega
    have z2:¬q2<Tx.length:=by omega
    rw [rLoop_stop g xs (by rw [hd]; simp [noHead])] at hG
    simp -dsimp [t0,t10,z0,z1,z2]
    exact ⟨i,xs,q2,by simp -dsimp [t9],by simp -dsimp [t10],by simp -dsimp [hn],by simp -dsimp; exact hm,hi0,by simp -dsimp [hi1],by simp -dsimp [hmi],hxl,fun _=>⟨by rw [hG],q2,rfl,by rw [hG],hq2⟩,by simp [hG]⟩
   | cons c more =>
    obtain ⟨d1,d2,d3⟩:=drop_one hd
    have z1:(q2:Int)<(Tx.length:Int):=by omega
    have d4:Tx[q2]=c:=by rw [List.getElem?_eq_getElem d3] at d1; exact Option.some.inj d1
    by_cases hc:c=124
    case neg =>
     have hc':¬(c.toNat:Int)=124:=fun h=>hc (UInt8.toNat.inj (by show c.toNat=124; omega))
     rw [rLoop_stop g xs (by rw [hd]; simp [noHead,hc])] at hG
     simp -dsimp [t0,t8,t10,z0,z1,d1,d3,d4,hc']
     exact ⟨i,xs,q2,by simp -dsimp [t9],by simp -dsimp [t10],by simp -dsimp [hn],by simp -dsimp; exact hm,hi0,by simp -dsimp [hi1],by simp -dsimp [hmi],hxl,fun _=>⟨by rw [hG],q2,rfl,by rw [hG],hq2⟩,by simp [hG]⟩
    subst hc
    have h2:=hf (q2+1) (by omega) (by omega)
    have eq1:((q2+1:Nat):Int)=(q2:Int)+1:=by omega
    rw [eq1] at h2
    have w1:IntKind.wrap .i64 ((q2:Int)+1)=(q2:Int)+1:=w64 (by omega) (by omega)
    have g2:=(hp (Tx.drop (q2+1))).1
    rw [List.length_drop] at g2
    have hG2:=level_step (p:=p) (sg:=124) (k:=4) (xs:=xs) (g:=g) (hd) hg2
    rw [d2] at h2 g2
    have hml:more.length=Tx.length-(q2+1):=by rw [← d2,List.length_drop]
    rw [← hG] at hG2
    clear hG hd
    generalize hq3:q2+1=q3 at *
    generalize hL2:Tx.length-q3=L2 at *
    simp -dsimp [t0,t2,t8,t10,z0,z1,d1,d3,d4,w1,show IntKind.wrap .i64 0=0 from rfl,show IntKind.wrap .i64 1=1 from rfl,show IntKind.wrap .i64 2=2 from rfl,show IntKind.wrap .i64 3=3 from rfl,show IntKind.wrap .i64 4=4 from rfl]
    refine callS_ (h2 _ _) ?_
    rintro t m2 n2 ⟨hle2,hout2,i2,ys,next2,rfl,hj0,hj1,hmj,hyl,hok2,hno2⟩
    have hi2:i<n2:=by omega
    have hmi2:m2 i=some (.arr 119 (xs.map Mark.v)):=by rw [hout2 i hi1,hmi]
    have f1:=far hi2
    have f2:=far hj1
    have b0:xs.length * 16≤140737488355328:=by omega
    have b1:(xs.length+ys.length) * 16≤140737488355328:=by omega
    have b2:(xs.length+ys.length+1) * 16≤140737488355328:=by omega
    simp -dsimp [t0,t2,t8,t9,t10,hmu,hmi2,hmj,f1,f2,b0,b1,b2,nes]
    refine ⟨st_out fun s' ht hm' hn' hu' => ?_, ?_⟩
    ·have a0:=ht 0
     have a2:=ht 2
     have a8:=ht 8
     have a9:=ht 9
     have a10:=ht 10
     simp -dsimp [t0,t2,t8] at a0 a2 a8 a9 a10 hm' hn' hu'
     clear ht
     refine ⟨_,xs++ys++[⟨4,0⟩],next2,a0,a2,a8,a9,a10,by rw [hu',hmu],by omega,fun j hj => ?_,by omega,by omega, ?_,by simp; omega, ?_⟩
     ·have e1:j<n2:=by omega
      have e2:¬j=i:=by rintro rfl; omega
      have e3:=far e1
      simp [hm',e2,e3,hout2 j (by omega),hm j hj]
     ·simp [hm',nes,Mark.v]
     ·exact level_next hG2 g2 hok2 hno2 (by omega) (by omega)
    ·have:=level_mu (Tx:=Tx) g2 hok2 hno2
     generalize (p more).ok=b at *
     simp only [t10,numAt_int,if_neg z0] at this ⊢
     omega
  ·rintro s1 ⟨i,xs,next,t9,t10,hn,hm,hi0,hi1,hmi,hxl,hok,hno⟩
   simp -dsimp [t9,t10]
   exact ⟨hn,hm,i,xs,next,rfl,hi0,hi1,hmi,hxl,hok,hno⟩
 ·refine FS (rs:=[.tmp 6,.tmp 7]) false Tryz.func132 ?_
  simp -dsimp [show IntKind.wrap .i64 0=0 from rfl,show IntKind.wrap .i64 1=1 from rfl,show IntKind.wrap .i64 2=2 from rfl,show IntKind.wrap .i64 3=3 from rfl,show IntKind.wrap .i64 4=4 from rfl]
  refine callS_ (hf0 _ _) ?_
  rintro t m1 n1 ⟨hle,hout,i,xs,next,rfl,hi0,hi1,hmi,hxl,hok,hno⟩
  simp -dsimp
  refine twp_loopC (Isl Tx L m n p 61 5 (rRow p 61 5 F (Tx.drop q))) (fun s=>if numAt (s.tm 10)<0 then 0 else Tx.length+1-(numAt (s.tm 10)).toNat) (Xsl Tx L m n (rRow p 61 5 F (Tx.drop q))) ?_ ?_ ?_
  ·refine ⟨i,xs,next,by simp -dsimp,by simp -dsimp,by simp -dsimp,by simp -dsimp,by simp -dsimp,by simp -dsimp,by simp -dsimp [hle],by simp -dsimp; exact hout,hi0,by simp -dsimp [hi1],by simp -dsimp [hmi],hxl, ?_⟩
   exact level_start hF g0 hok hno
  ·rintro s1 ⟨i,xs,next,t0,t2,t8,t9,t10,hmu,hn,hm,hi0,hi1,hmi,hxl,hcase⟩
   rcases hcase with ⟨rfl,hG⟩ | ⟨q2,g,rfl,hq2,hg2,hqL,hxq,hG⟩
   ·simp -dsimp [t0,t10]
    exact ⟨i,xs, -1,by simp -dsimp [t9],by simp -dsimp [t10],by simp -dsimp [hn],by simp -dsimp; exact hm,hi0,by simp -dsimp [hi1],by simp -dsimp [hmi],hxl,by simp [hG],fun _=>rfl⟩
   have z0:¬(q2:Int)<0:=by omega
   cases hd:Tx.drop q2 with
   | nil =>
    have hql:q2=Tx.length:=by
     rcases Nat.lt_or_ge q2 Tx.length with h | h
     ·rw [drop_cons h] at hd; cases hd
     ·omega
    have z1:¬(q2:Int)<(Tx.length:Int):=by omega
    have z2:¬q2<Tx.length:=by omega
    rw [rLoop_stop g xs (by rw [hd]; simp [noHead])] at hG
    simp -dsimp [t0,t10,z0,z1,z2]
    exact ⟨i,xs,q2,by simp -dsimp [t9],by simp -dsimp [t10],by simp -dsimp [hn],by simp -dsimp; exact hm,hi0,by simp -dsimp [hi1],by simp -dsimp [hmi],hxl,fun _=>⟨by rw [hG],q2,rfl,by rw [hG],hq2⟩,by simp [hG]⟩
   | cons c more =>
    obtain ⟨d1,d2,d3⟩:=drop_one hd
    have z1:(q2:Int)<(Tx.length:Int):=by omega
    have d4:Tx[q2]=c:=by rw [List.getElem?_eq_getElem d3] at d1; exact Option.some.inj d1
    by_cases hc:c=61
    case neg =>
     have hc':¬(c.toNat:Int)=61:=fun h=>hc (UInt8.toNat.inj (by show c.toNat=61; omega))
     rw [rLoop_stop g xs (by rw [hd]; simp [noHead,hc])] at hG
     simp -dsimp [t0,t8,t10,z0,z1,d1,d3,d4,hc']
     exact ⟨i,xs,q2,by simp -dsimp [t9],by simp -dsimp [t10],by simp -dsimp [hn],by simp -dsimp; exact hm,hi0,by simp -dsimp [hi1],by simp -dsimp [hmi],hxl,fun _=>⟨by rw [hG],q2,rfl,by rw [hG],hq2⟩,by simp [hG]⟩
    subst hc
    have h2:=hf (q2+1) (by omega) (by omega)
    have eq1:((q2+1:Nat):Int)=(q2:Int)+1:=by omega
    rw [eq1] at h2
    have w1:IntKind.wrap .i64 ((q2:Int)+1)=(q2:Int)+1:=w64 (by omega) (by omega)
    have g2:=(hp (Tx.drop (q2+1))).1
    rw [List.length_drop] at g2
    have hG2:=level_step (p:=p) (sg:=61) (k:=5) (xs:=xs) (g:=g) (hd) hg2
    rw [d2] at h2 g2
    have hml:more.length=Tx.length-(q2+1):=by rw [← d2,List.length_drop]
    rw [← hG] at hG2
    clear hG hd
    generalize hq3:q2+1=q3 at *
    generalize hL2:Tx.length-q3=L2 at *
    simp -dsimp [t0,t2,t8,t10,z0,z1,d1,d3,d4,w1,show IntKind.wrap .i64 0=0 from rfl,show IntKind.wrap .i64 1=1 from rfl,show IntKind.wrap .i64 2=2 from rfl,show IntKind.wrap .i64 3=3 from rfl,show IntKind.wrap .i64 4=4 from rfl]
    refine callS_ (h2 _ _) ?_
    rintro t m2 n2 ⟨hle2,hout2,i2,ys,next2,rfl,hj0,hj1,hmj,hyl,hok2,hno2⟩
    have hi2:i<n2:=by omega
    have hmi2:m2 i=some (.arr 119 (xs.map Mark.v)):=by rw [hout2 i hi1,hmi]
    have f1:=far hi2
    have f2:=far hj1
    have b0:xs.length * 16≤140737488355328:=by omega
    have b1:(xs.length+ys.length) * 16≤140737488355328:=by omega
    have b2:(xs.length+ys.length+1) * 16≤140737488355328:=by omega
    simp -dsimp [t0,t2,t8,t9,t10,hmu,hmi2,hmj,f1,f2,b0,b1,b2,nes]
    refine ⟨st_out fun s' ht hm' hn' hu' => ?_, ?_⟩
    ·have a0:=ht 0
     have a2:=ht 2
     have a8:=ht 8
     have a9:=ht 9
     have a10:=ht 10
     simp -dsimp [t0,t2,t8] at a0 a2 a8 a9 a10 hm' hn' hu'
     clear ht
     refine ⟨_,xs++ys++[⟨5,0⟩],next2,a0,a2,a8,a9,a10,by rw [hu',hmu],by omega,fun j hj => ?_,by omega,by omega, ?_,by simp; omega, ?_⟩
     ·have e1:j<n2:=by omega
      have e2:¬j=i:=by rintro rfl; omega
      have e3:=far e1
      simp [hm',e2,e3,hout2 j (by omega),hm j hj]
     ·simp [hm',nes,Mark.v]
     ·exact level_next hG2 g2 hok2 hno2 (by omega) (by omega)
    ·have:=level_mu (Tx:=Tx) g2 hok2 hno2
     generalize (p more).ok=b at *
     simp only [t10,numAt_int,if_neg z0] at this ⊢
     omega
  ·rintro s1 ⟨i,xs,next,t9,t10,hn,hm,hi0,hi1,hmi,hxl,hok,hno⟩
   simp -dsimp [t9,t10]
   exact ⟨hn,hm,i,xs,next,rfl,hi0,hi1,hmi,hxl,hok,hno⟩
theorem l2Level_base (Tx:List UInt8) (F:Nat) (p:List UInt8→R) (hf:SFn 176 Tx F [] p):SFn 132 Tx F [.v (.int .i64 2)] p:=by
 intro q hq hF m n
 have h:=hf q hq hF m n
 generalize Tx.length-q=L at *
 generalize p (Tx.drop q)=r at *
 refine FS (rs:=[.tmp 6,.tmp 7]) false Tryz.func132 ?_
 simp -dsimp
 refine callS_ h ?_
 rintro t m1 n1 ⟨hle,hout,i,xs,next,rfl,hi0,hi1,hmi,hxl,hok,hno⟩
 simp -dsimp
 exact ⟨hle,hout,i,xs,next,rfl,hi0,hi1,hmi,hxl,hok,hno⟩
theorem l2Level_all (Tx:List UInt8) (hS:Tx.length≤1000000) (F:Nat) (hf:SFn 176 Tx F [] (rPart atomS F)):SFn 132 Tx F [.v (.int .i64 5)] (rSame atomS F):=by
 have hp:=rPart_good atomS_good F
 have h3:=l2Level_fn Tx hS F _ 38 3 (.inl ⟨rfl,rfl⟩) hp (l2Level_base Tx F _ hf)
 have g3:=rRow_good hp (sg:=38) (k:=3) (by omega) (by omega) F
 have h4:=l2Level_fn Tx hS F _ 124 4 (.inr (.inl ⟨rfl,rfl⟩)) g3 h3
 have g4:=rRow_good g3 (sg:=124) (k:=4) (by omega) (by omega) F
 exact l2Level_fn Tx hS F _ 61 5 (.inr (.inr ⟨rfl,rfl⟩)) g4 h4
theorem SPost.mk' {Tx:List UInt8} {L:Nat} {r:R} {m m':Mem} {n n' i:Nat} {next:Int} (xs:List Mark) (h1:n≤n') (h2:∀ j,j<n→m' j=m j) (h3:n≤i) (h4:i<n') (h5:m' i=some (.arr 119 (xs.map Mark.v))) (h6:xs.length≤L)
  (h7:r.ok=true→xs=r.ms∧∃ q:Nat,next=q∧Tx.drop q=r.rest∧q≤Tx.length) (h8:r.ok=false→next = -1):SPost Tx L m n r (.tup [.loc i,.v (.int .i64 next)]) m' n':=⟨h1,h2,i,xs,next,rfl,h3,h4,h5,h6,h7,h8⟩
theorem sPart_letter (f:Nat) (c:UInt8) (s:List UInt8) (h1:97≤c.toNat) (h2:c.toNat≤100):rPart atomS (f+1) (c :: s)=⟨[⟨0,(c.toNat:Int)-97⟩],s,true⟩:=rPart_one _ _ _ _ _ (if_pos ⟨h1,h2⟩)
theorem sPart_digit (f:Nat) (c:UInt8) (s:List UInt8) (h0:¬(97≤c.toNat∧c.toNat≤100)) (h1:48≤c.toNat) (h2:c.toNat≤53):rPart atomS (f+1) (c :: s)=⟨[⟨1,(c.toNat:Int)-48⟩],s,true⟩:=rPart_one _ _ _ _ _ (by unfold atomS; rw [if_neg h0,if_pos ⟨h1,h2⟩])
theorem atomS_none {c:UInt8} (h0:¬(97≤c.toNat∧c.toNat≤100)) (h1:¬(48≤c.toNat∧c.toNat≤53)):atomS c=none:=by unfold atomS; rw [if_neg h0,if_neg h1]
theorem l2Atom_end (Tx:List UInt8) (hS:Tx.length≤1000000) (m:Mem) (n:Nat) (r:R) (hr:r.ok=false) (L:Nat):FnS Tryz.prog 176 m n [.v (.str Tx),.v (.int .i64 Tx.length)] (SPost Tx L m n r):=by
 have z0:¬(Tx.length:Int)<0:=by omega
 refine FS (rs:=[.tmp 4,.tmp 5]) false Tryz.func176 ?_
 simp -dsimp [z0]
 exact SPost.mk' [] (by omega) (fun j hj=>by simp; omega) (by omega) (by omega) (by simp) (by simp) (by simp [hr]) (fun _=>rfl)
theorem l2Atom_fn (Tx:List UInt8) (hS:Tx.length≤1000000):∀ F,SFn 176 Tx F [] (rPart atomS F)
 | 0=>fun q hq hF m n=>by
  have e:q=Tx.length:=by omega
  subst e
  exact l2Atom_end Tx hS m n _ rfl _
 | F+1=>fun q hq hF m n=>by
  by_cases hql:q=Tx.length
  ·subst hql
   refine l2Atom_end Tx hS m n _ ?_ _
   rw [List.drop_length]; rfl
  have hlt:q<Tx.length:=by omega
  have hd:Tx.drop q=Tx[q] :: Tx.drop (q+1):=drop_cons hlt
  rw [hd]
  have ih:=l2Atom_fn Tx hS F (q+1) (by omega) (by omega)
  have hSm:=l2Level_all Tx hS F (l2Atom_fn Tx hS F) (q+1) (by omega) (by omega)
  have eq1:((q+1:Nat):Int)=(q:Int)+1:=by omega
  rw [eq1] at ih hSm
  have gS:(rSame atomS F (Tx.drop (q+1))).ms.length+(rSame atomS F (Tx.drop (q+1))).rest.length≤(Tx.drop (q+1)).length:=(rRow_good (rRow_good (rRow_good (rPart_good atomS_good F) (sg:=38) (k:=3) (by omega) (by omega) F) (sg:=124) (k:=4) (by omega) (by omega) F) (sg:=61) (k:=5) (by omega) (by omega) F _).1
  rw [List.length_drop] at gS
  have hlt8:=UInt8.toNat_lt Tx[q]
  have z0:¬(q:Int)<0:=by omega
  have z1:¬(Tx.length:Int)≤(q:Int):=by omega
  have z2:¬Tx.length≤q:=by omega
  have w1:IntKind.wrap .i64 ((q:Int)+1)=(q:Int)+1:=w64 (by omega) (by omega)
  have hL1:Tx.length-q=Tx.length-(q+1)+1:=by omega
  rw [hL1]
  generalize hc:Tx[q]=c at *
  generalize hs:Tx.drop (q+1)=s at *
  generalize hL2:Tx.length-(q+1)=L at *
  have hq1:q+1≤Tx.length:=by omega
  by_cases hlet:97≤c.toNat∧c.toNat≤100
  ·have i1:(97:Int)≤c.toNat:=by omega
   have i2:(c.toNat:Int)≤100:=by omega
   have v1:IntKind.wrap .u8 ((c.toNat:Int)-97)=(c.toNat:Int)-97:=by rw [IntKind.wrap_u8]; omega
   have v2:IntKind.wrap .i64 ((c.toNat:Int)-97)=(c.toNat:Int)-97:=w64 (by omega) (by omega)
   rw [sPart_letter F c s hlet.1 hlet.2]
   refine FS (rs:=[.tmp 4,.tmp 5]) false Tryz.func176 ?_
   simp -dsimp [z0,z1,z2,hlt,hc,i1,i2,v1,v2,w1]
   exact SPost.mk' [⟨0,(c.toNat:Int)-97⟩] (by omega) (fun j hj=>by simp; omega) (by omega) (by omega) (by simp [Mark.v]) (by simp) (fun _=>⟨rfl,q+1,by omega,hs,hq1⟩) (by simp)
  by_cases hdig:48≤c.toNat∧c.toNat≤53
  ·have i1:(48:Int)≤c.toNat:=by omega
   have i2:(c.toNat:Int)≤53:=by omega
   have i3:¬(97:Int)≤c.toNat:=by omega
   have v1:IntKind.wrap .u8 ((c.toNat:Int)-48)=(c.toNat:Int)-48:=by rw [IntKind.wrap_u8]; omega
   have v2:IntKind.wrap .i64 ((c.toNat:Int)-48)=(c.toNat:Int)-48:=w64 (by omega) (by omega)
   rw [sPart_digit F c s hlet hdig.1 hdig.2]
   refine FS (rs:=[.tmp 4,.tmp 5]) false Tryz.func176 ?_
   simp -dsimp [z0,z1,z2,hlt,hc,i1,i2,i3,v1,v2,w1]
   exact SPost.mk' [⟨1,(c.toNat:Int)-48⟩] (by omega) (fun j hj=>by simp; omega) (by omega) (by omega) (by simp [Mark.v]) (by simp) (fun _=>⟨rfl,q+1,by omega,hs,hq1⟩) (by simp)
  have hA:=atomS_none hlet hdig
  by_cases h33:c=33
  ·subst h33
   have ePart:=rPart_not atomS F s rfl
   rw [ePart]
   refine FS (rs:=[.tmp 4,.tmp 5]) false Tryz.func176 ?_
   simp -dsimp [z0,z1,z2,hlt,hc,w1]
   refine callS_ (ih _ _) ?_
   rintro t m2 n2 ⟨hle2,hout2,i2,xs,next2,rfl,hj0,hj1,hmj,hyl,hok2,hno2⟩
   have f2:=far hj1
   have b0:xs.length * 16≤140737488355328:=by omega
   have b1:(xs.length+1) * 16≤140737488355328:=by omega
   simp -dsimp [hmj,f2,b0,b1,nes]
   refine SPost.mk' (xs++[⟨2,0⟩]) (by omega) (fun j hj => ?_) (by omega) (by omega) (by simp [Mark.v,nes]) (by simp; omega) (fun h => ?_) hno2
   ·have f3:=far (show j<n2 by omega)
    have hj':j<n:=hj
    have f4:¬j=i2:=by omega
    simp [f3,f4,hout2 j hj]
   ·obtain ⟨e1,e2⟩:=hok2 h
    exact ⟨by rw [e1],e2⟩
  by_cases h40:c=40
  ·subst h40
   have ePart:=rPart_open atomS F s rfl
   rw [ePart]
   have hb:=ft (rSame atomS F s).ok
   rcases hb with hb | hb
   ·refine FS (rs:=[.tmp 4,.tmp 5]) false Tryz.func176 ?_
    simp -dsimp [z0,z1,z2,hlt,hc,w1]
    refine callS_ (hSm _ _) ?_
    rintro t m2 n2 ⟨hle2,hout2,i2,xs,next2,rfl,hj0,hj1,hmj,hyl,hok2,hno2⟩
    have hn1:=hno2 hb
    have esh:(shut (rSame atomS F s)).ok=false:=by
     unfold shut; split
     ·rfl
     ·split
      ·exact hb
      ·rfl
    simp -dsimp [hn1]
    refine SPost.mk' [] (by omega) (fun j hj => ?_) (by omega) (by omega) (by simp) (by simp) (by simp [esh]) (fun _=>rfl)
    have f3:=far (show j<n2 by omega)
    simp [f3,hout2 j hj]
   cases hr:(rSame atomS F s).rest with
   | nil =>
    have esh:(shut (rSame atomS F s)).ok=false:=by unfold shut; rw [hr]
    refine FS (rs:=[.tmp 4,.tmp 5]) false Tryz.func176 ?_
    simp -dsimp [z0,z1,z2,hlt,hc,w1]
    refine callS_ (hSm _ _) ?_
    rintro t m2 n2 ⟨hle2,hout2,i2,xs,next2,rfl,hj0,hj1,hmj,hyl,hok2,hno2⟩
    refine (hok2 hb).2.elim fun q3 hq => ?_
    have e1:=hq.1
    have e2:=hq.2.1
    have e3:=hq.2.2
    have hq3:q3=Tx.length:=by
     have e4:=congrArg List.length e2
     rw [hr,List.length_drop] at e4
     simp at e4; omega
    have y0:¬(q3:Int)<0:=by omega
    have y1:(Tx.length:Int)≤(q3:Int):=by omega
    have y2:Tx.length≤q3:=by omega
    simp -dsimp [e1,y0,y1,y2]
    refine SPost.mk' [] (by omega) (fun j hj => ?_) (by omega) (by omega) (by simp) (by simp) (by simp [esh]) (fun _=>rfl)
    have f3:=far (show j<n2 by omega)
    simp [f3,hout2 j hj]
   | cons x r =>
    have esh:shut (rSame atomS F s)=if x=41 then ⟨(rSame atomS F s).ms,r,true⟩ else ⟨(rSame atomS F s).ms,x :: r,false⟩:=by unfold shut; rw [hr,hb]
    rw [esh]
    by_cases hx:x=41
    ·subst hx
     rw [if_pos rfl]
     refine FS (rs:=[.tmp 4,.tmp 5]) false Tryz.func176 ?_
     simp -dsimp [z0,z1,z2,hlt,hc,w1]
     refine callS_ (hSm _ _) ?_
     rintro t m2 n2 ⟨hle2,hout2,i2,xs,next2,rfl,hj0,hj1,hmj,hyl,hok2,hno2⟩
     have hms:=(hok2 hb).1
     refine (hok2 hb).2.elim fun q3 hq => ?_
     have e1:=hq.1
     have e2:=hq.2.1
     have e3:=hq.2.2
     have e4:Tx.drop q3=41 :: r:=e2.trans hr
     have d1:=(drop_one e4).1
     have d2:=(drop_one e4).2.1
     have d3:=(drop_one e4).2.2
     have d4:Tx[q3]=41:=by have h:=d1; rw [List.getElem?_eq_getElem d3] at h; exact Option.some.inj h
     have y0:¬(q3:Int)<0:=by omega
     have y1:¬(Tx.length:Int)≤(q3:Int):=by omega
     have y2:¬Tx.length≤q3:=by omega
     have v1:IntKind.wrap .i64 ((q3:Int)+1)=(q3:Int)+1:=w64 (by omega) (by omega)
     simp -dsimp [e1,y0,y1,y2,d3,d4,v1]
     exact SPost.mk' xs (by omega) hout2 (by omega) (by omega) hmj (by omega) (fun _=>⟨hms,q3+1,by omega,d2,by omega⟩) (by simp)
    ·have hx':¬(x.toNat:Int)=41:=fun h=>hx (UInt8.toNat.inj (by show x.toNat=41; omega))
     rw [if_neg hx]
     refine FS (rs:=[.tmp 4,.tmp 5]) false Tryz.func176 ?_
     simp -dsimp [z0,z1,z2,hlt,hc,w1]
     refine callS_ (hSm _ _) ?_
     rintro t m2 n2 ⟨hle2,hout2,i2,xs,next2,rfl,hj0,hj1,hmj,hyl,hok2,hno2⟩
     refine (hok2 hb).2.elim fun q3 hq => ?_
     have e1:=hq.1
     have e2:=hq.2.1
     have e3:=hq.2.2
     have e4:Tx.drop q3=x :: r:=e2.trans hr
     have d1:=(drop_one e4).1
     have d3:=(drop_one e4).2.2
     have d4:Tx[q3]=x:=by have h:=d1; rw [List.getElem?_eq_getElem d3] at h; exact Option.some.inj h
     have y0:¬(q3:Int)<0:=by omega
     have y1:¬(Tx.length:Int)≤(q3:Int):=by omega
     have y2:¬Tx.length≤q3:=by omega
     simp -dsimp [e1,y0,y1,y2,d3,d4,hx']
     refine SPost.mk' [] (by omega) (fun j hj => ?_) (by omega) (by omega) (by simp) (by simp) (by simp) (fun _=>rfl)
     have f3:=far (show j<n2 by omega)
     simp [f3,hout2 j hj]
  have eElse:=rPart_else atomS F c s hA h33 h40
  rw [eElse]
  have k33:¬(c.toNat:Int)=33:=fun h=>h33 (UInt8.toNat.inj (by show c.toNat=33; omega))
  have k40:¬(c.toNat:Int)=40:=fun h=>h40 (UInt8.toNat.inj (by show c.toNat=40; omega))
  have three:((¬(97:Int)≤c.toNat)∧¬(48:Int)≤c.toNat)∨((¬(97:Int)≤c.toNat)∧(48:Int)≤c.toNat∧¬(c.toNat:Int)≤53)∨((97:Int)≤c.toNat∧(¬(c.toNat:Int)≤100)∧(48:Int)≤c.toNat∧¬(c.toNat:Int)≤53):=by omega
  rcases three with ⟨h1,h2⟩ | ⟨h1,h2,h3⟩ | ⟨h1,h2,h3,h4⟩
  ·refine FS (rs:=[.tmp 4,.tmp 5]) false Tryz.func176 ?_
   simp -dsimp [z0,z1,z2,hlt,hc,h1,h2,k33,k40]
   exact SPost.mk' [] (by omega) (fun j hj=>by simp; omega) (by omega) (by omega) (by simp) (by simp) (by simp) (fun _=>rfl)
  ·refine FS (rs:=[.tmp 4,.tmp 5]) false Tryz.func176 ?_
   simp -dsimp [z0,z1,z2,hlt,hc,h1,h2,h3,k33,k40]
   exact SPost.mk' [] (by omega) (fun j hj=>by simp; omega) (by omega) (by omega) (by simp) (by simp) (by simp) (fun _=>rfl)
  ·refine FS (rs:=[.tmp 4,.tmp 5]) false Tryz.func176 ?_
   simp -dsimp [z0,z1,z2,hlt,hc,h1,h2,h3,h4,k33,k40]
   exact SPost.mk' [] (by omega) (fun j hj=>by simp; omega) (by omega) (by omega) (by simp) (by simp) (by simp) (fun _=>rfl)
end TL

namespace TL
open Go Go.Proofs
attribute [local simp] marksV storyV codeV Claim.v Place.v
theorem Tm.kind_le:∀ T:Tm,T.ok→T.kind≤5
 | .tells _,_=>by simp [kind]
 | .count _,_=>by simp [kind]
 | .not _,_=>by simp [kind]
 | .bin k a b,h=>by have:=h.1; simp [kind]; omega
theorem held_tm (a:Tm) (ha:a.ok) (hl:a.marks.length≤1048576) (ih:FnZ Tryz.prog 144 [marksV a.marks] (.str a.text)) (ks:List Int) (hks:ks.length≤10) (q:Bool) (hq:decide ((a.kind:Int) ∈ ks)=q) :
  FnZ Tryz.prog 183 [marksV a.marks,.sl (ks.map (V.int .i64))] (.str (par q a.text)):=by
 obtain ⟨pre,m,h1,h2⟩:=a.last
 have:=a.text_len
 have h:=held_fn a.marks a.text pre m ks h1 ih (by omega) hl hks
 rw [h2,hq] at h
 exact h
theorem textOf_fn:∀ T:Tm,T.ok→T.marks.length≤1048576→FnZ Tryz.prog 144 [marksV T.marks] (.str T.text)
 | .tells i,hok,hl=>by
  have hi:i<4:=hok
  have w1:IntKind.wrap .i64 (97+(i:Int))=97+i:=w64 (by omega) (by omega)
  have w2:IntKind.wrap .u8 (97+(i:Int))=97+i:=by rw [IntKind.wrap_u8]; omega
  have w3:(97+(i:Int)).toNat=97+i:=by omega
  have w4:IntKind.wrap .i64 0=0:=rfl
  refine FZ (rs:=[.tmp 2]) false Tryz.func144 ?_
  simp -dsimp [Tm.marks,Mark.v,w1,w2,w3,w4,Tm.text]
 | .count i,hok,hl=>by
  have hi:i<6:=hok
  have w1:IntKind.wrap .i64 (48+(i:Int))=48+i:=w64 (by omega) (by omega)
  have w2:IntKind.wrap .u8 (48+(i:Int))=48+i:=by rw [IntKind.wrap_u8]; omega
  have w3:(48+(i:Int)).toNat=48+i:=by omega
  have w4:IntKind.wrap .i64 0=0:=rfl
  refine FZ (rs:=[.tmp 2]) false Tryz.func144 ?_
  simp -dsimp [Tm.marks,Mark.v,w1,w2,w3,w4,Tm.text]
 | .not a,hok,hl=>by
  have hla:a.marks.length≤1048576:=by simp [Tm.marks] at hl; omega
  have ih:=textOf_fn a hok hla
  have hka:=a.kind_le hok
  have htl:=a.text_len
  have hpl:=par_len (decide (3≤a.kind)) a.text
  have hh:=held_tm a hok hla ih [3,4,5] (by simp) (decide (3≤a.kind)) (by rw [Bool.eq_iff_iff]; simp; omega)
  have e0:(Tm.not a).marks=a.marks++[⟨2,0⟩]:=rfl
  have hlen:(Tm.not a).marks.length=a.marks.length+1:=by rw [e0]; simp
  have hget:(Tm.not a).marks[a.marks.length]? = some ⟨2,0⟩:=by rw [e0]; simp
  have htake:List.take a.marks.length (List.map Mark.v (Tm.not a).marks)=List.map Mark.v a.marks:=by rw [e0]; simp
  have w1:IntKind.wrap .i64 (((Tm.not a).marks.length:Int)-1)=(a.marks.length:Int):=by rw [w64 (by omega) (by omega)]; omega
  have hle:a.marks.length≤(Tm.not a).marks.length:=by omega
  have b1:(1:Int)+(par (decide (3≤a.kind)) a.text).length≤9223372036854775807:=by omega
  have et:(Tm.not a).text=33 :: par (decide (3≤a.kind)) a.text:=rfl
  rw [et]
  generalize (Tm.not a).marks=l at *
  generalize par (decide (3≤a.kind)) a.text=s at *
  refine FZ (rs:=[.tmp 2]) false Tryz.func144 ?_
  simp -dsimp [w1,hget,htake,hle]
  refine cl hh ?_
  simp -dsimp [b1]
 | .bin k a b,hok,hl=>by
  obtain ⟨hk,hoa,hob⟩:=hok
  have hlab:a.marks.length+b.marks.length≤1048575:=by simp [Tm.marks] at hl; omega
  have iha:=textOf_fn a hoa (by omega)
  have ihb:=textOf_fn b hob (by omega)
  have hka:=a.kind_le hoa
  have hkb:=b.kind_le hob
  have hta:=a.text_len
  have htb:=b.text_len
  have hpa:=par_len (decide (3+k<a.kind)) a.text
  have hpb:=par_len (decide (3+k≤b.kind)) b.text
  have hlp:=lastPart_fn a.marks b hob (by simp; omega)
  have e0:(Tm.bin k a b).marks=a.marks++b.marks++[⟨3+k,0⟩]:=rfl
  have hlen:(Tm.bin k a b).marks.length=a.marks.length+b.marks.length+1:=by rw [e0]; simp; omega
  have hget:(Tm.bin k a b).marks[a.marks.length+b.marks.length]? = some ⟨3+k,0⟩:=by
   rw [e0,List.getElem?_append_right (by simp)]; simp
  have htake:List.take (a.marks.length+b.marks.length) (List.map Mark.v (Tm.bin k a b).marks)=List.map Mark.v (a.marks++b.marks):=by
   rw [e0,List.map_append,List.take_left' (by simp)]
  have htake2:List.take a.marks.length (List.map Mark.v (Tm.bin k a b).marks)=List.map Mark.v a.marks:=by
   rw [e0,List.append_assoc,List.map_append,List.take_left' (by simp)]
  have hdrop:List.drop a.marks.length (List.map Mark.v (a.marks++b.marks))=List.map Mark.v b.marks:=by
   rw [List.map_append,List.drop_left' (by simp)]
  have et:(Tm.bin k a b).text=par (decide (3+k<a.kind)) a.text++sign k :: par (decide (3+k≤b.kind)) b.text:=rfl
  have hha:=held_tm a hoa (by omega) iha
  have hhb:=held_tm b hob (by omega) ihb
  rw [et]
  obtain ⟨n,hn⟩:∃ n,n=a.marks.length+b.marks.length:=⟨_,rfl⟩
  rw [← hn] at hlen hget htake
  have hc1:a.marks.length≤n:=by omega
  have hle:n≤(Tm.bin k a b).marks.length:=by omega
  have w1:IntKind.wrap .i64 (((Tm.bin k a b).marks.length:Int)-1)=(n:Int):=by rw [w64 (by omega) (by omega)]; omega
  have hkk:k=0∨k=1∨k=2:=by omega
  generalize hL:(Tm.bin k a b).marks=l at *
  generalize hM:a.marks++b.marks=M at *
  clear e0 hL hM et
  rcases hkk with hkk | hkk | hkk
  ·subst hkk
   have h1:=hha [4,5] (by simp) (decide (3+0<a.kind)) (by rw [Bool.eq_iff_iff]; simp; omega)
   have h2:=hhb [3,4,5] (by simp) (decide (3+0≤b.kind)) (by rw [Bool.eq_iff_iff]; simp; omega)
   generalize par (decide (3+0<a.kind)) a.text=s1 at *
   generalize par (decide (3+0≤b.kind)) b.text=s2 at *
   have c1:(s1.length:Int)+1≤9223372036854775807:=by omega
   have c2:(s1.length:Int)+1+s2.length≤9223372036854775807:=by omega
   have c3:(s1.length:Int)+(1+s2.length)≤9223372036854775807:=by omega
   refine FZ (rs:=[.tmp 2]) false Tryz.func144 ?_
   simp -dsimp [w1,hget,htake,hle,Mark.v]
   refine cl hlp ?_
   simp -dsimp
   refine twd (List.range 9) [] (List.replicate 9 []) (List.replicate 9 []) ?_
   simp -dsimp [List.range_succ,htake,htake2,hdrop,hle,hc1,show a.marks.length≤l.length by omega]
   refine cl h1 ?_
   simp -dsimp [c1]
   refine cl h2 ?_
   simp -dsimp [c1,c2,c3,sign]
  ·subst hkk
   have h1:=hha [5] (by simp) (decide (3+1<a.kind)) (by rw [Bool.eq_iff_iff]; simp; omega)
   have h2:=hhb [4,5] (by simp) (decide (3+1≤b.kind)) (by rw [Bool.eq_iff_iff]; simp; omega)
   generalize par (decide (3+1<a.kind)) a.text=s1 at *
   generalize par (decide (3+1≤b.kind)) b.text=s2 at *
   have c1:(s1.length:Int)+1≤9223372036854775807:=by omega
   have c2:(s1.length:Int)+1+s2.length≤9223372036854775807:=by omega
   have c3:(s1.length:Int)+(1+s2.length)≤9223372036854775807:=by omega
   refine FZ (rs:=[.tmp 2]) false Tryz.func144 ?_
   simp -dsimp [w1,hget,htake,hle,Mark.v]
   refine cl hlp ?_
   simp -dsimp
   refine twd (List.range 9) [] (List.replicate 9 []) (List.replicate 9 []) ?_
   simp -dsimp [List.range_succ,htake,htake2,hdrop,hle,hc1,show a.marks.length≤l.length by omega]
   refine cl h1 ?_
   simp -dsimp [c1]
   refine cl h2 ?_
   simp -dsimp [c1,c2,c3,sign]
  ·subst hkk
   have h1:=iha
   have e5:par (decide (3+2<a.kind)) a.text=a.text:=by rw [decide_eq_false (by omega)]; rfl
   rw [e5]
   have h2:=hhb [5] (by simp) (decide (3+2≤b.kind)) (by rw [Bool.eq_iff_iff]; simp; omega)
   generalize a.text=s1 at *
   generalize par (decide (3+2≤b.kind)) b.text=s2 at *
   have c1:(s1.length:Int)+1≤9223372036854775807:=by omega
   have c2:(s1.length:Int)+1+s2.length≤9223372036854775807:=by omega
   have c3:(s1.length:Int)+(1+s2.length)≤9223372036854775807:=by omega
   refine FZ (rs:=[.tmp 2]) false Tryz.func144 ?_
   simp -dsimp [w1,hget,htake,hle,Mark.v]
   refine cl hlp ?_
   simp -dsimp
   refine twd (List.range 9) [] (List.replicate 9 []) (List.replicate 9 []) ?_
   simp -dsimp [List.range_succ,htake,htake2,hdrop,hle,hc1,show a.marks.length≤l.length by omega]
   refine cl h1 ?_
   simp -dsimp [c1]
   refine cl h2 ?_
   simp -dsimp [c1,c2,c3,sign]
end TL

namespace TL
open Go Go.Proofs
attribute [local simp] marksV storyV codeV Claim.v Place.v
theorem l1Number_fn (n:Nat) (hn:n<10):FnZ Tryz.prog 76 [.int .i64 n] (.str [UInt8.ofNat (48+n)]):=by
 have h1:(n:Int)<10:=by omega
 have h2:max (n:Int) 0=n:=by omega
 have w1:IntKind.wrap .i64 (48+(n:Int))=48+n:=w64 (by omega) (by omega)
 have w2:IntKind.wrap .u8 (48+(n:Int))=48+n:=by rw [IntKind.wrap_u8]; omega
 have w3:(48+(n:Int)).toNat=48+n:=by omega
 refine FZ (rs:=[.tmp 2]) false Tryz.func76 ?_
 simp -dsimp [h1,hn,h2,w1,w2,w3]
theorem l2Binds_fn (l pre:List Mark) (m:Mark) (hlast:l=pre++[m]) (h0:0≤m.kind) (h5:m.kind≤5) (hl:l.length≤1048576):FnZ Tryz.prog 151 [marksV l] (.int .i64 (min (5-m.kind) 3)):=by
 have hlen:l.length=pre.length+1:=by rw [hlast]; simp
 have hget:l[pre.length]? = some m:=by rw [hlast]; simp
 have w1:IntKind.wrap .i64 ((l.length:Int)-1)=(pre.length:Int):=by rw [w64 (by omega) (by omega)]; omega
 have w2:IntKind.wrap .i64 (5-m.kind)=5-m.kind:=w64 (by omega) (by omega)
 generalize pre.length=n at *
 refine FZ (rs:=[.tmp 2]) false Tryz.func151 ?_
 simp -dsimp [w1,w2,hget]
theorem l2Held_fn (l:List Mark) (st:List UInt8) (pre:List Mark) (m:Mark) (b:Int) (q:Bool) (hq:decide (min (5-m.kind) 3<b)=q) (hlast:l=pre++[m]) (h0:0≤m.kind) (h5:m.kind≤5) (h:FnZ Tryz.prog 98 [marksV l] (.str st)) (hs:st.length≤1000000000) (hl:l.length≤1048576) :
  FnZ Tryz.prog 149 [marksV l,.int .i64 b] (.str (par q st)):=by
 have b1:(1:Int)+st.length≤9223372036854775807:=by omega
 have b2:(st.length:Int)+1+1≤9223372036854775807:=by omega
 have hb:=l2Binds_fn l pre m hlast h0 h5 hl
 generalize min (5-m.kind) 3=x at *
 refine FZ (rs:=[.tmp 4]) false Tryz.func149 ?_
 simp -dsimp
 refine cl hb ?_
 by_cases hx:x<b
 ·rw [decide_eq_true hx] at hq
  subst hq
  simp -dsimp [hx]
  refine cl h ?_
  simp -dsimp [b1,b2,par]
 ·rw [decide_eq_false hx] at hq
  subst hq
  simp -dsimp [hx]
  refine cl h ?_
  simp -dsimp [par]
theorem l2Held_tm (a:Tm) (ha:a.ok) (hl:a.marks.length≤1048576) (ih:FnZ Tryz.prog 98 [marksV a.marks] (.str a.text)) (b:Int) (q:Bool) (hq:decide (min (5-(a.kind:Int)) 3<b)=q) :
  FnZ Tryz.prog 149 [marksV a.marks,.int .i64 b] (.str (par q a.text)):=by
 obtain ⟨pre,m,h1,h2⟩:=a.last
 have:=a.text_len
 have:=a.kind_le ha
 exact l2Held_fn a.marks a.text pre m b q (by rw [h2]; exact hq) h1 (by omega) (by omega) ih (by omega) hl
theorem l2Text_fn:∀ T:Tm,T.ok→T.marks.length≤1048576→FnZ Tryz.prog 98 [marksV T.marks] (.str T.text)
 | .tells i,hok,hl=>by
  have hi:i=0∨i=1∨i=2∨i=3:=by have:i<4:=hok; omega
  have w4:IntKind.wrap .i64 0=0:=rfl
  rcases hi with rfl | rfl | rfl | rfl
  all_goals
   refine FZ (rs:=[.tmp 2]) false Tryz.func98 ?_
   simp -dsimp [Tm.marks,Mark.v,w4,Tm.text]
   refine twd (List.range 13) [] (List.replicate 13 []) (List.replicate 13 []) ?_
   simp -dsimp [List.range_succ,Tm.marks,Mark.v,w4,Tm.text,show IntKind.wrap .i64 1=1 from rfl,show IntKind.wrap .i64 2=2 from rfl,show IntKind.wrap .i64 3=3 from rfl,show IntKind.wrap .i64 4=4 from rfl]
 | .count i,hok,hl=>by
  have hi:i<6:=hok
  have w4:IntKind.wrap .i64 0=0:=rfl
  refine FZ (rs:=[.tmp 2]) false Tryz.func98 ?_
  simp -dsimp [Tm.marks,Mark.v,w4,Tm.text]
  refine cl (l1Number_fn i (by omega)) ?_
  simp -dsimp [Tm.text]
 | .not a,hok,hl=>by
  have hla:a.marks.length≤1048576:=by simp [Tm.marks] at hl; omega
  have ih:=l2Text_fn a hok hla
  have hka:=a.kind_le hok
  have htl:=a.text_len
  have hpl:=par_len (decide (3≤a.kind)) a.text
  have hh:=l2Held_tm a hok hla ih 3 (decide (3≤a.kind)) (by rw [Bool.eq_iff_iff]; simp; omega)
  have e0:(Tm.not a).marks=a.marks++[⟨2,0⟩]:=rfl
  have hlen:(Tm.not a).marks.length=a.marks.length+1:=by rw [e0]; simp
  have hget:(Tm.not a).marks[a.marks.length]? = some ⟨2,0⟩:=by rw [e0]; simp
  have htake:List.take a.marks.length (List.map Mark.v (Tm.not a).marks)=List.map Mark.v a.marks:=by rw [e0]; simp
  have w1:IntKind.wrap .i64 (((Tm.not a).marks.length:Int)-1)=(a.marks.length:Int):=by rw [w64 (by omega) (by omega)]; omega
  have hle:a.marks.length≤(Tm.not a).marks.length:=by omega
  have b1:(1:Int)+(par (decide (3≤a.kind)) a.text).length≤9223372036854775807:=by omega
  have et:(Tm.not a).text=33 :: par (decide (3≤a.kind)) a.text:=rfl
  rw [et]
  generalize (Tm.not a).marks=l at *
  generalize par (decide (3≤a.kind)) a.text=s at *
  refine FZ (rs:=[.tmp 2]) false Tryz.func98 ?_
  simp -dsimp [w1,hget,htake,hle]
  refine cl hh ?_
  simp -dsimp [b1]
 | .bin k a b,hok,hl=>by
  obtain ⟨hk,hoa,hob⟩:=hok
  have hlab:a.marks.length+b.marks.length≤1048575:=by simp [Tm.marks] at hl; omega
  have iha:=l2Text_fn a hoa (by omega)
  have ihb:=l2Text_fn b hob (by omega)
  have hka:=a.kind_le hoa
  have hkb:=b.kind_le hob
  have hta:=a.text_len
  have htb:=b.text_len
  have hpa:=par_len (decide (3+k<a.kind)) a.text
  have hpb:=par_len (decide (3+k≤b.kind)) b.text
  have hlp:=l2Starts_fn a.marks [⟨3+k,0⟩] b hob (by simp; omega)
  have hbd:=l2Binds_fn (Tm.bin k a b).marks (a.marks++b.marks) ⟨3+k,0⟩ rfl (by simp; omega) (by simp; omega) hl
  have e0:(Tm.bin k a b).marks=a.marks++b.marks++[⟨3+k,0⟩]:=rfl
  have hlen:(Tm.bin k a b).marks.length=a.marks.length+b.marks.length+1:=by rw [e0]; simp; omega
  have hget:(Tm.bin k a b).marks[a.marks.length+b.marks.length]? = some ⟨3+k,0⟩:=by
   rw [e0,List.getElem?_append_right (by simp)]; simp
  have htake:List.take (a.marks.length+b.marks.length) (List.map Mark.v (Tm.bin k a b).marks)=List.map Mark.v (a.marks++b.marks):=by
   rw [e0,List.map_append,List.take_left' (by simp)]
  have htake2:List.take a.marks.length (List.map Mark.v (Tm.bin k a b).marks)=List.map Mark.v a.marks:=by
   rw [e0,List.append_assoc,List.map_append,List.take_left' (by simp)]
  have hdrop:List.drop a.marks.length (List.map Mark.v (a.marks++b.marks))=List.map Mark.v b.marks:=by
   rw [List.map_append,List.drop_left' (by simp)]
  have et:(Tm.bin k a b).text=par (decide (3+k<a.kind)) a.text++sign k :: par (decide (3+k≤b.kind)) b.text:=rfl
  have hha:=l2Held_tm a hoa (by omega) iha
  have hhb:=l2Held_tm b hob (by omega) ihb
  rw [et]
  obtain ⟨n,hn⟩:∃ n,n=a.marks.length+b.marks.length:=⟨_,rfl⟩
  rw [← hn] at hlen hget htake
  have hc1:a.marks.length≤n:=by omega
  have hle:n≤(Tm.bin k a b).marks.length:=by omega
  have w1:IntKind.wrap .i64 (((Tm.bin k a b).marks.length:Int)-1)=(n:Int):=by rw [w64 (by omega) (by omega)]; omega
  have wE:IntKind.wrap .i64 ((n:Int)-1)=(a.marks.length:Int)+b.marks.length-1:=by rw [w64 (by omega) (by omega)]; omega
  rw [← e0] at hlp
  have hkk:k=0∨k=1∨k=2:=by omega
  generalize hL:(Tm.bin k a b).marks=l at *
  generalize hM:a.marks++b.marks=M at *
  clear e0 hL hM et
  rcases hkk with hkk | hkk | hkk
  ·subst hkk
   have h1:=hha (2-0) (decide (3+0<a.kind)) (by rw [Bool.eq_iff_iff]; simp; omega)
   have h2:=hhb (3-0) (decide (3+0≤b.kind)) (by rw [Bool.eq_iff_iff]; simp; omega)
   have hbd:FnZ Tryz.prog 151 [marksV l] (.int .i64 2):=hbd
   generalize par (decide (3+0<a.kind)) a.text=s1 at *
   generalize par (decide (3+0≤b.kind)) b.text=s2 at *
   have c1:(s1.length:Int)+1≤9223372036854775807:=by omega
   have c2:(s1.length:Int)+1+s2.length≤9223372036854775807:=by omega
   have c3:(s1.length:Int)+(1+s2.length)≤9223372036854775807:=by omega
   refine FZ (rs:=[.tmp 2]) false Tryz.func98 ?_
   simp -dsimp [w1,hget,htake,hle,Mark.v,wE]
   refine cl hlp ?_
   simp -dsimp
   refine cl hbd ?_
   simp -dsimp
   refine twd [0,1,2,3,5,6,7,8,9,11,12,13,14,15,16,4,10,17,18,19] [] (List.replicate 20 []) (List.replicate 20 []) ?_
   simp -dsimp [List.range_succ,htake,htake2,hdrop,hle,hc1,show a.marks.length≤l.length by omega,show IntKind.wrap .i64 0=0 from rfl,show IntKind.wrap .i64 1=1 from rfl,show IntKind.wrap .i64 2=2 from rfl,show IntKind.wrap .i64 3=3 from rfl]
   refine cl h1 ?_
   simp -dsimp [c1]
   refine cl h2 ?_
   simp -dsimp [c1,c2,c3,sign]
  ·subst hkk
   have h1:=hha (2-1) (decide (3+1<a.kind)) (by rw [Bool.eq_iff_iff]; simp; omega)
   have h2:=hhb (3-1) (decide (3+1≤b.kind)) (by rw [Bool.eq_iff_iff]; simp; omega)
   have hbd:FnZ Tryz.prog 151 [marksV l] (.int .i64 1):=hbd
   generalize par (decide (3+1<a.kind)) a.text=s1 at *
   generalize par (decide (3+1≤b.kind)) b.text=s2 at *
   have c1:(s1.length:Int)+1≤9223372036854775807:=by omega
   have c2:(s1.length:Int)+1+s2.length≤9223372036854775807:=by omega
   have c3:(s1.length:Int)+(1+s2.length)≤9223372036854775807:=by omega
   refine FZ (rs:=[.tmp 2]) false Tryz.func98 ?_
   simp -dsimp [w1,hget,htake,hle,Mark.v,wE]
   refine cl hlp ?_
   simp -dsimp
   refine cl hbd ?_
   simp -dsimp
   refine twd [0,1,2,3,5,6,7,8,9,11,12,13,14,15,16,4,10,17,18,19] [] (List.replicate 20 []) (List.replicate 20 []) ?_
   simp -dsimp [List.range_succ,htake,htake2,hdrop,hle,hc1,show a.marks.length≤l.length by omega,show IntKind.wrap .i64 0=0 from rfl,show IntKind.wrap .i64 1=1 from rfl,show IntKind.wrap .i64 2=2 from rfl,show IntKind.wrap .i64 3=3 from rfl]
   refine cl h1 ?_
   simp -dsimp [c1]
   refine cl h2 ?_
   simp -dsimp [c1,c2,c3,sign]
  ·subst hkk
   have h1:=hha (2-2) (decide (3+2<a.kind)) (by rw [Bool.eq_iff_iff]; simp; omega)
   have h2:=hhb (3-2) (decide (3+2≤b.kind)) (by rw [Bool.eq_iff_iff]; simp; omega)
   have hbd:FnZ Tryz.prog 151 [marksV l] (.int .i64 0):=hbd
   generalize par (decide (3+2<a.kind)) a.text=s1 at *
   generalize par (decide (3+2≤b.kind)) b.text=s2 at *
   have c1:(s1.length:Int)+1≤9223372036854775807:=by omega
   have c2:(s1.length:Int)+1+s2.length≤9223372036854775807:=by omega
   have c3:(s1.length:Int)+(1+s2.length)≤9223372036854775807:=by omega
   refine FZ (rs:=[.tmp 2]) false Tryz.func98 ?_
   simp -dsimp [w1,hget,htake,hle,Mark.v,wE]
   refine cl hlp ?_
   simp -dsimp
   refine cl hbd ?_
   simp -dsimp
   refine twd [0,1,2,3,5,6,7,8,9,11,12,13,14,15,16,4,10,17,18,19] [] (List.replicate 20 []) (List.replicate 20 []) ?_
   simp -dsimp [List.range_succ,htake,htake2,hdrop,hle,hc1,show a.marks.length≤l.length by omega,show IntKind.wrap .i64 0=0 from rfl,show IntKind.wrap .i64 1=1 from rfl,show IntKind.wrap .i64 2=2 from rfl,show IntKind.wrap .i64 3=3 from rfl]
   refine cl h1 ?_
   simp -dsimp [c1]
   refine cl h2 ?_
   simp -dsimp [c1,c2,c3,sign]
end TL
