/- TL: parts FnsJGd, FnsJG, FnsP3, FnsS1, FnsJH, TlPure, FnsIT, FnsM0, FnsM1, FnsM2, FnsM3, FnsVn, FnsIa, FnsJ1, FnsIX. -/
import Derived.Test.YtnimfdpinpggdabGreatDoorGk
import Derived.Test.YtnimfdpinpggdabGreatDoorGi
import Derived.Test.YtnimfdpinpggdabGreatDoorGg
import Derived.Test.YtnimfdpinpggdabGreatDoorGc
import Derived.Test.YtnimfdpinpggdabGreatDoorGf
import Derived.Test.YtnimfdpinpggdabGreatDoorGe
set_option linter.unusedSimpArgs false
set_option linter.unusedVariables false
set_option maxRecDepth 100000
set_option maxHeartbeats 4000000
set_option pp.maxSteps 1500
namespace TL
open Go Go.Proofs
attribute [local simp] marksV storyV codeV Claim.v Place.v Deed.v Desk.v
theorem do_say_k (d:Desk) (words:List UInt8) (c:Claim) (hd:d.small) (hk:deskOk d=true) (X:Place) (hXl:X.story.length≤7) (hr:readC d.now.people words=some c) (hwl:words.length≤1000000000) (hX:X=⟨d.now.people,d.now.story++[c]⟩) :
  FnS Tryz.prog 23 (fun _=>none) 0 [.v d.v,.v (⟨0,0,words⟩:Deed).v] (PostK (if (placeOk X && !decide (placeTx X=placeTx d.now))=true then ((⟨X,keep8 (d.past++[d.now])⟩,true):Desk × Bool) else (d,false))):=by
 have hpo:=placeOk_fn X (by omega)
 have hpt:=placeText_fn X (by omega)
 have hpn:=placeText_fn d.now (by have:=hd.1.1; omega)
 have hcn:=copyPlace_fn d.now hd.1
 have hok:=deskOk_fn d (by have:=hd.2.1; omega) (by have:=hd.1.1; omega) (fun p hp=>by have:=(hd.2.2 p hp).1; omega)
 rw [hk] at hok
 obtain ⟨hpast,hnow,hp8⟩:=deskOk_iff.1 hk
 have hcopy:=fun m n=>copyDesk_own d hd m n
 have hcopyK:=fun m n=>copyDesk_k d hd hk m n
 have fullb:(d.past.length+1) * 32≤140737488355328:=by omega
 have zplaces:allZ 2 (List.map Place.v d.past++[d.now.v]):=fun x hx=>by
  rcases List.mem_append.1 hx with hx | hx
  ·obtain ⟨p,_,rfl⟩:=List.mem_map.1 hx; exact ⟨by simp,by simp⟩
  ·rw [List.mem_singleton.1 hx]; exact ⟨by simp,by simp⟩
 have hR:placeOk X=true→∀ l,keep8 (d.past++[d.now])=l→∀ m n,FnS Tryz.prog 24 m n [.v (⟨X,l⟩:Desk).v] (DeepK ⟨X,l⟩ m n):=fun hX l hl m n=>by
  have ok:deskOk ⟨X,l⟩=true:=deskOk_iff.2 ⟨fun p hp=>by
   rw [← hl] at hp
   rcases List.mem_append.1 (keep8_mem hp) with h1 | h1
   ·exact hpast p h1
   ·rw [List.mem_singleton.1 h1]; exact hnow,hX,by rw [← hl]; exact keep8_len _ (by simp; omega)⟩
  exact copyDesk_k ⟨X,l⟩ (desk_fine ok).1 ok m n
 have hrc:=readClaim_fn d.now.people words (by omega)
 rw [hr] at hrc
 have b1:(d.now.story.length+1) * 32≤140737488355328:=by have:=hd.1.1; omega
 have hkX:=ft (placeOk X)
 have htx:placeTx X=placeTx d.now∨¬placeTx X=placeTx d.now:=Classical.em _
 generalize placeTx X=tX at *
 generalize placeTx d.now=tN at *
 generalize placeOk X=okX at *
 subst hX
 refine FS (rs:=[.cell 4 28,.tmp 5]) false Tryz.func23 ?_
 simp -dsimp
 refine cl hok ?_
 simp -dsimp
 refine callL_ (vs:=[d.v]) (hcopy _ _) (by simp -dsimp) ?_
 rintro t m1 n1 ⟨hn1,hout,id,st,rfl,hi0,hi1,him,hst,hne⟩
 have k0:=hout 0 (by omega)
 have k1:=hout 1 (by omega)
 have k2:=hout 2 (by omega)
 simp -dsimp at k0 k1 k2
 have f0:=far (show 0<n1 by omega)
 have f1:=far (show 1<n1 by omega)
 have f2:=far (show 2<n1 by omega)
 have z1:¬n1=0:=by omega
 have z2:¬n1=1:=by omega
 have z3:¬n1=2:=by omega
 have g1:=far hi1
 have y0:¬id=0:=by omega
 have y1:¬id=1:=by omega
 have y2:¬id=2:=by omega
 have yn:¬id=n1:=by omega
 have hc:=hst.cell
 rcases hst with ⟨rfl,hs0⟩ | ⟨r,rfl,hr0,hr1,hrm⟩
 ·have hp0:d.past=[]:=by simpa using hs0
  simp -dsimp [nes8 n1,k0,k1,k2,f0,f1,f2,z1,z2,z3,nes,g1,y0,y1,y2,yn,Ne.symm y0,Ne.symm y1,Ne.symm y2,him,hc,b1]
  refine twd [0,1,2,3,4,5,1006,7,8,9,10,11,12] [1,n1] (List.replicate 13 [0,1]) (List.replicate 13 [0,1]) ?_
  simp -dsimp [List.range_succ,nes8 n1,k0,k1,k2,f0,f1,f2,z1,z2,z3,nes,g1,y0,y1,y2,yn,Ne.symm y0,Ne.symm y1,Ne.symm y2,him,hc,b1]
  refine pure_ hrc (by simp -dsimp [nes8 n1,k0,k1,k2,f0,f1,f2,z1,z2,z3,nes,g1,y0,y1,y2,yn,Ne.symm y0,Ne.symm y1,Ne.symm y2,him,hc,b1]) ?_
  simp -dsimp [List.range_succ,nes8 n1,k0,k1,k2,f0,f1,f2,z1,z2,z3,nes,g1,y0,y1,y2,yn,Ne.symm y0,Ne.symm y1,Ne.symm y2,him,hc,b1,optC]
  refine twd (List.range 11) [n1,n1+1+1] (List.replicate 8 [0,1]++[[],[],[]]) (List.replicate 10 [0,1]++[[1]]) ?_
  simp -dsimp [List.range_succ,nes8 n1,k0,k1,k2,f0,f1,f2,z1,z2,z3,nes,g1,y0,y1,y2,yn,Ne.symm y0,Ne.symm y1,Ne.symm y2,him,hc,b1,b1]
  refine twd [0,1,2,3,4,5,6,7,8,10,11,9,12,13,14] [0,n1] (List.replicate 15 [0,1]) (List.replicate 15 [0,1]) ?_
  simp -dsimp [nes8 n1,k0,k1,k2,f0,f1,f2,z1,z2,z3,nes,g1,y0,y1,y2,yn,Ne.symm y0,Ne.symm y1,Ne.symm y2,him,hc,b1,hp0]
  refine call_ hpo (by simp -dsimp [nes8 n1,k0,k1,k2,f0,f1,f2,z1,z2,z3,nes,g1,y0,y1,y2,yn,Ne.symm y0,Ne.symm y1,Ne.symm y2,him,hc,b1,hp0]) ?_
  rcases hkX with rfl | rfl
  ·simp -dsimp [nes8 n1,k0,k1,k2,f0,f1,f2,z1,z2,z3,nes,g1,y0,y1,y2,yn,Ne.symm y0,Ne.symm y1,Ne.symm y2,him,hc,b1,hp0]
   refine callL_ (vs:=[d.v]) (hcopyK _ _) (by simp -dsimp [hc,b1,hp0]) ?_
   rintro t m2 n2 ⟨hn2,hout2,sn2,P2,rfl,hown2⟩
   have q2:=hout2 2 (by omega)
   simp -dsimp [nes8 n1,k0,k1,k2,f0,f1,f2,z1,z2,z3,nes,g1,y0,y1,y2,yn,Ne.symm y0,Ne.symm y1,Ne.symm y2,him] at q2
   have hfc:=hown2.facts
   have hc2:=hfc.1
   have hcs2:=hfc.2.1
   have hcP2:=hfc.2.2.1
   have hcsP2:=hfc.2.2.2
   clear hfc
   simp -dsimp [dT,q2,hc2,hcs2,hcP2,hcsP2]
   exact ⟨sn2,P2,rfl,hown2.keep (Nat.zero_le _) (by omega) fun j j1 j2=>by simp [show ¬j=2 by omega]⟩
  simp -dsimp [nes8 n1,k0,k1,k2,f0,f1,f2,z1,z2,z3,nes,g1,y0,y1,y2,yn,Ne.symm y0,Ne.symm y1,Ne.symm y2,him,hc,b1,hp0]
  refine call_ hpt (by simp -dsimp [nes8 n1,k0,k1,k2,f0,f1,f2,z1,z2,z3,nes,g1,y0,y1,y2,yn,Ne.symm y0,Ne.symm y1,Ne.symm y2,him,hc,b1,hp0]) ?_
  simp -dsimp [nes8 n1,k0,k1,k2,f0,f1,f2,z1,z2,z3,nes,g1,y0,y1,y2,yn,Ne.symm y0,Ne.symm y1,Ne.symm y2,him,hc,b1,hp0]
  refine cl hpn ?_
  rcases htx with rfl | htx
  ·simp -dsimp [nes8 n1,k0,k1,k2,f0,f1,f2,z1,z2,z3,nes,g1,y0,y1,y2,yn,Ne.symm y0,Ne.symm y1,Ne.symm y2,him,hc,b1,hp0]
   refine callL_ (vs:=[d.v]) (hcopyK _ _) (by simp -dsimp [hc,b1,hp0]) ?_
   rintro t m2 n2 ⟨hn2,hout2,sn2,P2,rfl,hown2⟩
   have q2:=hout2 2 (by omega)
   simp -dsimp [nes8 n1,k0,k1,k2,f0,f1,f2,z1,z2,z3,nes,g1,y0,y1,y2,yn,Ne.symm y0,Ne.symm y1,Ne.symm y2,him] at q2
   have hfc:=hown2.facts
   have hc2:=hfc.1
   have hcs2:=hfc.2.1
   have hcP2:=hfc.2.2.1
   have hcsP2:=hfc.2.2.2
   clear hfc
   simp -dsimp [dT,q2,hc2,hcs2,hcP2,hcsP2]
   exact ⟨sn2,P2,rfl,hown2.keep (Nat.zero_le _) (by omega) fun j j1 j2=>by simp [show ¬j=2 by omega]⟩
  have hRs:=hR rfl
  simp -dsimp [nes8 n1,k0,k1,k2,f0,f1,f2,z1,z2,z3,nes,g1,y0,y1,y2,yn,Ne.symm y0,Ne.symm y1,Ne.symm y2,him,hc,b1,hp0,htx]
  refine twd (List.range 9) [0,n1] (List.replicate 9 [0,1]) (List.replicate 8 [0,1]++[[0]]) ?_
  simp -dsimp [List.range_succ,nes8 n1,k0,k1,k2,f0,f1,f2,z1,z2,z3,nes,g1,y0,y1,y2,yn,Ne.symm y0,Ne.symm y1,Ne.symm y2,him,hc,b1,hp0,htx]
  refine cl hcn ?_
  have hR2:=hRs [d.now] (by rw [hp0]; rfl)
  simp -dsimp [List.range_succ,nes8 n1,k0,k1,k2,f0,f1,f2,z1,z2,z3,nes,g1,y0,y1,y2,yn,Ne.symm y0,Ne.symm y1,Ne.symm y2,him,hc,b1,hp0,htx]
  refine callL_ (vs:=[(⟨⟨d.now.people,d.now.story++[c]⟩,[d.now]⟩:Desk).v]) (hR2 _ _) (by simp -dsimp [nes8 n1,k0,k1,k2,f0,f1,f2,z1,z2,z3,nes,g1,y0,y1,y2,yn,Ne.symm y0,Ne.symm y1,Ne.symm y2,him,hc,b1,hp0]) ?_
  rintro t m2 n2 ⟨hn2,hout2,sn2,P2,rfl,hown2⟩
  have q2:=hout2 2 (by omega)
  simp -dsimp [nes8 n1,k0,k1,k2,f0,f1,f2,z1,z2,z3,nes,g1,y0,y1,y2,yn,Ne.symm y0,Ne.symm y1,Ne.symm y2,him] at q2
  have hfc:=hown2.facts
  have hc2:=hfc.1
  have hcs2:=hfc.2.1
  have hcP2:=hfc.2.2.1
  have hcsP2:=hfc.2.2.2
  clear hfc
  simp -dsimp [dT,q2,hc2,hcs2,hcP2,hcsP2,htx,hp0,keep8]
  exact ⟨sn2,P2,rfl,hown2.keep (Nat.zero_le _) (by omega) fun j j1 j2=>by simp [show ¬j=2 by omega]⟩
 ·have g2:=far hr1
  have x0:¬r=0:=by omega
  have x1:¬r=1:=by omega
  have x2:¬r=2:=by omega
  have xi:¬r=id:=fun h=>hne (by rw [h])
  simp -dsimp [nes8 n1,k0,k1,k2,f0,f1,f2,z1,z2,z3,nes,g1,y0,y1,y2,yn,Ne.symm y0,Ne.symm y1,Ne.symm y2,him,g2,x0,x1,x2,xi,Ne.symm x0,Ne.symm x1,Ne.symm x2,Ne.symm xi,hrm,hc,b1]
  refine twd [0,1,2,3,4,5,1006,7,8,9,10,11,12] [1,n1] (List.replicate 13 [0,1]) (List.replicate 13 [0,1]) ?_
  simp -dsimp [List.range_succ,nes8 n1,k0,k1,k2,f0,f1,f2,z1,z2,z3,nes,g1,y0,y1,y2,yn,Ne.symm y0,Ne.symm y1,Ne.symm y2,him,g2,x0,x1,x2,xi,Ne.symm x0,Ne.symm x1,Ne.symm x2,Ne.symm xi,hrm,hc,b1]
  refine pure_ hrc (by simp -dsimp [nes8 n1,k0,k1,k2,f0,f1,f2,z1,z2,z3,nes,g1,y0,y1,y2,yn,Ne.symm y0,Ne.symm y1,Ne.symm y2,him,g2,x0,x1,x2,xi,Ne.symm x0,Ne.symm x1,Ne.symm x2,Ne.symm xi,hrm,hc,b1]) ?_
  simp -dsimp [List.range_succ,nes8 n1,k0,k1,k2,f0,f1,f2,z1,z2,z3,nes,g1,y0,y1,y2,yn,Ne.symm y0,Ne.symm y1,Ne.symm y2,him,g2,x0,x1,x2,xi,Ne.symm x0,Ne.symm x1,Ne.symm x2,Ne.symm xi,hrm,hc,b1,optC]
  refine twd (List.range 11) [n1,n1+1+1] (List.replicate 8 [0,1]++[[],[],[]]) (List.replicate 10 [0,1]++[[1]]) ?_
  simp -dsimp [List.range_succ,nes8 n1,k0,k1,k2,f0,f1,f2,z1,z2,z3,nes,g1,y0,y1,y2,yn,Ne.symm y0,Ne.symm y1,Ne.symm y2,him,g2,x0,x1,x2,xi,Ne.symm x0,Ne.symm x1,Ne.symm x2,Ne.symm xi,hrm,hc,b1,b1]
  refine twd [0,1,2,3,4,5,6,7,8,10,11,9,12,13,14] [0,n1] (List.replicate 15 [0,1]) (List.replicate 15 [0,1]) ?_
  simp -dsimp [nes8 n1,k0,k1,k2,f0,f1,f2,z1,z2,z3,nes,g1,y0,y1,y2,yn,Ne.symm y0,Ne.symm y1,Ne.symm y2,him,g2,x0,x1,x2,xi,Ne.symm x0,Ne.symm x1,Ne.symm x2,Ne.symm xi,hrm,hc,b1]
  refine call_ hpo (by simp -dsimp [nes8 n1,k0,k1,k2,f0,f1,f2,z1,z2,z3,nes,g1,y0,y1,y2,yn,Ne.symm y0,Ne.symm y1,Ne.symm y2,him,g2,x0,x1,x2,xi,Ne.symm x0,Ne.symm x1,Ne.symm x2,Ne.symm xi,hrm,hc,b1]) ?_
  rcases hkX with rfl | rfl
  ·simp -dsimp [nes8 n1,k0,k1,k2,f0,f1,f2,z1,z2,z3,nes,g1,y0,y1,y2,yn,Ne.symm y0,Ne.symm y1,Ne.symm y2,him,g2,x0,x1,x2,xi,Ne.symm x0,Ne.symm x1,Ne.symm x2,Ne.symm xi,hrm,hc,b1]
   refine callL_ (vs:=[d.v]) (hcopyK _ _) (by simp -dsimp [hc,b1]) ?_
   rintro t m2 n2 ⟨hn2,hout2,sn2,P2,rfl,hown2⟩
   have q2:=hout2 2 (by omega)
   simp -dsimp [nes8 n1,k0,k1,k2,f0,f1,f2,z1,z2,z3,nes,g1,y0,y1,y2,yn,Ne.symm y0,Ne.symm y1,Ne.symm y2,him,g2,x0,x1,x2,xi,Ne.symm x0,Ne.symm x1,Ne.symm x2,Ne.symm xi,hrm] at q2
   have hfc:=hown2.facts
   have hc2:=hfc.1
   have hcs2:=hfc.2.1
   have hcP2:=hfc.2.2.1
   have hcsP2:=hfc.2.2.2
   clear hfc
   simp -dsimp [dT,q2,hc2,hcs2,hcP2,hcsP2]
   exact ⟨sn2,P2,rfl,hown2.keep (Nat.zero_le _) (by omega) fun j j1 j2=>by simp [show ¬j=2 by omega]⟩
  simp -dsimp [nes8 n1,k0,k1,k2,f0,f1,f2,z1,z2,z3,nes,g1,y0,y1,y2,yn,Ne.symm y0,Ne.symm y1,Ne.symm y2,him,g2,x0,x1,x2,xi,Ne.symm x0,Ne.symm x1,Ne.symm x2,Ne.symm xi,hrm,hc,b1]
  refine call_ hpt (by simp -dsimp [nes8 n1,k0,k1,k2,f0,f1,f2,z1,z2,z3,nes,g1,y0,y1,y2,yn,Ne.symm y0,Ne.symm y1,Ne.symm y2,him,g2,x0,x1,x2,xi,Ne.symm x0,Ne.symm x1,Ne.symm x2,Ne.symm xi,hrm,hc,b1]) ?_
  simp -dsimp [nes8 n1,k0,k1,k2,f0,f1,f2,z1,z2,z3,nes,g1,y0,y1,y2,yn,Ne.symm y0,Ne.symm y1,Ne.symm y2,him,g2,x0,x1,x2,xi,Ne.symm x0,Ne.symm x1,Ne.symm x2,Ne.symm xi,hrm,hc,b1]
  refine cl hpn ?_
  rcases htx with rfl | htx
  ·simp -dsimp [nes8 n1,k0,k1,k2,f0,f1,f2,z1,z2,z3,nes,g1,y0,y1,y2,yn,Ne.symm y0,Ne.symm y1,Ne.symm y2,him,g2,x0,x1,x2,xi,Ne.symm x0,Ne.symm x1,Ne.symm x2,Ne.symm xi,hrm,hc,b1]
   refine callL_ (vs:=[d.v]) (hcopyK _ _) (by simp -dsimp [hc,b1]) ?_
   rintro t m2 n2 ⟨hn2,hout2,sn2,P2,rfl,hown2⟩
   have q2:=hout2 2 (by omega)
   simp -dsimp [nes8 n1,k0,k1,k2,f0,f1,f2,z1,z2,z3,nes,g1,y0,y1,y2,yn,Ne.symm y0,Ne.symm y1,Ne.symm y2,him,g2,x0,x1,x2,xi,Ne.symm x0,Ne.symm x1,Ne.symm x2,Ne.symm xi,hrm] at q2
   have hfc:=hown2.facts
   have hc2:=hfc.1
   have hcs2:=hfc.2.1
   have hcP2:=hfc.2.2.1
   have hcsP2:=hfc.2.2.2
   clear hfc
   simp -dsimp [dT,q2,hc2,hcs2,hcP2,hcsP2]
   exact ⟨sn2,P2,rfl,hown2.keep (Nat.zero_le _) (by omega) fun j j1 j2=>by simp [show ¬j=2 by omega]⟩
  have hRs:=hR rfl
  simp -dsimp [nes8 n1,k0,k1,k2,f0,f1,f2,z1,z2,z3,nes,g1,y0,y1,y2,yn,Ne.symm y0,Ne.symm y1,Ne.symm y2,him,g2,x0,x1,x2,xi,Ne.symm x0,Ne.symm x1,Ne.symm x2,Ne.symm xi,hrm,hc,b1,htx]
  refine twd (List.range 9) [0,n1] (List.replicate 9 [0,1]) (List.replicate 8 [0,1]++[[0]]) ?_
  simp -dsimp [List.range_succ,nes8 n1,k0,k1,k2,f0,f1,f2,z1,z2,z3,nes,g1,y0,y1,y2,yn,Ne.symm y0,Ne.symm y1,Ne.symm y2,him,g2,x0,x1,x2,xi,Ne.symm x0,Ne.symm x1,Ne.symm x2,Ne.symm xi,hrm,hc,b1,htx]
  refine cl hcn ?_
  by_cases h8:d.past.length=8
  ·have e8:(d.past.length:Int)=8:=by omega
   have ek:keep8 (d.past++[d.now])=(d.past++[d.now]).tail:=by unfold keep8; rw [if_pos (by simp [h8])]; simp
   have hR2:=hRs (d.past++[d.now]).tail ek
   have tk:List.take 9 (List.map Place.v d.past++[d.now.v])=List.map Place.v d.past++[d.now.v]:=List.take_of_length_le (by simp [h8])
   have zk:allZ 2 (List.map Place.v d.past++[d.now.v]).tail:=fun x hx=>zplaces x (List.mem_of_mem_tail hx)
   simp only [Place.v,storyV] at tk zk
   simp -dsimp [List.range_succ,nes8 n1,k0,k1,k2,f0,f1,f2,z1,z2,z3,nes,g1,y0,y1,y2,yn,Ne.symm y0,Ne.symm y1,Ne.symm y2,him,g2,x0,x1,x2,xi,Ne.symm x0,Ne.symm x1,Ne.symm x2,Ne.symm xi,hrm,hc,b1,htx,fullb,h8,e8,tk,zk]
   refine callL_ (vs:=[(⟨⟨d.now.people,d.now.story++[c]⟩,(d.past++[d.now]).tail⟩:Desk).v]) (hR2 _ _) (by simp -dsimp [nes8 n1,k0,k1,k2,f0,f1,f2,z1,z2,z3,nes,g1,y0,y1,y2,yn,Ne.symm y0,Ne.symm y1,Ne.symm y2,him,g2,x0,x1,x2,xi,Ne.symm x0,Ne.symm x1,Ne.symm x2,Ne.symm xi,hrm,hc,b1,List.map_tail,List.map_append]) ?_
   rintro t m2 n2 ⟨hn2,hout2,sn2,P2,rfl,hown2⟩
   have q2:=hout2 2 (by omega)
   simp -dsimp [nes8 n1,k0,k1,k2,f0,f1,f2,z1,z2,z3,nes,g1,y0,y1,y2,yn,Ne.symm y0,Ne.symm y1,Ne.symm y2,him,g2,x0,x1,x2,xi,Ne.symm x0,Ne.symm x1,Ne.symm x2,Ne.symm xi,hrm] at q2
   have hfc:=hown2.facts
   have hc2:=hfc.1
   have hcs2:=hfc.2.1
   have hcP2:=hfc.2.2.1
   have hcsP2:=hfc.2.2.2
   clear hfc
   simp -dsimp [dT,q2,hc2,hcs2,hcP2,hcsP2,htx,ek]
   exact ⟨sn2,P2,rfl,hown2.keep (Nat.zero_le _) (by omega) fun j j1 j2=>by simp [show ¬j=2 by omega]⟩
  ·have e8:d.past.length<8:=by omega
   have e8':¬(8:Int)<(d.past.length:Int)+1:=by omega
   have e8'':¬8<d.past.length+1:=by omega
   have ek:keep8 (d.past++[d.now])=d.past++[d.now]:=by unfold keep8; rw [if_neg (by simp; omega)]
   have hR2:=hRs (d.past++[d.now]) ek
   simp -dsimp [List.range_succ,nes8 n1,k0,k1,k2,f0,f1,f2,z1,z2,z3,nes,g1,y0,y1,y2,yn,Ne.symm y0,Ne.symm y1,Ne.symm y2,him,g2,x0,x1,x2,xi,Ne.symm x0,Ne.symm x1,Ne.symm x2,Ne.symm xi,hrm,hc,b1,htx,fullb,h8,e8,e8',e8'']
   refine callL_ (vs:=[(⟨⟨d.now.people,d.now.story++[c]⟩,d.past++[d.now]⟩:Desk).v]) (hR2 _ _) (by simp -dsimp [nes8 n1,k0,k1,k2,f0,f1,f2,z1,z2,z3,nes,g1,y0,y1,y2,yn,Ne.symm y0,Ne.symm y1,Ne.symm y2,him,g2,x0,x1,x2,xi,Ne.symm x0,Ne.symm x1,Ne.symm x2,Ne.symm xi,hrm,hc,b1]) ?_
   rintro t m2 n2 ⟨hn2,hout2,sn2,P2,rfl,hown2⟩
   have q2:=hout2 2 (by omega)
   simp -dsimp [nes8 n1,k0,k1,k2,f0,f1,f2,z1,z2,z3,nes,g1,y0,y1,y2,yn,Ne.symm y0,Ne.symm y1,Ne.symm y2,him,g2,x0,x1,x2,xi,Ne.symm x0,Ne.symm x1,Ne.symm x2,Ne.symm xi,hrm] at q2
   have hfc:=hown2.facts
   have hc2:=hfc.1
   have hcs2:=hfc.2.1
   have hcP2:=hfc.2.2.1
   have hcsP2:=hfc.2.2.2
   clear hfc
   simp -dsimp [dT,q2,hc2,hcs2,hcP2,hcsP2,htx,ek]
   exact ⟨sn2,P2,rfl,hown2.keep (Nat.zero_le _) (by omega) fun j j1 j2=>by simp [show ¬j=2 by omega]⟩
end TL

namespace TL
open Go Go.Proofs
attribute [local simp] marksV storyV codeV Claim.v Place.v Deed.v Desk.v
theorem do_bad1_k (d:Desk) (kind num:Int) (words:List UInt8) (hd:d.small) (hk:deskOk d=true) (h0:¬kind=0) (hw:¬words=[]):FnS Tryz.prog 23 (fun _=>none) 0 [.v d.v,.v (⟨kind,num,words⟩:Deed).v] (PostK (d,false)):=by
 have hok:=deskOk_fn d (by have:=hd.2.1; omega) (by have:=hd.1.1; omega) (fun p hp=>by have:=(hd.2.2 p hp).1; omega)
 rw [hk] at hok
 have hcopyK:=fun m n=>copyDesk_k d hd hk m n
 refine FS (rs:=[.cell 4 28,.tmp 5]) false Tryz.func23 ?_
 simp -dsimp
 refine cl hok ?_
 simp -dsimp
 refine callL_ (vs:=[d.v]) (hcopyK _ _) (by simp -dsimp) ?_
 rintro t m1 n1 ⟨hn1,hout,sn,P,rfl,hown⟩
 have k0:=hout 0 (by omega)
 have k1:=hout 1 (by omega)
 have k2:=hout 2 (by omega)
 simp -dsimp at k0 k1 k2
 have f0:=far (show 0<n1 by omega)
 have f1:=far (show 1<n1 by omega)
 have f2:=far (show 2<n1 by omega)
 have z1:¬n1=0:=by omega
 have z2:¬n1=1:=by omega
 have z3:¬n1=2:=by omega
 have hfc:=hown.facts
 have hc:=hfc.1
 have hcs:=hfc.2.1
 have hcP:=hfc.2.2.1
 have hcsP:=hfc.2.2.2
 clear hfc
 simp -dsimp [dT,hc,hcs,hcP,hcsP,nes8 n1,k0,k1,k2,f0,f1,f2,z1,z2,z3,nes,h0,hw]
 exact ⟨sn,P,rfl,hown.keep (Nat.zero_le _) (by omega) fun j j1 j2=>by simp [show ¬j=0 by omega,show ¬j=1 by omega,show ¬j=2 by omega,show ¬j=n1 by omega,far j2]⟩
theorem do_bad2_k (d:Desk) (num:Int) (words:List UInt8) (hd:d.small) (hk:deskOk d=true) (h0:¬num=0):FnS Tryz.prog 23 (fun _=>none) 0 [.v d.v,.v (⟨0,num,words⟩:Deed).v] (PostK (d,false)):=by
 have hok:=deskOk_fn d (by have:=hd.2.1; omega) (by have:=hd.1.1; omega) (fun p hp=>by have:=(hd.2.2 p hp).1; omega)
 rw [hk] at hok
 have hcopyK:=fun m n=>copyDesk_k d hd hk m n
 refine FS (rs:=[.cell 4 28,.tmp 5]) false Tryz.func23 ?_
 simp -dsimp
 refine cl hok ?_
 simp -dsimp
 refine callL_ (vs:=[d.v]) (hcopyK _ _) (by simp -dsimp) ?_
 rintro t m1 n1 ⟨hn1,hout,sn,P,rfl,hown⟩
 have k0:=hout 0 (by omega)
 have k1:=hout 1 (by omega)
 have k2:=hout 2 (by omega)
 simp -dsimp at k0 k1 k2
 have f0:=far (show 0<n1 by omega)
 have f1:=far (show 1<n1 by omega)
 have f2:=far (show 2<n1 by omega)
 have z1:¬n1=0:=by omega
 have z2:¬n1=1:=by omega
 have z3:¬n1=2:=by omega
 have hfc:=hown.facts
 have hc:=hfc.1
 have hcs:=hfc.2.1
 have hcP:=hfc.2.2.1
 have hcsP:=hfc.2.2.2
 clear hfc
 simp -dsimp [dT,hc,hcs,hcP,hcsP,nes8 n1,k0,k1,k2,f0,f1,f2,z1,z2,z3,nes,h0]
 exact ⟨sn,P,rfl,hown.keep (Nat.zero_le _) (by omega) fun j j1 j2=>by simp [show ¬j=0 by omega,show ¬j=1 by omega,show ¬j=2 by omega,show ¬j=n1 by omega,far j2]⟩
theorem do_bad3_k (d:Desk) (kind num:Int) (hd:d.small) (hk:deskOk d=true) (h0:¬kind=0) (h1:¬kind=1) (h2:¬kind=2) (h3:¬num=0):FnS Tryz.prog 23 (fun _=>none) 0 [.v d.v,.v (⟨kind,num,[]⟩:Deed).v] (PostK (d,false)):=by
 have hok:=deskOk_fn d (by have:=hd.2.1; omega) (by have:=hd.1.1; omega) (fun p hp=>by have:=(hd.2.2 p hp).1; omega)
 rw [hk] at hok
 have hcopyK:=fun m n=>copyDesk_k d hd hk m n
 refine FS (rs:=[.cell 4 28,.tmp 5]) false Tryz.func23 ?_
 simp -dsimp
 refine cl hok ?_
 simp -dsimp
 refine callL_ (vs:=[d.v]) (hcopyK _ _) (by simp -dsimp) ?_
 rintro t m1 n1 ⟨hn1,hout,sn,P,rfl,hown⟩
 have k0:=hout 0 (by omega)
 have k1:=hout 1 (by omega)
 have k2:=hout 2 (by omega)
 simp -dsimp at k0 k1 k2
 have f0:=far (show 0<n1 by omega)
 have f1:=far (show 1<n1 by omega)
 have f2:=far (show 2<n1 by omega)
 have z1:¬n1=0:=by omega
 have z2:¬n1=1:=by omega
 have z3:¬n1=2:=by omega
 have hfc:=hown.facts
 have hc:=hfc.1
 have hcs:=hfc.2.1
 have hcP:=hfc.2.2.1
 have hcsP:=hfc.2.2.2
 clear hfc
 simp -dsimp [dT,hc,hcs,hcP,hcsP,nes8 n1,k0,k1,k2,f0,f1,f2,z1,z2,z3,nes,h0,h1,h2,h3]
 exact ⟨sn,P,rfl,hown.keep (Nat.zero_le _) (by omega) fun j j1 j2=>by simp [show ¬j=0 by omega,show ¬j=1 by omega,show ¬j=2 by omega,show ¬j=n1 by omega,far j2]⟩
theorem do_other_k (d:Desk) (kind:Int) (hd:d.small) (hk:deskOk d=true) (h0:¬kind=0) (h1:¬kind=1) (h2:¬kind=2) (h3:¬kind=3) (h4:¬kind=4):FnS Tryz.prog 23 (fun _=>none) 0 [.v d.v,.v (⟨kind,0,[]⟩:Deed).v] (PostK (d,false)):=by
 have hok:=deskOk_fn d (by have:=hd.2.1; omega) (by have:=hd.1.1; omega) (fun p hp=>by have:=(hd.2.2 p hp).1; omega)
 rw [hk] at hok
 have hcopyK:=fun m n=>copyDesk_k d hd hk m n
 refine FS (rs:=[.cell 4 28,.tmp 5]) false Tryz.func23 ?_
 simp -dsimp
 refine cl hok ?_
 simp -dsimp
 refine callL_ (vs:=[d.v]) (hcopyK _ _) (by simp -dsimp) ?_
 rintro t m1 n1 ⟨hn1,hout,sn,P,rfl,hown⟩
 have k0:=hout 0 (by omega)
 have k1:=hout 1 (by omega)
 have k2:=hout 2 (by omega)
 simp -dsimp at k0 k1 k2
 have f0:=far (show 0<n1 by omega)
 have f1:=far (show 1<n1 by omega)
 have f2:=far (show 2<n1 by omega)
 have z1:¬n1=0:=by omega
 have z2:¬n1=1:=by omega
 have z3:¬n1=2:=by omega
 have hfc:=hown.facts
 have hc:=hfc.1
 have hcs:=hfc.2.1
 have hcP:=hfc.2.2.1
 have hcsP:=hfc.2.2.2
 clear hfc
 simp -dsimp [dT,hc,hcs,hcP,hcsP,nes8 n1,k0,k1,k2,f0,f1,f2,z1,z2,z3,nes,h0,h1,h2,h3,h4]
 exact ⟨sn,P,rfl,hown.keep (Nat.zero_le _) (by omega) fun j j1 j2=>by simp [show ¬j=0 by omega,show ¬j=1 by omega,show ¬j=2 by omega,show ¬j=n1 by omega,far j2]⟩
theorem do_nosay_k (d:Desk) (words:List UInt8) (hd:d.small) (hk:deskOk d=true) (hr:readC d.now.people words=none) (hwl:words.length≤1000000000):FnS Tryz.prog 23 (fun _=>none) 0 [.v d.v,.v (⟨0,0,words⟩:Deed).v] (PostK (d,false)):=by
 have hok:=deskOk_fn d (by have:=hd.2.1; omega) (by have:=hd.1.1; omega) (fun p hp=>by have:=(hd.2.2 p hp).1; omega)
 rw [hk] at hok
 have hcopyK:=fun m n=>copyDesk_k d hd hk m n
 have hrc:=readClaim_fn d.now.people words (by omega)
 rw [hr] at hrc
 refine FS (rs:=[.cell 4 28,.tmp 5]) false Tryz.func23 ?_
 simp -dsimp
 refine cl hok ?_
 simp -dsimp
 refine callL_ (vs:=[d.v]) (hcopyK _ _) (by simp -dsimp) ?_
 rintro t m1 n1 ⟨hn1,hout,sn,P,rfl,hown⟩
 have k0:=hout 0 (by omega)
 have k1:=hout 1 (by omega)
 have k2:=hout 2 (by omega)
 simp -dsimp at k0 k1 k2
 have f0:=far (show 0<n1 by omega)
 have f1:=far (show 1<n1 by omega)
 have f2:=far (show 2<n1 by omega)
 have z1:¬n1=0:=by omega
 have z2:¬n1=1:=by omega
 have z3:¬n1=2:=by omega
 have hfc:=hown.facts
 have hc:=hfc.1
 have hcs:=hfc.2.1
 have hcP:=hfc.2.2.1
 have hcsP:=hfc.2.2.2
 clear hfc
 simp -dsimp [dT,hc,hcs,hcP,hcsP,nes8 n1,k0,k1,k2,f0,f1,f2,z1,z2,z3,nes]
 refine twd [0,1,2,3,4,5,1006,7,8,9,10,11,12] [1,n1] (List.replicate 13 [0,1]) (List.replicate 13 [0,1]) ?_
 simp -dsimp [List.range_succ,dT,hc,hcs,hcP,hcsP,nes8 n1,k0,k1,k2,f0,f1,f2,z1,z2,z3,nes]
 refine pure_ hrc (by simp -dsimp [dT,hc,hcs,hcP,hcsP,nes8 n1,k0,k1,k2,f0,f1,f2,z1,z2,z3,nes]) ?_
 simp -dsimp [List.range_succ,dT,hc,hcs,hcP,hcsP,nes8 n1,k0,k1,k2,f0,f1,f2,z1,z2,z3,nes,optC]
 exact ⟨sn,P,rfl,hown.keep (Nat.zero_le _) (by omega) fun j j1 j2=>by simp [show ¬j=0 by omega,show ¬j=1 by omega,show ¬j=2 by omega,show ¬j=n1 by omega,far j2]⟩
theorem do_nodrop1_k (d:Desk) (num:Int) (hd:d.small) (hk:deskOk d=true) (h0:num<0):FnS Tryz.prog 23 (fun _=>none) 0 [.v d.v,.v (⟨1,num,[]⟩:Deed).v] (PostK (d,false)):=by
 have hok:=deskOk_fn d (by have:=hd.2.1; omega) (by have:=hd.1.1; omega) (fun p hp=>by have:=(hd.2.2 p hp).1; omega)
 rw [hk] at hok
 have hcopyK:=fun m n=>copyDesk_k d hd hk m n
 refine FS (rs:=[.cell 4 28,.tmp 5]) false Tryz.func23 ?_
 simp -dsimp
 refine cl hok ?_
 simp -dsimp
 refine callL_ (vs:=[d.v]) (hcopyK _ _) (by simp -dsimp) ?_
 rintro t m1 n1 ⟨hn1,hout,sn,P,rfl,hown⟩
 have k0:=hout 0 (by omega)
 have k1:=hout 1 (by omega)
 have k2:=hout 2 (by omega)
 simp -dsimp at k0 k1 k2
 have f0:=far (show 0<n1 by omega)
 have f1:=far (show 1<n1 by omega)
 have f2:=far (show 2<n1 by omega)
 have z1:¬n1=0:=by omega
 have z2:¬n1=1:=by omega
 have z3:¬n1=2:=by omega
 have hfc:=hown.facts
 have hc:=hfc.1
 have hcs:=hfc.2.1
 have hcP:=hfc.2.2.1
 have hcsP:=hfc.2.2.2
 clear hfc
 have hsn:=hown.form
 rcases hsn with ⟨rfl,hs0⟩ | ⟨i,rfl⟩
 ·simp -dsimp [dT,hc,hcs,hcP,hcsP,nes8 n1,k0,k1,k2,f0,f1,f2,z1,z2,z3,nes,h0,hs0]
  refine twd (List.range 13) [1,n1] (List.replicate 13 [0,1]) (List.replicate 13 [0,1]) ?_
  simp -dsimp [List.range_succ,dT,hc,hcs,hcP,hcsP,nes8 n1,k0,k1,k2,f0,f1,f2,z1,z2,z3,nes,h0,hs0]
  exact ⟨.nil,P,rfl,hown.keep (Nat.zero_le _) (by omega) fun j j1 j2=>by simp [show ¬j=0 by omega,show ¬j=1 by omega,show ¬j=2 by omega,show ¬j=n1 by omega,far j2]⟩
 ·simp -dsimp [dT,hc,hcs,hcP,hcsP,nes8 n1,k0,k1,k2,f0,f1,f2,z1,z2,z3,nes,h0]
  refine twd (List.range 13) [1,n1] (List.replicate 13 [0,1]) (List.replicate 13 [0,1]) ?_
  simp -dsimp [List.range_succ,dT,hc,hcs,hcP,hcsP,nes8 n1,k0,k1,k2,f0,f1,f2,z1,z2,z3,nes,h0]
  exact ⟨.sv i 0 d.now.story.length,P,rfl,hown.keep (Nat.zero_le _) (by omega) fun j j1 j2=>by simp [show ¬j=0 by omega,show ¬j=1 by omega,show ¬j=2 by omega,show ¬j=n1 by omega,far j2]⟩
theorem do_nodrop2_k (d:Desk) (num:Int) (hd:d.small) (hk:deskOk d=true) (h0:¬num<0) (h1:(d.now.story.length:Int)≤num):FnS Tryz.prog 23 (fun _=>none) 0 [.v d.v,.v (⟨1,num,[]⟩:Deed).v] (PostK (d,false)):=by
 have hok:=deskOk_fn d (by have:=hd.2.1; omega) (by have:=hd.1.1; omega) (fun p hp=>by have:=(hd.2.2 p hp).1; omega)
 rw [hk] at hok
 have hcopyK:=fun m n=>copyDesk_k d hd hk m n
 have h2:0≤num:=by omega
 refine FS (rs:=[.cell 4 28,.tmp 5]) false Tryz.func23 ?_
 simp -dsimp
 refine cl hok ?_
 simp -dsimp
 refine callL_ (vs:=[d.v]) (hcopyK _ _) (by simp -dsimp) ?_
 rintro t m1 n1 ⟨hn1,hout,sn,P,rfl,hown⟩
 have k0:=hout 0 (by omega)
 have k1:=hout 1 (by omega)
 have k2:=hout 2 (by omega)
 simp -dsimp at k0 k1 k2
 have f0:=far (show 0<n1 by omega)
 have f1:=far (show 1<n1 by omega)
 have f2:=far (show 2<n1 by omega)
 have z1:¬n1=0:=by omega
 have z2:¬n1=1:=by omega
 have z3:¬n1=2:=by omega
 have hfc:=hown.facts
 have hc:=hfc.1
 have hcs:=hfc.2.1
 have hcP:=hfc.2.2.1
 have hcsP:=hfc.2.2.2
 clear hfc
 have hsn:=hown.form
 rcases hsn with ⟨rfl,hs0⟩ | ⟨i,rfl⟩
 ·simp -dsimp [dT,hc,hcs,hcP,hcsP,nes8 n1,k0,k1,k2,f0,f1,f2,z1,z2,z3,nes,h0,h1,h2,hs0]
  refine twd (List.range 13) [1,n1] (List.replicate 13 [0,1]) (List.replicate 13 [0,1]) ?_
  simp -dsimp [List.range_succ,dT,hc,hcs,hcP,hcsP,nes8 n1,k0,k1,k2,f0,f1,f2,z1,z2,z3,nes,h0,h1,h2,hs0]
  exact ⟨.nil,P,rfl,hown.keep (Nat.zero_le _) (by omega) fun j j1 j2=>by simp [show ¬j=0 by omega,show ¬j=1 by omega,show ¬j=2 by omega,show ¬j=n1 by omega,far j2]⟩
 ·simp -dsimp [dT,hc,hcs,hcP,hcsP,nes8 n1,k0,k1,k2,f0,f1,f2,z1,z2,z3,nes,h0,h1,h2]
  refine twd (List.range 13) [1,n1] (List.replicate 13 [0,1]) (List.replicate 13 [0,1]) ?_
  simp -dsimp [List.range_succ,dT,hc,hcs,hcP,hcsP,nes8 n1,k0,k1,k2,f0,f1,f2,z1,z2,z3,nes,h0,h1,h2]
  exact ⟨.sv i 0 d.now.story.length,P,rfl,hown.keep (Nat.zero_le _) (by omega) fun j j1 j2=>by simp [show ¬j=0 by omega,show ¬j=1 by omega,show ¬j=2 by omega,show ¬j=n1 by omega,far j2]⟩
theorem do_noback_k (d:Desk)  (hd:d.small) (hk:deskOk d=true) (he:d.past=[]):FnS Tryz.prog 23 (fun _=>none) 0 [.v d.v,.v (⟨4,0,[]⟩:Deed).v] (PostK (d,false)):=by
 have hok:=deskOk_fn d (by have:=hd.2.1; omega) (by have:=hd.1.1; omega) (fun p hp=>by have:=(hd.2.2 p hp).1; omega)
 rw [hk] at hok
 have hcopyK:=fun m n=>copyDesk_k d hd hk m n
 refine FS (rs:=[.cell 4 28,.tmp 5]) false Tryz.func23 ?_
 simp -dsimp
 refine cl hok ?_
 simp -dsimp
 refine callL_ (vs:=[d.v]) (hcopyK _ _) (by simp -dsimp) ?_
 rintro t m1 n1 ⟨hn1,hout,sn,P,rfl,hown⟩
 have k0:=hout 0 (by omega)
 have k1:=hout 1 (by omega)
 have k2:=hout 2 (by omega)
 simp -dsimp at k0 k1 k2
 have f0:=far (show 0<n1 by omega)
 have f1:=far (show 1<n1 by omega)
 have f2:=far (show 2<n1 by omega)
 have z1:¬n1=0:=by omega
 have z2:¬n1=1:=by omega
 have z3:¬n1=2:=by omega
 have hfc:=hown.facts
 have hc:=hfc.1
 have hcs:=hfc.2.1
 have hcP:=hfc.2.2.1
 have hcsP:=hfc.2.2.2
 clear hfc
 have w0:IntKind.wrap .i64 (-1) = -1:=rfl
 have hP:=hown.none_past he
 rcases hP with rfl | ⟨i,rfl⟩
 ·simp -dsimp [dT,hc,hcs,hcP,hcsP,nes8 n1,k0,k1,k2,f0,f1,f2,z1,z2,z3,nes,w0]
  exact ⟨sn,.nil,rfl,hown.keep (Nat.zero_le _) (by omega) fun j j1 j2=>by simp [show ¬j=0 by omega,show ¬j=1 by omega,show ¬j=2 by omega,show ¬j=n1 by omega,far j2]⟩
 ·simp -dsimp [dT,hc,hcs,hcP,hcsP,nes8 n1,k0,k1,k2,f0,f1,f2,z1,z2,z3,nes,w0]
  exact ⟨sn,.sv i 0 0,rfl,hown.keep (Nat.zero_le _) (by omega) fun j j1 j2=>by simp [show ¬j=0 by omega,show ¬j=1 by omega,show ¬j=2 by omega,show ¬j=n1 by omega,far j2]⟩
theorem do_back_k (d:Desk)  (hd:d.small) (hk:deskOk d=true) (hne0:d.past ≠ []):FnS Tryz.prog 23 (fun _=>none) 0 [.v d.v,.v (⟨4,0,[]⟩:Deed).v] (PostK (⟨d.past.getLast?.getD d.now,d.past.dropLast⟩,true)):=by
 have hok:=deskOk_fn d (by have:=hd.2.1; omega) (by have:=hd.1.1; omega) (fun p hp=>by have:=(hd.2.2 p hp).1; omega)
 rw [hk] at hok
 have hcopyK:=fun m n=>copyDesk_k d hd hk m n
 have hl8:=hd.2.1
 obtain ⟨q,dd,hpq,hgl,hdl⟩:∃ q dd,d.past=dd++[q]∧d.past.getLast?.getD d.now=q∧d.past.dropLast=dd :=
  ⟨d.past.getLast hne0,d.past.dropLast,(List.dropLast_concat_getLast hne0).symm,by rw [List.getLast?_eq_some_getLast hne0]; rfl,rfl⟩
 rw [hgl,hdl]
 clear hgl hdl
 have hlen:d.past.length=dd.length+1:=by rw [hpq]; simp
 refine FS (rs:=[.cell 4 28,.tmp 5]) false Tryz.func23 ?_
 simp -dsimp
 refine cl hok ?_
 simp -dsimp
 refine callL_ (vs:=[d.v]) (hcopyK _ _) (by simp -dsimp) ?_
 rintro t m1 n1 ⟨hn1,hout,sn,P,rfl,hown⟩
 have k0:=hout 0 (by omega)
 have k1:=hout 1 (by omega)
 have k2:=hout 2 (by omega)
 simp -dsimp at k0 k1 k2
 have f0:=far (show 0<n1 by omega)
 have f1:=far (show 1<n1 by omega)
 have f2:=far (show 2<n1 by omega)
 have z1:¬n1=0:=by omega
 have z2:¬n1=1:=by omega
 have z3:¬n1=2:=by omega
 have hfc:=hown.facts
 have hc:=hfc.1
 have hcs:=hfc.2.1
 have hcP:=hfc.2.2.1
 have hcsP:=hfc.2.2.2
 clear hfc
 have hla:=hown.last hpq
 obtain ⟨r,cc,st,ex,rfl,i0,i1,him,hll,hdr,hcst,hcsst,hown2⟩:=hla
 have w1:IntKind.wrap .i64 ((dd.length:Int)+1-1)=(dd.length:Int):=by rw [w64 (by omega) (by omega)]; omega
 have p3:¬(dd.length:Int)<0:=by omega
 have w2:IntKind.wrap .i64 (dd.length:Int)=(dd.length:Int):=w64 (by omega) (by omega)
 have p4:(dd.length:Int)<dd.length+1:=by omega
 have p5:(dd.length:Int)≤dd.length+1:=by omega
 have g0:=far (show r<n1 by omega)
 have y0:¬r=0:=by omega
 have y1:¬r=1:=by omega
 have y2:¬r=2:=by omega
 have yn:¬r=n1:=by omega
 have hclip:=fun m n=>clip_own r dd.length (by omega) m n
 have hoff:dd.length * 2+2≤dd.length * 2+2+ex.length:=by omega
 generalize ex.length=exl at hll hoff
 simp -dsimp [dT,hc,hcs,hcP,hcsP,nes8 n1,k0,k1,k2,f0,f1,f2,z1,z2,z3,nes,w1,w2,p3,p4,p5]
 refine twd (List.range 13) [n1,r] (List.replicate 13 [0,1]) (List.replicate 13 [0,1]) ?_
 simp -dsimp [List.range_succ,dT,hc,hcs,hcP,hcsP,nes8 n1,k0,k1,k2,f0,f1,f2,z1,z2,z3,nes,w1,w2,p3,p4,p5,g0,y0,y1,y2,yn,Ne.symm yn,him,hll,hdr,hoff,hcst,hcsst]
 refine callS_ (hclip _ _) ?_
 rintro t m3 n3 ⟨rfl,rfl,hn3⟩
 simp -dsimp [List.range_succ,dT,hc,hcs,hcP,hcsP,nes8 n1,k0,k1,k2,f0,f1,f2,z1,z2,z3,nes,w1,w2,p3,p4,p5,g0,y0,y1,y2,yn,Ne.symm yn,him,hll,hdr,hoff,hcst,hcsst]
 exact ⟨st,.sv r 0 dd.length,rfl,hown2.keep (Nat.zero_le _) (by omega) fun j j1 j2=>by simp [show ¬j=0 by omega,show ¬j=1 by omega,show ¬j=2 by omega,show ¬j=n1 by omega,far j2]⟩
theorem deskDo_k (d:Desk) (a:Deed) (hd:d.small) (ha:a.words.length≤1000000000):FnS Tryz.prog 23 (fun _=>none) 0 [.v d.v,.v a.v] (PostK (deskDo d a)):=by
 have hk:=ft (deskOk d)
 rcases hk with hk | hk
 ·have hok:=deskOk_fn d (by have:=hd.2.1; omega) (by have:=hd.1.1; omega) (fun p hp=>by have:=(hd.2.2 p hp).1; omega)
  rw [deskDo_no hk]
  rw [hk] at hok
  obtain ⟨a1,a2,a3⟩:=a
  refine FS (rs:=[.cell 4 28,.tmp 5]) false Tryz.func23 ?_
  simp -dsimp
  refine cl hok ?_
  simp -dsimp [noDeskV]
  exact ⟨.nil,.nil,rfl,OwnD.none (Nat.zero_le _)⟩
 obtain ⟨hpast,hnow,hp8⟩:=deskOk_iff.1 hk
 have ml:=(made_fine d.now a hnow).2.1
 obtain ⟨kind,num,words⟩:=a
 simp only at ha
 have zero:∀ a:Deed,isBack a=false→made d.now a=⟨0,[]⟩→FnS Tryz.prog 23 (fun _=>none) 0 [.v d.v,.v a.v] (PostK (d,false))→FnS Tryz.prog 23 (fun _=>none) 0 [.v d.v,.v a.v] (PostK (deskDo d a)):=fun a h1 h2 h3=>by
  rw [deskDo_zero hk h1 h2]; exact h3
 by_cases k0:kind=0
 ·subst k0
  by_cases n0:num=0
  ·subst n0
   have hb:isBack ⟨0,0,words⟩=false:=back_no (by simp)
   cases hr:readC d.now.people words with
   | none=>exact zero _ hb (by simp [made,hr]) (do_nosay_k d words hd hk hr ha)
   | some c =>
    have hm:made d.now ⟨0,0,words⟩=⟨d.now.people,d.now.story++[c]⟩:=by simp [made,hr]
    rw [deskDo_made hk hb]
    exact do_say_k d words c hd hk _ ml hr ha hm
  ·exact zero _ (back_no (by simp)) (by simp [made,n0]) (do_bad2_k d num words hd hk n0)
 by_cases hw:words=[]
 case neg=>exact zero _ (back_no (by simp [hw])) (by simp [made,k0,hw]) (do_bad1_k d kind num words hd hk k0 hw)
 subst hw
 by_cases k1:kind=1
 ·subst k1
  have hb:isBack ⟨1,num,[]⟩=false:=back_no (by simp)
  by_cases h0:num<0
  ·exact zero _ hb (by simp [made]; omega) (do_nodrop1_k d num hd hk h0)
  ·by_cases h1:(d.now.story.length:Int)≤num
   ·exact zero _ hb (by simp [made]; omega) (do_nodrop2_k d num hd hk h0 h1)
   ·obtain ⟨k,rfl⟩:=Int.eq_ofNat_of_zero_le (show 0≤num by omega)
    have hm:made d.now ⟨1,(k:Int),[]⟩=⟨d.now.people,d.now.story.eraseIdx k⟩:=by
     unfold made; rw [if_neg (by simp),if_pos ⟨rfl,rfl,by simp,by simp; omega⟩]; rfl
    rw [deskDo_made hk hb]
    exact do_drop_k d k hd hk _ ml (by omega) hm
 by_cases k2:kind=2
 ·subst k2
  have hb:isBack ⟨2,num,[]⟩=false:=back_no (by simp)
  have hm:made d.now ⟨2,num,[]⟩=⟨num,d.now.story⟩:=by simp [made]
  rw [deskDo_made hk hb]
  exact do_people_k d num hd hk _ ml hm
 by_cases n0:num=0
 case neg=>exact zero _ (back_no (by simp [n0])) (by simp [made,k0,k1,k2,n0]) (do_bad3_k d kind num hd hk k0 k1 k2 n0)
 subst n0
 by_cases k3:kind=3
 ·subst k3
  have hb:isBack ⟨3,0,[]⟩=false:=back_no (by simp)
  have hm:made d.now ⟨3,0,[]⟩=⟨d.now.people,least d.now.people.toNat d.now.story⟩:=by simp [made]
  rw [deskDo_made hk hb]
  exact do_least_k d hd hk _ ml hm
 by_cases k4:kind=4
 ·subst k4
  by_cases he:d.past=[]
  ·rw [deskDo_bad hk (good_back (by rfl)) (by simp [he])]
   exact do_noback_k d hd hk he
  ·rw [deskDo_back hk (by rfl) he]
   exact do_back_k d hd hk he
 exact zero _ (back_no (by simp [k4])) (by simp [made,k0,k1,k2,k3]) (do_other_k d kind hd hk k0 k1 k2 k3 k4)
end TL

namespace TL
open Go Go.Proofs
/-- What the lost deeds, done again, have made so far. -/
structure EndInv (s x:Store) (k:Nat):Prop where
 ok:storeOk x=true
 full:(readJ x.log).2=x.log.length
 same:opened x=(doAll ⟨placeOf s,[]⟩ ((readJ s.log).1.take k)).1
 short:x.log.length≤(jr ((readJ s.log).1.take k) deedTx).length
end TL

namespace TL
open Go Go.Proofs
attribute [local simp] marksV storyV codeV Claim.v Place.v Deed.v Desk.v
theorem l15Copy_v (d:Desk) (hd:d.small) (m:Mem) (n:Nat):FnS Tryz.prog 26 m n [.v d.v] (Drawn (fun x=>x=d.v) m n):=by
 refine Drawn_of ⟨_,Tryz.func26,rfl,rfl⟩ fun hfr => ?_
 refine (l15Copy_own d hd m n).weak ?_
 rintro t m' n' ⟨hn,hout,st,rfl,hst⟩
 refine ⟨hn,⟨d.v, ?_,rfl⟩,hout⟩
 have hb:=hst.bor (n0:=n) (m':=m') (Nat.le_refl _) (fun i _ _ _=>rfl) 3
 simp [hb]
end TL

namespace TL
open Go Go.Proofs
attribute [local simp] marksV storyV codeV Claim.v Place.v Deed.v Desk.v
/-- A desk of the caller's own, and a value beside it. -/
def PostX (D:Desk) (x:V) (t:T) (m':Mem) (n':Nat):Prop:=∃ sn P,t=.tup [dT D sn P,.v x]∧OwnD m' 0 n' sn P D
theorem callK_ {f:Nat} {m:Mem} {n:Nat} {args:List T} {vs:List V} {D:Desk} {x:V} {k:T→Mem→Nat→Prop} (hx:x.flat=true) (h:FnS Tryz.prog f (fun _=>none) 0 (vs.map .v) (PostX D x)) (ha:mapO (bor true m 4) args=some vs)
  (hk:∀ sn P m2 n2,n≤n2→(∀ j,j<n→m2 j=m j)→OwnD m2 n n2 sn P D→k (.tup [dT D sn P,.v x]) m2 n2):callP Tryz.prog f m n args k:=by
 refine callU_ (Q:=PostX D x) h ha ?_ ?_
 ·rintro t m' n' ⟨sn,P,rfl,ho⟩
  exact ⟨flM m',flM_le _,by have:=ho.flat.2; simp [this,hx],flM_fl _,sn,P,rfl,ho.flat.1⟩
 ·rintro t m' n' ⟨sn,P,rfl,ho⟩
  have h2:=ho.up (n:=n) (m:=m)
  rw [Nat.zero_add,Nat.add_comm n' n] at h2
  exact hk (sn.up n) (P.up n) _ _ (by omega) (fun j j1=>catM_lo j1) h2
end TL

namespace TL
open Go Go.RowKit
variable {P:Program}
theorem FnZ_own {f:Nat} {vs:List V} {r:V} {post:T→Mem→Nat→Prop} (h:FnS P f (fun _=>none) 0 (vs.map .v) post) (d:Nat) (hp:∀ t m' n',post t m' n'→bor true m' d t=some r):FnZ P f vs r:=by
 refine ⟨h.1,fun Z w us hz hv => ?_⟩
 have hm:RelM P φ0 Z (fun _=>none) 0 w:=⟨fun i u h=>(by simp at h),fun _ _=>rfl,fun i b h=>(by cases h),fun i j a b u v k h=>(by cases h),hz⟩
 refine (h.2 φ0 Z w us hm hv.toTs).mono fun e w' hh => ?_
 obtain ⟨v,φ',Z',m',n',t,rfl,h1,h2,h3,h4⟩:=hh
 have no:∀ k,¬Owned φ0 (fun _=>none) k:=fun k ⟨i,b,v,h1,_⟩=>by cases h1
 have hsub:SubZ Z' (freshZ Z w.heap.size w'.heap.size):=fun k o hz'=>by
  rcases h3.znew k o hz' with g | g | g
  ·exact .inl g
  ·exact .inr ⟨g,h1.zlt.lt k o hz'⟩
  ·exact absurd g (no k)
 have hown:∀ g,Owned φ' m' g→∀ o,freshZ Z w.heap.size w'.heap.size g o:=fun g hg o=>by
  refine .inr ⟨?_,h1.owned_lt hg⟩
  rcases Nat.lt_or_ge g w.heap.size with h5 | h5
  ·exact absurd (h3.own g h5 hg) (no g)
  ·exact h5
 exact ⟨v,rfl,⟨h3.os,h3.tape,h3.output,h3.size,fun k hk=>h3.out k hk (no k)⟩,bor_sound h1 (k:=true) hsub (fun _=>hown) d _ _ _ h2 (hp _ _ _ h4)⟩
end TL

namespace TL
open Go Go.Proofs
attribute [local simp] marksV storyV codeV Claim.v Place.v Deed.v Desk.v
theorem words_le {line:List UInt8} {a:Deed} (h:readD line=some a):a.words.length≤line.length:=by
 obtain ⟨h1,h2⟩:=readD_is h
 rcases deed_cases (a:=a) (by rw [h2]; exact h1) with ⟨w,rfl,_,e⟩ | ⟨n,_,_,rfl,e⟩ | ⟨n,_,_,rfl,e⟩ | ⟨rfl,e⟩ | ⟨rfl,e⟩
 ·rw [h2] at e; rw [e]; simp
 all_goals simp
theorem deskLineS_fn (d:Desk) (line:List UInt8) (hd:d.small) (hf:d.fit) (hl:line.length≤1000000000):FnZ Tryz.prog 7 [d.v,.str line] (.tup [(deskLine d line).1.v,.str (deskLine d line).2]):=by
 have hok:=deskOkS_fn d hd hf
 cases hk:deskOk d with
 | false =>
  rw [deskLine_no hk]
  rw [hk] at hok
  refine FZ (rs:=[.cell 4 28,.tmp 5]) false Tryz.func7 ?_
  simp -dsimp
  refine cl hok ?_
  simp -dsimp [noDeskV,nes]
 | true =>
  rw [hk] at hok
  have hcp:=fun m n=>l15Copy_v d hd m n
  have hrd:=readDeedS_fn line (by omega)
  cases hr:readD line with
  | some a =>
   rw [deskLine_deed hk hr]
   rw [hr] at hrd
   have hdo:=deskDoS_fn d a hd hf (by have:=words_le hr; omega)
   clear hr
   generalize deskDo d a=E at *
   obtain ⟨⟨⟨E1,E2⟩,E3⟩,b⟩:=E
   obtain ⟨a1,a2,a3⟩:=a
   obtain ⟨⟨d1,d2⟩,d3⟩:=d
   simp only [optD,Option.getD_some,Option.isSome_some] at hrd
   refine FZ (rs:=[.cell 4 28,.tmp 5]) false Tryz.func7 ?_
   simp -dsimp
   refine cl hok ?_
   simp -dsimp [nes]
   refine callL_ (vs:=[(⟨⟨d1,d2⟩,d3⟩:Desk).v]) (hcp _ _) (by simp -dsimp) ?_
   rintro t m1 n1 ⟨hn1,⟨x,rfl,rfl⟩,rfl⟩
   have f0:=far (show 0<n1 by omega)
   have f1:=far (show 1<n1 by omega)
   simp -dsimp [nes,f0,f1]
   refine cl hrd ?_
   simp -dsimp [nes,f0,f1]
   refine cl hdo ?_
   cases b with
   | false=>simp -dsimp [nes,okNot,f0,f1]
   | true=>simp -dsimp [nes,okNot,f0,f1]
  | none =>
   rw [deskLine_ask hk hr]
   rw [hr] at hrd
   have han:=answerS_fn d.now (deskOk_iff.1 hk).2.1 line (by omega)
   generalize ans d.now line=A at *
   obtain ⟨⟨d1,d2⟩,d3⟩:=d
   simp only [optD,Option.getD_none,Option.isSome_none] at hrd
   refine FZ (rs:=[.cell 4 28,.tmp 5]) false Tryz.func7 ?_
   simp -dsimp
   refine cl hok ?_
   simp -dsimp [nes]
   refine callL_ (vs:=[(⟨⟨d1,d2⟩,d3⟩:Desk).v]) (hcp _ _) (by simp -dsimp) ?_
   rintro t m1 n1 ⟨hn1,⟨x,rfl,rfl⟩,rfl⟩
   have f0:=far (show 0<n1 by omega)
   have f1:=far (show 1<n1 by omega)
   simp -dsimp [nes,f0,f1]
   refine cl hrd ?_
   simp -dsimp [nes,f0,f1]
   refine twd (List.range 7) [0,n1] (List.replicate 7 [0,1]) (List.replicate 7 [0,1]) ?_
   simp -dsimp [List.range_succ,nes,f0,f1]
   refine cl han ?_
   simp -dsimp [List.range_succ,nes,f0,f1]
theorem deskLine_k (d:Desk) (line:List UInt8) (hd:d.small) (hl:line.length≤1000000000):FnS Tryz.prog 6 (fun _=>none) 0 [.v d.v,.v (.str line)] (PostX (deskLine d line).1 (.str (deskLine d line).2)):=by
 have hok:=deskOk_fn d (by have:=hd.2.1; omega) (by have:=hd.1.1; omega) (fun p hp=>by have:=(hd.2.2 p hp).1; omega)
 cases hk:deskOk d with
 | false =>
  rw [deskLine_no hk]
  rw [hk] at hok
  refine FS (rs:=[.cell 4 28,.tmp 5]) false Tryz.func6 ?_
  simp -dsimp
  refine cl hok ?_
  simp -dsimp [noDeskV,nes]
  exact ⟨.nil,.nil,rfl,OwnD.none (Nat.zero_le _)⟩
 | true =>
  rw [hk] at hok
  have hrd:=readDeed_fn line (by omega)
  cases hr:readD line with
  | some a =>
   rw [deskLine_deed hk hr]
   rw [hr] at hrd
   have hdo:=deskDo_k d a hd (by have:=words_le hr; omega)
   have hdo:FnS Tryz.prog 23 (fun _=>none) 0 [.v d.v,.v a.v] (PostX (deskDo d a).1 (.bool (deskDo d a).2)):=hdo
   clear hr
   generalize deskDo d a=E at *
   obtain ⟨D,b⟩:=E
   obtain ⟨a1,a2,a3⟩:=a
   simp only [optD,Option.getD_some,Option.isSome_some] at hrd
   refine FS (rs:=[.cell 4 28,.tmp 5]) false Tryz.func6 ?_
   simp -dsimp
   refine cl hok ?_
   simp -dsimp [nes]
   refine cl hrd ?_
   simp -dsimp [nes]
   refine callK_ (vs:=[d.v,(⟨a1,a2,a3⟩:Deed).v]) (D:=D) (x:=.bool b) rfl hdo (by simp -dsimp) ?_
   intro sn P m2 n2 hn2 hout2 hown2
   have k0:=hout2 0 (by omega)
   have k1:=hout2 1 (by omega)
   have k2:=hout2 2 (by omega)
   simp -dsimp [nes] at k0 k1 k2
   have hfc:=hown2.facts
   have hc:=hfc.1
   have hcs:=hfc.2.1
   have hcP:=hfc.2.2.1
   have hcsP:=hfc.2.2.2
   clear hfc
   have f0:=far (show 0<n2 by omega)
   have f1:=far (show 1<n2 by omega)
   have f2:=far (show 2<n2 by omega)
   cases b with
   | false =>
    simp -dsimp [dT,nes,k0,k1,k2,f0,f1,f2,hc,hcs,hcP,hcsP]
    exact ⟨sn,P,rfl,hown2.keep (Nat.zero_le _) (by omega) fun j j1 j2=>by simp [show ¬j=1 by omega,show ¬j=n2 by omega]⟩
   | true =>
    simp -dsimp [dT,nes,k0,k1,k2,f0,f1,f2,hc,hcs,hcP,hcsP]
    exact ⟨sn,P,rfl,hown2.keep (Nat.zero_le _) (by omega) fun j j1 j2=>by simp [show ¬j=1 by omega,show ¬j=n2 by omega]⟩
  | none =>
   rw [deskLine_ask hk hr]
   rw [hr] at hrd
   have hcv:=fun m n=>copyDesk_k d hd hk m n
   have han:=answer_fn d.now (deskOk_iff.1 hk).2.1 line (by omega)
   generalize ans d.now line=A at *
   simp only [optD,Option.getD_none,Option.isSome_none] at hrd
   refine FS (rs:=[.cell 4 28,.tmp 5]) false Tryz.func6 ?_
   simp -dsimp
   refine cl hok ?_
   simp -dsimp [nes]
   refine cl hrd ?_
   simp -dsimp [nes]
   refine twd [0,2,3,4,1,5,6,7] [0] (List.replicate 8 [0]) (List.replicate 8 [0]) ?_
   simp -dsimp [List.range_succ,nes]
   refine callL_ (vs:=[d.v]) (hcv _ _) (by simp -dsimp) ?_
   rintro t m1 n1 ⟨hn1,hout,sn,P,rfl,hown⟩
   have k0:=hout 0 (by omega)
   have k1:=hout 1 (by omega)
   simp -dsimp [nes] at k0 k1
   have hfc:=hown.facts
   have hc:=hfc.1
   have hcs:=hfc.2.1
   have hcP:=hfc.2.2.1
   have hcsP:=hfc.2.2.2
   clear hfc
   have f0:=far (show 0<n1 by omega)
   have f1:=far (show 1<n1 by omega)
   simp -dsimp [List.range_succ,dT,nes,keepP,k0,k1,f0,f1,hc,hcs,hcP,hcsP]
   refine cl han ?_
   simp -dsimp [List.range_succ,dT,nes,keepP,k0,k1,f0,f1,hc,hcs,hcP,hcsP]
   exact ⟨sn,P,rfl,hown.keep (Nat.zero_le _) (by omega) fun j j1 j2=>by simp [show ¬j=1 by omega,show ¬j=n1 by omega]⟩
theorem postX_pure {D:Desk} {x:V} {t:T} {m':Mem} {n':Nat} (h:PostX D x t m' n'):bor true m' 5 t=some (.tup [D.v,x]):=by
 obtain ⟨sn,P,rfl,ho⟩:=h
 have h1:=ho.bor.1
 have h2:=ho.bor.2
 simp [dT,h1,h2]
theorem deskLineP_fn (d:Desk) (line:List UInt8) (hd:d.small) (hl:line.length≤1000000000):FnZ Tryz.prog 6 [d.v,.str line] (.tup [(deskLine d line).1.v,.str (deskLine d line).2]) :=
 FnZ_own (deskLine_k d line hd hl) 5 fun _ _ _ h=>postX_pure h
end TL

namespace TL
open Go Go.Proofs
def plT:List Place→List T
 | []=>[]
 | p :: l=>.v (.int .i64 p.people) :: .v (storyV p.story) :: plT l
@[simp] theorem plT_nil:plT []=[]:=rfl
theorem plT_append (a b:List Place):plT (a++b)=plT a++plT b:=by
 induction a with
 | nil=>rfl
 | cons x xs ih=>simp [plT,ih]
@[simp] theorem plT_length (a:List Place):(plT a).length=a.length * 2:=by
 induction a with
 | nil=>rfl
 | cons x xs ih=>simp [plT,ih]; omega
theorem plT_take_ex (a:List Place) (ex:List T):(plT a++ex).take (a.length * 2)=plT a:=List.take_left' (by simp)
@[simp] theorem plT_cells (a:List Place):allC (plT a):=by
 induction a with
 | nil=>simp
 | cons x xs ih=>simp [plT,storyV]; exact ih
theorem plT_get {l:List Place} {ex:List T} {k:Nat} (h:k<l.length):((plT l++ex).drop (k * 2)).take 2=[.v (.int .i64 l[k].people),.v (storyV l[k].story)]:=by
 have e:l=l.take k++l[k] :: l.drop (k+1):=by rw [← List.drop_eq_getElem_cons h,List.take_append_drop]
 have e2:plT l=plT (l.take k)++([.v (.int .i64 l[k].people),.v (storyV l[k].story)]++plT (l.drop (k+1))):=by
  conv=>lhs; rw [e,plT_append]
  rfl
 rw [e2,List.append_assoc,List.drop_left' (by simp; omega)]
 rfl
theorem plT_bor (k:Bool) (m:Mem) (d:Nat) (l:List Place):mapO (bor k m d) (plT l)=some (l.flatMap fun p=>p.v.cells):=by
 induction l with
 | nil=>rfl
 | cons p l ih=>simp [plT,mapO,ih,Place.v,V.cells]
end TL

namespace TL
open Go Go.Proofs
attribute [local simp] marksV storyV codeV Claim.v Place.v Desk.v
def PastT (m:Mem) (lo hi:Nat) (P:T) (l:List Place):Prop:=(P=.nil∧l=[])∨∃ id ex,P=.sv id 0 l.length∧lo≤id∧id<hi∧m id=some (.box 25 2 (plT l++ex))
def OwnDeskM (d:Desk) (m:Mem) (n:Nat) (t:T) (m':Mem) (n':Nat):Prop:=n≤n'∧(∀ j,j<n→m' j=m j)∧∃ st,t=.agg [.v (.int .i64 d.now.people),.v (storyV d.now.story),st]∧PastT m' n n' st d.past
def Iom (d:Desk) (P:T) (m:Mem) (n:Nat) (e:Nat) (s:S):Prop:=∃ (i:Nat) (st:T),s.tm 1=.ptr n 0∧s.tm 2=.ptr (n+1) 0∧s.tm 3=.ptr (n+2) 0∧s.tm 4=.v (.int .i64 i)∧s.mu=true∧i≤d.past.length∧n+3≤s.n ∧
 s.m n=some (.box 28 3 [.v (.int .i64 d.now.people),.v (storyV d.now.story),P])∧s.m (n+1)=some (.box 28 3 [.v (.int .i64 0),.nil,.nil]) ∧
 s.m (n+2)=some (.box 28 3 [.v (.int .i64 d.now.people),.v (storyV d.now.story),st])∧PastT s.m (n+3) s.n st (d.past.take i)∧(∀ j,j<n→s.m j=m j)∧(e=1→i=d.past.length)
theorem l15Copy_mut (d:Desk) (hd:d.small) (P:T) (m:Mem) (n:Nat) (hP:PastT m 0 n P d.past):FnS Tryz.prog 26 m n [.agg [.v (.int .i64 d.now.people),.v (storyV d.now.story),P]] (OwnDeskM d m n):=by
 have hl:=hd.2.1
 refine FS (rs:=[.cell 2 28]) true Tryz.func26 ?_
 have e0:¬n=n+1:=by omega
 have e1:¬n=n+2:=by omega
 have e2:¬n+1=n+2:=by omega
 have e3:¬n+2=n:=by omega
 have e4:¬n+2=n+1:=by omega
 have e5:¬n+1=n:=by omega
 have hPc:P.cell=true:=by rcases hP with ⟨rfl,_⟩ | ⟨id,ex,rfl,_⟩ <;> rfl
 have hPb:∀ d,bor true m d P=none∨True:=fun _=>.inr trivial
 simp -dsimp [hPc]
 refine cl (l15Place_fn d.now hd.1) ?_
 simp -dsimp [e0,e1,e2,e3,e4,e5,nes,hPc]
 refine twp_loopC (Iom d P m n 0) (fun s=>d.past.length-natOf (s.tm 4)) (Iom d P m n 1) ?_ ?_ ?_
 ·refine ⟨0,.nil,by simp -dsimp,by simp -dsimp,by simp -dsimp,by simp -dsimp,by simp -dsimp,by omega,by simp -dsimp,by simp -dsimp [nes],by simp -dsimp [nes],by simp -dsimp,.inl ⟨rfl,by simp⟩,fun j j1 => ?_,by simp⟩
  simp -dsimp [far j1]
 ·rintro s ⟨i,st,t1,t2,t3,t4,hmu,hi,hn,m0,m1,m2,hst,hout,hend⟩
  have hlen:slLen s.m P=some d.past.length:=by
   rcases hP with ⟨rfl,h0⟩ | ⟨id,ex,rfl,_⟩
   ·rw [h0]; rfl
   ·rfl
  by_cases hlt:i<d.past.length
  case neg =>
   rcases hP with ⟨rfl,h0⟩ | ⟨pid,ex,rfl,hp0,hp1,hpm⟩
   ·have h00:d.past.length=0:=by rw [h0]; rfl
    have i0:i=0:=by omega
    simp -dsimp [t1,t4,m0,i0]
    exact ⟨0,st,by simp -dsimp [t1],by simp -dsimp [t2],by simp -dsimp [t3],by simp -dsimp [t4,i0],by simp -dsimp [hmu],by omega,by simp -dsimp; omega,by simp -dsimp [m0],by simp -dsimp [m1],by simp -dsimp [m2],by rw [i0] at hst; exact hst,fun j j1=>by simp -dsimp [hout j j1],fun _=>by omega⟩
   ·simp -dsimp [t1,t4,m0,hlt]
    exact ⟨i,st,by simp -dsimp [t1],by simp -dsimp [t2],by simp -dsimp [t3],by simp -dsimp [t4],by simp -dsimp [hmu],hi,by simp -dsimp; omega,by simp -dsimp [m0],by simp -dsimp [m1],by simp -dsimp [m2],hst,fun j j1=>by simp -dsimp [hout j j1],fun _=>by omega⟩
  rcases hP with ⟨rfl,h0⟩ | ⟨pid,ex,rfl,hp0,hp1,hpm⟩
  ·rw [h0] at hlt; simp at hlt
  have hpm':s.m pid=some (.box 25 2 (plT d.past++ex)):=by rw [hout pid hp1]; exact hpm
  have hget:=plT_get (ex:=ex) hlt
  have hgl:i * 2+2≤(plT d.past++ex).length:=by simp; omega
  have hgl2:i * 2+2≤d.past.length * 2+ex.length:=by omega
  have wi:IntKind.wrap .i64 ((i:Int)+1)=((i+1:Nat):Int):=by rw [w64 (by omega) (by omega)]; omega
  have hmu1:d.past.length-(i+1)<d.past.length-i:=by omega
  have f0:=far (show n<s.n by omega)
  have f1:=far (show n+1<s.n by omega)
  have f2:=far (show n+2<s.n by omega)
  have f3:=far (show pid<s.n by omega)
  have d0:¬pid=n:=by omega
  have d1:¬pid=n+1:=by omega
  have d2:¬pid=n+2:=by omega
  have hsm:=hd.2.2 d.past[i] (List.getElem_mem _)
  have hpl:=l15Place_fn d.past[i] hsm
  have b1:(min i d.past.length+1) * 32≤140737488355328:=by omega
  have b2:(i+1) * 32≤140737488355328:=by omega
  have htk:plT (d.past.take (i+1))=plT (d.past.take i)++[.v (.int .i64 d.past[i].people),.v (storyV d.past[i].story)]:=by rw [List.take_succ_eq_append_getElem hlt,plT_append]; rfl
  have hil:min i d.past.length=i:=by omega
  simp -dsimp [t1,t4,m0,hlt]
  have hTb:plT (d.past.take i)=plT (d.past.take i):=rfl
  refine twd (List.range 12) [n,n+2,pid] (List.replicate 12 [0,1,2]) (List.replicate 11 [0,1,2]++[[0,2]]) ?_
  rcases hst with ⟨rfl,hs0⟩ | ⟨id,ex2,rfl,hi0,hi1,him⟩
  ·simp -dsimp [List.range_succ,t1,t3,t4,m0,m2,hlt,hget,hgl,hgl2,hpm',nes,f0,f1,f2,f3,e0,e1,e2,e3,e4,e5,d0,d1,d2]
   refine cl hpl ?_
   simp -dsimp [List.range_succ,t1,t3,t4,m0,m2,hlt,hget,hgl,hgl2,hpm',hmu,nes,f0,f1,f2,f3,e0,e1,e2,e3,e4,e5,d0,d1,d2,wi,hmu1]
   have hi00:i=0:=by
    simp at hs0; rcases hs0 with h | h
    ·exact h
    ·rw [h] at hlt; simp at hlt
   subst hi00
   refine st_out fun s' ht hm' hn' hu' => ?_
   have q1:=ht 1
   have q2:=ht 2
   have q3:=ht 3
   have q4:=ht 4
   simp -dsimp [t1,t2,t3] at q1 q2 q3 q4 hm' hn' hu'
   clear ht
   refine ⟨1,.sv (s.n+1) 0 1,q1,q2,q3,q4,by rw [hu',hmu],by omega,by omega,by simp [hm',nes,e0,e1,f0,m0],by simp [hm',nes,e2,f0,f1,m1],by simp [hm',nes,f2],.inr ⟨s.n+1,[], ?_,by omega,by omega, ?_⟩,fun j j1 => ?_,by simp⟩
   ·simp; omega
   ·rw [htk]; simp [hm',nes,f0,f1,f2]
   ·simp [hm',far (show j<s.n by omega),show ¬j=n+2 by omega,hout j j1]
  ·have g1:=far hi1
   have g2:¬id=n+2:=by omega
   have g0:¬id=n:=by omega
   have g3:¬id=n+1:=by omega
   have g4:¬id=pid:=by omega
   simp -dsimp [List.range_succ,t1,t3,t4,m0,m2,hlt,hget,hgl,hgl2,hpm',nes,f0,f1,f2,f3,e0,e1,e2,e3,e4,e5,d0,d1,d2]
   refine cl hpl ?_
   simp -dsimp [List.range_succ,t1,t3,t4,m0,m2,hlt,hget,hgl,hgl2,hpm',hmu,nes,f0,f1,f2,f3,e0,e1,e2,e3,e4,e5,d0,d1,d2,wi,hmu1,b1,g1,g2,g0,g3,g4,Ne.symm g0,Ne.symm g2,Ne.symm g3,Ne.symm g4,him]
   refine st_out fun s' ht hm' hn' hu' => ?_
   have q1:=ht 1
   have q2:=ht 2
   have q3:=ht 3
   have q4:=ht 4
   simp -dsimp [t1,t2,t3] at q1 q2 q3 q4 hm' hn' hu'
   clear ht
   refine ⟨i+1,.sv (s.n+1) 0 (i+1),q1,q2,q3,q4,by rw [hu',hmu],by omega,by omega,by simp [hm',nes,e0,e1,f0,m0,Ne.symm g0],by simp [hm',nes,e2,f0,f1,m1,Ne.symm g3],by simp [hm',nes,f2,hil],.inr ⟨s.n+1,[], ?_,by omega,by omega, ?_⟩,fun j j1 => ?_,by simp⟩
   ·simp; omega
   ·rw [htk]; simp [hm',f0,f1,f2,nes,hil]
   ·simp [hm',far (show j<s.n by omega),show ¬j=n+2 by omega,show ¬j=id by omega,hout j j1]
 ·rintro s ⟨i,st,t1,t2,t3,t4,hmu,hi,hn,m0,m1,m2,hst,hout,hend⟩
  have:=hend rfl
  subst this
  rw [List.take_length] at hst
  have f1:=far (show n+1<s.n by omega)
  rcases hst with ⟨rfl,hs0⟩ | ⟨id,ex2,rfl,hi0,hi1,him⟩
  ·simp -dsimp [t2,t3,m1,m2,e2,e4]
   exact ⟨by omega,fun j j1=>by simp [show ¬j=n+1 by omega,hout j j1],.nil,rfl,.inl ⟨rfl,hs0⟩⟩
  ·have g3:¬id=n+1:=by omega
   simp -dsimp [t2,t3,m1,m2,e2,e4]
   exact ⟨by omega,fun j j1=>by simp [show ¬j=n+1 by omega,hout j j1],.sv id 0 d.past.length,rfl,.inr ⟨id,ex2,rfl,by omega,by omega,by simp [g3,him]⟩⟩
end TL

namespace TL
open Go Go.Proofs
attribute [local simp] marksV storyV codeV Claim.v Place.v Deed.v Desk.v
theorem PastT.cell {m:Mem} {lo hi:Nat} {P:T} {l:List Place} (h:PastT m lo hi P l):P.cell=true:=by
 rcases h with ⟨rfl,_⟩ | ⟨id,ex,rfl,_⟩ <;> rfl
theorem PastT.cells {m:Mem} {lo hi:Nat} {P:T} {l:List Place} (h:PastT m lo hi P l):P.cells=[P]:=by
 rcases h with ⟨rfl,_⟩ | ⟨id,ex,rfl,_⟩ <;> rfl
theorem PastT.len {m:Mem} {lo hi:Nat} {P:T} {l:List Place} (h:PastT m lo hi P l) (mm:Mem):evLen Tryz.prog 26 mm P=some ⟨.v (.int .i64 l.length),[]⟩:=by
 rcases h with ⟨rfl,rfl⟩ | ⟨id,ex,rfl,_⟩ <;> simp <;> rfl
theorem PastT.bor {m:Mem} {lo hi:Nat} {P:T} {l:List Place} (h:PastT m lo hi P l) {mm:Mem} (hm:∀ j,lo≤j→j<hi→mm j=m j) (d:Nat):TL.bor true mm (d+1) P=some (.sl (l.map Place.v)):=by
 rcases h with ⟨rfl,rfl⟩ | ⟨id,ex,rfl,h0,h1,h2⟩
 ·rfl
 ·have e:mm id=some (.box 25 2 (plT l++ex)):=by rw [hm id h0 h1,h2]
  have c1:0+l.length * 2≤(plT l++ex).length:=by simp
  have c2:((plT l++ex).drop 0).take (l.length * 2)=plT l:=by rw [List.drop_zero,plT_take_ex]
  show (match mm id with | some (.box _ z cs)=>tst (0+l.length * z≤cs.length) (obind (mapO (TL.bor true mm d) ((cs.drop 0).take (l.length * z))) fun xs=>tst (∀ x ∈ xs,x.cell=true) (some (V.sl (chunk z l.length xs)))) | _=>none)=_
  rw [e]
  show tst (0+l.length * 2≤(plT l++ex).length) (obind (mapO (TL.bor true mm d) (((plT l++ex).drop 0).take (l.length * 2))) fun xs=>tst (∀ x ∈ xs,x.cell=true) (some (V.sl (chunk 2 l.length xs))))=_
  rw [tst_pos c1,c2,plT_bor,obind_some,tst_pos (plV_cell l),plV_chunk]
theorem PastT.keep {m m':Mem} {lo hi lo' hi':Nat} {P:T} {l:List Place} (h:PastT m lo hi P l) (h1:lo'≤lo) (h2:hi≤hi') (hm:∀ j,lo≤j→j<hi→m' j=m j):PastT m' lo' hi' P l:=by
 rcases h with ⟨rfl,rfl⟩ | ⟨id,ex,rfl,g0,g1,g2⟩
 ·exact .inl ⟨rfl,rfl⟩
 ·exact .inr ⟨id,ex,rfl,by omega,by omega,by rw [hm id g0 g1,g2]⟩
theorem desk_arg {m:Mem} {hi:Nat} {P:T} {d:Desk} (h:PastT m 0 hi P d.past) {mm:Mem} (hm:∀ j,j<hi→mm j=m j):mapO (TL.bor true mm 4) [.agg [.v (.int .i64 d.now.people),.v (storyV d.now.story),P]]=some [d.v]:=by
 have hb:=h.bor (mm:=mm) (fun j _ hj=>hm j hj) 2
 simp [hb]
/-- The reference's DeskNew, its row of places of before the caller's own. -/
def NewT (p:Place) (m:Mem) (n:Nat) (t:T) (m':Mem) (n':Nat):Prop:=n≤n'∧(∀ j,j<n→m' j=m j) ∧
 ((placeOk p=true∧t=.tup [.agg [.v (.int .i64 p.people),.v (storyV p.story),.nil],.v (.bool true)])∨(placeOk p=false∧t=.tup [.agg [.v (.int .i64 0),.nil,.nil],.v (.bool false)]))
theorem deskNewS_mut (p:Place) (hp:p.small) (hf:p.fit) (m:Mem) (n:Nat):FnS Tryz.prog 39 m n [.v p.v] (NewT p m n):=by
 have hok:=placeOkS_fn p ⟨by have:=hp.1; omega,fun c hc=>⟨(hf.2 c hc).2,by have:=hp.2 c hc; unfold Claim.small at this; omega⟩⟩
 have hk:=ft (placeOk p)
 refine FS (rs:=[.cell 2 28,.tmp 3]) true Tryz.func39 ?_
 have e0:¬n=n+1:=by omega
 have e5:¬n+1=n:=by omega
 rcases hk with hk | hk
 ·rw [hk] at hok
  simp -dsimp
  refine call_ hok (by simp -dsimp [e0,e5,nes]) ?_
  simp -dsimp [e0,e5,nes]
  exact ⟨by omega,fun j j1=>by simp [far j1],.inr ⟨hk,rfl⟩⟩
 ·rw [hk] at hok
  simp -dsimp
  refine call_ hok (by simp -dsimp [e0,e5,nes]) ?_
  simp -dsimp [e0,e5,nes]
  refine cl (l15Place_fn p hp) ?_
  simp -dsimp [e0,e5,nes]
  exact ⟨by omega,fun j j1=>by simp [far j1],.inl ⟨hk,rfl⟩⟩
/-- Nothing can be done at no desk. -/
theorem deskDoS_none (a:Deed) (m:Mem) (n:Nat):FnS Tryz.prog 28 m n [.agg [.v (.int .i64 0),.v (.sl []),.nil],.v a.v] (fun t m' n'=>n≤n'∧(∀ j,j<n→m' j=m j)∧t=.tup [.agg [.v (.int .i64 0),.nil,.nil],.v (.bool false)]):=by
 have hno:deskOk noDeskV=false:=by decide
 have hok:=deskOkS_fn noDeskV ⟨⟨by simp [noDeskV],by simp [noDeskV]⟩,by simp [noDeskV],by simp [noDeskV]⟩ ⟨⟨by simp [noDeskV,fit],by simp [noDeskV]⟩,by simp [noDeskV]⟩
 rw [hno] at hok
 obtain ⟨a1,a2,a3⟩:=a
 refine FS (rs:=[.cell 4 28,.tmp 5]) true Tryz.func28 ?_
 have e0:¬n=n+1:=by omega
 have e1:¬n=n+2:=by omega
 have e2:¬n+1=n+2:=by omega
 have e3:¬n+2=n:=by omega
 have e4:¬n+2=n+1:=by omega
 have e5:¬n+1=n:=by omega
 simp -dsimp [e0,e1,e2,e3,e4,e5,nes]
 refine callM_ hok (by simp -dsimp [noDeskV,e0,e1,e2,e3,e4,e5,nes]) rfl ?_
 simp -dsimp [e0,e1,e2,e3,e4,e5,nes]
 exact ⟨by omega,fun j j1=>by simp [far j1]⟩
/-- The reference's DeskDo, its row of places of before the caller's own. -/
def DoT (d:Desk) (a:Deed) (m:Mem) (n:Nat) (t:T) (m':Mem) (n':Nat):Prop:=n≤n'∧(∀ j,j<n→m' j=m j)∧∃ st,t=.tup [.agg [.v (.int .i64 (deskDo d a).1.now.people),.v (storyV (deskDo d a).1.now.story),st],.v (.bool (deskDo d a).2)]∧PastT m' n n' st (deskDo d a).1.past
theorem deskDoS_mut (d:Desk) (a:Deed) (hk:deskOk d=true) (h7:d.past.length≤7) (ha:a.words.length≤1000000000) (P:T) (m:Mem) (n:Nat) (hP:PastT m 0 n P d.past) :
  FnS Tryz.prog 28 m n [.agg [.v (.int .i64 d.now.people),.v (storyV d.now.story),P],.v a.v] (DoT d a m n):=by
 have hd:=(desk_fine hk).1
 have hf:=(desk_fine hk).2.1
 have hok:=deskOkS_fn d hd hf
 rw [hk] at hok
 obtain ⟨hpast,hnow,hp8⟩:=deskOk_iff.1 hk
 have hcopy:=l15Copy_mut d hd P
 have hPc:=hP.cell
 have hPcs:=hP.cells
 have e0:¬n=n+1:=by omega
 have e1:¬n=n+2:=by omega
 have e2:¬n+1=n+2:=by omega
 have e3:¬n+2=n:=by omega
 have e4:¬n+2=n+1:=by omega
 have e5:¬n+1=n:=by omega
 by_cases hb:isBack a=true∧d.past ≠ []
 ·have hD:=deskDo_back hk hb.1 hb.2
  unfold DoT
  rw [hD]
  have ha4:a=⟨4,0,[]⟩:=by have:=hb.1; simp only [isBack,decide_eq_true_eq] at this; exact this
  subst ha4
  have hne:=hb.2
  have hpos:0<d.past.length:=List.length_pos_iff.2 hb.2
  have hpos':(0:Int)<d.past.length:=by omega
  have p1:(1:Int)≤d.past.length:=by omega
  have p2:1≤d.past.length:=by omega
  have w1:IntKind.wrap .i64 ((d.past.length:Int)-1)=(d.past.length:Int)-1:=w64 (by omega) (by omega)
  clear hb
  have hP2:=hP
  rcases hP with ⟨rfl,hp0⟩ | ⟨pid,pex,rfl,hq0,hq1,hqm⟩
  ·exact absurd hp0 hne
  refine FS (rs:=[.cell 4 28,.tmp 5]) true Tryz.func28 ?_
  simp -dsimp [hPc,hPcs,e0,e1,e2,e3,e4,e5,nes]
  refine callM_ hok (desk_arg hP2 (fun j hj=>by simp [far hj])) rfl ?_
  simp -dsimp [hPc,hPcs,e0,e1,e2,e3,e4,e5,nes]
  refine callS_ (hcopy _ _ (hP2.keep (Nat.le_refl _) (by omega) (fun j _ hj=>by simp [far hj]))) ?_
  rintro t m1 n1 ⟨hn1,hout,st,rfl,hst⟩
  have k0:=hout n (by omega)
  have k1:=hout (n+1) (by omega)
  have k2:=hout (n+1+1) (by omega)
  simp -dsimp [e0,e1,e2,e3,e4,e5,nes] at k0 k1 k2
  have f0:=far (show n<n1 by omega)
  have f1:=far (show n+1<n1 by omega)
  have f2:=far (show n+1+1<n1 by omega)
  have z1:¬n1=n:=by omega
  have z2:¬n1=n+1:=by omega
  have z3:¬n1=n+1+1:=by omega
  rcases hst with ⟨rfl,hs0⟩ | ⟨id,ex,rfl,hi0,hi1,him⟩
  ·exact absurd hs0 hne
  ·have g1:=far hi1
   have hlast:d.past.length-1<d.past.length:=by omega
   have hget:=plT_get (ex:=ex) hlast
   have hgl:(d.past.length-1) * 2+2≤(plT d.past++ex).length:=by simp; omega
   have hgl2:(d.past.length-1) * 2+2≤d.past.length * 2+ex.length:=by omega
   have l1:((d.past.length:Int)-1).toNat=d.past.length-1:=by omega
   have l3:(0:Int)≤(d.past.length:Int)-1:=by omega
   have l4:(d.past.length:Int)-1<d.past.length:=by omega
   have l5:(d.past.length:Int)-1≤d.past.length:=by omega
   have l6:d.past.length-1≤d.past.length:=by omega
   have lq:d.past.getLast?.getD d.now=d.past[d.past.length-1]:=by rw [List.getLast?_eq_getElem?,List.getElem?_eq_getElem hlast]; rfl
   have y0:¬id=n:=by omega
   have y1:¬id=n+1:=by omega
   have y2:¬id=n+1+1:=by omega
   have tkd:plT d.past++ex=plT d.past.dropLast++(plT (d.past.drop (d.past.length-1))++ex):=by
    rw [List.dropLast_eq_take,← List.append_assoc,← plT_append,List.take_append_drop]
   rw [lq]
   generalize d.past[d.past.length-1]=q at *
   simp -dsimp [k0,k1,k2,f0,f1,f2,z1,z2,z3,hPc,hPcs,hne,hpos,hpos',p1,p2,g1,him,w1,l1,l3,l4,l5,l6,y0,y1,y2,hget,hgl,hgl2,e0,e1,e2,e3,e4,e5,nes]
   have ho:∀ j,j<n→m1 j=m j:=fun j j1=>by have hj:=hout j (by omega); simp [far j1] at hj; exact hj
   refine ⟨by omega,fun j j1 => ?_,.inr ⟨id,_,by rw [List.length_dropLast],by omega,by omega,by simp [y2,show ¬id=n1 by omega,him]; exact tkd⟩⟩
   simp [show ¬j=n+1+1 by omega,show ¬j=n1 by omega,ho j j1]
 have hmade:=l15Made_fn d.now a hnow ha
 obtain ⟨mf,ml,ms⟩:=made_fine d.now a hnow
 have hpo:=placeOkS_fn (made d.now a) mf
 have hpt:=placeTextS_fn (made d.now a) mf
 have hpn:=placeTextS_fn d.now (place_fine hnow).1
 have hD:deskDo d a=if (placeOk (made d.now a) && !decide (placeTx (made d.now a)=placeTx d.now))=true then (⟨made d.now a,d.past++[d.now]⟩,true) else (d,false):=by
  unfold deskDo
  rw [if_pos hk,if_neg hb]
  have e:keep8 (d.past++[d.now])=d.past++[d.now]:=by unfold keep8; rw [if_neg (by simp; omega)]
  rw [e]; rfl
 unfold DoT
 rw [hD]
 have hb':(decide (a=⟨4,0,[]⟩)=true∧d.past ≠ [])→False:=hb
 have hba:isBack a=true→placeOk (made d.now a)=false∧d.past=[]:=fun h=>⟨by rw [made_back h,zero_no],Classical.byContradiction fun h2=>hb' ⟨h,h2⟩⟩
 clear hb hb' hD
 generalize made d.now a=X at *
 generalize placeTx X=tX at *
 generalize placeTx d.now=tN at *
 have hkX:=ft (placeOk X)
 generalize placeOk X=okX at *
 obtain ⟨kind,num,words⟩:=a
 have htx:tX=tN∨¬tX=tN:=Classical.em _
 obtain ⟨Xp,Xs⟩:=X
 have fullb:(d.past.length+1) * 32≤140737488355328:=by omega
 by_cases hq:kind=4∧num=0∧words=[]
 ·obtain ⟨rfl,rfl,rfl⟩:=hq
  obtain ⟨hokX,he⟩:=hba rfl
  subst hokX
  have hP2:=hP
  have he0:d.past.length=0:=by rw [he]; rfl
  rcases hP with ⟨rfl,hp0⟩ | ⟨pid,pex,rfl,hq0,hq1,hqm⟩
  ·refine FS (rs:=[.cell 4 28,.tmp 5]) true Tryz.func28 ?_
   simp -dsimp [hPc,hPcs,e0,e1,e2,e3,e4,e5,nes]
   refine callM_ hok (desk_arg hP2 (fun j hj=>by simp [far hj])) rfl ?_
   simp -dsimp [hPc,hPcs,e0,e1,e2,e3,e4,e5,nes]
   refine callS_ (hcopy _ _ (hP2.keep (Nat.le_refl _) (by omega) (fun j _ hj=>by simp [far hj]))) ?_
   rintro t m1 n1 ⟨hn1,hout,st,rfl,hst⟩
   have k0:=hout n (by omega)
   have k1:=hout (n+1) (by omega)
   have k2:=hout (n+1+1) (by omega)
   simp -dsimp [e0,e1,e2,e3,e4,e5,nes] at k0 k1 k2
   have f0:=far (show n<n1 by omega)
   have f1:=far (show n+1<n1 by omega)
   have f2:=far (show n+1+1<n1 by omega)
   have z1:¬n1=n:=by omega
   have z2:¬n1=n+1:=by omega
   have z3:¬n1=n+1+1:=by omega
   have hc:=hst.cell
   have hcs:=hst.cells
   simp -dsimp [k0,k1,k2,f0,f1,f2,z1,z2,z3,he,he0,hPc,hPcs,hc,hcs,e0,e1,e2,e3,e4,e5,nes]
   refine cl hmade ?_
   simp -dsimp [k0,k1,k2,f0,f1,f2,z1,z2,z3,he,he0,hPc,hPcs,hc,hcs,e0,e1,e2,e3,e4,e5,nes]
   refine twd [0,1,2,3,4,6,7,5,8,9,10] [n,n1+1+1] (List.replicate 11 [0,1]) (List.replicate 11 [0,1]) ?_
   simp -dsimp [k0,k1,k2,f0,f1,f2,z1,z2,z3,he,he0,hPc,hPcs,hc,hcs,e0,e1,e2,e3,e4,e5,nes]
   refine cl hpo ?_
   simp -dsimp [k0,k1,k2,f0,f1,f2,z1,z2,z3,he,he0,hPc,hPcs,hc,hcs,e0,e1,e2,e3,e4,e5,nes]
   have ho:∀ j,j<n→m1 j=m j:=fun j j1=>by have hj:=hout j (by omega); simp [far j1] at hj; exact hj
   refine ⟨by omega,fun j j1 => ?_,PastT.keep (lo:=n+1+1+1) (hi:=n1) (he ▸ hst) (by omega) (by omega) (fun j j1 j2=>by simp [show ¬j=n+1+1 by omega,show ¬j=n1 by omega,show ¬j=n1+1+1 by omega])⟩
   simp [show ¬j=n+1+1 by omega,show ¬j=n1 by omega,show ¬j=n1+1+1 by omega,ho j j1]
  ·refine FS (rs:=[.cell 4 28,.tmp 5]) true Tryz.func28 ?_
   simp -dsimp [hPc,hPcs,e0,e1,e2,e3,e4,e5,nes]
   refine callM_ hok (desk_arg hP2 (fun j hj=>by simp [far hj])) rfl ?_
   simp -dsimp [hPc,hPcs,e0,e1,e2,e3,e4,e5,nes]
   refine callS_ (hcopy _ _ (hP2.keep (Nat.le_refl _) (by omega) (fun j _ hj=>by simp [far hj]))) ?_
   rintro t m1 n1 ⟨hn1,hout,st,rfl,hst⟩
   have k0:=hout n (by omega)
   have k1:=hout (n+1) (by omega)
   have k2:=hout (n+1+1) (by omega)
   simp -dsimp [e0,e1,e2,e3,e4,e5,nes] at k0 k1 k2
   have f0:=far (show n<n1 by omega)
   have f1:=far (show n+1<n1 by omega)
   have f2:=far (show n+1+1<n1 by omega)
   have z1:¬n1=n:=by omega
   have z2:¬n1=n+1:=by omega
   have z3:¬n1=n+1+1:=by omega
   have hc:=hst.cell
   have hcs:=hst.cells
   simp -dsimp [k0,k1,k2,f0,f1,f2,z1,z2,z3,he,he0,hPc,hPcs,hc,hcs,e0,e1,e2,e3,e4,e5,nes]
   refine cl hmade ?_
   simp -dsimp [k0,k1,k2,f0,f1,f2,z1,z2,z3,he,he0,hPc,hPcs,hc,hcs,e0,e1,e2,e3,e4,e5,nes]
   refine twd [0,1,2,3,4,6,7,5,8,9,10] [n,n1+1+1] (List.replicate 11 [0,1]) (List.replicate 11 [0,1]) ?_
   simp -dsimp [k0,k1,k2,f0,f1,f2,z1,z2,z3,he,he0,hPc,hPcs,hc,hcs,e0,e1,e2,e3,e4,e5,nes]
   refine cl hpo ?_
   simp -dsimp [k0,k1,k2,f0,f1,f2,z1,z2,z3,he,he0,hPc,hPcs,hc,hcs,e0,e1,e2,e3,e4,e5,nes]
   have ho:∀ j,j<n→m1 j=m j:=fun j j1=>by have hj:=hout j (by omega); simp [far j1] at hj; exact hj
   refine ⟨by omega,fun j j1 => ?_,PastT.keep (lo:=n+1+1+1) (hi:=n1) (he ▸ hst) (by omega) (by omega) (fun j j1 j2=>by simp [show ¬j=n+1+1 by omega,show ¬j=n1 by omega,show ¬j=n1+1+1 by omega])⟩
   simp [show ¬j=n+1+1 by omega,show ¬j=n1 by omega,show ¬j=n1+1+1 by omega,ho j j1]
 ·have hbb:(decide (kind=4) && (decide (num=0) && decide (words=[])))=false:=by
   rw [Bool.eq_false_iff]; intro h; simp at h; exact hq h
  refine FS (rs:=[.cell 4 28,.tmp 5]) true Tryz.func28 ?_
  simp -dsimp [hPc,hPcs,e0,e1,e2,e3,e4,e5,nes]
  refine callM_ hok (desk_arg hP (fun j hj=>by simp [far hj])) rfl ?_
  simp -dsimp [hPc,hPcs,e0,e1,e2,e3,e4,e5,nes]
  refine callS_ (hcopy _ _ (hP.keep (Nat.le_refl _) (by omega) (fun j _ hj=>by simp [far hj]))) ?_
  rintro t m1 n1 ⟨hn1,hout,st,rfl,hst⟩
  have k0:=hout n (by omega)
  have k1:=hout (n+1) (by omega)
  have k2:=hout (n+1+1) (by omega)
  simp -dsimp [e0,e1,e2,e3,e4,e5,nes] at k0 k1 k2
  have f0:=far (show n<n1 by omega)
  have f1:=far (show n+1<n1 by omega)
  have f2:=far (show n+1+1<n1 by omega)
  have z1:¬n1=n:=by omega
  have z2:¬n1=n+1:=by omega
  have z3:¬n1=n+1+1:=by omega
  have hc:=hst.cell
  have hcs:=hst.cells
  simp -dsimp [k0,k1,k2,f0,f1,f2,z1,z2,z3,hbb,hPc,hPcs,hc,hcs,e0,e1,e2,e3,e4,e5,nes]
  refine cl hmade ?_
  simp -dsimp [k0,k1,k2,f0,f1,f2,z1,z2,z3,hPc,hPcs,hc,hcs,e0,e1,e2,e3,e4,e5,nes]
  refine twd [0,1,2,3,4,6,7,5,8,9,10] [n,n1+1+1] (List.replicate 11 [0,1]) (List.replicate 11 [0,1]) ?_
  simp -dsimp [k0,k1,k2,f0,f1,f2,z1,z2,z3,hPc,hPcs,hc,hcs,e0,e1,e2,e3,e4,e5,nes]
  refine cl hpo ?_
  rcases hkX with rfl | rfl
  ·simp -dsimp [k0,k1,k2,f0,f1,f2,z1,z2,z3,hPc,hPcs,hc,hcs,e0,e1,e2,e3,e4,e5,nes]
   have ho:∀ j,j<n→m1 j=m j:=fun j j1=>by have hj:=hout j (by omega); simp [far j1] at hj; exact hj
   refine ⟨by omega,fun j j1 => ?_,PastT.keep (lo:=n+1+1+1) (hi:=n1) hst (by omega) (by omega) (fun j j1 j2=>by simp [show ¬j=n+1+1 by omega,show ¬j=n1 by omega,show ¬j=n1+1+1 by omega])⟩
   simp [show ¬j=n+1+1 by omega,show ¬j=n1 by omega,show ¬j=n1+1+1 by omega,ho j j1]
  simp -dsimp [k0,k1,k2,f0,f1,f2,z1,z2,z3,hPc,hPcs,hc,hcs,e0,e1,e2,e3,e4,e5,nes]
  refine cl hpt ?_
  simp -dsimp [k0,k1,k2,f0,f1,f2,z1,z2,z3,hPc,hPcs,hc,hcs,e0,e1,e2,e3,e4,e5,nes]
  refine cl hpn ?_
  rcases htx with rfl | htx
  ·simp -dsimp [k0,k1,k2,f0,f1,f2,z1,z2,z3,hPc,hPcs,hc,hcs,e0,e1,e2,e3,e4,e5,nes]
   have ho:∀ j,j<n→m1 j=m j:=fun j j1=>by have hj:=hout j (by omega); simp [far j1] at hj; exact hj
   refine ⟨by omega,fun j j1 => ?_,PastT.keep (lo:=n+1+1+1) (hi:=n1) hst (by omega) (by omega) (fun j j1 j2=>by simp [show ¬j=n+1+1 by omega,show ¬j=n1 by omega,show ¬j=n1+1+1 by omega])⟩
   simp [show ¬j=n+1+1 by omega,show ¬j=n1 by omega,show ¬j=n1+1+1 by omega,ho j j1]
  rcases hst with ⟨rfl,hs0⟩ | ⟨id,ex,rfl,hi0,hi1,him⟩
  ·simp -dsimp [k0,k1,k2,f0,f1,f2,z1,z2,z3,htx,hPc,hPcs,hc,hcs,e0,e1,e2,e3,e4,e5,nes]
   have ho:∀ j,j<n→m1 j=m j:=fun j j1=>by have hj:=hout j (by omega); simp [far j1] at hj; exact hj
   refine ⟨by omega,fun j j1 => ?_,.inr ⟨n1+1+1+1+1+1,[],by simp [hs0],by omega,by omega, ?_⟩⟩
   ·simp [show ¬j=n+1+1 by omega,show ¬j=n1 by omega,far (show j<n1 by omega),ho j j1]
   ·simp [hs0,plT,storyV,nes,f2,show ¬n1+1+1+1+1+1=n+1+1 by omega,show ¬n1+1+1+1=n by omega]
  ·have g1:=far hi1
   have y0:¬id=n:=by omega
   have y1:¬id=n+1:=by omega
   have y2:¬id=n+1+1:=by omega
   have e8:¬(8:Int)<(d.past.length:Int)+1:=by omega
   have e8':¬8<d.past.length+1:=by omega
   simp -dsimp [k0,k1,k2,f0,f1,f2,z1,z2,z3,htx,g1,him,y0,y1,y2,Ne.symm y0,Ne.symm y1,Ne.symm y2,e8,e8',fullb,hPc,hPcs,hc,hcs,e0,e1,e2,e3,e4,e5,nes]
   have ho:∀ j,j<n→m1 j=m j:=fun j j1=>by have hj:=hout j (by omega); simp [far j1] at hj; exact hj
   refine ⟨by omega,fun j j1 => ?_,.inr ⟨n1+1+1+1+1+1,[],by simp,by omega,by omega, ?_⟩⟩
   ·simp [show ¬j=n+1+1 by omega,show ¬j=n1 by omega,show ¬j=id by omega,far (show j<n1 by omega),ho j j1]
   ·rw [plT_append]; simp [plT,storyV,nes,f2,show ¬n1+1+1+1+1+1=n+1+1 by omega,show ¬n1+1+1+1=n by omega]
end TL

namespace TL
open Go Go.Proofs
attribute [local simp] marksV storyV codeV Claim.v Place.v Deed.v Desk.v
/-- A contract's result, read in another way. -/
theorem FnS.up {f:Nat} {m:Mem} {n:Nat} {args:List T} {post post':T→Mem→Nat→Prop} (h:FnS Tryz.prog f m n args post)
  (hp:∀ t m' n',post t m' n'→∃ t',(∀ φ Z w v,RepT φ Z w t v→RepT φ Z w t' v)∧post' t' m' n'):FnS Tryz.prog f m n args post':=by
 refine ⟨h.1,fun φ Z w us hm hr=>(h.2 φ Z w us hm hr).mono fun e w' hh => ?_⟩
 obtain ⟨v,φ',Z',m',n',t,rfl,h1,h2,h3,h4⟩:=hh
 obtain ⟨t',h5,h6⟩:=hp _ _ _ h4
 exact ⟨v,φ',Z',m',n',t',rfl,h1,h5 _ _ _ _ h2,h3,h6⟩
theorem nil_up {φ:Phi} {Z:Zs} {w:World} {a b c:T} {v:Value} (h:RepT φ Z w (.tup [.agg [a,.nil,b],c]) v):RepT φ Z w (.tup [.agg [a,.v (.sl []),b],c]) v:=by
 cases h with
 | tup h=>cases h with
  | cons h1 h2=>cases h1 with
   | agg h3=>cases h3 with
    | cons h4 h5=>cases h5 with
     | cons h6 h7=>cases h6; exact .tup (.cons (.agg (.cons h4 (.cons (.v (.nil none 0)) h7))) h2)
theorem deskNewS_up (p:Place) (hp:p.small) (hf:p.fit) (m:Mem) (n:Nat):FnS Tryz.prog 39 m n [.v p.v] (fun t m' n'=>n≤n'∧(∀ j,j<n→m' j=m j) ∧
  t=.tup [.agg [.v (.int .i64 (deskNew p).now.people),.v (storyV (deskNew p).now.story),.nil],.v (.bool (placeOk p))]):=by
 refine (deskNewS_mut p hp hf m n).up ?_
 rintro t m' n' ⟨h1,h2,⟨h3,rfl⟩ | ⟨h3,rfl⟩⟩
 ·have e:deskNew p=⟨p,[]⟩:=if_pos h3
  rw [e,h3]
  exact ⟨_,fun _ _ _ _ h=>h,h1,h2,rfl⟩
 ·have e:deskNew p=noDeskV:=if_neg (by simp [h3])
  rw [e,h3]
  exact ⟨_,fun _ _ _ _ h=>nil_up h,h1,h2,rfl⟩
theorem do_len (d:Desk) (a:Deed):(deskDo d a).1.past.length≤d.past.length+1:=by
 rcases deskDo_ways d a with ⟨h1,e⟩ | ⟨_,hb,hp,e⟩ | ⟨h1,_,hg,e⟩ | ⟨_,_,e⟩
 ·rw [e]; simp [noDeskV]
 ·rw [e]; simp; omega
 ·rw [e]; simp only [keep8]; split <;> simp <;> omega
 ·rw [e]; simp
def DoAny (d:Desk) (m:Mem) (n:Nat) (t:T) (m':Mem) (n':Nat):Prop:=n≤n'∧(∀ j,j<n→m' j=m j)∧∃ (y0 y1 y2:T) (b:Bool),t=.tup [.agg [y0,y1,y2],.v (.bool b)]∧y0.cell=true∧y1.cell=true∧y2.cell=true ∧
 (b=true→∃ y:Desk,deskOk y=true∧y0=.v (.int .i64 y.now.people)∧y1=.v (storyV y.now.story)∧PastT m' n n' y2 y.past∧y.past.length≤d.past.length+1)
theorem deskDoS_any (d:Desk) (a:Deed) (P:T) (hd:deskOk d=true∨(d=noDeskV∧P=.nil)) (h7:d.past.length≤7) (ha:a.words.length≤1000000000) (m:Mem) (n:Nat) (hP:PastT m 0 n P d.past) :
  FnS Tryz.prog 28 m n [.agg [.v (.int .i64 d.now.people),.v (storyV d.now.story),P],.v a.v] (DoAny d m n):=by
 rcases hd with hk | ⟨rfl,rfl⟩
 ·refine (deskDoS_mut d a hk h7 ha P m n hP).weak ?_
  rintro t m' n' ⟨h1,h2,st,rfl,h3⟩
  exact ⟨h1,h2,_,_,_,_,rfl,rfl,rfl,h3.cell,fun _=>⟨_,deskDo_ok d a hk,rfl,rfl,h3,do_len d a⟩⟩
 ·refine (deskDoS_none a m n).weak ?_
  rintro t m' n' ⟨h1,h2,rfl⟩
  exact ⟨h1,h2,_,_,_,_,rfl,rfl,rfl,rfl,fun h=>by cases h⟩
def SomeDesk (x:V):Prop:=∃ d:Desk,d.small∧d.fit∧d.now.story.length≤1000∧x=d.v
structure DkEnv (m0:Mem) (n0 rid:Nat) (bs:List UInt8) (k:Int) (s:S) (id:Nat) (d:Desk) (P:T) (p:Nat):Prop where
 t0:s.tm 0=.ptr rid 0
 t1:s.tm 1=.v (.int .i64 k)
 t4:s.tm 4=.ptr n0 0
 t5:s.tm 5=.ptr id 0
 mu:s.mu=true
 i0:n0<id
 i1:id<s.n
 mz:s.m n0=some (.box 28 3 [.v (.int .i64 0),.nil,.nil])
 mid:s.m id=some (.box 28 3 [.v (.int .i64 d.now.people),.v (storyV d.now.story),P])
 rd:s.m rid=some (rdB bs p)
 out:∀ j,j<n0→j ≠ rid→s.m j=m0 j
 ok:deskOk d=true∨(d=noDeskV∧P=.nil)
 past:PastT s.m (id+1) s.n P d.past
def LDk (m0:Mem) (n0 rid:Nat) (bs:List UInt8) (k:Int) (p:Nat) (e:Nat) (s:S):Prop:=∃ (c id p':Nat) (d:Desk) (P:T),DkEnv m0 n0 rid bs k s id d P p'∧s.tm 7=.v (.int .i64 c)∧c≤4∧d.past.length+c≤4∧p≤p'∧p'+101 * c≤p+700∧(e=1→c=0)
def LD6 (m0:Mem) (n0 rid:Nat) (bs:List UInt8) (k:Int) (p c:Nat) (s:S):Prop:=∃ (id id8 p':Nat) (d:Desk) (P y0 y1 y2:T) (b:Bool),DkEnv m0 n0 rid bs k s id d P p'∧s.tm 7=.v (.int .i64 c)∧s.tm 8=.ptr id8 0∧s.tm 9=.v (.bool b)∧id<id8∧id8<s.n ∧
 s.m id8=some (.box 28 3 [y0,y1,y2])∧y0.cell=true∧y1.cell=true∧y2.cell=true∧d.past.length+c≤4∧p≤p'∧p'+101 * (c-1)≤p+700 ∧
 (b=true→∃ y:Desk,deskOk y=true∧y0=.v (.int .i64 y.now.people)∧y1=.v (storyV y.now.story)∧PastT s.m (id+1) s.n y2 y.past∧y.past.length≤d.past.length+1)
theorem noDesk_deskNew {q:Place} : deskOk (deskNew q)=true∨(deskNew q=noDeskV∧T.nil=.nil):=by
 unfold deskNew; split
 ·rename_i h; exact .inl (desk_new h)
 ·exact .inr ⟨rfl,rfl⟩
theorem deskNew_past (q:Place):(deskNew q).past=[]:=by unfold deskNew; split <;> rfl
theorem desk_bor {mm:Mem} {x0:Int} {st:List Claim} {P:T} {l:List Place} (hb:bor true mm 3 P=some (.sl (l.map Place.v))):bor true mm 4 (.agg [.v (.int .i64 x0),.v (storyV st),P])=some (Desk.v ⟨⟨x0,st⟩,l⟩):=by simp [hb]
theorem plT_bor_nil (k:Bool) (m:Mem) (d:Nat) (l:List Place):mapO (bor k m d) (plT l++[.v (.int .i64 0),.nil])=some ((l++[(⟨0,[]⟩:Place)]).flatMap fun p=>p.v.cells):=by
 induction l with
 | nil=>cases d <;> rfl
 | cons p l ih=>simp [plT,mapO,ih,V.cells]
theorem row_plus {mm:Mem} {id:Nat} {l:List Place} (h:mm id=some (.box 25 2 (plT l++[.v (.int .i64 0),.nil]))):bor true mm 3 (.sv id 0 (l.length+1))=some (.sl ((l++[(⟨0,[]⟩:Place)]).map Place.v)):=by
 have c1:0+(l.length+1) * 2≤(plT l++[T.v (.int .i64 0),.nil]).length:=by simp; omega
 have c2:((plT l++[T.v (.int .i64 0),.nil]).drop 0).take ((l.length+1) * 2)=plT l++[.v (.int .i64 0),.nil]:=by rw [List.drop_zero,List.take_of_length_le (by simp; omega)]
 show (match mm id with | some (.box _ z cs)=>tst (0+(l.length+1) * z≤cs.length) (obind (mapO (TL.bor true mm 2) ((cs.drop 0).take ((l.length+1) * z))) fun xs=>tst (∀ x ∈ xs,x.cell=true) (some (V.sl (chunk z (l.length+1) xs)))) | _=>none)=_
 rw [h]
 show tst (0+(l.length+1) * 2≤(plT l++[T.v (.int .i64 0),.nil]).length) (obind (mapO (TL.bor true mm 2) (((plT l++[T.v (.int .i64 0),.nil]).drop 0).take ((l.length+1) * 2))) fun xs=>tst (∀ x ∈ xs,x.cell=true) (some (V.sl (chunk 2 (l.length+1) xs))))=_
 have e:=plV_chunk (l++[(⟨0,[]⟩:Place)])
 rw [List.length_append,List.length_singleton] at e
 rw [tst_pos c1,c2,plT_bor_nil,obind_some,tst_pos (plV_cell _),e]
theorem desk_z (bs:List UInt8) (p:Nat) (hp:p<500000000) (k:Int) (hk0:0≤k) (hk:k<100000) (m:Mem) (n rid:Nat) (hr:rid<n) (hm:m rid=some (rdB bs p)) :
  FnS Tryz.prog 20 m n [.ptr rid 0,.v (.int .i64 k)] (Draws SomeDesk 1000 m n rid bs p):=by
 refine Draws_of hr ⟨_,Tryz.func20,rfl,rfl⟩ fun hfr => ?_
 refine FS (rs:=[.cell 4 28]) true Tryz.func20 ?_
 have f1:=far hr
 simp -dsimp
 refine callS_ (place_z bs p (by omega) 0 (by omega) (by omega) _ _ rid (by omega) (by simp [hm,f1])) ?_
 rintro t m1 n1 ⟨hn1,⟨x,⟨q,hq1,hq2,hq3,rfl⟩,rfl⟩,p1,hp1,hp2,rfl⟩
 have small:q.small:=⟨by omega,fun c hc=>by have:=hq2 c hc; unfold Claim.small; omega⟩
 have g1:=far (show rid<n1 by omega)
 have g2:=far (show n<n1 by omega)
 have g3:¬n=rid:=by omega
 have hnok:=noDesk_deskNew (q:=q)
 have hnp:=deskNew_past q
 simp -dsimp [g1,g2,g3]
 refine callS_ (deskNewS_up q small hq3 _ _) ?_
 rintro t m2 n2 ⟨hn2,hout2,rfl⟩
 have k0:=hout2 rid (by omega)
 have k1:=hout2 n (by omega)
 have hox:∀ j,j<n→j ≠ rid→m2 j=m j:=fun j j1 j2=>by rw [hout2 j (by omega)]; simp [far j1,j2]
 simp -dsimp [g3,Ne.symm g3,f1] at k0 k1
 generalize deskNew q=D at *
 generalize placeOk q=okq at *
 clear hout2
 obtain ⟨⟨x1,x2⟩,x3⟩:=D
 simp only at hnp
 have h1:=far (show rid<n2 by omega)
 have h2:=far (show n<n2 by omega)
 simp -dsimp [g1,g2,g3,nes]
 refine callS_ (pick_at bs p1 (by omega) _ _ _ rid (by simp [h1,k0])) ?_
 rintro t m3 n3 ⟨hn3,⟨r,rfl,hr0,hr1⟩,rfl⟩
 have hr1:=hr1 (by decide)
 obtain ⟨r,rfl⟩:=Int.eq_ofNat_of_zero_le hr0
 have d0:¬rid=n2:=by omega
 have d1:¬n2=rid:=by omega
 have d2:¬n2=n:=by omega
 have d3:¬n=n2:=by omega
 simp -dsimp
 refine twp_loopC (LDk m n rid bs k p 0) (fun s=>natOf (s.tm 7)) (LDk m n rid bs k p 1) ?_ ?_ ?_
 ·refine ⟨r,n2,p1+1,⟨⟨x1,x2⟩,x3⟩,.nil,⟨by simp -dsimp,by simp -dsimp,by simp -dsimp,by simp -dsimp,by simp -dsimp,by omega,(by simp -dsimp <;> omega),by simp -dsimp [k1,g3,d0,d1,d2,d3,Ne.symm g3],by simp -dsimp [d0,d1,d2,d3],by simp -dsimp,fun j j1 j2 => ?_,hnok,.inl ⟨rfl,hnp⟩⟩,by simp -dsimp,by omega,by simp [hnp]; omega,by omega,by omega,by simp⟩
  simp -dsimp [far (show j<n2 by omega),j2,hox j j1 j2]
 ·rintro s ⟨c,id,p',d,P,e,t7,hc4,hpl,hp0,hpc,hend⟩
  obtain ⟨t0,t1,t4,t5,hmu,i0,i1,mz,mid,rd,out,hok,past⟩:=e
  by_cases hc:0<c
  case neg =>
   have hc0:c=0:=by omega
   simp -dsimp [t7,hc,hc0]
   exact ⟨c,id,p',d,P,⟨by simp -dsimp [t0],by simp -dsimp [t1],by simp -dsimp [t4],by simp -dsimp [t5],by simp -dsimp [hmu],i0,by simp -dsimp [i1],by simp -dsimp [mz],by simp -dsimp [mid],by simp -dsimp [rd],fun j j1 j2=>by simp -dsimp [out j j1 j2],hok,past⟩,by simp -dsimp [t7],hc4,hpl,hp0,hpc,fun _=>hc0⟩
  have a0:¬rid=id:=by omega
  have a1:¬id=rid:=by omega
  have a2:¬n=id:=by omega
  have a3:¬id=n:=by omega
  have a4:¬n=rid:=by omega
  have a5:¬rid=n:=by omega
  have h1:=far i1
  have h2:=far (show rid<s.n by omega)
  have h3:=far (show n<s.n by omega)
  have wc:IntKind.wrap .i64 ((c:Int)-1)=((c-1:Nat):Int):=by rw [w64 (by omega) (by omega)]; omega
  have hmu1:c-1<c:=by omega
  have hms:natOf (s.tm 7)=c:=by rw [t7]; simp
  have hshort:d.now.story.length≤1000:=by
   rcases hok with h | ⟨rfl,_⟩
   ·have:=(place_fine (deskOk_iff.1 h).2.1).2.2.2; omega
   ·simp [noDeskV]
  simp -dsimp [t7,hc]
  refine twp_cutQ (LD6 m n rid bs k p c) ?_ ?_
  ·refine twp_drawT (.run [0,1,2,3] (.alt (.run [4] (.alt (.run [5,6,7,8,9,10,11] .done) (.run [9,5,6,7,8,10,11] .done))) (.run [9,4,5,6,7,8,10,11] .done))) [id] (List.replicate 12 [0]) (List.replicate 12 [0]) (by kernel_rfl) (by kernel_rfl) (by kernel_rfl) (by kernel_rfl) ?_
   simp -dsimp [t0,t5,t7,mid,rd,h1,h2,h3,a0,a1,a2,a3,a4,a5,nes]
   refine ordT_both ?_ ?_
   ·simp -dsimp [t0,t5,t7,mid,rd,h1,h2,h3,a0,a1,a2,a3,a4,a5,nes]
    refine callS_ (deed_zA bs p' (by omega) d.now hshort _ _ rid (by omega) (by simp [rd,h1,h2,h3])) ?_
    rintro t m3 n3 ⟨hn3,⟨x,⟨a,ha,rfl⟩,rfl⟩,p3,hp3,hp4,rfl⟩
    obtain ⟨w1,w2,w3⟩:=a
    have b1:=far (show id<n3 by omega)
    have b2:=far (show rid<n3 by omega)
    have b3:=far (show n<n3 by omega)
    have b4:=far (show s.n<n3+1 by omega)
    simp -dsimp [t0,t5,t7,mid,rd,h1,h2,h3,a0,a1,a2,a3,a4,a5,nes,b1,b2,b3,b4]
    refine ordT_both ?_ ?_
    ·simp -dsimp [t0,t5,t7,mid,rd,h1,h2,h3,a0,a1,a2,a3,a4,a5,nes,b1,b2,b3,b4]
     refine callS_ (deskDoS_any d ⟨w1,w2,w3⟩ P hok (by omega) (by simp only at ha ⊢; omega) _ _ (past.keep (by omega) (by omega) (fun j j1 j2=>by simp [show ¬j=rid by omega,far (show j<s.n by omega),far (show j<n3 by omega)]))) ?_
     rintro t m4 n4 ⟨hn4,hout4,y0,y1,y2,b,rfl,c0,c1,c2,hy⟩
     have kid:=hout4 id (by omega)
     have krid:=hout4 rid (by omega)
     have kn:=hout4 n (by omega)
     have kout:∀ j,j<n→j ≠ rid→m4 j=s.m j:=fun j j1 j2=>by rw [hout4 j (by omega)]; simp [j2,far (show j<s.n by omega),far (show j<n3 by omega)]
     have kpast:∀ j,id+1≤j→j<s.n→m4 j=s.m j:=fun j j1 j2=>by rw [hout4 j (by omega)]; simp [show ¬j=rid by omega,far (show j<s.n by omega),far (show j<n3 by omega)]
     have b5:=far (show id<n4 by omega)
     have b6:=far (show rid<n4 by omega)
     have b7:=far (show n<n4 by omega)
     have b8:=far (show n3<n4+1 by omega)
     have b9:=far (show s.n<n4+1 by omega)
     simp -dsimp [t0,t5,t7,mid,rd,h1,h2,h3,a0,a1,a2,a3,a4,a5,nes,b1,b2,b3,b4] at kid krid kn
     simp -dsimp [t0,t5,t7,mid,rd,h1,h2,h3,a0,a1,a2,a3,a4,a5,nes,b1,b2,b3,b4,b5,b6,b7,b8,b9,kid,krid,kn,c0,c1,c2]
     refine st_out fun s' ht hm' hn' hu' => ?_
     have q0:=ht 0
     have q1:=ht 1
     have q4:=ht 4
     have q5:=ht 5
     have q7:=ht 7
     have q8:=ht 8
     have q9:=ht 9
     simp -dsimp [t0,t1,t4,t5,t7] at q0 q1 q4 q5 q7 q8 q9 hm' hn' hu'
     clear ht
     refine ⟨id,n4,p3,d,P,y0,y1,y2,b,⟨q0,q1,q4,q5,by rw [hu',hmu],i0,by omega,by rw [hm']; simp [kn,mz,b7,a2,a4,h3,b3],by rw [hm']; simp [kid,mid,b5,a1,h1,b1],by rw [hm']; simp [krid,b6,a0,h2,b2],fun j j1 j2 => ?_,hok, ?_⟩,q7,q8,q9,by omega,by omega,by rw [hm']; simp,c0,c1,c2,hpl,by omega,by omega,fun hb => ?_⟩
     ·rw [hm']; simp [far (show j<n4 by omega),far (show j<s.n by omega),far (show j<n3 by omega),kout j j1 j2,out j j1 j2]
     ·exact past.keep (Nat.le_refl _) (by omega) (fun j j1 j2=>by rw [hm']; simp [far (show j<n4 by omega),far (show j<s.n by omega),far (show j<n3 by omega),kpast j j1 j2])
     ·obtain ⟨y,v1,v2,v3,v4,v5⟩:=hy hb
      exact ⟨y,v1,v2,v3,v4.keep (by omega) (by omega) (fun j j1 j2=>by rw [hm']; simp [show ¬j=n4 by omega]),v5⟩
    ·simp -dsimp [t0,t5,t7,mid,rd,h1,h2,h3,a0,a1,a2,a3,a4,a5,nes,b1,b2,b3,b4]
     refine callS_ (deskDoS_any d ⟨w1,w2,w3⟩ P hok (by omega) (by simp only at ha ⊢; omega) _ _ (past.keep (by omega) (by omega) (fun j j1 j2=>by simp [show ¬j=rid by omega,far (show j<s.n by omega),far (show j<n3 by omega)]))) ?_
     rintro t m4 n4 ⟨hn4,hout4,y0,y1,y2,b,rfl,c0,c1,c2,hy⟩
     have kid:=hout4 id (by omega)
     have krid:=hout4 rid (by omega)
     have kn:=hout4 n (by omega)
     have kout:∀ j,j<n→j ≠ rid→m4 j=s.m j:=fun j j1 j2=>by rw [hout4 j (by omega)]; simp [j2,far (show j<s.n by omega),far (show j<n3 by omega)]
     have kpast:∀ j,id+1≤j→j<s.n→m4 j=s.m j:=fun j j1 j2=>by rw [hout4 j (by omega)]; simp [show ¬j=rid by omega,far (show j<s.n by omega),far (show j<n3 by omega)]
     have kn3:=hout4 n3 (by omega)
     simp -dsimp [nes] at kn3
     have b5:=far (show id<n4 by omega)
     have b6:=far (show rid<n4 by omega)
     have b7:=far (show n<n4 by omega)
     have b8:=far (show n3<n4+1 by omega)
     have b9:=far (show s.n<n4+1 by omega)
     simp -dsimp [t0,t5,t7,mid,rd,h1,h2,h3,a0,a1,a2,a3,a4,a5,nes,b1,b2,b3,b4] at kid krid kn
     simp -dsimp [t0,t5,t7,mid,rd,h1,h2,h3,a0,a1,a2,a3,a4,a5,nes,b1,b2,b3,b4,b5,b6,b7,b8,b9,kid,krid,kn,kn3,c0,c1,c2]
     refine st_out fun s' ht hm' hn' hu' => ?_
     have q0:=ht 0
     have q1:=ht 1
     have q4:=ht 4
     have q5:=ht 5
     have q7:=ht 7
     have q8:=ht 8
     have q9:=ht 9
     simp -dsimp [t0,t1,t4,t5,t7] at q0 q1 q4 q5 q7 q8 q9 hm' hn' hu'
     clear ht
     refine ⟨id,n3,p3,d,P,y0,y1,y2,b,⟨q0,q1,q4,q5,by rw [hu',hmu],i0,by omega,by rw [hm']; simp [kn,mz,b7,a2,a4,h3,b3],by rw [hm']; simp [kid,mid,b5,a1,h1,b1],by rw [hm']; simp [krid,b6,a0,h2,b2],fun j j1 j2 => ?_,hok, ?_⟩,q7,q8,q9,by omega,by omega,by rw [hm']; simp,c0,c1,c2,hpl,by omega,by omega,fun hb => ?_⟩
     ·rw [hm']; simp [far (show j<n4 by omega),far (show j<s.n by omega),far (show j<n3 by omega),kout j j1 j2,out j j1 j2]
     ·exact past.keep (Nat.le_refl _) (by omega) (fun j j1 j2=>by rw [hm']; simp [far (show j<n4 by omega),far (show j<s.n by omega),far (show j<n3 by omega),kpast j j1 j2])
     ·obtain ⟨y,v1,v2,v3,v4,v5⟩:=hy hb
      exact ⟨y,v1,v2,v3,v4.keep (by omega) (by omega) (fun j j1 j2=>by rw [hm']; simp [show ¬j=n3 by omega]),v5⟩
   ·simp -dsimp [t0,t5,t7,mid,rd,h1,h2,h3,a0,a1,a2,a3,a4,a5,nes]
    refine callS_ (deed_zA bs p' (by omega) d.now hshort _ _ rid (by omega) (by simp [rd,h1,h2,h3])) ?_
    rintro t m3 n3 ⟨hn3,⟨x,⟨a,ha,rfl⟩,rfl⟩,p3,hp3,hp4,rfl⟩
    obtain ⟨w1,w2,w3⟩:=a
    have b1:=far (show id<n3 by omega)
    have b2:=far (show rid<n3 by omega)
    have b3:=far (show n<n3 by omega)
    have b4:=far (show s.n<n3+1 by omega)
    simp -dsimp [t0,t5,t7,mid,rd,h1,h2,h3,a0,a1,a2,a3,a4,a5,nes,b1,b2,b3,b4]
    refine callS_ (deskDoS_any d ⟨w1,w2,w3⟩ P hok (by omega) (by simp only at ha ⊢; omega) _ _ (past.keep (by omega) (by omega) (fun j j1 j2=>by simp [show ¬j=rid by omega,far (show j<s.n by omega),far (show j<n3 by omega)]))) ?_
    rintro t m4 n4 ⟨hn4,hout4,y0,y1,y2,b,rfl,c0,c1,c2,hy⟩
    have kid:=hout4 id (by omega)
    have krid:=hout4 rid (by omega)
    have kn:=hout4 n (by omega)
    have kout:∀ j,j<n→j ≠ rid→m4 j=s.m j:=fun j j1 j2=>by rw [hout4 j (by omega)]; simp [j2,far (show j<s.n by omega),far (show j<n3 by omega)]
    have kpast:∀ j,id+1≤j→j<s.n→m4 j=s.m j:=fun j j1 j2=>by rw [hout4 j (by omega)]; simp [show ¬j=rid by omega,far (show j<s.n by omega),far (show j<n3 by omega)]
    have ksn:=hout4 s.n (by omega)
    simp -dsimp [nes,h2,b4,a0,Ne.symm] at ksn
    have b5:=far (show id<n4 by omega)
    have b6:=far (show rid<n4 by omega)
    have b7:=far (show n<n4 by omega)
    have b8:=far (show n3<n4+1 by omega)
    have b9:=far (show s.n<n4+1 by omega)
    simp -dsimp [t0,t5,t7,mid,rd,h1,h2,h3,a0,a1,a2,a3,a4,a5,nes,b1,b2,b3,b4] at kid krid kn
    simp -dsimp [t0,t5,t7,mid,rd,h1,h2,h3,a0,a1,a2,a3,a4,a5,nes,b1,b2,b3,b4,b5,b6,b7,b8,b9,kid,krid,kn,ksn,c0,c1,c2]
    refine st_out fun s' ht hm' hn' hu' => ?_
    have q0:=ht 0
    have q1:=ht 1
    have q4:=ht 4
    have q5:=ht 5
    have q7:=ht 7
    have q8:=ht 8
    have q9:=ht 9
    simp -dsimp [t0,t1,t4,t5,t7] at q0 q1 q4 q5 q7 q8 q9 hm' hn' hu'
    clear ht
    refine ⟨id,s.n,p3,d,P,y0,y1,y2,b,⟨q0,q1,q4,q5,by rw [hu',hmu],i0,by omega,by rw [hm']; simp [kn,mz,b7,a2,a4,h3,b3],by rw [hm']; simp [kid,mid,b5,a1,h1,b1],by rw [hm']; simp [krid,b6,a0,h2,b2],fun j j1 j2 => ?_,hok, ?_⟩,q7,q8,q9,by omega,by omega,by rw [hm']; simp,c0,c1,c2,hpl,by omega,by omega,fun hb => ?_⟩
    ·rw [hm']; simp [far (show j<n4 by omega),far (show j<s.n by omega),far (show j<n3 by omega),kout j j1 j2,out j j1 j2]
    ·exact past.keep (Nat.le_refl _) (by omega) (fun j j1 j2=>by rw [hm']; simp [far (show j<n4 by omega),far (show j<s.n by omega),far (show j<n3 by omega),kpast j j1 j2])
    ·obtain ⟨y,v1,v2,v3,v4,v5⟩:=hy hb
     exact ⟨y,v1,v2,v3,v4.keep (by omega) (by omega) (fun j j1 j2=>by rw [hm']; simp [show ¬j=s.n by omega]),v5⟩
  ·rintro s2 ⟨id,id8,p',d,P,y0,y1,y2,b,e,t7,t8,t9,i8,i9,m8,c0,c1,c2,hpl,hp0,hpc,hy⟩
   obtain ⟨t0,t1,t4,t5,hmu,i0,i1,mz,mid,rd,out,hok,past⟩:=e
   have wc:IntKind.wrap .i64 ((c:Int)-1)=((c-1:Nat):Int):=by rw [w64 (by omega) (by omega)]; omega
   have hmu1:c-1<c:=by omega
   have h1:=far i1
   have h8:=far i9
   have a1:¬id=id8:=by omega
   have a2:¬id8=id:=by omega
   have a3:¬n=id:=by omega
   have a4:¬rid=id:=by omega
   cases b with
   | false =>
    simp -dsimp [t9,t7,wc,hms,hmu1]
    exact ⟨c-1,id,p',d,P,⟨by simp -dsimp [t0],by simp -dsimp [t1],by simp -dsimp [t4],by simp -dsimp [t5],by simp -dsimp [hmu],i0,by simp -dsimp [i1],by simp -dsimp [mz],by simp -dsimp [mid],by simp -dsimp [rd],fun j j1 j2=>by simp -dsimp [out j j1 j2],hok,past⟩,by simp -dsimp,by omega,by omega,hp0,by omega,by simp⟩
   | true =>
    obtain ⟨y,v1,rfl,rfl,v4,v5⟩:=hy rfl
    simp -dsimp [t5,t8,t9,t7,mid,m8,h1,h8,a1,a2,c2,wc,hms,hmu1]
    exact ⟨c-1,id,p',y,y2,⟨by simp -dsimp [t0],by simp -dsimp [t1],by simp -dsimp [t4],by simp -dsimp [t5],by simp -dsimp [hmu],i0,(by simp -dsimp <;> omega),by simp -dsimp [mz,a3],by simp -dsimp,by simp -dsimp [rd,a4],fun j j1 j2=>by simp -dsimp [out j j1 j2,show ¬j=id by omega],.inl v1,v4.keep (Nat.le_refl _) (by simp -dsimp <;> omega) (fun j j1 j2=>by simp -dsimp [show ¬j=id by omega])⟩,by simp -dsimp,by omega,by omega,hp0,by omega,by simp⟩
 ·rintro s ⟨c,id,p',d,P,e,t7,hc4,hpl,hp0,hpc,hend⟩
  obtain ⟨t0,t1,t4,t5,hmu,i0,i1,mz,mid,rd,out,hok,past⟩:=e
  have a0:¬rid=id:=by omega
  have a1:¬id=rid:=by omega
  have a2:¬n=id:=by omega
  have a3:¬id=n:=by omega
  have a4:¬n=rid:=by omega
  have a5:¬rid=n:=by omega
  have h1:=far i1
  have h2:=far (show rid<s.n by omega)
  have h3:=far (show n<s.n by omega)
  have hPc:=past.cell
  simp -dsimp [t0,t1]
  refine callS_ (odd_at bs p' (by omega) k (by omega) _ _ rid (by simp [rd])) ?_
  rintro t m3 n3 ⟨hn3,⟨b,rfl,_⟩,p2,hp1,hp2,rfl⟩
  have b1:=far (show id<n3 by omega)
  have b2:=far (show rid<n3 by omega)
  have b3:=far (show n<n3 by omega)
  have hsm:d.small∧d.fit∧d.now.story.length≤1000∧d.past.length≤8:=by
   rcases hok with h | ⟨rfl,_⟩
   ·have:=(place_fine (deskOk_iff.1 h).2.1).2.2.2
    exact ⟨(desk_fine h).1,(desk_fine h).2.1,by omega,(desk_fine h).2.2.1⟩
   ·exact ⟨⟨⟨by simp [noDeskV],by simp [noDeskV]⟩,by simp [noDeskV],by simp [noDeskV]⟩,⟨⟨by simp [noDeskV,fit],by simp [noDeskV]⟩,by simp [noDeskV]⟩,by simp [noDeskV],by simp [noDeskV]⟩
  obtain ⟨s1,s2,s3,s4⟩:=hsm
  cases b with
  | false =>
   simp -dsimp [t4,t5,mid,mz,h1,h2,h3,a0,a1,a2,a3,a4,a5,b1,b2,b3,hPc]
   refine ⟨by omega,⟨_,desk_bor (past.bor (fun j j1 j2=>by simp [show n≤j by omega,show ¬j=n by omega,show ¬j=rid by omega]) 2),d,s1,s2,s3,rfl⟩,fun j j1 j2 => ?_,p2,by omega,by omega, ?_⟩
   ·simp [show ¬j=n by omega,j2,out j j1 j2]
   ·simp [show ¬rid=n by omega]
  | true =>
   simp -dsimp [t0,t4,t5,mid,mz,h1,h2,h3,a0,a1,a2,a3,a4,a5,b1,b2,b3,hPc]
   refine callS_ (pick_at bs p2 (by omega) _ _ _ rid (by simp)) ?_
   rintro t m4 n4 ⟨hn4,⟨r,rfl,hr0,hr1⟩,rfl⟩
   have g1:=far (show id<n4 by omega)
   have g2:=far (show rid<n4 by omega)
   have g3:=far (show n<n4 by omega)
   by_cases r0:r=0
   ·simp -dsimp [r0,t0,t4,t5,mid,mz,h1,h2,h3,a0,a1,a2,a3,a4,a5,b1,b2,b3,g1,g2,g3,hPc]
    refine ⟨by omega,⟨_,desk_bor (past.bor (fun j j1 j2=>by simp [show n≤j by omega,show ¬j=n by omega,show ¬j=id by omega,show ¬j=rid by omega]) 2),⟨⟨0,d.now.story⟩,d.past⟩,⟨s1.1,s1.2⟩,⟨⟨by simp [fit],s2.1.2⟩,s2.2⟩,s3,rfl⟩,fun j j1 j2 => ?_,p2+1,by omega,by omega, ?_⟩
    ·simp [show ¬j=n by omega,show ¬j=id by omega,j2,out j j1 j2]
    ·simp [show ¬rid=n by omega,show ¬rid=id by omega]
   ·by_cases r1:r=1
    ·rcases past with ⟨rfl,hs0⟩ | ⟨pid,ex,rfl,hi0,hi1,him⟩
     ·simp -dsimp [r0,r1,t0,t4,t5,mid,mz,h1,h2,h3,a0,a1,a2,a3,a4,a5,b1,b2,b3,g1,g2,g3,hPc,hmu,nes]
      refine ⟨by omega,⟨_,desk_bor (row_plus (l:=[]) (by simp [show n≤n4+1 by omega,show ¬n4+1=n by omega,show ¬n4+1=id by omega,nes,plT])),⟨d.now,[⟨0,[]⟩]⟩,⟨s1.1,by simp,by simp [Place.small]⟩,⟨s2.1,by simp [Place.fit,fit]⟩,s3,rfl⟩,fun j j1 j2 => ?_,p2+1,by omega,by omega, ?_⟩
      ·simp [show ¬j=n by omega,show ¬j=id by omega,far (show j<n4 by omega),j2,out j j1 j2]
      ·simp [show ¬rid=n by omega,show ¬rid=id by omega,g2]
     ·have c0:¬pid=rid:=by omega
      have c1:¬pid=id:=by omega
      have c2:¬pid=n:=by omega
      have g4:=far (show pid<n4 by omega)
      have fb:(d.past.length+1) * 32≤140737488355328:=by omega
      simp -dsimp [r0,r1,t0,t4,t5,mid,mz,h1,h2,h3,a0,a1,a2,a3,a4,a5,b1,b2,b3,g1,g2,g3,g4,hPc,hmu,nes,him,c0,c1,c2,Ne.symm c0,Ne.symm c1,Ne.symm c2,fb]
      refine ⟨by omega,⟨_,desk_bor (row_plus (l:=d.past) (by simp [show n≤n4+1 by omega,show ¬n4+1=n by omega,show ¬n4+1=id by omega,nes])),⟨d.now,d.past++[⟨0,[]⟩]⟩,⟨s1.1,by simp; omega,fun p hp => ?_⟩,⟨s2.1,fun p hp => ?_⟩,s3,rfl⟩,fun j j1 j2 => ?_,p2+1,by omega,by omega, ?_⟩
      ·rcases List.mem_append.1 hp with h | h
       ·exact s1.2.2 p h
       ·rw [List.mem_singleton.1 h]; simp [Place.small]
      ·rcases List.mem_append.1 hp with h | h
       ·exact s2.2 p h
       ·rw [List.mem_singleton.1 h]; simp [Place.fit,fit]
      ·simp [show ¬j=n by omega,show ¬j=id by omega,show ¬j=pid by omega,far (show j<n4 by omega),j2,out j j1 j2]
      ·simp [show ¬rid=n by omega,show ¬rid=id by omega,show ¬rid=pid by omega,g2]
    ·simp -dsimp [r0,r1,t0,t4,t5,mid,mz,h1,h2,h3,a0,a1,a2,a3,a4,a5,b1,b2,b3,g1,g2,g3,hPc]
     refine ⟨by omega,⟨Desk.v ⟨⟨0,[]⟩,[]⟩,by simp,⟨⟨0,[]⟩,[]⟩,⟨by simp [Place.small],by simp,by simp⟩,⟨by simp [Place.fit,fit],by simp⟩,by simp,rfl⟩,fun j j1 j2 => ?_,p2+1,by omega,by omega, ?_⟩
     ·simp [show ¬j=n by omega,j2,out j j1 j2]
     ·simp [show ¬rid=n by omega]
end TL

namespace TL
theorem nes9 (n:Nat):(¬n=n+1+1+1+1+1+1+1+1+1+1+1+1+1+1+1)∧(¬n+1+1+1+1+1+1+1+1+1+1+1+1+1+1+1=n)∧(¬n=n+1+1+1+1+1+1+1+1+1+1+1+1+1+1+1+1)∧(¬n+1+1+1+1+1+1+1+1+1+1+1+1+1+1+1+1=n)∧(¬n=n+1+1+1+1+1+1+1+1+1+1+1+1+1+1+1+1+1)∧(¬n+1+1+1+1+1+1+1+1+1+1+1+1+1+1+1+1+1=n)∧(¬n=n+1+1+1+1+1+1+1+1+1+1+1+1+1+1+1+1+1+1)∧(¬n+1+1+1+1+1+1+1+1+1+1+1+1+1+1+1+1+1+1=n)∧(¬n=n+1+1+1+1+1+1+1+1+1+1+1+1+1+1+1+1+1+1+1)∧(¬n+1+1+1+1+1+1+1+1+1+1+1+1+1+1+1+1+1+1+1=n)∧(¬n=n+1+1+1+1+1+1+1+1+1+1+1+1+1+1+1+1+1+1+1+1)∧(¬n+1+1+1+1+1+1+1+1+1+1+1+1+1+1+1+1+1+1+1+1=n)∧(¬n=n+1+1+1+1+1+1+1+1+1+1+1+1+1+1+1+1+1+1+1+1+1)∧(¬n+1+1+1+1+1+1+1+1+1+1+1+1+1+1+1+1+1+1+1+1+1=n)∧(¬n=n+1+1+1+1+1+1+1+1+1+1+1+1+1+1+1+1+1+1+1+1+1+1)∧(¬n+1+1+1+1+1+1+1+1+1+1+1+1+1+1+1+1+1+1+1+1+1+1=n)∧(¬n=n+1+1+1+1+1+1+1+1+1+1+1+1+1+1+1+1+1+1+1+1+1+1+1)∧(¬n+1+1+1+1+1+1+1+1+1+1+1+1+1+1+1+1+1+1+1+1+1+1+1=n)∧(¬n=n+1+1+1+1+1+1+1+1+1+1+1+1+1+1+1+1+1+1+1+1+1+1+1+1)∧(¬n+1+1+1+1+1+1+1+1+1+1+1+1+1+1+1+1+1+1+1+1+1+1+1+1=n)∧(¬n=n+1+1+1+1+1+1+1+1+1+1+1+1+1+1+1+1+1+1+1+1+1+1+1+1+1)∧(¬n+1+1+1+1+1+1+1+1+1+1+1+1+1+1+1+1+1+1+1+1+1+1+1+1+1=n)∧(¬n=n+1+1+1+1+1+1+1+1+1+1+1+1+1+1+1+1+1+1+1+1+1+1+1+1+1+1)∧(¬n+1+1+1+1+1+1+1+1+1+1+1+1+1+1+1+1+1+1+1+1+1+1+1+1+1+1=n):=by
 refine ⟨?_, ?_, ?_, ?_, ?_, ?_, ?_, ?_, ?_, ?_, ?_, ?_, ?_, ?_, ?_, ?_, ?_, ?_, ?_, ?_, ?_, ?_, ?_, ?_⟩ <;> omega
end TL

namespace TL
open Go Go.Proofs
attribute [local simp] marksV storyV codeV Claim.v Place.v Desk.v Deed.v
theorem termTextS_fn (people:Int) (t:List Mark) (hf:fits t) (hl:t.length<1000000000000):FnZ Tryz.prog 42 [.int .i64 people,marksV t] (.str (termText people t)):=by
 have hok:=termOkS_fn people t hf hl
 have hk:=ft (termOk people t)
 rcases hk with hk | hk
 ·rw [termText_no hk]
  rw [hk] at hok
  refine FZ (rs:=[.tmp 4]) false Tryz.func42 ?_
  simp -dsimp
  refine cl hok ?_
  simp -dsimp
 ·obtain ⟨T,h1,h2,h3⟩:=termText_tree hk
  have hl:=(termOk_len hk).2.1
  have ht:=l2Text_fn T h1 (by rw [h2]; omega)
  rw [h2,h3] at ht
  rw [hk] at hok
  generalize termText people t=s at *
  refine FZ (rs:=[.tmp 4]) false Tryz.func42 ?_
  simp -dsimp
  refine cl hok ?_
  simp -dsimp
  refine cl ht ?_
  simp -dsimp
theorem termText_short (people:Int) (t:List Mark):(termText people t).length≤90:=by
 have hk:=ft (termOk people t)
 rcases hk with hk | hk
 ·rw [termText_no hk]; simp
 ·obtain ⟨T,h1,h2,h3⟩:=termText_tree hk
  have hl:=(termOk_len hk).2.1
  have:=T.text_len
  rw [h2,h3] at this; omega
def words7:List (List UInt8):=[[112,108,97,99,101],[119,111,114,108,100,115],[111,110,108,121],[107,110,111,119,110],[110,101,101,100,108,101,115,115],[115,112,105,101,115],[97,115,107,115]]
def words18:List (List UInt8):=[[],[115,97,121],[115,97,121,32,97],[115,97,121,32,97,58,40,97,41],[100,114,111,112],[100,114,111,112,32,120],[112,101,111,112,108,101,32,48],[112,101,111,112,108,101,32,57],[108,101,97,115,116,32,48],[102,111,108,108,111,119,115],[102,111,108,108,111,119,115,32,40,97,41],[102,111,108,108,111,119,115,32,101],[112,114,111,111,102],[112,114,111,111,102,32,54],[99,111,117,110,116],[99,111,117,110,116,115,32,97],[99,111,117,110,116,32,97,32,98],[32,112,108,97,99,101]]
def words3:List (List UInt8):=[[102,111,108,108,111,119,115,32],[112,114,111,111,102,32],[99,111,117,110,116,32]]
theorem words7_at {r:Int} (h0:0≤r) (h1:r<7):∃ x:List UInt8,x.length≤20∧(words7.map V.str)[r.toNat]? = some (.str x):=by
 have h:r.toNat<words7.length:=by simp [words7]; omega
 refine ⟨words7[r.toNat], ?_,by simp [h]⟩
 exact (by decide:∀ x ∈ words7,x.length≤20) _ (List.getElem_mem h)
theorem words18_at {r:Int} (h0:0≤r) (h1:r<18):∃ x:List UInt8,x.length≤20∧(words18.map V.str)[r.toNat]? = some (.str x):=by
 have h:r.toNat<words18.length:=by simp [words18]; omega
 refine ⟨words18[r.toNat], ?_,by simp [h]⟩
 exact (by decide:∀ x ∈ words18,x.length≤20) _ (List.getElem_mem h)
theorem words3_at {r:Int} (h0:0≤r) (h1:r<3):∃ x:List UInt8,x.length≤20∧(words3.map V.str)[r.toNat]? = some (.str x):=by
 have h:r.toNat<words3.length:=by simp [words3]; omega
 refine ⟨words3[r.toNat], ?_,by simp [h]⟩
 exact (by decide:∀ x ∈ words3,x.length≤20) _ (List.getElem_mem h)
def SomeLine (x:V):Prop:=∃ s:List UInt8,s.length≤2000∧x=.str s
theorem line_zX (bs:List UInt8) (p:Nat) (hp:p<500000000) (q:Place) (hq:q.story.length≤1000) (X:T) (hX:X.cells=[.v (.int .i64 q.people),.v (storyV q.story)]) (m:Mem) (n rid:Nat) (hr:rid<n) (hm:m rid=some (rdB bs p)) :
  FnS Tryz.prog 21 m n [.ptr rid 0,X] (Draws SomeLine 200 m n rid bs p):=by
 refine Draws_of hr ⟨_,Tryz.func21,rfl,rfl⟩ fun hfr => ?_
 have hw7:=fun r=>words7_at (r:=r)
 have hw18:=fun r=>words18_at (r:=r)
 have hw3:=fun r=>words3_at (r:=r)
 obtain ⟨v3,hv3⟩:∃ vs:List V,vs=words3.map V.str:=⟨_,rfl⟩
 simp only [← hv3] at hw3
 refine FS (rs:=[.tmp 4]) false Tryz.func21 ?_
 have f1:=far hr
 simp -dsimp [hX]
 refine callS_ (pick_at bs p (by omega) _ _ _ rid (by simp [hm,f1])) ?_
 rintro t m1 n1 ⟨hn1,⟨r,rfl,hr0,hr1⟩,rfl⟩
 have hr1:=hr1 (by decide)
 have f2:=far (show rid<n1 by omega)
 have f3:=far (show n<n1 by omega)
 have hc:(r=0∨r=1∨r=2)∨r=3∨(r=4∨r=5)∨r=6:=by omega
 rcases hc with hc | hc | hc | hc
 ·rcases hc with rfl | rfl | rfl
  all_goals
   simp -dsimp [f1,f2,f3]
   refine callS_ (pick_at bs (p+1) (by omega) _ _ _ rid (by simp [f1,f2])) ?_
   rintro t m2 n2 ⟨hn2,⟨r2,rfl,hr20,hr21⟩,rfl⟩
   have hr21:=hr21 (by decide)
   have hc2:r2=0∨r2=1∨r2=2∨r2=3∨r2=4∨r2=5∨r2=6:=by omega
   have g2:=far (show n1<n2 by omega)
   rcases hc2 with rfl | rfl | rfl | rfl | rfl | rfl | rfl
   all_goals
    simp -dsimp [f1,f2,f3,g2]
    refine ⟨by omega,⟨_,by simp <;> rfl,_, ?_,rfl⟩,fun j j1 j2 => ?_,p+1+1,by omega,by omega,by simp⟩
    ·simp
    ·simp [far j1,j2,show ¬j=n by omega,show ¬j=n1 by omega]
 ·subst hc
  simp -dsimp [f1,f2,f3]
  refine callS_ (pick_at bs (p+1) (by omega) _ _ _ rid (by simp [f1,f2])) ?_
  rintro t m2 n2 ⟨hn2,⟨r2,rfl,hr20,hr21⟩,rfl⟩
  have hr21:=hr21 (by decide)
  have hc2:r2=0∨r2=1∨r2=2∨r2=3∨r2=4∨r2=5∨r2=6∨r2=7∨r2=8∨r2=9∨r2=10∨r2=11∨r2=12∨r2=13∨r2=14∨r2=15∨r2=16∨r2=17:=by omega
  have g2:=far (show n1<n2 by omega)
  rcases hc2 with rfl | rfl | rfl | rfl | rfl | rfl | rfl | rfl | rfl | rfl | rfl | rfl | rfl | rfl | rfl | rfl | rfl | rfl
  all_goals
   simp -dsimp [f1,f2,f3,g2]
   refine ⟨by omega,⟨_,by simp <;> rfl,_, ?_,rfl⟩,fun j j1 j2 => ?_,p+1+1,by omega,by omega,by simp⟩
   ·simp
   ·simp [far j1,j2,show ¬j=n by omega,show ¬j=n1 by omega]
 ·rcases hc with rfl | rfl
  all_goals
   simp -dsimp [f1,f2,f3]
   refine twd [1,5,6,7,1000,2,3,4,8,9,10,11] [] (List.replicate 12 []) (List.replicate 12 []) ?_
   simp -dsimp [f1,f2,f3]
   refine bld_ [(0,.str [102,111,108,108,111,119,115,32]),(1,.str [112,114,111,111,102,32]),(2,.str [99,111,117,110,116,32])] 9 v3 (by simp -dsimp) (by rw [hv3]; simp -dsimp [words3]) ?_
   simp -dsimp [f1,f2,f3]
   refine callS_ (pick_at bs (p+1) (by omega) _ _ _ rid (by simp [f1,f2])) ?_
   rintro t m2 n2 ⟨hn2,⟨r2,rfl,hr20,hr21⟩,rfl⟩
   have hr21:=hr21 (by decide)
   refine (hw3 r2 hr20 hr21).elim fun x hx => ?_
   have hx1:=hx.1
   have hx2:=hx.2
   have g1:=far (show rid<n2 by omega)
   simp -dsimp [f1,f2,f3,hr20,hx2]
   refine callS_ (term_z bs (p+1+1) (by omega) (min (max q.people 1) 4) 0 (by omega) _ _ rid (by omega) (by simp)) ?_
   rintro t m3 n3 ⟨hn3,⟨y,⟨ms,hl,hfit,rfl⟩,rfl⟩,p3,hp3,hp4,rfl⟩
   have htt:=termTextS_fn (min (max q.people 1) 4) ms hfit (by omega)
   have hts:=termText_short (min (max q.people 1) 4) ms
   have b1:(x.length:Int)+(termText (min (max q.people 1) 4) ms).length≤9223372036854775807:=by omega
   simp -dsimp [f1,f2,f3]
   refine cl htt ?_
   simp -dsimp [b1]
   refine ⟨by omega,⟨_,by simp,x++termText (min (max q.people 1) 4) ms,by simp; omega,rfl⟩,fun j j1 j2 => ?_,p3,by omega,by omega,by simp⟩
   simp [far j1,j2,show ¬j=n by omega]
 ·subst hc
  simp -dsimp [f1,f2,f3]
  refine callS_ (deed_zA bs (p+1) (by omega) q hq _ _ rid (by omega) (by simp [f1,f2])) ?_
  rintro t m2 n2 ⟨hn2,⟨x,⟨a,ha,rfl⟩,rfl⟩,p3,hp3,hp4,rfl⟩
  have hdt:=deedTextS_fn a (by omega)
  have hds:(deedTx a).length≤40:=deedTx_len a
  simp -dsimp [f1,f2,f3]
  refine cl hdt ?_
  simp -dsimp
  refine ⟨by omega,⟨_,by simp,deedTx a,by omega,rfl⟩,fun j j1 j2 => ?_,p3,by omega,by omega,by simp⟩
  simp [far j1,j2,show ¬j=n by omega]
def SomeDeskLine (x:V):Prop:=∃ (d:Desk) (s:List UInt8),d.small∧d.fit∧s.length≤2000∧x=.tup [d.v,.str s]
theorem drawDeskLine_z (bs:List UInt8) (m:Mem) (n:Nat):FnS Tryz.prog 5 m n [.v (codeV bs)] (Drawn SomeDeskLine m n):=by
 refine Drawn_of ⟨_,Tryz.func5,rfl,rfl⟩ fun hfr => ?_
 refine FS (rs:=[.cell 2 28,.tmp 3]) true Tryz.func5 ?_
 simp -dsimp
 refine callS_ (open_at bs _ _) ?_
 rintro t m1 n1 ⟨rfl,rfl,rfl⟩
 simp -dsimp
 refine callS_ (desk_z (bs.take 2000) 0 (by omega) 12 (by omega) (by omega) _ _ _ (by omega) (by simp)) ?_
 rintro t m2 n2 ⟨hn2,⟨x,⟨d,s1,s2,s3,rfl⟩,rfl⟩,p2,hp1,hp2,rfl⟩
 have f0:=far (show n<n2 by omega)
 have f1:=far (show n+1<n2 by omega)
 have z0:¬n2=n+1:=by omega
 have z1:¬n2=n:=by omega
 simp -dsimp [f0,f1,nes]
 refine twd (List.range 7) [n2] (List.replicate 7 [0]) (List.replicate 7 [0]) ?_
 simp -dsimp [List.range_succ,f0,f1,z0,z1,nes]
 refine callS_ (line_zX (bs.take 2000) p2 (by omega) d.now s3 _ (by rfl) _ _ (n+1) (by omega) (by simp [f0,f1,nes])) ?_
 rintro t m3 n3 ⟨hn3,⟨x,⟨s,hs,rfl⟩,rfl⟩,p3,hp3,hp4,rfl⟩
 have k0:=far (show n<n3 by omega)
 have k1:=far (show n+1<n3 by omega)
 have k2:=far (show n2<n3 by omega)
 simp -dsimp [List.range_succ,f0,f1,k0,k1,k2,z0,z1,nes,keepP]
 refine ⟨by omega,⟨_,by simp <;> rfl,d,s,s1,s2,hs,rfl⟩,fun j j1 => ?_⟩
 simp [far j1,show ¬j=n by omega,show ¬j=n+1 by omega,show ¬j=n2 by omega]
theorem lineL_small {d:Desk} {line:List UInt8} : (deskLine d line).1.small:=by
 cases hk:deskOk d with
 | false=>rw [deskLine_no hk]; exact ⟨⟨by simp [noDeskV],by simp [noDeskV]⟩,by simp [noDeskV],by simp [noDeskV]⟩
 | true=>exact (desk_fine (deskLine_ok hk line)).1
theorem lawDeskLine (bs:List UInt8):FnZ Tryz.prog 3 [codeV bs] (.bool true):=by
 refine FZ (rs:=[.tmp 2]) false Tryz.func3 ?_
 by_cases h:(1048576:Int)<bs.length
 ·simp -dsimp [nes,h]
 simp -dsimp [nes,h]
 refine callS_ (drawDeskLine_z bs _ _) ?_
 rintro t m1 n1 ⟨hn1,⟨x,⟨d,line,hd,hf,hl,rfl⟩,rfl⟩,rfl⟩
 have h1:=deskLineP_fn d line hd (by omega)
 have h2:=deskLineS_fn d line hd hf (by omega)
 have h3:=deskOkS_fn d hd hf
 have h4:=sameDesk_fn (deskLine d line).1 (deskLine d line).1 lineL_small
 have hk:=ft (deskOk d)
 rcases hk with hk | hk
 ·have e:deskLine d line=(noDeskV,[]):=deskLine_no hk line
  have h5:=noDesk_fn noDeskV ⟨⟨by simp [noDeskV],by simp [noDeskV]⟩,by simp [noDeskV],by simp [noDeskV]⟩
  rw [e] at h1 h2 h4
  rw [hk] at h3
  clear e hk hd hf
  obtain ⟨⟨d1,d2⟩,d3⟩:=d
  simp -dsimp [nes,nes8,nes9]
  refine cl h1 ?_
  simp -dsimp [nes,nes8,nes9]
  refine cl h2 ?_
  simp -dsimp [nes,nes8,nes9]
  refine cl h4 ?_
  simp -dsimp [nes,nes8,nes9]
  refine cl h3 ?_
  simp -dsimp [nes,nes8,nes9]
  refine cl h5 ?_
  simp -dsimp [nes,nes8,nes9]
  refine cl alive_fn ?_
  simp -dsimp [nes,nes8,nes9]
 have h5:=deskLineP_fn d [] hd (by simp)
 rw [deskLine_nil hk] at h5
 have hko:=deskLine_ok hk line
 have h6:=deskOk_fn (deskLine d line).1 (by have:=(lineL_small (d:=d) (line:=line)).2.1; omega) (by have:=(lineL_small (d:=d) (line:=line)).1.1; omega) (fun p hp=>by have:=((lineL_small (d:=d) (line:=line)).2.2 p hp).1; omega)
 have h7:=sameDesk_fn d d hd
 have hsm:=deskLine_same hk line
 rw [hko] at h6
 rw [hk] at h3
 clear hko
 obtain ⟨E,hE⟩:∃ E,deskLine d line=E:=⟨_,rfl⟩
 rw [hE] at h1 h2 h4 h6 hsm
 obtain ⟨E0,A⟩:=E
 simp only at h1 h2 h4 h6 hsm
 clear hE hk hf hd
 by_cases ha:A=[111,107]
 ·subst ha
  clear hsm
  obtain ⟨⟨d1,d2⟩,d3⟩:=d
  obtain ⟨⟨E1,E2⟩,E3⟩:=E0
  simp -dsimp [nes,nes8,nes9]
  refine cl h1 ?_
  simp -dsimp [nes,nes8,nes9]
  refine cl h2 ?_
  simp -dsimp [nes,nes8,nes9]
  refine cl h4 ?_
  simp -dsimp [nes,nes8,nes9]
  refine cl h3 ?_
  simp -dsimp [nes,nes8,nes9]
  refine cl h5 ?_
  simp -dsimp [nes,nes8,nes9]
  refine cl h6 ?_
  simp -dsimp [nes,nes8,nes9]
  refine cl h7 ?_
  simp -dsimp [nes,nes8,nes9,wWhat]
 ·have:=hsm ha
  subst this
  clear hsm
  obtain ⟨⟨d1,d2⟩,d3⟩:=E0
  simp -dsimp [nes,nes8,nes9]
  refine cl h1 ?_
  simp -dsimp [nes,nes8,nes9]
  refine cl h2 ?_
  simp -dsimp [nes,nes8,nes9]
  refine cl h4 ?_
  simp -dsimp [nes,nes8,nes9]
  refine cl h3 ?_
  simp -dsimp [nes,nes8,nes9]
  refine cl h5 ?_
  simp -dsimp [nes,nes8,nes9]
  refine cl h6 ?_
  simp -dsimp [nes,nes8,nes9,ha]
  refine cl h7 ?_
  simp -dsimp [nes,nes8,nes9,ha]
  refine cl h7 ?_
  simp -dsimp [nes,nes8,nes9,wWhat]
end TL

namespace TL
open Go Go.Proofs
attribute [local simp] marksV storyV codeV Claim.v Place.v Deed.v
/-! The text of a mark. -/
def mtGo:Nat→Nat→List UInt8→List UInt8
 | 0,_,acc=>acc
 | f+1,x,acc=>if x=0 then acc else mtGo f (x / 10) (UInt8.ofNat (48+x % 10) :: acc)
def mt (k:Int):List UInt8:=if k≤0 then [109,48] else 109 :: mtGo (k.toNat+1) k.toNat []
/-! Deeds as cells that may change. -/
def deT:List Deed→List T
 | []=>[]
 | a :: l=>.v (.int .i64 a.kind) :: .v (.int .i64 a.num) :: .v (.str a.words) :: deT l
@[simp] theorem deT_nil:deT []=[]:=rfl
@[simp] theorem deT_length (a:List Deed):(deT a).length=a.length * 3:=by
 induction a with
 | nil=>rfl
 | cons x xs ih=>simp [deT,ih]; omega
@[simp] theorem deT_take (a:List Deed):(deT a).take (a.length * 3)=deT a:=List.take_of_length_le (by simp)
@[simp] theorem deT_cells (a:List Deed):allC (deT a):=by
 induction a with
 | nil=>simp
 | cons x xs ih=>simp [deT]; exact ih
/-- Deeds that bear marks, from k on. -/
def mkd (k:Int):Nat→List Deed
 | 0=>[]
 | n+1=>mkd k n++[⟨k+3 * n,k+3 * n+1,mt (k+3 * n+2)⟩]
@[simp] theorem mkd_length (k:Int) (n:Nat):(mkd k n).length=n:=by
 induction n with
 | zero=>rfl
 | succ n ih=>simp [mkd,ih]
end TL

namespace TL
open Go Go.Proofs
def txsV (l:List (List UInt8)):V:=.sl (l.map V.str)
/-- The cells of a row of texts. -/
def txsT (l:List (List UInt8)):List T:=l.map fun w=>T.v (.str w)
@[simp] theorem txsT_length (l:List (List UInt8)):(txsT l).length=l.length:=by simp [txsT]
theorem txsT_append (a b:List (List UInt8)):txsT (a++b)=txsT a++txsT b:=by simp [txsT]
theorem txsT_mapO (m:Mem) (d:Nat) (l:List (List UInt8)):mapO (bor true m d) (txsT l)=some (l.map V.str):=by
 induction l with
 | nil=>rfl
 | cons x xs ih =>
  show (bor true m d (.v (.str x))).bind _=_
  rw [show bor true m d (.v (.str x))=some (.str x) by cases d <;> rfl]
  show (mapO (bor true m d) (txsT xs)).map _=_
  rw [ih]; rfl
theorem txs_chunk (l:List (List UInt8)):chunk 1 l.length (l.map V.str)=l.map V.str:=by
 induction l with
 | nil=>rfl
 | cons x xs ih=>simp [chunk]; exact ih
theorem bor_txs {m:Mem} {i:Nat} {e:TypeId} {l:List (List UInt8)} (d:Nat) (h:m i=some (.box e 1 (txsT l))):bor true m (d+1) (.sv i 0 l.length)=some (txsV l):=by
 show (match m i with | some (.box _ z cs)=>tst (0+l.length * z≤cs.length) (obind (mapO (TL.bor true m d) ((cs.drop 0).take (l.length * z))) fun xs=>tst (∀ x ∈ xs,x.cell=true) (some (V.sl (chunk z l.length xs)))) | _=>none)=_
 rw [h]
 show tst (0+l.length * 1≤(txsT l).length) (obind (mapO (TL.bor true m d) (((txsT l).drop 0).take (l.length * 1))) fun xs=>tst (∀ x ∈ xs,x.cell=true) (some (V.sl (chunk 1 l.length xs))))=_
 rw [tst_pos (by simp),List.drop_zero,Nat.mul_one,List.take_of_length_le (by simp),txsT_mapO,obind_some,tst_pos (fun x hx=>by obtain ⟨w,_,rfl⟩:=List.mem_map.1 hx; rfl),txs_chunk]; rfl
/-! Lengths. -/
/-! Copies. -/
/-! Equal rows. -/
/-! Marks. -/
def mkx (k:Int):Nat→List (List UInt8)
 | 0=>[]
 | n+1=>mkx k n++[mt (k+n)]
@[simp] theorem mkx_length (k:Int) (n:Nat):(mkx k n).length=n:=by
 induction n with
 | zero=>rfl
 | succ n ih=>simp [mkx,ih]
end TL
