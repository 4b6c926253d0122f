/- TL: parts FnsJGc, FnsJGd, FnsJG, FnsP3, FnsS1, FnsJH, TlPure, FnsIT, FnsJI, FnsJ1, FnsIU, FnsGDb, FnsGD, TlWrap, FnsFWa, FnsFWb, FnsFWc, FnsFWd. -/
import Derived.Test.YtnimfdpinpggdaaGreatDoorGk
import Derived.Test.YtnimfdpinpggdaaGreatDoorGi
import Derived.Test.YtnimfdpinpggdaaGreatDoorGf
import Derived.Test.YtnimfdpinpggdaaGreatDoorGc
import Derived.Test.YtnimfdpinpggdaaGreatDoorGj
import Derived.Test.YtnimfdpinpggdaaGreatDoorGe
import Derived.Test.YtnimfdpinpggdaaGreatDoorShelfB
import Derived.Test.YtnimfdpinpggdaaGreatDoorShelfC
import Derived.Stop.LaidErr
import Derived.LaidLaws
import Derived.KernelRfl
import Derived.HandedShaped
import Derived.Test.YtnimfdpinpggdaaGreatDoorRows
import Derived.JoinedOf
import Derived.SevenTiedAt
set_option linter.unusedSimpArgs false
set_option linter.unusedVariables false
set_option maxRecDepth 100000
set_option maxHeartbeats 4000000
set_option pp.maxSteps 1500
namespace TL
open Go Go.Proofs
attribute [local simp] marksV storyV codeV Claim.v Place.v Deed.v Desk.v
theorem do_drop_k (d : Desk) (k : Nat) (hd : d.small) (hk : deskOk d = true) (X : Place) (hXl : X.story.length ≤ 7) (hlt : k < d.now.story.length) (hX : X = ⟨d.now.people,d.now.story.eraseIdx k⟩) :
  FnS Tryz.prog 30 (fun _ => none) 0 [.v d.v,.v (⟨1,(k : Int),[]⟩ : Deed).v] (PostK (if (placeOk X && !decide (placeTx X = placeTx d.now)) = true then ((⟨X,keep8 (d.past ++ [d.now])⟩,true) : Desk × Bool) else (d,false))) := by
 have hpo := placeOk_fn X (by omega)
 have hpt := placeText_fn X (by omega)
 have hpn := placeText_fn d.now (by have := hd.1.1; omega)
 have hcn := copyPlace_fn d.now hd.1
 have hok := deskOk_fn d (by have := hd.2.1; omega) (by have := hd.1.1; omega) (fun p hp => by have := (hd.2.2 p hp).1; omega)
 rw [hk] at hok
 obtain ⟨hpast,hnow,hp8⟩ := deskOk_iff.1 hk
 have hcopy := fun m n => copyDesk_own d hd m n
 have hcopyK := fun m n => copyDesk_k d hd hk m n
 have fullb : (d.past.length + 1) * 32 ≤ 140737488355328 := by omega
 have zplaces : allZ 2 (List.map Place.v d.past ++ [d.now.v]) := fun x hx => by
  rcases List.mem_append.1 hx with hx | hx
  ·obtain ⟨p,_,rfl⟩ := List.mem_map.1 hx; exact ⟨by simp,by simp⟩
  ·rw [List.mem_singleton.1 hx]; exact ⟨by simp,by simp⟩
 have hR : placeOk X = true → ∀ l,keep8 (d.past ++ [d.now]) = l → ∀ m n,FnS Tryz.prog 31 m n [.v (⟨X,l⟩ : Desk).v] (DeepK ⟨X,l⟩ m n) := fun hX l hl m n => by
  have ok : deskOk ⟨X,l⟩ = true := deskOk_iff.2 ⟨fun p hp => by
   rw [← hl] at hp
   rcases List.mem_append.1 (keep8_mem hp) with h1 | h1
   ·exact hpast p h1
   ·rw [List.mem_singleton.1 h1]; exact hnow,hX,by rw [← hl]; exact keep8_len _ (by simp; omega)⟩
  exact copyDesk_k ⟨X,l⟩ (desk_fine ok).1 ok m n
 have hw := without_fn d.now.story k hlt (by have := hd.1.1; omega)
 have hkX := ft (placeOk X)
 have htx : placeTx X = placeTx d.now ∨ ¬ placeTx X = placeTx d.now := Classical.em _
 generalize placeTx X = tX at *
 generalize placeTx d.now = tN at *
 generalize placeOk X = okX at *
 subst hX
 have c1 : ¬ (d.now.story.length : Int) ≤ k := by omega
 have c2 : ¬ d.now.story.length ≤ k := by omega
 have c3 : ¬ (k : Int) < 0 := by omega
 generalize d.now.story.eraseIdx k = R at *
 refine FnS_of (rs := [.cell 4 34,.tmp 5]) false Tryz.func30 rfl rfl rfl rfl (Nat.le_of_ble_eq_true rfl) ?_
 simp -dsimp
 refine call_ hok (by simp -dsimp) ?_
 simp -dsimp
 refine callL_ (vs := [d.v]) (hcopy _ _) (by simp -dsimp) ?_
 rintro t m1 n1 ⟨hn1,hout,id,st,rfl,hi0,hi1,him,hst,hne⟩
 have k0 := hout 0 (by omega)
 have k1 := hout 1 (by omega)
 have k2 := hout 2 (by omega)
 simp -dsimp at k0 k1 k2
 have f0 := far (show 0 < n1 by omega)
 have f1 := far (show 1 < n1 by omega)
 have f2 := far (show 2 < n1 by omega)
 have z1 : ¬ n1 = 0 := by omega
 have z2 : ¬ n1 = 1 := by omega
 have z3 : ¬ n1 = 2 := by omega
 have g1 := far hi1
 have y0 : ¬ id = 0 := by omega
 have y1 : ¬ id = 1 := by omega
 have y2 : ¬ id = 2 := by omega
 have yn : ¬ id = n1 := by omega
 have hc := hst.cell
 rcases hst with ⟨rfl,hs0⟩ | ⟨r,rfl,hr0,hr1,hrm⟩
 ·have hp0 : d.past = [] := by simpa using hs0
  simp -dsimp [nes8 n1,k0,k1,k2,f0,f1,f2,z1,z2,z3,nes,g1,y0,y1,y2,yn,Ne.symm y0,Ne.symm y1,Ne.symm y2,him,hc,c1,c2,c3]
  refine twp_draw (List.range 13) [1,n1,id] (List.replicate 13 [0,1,2]) (List.replicate 13 [0,1,2]) (by kernel_rfl) (by kernel_rfl) (by kernel_rfl) (by kernel_rfl) ?_
  simp -dsimp [List.range_succ,nes8 n1,k0,k1,k2,f0,f1,f2,z1,z2,z3,nes,g1,y0,y1,y2,yn,Ne.symm y0,Ne.symm y1,Ne.symm y2,him,hc,c1,c2,c3]
  refine twp_draw (List.range 11) [1,n1] (List.replicate 8 [0,1] ++ [[],[],[]]) (List.replicate 10 [0,1] ++ [[0]]) (by kernel_rfl) (by kernel_rfl) (by kernel_rfl) (by kernel_rfl) ?_
  simp -dsimp [List.range_succ,nes8 n1,k0,k1,k2,f0,f1,f2,z1,z2,z3,nes,g1,y0,y1,y2,yn,Ne.symm y0,Ne.symm y1,Ne.symm y2,him,hc,c1,c2,c3]
  refine call_ hw (by simp -dsimp [nes8 n1,k0,k1,k2,f0,f1,f2,z1,z2,z3,nes,g1,y0,y1,y2,yn,Ne.symm y0,Ne.symm y1,Ne.symm y2,him,hc,c1,c2,c3]) ?_
  simp -dsimp [List.range_succ,nes8 n1,k0,k1,k2,f0,f1,f2,z1,z2,z3,nes,g1,y0,y1,y2,yn,Ne.symm y0,Ne.symm y1,Ne.symm y2,him,hc,c1,c2,c3]
  refine twp_draw [0,1,2,3,4,5,6,7,8,10,11,9,12,13,14] [0,n1] (List.replicate 15 [0,1]) (List.replicate 15 [0,1]) (by kernel_rfl) (by kernel_rfl) (by kernel_rfl) (by kernel_rfl) ?_
  simp -dsimp [nes8 n1,k0,k1,k2,f0,f1,f2,z1,z2,z3,nes,g1,y0,y1,y2,yn,Ne.symm y0,Ne.symm y1,Ne.symm y2,him,hc,c1,c2,c3,hp0]
  refine call_ hpo (by simp -dsimp [nes8 n1,k0,k1,k2,f0,f1,f2,z1,z2,z3,nes,g1,y0,y1,y2,yn,Ne.symm y0,Ne.symm y1,Ne.symm y2,him,hc,c1,c2,c3,hp0]) ?_
  rcases hkX with rfl | rfl
  ·simp -dsimp [nes8 n1,k0,k1,k2,f0,f1,f2,z1,z2,z3,nes,g1,y0,y1,y2,yn,Ne.symm y0,Ne.symm y1,Ne.symm y2,him,hc,c1,c2,c3,hp0]
   refine callL_ (vs := [d.v]) (hcopyK _ _) (by simp -dsimp [hc,c1,c2,c3,hp0]) ?_
   rintro t m2 n2 ⟨hn2,hout2,sn2,P2,rfl,hown2⟩
   have q2 := hout2 2 (by omega)
   simp -dsimp [nes8 n1,k0,k1,k2,f0,f1,f2,z1,z2,z3,nes,g1,y0,y1,y2,yn,Ne.symm y0,Ne.symm y1,Ne.symm y2,him] at q2
   have hfc := hown2.facts
   have hc2 := hfc.1
   have hcs2 := hfc.2.1
   have hcP2 := hfc.2.2.1
   have hcsP2 := hfc.2.2.2
   clear hfc
   simp -dsimp [dT,q2,hc2,hcs2,hcP2,hcsP2]
   exact ⟨sn2,P2,rfl,hown2.keep (Nat.zero_le _) (by omega) fun j j1 j2 => by simp [show ¬ j = 2 by omega]⟩
  simp -dsimp [nes8 n1,k0,k1,k2,f0,f1,f2,z1,z2,z3,nes,g1,y0,y1,y2,yn,Ne.symm y0,Ne.symm y1,Ne.symm y2,him,hc,c1,c2,c3,hp0]
  refine call_ hpt (by simp -dsimp [nes8 n1,k0,k1,k2,f0,f1,f2,z1,z2,z3,nes,g1,y0,y1,y2,yn,Ne.symm y0,Ne.symm y1,Ne.symm y2,him,hc,c1,c2,c3,hp0]) ?_
  simp -dsimp [nes8 n1,k0,k1,k2,f0,f1,f2,z1,z2,z3,nes,g1,y0,y1,y2,yn,Ne.symm y0,Ne.symm y1,Ne.symm y2,him,hc,c1,c2,c3,hp0]
  refine call_ hpn (by simp -dsimp) ?_
  rcases htx with rfl | htx
  ·simp -dsimp [nes8 n1,k0,k1,k2,f0,f1,f2,z1,z2,z3,nes,g1,y0,y1,y2,yn,Ne.symm y0,Ne.symm y1,Ne.symm y2,him,hc,c1,c2,c3,hp0]
   refine callL_ (vs := [d.v]) (hcopyK _ _) (by simp -dsimp [hc,c1,c2,c3,hp0]) ?_
   rintro t m2 n2 ⟨hn2,hout2,sn2,P2,rfl,hown2⟩
   have q2 := hout2 2 (by omega)
   simp -dsimp [nes8 n1,k0,k1,k2,f0,f1,f2,z1,z2,z3,nes,g1,y0,y1,y2,yn,Ne.symm y0,Ne.symm y1,Ne.symm y2,him] at q2
   have hfc := hown2.facts
   have hc2 := hfc.1
   have hcs2 := hfc.2.1
   have hcP2 := hfc.2.2.1
   have hcsP2 := hfc.2.2.2
   clear hfc
   simp -dsimp [dT,q2,hc2,hcs2,hcP2,hcsP2]
   exact ⟨sn2,P2,rfl,hown2.keep (Nat.zero_le _) (by omega) fun j j1 j2 => by simp [show ¬ j = 2 by omega]⟩
  have hRs := hR rfl
  simp -dsimp [nes8 n1,k0,k1,k2,f0,f1,f2,z1,z2,z3,nes,g1,y0,y1,y2,yn,Ne.symm y0,Ne.symm y1,Ne.symm y2,him,hc,c1,c2,c3,hp0,htx]
  refine twp_draw (List.range 9) [0,n1] (List.replicate 9 [0,1]) (List.replicate 8 [0,1] ++ [[0]]) (by kernel_rfl) (by kernel_rfl) (by kernel_rfl) (by kernel_rfl) ?_
  simp -dsimp [List.range_succ,nes8 n1,k0,k1,k2,f0,f1,f2,z1,z2,z3,nes,g1,y0,y1,y2,yn,Ne.symm y0,Ne.symm y1,Ne.symm y2,him,hc,c1,c2,c3,hp0,htx]
  refine call_ hcn (by simp -dsimp) ?_
  have hR2 := hRs [d.now] (by rw [hp0]; rfl)
  simp -dsimp [List.range_succ,nes8 n1,k0,k1,k2,f0,f1,f2,z1,z2,z3,nes,g1,y0,y1,y2,yn,Ne.symm y0,Ne.symm y1,Ne.symm y2,him,hc,c1,c2,c3,hp0,htx]
  refine callL_ (vs := [(⟨⟨d.now.people,R⟩,[d.now]⟩ : Desk).v]) (hR2 _ _) (by simp -dsimp [nes8 n1,k0,k1,k2,f0,f1,f2,z1,z2,z3,nes,g1,y0,y1,y2,yn,Ne.symm y0,Ne.symm y1,Ne.symm y2,him,hc,c1,c2,c3,hp0]) ?_
  rintro t m2 n2 ⟨hn2,hout2,sn2,P2,rfl,hown2⟩
  have q2 := hout2 2 (by omega)
  simp -dsimp [nes8 n1,k0,k1,k2,f0,f1,f2,z1,z2,z3,nes,g1,y0,y1,y2,yn,Ne.symm y0,Ne.symm y1,Ne.symm y2,him] at q2
  have hfc := hown2.facts
  have hc2 := hfc.1
  have hcs2 := hfc.2.1
  have hcP2 := hfc.2.2.1
  have hcsP2 := hfc.2.2.2
  clear hfc
  simp -dsimp [dT,q2,hc2,hcs2,hcP2,hcsP2,htx,hp0,keep8]
  exact ⟨sn2,P2,rfl,hown2.keep (Nat.zero_le _) (by omega) fun j j1 j2 => by simp [show ¬ j = 2 by omega]⟩
 ·have g2 := far hr1
  have x0 : ¬ r = 0 := by omega
  have x1 : ¬ r = 1 := by omega
  have x2 : ¬ r = 2 := by omega
  have xi : ¬ r = id := fun h => hne (by rw [h])
  simp -dsimp [nes8 n1,k0,k1,k2,f0,f1,f2,z1,z2,z3,nes,g1,y0,y1,y2,yn,Ne.symm y0,Ne.symm y1,Ne.symm y2,him,g2,x0,x1,x2,xi,Ne.symm x0,Ne.symm x1,Ne.symm x2,Ne.symm xi,hrm,hc,c1,c2,c3]
  refine twp_draw (List.range 13) [1,n1,id] (List.replicate 13 [0,1,2]) (List.replicate 13 [0,1,2]) (by kernel_rfl) (by kernel_rfl) (by kernel_rfl) (by kernel_rfl) ?_
  simp -dsimp [List.range_succ,nes8 n1,k0,k1,k2,f0,f1,f2,z1,z2,z3,nes,g1,y0,y1,y2,yn,Ne.symm y0,Ne.symm y1,Ne.symm y2,him,g2,x0,x1,x2,xi,Ne.symm x0,Ne.symm x1,Ne.symm x2,Ne.symm xi,hrm,hc,c1,c2,c3]
  refine twp_draw (List.range 11) [1,n1] (List.replicate 8 [0,1] ++ [[],[],[]]) (List.replicate 10 [0,1] ++ [[0]]) (by kernel_rfl) (by kernel_rfl) (by kernel_rfl) (by kernel_rfl) ?_
  simp -dsimp [List.range_succ,nes8 n1,k0,k1,k2,f0,f1,f2,z1,z2,z3,nes,g1,y0,y1,y2,yn,Ne.symm y0,Ne.symm y1,Ne.symm y2,him,g2,x0,x1,x2,xi,Ne.symm x0,Ne.symm x1,Ne.symm x2,Ne.symm xi,hrm,hc,c1,c2,c3]
  refine call_ hw (by simp -dsimp [nes8 n1,k0,k1,k2,f0,f1,f2,z1,z2,z3,nes,g1,y0,y1,y2,yn,Ne.symm y0,Ne.symm y1,Ne.symm y2,him,g2,x0,x1,x2,xi,Ne.symm x0,Ne.symm x1,Ne.symm x2,Ne.symm xi,hrm,hc,c1,c2,c3]) ?_
  simp -dsimp [List.range_succ,nes8 n1,k0,k1,k2,f0,f1,f2,z1,z2,z3,nes,g1,y0,y1,y2,yn,Ne.symm y0,Ne.symm y1,Ne.symm y2,him,g2,x0,x1,x2,xi,Ne.symm x0,Ne.symm x1,Ne.symm x2,Ne.symm xi,hrm,hc,c1,c2,c3]
  refine twp_draw [0,1,2,3,4,5,6,7,8,10,11,9,12,13,14] [0,n1] (List.replicate 15 [0,1]) (List.replicate 15 [0,1]) (by kernel_rfl) (by kernel_rfl) (by kernel_rfl) (by kernel_rfl) ?_
  simp -dsimp [nes8 n1,k0,k1,k2,f0,f1,f2,z1,z2,z3,nes,g1,y0,y1,y2,yn,Ne.symm y0,Ne.symm y1,Ne.symm y2,him,g2,x0,x1,x2,xi,Ne.symm x0,Ne.symm x1,Ne.symm x2,Ne.symm xi,hrm,hc,c1,c2,c3]
  refine call_ hpo (by simp -dsimp [nes8 n1,k0,k1,k2,f0,f1,f2,z1,z2,z3,nes,g1,y0,y1,y2,yn,Ne.symm y0,Ne.symm y1,Ne.symm y2,him,g2,x0,x1,x2,xi,Ne.symm x0,Ne.symm x1,Ne.symm x2,Ne.symm xi,hrm,hc,c1,c2,c3]) ?_
  rcases hkX with rfl | rfl
  ·simp -dsimp [nes8 n1,k0,k1,k2,f0,f1,f2,z1,z2,z3,nes,g1,y0,y1,y2,yn,Ne.symm y0,Ne.symm y1,Ne.symm y2,him,g2,x0,x1,x2,xi,Ne.symm x0,Ne.symm x1,Ne.symm x2,Ne.symm xi,hrm,hc,c1,c2,c3]
   refine callL_ (vs := [d.v]) (hcopyK _ _) (by simp -dsimp [hc,c1,c2,c3]) ?_
   rintro t m2 n2 ⟨hn2,hout2,sn2,P2,rfl,hown2⟩
   have q2 := hout2 2 (by omega)
   simp -dsimp [nes8 n1,k0,k1,k2,f0,f1,f2,z1,z2,z3,nes,g1,y0,y1,y2,yn,Ne.symm y0,Ne.symm y1,Ne.symm y2,him,g2,x0,x1,x2,xi,Ne.symm x0,Ne.symm x1,Ne.symm x2,Ne.symm xi,hrm] at q2
   have hfc := hown2.facts
   have hc2 := hfc.1
   have hcs2 := hfc.2.1
   have hcP2 := hfc.2.2.1
   have hcsP2 := hfc.2.2.2
   clear hfc
   simp -dsimp [dT,q2,hc2,hcs2,hcP2,hcsP2]
   exact ⟨sn2,P2,rfl,hown2.keep (Nat.zero_le _) (by omega) fun j j1 j2 => by simp [show ¬ j = 2 by omega]⟩
  simp -dsimp [nes8 n1,k0,k1,k2,f0,f1,f2,z1,z2,z3,nes,g1,y0,y1,y2,yn,Ne.symm y0,Ne.symm y1,Ne.symm y2,him,g2,x0,x1,x2,xi,Ne.symm x0,Ne.symm x1,Ne.symm x2,Ne.symm xi,hrm,hc,c1,c2,c3]
  refine call_ hpt (by simp -dsimp [nes8 n1,k0,k1,k2,f0,f1,f2,z1,z2,z3,nes,g1,y0,y1,y2,yn,Ne.symm y0,Ne.symm y1,Ne.symm y2,him,g2,x0,x1,x2,xi,Ne.symm x0,Ne.symm x1,Ne.symm x2,Ne.symm xi,hrm,hc,c1,c2,c3]) ?_
  simp -dsimp [nes8 n1,k0,k1,k2,f0,f1,f2,z1,z2,z3,nes,g1,y0,y1,y2,yn,Ne.symm y0,Ne.symm y1,Ne.symm y2,him,g2,x0,x1,x2,xi,Ne.symm x0,Ne.symm x1,Ne.symm x2,Ne.symm xi,hrm,hc,c1,c2,c3]
  refine call_ hpn (by simp -dsimp) ?_
  rcases htx with rfl | htx
  ·simp -dsimp [nes8 n1,k0,k1,k2,f0,f1,f2,z1,z2,z3,nes,g1,y0,y1,y2,yn,Ne.symm y0,Ne.symm y1,Ne.symm y2,him,g2,x0,x1,x2,xi,Ne.symm x0,Ne.symm x1,Ne.symm x2,Ne.symm xi,hrm,hc,c1,c2,c3]
   refine callL_ (vs := [d.v]) (hcopyK _ _) (by simp -dsimp [hc,c1,c2,c3]) ?_
   rintro t m2 n2 ⟨hn2,hout2,sn2,P2,rfl,hown2⟩
   have q2 := hout2 2 (by omega)
   simp -dsimp [nes8 n1,k0,k1,k2,f0,f1,f2,z1,z2,z3,nes,g1,y0,y1,y2,yn,Ne.symm y0,Ne.symm y1,Ne.symm y2,him,g2,x0,x1,x2,xi,Ne.symm x0,Ne.symm x1,Ne.symm x2,Ne.symm xi,hrm] at q2
   have hfc := hown2.facts
   have hc2 := hfc.1
   have hcs2 := hfc.2.1
   have hcP2 := hfc.2.2.1
   have hcsP2 := hfc.2.2.2
   clear hfc
   simp -dsimp [dT,q2,hc2,hcs2,hcP2,hcsP2]
   exact ⟨sn2,P2,rfl,hown2.keep (Nat.zero_le _) (by omega) fun j j1 j2 => by simp [show ¬ j = 2 by omega]⟩
  have hRs := hR rfl
  simp -dsimp [nes8 n1,k0,k1,k2,f0,f1,f2,z1,z2,z3,nes,g1,y0,y1,y2,yn,Ne.symm y0,Ne.symm y1,Ne.symm y2,him,g2,x0,x1,x2,xi,Ne.symm x0,Ne.symm x1,Ne.symm x2,Ne.symm xi,hrm,hc,c1,c2,c3,htx]
  refine twp_draw (List.range 9) [0,n1] (List.replicate 9 [0,1]) (List.replicate 8 [0,1] ++ [[0]]) (by kernel_rfl) (by kernel_rfl) (by kernel_rfl) (by kernel_rfl) ?_
  simp -dsimp [List.range_succ,nes8 n1,k0,k1,k2,f0,f1,f2,z1,z2,z3,nes,g1,y0,y1,y2,yn,Ne.symm y0,Ne.symm y1,Ne.symm y2,him,g2,x0,x1,x2,xi,Ne.symm x0,Ne.symm x1,Ne.symm x2,Ne.symm xi,hrm,hc,c1,c2,c3,htx]
  refine call_ hcn (by simp -dsimp) ?_
  by_cases h8 : d.past.length = 8
  ·have e8 : (d.past.length : Int) = 8 := by omega
   have ek : keep8 (d.past ++ [d.now]) = (d.past ++ [d.now]).tail := by unfold keep8; rw [if_pos (by simp [h8])]; simp
   have hR2 := hRs (d.past ++ [d.now]).tail ek
   have tk : List.take 9 (List.map Place.v d.past ++ [d.now.v]) = List.map Place.v d.past ++ [d.now.v] := List.take_of_length_le (by simp [h8])
   have zk : allZ 2 (List.map Place.v d.past ++ [d.now.v]).tail := fun x hx => zplaces x (List.mem_of_mem_tail hx)
   simp only [Place.v,storyV] at tk zk
   simp -dsimp [List.range_succ,nes8 n1,k0,k1,k2,f0,f1,f2,z1,z2,z3,nes,g1,y0,y1,y2,yn,Ne.symm y0,Ne.symm y1,Ne.symm y2,him,g2,x0,x1,x2,xi,Ne.symm x0,Ne.symm x1,Ne.symm x2,Ne.symm xi,hrm,hc,c1,c2,c3,htx,fullb,h8,e8,tk,zk]
   refine callL_ (vs := [(⟨⟨d.now.people,R⟩,(d.past ++ [d.now]).tail⟩ : Desk).v]) (hR2 _ _) (by simp -dsimp [nes8 n1,k0,k1,k2,f0,f1,f2,z1,z2,z3,nes,g1,y0,y1,y2,yn,Ne.symm y0,Ne.symm y1,Ne.symm y2,him,g2,x0,x1,x2,xi,Ne.symm x0,Ne.symm x1,Ne.symm x2,Ne.symm xi,hrm,hc,c1,c2,c3,List.map_tail,List.map_append]) ?_
   rintro t m2 n2 ⟨hn2,hout2,sn2,P2,rfl,hown2⟩
   have q2 := hout2 2 (by omega)
   simp -dsimp [nes8 n1,k0,k1,k2,f0,f1,f2,z1,z2,z3,nes,g1,y0,y1,y2,yn,Ne.symm y0,Ne.symm y1,Ne.symm y2,him,g2,x0,x1,x2,xi,Ne.symm x0,Ne.symm x1,Ne.symm x2,Ne.symm xi,hrm] at q2
   have hfc := hown2.facts
   have hc2 := hfc.1
   have hcs2 := hfc.2.1
   have hcP2 := hfc.2.2.1
   have hcsP2 := hfc.2.2.2
   clear hfc
   simp -dsimp [dT,q2,hc2,hcs2,hcP2,hcsP2,htx,ek]
   exact ⟨sn2,P2,rfl,hown2.keep (Nat.zero_le _) (by omega) fun j j1 j2 => by simp [show ¬ j = 2 by omega]⟩
  ·have e8 : d.past.length < 8 := by omega
   have e8' : ¬ (8 : Int) < (d.past.length : Int) + 1 := by omega
   have e8'' : ¬ 8 < d.past.length + 1 := by omega
   have ek : keep8 (d.past ++ [d.now]) = d.past ++ [d.now] := by unfold keep8; rw [if_neg (by simp; omega)]
   have hR2 := hRs (d.past ++ [d.now]) ek
   simp -dsimp [List.range_succ,nes8 n1,k0,k1,k2,f0,f1,f2,z1,z2,z3,nes,g1,y0,y1,y2,yn,Ne.symm y0,Ne.symm y1,Ne.symm y2,him,g2,x0,x1,x2,xi,Ne.symm x0,Ne.symm x1,Ne.symm x2,Ne.symm xi,hrm,hc,c1,c2,c3,htx,fullb,h8,e8,e8',e8'']
   refine callL_ (vs := [(⟨⟨d.now.people,R⟩,d.past ++ [d.now]⟩ : Desk).v]) (hR2 _ _) (by simp -dsimp [nes8 n1,k0,k1,k2,f0,f1,f2,z1,z2,z3,nes,g1,y0,y1,y2,yn,Ne.symm y0,Ne.symm y1,Ne.symm y2,him,g2,x0,x1,x2,xi,Ne.symm x0,Ne.symm x1,Ne.symm x2,Ne.symm xi,hrm,hc,c1,c2,c3]) ?_
   rintro t m2 n2 ⟨hn2,hout2,sn2,P2,rfl,hown2⟩
   have q2 := hout2 2 (by omega)
   simp -dsimp [nes8 n1,k0,k1,k2,f0,f1,f2,z1,z2,z3,nes,g1,y0,y1,y2,yn,Ne.symm y0,Ne.symm y1,Ne.symm y2,him,g2,x0,x1,x2,xi,Ne.symm x0,Ne.symm x1,Ne.symm x2,Ne.symm xi,hrm] at q2
   have hfc := hown2.facts
   have hc2 := hfc.1
   have hcs2 := hfc.2.1
   have hcP2 := hfc.2.2.1
   have hcsP2 := hfc.2.2.2
   clear hfc
   simp -dsimp [dT,q2,hc2,hcs2,hcP2,hcsP2,htx,ek]
   exact ⟨sn2,P2,rfl,hown2.keep (Nat.zero_le _) (by omega) fun j j1 j2 => by simp [show ¬ j = 2 by omega]⟩
end TL

namespace TL
open Go Go.Proofs
attribute [local simp] marksV storyV codeV Claim.v Place.v Deed.v Desk.v
theorem do_say_k (d : Desk) (words : List UInt8) (c : Claim) (hd : d.small) (hk : deskOk d = true) (X : Place) (hXl : X.story.length ≤ 7) (hr : readC d.now.people words = some c) (hwl : words.length ≤ 1000000000) (hX : X = ⟨d.now.people,d.now.story ++ [c]⟩) :
  FnS Tryz.prog 30 (fun _ => none) 0 [.v d.v,.v (⟨0,0,words⟩ : Deed).v] (PostK (if (placeOk X && !decide (placeTx X = placeTx d.now)) = true then ((⟨X,keep8 (d.past ++ [d.now])⟩,true) : Desk × Bool) else (d,false))) := by
 have hpo := placeOk_fn X (by omega)
 have hpt := placeText_fn X (by omega)
 have hpn := placeText_fn d.now (by have := hd.1.1; omega)
 have hcn := copyPlace_fn d.now hd.1
 have hok := deskOk_fn d (by have := hd.2.1; omega) (by have := hd.1.1; omega) (fun p hp => by have := (hd.2.2 p hp).1; omega)
 rw [hk] at hok
 obtain ⟨hpast,hnow,hp8⟩ := deskOk_iff.1 hk
 have hcopy := fun m n => copyDesk_own d hd m n
 have hcopyK := fun m n => copyDesk_k d hd hk m n
 have fullb : (d.past.length + 1) * 32 ≤ 140737488355328 := by omega
 have zplaces : allZ 2 (List.map Place.v d.past ++ [d.now.v]) := fun x hx => by
  rcases List.mem_append.1 hx with hx | hx
  ·obtain ⟨p,_,rfl⟩ := List.mem_map.1 hx; exact ⟨by simp,by simp⟩
  ·rw [List.mem_singleton.1 hx]; exact ⟨by simp,by simp⟩
 have hR : placeOk X = true → ∀ l,keep8 (d.past ++ [d.now]) = l → ∀ m n,FnS Tryz.prog 31 m n [.v (⟨X,l⟩ : Desk).v] (DeepK ⟨X,l⟩ m n) := fun hX l hl m n => by
  have ok : deskOk ⟨X,l⟩ = true := deskOk_iff.2 ⟨fun p hp => by
   rw [← hl] at hp
   rcases List.mem_append.1 (keep8_mem hp) with h1 | h1
   ·exact hpast p h1
   ·rw [List.mem_singleton.1 h1]; exact hnow,hX,by rw [← hl]; exact keep8_len _ (by simp; omega)⟩
  exact copyDesk_k ⟨X,l⟩ (desk_fine ok).1 ok m n
 have hrc := readClaim_fn d.now.people words (by omega)
 rw [hr] at hrc
 have b1 : (d.now.story.length + 1) * 32 ≤ 140737488355328 := by have := hd.1.1; omega
 have hkX := ft (placeOk X)
 have htx : placeTx X = placeTx d.now ∨ ¬ placeTx X = placeTx d.now := Classical.em _
 generalize placeTx X = tX at *
 generalize placeTx d.now = tN at *
 generalize placeOk X = okX at *
 subst hX
 refine FnS_of (rs := [.cell 4 34,.tmp 5]) false Tryz.func30 rfl rfl rfl rfl (Nat.le_of_ble_eq_true rfl) ?_
 simp -dsimp
 refine call_ hok (by simp -dsimp) ?_
 simp -dsimp
 refine callL_ (vs := [d.v]) (hcopy _ _) (by simp -dsimp) ?_
 rintro t m1 n1 ⟨hn1,hout,id,st,rfl,hi0,hi1,him,hst,hne⟩
 have k0 := hout 0 (by omega)
 have k1 := hout 1 (by omega)
 have k2 := hout 2 (by omega)
 simp -dsimp at k0 k1 k2
 have f0 := far (show 0 < n1 by omega)
 have f1 := far (show 1 < n1 by omega)
 have f2 := far (show 2 < n1 by omega)
 have z1 : ¬ n1 = 0 := by omega
 have z2 : ¬ n1 = 1 := by omega
 have z3 : ¬ n1 = 2 := by omega
 have g1 := far hi1
 have y0 : ¬ id = 0 := by omega
 have y1 : ¬ id = 1 := by omega
 have y2 : ¬ id = 2 := by omega
 have yn : ¬ id = n1 := by omega
 have hc := hst.cell
 rcases hst with ⟨rfl,hs0⟩ | ⟨r,rfl,hr0,hr1,hrm⟩
 ·have hp0 : d.past = [] := by simpa using hs0
  simp -dsimp [nes8 n1,k0,k1,k2,f0,f1,f2,z1,z2,z3,nes,g1,y0,y1,y2,yn,Ne.symm y0,Ne.symm y1,Ne.symm y2,him,hc,b1]
  refine twp_draw [0,1,2,3,4,5,1006,7,8,9,10,11,12] [1,n1] (List.replicate 13 [0,1]) (List.replicate 13 [0,1]) (by kernel_rfl) (by kernel_rfl) (by kernel_rfl) (by kernel_rfl) ?_
  simp -dsimp [List.range_succ,nes8 n1,k0,k1,k2,f0,f1,f2,z1,z2,z3,nes,g1,y0,y1,y2,yn,Ne.symm y0,Ne.symm y1,Ne.symm y2,him,hc,b1]
  refine pure_ hrc (by simp -dsimp [nes8 n1,k0,k1,k2,f0,f1,f2,z1,z2,z3,nes,g1,y0,y1,y2,yn,Ne.symm y0,Ne.symm y1,Ne.symm y2,him,hc,b1]) ?_
  simp -dsimp [List.range_succ,nes8 n1,k0,k1,k2,f0,f1,f2,z1,z2,z3,nes,g1,y0,y1,y2,yn,Ne.symm y0,Ne.symm y1,Ne.symm y2,him,hc,b1,optC]
  refine twp_draw (List.range 11) [n1,n1 + 1 + 1] (List.replicate 8 [0,1] ++ [[],[],[]]) (List.replicate 10 [0,1] ++ [[1]]) (by kernel_rfl) (by kernel_rfl) (by kernel_rfl) (by kernel_rfl) ?_
  simp -dsimp [List.range_succ,nes8 n1,k0,k1,k2,f0,f1,f2,z1,z2,z3,nes,g1,y0,y1,y2,yn,Ne.symm y0,Ne.symm y1,Ne.symm y2,him,hc,b1,b1]
  refine twp_draw [0,1,2,3,4,5,6,7,8,10,11,9,12,13,14] [0,n1] (List.replicate 15 [0,1]) (List.replicate 15 [0,1]) (by kernel_rfl) (by kernel_rfl) (by kernel_rfl) (by kernel_rfl) ?_
  simp -dsimp [nes8 n1,k0,k1,k2,f0,f1,f2,z1,z2,z3,nes,g1,y0,y1,y2,yn,Ne.symm y0,Ne.symm y1,Ne.symm y2,him,hc,b1,hp0]
  refine call_ hpo (by simp -dsimp [nes8 n1,k0,k1,k2,f0,f1,f2,z1,z2,z3,nes,g1,y0,y1,y2,yn,Ne.symm y0,Ne.symm y1,Ne.symm y2,him,hc,b1,hp0]) ?_
  rcases hkX with rfl | rfl
  ·simp -dsimp [nes8 n1,k0,k1,k2,f0,f1,f2,z1,z2,z3,nes,g1,y0,y1,y2,yn,Ne.symm y0,Ne.symm y1,Ne.symm y2,him,hc,b1,hp0]
   refine callL_ (vs := [d.v]) (hcopyK _ _) (by simp -dsimp [hc,b1,hp0]) ?_
   rintro t m2 n2 ⟨hn2,hout2,sn2,P2,rfl,hown2⟩
   have q2 := hout2 2 (by omega)
   simp -dsimp [nes8 n1,k0,k1,k2,f0,f1,f2,z1,z2,z3,nes,g1,y0,y1,y2,yn,Ne.symm y0,Ne.symm y1,Ne.symm y2,him] at q2
   have hfc := hown2.facts
   have hc2 := hfc.1
   have hcs2 := hfc.2.1
   have hcP2 := hfc.2.2.1
   have hcsP2 := hfc.2.2.2
   clear hfc
   simp -dsimp [dT,q2,hc2,hcs2,hcP2,hcsP2]
   exact ⟨sn2,P2,rfl,hown2.keep (Nat.zero_le _) (by omega) fun j j1 j2 => by simp [show ¬ j = 2 by omega]⟩
  simp -dsimp [nes8 n1,k0,k1,k2,f0,f1,f2,z1,z2,z3,nes,g1,y0,y1,y2,yn,Ne.symm y0,Ne.symm y1,Ne.symm y2,him,hc,b1,hp0]
  refine call_ hpt (by simp -dsimp [nes8 n1,k0,k1,k2,f0,f1,f2,z1,z2,z3,nes,g1,y0,y1,y2,yn,Ne.symm y0,Ne.symm y1,Ne.symm y2,him,hc,b1,hp0]) ?_
  simp -dsimp [nes8 n1,k0,k1,k2,f0,f1,f2,z1,z2,z3,nes,g1,y0,y1,y2,yn,Ne.symm y0,Ne.symm y1,Ne.symm y2,him,hc,b1,hp0]
  refine call_ hpn (by simp -dsimp) ?_
  rcases htx with rfl | htx
  ·simp -dsimp [nes8 n1,k0,k1,k2,f0,f1,f2,z1,z2,z3,nes,g1,y0,y1,y2,yn,Ne.symm y0,Ne.symm y1,Ne.symm y2,him,hc,b1,hp0]
   refine callL_ (vs := [d.v]) (hcopyK _ _) (by simp -dsimp [hc,b1,hp0]) ?_
   rintro t m2 n2 ⟨hn2,hout2,sn2,P2,rfl,hown2⟩
   have q2 := hout2 2 (by omega)
   simp -dsimp [nes8 n1,k0,k1,k2,f0,f1,f2,z1,z2,z3,nes,g1,y0,y1,y2,yn,Ne.symm y0,Ne.symm y1,Ne.symm y2,him] at q2
   have hfc := hown2.facts
   have hc2 := hfc.1
   have hcs2 := hfc.2.1
   have hcP2 := hfc.2.2.1
   have hcsP2 := hfc.2.2.2
   clear hfc
   simp -dsimp [dT,q2,hc2,hcs2,hcP2,hcsP2]
   exact ⟨sn2,P2,rfl,hown2.keep (Nat.zero_le _) (by omega) fun j j1 j2 => by simp [show ¬ j = 2 by omega]⟩
  have hRs := hR rfl
  simp -dsimp [nes8 n1,k0,k1,k2,f0,f1,f2,z1,z2,z3,nes,g1,y0,y1,y2,yn,Ne.symm y0,Ne.symm y1,Ne.symm y2,him,hc,b1,hp0,htx]
  refine twp_draw (List.range 9) [0,n1] (List.replicate 9 [0,1]) (List.replicate 8 [0,1] ++ [[0]]) (by kernel_rfl) (by kernel_rfl) (by kernel_rfl) (by kernel_rfl) ?_
  simp -dsimp [List.range_succ,nes8 n1,k0,k1,k2,f0,f1,f2,z1,z2,z3,nes,g1,y0,y1,y2,yn,Ne.symm y0,Ne.symm y1,Ne.symm y2,him,hc,b1,hp0,htx]
  refine call_ hcn (by simp -dsimp) ?_
  have hR2 := hRs [d.now] (by rw [hp0]; rfl)
  simp -dsimp [List.range_succ,nes8 n1,k0,k1,k2,f0,f1,f2,z1,z2,z3,nes,g1,y0,y1,y2,yn,Ne.symm y0,Ne.symm y1,Ne.symm y2,him,hc,b1,hp0,htx]
  refine callL_ (vs := [(⟨⟨d.now.people,d.now.story ++ [c]⟩,[d.now]⟩ : Desk).v]) (hR2 _ _) (by simp -dsimp [nes8 n1,k0,k1,k2,f0,f1,f2,z1,z2,z3,nes,g1,y0,y1,y2,yn,Ne.symm y0,Ne.symm y1,Ne.symm y2,him,hc,b1,hp0]) ?_
  rintro t m2 n2 ⟨hn2,hout2,sn2,P2,rfl,hown2⟩
  have q2 := hout2 2 (by omega)
  simp -dsimp [nes8 n1,k0,k1,k2,f0,f1,f2,z1,z2,z3,nes,g1,y0,y1,y2,yn,Ne.symm y0,Ne.symm y1,Ne.symm y2,him] at q2
  have hfc := hown2.facts
  have hc2 := hfc.1
  have hcs2 := hfc.2.1
  have hcP2 := hfc.2.2.1
  have hcsP2 := hfc.2.2.2
  clear hfc
  simp -dsimp [dT,q2,hc2,hcs2,hcP2,hcsP2,htx,hp0,keep8]
  exact ⟨sn2,P2,rfl,hown2.keep (Nat.zero_le _) (by omega) fun j j1 j2 => by simp [show ¬ j = 2 by omega]⟩
 ·have g2 := far hr1
  have x0 : ¬ r = 0 := by omega
  have x1 : ¬ r = 1 := by omega
  have x2 : ¬ r = 2 := by omega
  have xi : ¬ r = id := fun h => hne (by rw [h])
  simp -dsimp [nes8 n1,k0,k1,k2,f0,f1,f2,z1,z2,z3,nes,g1,y0,y1,y2,yn,Ne.symm y0,Ne.symm y1,Ne.symm y2,him,g2,x0,x1,x2,xi,Ne.symm x0,Ne.symm x1,Ne.symm x2,Ne.symm xi,hrm,hc,b1]
  refine twp_draw [0,1,2,3,4,5,1006,7,8,9,10,11,12] [1,n1] (List.replicate 13 [0,1]) (List.replicate 13 [0,1]) (by kernel_rfl) (by kernel_rfl) (by kernel_rfl) (by kernel_rfl) ?_
  simp -dsimp [List.range_succ,nes8 n1,k0,k1,k2,f0,f1,f2,z1,z2,z3,nes,g1,y0,y1,y2,yn,Ne.symm y0,Ne.symm y1,Ne.symm y2,him,g2,x0,x1,x2,xi,Ne.symm x0,Ne.symm x1,Ne.symm x2,Ne.symm xi,hrm,hc,b1]
  refine pure_ hrc (by simp -dsimp [nes8 n1,k0,k1,k2,f0,f1,f2,z1,z2,z3,nes,g1,y0,y1,y2,yn,Ne.symm y0,Ne.symm y1,Ne.symm y2,him,g2,x0,x1,x2,xi,Ne.symm x0,Ne.symm x1,Ne.symm x2,Ne.symm xi,hrm,hc,b1]) ?_
  simp -dsimp [List.range_succ,nes8 n1,k0,k1,k2,f0,f1,f2,z1,z2,z3,nes,g1,y0,y1,y2,yn,Ne.symm y0,Ne.symm y1,Ne.symm y2,him,g2,x0,x1,x2,xi,Ne.symm x0,Ne.symm x1,Ne.symm x2,Ne.symm xi,hrm,hc,b1,optC]
  refine twp_draw (List.range 11) [n1,n1 + 1 + 1] (List.replicate 8 [0,1] ++ [[],[],[]]) (List.replicate 10 [0,1] ++ [[1]]) (by kernel_rfl) (by kernel_rfl) (by kernel_rfl) (by kernel_rfl) ?_
  simp -dsimp [List.range_succ,nes8 n1,k0,k1,k2,f0,f1,f2,z1,z2,z3,nes,g1,y0,y1,y2,yn,Ne.symm y0,Ne.symm y1,Ne.symm y2,him,g2,x0,x1,x2,xi,Ne.symm x0,Ne.symm x1,Ne.symm x2,Ne.symm xi,hrm,hc,b1,b1]
  refine twp_draw [0,1,2,3,4,5,6,7,8,10,11,9,12,13,14] [0,n1] (List.replicate 15 [0,1]) (List.replicate 15 [0,1]) (by kernel_rfl) (by kernel_rfl) (by kernel_rfl) (by kernel_rfl) ?_
  simp -dsimp [nes8 n1,k0,k1,k2,f0,f1,f2,z1,z2,z3,nes,g1,y0,y1,y2,yn,Ne.symm y0,Ne.symm y1,Ne.symm y2,him,g2,x0,x1,x2,xi,Ne.symm x0,Ne.symm x1,Ne.symm x2,Ne.symm xi,hrm,hc,b1]
  refine call_ hpo (by simp -dsimp [nes8 n1,k0,k1,k2,f0,f1,f2,z1,z2,z3,nes,g1,y0,y1,y2,yn,Ne.symm y0,Ne.symm y1,Ne.symm y2,him,g2,x0,x1,x2,xi,Ne.symm x0,Ne.symm x1,Ne.symm x2,Ne.symm xi,hrm,hc,b1]) ?_
  rcases hkX with rfl | rfl
  ·simp -dsimp [nes8 n1,k0,k1,k2,f0,f1,f2,z1,z2,z3,nes,g1,y0,y1,y2,yn,Ne.symm y0,Ne.symm y1,Ne.symm y2,him,g2,x0,x1,x2,xi,Ne.symm x0,Ne.symm x1,Ne.symm x2,Ne.symm xi,hrm,hc,b1]
   refine callL_ (vs := [d.v]) (hcopyK _ _) (by simp -dsimp [hc,b1]) ?_
   rintro t m2 n2 ⟨hn2,hout2,sn2,P2,rfl,hown2⟩
   have q2 := hout2 2 (by omega)
   simp -dsimp [nes8 n1,k0,k1,k2,f0,f1,f2,z1,z2,z3,nes,g1,y0,y1,y2,yn,Ne.symm y0,Ne.symm y1,Ne.symm y2,him,g2,x0,x1,x2,xi,Ne.symm x0,Ne.symm x1,Ne.symm x2,Ne.symm xi,hrm] at q2
   have hfc := hown2.facts
   have hc2 := hfc.1
   have hcs2 := hfc.2.1
   have hcP2 := hfc.2.2.1
   have hcsP2 := hfc.2.2.2
   clear hfc
   simp -dsimp [dT,q2,hc2,hcs2,hcP2,hcsP2]
   exact ⟨sn2,P2,rfl,hown2.keep (Nat.zero_le _) (by omega) fun j j1 j2 => by simp [show ¬ j = 2 by omega]⟩
  simp -dsimp [nes8 n1,k0,k1,k2,f0,f1,f2,z1,z2,z3,nes,g1,y0,y1,y2,yn,Ne.symm y0,Ne.symm y1,Ne.symm y2,him,g2,x0,x1,x2,xi,Ne.symm x0,Ne.symm x1,Ne.symm x2,Ne.symm xi,hrm,hc,b1]
  refine call_ hpt (by simp -dsimp [nes8 n1,k0,k1,k2,f0,f1,f2,z1,z2,z3,nes,g1,y0,y1,y2,yn,Ne.symm y0,Ne.symm y1,Ne.symm y2,him,g2,x0,x1,x2,xi,Ne.symm x0,Ne.symm x1,Ne.symm x2,Ne.symm xi,hrm,hc,b1]) ?_
  simp -dsimp [nes8 n1,k0,k1,k2,f0,f1,f2,z1,z2,z3,nes,g1,y0,y1,y2,yn,Ne.symm y0,Ne.symm y1,Ne.symm y2,him,g2,x0,x1,x2,xi,Ne.symm x0,Ne.symm x1,Ne.symm x2,Ne.symm xi,hrm,hc,b1]
  refine call_ hpn (by simp -dsimp) ?_
  rcases htx with rfl | htx
  ·simp -dsimp [nes8 n1,k0,k1,k2,f0,f1,f2,z1,z2,z3,nes,g1,y0,y1,y2,yn,Ne.symm y0,Ne.symm y1,Ne.symm y2,him,g2,x0,x1,x2,xi,Ne.symm x0,Ne.symm x1,Ne.symm x2,Ne.symm xi,hrm,hc,b1]
   refine callL_ (vs := [d.v]) (hcopyK _ _) (by simp -dsimp [hc,b1]) ?_
   rintro t m2 n2 ⟨hn2,hout2,sn2,P2,rfl,hown2⟩
   have q2 := hout2 2 (by omega)
   simp -dsimp [nes8 n1,k0,k1,k2,f0,f1,f2,z1,z2,z3,nes,g1,y0,y1,y2,yn,Ne.symm y0,Ne.symm y1,Ne.symm y2,him,g2,x0,x1,x2,xi,Ne.symm x0,Ne.symm x1,Ne.symm x2,Ne.symm xi,hrm] at q2
   have hfc := hown2.facts
   have hc2 := hfc.1
   have hcs2 := hfc.2.1
   have hcP2 := hfc.2.2.1
   have hcsP2 := hfc.2.2.2
   clear hfc
   simp -dsimp [dT,q2,hc2,hcs2,hcP2,hcsP2]
   exact ⟨sn2,P2,rfl,hown2.keep (Nat.zero_le _) (by omega) fun j j1 j2 => by simp [show ¬ j = 2 by omega]⟩
  have hRs := hR rfl
  simp -dsimp [nes8 n1,k0,k1,k2,f0,f1,f2,z1,z2,z3,nes,g1,y0,y1,y2,yn,Ne.symm y0,Ne.symm y1,Ne.symm y2,him,g2,x0,x1,x2,xi,Ne.symm x0,Ne.symm x1,Ne.symm x2,Ne.symm xi,hrm,hc,b1,htx]
  refine twp_draw (List.range 9) [0,n1] (List.replicate 9 [0,1]) (List.replicate 8 [0,1] ++ [[0]]) (by kernel_rfl) (by kernel_rfl) (by kernel_rfl) (by kernel_rfl) ?_
  simp -dsimp [List.range_succ,nes8 n1,k0,k1,k2,f0,f1,f2,z1,z2,z3,nes,g1,y0,y1,y2,yn,Ne.symm y0,Ne.symm y1,Ne.symm y2,him,g2,x0,x1,x2,xi,Ne.symm x0,Ne.symm x1,Ne.symm x2,Ne.symm xi,hrm,hc,b1,htx]
  refine call_ hcn (by simp -dsimp) ?_
  by_cases h8 : d.past.length = 8
  ·have e8 : (d.past.length : Int) = 8 := by omega
   have ek : keep8 (d.past ++ [d.now]) = (d.past ++ [d.now]).tail := by unfold keep8; rw [if_pos (by simp [h8])]; simp
   have hR2 := hRs (d.past ++ [d.now]).tail ek
   have tk : List.take 9 (List.map Place.v d.past ++ [d.now.v]) = List.map Place.v d.past ++ [d.now.v] := List.take_of_length_le (by simp [h8])
   have zk : allZ 2 (List.map Place.v d.past ++ [d.now.v]).tail := fun x hx => zplaces x (List.mem_of_mem_tail hx)
   simp only [Place.v,storyV] at tk zk
   simp -dsimp [List.range_succ,nes8 n1,k0,k1,k2,f0,f1,f2,z1,z2,z3,nes,g1,y0,y1,y2,yn,Ne.symm y0,Ne.symm y1,Ne.symm y2,him,g2,x0,x1,x2,xi,Ne.symm x0,Ne.symm x1,Ne.symm x2,Ne.symm xi,hrm,hc,b1,htx,fullb,h8,e8,tk,zk]
   refine callL_ (vs := [(⟨⟨d.now.people,d.now.story ++ [c]⟩,(d.past ++ [d.now]).tail⟩ : Desk).v]) (hR2 _ _) (by simp -dsimp [nes8 n1,k0,k1,k2,f0,f1,f2,z1,z2,z3,nes,g1,y0,y1,y2,yn,Ne.symm y0,Ne.symm y1,Ne.symm y2,him,g2,x0,x1,x2,xi,Ne.symm x0,Ne.symm x1,Ne.symm x2,Ne.symm xi,hrm,hc,b1,List.map_tail,List.map_append]) ?_
   rintro t m2 n2 ⟨hn2,hout2,sn2,P2,rfl,hown2⟩
   have q2 := hout2 2 (by omega)
   simp -dsimp [nes8 n1,k0,k1,k2,f0,f1,f2,z1,z2,z3,nes,g1,y0,y1,y2,yn,Ne.symm y0,Ne.symm y1,Ne.symm y2,him,g2,x0,x1,x2,xi,Ne.symm x0,Ne.symm x1,Ne.symm x2,Ne.symm xi,hrm] at q2
   have hfc := hown2.facts
   have hc2 := hfc.1
   have hcs2 := hfc.2.1
   have hcP2 := hfc.2.2.1
   have hcsP2 := hfc.2.2.2
   clear hfc
   simp -dsimp [dT,q2,hc2,hcs2,hcP2,hcsP2,htx,ek]
   exact ⟨sn2,P2,rfl,hown2.keep (Nat.zero_le _) (by omega) fun j j1 j2 => by simp [show ¬ j = 2 by omega]⟩
  ·have e8 : d.past.length < 8 := by omega
   have e8' : ¬ (8 : Int) < (d.past.length : Int) + 1 := by omega
   have e8'' : ¬ 8 < d.past.length + 1 := by omega
   have ek : keep8 (d.past ++ [d.now]) = d.past ++ [d.now] := by unfold keep8; rw [if_neg (by simp; omega)]
   have hR2 := hRs (d.past ++ [d.now]) ek
   simp -dsimp [List.range_succ,nes8 n1,k0,k1,k2,f0,f1,f2,z1,z2,z3,nes,g1,y0,y1,y2,yn,Ne.symm y0,Ne.symm y1,Ne.symm y2,him,g2,x0,x1,x2,xi,Ne.symm x0,Ne.symm x1,Ne.symm x2,Ne.symm xi,hrm,hc,b1,htx,fullb,h8,e8,e8',e8'']
   refine callL_ (vs := [(⟨⟨d.now.people,d.now.story ++ [c]⟩,d.past ++ [d.now]⟩ : Desk).v]) (hR2 _ _) (by simp -dsimp [nes8 n1,k0,k1,k2,f0,f1,f2,z1,z2,z3,nes,g1,y0,y1,y2,yn,Ne.symm y0,Ne.symm y1,Ne.symm y2,him,g2,x0,x1,x2,xi,Ne.symm x0,Ne.symm x1,Ne.symm x2,Ne.symm xi,hrm,hc,b1]) ?_
   rintro t m2 n2 ⟨hn2,hout2,sn2,P2,rfl,hown2⟩
   have q2 := hout2 2 (by omega)
   simp -dsimp [nes8 n1,k0,k1,k2,f0,f1,f2,z1,z2,z3,nes,g1,y0,y1,y2,yn,Ne.symm y0,Ne.symm y1,Ne.symm y2,him,g2,x0,x1,x2,xi,Ne.symm x0,Ne.symm x1,Ne.symm x2,Ne.symm xi,hrm] at q2
   have hfc := hown2.facts
   have hc2 := hfc.1
   have hcs2 := hfc.2.1
   have hcP2 := hfc.2.2.1
   have hcsP2 := hfc.2.2.2
   clear hfc
   simp -dsimp [dT,q2,hc2,hcs2,hcP2,hcsP2,htx,ek]
   exact ⟨sn2,P2,rfl,hown2.keep (Nat.zero_le _) (by omega) fun j j1 j2 => by simp [show ¬ j = 2 by omega]⟩
end TL

namespace TL
open Go Go.Proofs
attribute [local simp] marksV storyV codeV Claim.v Place.v Deed.v Desk.v
theorem do_bad1_k (d : Desk) (kind num : Int) (words : List UInt8) (hd : d.small) (hk : deskOk d = true) (h0 : ¬ kind = 0) (hw : ¬ words = []) : FnS Tryz.prog 30 (fun _ => none) 0 [.v d.v,.v (⟨kind,num,words⟩ : Deed).v] (PostK (d,false)) := by
 have hok := deskOk_fn d (by have := hd.2.1; omega) (by have := hd.1.1; omega) (fun p hp => by have := (hd.2.2 p hp).1; omega)
 rw [hk] at hok
 have hcopyK := fun m n => copyDesk_k d hd hk m n
 refine FnS_of (rs := [.cell 4 34,.tmp 5]) false Tryz.func30 rfl rfl rfl rfl (Nat.le_of_ble_eq_true rfl) ?_
 simp -dsimp
 refine call_ hok (by simp -dsimp) ?_
 simp -dsimp
 refine callL_ (vs := [d.v]) (hcopyK _ _) (by simp -dsimp) ?_
 rintro t m1 n1 ⟨hn1,hout,sn,P,rfl,hown⟩
 have k0 := hout 0 (by omega)
 have k1 := hout 1 (by omega)
 have k2 := hout 2 (by omega)
 simp -dsimp at k0 k1 k2
 have f0 := far (show 0 < n1 by omega)
 have f1 := far (show 1 < n1 by omega)
 have f2 := far (show 2 < n1 by omega)
 have z1 : ¬ n1 = 0 := by omega
 have z2 : ¬ n1 = 1 := by omega
 have z3 : ¬ n1 = 2 := by omega
 have hfc := hown.facts
 have hc := hfc.1
 have hcs := hfc.2.1
 have hcP := hfc.2.2.1
 have hcsP := hfc.2.2.2
 clear hfc
 simp -dsimp [dT,hc,hcs,hcP,hcsP,nes8 n1,k0,k1,k2,f0,f1,f2,z1,z2,z3,nes,h0,hw]
 exact ⟨sn,P,rfl,hown.keep (Nat.zero_le _) (by omega) fun j j1 j2 => by simp [show ¬ j = 0 by omega,show ¬ j = 1 by omega,show ¬ j = 2 by omega,show ¬ j = n1 by omega,far j2]⟩
theorem do_bad2_k (d : Desk) (num : Int) (words : List UInt8) (hd : d.small) (hk : deskOk d = true) (h0 : ¬ num = 0) : FnS Tryz.prog 30 (fun _ => none) 0 [.v d.v,.v (⟨0,num,words⟩ : Deed).v] (PostK (d,false)) := by
 have hok := deskOk_fn d (by have := hd.2.1; omega) (by have := hd.1.1; omega) (fun p hp => by have := (hd.2.2 p hp).1; omega)
 rw [hk] at hok
 have hcopyK := fun m n => copyDesk_k d hd hk m n
 refine FnS_of (rs := [.cell 4 34,.tmp 5]) false Tryz.func30 rfl rfl rfl rfl (Nat.le_of_ble_eq_true rfl) ?_
 simp -dsimp
 refine call_ hok (by simp -dsimp) ?_
 simp -dsimp
 refine callL_ (vs := [d.v]) (hcopyK _ _) (by simp -dsimp) ?_
 rintro t m1 n1 ⟨hn1,hout,sn,P,rfl,hown⟩
 have k0 := hout 0 (by omega)
 have k1 := hout 1 (by omega)
 have k2 := hout 2 (by omega)
 simp -dsimp at k0 k1 k2
 have f0 := far (show 0 < n1 by omega)
 have f1 := far (show 1 < n1 by omega)
 have f2 := far (show 2 < n1 by omega)
 have z1 : ¬ n1 = 0 := by omega
 have z2 : ¬ n1 = 1 := by omega
 have z3 : ¬ n1 = 2 := by omega
 have hfc := hown.facts
 have hc := hfc.1
 have hcs := hfc.2.1
 have hcP := hfc.2.2.1
 have hcsP := hfc.2.2.2
 clear hfc
 simp -dsimp [dT,hc,hcs,hcP,hcsP,nes8 n1,k0,k1,k2,f0,f1,f2,z1,z2,z3,nes,h0]
 exact ⟨sn,P,rfl,hown.keep (Nat.zero_le _) (by omega) fun j j1 j2 => by simp [show ¬ j = 0 by omega,show ¬ j = 1 by omega,show ¬ j = 2 by omega,show ¬ j = n1 by omega,far j2]⟩
theorem do_bad3_k (d : Desk) (kind num : Int) (hd : d.small) (hk : deskOk d = true) (h0 : ¬ kind = 0) (h1 : ¬ kind = 1) (h2 : ¬ kind = 2) (h3 : ¬ num = 0) : FnS Tryz.prog 30 (fun _ => none) 0 [.v d.v,.v (⟨kind,num,[]⟩ : Deed).v] (PostK (d,false)) := by
 have hok := deskOk_fn d (by have := hd.2.1; omega) (by have := hd.1.1; omega) (fun p hp => by have := (hd.2.2 p hp).1; omega)
 rw [hk] at hok
 have hcopyK := fun m n => copyDesk_k d hd hk m n
 refine FnS_of (rs := [.cell 4 34,.tmp 5]) false Tryz.func30 rfl rfl rfl rfl (Nat.le_of_ble_eq_true rfl) ?_
 simp -dsimp
 refine call_ hok (by simp -dsimp) ?_
 simp -dsimp
 refine callL_ (vs := [d.v]) (hcopyK _ _) (by simp -dsimp) ?_
 rintro t m1 n1 ⟨hn1,hout,sn,P,rfl,hown⟩
 have k0 := hout 0 (by omega)
 have k1 := hout 1 (by omega)
 have k2 := hout 2 (by omega)
 simp -dsimp at k0 k1 k2
 have f0 := far (show 0 < n1 by omega)
 have f1 := far (show 1 < n1 by omega)
 have f2 := far (show 2 < n1 by omega)
 have z1 : ¬ n1 = 0 := by omega
 have z2 : ¬ n1 = 1 := by omega
 have z3 : ¬ n1 = 2 := by omega
 have hfc := hown.facts
 have hc := hfc.1
 have hcs := hfc.2.1
 have hcP := hfc.2.2.1
 have hcsP := hfc.2.2.2
 clear hfc
 simp -dsimp [dT,hc,hcs,hcP,hcsP,nes8 n1,k0,k1,k2,f0,f1,f2,z1,z2,z3,nes,h0,h1,h2,h3]
 exact ⟨sn,P,rfl,hown.keep (Nat.zero_le _) (by omega) fun j j1 j2 => by simp [show ¬ j = 0 by omega,show ¬ j = 1 by omega,show ¬ j = 2 by omega,show ¬ j = n1 by omega,far j2]⟩
theorem do_other_k (d : Desk) (kind : Int) (hd : d.small) (hk : deskOk d = true) (h0 : ¬ kind = 0) (h1 : ¬ kind = 1) (h2 : ¬ kind = 2) (h3 : ¬ kind = 3) (h4 : ¬ kind = 4) : FnS Tryz.prog 30 (fun _ => none) 0 [.v d.v,.v (⟨kind,0,[]⟩ : Deed).v] (PostK (d,false)) := by
 have hok := deskOk_fn d (by have := hd.2.1; omega) (by have := hd.1.1; omega) (fun p hp => by have := (hd.2.2 p hp).1; omega)
 rw [hk] at hok
 have hcopyK := fun m n => copyDesk_k d hd hk m n
 refine FnS_of (rs := [.cell 4 34,.tmp 5]) false Tryz.func30 rfl rfl rfl rfl (Nat.le_of_ble_eq_true rfl) ?_
 simp -dsimp
 refine call_ hok (by simp -dsimp) ?_
 simp -dsimp
 refine callL_ (vs := [d.v]) (hcopyK _ _) (by simp -dsimp) ?_
 rintro t m1 n1 ⟨hn1,hout,sn,P,rfl,hown⟩
 have k0 := hout 0 (by omega)
 have k1 := hout 1 (by omega)
 have k2 := hout 2 (by omega)
 simp -dsimp at k0 k1 k2
 have f0 := far (show 0 < n1 by omega)
 have f1 := far (show 1 < n1 by omega)
 have f2 := far (show 2 < n1 by omega)
 have z1 : ¬ n1 = 0 := by omega
 have z2 : ¬ n1 = 1 := by omega
 have z3 : ¬ n1 = 2 := by omega
 have hfc := hown.facts
 have hc := hfc.1
 have hcs := hfc.2.1
 have hcP := hfc.2.2.1
 have hcsP := hfc.2.2.2
 clear hfc
 simp -dsimp [dT,hc,hcs,hcP,hcsP,nes8 n1,k0,k1,k2,f0,f1,f2,z1,z2,z3,nes,h0,h1,h2,h3,h4]
 exact ⟨sn,P,rfl,hown.keep (Nat.zero_le _) (by omega) fun j j1 j2 => by simp [show ¬ j = 0 by omega,show ¬ j = 1 by omega,show ¬ j = 2 by omega,show ¬ j = n1 by omega,far j2]⟩
theorem do_nosay_k (d : Desk) (words : List UInt8) (hd : d.small) (hk : deskOk d = true) (hr : readC d.now.people words = none) (hwl : words.length ≤ 1000000000) : FnS Tryz.prog 30 (fun _ => none) 0 [.v d.v,.v (⟨0,0,words⟩ : Deed).v] (PostK (d,false)) := by
 have hok := deskOk_fn d (by have := hd.2.1; omega) (by have := hd.1.1; omega) (fun p hp => by have := (hd.2.2 p hp).1; omega)
 rw [hk] at hok
 have hcopyK := fun m n => copyDesk_k d hd hk m n
 have hrc := readClaim_fn d.now.people words (by omega)
 rw [hr] at hrc
 refine FnS_of (rs := [.cell 4 34,.tmp 5]) false Tryz.func30 rfl rfl rfl rfl (Nat.le_of_ble_eq_true rfl) ?_
 simp -dsimp
 refine call_ hok (by simp -dsimp) ?_
 simp -dsimp
 refine callL_ (vs := [d.v]) (hcopyK _ _) (by simp -dsimp) ?_
 rintro t m1 n1 ⟨hn1,hout,sn,P,rfl,hown⟩
 have k0 := hout 0 (by omega)
 have k1 := hout 1 (by omega)
 have k2 := hout 2 (by omega)
 simp -dsimp at k0 k1 k2
 have f0 := far (show 0 < n1 by omega)
 have f1 := far (show 1 < n1 by omega)
 have f2 := far (show 2 < n1 by omega)
 have z1 : ¬ n1 = 0 := by omega
 have z2 : ¬ n1 = 1 := by omega
 have z3 : ¬ n1 = 2 := by omega
 have hfc := hown.facts
 have hc := hfc.1
 have hcs := hfc.2.1
 have hcP := hfc.2.2.1
 have hcsP := hfc.2.2.2
 clear hfc
 simp -dsimp [dT,hc,hcs,hcP,hcsP,nes8 n1,k0,k1,k2,f0,f1,f2,z1,z2,z3,nes]
 refine twp_draw [0,1,2,3,4,5,1006,7,8,9,10,11,12] [1,n1] (List.replicate 13 [0,1]) (List.replicate 13 [0,1]) (by kernel_rfl) (by kernel_rfl) (by kernel_rfl) (by kernel_rfl) ?_
 simp -dsimp [List.range_succ,dT,hc,hcs,hcP,hcsP,nes8 n1,k0,k1,k2,f0,f1,f2,z1,z2,z3,nes]
 refine pure_ hrc (by simp -dsimp [dT,hc,hcs,hcP,hcsP,nes8 n1,k0,k1,k2,f0,f1,f2,z1,z2,z3,nes]) ?_
 simp -dsimp [List.range_succ,dT,hc,hcs,hcP,hcsP,nes8 n1,k0,k1,k2,f0,f1,f2,z1,z2,z3,nes,optC]
 exact ⟨sn,P,rfl,hown.keep (Nat.zero_le _) (by omega) fun j j1 j2 => by simp [show ¬ j = 0 by omega,show ¬ j = 1 by omega,show ¬ j = 2 by omega,show ¬ j = n1 by omega,far j2]⟩
theorem do_nodrop1_k (d : Desk) (num : Int) (hd : d.small) (hk : deskOk d = true) (h0 : num < 0) : FnS Tryz.prog 30 (fun _ => none) 0 [.v d.v,.v (⟨1,num,[]⟩ : Deed).v] (PostK (d,false)) := by
 have hok := deskOk_fn d (by have := hd.2.1; omega) (by have := hd.1.1; omega) (fun p hp => by have := (hd.2.2 p hp).1; omega)
 rw [hk] at hok
 have hcopyK := fun m n => copyDesk_k d hd hk m n
 refine FnS_of (rs := [.cell 4 34,.tmp 5]) false Tryz.func30 rfl rfl rfl rfl (Nat.le_of_ble_eq_true rfl) ?_
 simp -dsimp
 refine call_ hok (by simp -dsimp) ?_
 simp -dsimp
 refine callL_ (vs := [d.v]) (hcopyK _ _) (by simp -dsimp) ?_
 rintro t m1 n1 ⟨hn1,hout,sn,P,rfl,hown⟩
 have k0 := hout 0 (by omega)
 have k1 := hout 1 (by omega)
 have k2 := hout 2 (by omega)
 simp -dsimp at k0 k1 k2
 have f0 := far (show 0 < n1 by omega)
 have f1 := far (show 1 < n1 by omega)
 have f2 := far (show 2 < n1 by omega)
 have z1 : ¬ n1 = 0 := by omega
 have z2 : ¬ n1 = 1 := by omega
 have z3 : ¬ n1 = 2 := by omega
 have hfc := hown.facts
 have hc := hfc.1
 have hcs := hfc.2.1
 have hcP := hfc.2.2.1
 have hcsP := hfc.2.2.2
 clear hfc
 have hsn := hown.form
 rcases hsn with ⟨rfl,hs0⟩ | ⟨i,rfl⟩
 ·simp -dsimp [dT,hc,hcs,hcP,hcsP,nes8 n1,k0,k1,k2,f0,f1,f2,z1,z2,z3,nes,h0,hs0]
  refine twp_draw (List.range 13) [1,n1] (List.replicate 13 [0,1]) (List.replicate 13 [0,1]) (by kernel_rfl) (by kernel_rfl) (by kernel_rfl) (by kernel_rfl) ?_
  simp -dsimp [List.range_succ,dT,hc,hcs,hcP,hcsP,nes8 n1,k0,k1,k2,f0,f1,f2,z1,z2,z3,nes,h0,hs0]
  exact ⟨.nil,P,rfl,hown.keep (Nat.zero_le _) (by omega) fun j j1 j2 => by simp [show ¬ j = 0 by omega,show ¬ j = 1 by omega,show ¬ j = 2 by omega,show ¬ j = n1 by omega,far j2]⟩
 ·simp -dsimp [dT,hc,hcs,hcP,hcsP,nes8 n1,k0,k1,k2,f0,f1,f2,z1,z2,z3,nes,h0]
  refine twp_draw (List.range 13) [1,n1] (List.replicate 13 [0,1]) (List.replicate 13 [0,1]) (by kernel_rfl) (by kernel_rfl) (by kernel_rfl) (by kernel_rfl) ?_
  simp -dsimp [List.range_succ,dT,hc,hcs,hcP,hcsP,nes8 n1,k0,k1,k2,f0,f1,f2,z1,z2,z3,nes,h0]
  exact ⟨.sv i 0 d.now.story.length,P,rfl,hown.keep (Nat.zero_le _) (by omega) fun j j1 j2 => by simp [show ¬ j = 0 by omega,show ¬ j = 1 by omega,show ¬ j = 2 by omega,show ¬ j = n1 by omega,far j2]⟩
theorem do_nodrop2_k (d : Desk) (num : Int) (hd : d.small) (hk : deskOk d = true) (h0 : ¬ num < 0) (h1 : (d.now.story.length : Int) ≤ num) : FnS Tryz.prog 30 (fun _ => none) 0 [.v d.v,.v (⟨1,num,[]⟩ : Deed).v] (PostK (d,false)) := by
 have hok := deskOk_fn d (by have := hd.2.1; omega) (by have := hd.1.1; omega) (fun p hp => by have := (hd.2.2 p hp).1; omega)
 rw [hk] at hok
 have hcopyK := fun m n => copyDesk_k d hd hk m n
 have h2 : 0 ≤ num := by omega
 refine FnS_of (rs := [.cell 4 34,.tmp 5]) false Tryz.func30 rfl rfl rfl rfl (Nat.le_of_ble_eq_true rfl) ?_
 simp -dsimp
 refine call_ hok (by simp -dsimp) ?_
 simp -dsimp
 refine callL_ (vs := [d.v]) (hcopyK _ _) (by simp -dsimp) ?_
 rintro t m1 n1 ⟨hn1,hout,sn,P,rfl,hown⟩
 have k0 := hout 0 (by omega)
 have k1 := hout 1 (by omega)
 have k2 := hout 2 (by omega)
 simp -dsimp at k0 k1 k2
 have f0 := far (show 0 < n1 by omega)
 have f1 := far (show 1 < n1 by omega)
 have f2 := far (show 2 < n1 by omega)
 have z1 : ¬ n1 = 0 := by omega
 have z2 : ¬ n1 = 1 := by omega
 have z3 : ¬ n1 = 2 := by omega
 have hfc := hown.facts
 have hc := hfc.1
 have hcs := hfc.2.1
 have hcP := hfc.2.2.1
 have hcsP := hfc.2.2.2
 clear hfc
 have hsn := hown.form
 rcases hsn with ⟨rfl,hs0⟩ | ⟨i,rfl⟩
 ·simp -dsimp [dT,hc,hcs,hcP,hcsP,nes8 n1,k0,k1,k2,f0,f1,f2,z1,z2,z3,nes,h0,h1,h2,hs0]
  refine twp_draw (List.range 13) [1,n1] (List.replicate 13 [0,1]) (List.replicate 13 [0,1]) (by kernel_rfl) (by kernel_rfl) (by kernel_rfl) (by kernel_rfl) ?_
  simp -dsimp [List.range_succ,dT,hc,hcs,hcP,hcsP,nes8 n1,k0,k1,k2,f0,f1,f2,z1,z2,z3,nes,h0,h1,h2,hs0]
  exact ⟨.nil,P,rfl,hown.keep (Nat.zero_le _) (by omega) fun j j1 j2 => by simp [show ¬ j = 0 by omega,show ¬ j = 1 by omega,show ¬ j = 2 by omega,show ¬ j = n1 by omega,far j2]⟩
 ·simp -dsimp [dT,hc,hcs,hcP,hcsP,nes8 n1,k0,k1,k2,f0,f1,f2,z1,z2,z3,nes,h0,h1,h2]
  refine twp_draw (List.range 13) [1,n1] (List.replicate 13 [0,1]) (List.replicate 13 [0,1]) (by kernel_rfl) (by kernel_rfl) (by kernel_rfl) (by kernel_rfl) ?_
  simp -dsimp [List.range_succ,dT,hc,hcs,hcP,hcsP,nes8 n1,k0,k1,k2,f0,f1,f2,z1,z2,z3,nes,h0,h1,h2]
  exact ⟨.sv i 0 d.now.story.length,P,rfl,hown.keep (Nat.zero_le _) (by omega) fun j j1 j2 => by simp [show ¬ j = 0 by omega,show ¬ j = 1 by omega,show ¬ j = 2 by omega,show ¬ j = n1 by omega,far j2]⟩
theorem do_noback_k (d : Desk)  (hd : d.small) (hk : deskOk d = true) (he : d.past = []) : FnS Tryz.prog 30 (fun _ => none) 0 [.v d.v,.v (⟨4,0,[]⟩ : Deed).v] (PostK (d,false)) := by
 have hok := deskOk_fn d (by have := hd.2.1; omega) (by have := hd.1.1; omega) (fun p hp => by have := (hd.2.2 p hp).1; omega)
 rw [hk] at hok
 have hcopyK := fun m n => copyDesk_k d hd hk m n
 refine FnS_of (rs := [.cell 4 34,.tmp 5]) false Tryz.func30 rfl rfl rfl rfl (Nat.le_of_ble_eq_true rfl) ?_
 simp -dsimp
 refine call_ hok (by simp -dsimp) ?_
 simp -dsimp
 refine callL_ (vs := [d.v]) (hcopyK _ _) (by simp -dsimp) ?_
 rintro t m1 n1 ⟨hn1,hout,sn,P,rfl,hown⟩
 have k0 := hout 0 (by omega)
 have k1 := hout 1 (by omega)
 have k2 := hout 2 (by omega)
 simp -dsimp at k0 k1 k2
 have f0 := far (show 0 < n1 by omega)
 have f1 := far (show 1 < n1 by omega)
 have f2 := far (show 2 < n1 by omega)
 have z1 : ¬ n1 = 0 := by omega
 have z2 : ¬ n1 = 1 := by omega
 have z3 : ¬ n1 = 2 := by omega
 have hfc := hown.facts
 have hc := hfc.1
 have hcs := hfc.2.1
 have hcP := hfc.2.2.1
 have hcsP := hfc.2.2.2
 clear hfc
 have w0 : IntKind.wrap .i64 (-1) = -1 := rfl
 have hP := hown.none_past he
 rcases hP with rfl | ⟨i,rfl⟩
 ·simp -dsimp [dT,hc,hcs,hcP,hcsP,nes8 n1,k0,k1,k2,f0,f1,f2,z1,z2,z3,nes,w0]
  exact ⟨sn,.nil,rfl,hown.keep (Nat.zero_le _) (by omega) fun j j1 j2 => by simp [show ¬ j = 0 by omega,show ¬ j = 1 by omega,show ¬ j = 2 by omega,show ¬ j = n1 by omega,far j2]⟩
 ·simp -dsimp [dT,hc,hcs,hcP,hcsP,nes8 n1,k0,k1,k2,f0,f1,f2,z1,z2,z3,nes,w0]
  exact ⟨sn,.sv i 0 0,rfl,hown.keep (Nat.zero_le _) (by omega) fun j j1 j2 => by simp [show ¬ j = 0 by omega,show ¬ j = 1 by omega,show ¬ j = 2 by omega,show ¬ j = n1 by omega,far j2]⟩
theorem do_back_k (d : Desk)  (hd : d.small) (hk : deskOk d = true) (hne0 : d.past ≠ []) : FnS Tryz.prog 30 (fun _ => none) 0 [.v d.v,.v (⟨4,0,[]⟩ : Deed).v] (PostK (⟨d.past.getLast?.getD d.now,d.past.dropLast⟩,true)) := by
 have hok := deskOk_fn d (by have := hd.2.1; omega) (by have := hd.1.1; omega) (fun p hp => by have := (hd.2.2 p hp).1; omega)
 rw [hk] at hok
 have hcopyK := fun m n => copyDesk_k d hd hk m n
 have hl8 := hd.2.1
 obtain ⟨q,dd,hpq,hgl,hdl⟩ : ∃ q dd,d.past = dd ++ [q] ∧ d.past.getLast?.getD d.now = q ∧ d.past.dropLast = dd :=
  ⟨d.past.getLast hne0,d.past.dropLast,(List.dropLast_concat_getLast hne0).symm,by rw [List.getLast?_eq_some_getLast hne0]; rfl,rfl⟩
 rw [hgl,hdl]
 clear hgl hdl
 have hlen : d.past.length = dd.length + 1 := by rw [hpq]; simp
 refine FnS_of (rs := [.cell 4 34,.tmp 5]) false Tryz.func30 rfl rfl rfl rfl (Nat.le_of_ble_eq_true rfl) ?_
 simp -dsimp
 refine call_ hok (by simp -dsimp) ?_
 simp -dsimp
 refine callL_ (vs := [d.v]) (hcopyK _ _) (by simp -dsimp) ?_
 rintro t m1 n1 ⟨hn1,hout,sn,P,rfl,hown⟩
 have k0 := hout 0 (by omega)
 have k1 := hout 1 (by omega)
 have k2 := hout 2 (by omega)
 simp -dsimp at k0 k1 k2
 have f0 := far (show 0 < n1 by omega)
 have f1 := far (show 1 < n1 by omega)
 have f2 := far (show 2 < n1 by omega)
 have z1 : ¬ n1 = 0 := by omega
 have z2 : ¬ n1 = 1 := by omega
 have z3 : ¬ n1 = 2 := by omega
 have hfc := hown.facts
 have hc := hfc.1
 have hcs := hfc.2.1
 have hcP := hfc.2.2.1
 have hcsP := hfc.2.2.2
 clear hfc
 have hla := hown.last hpq
 obtain ⟨r,cc,st,ex,rfl,i0,i1,him,hll,hdr,hcst,hcsst,hown2⟩ := hla
 have w1 : IntKind.wrap .i64 ((dd.length : Int) + 1 - 1) = (dd.length : Int) := by rw [w64 (by omega) (by omega)]; omega
 have p3 : ¬ (dd.length : Int) < 0 := by omega
 have w2 : IntKind.wrap .i64 (dd.length : Int) = (dd.length : Int) := w64 (by omega) (by omega)
 have p4 : (dd.length : Int) < dd.length + 1 := by omega
 have p5 : (dd.length : Int) ≤ dd.length + 1 := by omega
 have g0 := far (show r < n1 by omega)
 have y0 : ¬ r = 0 := by omega
 have y1 : ¬ r = 1 := by omega
 have y2 : ¬ r = 2 := by omega
 have yn : ¬ r = n1 := by omega
 have hclip := fun m n => clip_own r dd.length (by omega) m n
 have hoff : dd.length * 2 + 2 ≤ dd.length * 2 + 2 + ex.length := by omega
 generalize ex.length = exl at hll hoff
 simp -dsimp [dT,hc,hcs,hcP,hcsP,nes8 n1,k0,k1,k2,f0,f1,f2,z1,z2,z3,nes,w1,w2,p3,p4,p5]
 refine twp_draw (List.range 13) [n1,r] (List.replicate 13 [0,1]) (List.replicate 13 [0,1]) (by kernel_rfl) (by kernel_rfl) (by kernel_rfl) (by kernel_rfl) ?_
 simp -dsimp [List.range_succ,dT,hc,hcs,hcP,hcsP,nes8 n1,k0,k1,k2,f0,f1,f2,z1,z2,z3,nes,w1,w2,p3,p4,p5,g0,y0,y1,y2,yn,Ne.symm yn,him,hll,hdr,hoff,hcst,hcsst]
 refine callS_ (hclip _ _) ?_
 rintro t m3 n3 ⟨rfl,rfl,hn3⟩
 simp -dsimp [List.range_succ,dT,hc,hcs,hcP,hcsP,nes8 n1,k0,k1,k2,f0,f1,f2,z1,z2,z3,nes,w1,w2,p3,p4,p5,g0,y0,y1,y2,yn,Ne.symm yn,him,hll,hdr,hoff,hcst,hcsst]
 exact ⟨st,.sv r 0 dd.length,rfl,hown2.keep (Nat.zero_le _) (by omega) fun j j1 j2 => by simp [show ¬ j = 0 by omega,show ¬ j = 1 by omega,show ¬ j = 2 by omega,show ¬ j = n1 by omega,far j2]⟩
theorem deskDo_k (d : Desk) (a : Deed) (hd : d.small) (ha : a.words.length ≤ 1000000000) : FnS Tryz.prog 30 (fun _ => none) 0 [.v d.v,.v a.v] (PostK (deskDo d a)) := by
 have hk := ft (deskOk d)
 rcases hk with hk | hk
 ·have hok := deskOk_fn d (by have := hd.2.1; omega) (by have := hd.1.1; omega) (fun p hp => by have := (hd.2.2 p hp).1; omega)
  rw [deskDo_no hk]
  rw [hk] at hok
  obtain ⟨a1,a2,a3⟩ := a
  refine FnS_of (rs := [.cell 4 34,.tmp 5]) false Tryz.func30 rfl rfl rfl rfl (Nat.le_of_ble_eq_true rfl) ?_
  simp -dsimp
  refine call_ hok (by simp -dsimp) ?_
  simp -dsimp [noDeskV]
  exact ⟨.nil,.nil,rfl,OwnD.none (Nat.zero_le _)⟩
 obtain ⟨hpast,hnow,hp8⟩ := deskOk_iff.1 hk
 have ml := (made_fine d.now a hnow).2.1
 obtain ⟨kind,num,words⟩ := a
 simp only at ha
 have zero : ∀ a : Deed,isBack a = false → made d.now a = ⟨0,[]⟩ → FnS Tryz.prog 30 (fun _ => none) 0 [.v d.v,.v a.v] (PostK (d,false)) → FnS Tryz.prog 30 (fun _ => none) 0 [.v d.v,.v a.v] (PostK (deskDo d a)) := fun a h1 h2 h3 => by
  rw [deskDo_zero hk h1 h2]; exact h3
 by_cases k0 : kind = 0
 ·subst k0
  by_cases n0 : num = 0
  ·subst n0
   have hb : isBack ⟨0,0,words⟩ = false := back_no (by simp)
   cases hr : readC d.now.people words with
   | none => exact zero _ hb (by simp [made,hr]) (do_nosay_k d words hd hk hr ha)
   | some c =>
    have hm : made d.now ⟨0,0,words⟩ = ⟨d.now.people,d.now.story ++ [c]⟩ := by simp [made,hr]
    rw [deskDo_made hk hb]
    exact do_say_k d words c hd hk _ ml hr ha hm
  ·exact zero _ (back_no (by simp)) (by simp [made,n0]) (do_bad2_k d num words hd hk n0)
 by_cases hw : words = []
 case neg => exact zero _ (back_no (by simp [hw])) (by simp [made,k0,hw]) (do_bad1_k d kind num words hd hk k0 hw)
 subst hw
 by_cases k1 : kind = 1
 ·subst k1
  have hb : isBack ⟨1,num,[]⟩ = false := back_no (by simp)
  by_cases h0 : num < 0
  ·exact zero _ hb (by simp [made]; omega) (do_nodrop1_k d num hd hk h0)
  ·by_cases h1 : (d.now.story.length : Int) ≤ num
   ·exact zero _ hb (by simp [made]; omega) (do_nodrop2_k d num hd hk h0 h1)
   ·obtain ⟨k,rfl⟩ := Int.eq_ofNat_of_zero_le (show 0 ≤ num by omega)
    have hm : made d.now ⟨1,(k : Int),[]⟩ = ⟨d.now.people,d.now.story.eraseIdx k⟩ := by
     unfold made; rw [if_neg (by simp),if_pos ⟨rfl,rfl,by simp,by simp; omega⟩]; rfl
    rw [deskDo_made hk hb]
    exact do_drop_k d k hd hk _ ml (by omega) hm
 by_cases k2 : kind = 2
 ·subst k2
  have hb : isBack ⟨2,num,[]⟩ = false := back_no (by simp)
  have hm : made d.now ⟨2,num,[]⟩ = ⟨num,d.now.story⟩ := by simp [made]
  rw [deskDo_made hk hb]
  exact do_people_k d num hd hk _ ml hm
 by_cases n0 : num = 0
 case neg => exact zero _ (back_no (by simp [n0])) (by simp [made,k0,k1,k2,n0]) (do_bad3_k d kind num hd hk k0 k1 k2 n0)
 subst n0
 by_cases k3 : kind = 3
 ·subst k3
  have hb : isBack ⟨3,0,[]⟩ = false := back_no (by simp)
  have hm : made d.now ⟨3,0,[]⟩ = ⟨d.now.people,least d.now.people.toNat d.now.story⟩ := by simp [made]
  rw [deskDo_made hk hb]
  exact do_least_k d hd hk _ ml hm
 by_cases k4 : kind = 4
 ·subst k4
  by_cases he : d.past = []
  ·rw [deskDo_bad hk (good_back (by rfl)) (by simp [he])]
   exact do_noback_k d hd hk he
  ·rw [deskDo_back hk (by rfl) he]
   exact do_back_k d hd hk he
 exact zero _ (back_no (by simp [k4])) (by simp [made,k0,k1,k2,k3]) (do_other_k d kind hd hk k0 k1 k2 k3 k4)
end TL

namespace TL
open Go Go.Proofs
/-- What the lost deeds, done again, have made so far. -/
structure EndInv (s x : Store) (k : Nat) : Prop where
 ok : storeOk x = true
 full : (readJ x.log).2 = x.log.length
 same : opened x = (doAll ⟨placeOf s,[]⟩ ((readJ s.log).1.take k)).1
 short : x.log.length ≤ (jr ((readJ s.log).1.take k) deedTx).length
end TL

namespace TL
open Go Go.Proofs
attribute [local simp] marksV storyV codeV Claim.v Place.v Deed.v Desk.v
theorem l15Copy_v (d : Desk) (hd : d.small) (m : Mem) (n : Nat) : FnS Tryz.prog 22 m n [.v d.v] (Drawn (fun x => x = d.v) m n) := by
 refine Drawn_of ⟨_,Tryz.func22,rfl,rfl⟩ fun hfr => ?_
 refine (l15Copy_own d hd m n).weak ?_
 rintro t m' n' ⟨hn,hout,st,rfl,hst⟩
 refine ⟨hn,⟨d.v, ?_,rfl⟩,hout⟩
 have hb := hst.bor (n0 := n) (m' := m') (Nat.le_refl _) (fun i _ _ _ => rfl) 3
 simp [hb]
end TL

namespace TL
open Go Go.Proofs
attribute [local simp] marksV storyV codeV Claim.v Place.v Deed.v Desk.v
/-- A desk of the caller's own, and a value beside it. -/
def PostX (D : Desk) (x : V) (t : T) (m' : Mem) (n' : Nat) : Prop := ∃ sn P,t = .tup [dT D sn P,.v x] ∧ OwnD m' 0 n' sn P D
theorem callK_ {f : Nat} {m : Mem} {n : Nat} {args : List T} {vs : List V} {D : Desk} {x : V} {k : T → Mem → Nat → Prop} (hx : x.flat = true) (h : FnS Tryz.prog f (fun _ => none) 0 (vs.map .v) (PostX D x)) (ha : mapO (bor true m 4) args = some vs)
  (hk : ∀ sn P m2 n2,n ≤ n2 → (∀ j,j < n → m2 j = m j) → OwnD m2 n n2 sn P D → k (.tup [dT D sn P,.v x]) m2 n2) : callP Tryz.prog f m n args k := by
 refine callU_ (Q := PostX D x) h ha ?_ ?_
 ·rintro t m' n' ⟨sn,P,rfl,ho⟩
  exact ⟨flM m',flM_le _,by have := ho.flat.2; simp [this,hx],flM_fl _,sn,P,rfl,ho.flat.1⟩
 ·rintro t m' n' ⟨sn,P,rfl,ho⟩
  have h2 := ho.up (n := n) (m := m)
  rw [Nat.zero_add,Nat.add_comm n' n] at h2
  exact hk (sn.up n) (P.up n) _ _ (by omega) (fun j j1 => catM_lo j1) h2
end TL

namespace TL
open Go Go.RowKit
variable {P : Program}
theorem FnZ_own {f : Nat} {vs : List V} {r : V} {post : T → Mem → Nat → Prop} (h : FnS P f (fun _ => none) 0 (vs.map .v) post) (d : Nat) (hp : ∀ t m' n',post t m' n' → bor true m' d t = some r) : FnZ P f vs r := by
 refine ⟨h.1,fun Z w us hz hv => ?_⟩
 have hm : RelM P φ0 Z (fun _ => none) 0 w := ⟨fun i u h => (by simp at h),fun _ _ => rfl,fun i b h => (by cases h),fun i j a b u v k h => (by cases h),hz⟩
 refine (h.2 φ0 Z w us hm hv.toTs).mono fun e w' hh => ?_
 obtain ⟨v,φ',Z',m',n',t,rfl,h1,h2,h3,h4⟩ := hh
 have no : ∀ k,¬ Owned φ0 (fun _ => none) k := fun k ⟨i,b,v,h1,_⟩ => by cases h1
 have hsub : SubZ Z' (freshZ Z w.heap.size w'.heap.size) := fun k o hz' => by
  rcases h3.znew k o hz' with g | g | g
  ·exact .inl g
  ·exact .inr ⟨g,h1.zlt.lt k o hz'⟩
  ·exact absurd g (no k)
 have hown : ∀ g,Owned φ' m' g → ∀ o,freshZ Z w.heap.size w'.heap.size g o := fun g hg o => by
  refine .inr ⟨?_,h1.owned_lt hg⟩
  rcases Nat.lt_or_ge g w.heap.size with h5 | h5
  ·exact absurd (h3.own g h5 hg) (no g)
  ·exact h5
 exact ⟨v,rfl,⟨h3.os,h3.tape,h3.output,h3.size,fun k hk => h3.out k hk (no k)⟩,bor_sound h1 (k := true) hsub (fun _ => hown) d _ _ _ h2 (hp _ _ _ h4)⟩
end TL

namespace TL
open Go Go.Proofs
attribute [local simp] marksV storyV codeV Claim.v Place.v Deed.v Desk.v
theorem words_le {line : List UInt8} {a : Deed} (h : readD line = some a) : a.words.length ≤ line.length := by
 obtain ⟨h1,h2⟩ := readD_is h
 rcases deed_cases (a := a) (by rw [h2]; exact h1) with ⟨w,rfl,_,e⟩ | ⟨n,_,_,rfl,e⟩ | ⟨n,_,_,rfl,e⟩ | ⟨rfl,e⟩ | ⟨rfl,e⟩
 ·rw [h2] at e; rw [e]; simp
 all_goals simp
theorem deskLineS_fn (d : Desk) (line : List UInt8) (hd : d.small) (hf : d.fit) (hl : line.length ≤ 1000000000) : FnZ Tryz.prog 6 [d.v,.str line] (.tup [(deskLine d line).1.v,.str (deskLine d line).2]) := by
 have hok := deskOkS_fn d hd hf
 cases hk : deskOk d with
 | false =>
  rw [deskLine_no hk]
  rw [hk] at hok
  refine FnZ_of (rs := [.cell 4 34,.tmp 5]) false Tryz.func6 rfl rfl rfl rfl (Nat.le_of_ble_eq_true rfl) ?_
  simp -dsimp
  refine call_ hok (by simp -dsimp) ?_
  simp -dsimp [noDeskV,nes]
 | true =>
  rw [hk] at hok
  have hcp := fun m n => l15Copy_v d hd m n
  have hrd := readDeedS_fn line (by omega)
  cases hr : readD line with
  | some a =>
   rw [deskLine_deed hk hr]
   rw [hr] at hrd
   have hdo := deskDoS_fn d a hd hf (by have := words_le hr; omega)
   clear hr
   generalize deskDo d a = E at *
   obtain ⟨⟨⟨E1,E2⟩,E3⟩,b⟩ := E
   obtain ⟨a1,a2,a3⟩ := a
   obtain ⟨⟨d1,d2⟩,d3⟩ := d
   simp only [optD,Option.getD_some,Option.isSome_some] at hrd
   refine FnZ_of (rs := [.cell 4 34,.tmp 5]) false Tryz.func6 rfl rfl rfl rfl (Nat.le_of_ble_eq_true rfl) ?_
   simp -dsimp
   refine call_ hok (by simp -dsimp) ?_
   simp -dsimp [nes]
   refine callL_ (vs := [(⟨⟨d1,d2⟩,d3⟩ : Desk).v]) (hcp _ _) (by simp -dsimp) ?_
   rintro t m1 n1 ⟨hn1,⟨x,rfl,rfl⟩,rfl⟩
   have f0 := far (show 0 < n1 by omega)
   have f1 := far (show 1 < n1 by omega)
   simp -dsimp [nes,f0,f1]
   refine call_ hrd (by simp -dsimp) ?_
   simp -dsimp [nes,f0,f1]
   refine call_ hdo (by simp -dsimp) ?_
   cases b with
   | false => simp -dsimp [nes,okNot,f0,f1]
   | true => simp -dsimp [nes,okNot,f0,f1]
  | none =>
   rw [deskLine_ask hk hr]
   rw [hr] at hrd
   have han := answerS_fn d.now (deskOk_iff.1 hk).2.1 line (by omega)
   generalize ans d.now line = A at *
   obtain ⟨⟨d1,d2⟩,d3⟩ := d
   simp only [optD,Option.getD_none,Option.isSome_none] at hrd
   refine FnZ_of (rs := [.cell 4 34,.tmp 5]) false Tryz.func6 rfl rfl rfl rfl (Nat.le_of_ble_eq_true rfl) ?_
   simp -dsimp
   refine call_ hok (by simp -dsimp) ?_
   simp -dsimp [nes]
   refine callL_ (vs := [(⟨⟨d1,d2⟩,d3⟩ : Desk).v]) (hcp _ _) (by simp -dsimp) ?_
   rintro t m1 n1 ⟨hn1,⟨x,rfl,rfl⟩,rfl⟩
   have f0 := far (show 0 < n1 by omega)
   have f1 := far (show 1 < n1 by omega)
   simp -dsimp [nes,f0,f1]
   refine call_ hrd (by simp -dsimp) ?_
   simp -dsimp [nes,f0,f1]
   refine twp_draw (List.range 7) [0,n1] (List.replicate 7 [0,1]) (List.replicate 7 [0,1]) (by kernel_rfl) (by kernel_rfl) (by kernel_rfl) (by kernel_rfl) ?_
   simp -dsimp [List.range_succ,nes,f0,f1]
   refine call_ han (by simp -dsimp) ?_
   simp -dsimp [List.range_succ,nes,f0,f1]
theorem deskLine_k (d : Desk) (line : List UInt8) (hd : d.small) (hl : line.length ≤ 1000000000) : FnS Tryz.prog 8 (fun _ => none) 0 [.v d.v,.v (.str line)] (PostX (deskLine d line).1 (.str (deskLine d line).2)) := by
 have hok := deskOk_fn d (by have := hd.2.1; omega) (by have := hd.1.1; omega) (fun p hp => by have := (hd.2.2 p hp).1; omega)
 cases hk : deskOk d with
 | false =>
  rw [deskLine_no hk]
  rw [hk] at hok
  refine FnS_of (rs := [.cell 4 34,.tmp 5]) false Tryz.func8 rfl rfl rfl rfl (Nat.le_of_ble_eq_true rfl) ?_
  simp -dsimp
  refine call_ hok (by simp -dsimp) ?_
  simp -dsimp [noDeskV,nes]
  exact ⟨.nil,.nil,rfl,OwnD.none (Nat.zero_le _)⟩
 | true =>
  rw [hk] at hok
  have hrd := readDeed_fn line (by omega)
  cases hr : readD line with
  | some a =>
   rw [deskLine_deed hk hr]
   rw [hr] at hrd
   have hdo := deskDo_k d a hd (by have := words_le hr; omega)
   have hdo : FnS Tryz.prog 30 (fun _ => none) 0 [.v d.v,.v a.v] (PostX (deskDo d a).1 (.bool (deskDo d a).2)) := hdo
   clear hr
   generalize deskDo d a = E at *
   obtain ⟨D,b⟩ := E
   obtain ⟨a1,a2,a3⟩ := a
   simp only [optD,Option.getD_some,Option.isSome_some] at hrd
   refine FnS_of (rs := [.cell 4 34,.tmp 5]) false Tryz.func8 rfl rfl rfl rfl (Nat.le_of_ble_eq_true rfl) ?_
   simp -dsimp
   refine call_ hok (by simp -dsimp) ?_
   simp -dsimp [nes]
   refine call_ hrd (by simp -dsimp) ?_
   simp -dsimp [nes]
   refine callK_ (vs := [d.v,(⟨a1,a2,a3⟩ : Deed).v]) (D := D) (x := .bool b) rfl hdo (by simp -dsimp) ?_
   intro sn P m2 n2 hn2 hout2 hown2
   have k0 := hout2 0 (by omega)
   have k1 := hout2 1 (by omega)
   have k2 := hout2 2 (by omega)
   simp -dsimp [nes] at k0 k1 k2
   have hfc := hown2.facts
   have hc := hfc.1
   have hcs := hfc.2.1
   have hcP := hfc.2.2.1
   have hcsP := hfc.2.2.2
   clear hfc
   have f0 := far (show 0 < n2 by omega)
   have f1 := far (show 1 < n2 by omega)
   have f2 := far (show 2 < n2 by omega)
   cases b with
   | false =>
    simp -dsimp [dT,nes,k0,k1,k2,f0,f1,f2,hc,hcs,hcP,hcsP]
    exact ⟨sn,P,rfl,hown2.keep (Nat.zero_le _) (by omega) fun j j1 j2 => by simp [show ¬ j = 1 by omega,show ¬ j = n2 by omega]⟩
   | true =>
    simp -dsimp [dT,nes,k0,k1,k2,f0,f1,f2,hc,hcs,hcP,hcsP]
    exact ⟨sn,P,rfl,hown2.keep (Nat.zero_le _) (by omega) fun j j1 j2 => by simp [show ¬ j = 1 by omega,show ¬ j = n2 by omega]⟩
  | none =>
   rw [deskLine_ask hk hr]
   rw [hr] at hrd
   have hcv := fun m n => copyDesk_k d hd hk m n
   have han := answer_fn d.now (deskOk_iff.1 hk).2.1 line (by omega)
   generalize ans d.now line = A at *
   simp only [optD,Option.getD_none,Option.isSome_none] at hrd
   refine FnS_of (rs := [.cell 4 34,.tmp 5]) false Tryz.func8 rfl rfl rfl rfl (Nat.le_of_ble_eq_true rfl) ?_
   simp -dsimp
   refine call_ hok (by simp -dsimp) ?_
   simp -dsimp [nes]
   refine call_ hrd (by simp -dsimp) ?_
   simp -dsimp [nes]
   refine twp_draw [0,2,3,4,1,5,6,7] [0] (List.replicate 8 [0]) (List.replicate 8 [0]) (by kernel_rfl) (by kernel_rfl) (by kernel_rfl) (by kernel_rfl) ?_
   simp -dsimp [List.range_succ,nes]
   refine callL_ (vs := [d.v]) (hcv _ _) (by simp -dsimp) ?_
   rintro t m1 n1 ⟨hn1,hout,sn,P,rfl,hown⟩
   have k0 := hout 0 (by omega)
   have k1 := hout 1 (by omega)
   simp -dsimp [nes] at k0 k1
   have hfc := hown.facts
   have hc := hfc.1
   have hcs := hfc.2.1
   have hcP := hfc.2.2.1
   have hcsP := hfc.2.2.2
   clear hfc
   have f0 := far (show 0 < n1 by omega)
   have f1 := far (show 1 < n1 by omega)
   simp -dsimp [List.range_succ,dT,nes,keepP,k0,k1,f0,f1,hc,hcs,hcP,hcsP]
   refine call_ han (by simp -dsimp) ?_
   simp -dsimp [List.range_succ,dT,nes,keepP,k0,k1,f0,f1,hc,hcs,hcP,hcsP]
   exact ⟨sn,P,rfl,hown.keep (Nat.zero_le _) (by omega) fun j j1 j2 => by simp [show ¬ j = 1 by omega,show ¬ j = n1 by omega]⟩
theorem postX_pure {D : Desk} {x : V} {t : T} {m' : Mem} {n' : Nat} (h : PostX D x t m' n') : bor true m' 5 t = some (.tup [D.v,x]) := by
 obtain ⟨sn,P,rfl,ho⟩ := h
 have h1 := ho.bor.1
 have h2 := ho.bor.2
 simp [dT,h1,h2]
theorem deskLineP_fn (d : Desk) (line : List UInt8) (hd : d.small) (hl : line.length ≤ 1000000000) : FnZ Tryz.prog 8 [d.v,.str line] (.tup [(deskLine d line).1.v,.str (deskLine d line).2]) :=
 FnZ_own (deskLine_k d line hd hl) 5 fun _ _ _ h => postX_pure h
end TL

namespace TL
open Go Go.Proofs
attribute [local simp] marksV storyV codeV Claim.v Place.v Deed.v Desk.v
/-- What is used of a desk that is one, or none. -/
def Desk.neat (d : Desk) : Prop := d.small ∧ (∀ c ∈ d.now.story,c.says.length ≤ 13) ∧ (∀ p ∈ d.past,∀ c ∈ p.story,c.says.length ≤ 13) ∧ d.bulk ≤ 1000
theorem saysSum_max (l : List Claim) (h : ∀ c ∈ l,c.says.length ≤ 13) : saysSum l ≤ 13 * l.length := by
 induction l with
 | nil => simp [saysSum]
 | cons c l ih =>
  have h1 := h c (by simp)
  have h2 := ih fun x hx => h x (by simp [hx])
  have e : saysSum (c :: l) = c.says.length + saysSum l := by simp [saysSum]
  rw [e,List.length_cons]; omega
theorem place_bulk {p : Place} (h : placeOk p = true) : p.bulk ≤ 84 ∧ ∀ c ∈ p.story,c.says.length ≤ 13 := by
 obtain ⟨_,_,q3,q4⟩ := placeOk_all h
 have h13 : ∀ c ∈ p.story,c.says.length ≤ 13 := fun c hc => (claimOk_all (q4 c hc)).2.2.2.2.2
 have := saysSum_max p.story h13
 refine ⟨?_,h13⟩
 show p.story.length + saysSum p.story ≤ 84
 omega
theorem bulkSum_max (l : List Place) (h : ∀ p ∈ l,placeOk p = true) : bulkSum l ≤ 84 * l.length := by
 induction l with
 | nil => simp [bulkSum]
 | cons c l ih =>
  have h1 := (place_bulk (h c (by simp))).1
  have h2 := ih fun x hx => h x (by simp [hx])
  have e : bulkSum (c :: l) = c.bulk + bulkSum l := by simp [bulkSum]
  rw [e,List.length_cons]; omega
theorem desk_neat {d : Desk} (h : deskOk d = true) : d.neat := by
 obtain ⟨h1,h2,h3⟩ := deskOk_iff.1 h
 have h4 := bulkSum_max d.past h1
 have h5 := place_bulk h2
 refine ⟨(desk_fine h).1,h5.2,fun p hp => (place_bulk (h1 p hp)).2, ?_⟩
 show d.now.bulk + (d.past.length + bulkSum d.past) ≤ 1000
 omega
theorem none_neat : noDeskV.neat := ⟨⟨⟨by simp [noDeskV],by simp [noDeskV]⟩,by simp [noDeskV],by simp [noDeskV]⟩,by simp [noDeskV],by simp [noDeskV],by decide⟩
theorem OwnD.lend {m : Mem} {lo hi : Nat} {sn P : T} {d : Desk} (h : OwnD m lo hi sn P d) : TL.bor true m 4 (.agg [.v (.int .i64 d.now.people),sn,P]) = some d.v := by
 have h1 := h.bor.1
 have h2 := h.bor.2
 simp [h1,h2]
theorem OwnD.lend2 {m : Mem} {lo hi : Nat} {sn P : T} {d : Desk} (h : OwnD m lo hi sn P d) {t : T} {v : V} (ht : TL.bor true m 4 t = some v) : mapO (TL.bor true m 4) [.agg [.v (.int .i64 d.now.people),sn,P],t] = some [d.v,v] := by
 have h1 := h.lend
 simp only [mapO,h1,ht]; rfl
end TL

namespace TL
open Go Go.Proofs
attribute [local simp] marksV storyV codeV Claim.v Place.v Deed.v
/-! The text of a mark. -/
def mtGo : Nat → Nat → List UInt8 → List UInt8
 | 0,_,acc => acc
 | f + 1,x,acc => if x = 0 then acc else mtGo f (x / 10) (UInt8.ofNat (48 + x % 10) :: acc)
def mt (k : Int) : List UInt8 := if k ≤ 0 then [109,48] else 109 :: mtGo (k.toNat + 1) k.toNat []
/-! Deeds as cells that may change. -/
def deT : List Deed → List T
 | [] => []
 | a :: l => .v (.int .i64 a.kind) :: .v (.int .i64 a.num) :: .v (.str a.words) :: deT l
@[simp] theorem deT_nil : deT [] = [] := rfl
@[simp] theorem deT_length (a : List Deed) : (deT a).length = a.length * 3 := by
 induction a with
 | nil => rfl
 | cons x xs ih => simp [deT,ih]; omega
@[simp] theorem deT_take (a : List Deed) : (deT a).take (a.length * 3) = deT a := List.take_of_length_le (by simp)
@[simp] theorem deT_cells (a : List Deed) : allC (deT a) := by
 induction a with
 | nil => simp
 | cons x xs ih => simp [deT]; exact ih
/-- Deeds that bear marks, from k on. -/
def mkd (k : Int) : Nat → List Deed
 | 0 => []
 | n + 1 => mkd k n ++ [⟨k + 3 * n,k + 3 * n + 1,mt (k + 3 * n + 2)⟩]
@[simp] theorem mkd_length (k : Int) (n : Nat) : (mkd k n).length = n := by
 induction n with
 | zero => rfl
 | succ n ih => simp [mkd,ih]
end TL

namespace TL
open Go Go.Proofs
attribute [local simp] marksV storyV codeV Claim.v Place.v Deed.v Desk.v
theorem deskLine_neat {d : Desk} {line : List UInt8} : (deskLine d line).1.neat := by
 cases hk : deskOk d with
 | false => rw [deskLine_no hk]; exact none_neat
 | true => exact desk_neat (deskLine_ok hk line)
theorem exactDeskLine_row (d : Desk) (h0 : d.fit ∧ d.mid) (line : List UInt8) (hlm : line.length ≤ maxLen) : FnZ Tryz.prog 3 [d.v,.str line] (.bool true) := by
 have hp := h0.2
 have hf := h0.1
 by_cases hll : (1048576 : Int) < line.length
 ·have hll' : 1048576 < line.length := by omega
  refine FnZ_of (rs := [.tmp 4]) false Tryz.func3 rfl rfl rfl rfl (Nat.le_of_ble_eq_true rfl) ?_
  simp -dsimp [hll,hll']
 have hll' : ¬ 1048576 < line.length := by omega
 have hsz := szDesk_fn d 1048576 (by omega) (by omega) hp
 by_cases h : (1048576 : Int) - d.bulk < 0
 ·have e : szR 1048576 d.bulk = -1 := if_pos h
  rw [e] at hsz
  refine FnZ_of (rs := [.tmp 4]) false Tryz.func3 rfl rfl rfl rfl (Nat.le_of_ble_eq_true rfl) ?_
  simp -dsimp [hll,hll']
  refine call_ hsz (by simp -dsimp) ?_
  simp -dsimp
 have e : szR 1048576 d.bulk = 1048576 - d.bulk := if_neg h
 rw [e] at hsz
 have hs := Desk.small_of h
 have hb : d.bulk ≤ 1048576 := by omega
 have h1 := toDesk_fn d hs
 have h4 := deskLineS_fn d line hs hf (by omega)
 have h5 := deskLineP_fn d line hs (by omega)
 have hh := deskLine_k d line hs (by omega)
 have hn := deskLine_neat (d := d) (line := line)
 have ns := hn.1
 have nl0 := hn.2.1
 have nl := hn.2.2.1
 have nb := hn.2.2.2
 have hto := fun m n => toDesk_own d hs m n
 have h6 := eqDesk_fn (deskLine d line).1 (deskLine d line).1 ns
 have h7 := eqDesk_fn d d hs
 have q1 := mkDn_sum d 1
 have q2 := mkDn_sum (deskLine d line).1 1
 have hl1 : ∀ c ∈ d.now.story,c.says.length ≤ 1000000000 := fun c hc => by have := hs.1.2 c hc; unfold Claim.small at this; omega
 have hl : ∀ p ∈ d.past,∀ c ∈ p.story,c.says.length ≤ 1000000000 := fun p hp c hc => by have := (hs.2.2 p hp).2 c hc; unfold Claim.small at this; omega
 have h8 := fun m lo hi n hlo sn P h => markDesk_deep d 1 (by omega) (by omega) hl1 hl m lo hi n hlo sn P h
 have h9 := fun m lo hi n hlo sn P h => markDesk_deep (deskLine d line).1 1 (by omega) (by omega) (fun c hc => by have := nl0 c hc; omega) (fun p hp c hc => by have := nl p hp c hc; omega) m lo hi n hlo sn P h
 have h10 := heldDesk_deep (deskLine d line).1 1 (by omega) (by omega) (fun c hc => by have := nl0 c hc; omega) (fun p hp c hc => by have := nl p hp c hc; omega)
 have p0 : ¬ mkDn 1 d < 0 := by omega
 have p1 : ¬ mkDn 1 (deskLine d line).1 < 0 := by omega
 clear q1 q2 e nl0 nl nb hl1 hl ns hn
 generalize deskLine d line = E at *
 obtain ⟨⟨⟨E1,E2⟩,E3⟩,A⟩ := E
 obtain ⟨⟨d1,d2⟩,d3⟩ := d
 generalize hY : mkDn 1 (⟨⟨d1,d2⟩,d3⟩ : Desk) = Y at *
 refine FnZ_of (rs := [.tmp 4]) false Tryz.func3 rfl rfl rfl rfl (Nat.le_of_ble_eq_true rfl) ?_
 simp -dsimp [hll,hll']
 refine call_ hsz (by simp -dsimp) ?_
 simp -dsimp [h,nes]
 refine call_ h1 (by simp -dsimp) ?_
 simp -dsimp [nes]
 refine call_ h4 (by simp -dsimp) ?_
 simp -dsimp [nes]
 refine callL_ (vs := [(⟨⟨d1,d2⟩,d3⟩ : Desk).v]) (hto _ _) (by simp -dsimp) ?_
 rintro t m4 n1 ⟨hn1,hout1,sn,P,rfl,hown⟩
 have hfc := hown.facts
 have hc := hfc.1
 have hcs := hfc.2.1
 have hcP := hfc.2.2.1
 have hcsP := hfc.2.2.2
 clear hfc
 have k0 := hout1 0 (by omega)
 have k1 := hout1 1 (by omega)
 simp -dsimp [nes] at k0 k1
 have f0 := far (show 0 < n1 by omega)
 have f1 := far (show 1 < n1 by omega)
 have ho := hown.keep (m' := updM m4 n1 (some (.box 34 3 [.v (.int .i64 d1),sn,P]))) (Nat.le_refl _) (Nat.le_refl _) fun j j1 j2 => by simp -dsimp [show ¬ j = n1 by omega]
 simp -dsimp [dT,nes,k0,k1,hc,hcs,hcP,hcsP,f0,f1]
 refine callK_ (vs := [(⟨⟨d1,d2⟩,d3⟩ : Desk).v,.str line]) (D := ⟨⟨E1,E2⟩,E3⟩) (x := .str A) rfl hh (OwnD.lend2 (d := ⟨⟨d1,d2⟩,d3⟩) ho (by simp -dsimp)) ?_
 intro sn2 P2 m6 n3 hn3 hout3 ho2
 have c0 := hout3 0 (by omega)
 have c1 := hout3 1 (by omega)
 have cx := hout3 n1 (by omega)
 simp -dsimp [nes,f0,f1,k0,k1] at c0 c1 cx
 have hfc2 := ho2.facts
 have hc2 := hfc2.1
 have hcs2 := hfc2.2.1
 have hcP2 := hfc2.2.2.1
 have hcsP2 := hfc2.2.2.2
 clear hfc2
 have y0 := far (show 0 < n3 by omega)
 have y1 := far (show 1 < n3 by omega)
 have yx := far (show n1 < n3 by omega)
 have ho1 := ho.keep (m' := m6) (Nat.le_refl _) (Nat.le_refl _) fun j j1 j2 => hout3 j (by omega)
 simp -dsimp [dT,nes,c0,c1,cx,hc,hcs,hcP,hcsP,hc2,hcs2,hcP2,hcsP2,y0,y1,yx]
 have ha1 := ho1.keep (m' := updM m6 n3 (some (.box 34 3 [.v (.int .i64 E1),sn2,P2]))) (Nat.le_refl _) (Nat.le_refl _) fun j j1 j2 => by simp -dsimp [show ¬ j = n3 by omega]
 have ha2 := ho2.keep (m' := updM m6 n3 (some (.box 34 3 [.v (.int .i64 E1),sn2,P2]))) (Nat.le_refl _) (Nat.le_refl _) fun j j1 j2 => by simp -dsimp [show ¬ j = n3 by omega]
 refine callM_ h6 (OwnD.lend2 (d := (⟨⟨E1,E2⟩,E3⟩ : Desk)) ha2 (by simp -dsimp)) rfl ?_
 simp -dsimp [dT,nes,hc,hcs,hcP,hcsP,hc2,hcs2,hcP2,hcsP2,y0,y1,yx,c0,c1,cx]
 refine twp_draw (List.range 5) [n1,0] [[0],[1],[],[],[]] (List.replicate 5 [0,1]) (by kernel_rfl) (by kernel_rfl) (by kernel_rfl) (by kernel_rfl) ?_
 simp -dsimp [List.range_succ,dT,nes,hc,hcs,hcP,hcsP,hc2,hcs2,hcP2,hcsP2,y0,y1,yx,c0,c1,cx]
 refine call_ h1 (by simp -dsimp) ?_
 simp -dsimp [List.range_succ,dT,nes,hc,hcs,hcP,hcsP,hc2,hcs2,hcP2,hcsP2,y0,y1,yx,c0,c1,cx]
 refine callM_ h7 (OwnD.lend2 (d := (⟨⟨d1,d2⟩,d3⟩ : Desk)) ha1 (by simp -dsimp)) rfl ?_
 simp -dsimp [List.range_succ,dT,nes,hc,hcs,hcP,hcsP,hc2,hcs2,hcP2,hcsP2,y0,y1,yx,c0,c1,cx]
 refine callS_ (h8 _ 3 n1 _ (by omega) sn P ha1) ?_
 rintro t m7 n4 ⟨rfl,hn4,ho3,hout4⟩
 have e0 := hout4 0 (by omega) (.inl (by omega))
 have e1 := hout4 1 (by omega) (.inl (by omega))
 have eg := hout4 n3 (by omega) (.inr (by omega))
 simp -dsimp [y0,y1,c0,c1] at e0 e1 eg
 have ha3 := ha2.keep (m' := m7) (Nat.le_refl _) (Nat.le_refl _) fun j j1 j2 => hout4 j (by omega) (.inr (by omega))
 simp -dsimp [dT,nes,hc,hcs,hcP,hcsP,hc2,hcs2,hcP2,hcsP2,y0,y1,yx,e0,e1,eg,p0]
 refine callM_ h6 (OwnD.lend2 (d := (⟨⟨E1,E2⟩,E3⟩ : Desk)) ha3 (by simp -dsimp)) rfl ?_
 simp -dsimp [dT,nes,hc,hcs,hcP,hcsP,hc2,hcs2,hcP2,hcsP2,y0,y1,yx,e0,e1,eg,p0]
 refine callS_ (h9 _ _ n3 _ (by omega) sn2 P2 ha3) ?_
 rintro t m9 n6 ⟨rfl,hn6,ho4,hout6⟩
 have b0 := hout6 0 (by omega) (.inl (by omega))
 have b1 := hout6 1 (by omega) (.inl (by omega))
 have bg := hout6 n3 (by omega) (.inr (by omega))
 simp -dsimp [e0,e1,eg] at b0 b1 bg
 have z0 := far (show 0 < n6 by omega)
 have z1 := far (show 1 < n6 by omega)
 have zg := far (show n3 < n6 by omega)
 simp -dsimp [dT,nes,hc,hcs,hcP,hcsP,hc2,hcs2,hcP2,hcsP2,y0,y1,yx,b0,b1,bg]
 refine callM_ h10 (OwnD.lend2 (d := mkD 1 (⟨⟨E1,E2⟩,E3⟩ : Desk)) ho4 (by simp -dsimp)) rfl ?_
 simp -dsimp [dT,nes,hc,hcs,hcP,hcsP,hc2,hcs2,hcP2,hcsP2,y0,y1,yx,b0,b1,bg,p1]
 refine call_ h1 (by simp -dsimp) ?_
 simp -dsimp [dT,nes,hc,hcs,hcP,hcsP,hc2,hcs2,hcP2,hcsP2,y0,y1,yx,b0,b1,bg,p1]
 refine call_ h5 (by simp -dsimp) ?_
 simp -dsimp [dT,nes,hc,hcs,hcP,hcsP,hc2,hcs2,hcP2,hcsP2,y0,y1,yx,b0,b1,bg,p1,z0,z1,zg]
 refine call_ h6 (by simp -dsimp) ?_
 have ho5 := ho4.keep (m' := updM m9 n6 (some (.box 34 3 [.v (.int .i64 E1),.v (.sl (E2.map Claim.v)),.v (.sl (E3.map Place.v))]))) (Nat.le_refl _) (Nat.le_refl _) fun j j1 j2 => by simp -dsimp [show ¬ j = n6 by omega]
 simp -dsimp [dT,nes,hc,hcs,hcP,hcsP,hc2,hcs2,hcP2,hcsP2,y0,y1,yx,b0,b1,bg,p1,z0,z1,zg]
 refine callM_ h10 (OwnD.lend2 (d := mkD 1 (⟨⟨E1,E2⟩,E3⟩ : Desk)) ho5 (by simp -dsimp)) rfl ?_
 simp -dsimp [dT,nes,hc,hcs,hcP,hcsP,hc2,hcs2,hcP2,hcsP2,y0,y1,yx,b0,b1,bg,p1,z0,z1,zg]
end TL

namespace TL
open Go
theorem lt_of_cell {W : World} {g : Nat} {v : Value} (h : W.cell? ⟨g,0,none⟩ = some v) : g < W.heap.size := by
 unfold World.cell? at h
 split at h
 ·rename_i hb; exact (Array.getElem?_eq_some_iff.1 hb).1
 ·cases h
end TL

namespace TL
open Go Go.Proofs
/-- A listed sentinel is an interface value. -/
theorem laid_iface {P : Program} {n nm : String} {d : DataW Unit} {r : List (String × DataW Unit)} {W : World} {g : Nat} {ti : TypeId} {ms : Array (String × TypeId)}
  (h : laidMet P ((n,.iface nm d) :: r) W) (hg : P.globalNamed n = some g) (ht : (P.globals[g]?).map (·.type) = some ti) (hi : P.underlying ti = some (.interface ms)) : ∃ u v,W.cell? ⟨g,0,none⟩ = some (.iface u v) := by
 obtain ⟨ps,⟨g0,t0,cs0,f0,p0,q0,hg0,ht0,hv0,hd0,_,e0⟩,_,hrows⟩ := h
 obtain rfl := Option.some.inj (hg.symm.trans hg0)
 obtain rfl := Option.some.inj (ht.symm.trans ht0)
 obtain ⟨l0⟩ := cs0
 obtain ⟨f1,u,v,hl,_,_⟩ := iface_of_trod hi hd0
 have hl : l0 = [.iface u v] := hl
 subst hl
 exact ⟨u,v,by simpa using World.var?_cell hg0 hv0 0⟩
theorem gl_start {W : World} (h : W.ShapedOpen Tryz.prog) (hr : ∃ u v,W.cell? ⟨Tryz.laysC172_ren.g 16,0,none⟩ = some (.iface u v)) (hs : ∃ u v,W.cell? ⟨Tryz.laysC172_ren.g 15,0,none⟩ = some (.iface u v)) : Gl Tryz.prog (ZA W) W := by
 have n1 : Tryz.prog.globalNamed "internal/bytealg.MaxLen" = some 0 := by kernel_rfl
 have n2 : Tryz.prog.globalNamed "strconv.ErrSyntax" = some (Tryz.laysC172_ren.g 15) := Tryz.laysC172.m15
 have n3 : Tryz.prog.globalNamed "strconv.ErrRange" = some (Tryz.laysC172_ren.g 16) := Tryz.laysC172.m16
 have hm : ∃ m,W.cell? ⟨0,0,none⟩ = some (.int .i64 m) := Tryz.laysM145.s1_3 W h
 rintro g Q (⟨e,rfl⟩ | ⟨e | e,rfl⟩)
 ·rw [n1] at e; cases e
  obtain ⟨m,hm⟩ := hm
  exact ⟨lt_of_cell hm,_,hm,m,rfl⟩
 ·rw [n2] at e
  obtain rfl := Option.some.inj e
  obtain ⟨u,v,hs⟩ := hs
  exact ⟨lt_of_cell hs,_,hs,.inr ⟨u,v,rfl⟩⟩
 ·rw [n3] at e
  obtain rfl := Option.some.inj e
  obtain ⟨u,v,hr⟩ := hr
  exact ⟨lt_of_cell hr,_,hr,.inr ⟨u,v,rfl⟩⟩
end TL

namespace TL
open Go
variable {H : Type} {enc : TypeId × Value → H}
theorem wrapLS {a : Assume} {C : Checked} {os : Os} {f : FuncId} {fn : Func} {s : ChangeSpec} {conds : List PathCond} {apart fresh handsOn again : Bool} {X : World → Array Value → Prop}
  (hX : ∀ (w w' : World) (args : Array Value),w.heap = w'.heap → X w args → X w' args)
  (own : ownKnob C.prog.godebug = none) (started : os.Started) (noInit : C.prog.inits.idxOf? f = none) (hfn : C.prog.funcs[f]? = some fn)
  (witness : ∃ (w : World) (tape : Tape) (i : Input),w.os = os ∧ (w.forCall tape i).Shaped C.prog ∧ i.vars = [] ∧ Input.okWide C.prog (w.forCall tape i) .any w.heap.size f i ∧
   ((s.pre enc C.prog fn conds apart (w.forCall tape i).memory i.args ∧ X (w.forCall tape i).memory i.args) ∧ sizedMet enc C.prog fn (OpenSpec.ofChange s) apart (w.forCall tape i).memory i.args) ∧ a.holds C.prog (lone (Frame.enter C.prog f i.args .normal) [] (w.forCall tape i)))
  (contract : ∀ (W : World) (base : Nat) (args : Array Value) (ds gs : List (DataW H)) (before : List MemPlace),
   (∀ (j : Nat) t v,fn.params[j]? = some t → args[j]? = some v → Value.okWide C.prog W .any base t v) →
   DataW.Whole enc C.prog fn.params.toList s.vars apart W args.toList ds gs before → X W args → W.ShapedOpen C.prog →
   Calls C.prog f args W fun e W' => ∃ v,e = .returned v ∧ s.post enc C.prog fn apart fresh handsOn again W args v W') :
  ReturnsInHanded a C os f .any (fun w args => (s.pre enc C.prog fn conds apart w args ∧ X w args) ∧ sizedMet enc C.prog fn (OpenSpec.ofChange s) apart w args) (s.post enc C.prog fn apart fresh handsOn again) := by
 refine returnsInHanded_of_calls own started noInit witness ?_
 intro w tape i _ hsh _ hok hpre _
 obtain ⟨_,_,_,fn',hfn',_,_,_,_,hval⟩ := hok
 have e : fn' = fn := Option.some.inj (hfn'.symm.trans hfn)
 subst e
 obtain ⟨⟨⟨ds,gs,before,hw,_⟩,hx⟩,_⟩ := hpre
 have hw' := DataW.Whole.of_heap (w' := w.forCall tape i) (by rfl) hw
 refine (contract (w.forCall tape i) w.heap.size i.args ds gs before hval hw' (hX _ _ _ (by rfl) hx) hsh).mono fun e W' ⟨v,he,hp⟩ => ?_
 subst he
 exact ChangeSpec.post_blind hp
end TL

namespace Go.Proofs.YtnimfdpinpggdaaGreatDoor.wide
open Go
theorem may_enter : Tryz.pinned.checked.prog.mayEnter = true := by kernel_rfl
end Go.Proofs.YtnimfdpinpggdaaGreatDoor.wide

namespace Go.Proofs.YtnimfdpinpggdaaGreatDoor.wide
open Go
theorem lifts_are : Tryz.pinned.checked.prog.liftsFinal = Rows.fnExactDeskLineRow.lifted := by kernel_rfl
end Go.Proofs.YtnimfdpinpggdaaGreatDoor.wide

namespace Go.Proofs.YtnimfdpinpggdaaGreatDoor.wide
open Go
theorem make_is : Tryz.pinned.checked.prog.make = some Rows.fnExactDeskLineRow.make := by kernel_rfl
end Go.Proofs.YtnimfdpinpggdaaGreatDoor.wide

namespace Go.Proofs.YtnimfdpinpggdaaGreatDoor.wide
open Go
theorem main_is : Tryz.pinned.checked.prog.mainIs = some (true,"9a3c2929d60c12d03a8e18b45fcd8496a62a433a58d33a04905e23aaa11270c6".toList) := by kernel_rfl
theorem looks_are : true = Tryz.pinned.checked.prog.looks [] := by kernel_rfl
end Go.Proofs.YtnimfdpinpggdaaGreatDoor.wide
