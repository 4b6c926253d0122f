/- TL: parts FnsIS, FnsR9, FnsJ5, FnsJ6, FnsJ7, TlOwn, FnsJ8, FnsJB, FnsJC, FnsJ9, TlUp, FnsJD, FnsJE, FnsJF, FnsJGa, FnsJGb, FnsJGc. -/
import Derived.Test.YtnimfdpinpggdabGreatDoorGj
import Derived.Test.YtnimfdpinpggdabGreatDoorGe
import Derived.Test.YtnimfdpinpggdabGreatDoorGf
import Derived.Test.YtnimfdpinpggdabGreatDoorGg
import Derived.Test.YtnimfdpinpggdabGreatDoorGc
import Derived.Test.YtnimfdpinpggdabGreatDoorGi
set_option linter.unusedSimpArgs false
set_option linter.unusedVariables false
set_option maxRecDepth 100000
set_option maxHeartbeats 4000000
set_option pp.maxSteps 1500
namespace TL
open Go Go.Proofs
attribute [local simp] marksV storyV codeV Claim.v Place.v numsV natsV
theorem numTx_neg {n:Int} (h:n<0):numTx n=wNone:=if_pos h
theorem numTx_pos {n:Int} (h:¬n<0):numTx n=dec n:=if_neg h
theorem answerS_place (p:Nat) (l:List Claim) (h:storyOk p l=true):FnZ Tryz.prog 29 [(⟨p,l⟩:Place).v,.str wPlace] (.str (placeTx ⟨p,l⟩)):=by
 obtain ⟨h1,h4,hc,h6⟩:=allOk_of h
 have hst:=l4Story_fn p l (by omega) (by omega) (by omega) hc
 have hpl:=placeTextS_fn ⟨p,l⟩ (place_fine (p:=⟨p,l⟩) h).1
 generalize placeTx ⟨p,l⟩=r at *
 refine FZ (rs:=[.tmp 4]) false Tryz.func29 ?_
 simp -dsimp
 refine cl hst ?_
 simp -dsimp [wPlace]
 refine cl hpl ?_
 simp -dsimp
theorem answerS_worlds (p:Nat) (l:List Claim) (h:storyOk p l=true):FnZ Tryz.prog 29 [(⟨p,l⟩:Place).v,.str wWorlds] (.str (rowTx ((sw p l).map fun w=>((w:Nat):Int)))):=by
 obtain ⟨h1,h4,hc,h6⟩:=allOk_of h
 have hst:=l4Story_fn p l (by omega) (by omega) (by omega) hc
 have hwi:=worldsInS_fn p (storyTab p l) (storyTab_ok (by omega) (by omega) l) (by omega) (by omega) (storyTab_small (by omega) l)
 have hsl:=sw_len (p:=p) (by omega) l
 have hrt:=l15Row_fn ((sw p l).map fun w=>((w:Nat):Int)) (by simpa using hsl) (fun n hn=>by obtain ⟨w,hw,rfl⟩:=List.mem_map.1 hn; have:=sw_lt (p:=p) (by omega) hw; omega)
 have e0:worldsOf p (storyTab p l)=sw p l:=rfl
 rw [e0] at hwi
 generalize rowTx ((sw p l).map fun w=>((w:Nat):Int))=r at *
 refine FZ (rs:=[.tmp 4]) false Tryz.func29 ?_
 simp -dsimp
 refine cl hst ?_
 simp -dsimp [wWorlds]
 refine cl hwi ?_
 simp -dsimp
 refine cl hrt ?_
 simp -dsimp
theorem answerS_only (p:Nat) (l:List Claim) (h:storyOk p l=true):FnZ Tryz.prog 29 [(⟨p,l⟩:Place).v,.str wOnly] (.str (numTx (onlyV p l))):=by
 obtain ⟨h1,h4,hc,h6⟩:=allOk_of h
 have hst:=l4Story_fn p l (by omega) (by omega) (by omega) hc
 have how:=onlyWorldS_fn p l h
 by_cases hb:(sw p l).length=1
 ·have hbt:onlyB p l=true:=decide_eq_true hb
  obtain ⟨w,hw⟩:=List.length_eq_one_iff.1 hb
  have hov:=onlyV_one hw
  have hwl:=sw_lt (p:=p) (l:=l) (w:=w) (by omega) (by rw [hw]; simp)
  have hnt:=l1Number2_fn (onlyV p l) (by omega) (by omega)
  rw [hbt] at how
  rw [numTx_pos (by omega)]
  generalize dec (onlyV p l)=r at *
  generalize onlyV p l=q at *
  refine FZ (rs:=[.tmp 4]) false Tryz.func29 ?_
  simp -dsimp
  refine cl hst ?_
  simp -dsimp [wOnly]
  refine cl how ?_
  simp -dsimp
  refine cl hnt ?_
  simp -dsimp
 ·have hbt:onlyB p l=false:=decide_eq_false hb
  have hov:=onlyV_not hb
  rw [hbt] at how
  rw [numTx_neg (by omega)]
  refine FZ (rs:=[.tmp 4]) false Tryz.func29 ?_
  simp -dsimp
  refine cl hst ?_
  simp -dsimp [wOnly]
  refine cl how ?_
  simp -dsimp [wNone]
theorem answerS_known (p:Nat) (l:List Claim) (h:storyOk p l=true):FnZ Tryz.prog 29 [(⟨p,l⟩:Place).v,.str wKnown] (.str (rowTx (knownL p l))):=by
 obtain ⟨h1,h4,hc,h6⟩:=allOk_of h
 have hst:=l4Story_fn p l (by omega) (by omega) (by omega) hc
 have hkp:=knownPeopleS_fn p l h
 have hkl:(knownL p l).length≤16:=by unfold knownL; split <;> simp; omega
 have hrt:=l15Row_fn (knownL p l) hkl (fun n hn=>by
  unfold knownL at hn
  split at hn
  ·cases hn
  ·obtain ⟨i,_,rfl⟩:=List.mem_map.1 hn
   have:=knownOf_le (sw p l) i; omega)
 generalize rowTx (knownL p l)=r at *
 refine FZ (rs:=[.tmp 4]) false Tryz.func29 ?_
 simp -dsimp
 refine cl hst ?_
 simp -dsimp [wKnown]
 refine cl hkp ?_
 simp -dsimp
 refine cl hrt ?_
 simp -dsimp
theorem answerS_needless (p:Nat) (l:List Claim) (h:storyOk p l=true):FnZ Tryz.prog 29 [(⟨p,l⟩:Place).v,.str wNeedless] (.str (rowTx ((needless p l).map fun w=>((w:Nat):Int)))):=by
 obtain ⟨h1,h4,hc,h6⟩:=allOk_of h
 have hst:=l4Story_fn p l (by omega) (by omega) (by omega) hc
 have hnd:=needlessS_fn p l h
 have hnl:(needless p l).length≤l.length:=by
  have:=List.length_filter_le (fun i=>decide (storyTab p (l.eraseIdx i)=storyTab p l)) (List.range l.length)
  simpa [needless] using this
 have hrt:=l15Row_fn ((needless p l).map fun w=>((w:Nat):Int)) (by simp only [List.length_map]; omega) (fun n hn=>by
  obtain ⟨w,hw,rfl⟩:=List.mem_map.1 hn
  have:=(List.mem_filter.1 hw).1
  simp at this; omega)
 generalize rowTx ((needless p l).map fun w=>((w:Nat):Int))=r at *
 refine FZ (rs:=[.tmp 4]) false Tryz.func29 ?_
 simp -dsimp
 refine cl hst ?_
 simp -dsimp [wNeedless]
 refine cl hnd ?_
 simp -dsimp
 refine cl hrt ?_
 simp -dsimp
theorem answerS_spies (p:Nat) (l:List Claim) (h:storyOk p l=true):FnZ Tryz.prog 29 [(⟨p,l⟩:Place).v,.str wSpies] (.str (numTx (fewest (spyOk l) p:Nat))):=by
 obtain ⟨h1,h4,hc,h6⟩:=allOk_of h
 have hst:=l4Story_fn p l (by omega) (by omega) (by omega) hc
 have hfs:=fewestSpiesS_fn p l h
 have hle:=(fewest_spec (spyOk_all (p:=p) hc)).1
 have hnt:=l1Number2_fn (fewest (spyOk l) p:Nat) (by omega) (by omega)
 rw [numTx_pos (by omega)]
 generalize dec (fewest (spyOk l) p:Nat)=r at *
 refine FZ (rs:=[.tmp 4]) false Tryz.func29 ?_
 simp -dsimp
 refine cl hst ?_
 simp -dsimp [wSpies]
 refine cl hfs ?_
 simp -dsimp
 refine cl hnt ?_
 simp -dsimp
theorem answerS_asks (p:Nat) (l:List Claim) (h:storyOk p l=true):FnZ Tryz.prog 29 [(⟨p,l⟩:Place).v,.str wAsks] (.str (numTx (la p (storyTab p l)))):=by
 obtain ⟨h1,h4,hc,h6⟩:=allOk_of h
 have hst:=l4Story_fn p l (by omega) (by omega) (by omega) hc
 have hla:=leastAsksS_fn p (storyTab p l)
 have hT:InT p (storyTab p l):=storyTab_le p l
 have hle:la p (storyTab p l)≤99:=by
  rw [la_ok (by omega) (by omega) hT]
  have:=lv_lt (m:=p) (by omega) hT
  omega
 have hl1:=fun h0=>l1Number2_fn (la p (storyTab p l)) h0 hle
 generalize la p (storyTab p l)=q at *
 by_cases hq:q<0
 ·rw [numTx_neg hq]
  refine FZ (rs:=[.tmp 4]) false Tryz.func29 ?_
  simp -dsimp
  refine cl hst ?_
  simp -dsimp [wAsks]
  refine cl hla ?_
  simp -dsimp [hq,wNone]
 ·have hnt:=hl1 (by omega)
  rw [numTx_pos hq]
  generalize dec q=r at *
  refine FZ (rs:=[.tmp 4]) false Tryz.func29 ?_
  simp -dsimp
  refine cl hst ?_
  simp -dsimp [wAsks]
  refine cl hla ?_
  simp -dsimp [hq]
  refine cl hnt ?_
  simp -dsimp
theorem answerS_many (p:Nat) (l:List Claim) (h:storyOk p l=true) (line:List UInt8) (hl:line.length≤2000000000) (hn:noWord line) (hr:(cutAt 32 line).length ≠ 2):FnZ Tryz.prog 29 [(⟨p,l⟩:Place).v,.str line] (.str wWhat):=by
 obtain ⟨h1,h4,hc,h6⟩:=allOk_of h
 have hst:=l4Story_fn p l (by omega) (by omega) (by omega) hc
 have hcut:=l1Cut_fn line 32 hl
 obtain ⟨hn1,hn2,hn3,hn4,hn5,hn6,hn7⟩:=hn
 simp only [wPlace,wWorlds,wOnly,wKnown,wNeedless,wSpies,wAsks] at hn1 hn2 hn3 hn4 hn5 hn6 hn7
 obtain ⟨C,hC⟩:∃ C,cutAt 32 line=C:=⟨_,rfl⟩
 rw [hC] at hcut hr
 have hr2:¬(C.length:Int)=2:=by omega
 refine FZ (rs:=[.tmp 4]) false Tryz.func29 ?_
 simp -dsimp
 refine cl hst ?_
 simp -dsimp [hn1,hn2,hn3,hn4,hn5,hn6,hn7]
 refine cl hcut ?_
 simp -dsimp [hr,hr2,wWhat]
theorem answerS_none (p:Nat) (l:List Claim) (h:storyOk p l=true) (line w r:List UInt8) (hl:line.length≤2000000000) (hn:noWord line) (hC:cutAt 32 line=[w,r]) (hr:readT p r=none):FnZ Tryz.prog 29 [(⟨p,l⟩:Place).v,.str line] (.str (wWhat)):=by
 obtain ⟨h1,h4,hc,h6⟩:=allOk_of h
 have hst:=l4Story_fn p l (by omega) (by omega) (by omega) hc
 have hcut:=l1Cut_fn line 32 hl
 have hrt:=readTermS_fn p r
 obtain ⟨hn1,hn2,hn3,hn4,hn5,hn6,hn7⟩:=hn
 simp only [wPlace,wWorlds,wOnly,wKnown,wNeedless,wSpies,wAsks] at hn1 hn2 hn3 hn4 hn5 hn6 hn7
 rw [hC] at hcut
 rw [hr] at hrt
 simp only [optV,Option.getD_none,Option.isSome_none] at hrt
 refine FZ (rs:=[.tmp 4]) false Tryz.func29 ?_
 simp -dsimp
 refine cl hst ?_
 simp -dsimp [hn1,hn2,hn3,hn4,hn5,hn6,hn7]
 refine cl hcut ?_
 simp -dsimp
 refine twd (List.range 11) [0] (List.replicate 11 [0]) (List.replicate 11 [0]) ?_
 simp -dsimp [List.range_succ]
 refine cl hrt ?_
 simp -dsimp [wWhat]
theorem answerS_follows (p:Nat) (l:List Claim) (h:storyOk p l=true) (line w r:List UInt8) (hl:line.length≤2000000000) (hn:noWord line) (hC:cutAt 32 line=[w,r]) (t:List Mark) (hr:readT p r=some t) (hw:w=wFollows):FnZ Tryz.prog 29 [(⟨p,l⟩:Place).v,.str line] (.str (if followsB p l t=true then wYes else wNo)):=by
 obtain ⟨h1,h4,hc,h6⟩:=allOk_of h
 have hst:=l4Story_fn p l (by omega) (by omega) (by omega) hc
 have hcut:=l1Cut_fn line 32 hl
 have hrt:=readTermS_fn p r
 obtain ⟨hn1,hn2,hn3,hn4,hn5,hn6,hn7⟩:=hn
 simp only [wPlace,wWorlds,wOnly,wKnown,wNeedless,wSpies,wAsks] at hn1 hn2 hn3 hn4 hn5 hn6 hn7
 rw [hC] at hcut
 rw [hr] at hrt
 simp only [optV,Option.getD_some,Option.isSome_some] at hrt
 have hto:=(readT_is hr).2.1
 have hff:=followsFromS_fn p l t h hto
 simp only [wFollows] at hw
 subst hw
 have hb:=ft (followsB p l t)
 rcases hb with hb | hb
 ·rw [hb] at hff ⊢
  refine FZ (rs:=[.tmp 4]) false Tryz.func29 ?_
  simp -dsimp
  refine cl hst ?_
  simp -dsimp [hn1,hn2,hn3,hn4,hn5,hn6,hn7]
  refine cl hcut ?_
  simp -dsimp
  refine twd (List.range 11) [0] (List.replicate 11 [0]) (List.replicate 11 [0]) ?_
  simp -dsimp [List.range_succ]
  refine cl hrt ?_
  simp -dsimp
  refine cl hff ?_
  simp -dsimp [wNo]
 ·rw [hb] at hff ⊢
  refine FZ (rs:=[.tmp 4]) false Tryz.func29 ?_
  simp -dsimp
  refine cl hst ?_
  simp -dsimp [hn1,hn2,hn3,hn4,hn5,hn6,hn7]
  refine cl hcut ?_
  simp -dsimp
  refine twd (List.range 11) [0] (List.replicate 11 [0]) (List.replicate 11 [0]) ?_
  simp -dsimp [List.range_succ]
  refine cl hrt ?_
  simp -dsimp
  refine cl hff ?_
  simp -dsimp [wYes]
theorem answerS_proof (p:Nat) (l:List Claim) (h:storyOk p l=true) (line w r:List UInt8) (hl:line.length≤2000000000) (hn:noWord line) (hC:cutAt 32 line=[w,r]) (t:List Mark) (hr:readT p r=some t) (hw:w=wProof):FnZ Tryz.prog 29 [(⟨p,l⟩:Place).v,.str line] (.str (match findT p l t p 0 with
  | some y=>y.tx
  | none=>wNone)):=by
 obtain ⟨h1,h4,hc,h6⟩:=allOk_of h
 have hst:=l4Story_fn p l (by omega) (by omega) (by omega) hc
 have hcut:=l1Cut_fn line 32 hl
 have hrt:=readTermS_fn p r
 obtain ⟨hn1,hn2,hn3,hn4,hn5,hn6,hn7⟩:=hn
 simp only [wPlace,wWorlds,wOnly,wKnown,wNeedless,wSpies,wAsks] at hn1 hn2 hn3 hn4 hn5 hn6 hn7
 rw [hC] at hcut
 rw [hr] at hrt
 simp only [optV,Option.getD_some,Option.isSome_some] at hrt
 have hto:=(readT_is hr).2.1
 have hfp:=findProofS_fn p l t h hto
 have hfo:=fun y (hy:findT p l t p 0=some y)=>findT_ok p 0 y (Nat.le_refl _) hy
 obtain ⟨o,ho⟩:∃ o,findT p l t p 0=o:=⟨_,rfl⟩
 rw [ho] at hfp hfo ⊢
 simp only [wProof] at hw
 subst hw
 cases o with
 | none =>
  obtain ⟨PV,hPV⟩:∃ x,proofV none=.agg [.int .i64 0,.sl x]:=⟨_,rfl⟩
  rw [hPV] at hfp
  simp only [Option.isSome_none] at hfp
  refine FZ (rs:=[.tmp 4]) false Tryz.func29 ?_
  simp -dsimp
  refine cl hst ?_
  simp -dsimp [hn1,hn2,hn3,hn4,hn5,hn6,hn7]
  refine cl hcut ?_
  simp -dsimp
  refine twd (List.range 11) [0] (List.replicate 11 [0]) (List.replicate 11 [0]) ?_
  simp -dsimp [List.range_succ]
  refine cl hrt ?_
  simp -dsimp
  refine cl hfp ?_
  simp -dsimp [wNone]
 | some y =>
  obtain ⟨y1,y2⟩:=hfo y rfl
  rw [Nat.sub_self] at y1
  have hp2:=pow_small (p:=p) (by omega)
  have hpt:=proofTextS_fn p l t h hto y y1 (by omega)
  obtain ⟨F,hF⟩:∃ F,y.to 0=F:=⟨_,rfl⟩
  obtain ⟨rv,hrv⟩:∃ rv,(y.row 0).map Sp.v=rv:=⟨_,rfl⟩
  have hpv:proofV (some y)=.agg [.int .i64 F,.sl rv]:=by rw [← hF,← hrv]; rfl
  rw [hpv] at hfp hpt
  simp only [Option.isSome_some] at hfp
  obtain ⟨X,hX⟩:∃ X,y.tx=X:=⟨_,rfl⟩
  rw [hX] at hpt
  simp only [hX]
  refine FZ (rs:=[.tmp 4]) false Tryz.func29 ?_
  simp -dsimp
  refine cl hst ?_
  simp -dsimp [hn1,hn2,hn3,hn4,hn5,hn6,hn7]
  refine cl hcut ?_
  simp -dsimp
  refine twd (List.range 11) [0] (List.replicate 11 [0]) (List.replicate 11 [0]) ?_
  simp -dsimp [List.range_succ]
  refine cl hrt ?_
  simp -dsimp
  refine cl hfp ?_
  simp -dsimp
  refine cl hpt ?_
  simp -dsimp
theorem answerS_count (p:Nat) (l:List Claim) (h:storyOk p l=true) (line w r:List UInt8) (hl:line.length≤2000000000) (hn:noWord line) (hC:cutAt 32 line=[w,r]) (t:List Mark) (hr:readT p r=some t) (hw:w=wCount):FnZ Tryz.prog 29 [(⟨p,l⟩:Place).v,.str line] (.str (dec (((worldsOf p (storyTab p l &&& termTab p t)).length:Nat):Int))):=by
 obtain ⟨h1,h4,hc,h6⟩:=allOk_of h
 have hst:=l4Story_fn p l (by omega) (by omega) (by omega) hc
 have hcut:=l1Cut_fn line 32 hl
 have hrt:=readTermS_fn p r
 obtain ⟨hn1,hn2,hn3,hn4,hn5,hn6,hn7⟩:=hn
 simp only [wPlace,wWorlds,wOnly,wKnown,wNeedless,wSpies,wAsks] at hn1 hn2 hn3 hn4 hn5 hn6 hn7
 rw [hC] at hcut
 rw [hr] at hrt
 simp only [optV,Option.getD_some,Option.isSome_some] at hrt
 have hto:=(readT_is hr).2.1
 have htt:=l3Table_fn p t hto
 have hs1:=storyTab_le p l
 have hs0:=storyTab_small (p:=p) (by omega) l
 have ht0:=termTab_small (p:=p) (by omega) t
 have hT:InT p (storyTab p l &&& termTab p t):=Nat.lt_of_le_of_lt Nat.and_le_left hs1
 have hle:=worldsOf_le (p:=p) (by omega) (storyTab p l &&& termTab p t)
 have hand:=and_nn (a:=storyTab p l) (b:=termTab p t) (by omega) (by omega)
 have hcn:=cnt_worlds hT
 have hhd:=l1Heads_fn (storyTab p l &&& termTab p t) (by have:storyTab p l &&& termTab p t≤storyTab p l:=Nat.and_le_left; omega)
 rw [hcn] at hhd
 have hit:=l1Number2_fn ((worldsOf p (storyTab p l &&& termTab p t)).length:Nat) (by omega) (by omega)
 simp only [wCount] at hw
 subst hw
 obtain ⟨A,hA⟩:∃ A,storyTab p l=A:=⟨_,rfl⟩
 obtain ⟨B,hB⟩:∃ B,termTab p t=B:=⟨_,rfl⟩
 rw [hA] at hst hhd hand hit ⊢
 rw [hB] at htt hhd hand hit ⊢
 obtain ⟨WL,hWL⟩:∃ WL,(worldsOf p (A &&& B)).length=WL:=⟨_,rfl⟩
 rw [hWL] at hhd hit ⊢
 obtain ⟨D,hD⟩:∃ D,dec ((WL:Nat):Int)=D:=⟨_,rfl⟩
 rw [hD] at hit ⊢
 refine FZ (rs:=[.tmp 4]) false Tryz.func29 ?_
 simp -dsimp
 refine cl hst ?_
 simp -dsimp [hn1,hn2,hn3,hn4,hn5,hn6,hn7]
 refine cl hcut ?_
 simp -dsimp
 refine twd (List.range 11) [0] (List.replicate 11 [0]) (List.replicate 11 [0]) ?_
 simp -dsimp [List.range_succ]
 refine cl hrt ?_
 simp -dsimp
 refine cl htt ?_
 simp -dsimp [hand]
 refine cl hhd ?_
 simp -dsimp
 refine cl hit ?_
 simp -dsimp
theorem answerS_else (p:Nat) (l:List Claim) (h:storyOk p l=true) (line w r:List UInt8) (hl:line.length≤2000000000) (hn:noWord line) (hC:cutAt 32 line=[w,r]) (t:List Mark) (hr:readT p r=some t) (hw:¬w=wFollows∧¬w=wProof∧¬w=wCount):FnZ Tryz.prog 29 [(⟨p,l⟩:Place).v,.str line] (.str (wWhat)):=by
 obtain ⟨h1,h4,hc,h6⟩:=allOk_of h
 have hst:=l4Story_fn p l (by omega) (by omega) (by omega) hc
 have hcut:=l1Cut_fn line 32 hl
 have hrt:=readTermS_fn p r
 obtain ⟨hn1,hn2,hn3,hn4,hn5,hn6,hn7⟩:=hn
 simp only [wPlace,wWorlds,wOnly,wKnown,wNeedless,wSpies,wAsks] at hn1 hn2 hn3 hn4 hn5 hn6 hn7
 rw [hC] at hcut
 rw [hr] at hrt
 simp only [optV,Option.getD_some,Option.isSome_some] at hrt
 have hto:=(readT_is hr).2.1
 obtain ⟨w1,w2,w3⟩:=hw
 simp only [wFollows,wProof,wCount] at w1 w2 w3
 refine FZ (rs:=[.tmp 4]) false Tryz.func29 ?_
 simp -dsimp
 refine cl hst ?_
 simp -dsimp [hn1,hn2,hn3,hn4,hn5,hn6,hn7]
 refine cl hcut ?_
 simp -dsimp
 refine twd (List.range 11) [0] (List.replicate 11 [0]) (List.replicate 11 [0]) ?_
 simp -dsimp [List.range_succ]
 refine cl hrt ?_
 simp -dsimp [w1,w2,w3,wWhat]
theorem answerS_fn (q:Place) (hq:placeOk q=true) (line:List UInt8) (hl:line.length≤2000000000):FnZ Tryz.prog 29 [q.v,.str line] (.str (ans q line)):=by
 obtain ⟨people,l⟩:=q
 have h:storyOk people l=true:=hq
 obtain ⟨p,rfl⟩:=Int.eq_ofNat_of_zero_le (show 0≤people by have:=(allOk_of h).1; omega)
 unfold ans
 simp only [Int.toNat_natCast]
 by_cases c1:line=wPlace
 ·rw [if_pos c1,c1]; exact answerS_place p l h
 by_cases c2:line=wWorlds
 ·rw [if_neg c1,if_pos c2,c2]; exact answerS_worlds p l h
 by_cases c3:line=wOnly
 ·rw [if_neg c1,if_neg c2,if_pos c3,c3]; exact answerS_only p l h
 by_cases c4:line=wKnown
 ·rw [if_neg c1,if_neg c2,if_neg c3,if_pos c4,c4]; exact answerS_known p l h
 by_cases c5:line=wNeedless
 ·rw [if_neg c1,if_neg c2,if_neg c3,if_neg c4,if_pos c5,c5]; exact answerS_needless p l h
 by_cases c6:line=wSpies
 ·rw [if_neg c1,if_neg c2,if_neg c3,if_neg c4,if_neg c5,if_pos c6,c6]; exact answerS_spies p l h
 by_cases c7:line=wAsks
 ·rw [if_neg c1,if_neg c2,if_neg c3,if_neg c4,if_neg c5,if_neg c6,if_pos c7,c7]; exact answerS_asks p l h
 rw [if_neg c1,if_neg c2,if_neg c3,if_neg c4,if_neg c5,if_neg c6,if_neg c7]
 have hn:noWord line:=⟨c1,c2,c3,c4,c5,c6,c7⟩
 rcases two_words p line with ⟨w,r,hC,e1,e2⟩ | ⟨hm,hnone⟩
 ·rw [e1,e2]
  cases hr:readT p r with
  | none=>exact answerS_none p l h line w r hl hn hC hr
  | some t =>
   show FnZ Tryz.prog 29 _ (.str (askT p l w t))
   unfold askT
   by_cases d1:w=wFollows
   ·rw [if_pos d1]; exact answerS_follows p l h line w r hl hn hC t hr d1
   by_cases d2:w=wProof
   ·rw [if_neg d1,if_pos d2]; exact answerS_proof p l h line w r hl hn hC t hr d2
   by_cases d3:w=wCount
   ·rw [if_neg d1,if_neg d2,if_pos d3]; exact answerS_count p l h line w r hl hn hC t hr d3
   rw [if_neg d1,if_neg d2,if_neg d3]; exact answerS_else p l h line w r hl hn hC t hr ⟨d1,d2,d3⟩
 ·rw [hnone]; exact answerS_many p l h line hl hn hm
end TL

namespace TL
open Go Go.Proofs
attribute [local simp] marksV storyV codeV Claim.v Place.v
theorem mkT_flat (l:List Mark):(l.map Mark.v).flatMap (fun x=>x.cells.map T.v)=mkT l:=by
 induction l with
 | nil=>rfl
 | cons a l ih=>rw [List.map_cons,List.flatMap_cons,ih]; rfl
/-- Marks that count on from k. -/
def cnts (k:Int):Nat→List Mark
 | 0=>[]
 | n+1=>cnts k n++[⟨k+2 * n,k+2 * n+1⟩]
@[simp] theorem cnts_length (k:Int) (n:Nat):(cnts k n).length=n:=by
 induction n with
 | zero=>rfl
 | succ n ih=>simp [cnts,ih]
/-- A row of marks in memory of one's own. -/
def OwnRow (m':Mem) (n n':Nat) (st:T) (l:List Mark):Prop:=∃ id,st=.sv id 0 l.length∧n≤id∧id<n'∧m' id=some (.box 119 2 (mkT l))
theorem cloneMarks_own (l:List Mark) (h0:l ≠ []) (hl:l.length≤1048576) (m:Mem) (n:Nat):FnS Tryz.prog 143 m n [.v (marksV l)] (fun t m' n'=>n≤n'∧(∀ j,j<n→m' j=m j)∧OwnRow m' n n' t l):=by
 have b1:l.length * 16≤140737488355328:=by omega
 have hfl:=mkT_flat l
 refine FS (rs:=[.tmp 2]) true Tryz.func143 ?_
 simp -dsimp [b1,h0,hfl]
 exact ⟨by omega,fun j hj=>by simp [far hj],n+1,rfl,by omega,by omega,by simp⟩
end TL

namespace TL
open Go Go.Proofs
attribute [local simp] marksV storyV codeV Claim.v Place.v
def clT:List Claim→List Nat→List T
 | c :: l,j :: js=>.v (.int .i64 c.who) :: .sv j 0 c.says.length :: clT l js
 | _,_=>[]
@[simp] theorem clT_nil (js:List Nat):clT [] js=[]:=by cases js <;> rfl
@[simp] theorem clT_cons (c:Claim) (l:List Claim) (j:Nat) (js:List Nat):clT (c :: l) (j :: js)=.v (.int .i64 c.who) :: .sv j 0 c.says.length :: clT l js:=rfl
theorem clT_app:∀ (A B:List Claim) (ja jb:List Nat),A.length=ja.length→clT (A++B) (ja++jb)=clT A ja++clT B jb
 | [],B,[],jb,h=>rfl
 | c :: A,B,j :: ja,jb,h=>by simp [clT_app A B ja jb (by simpa using h)]
 | [],B,j :: ja,jb,h=>by simp at h
 | c :: A,B,[],jb,h=>by simp at h
theorem clT_len:∀ (A:List Claim) (ja:List Nat),A.length=ja.length→(clT A ja).length=A.length * 2
 | [],[],h=>rfl
 | c :: A,j :: ja,h=>by simp [clT_len A ja (by simpa using h)]; omega
 | [],j :: ja,h=>by simp at h
 | c :: A,[],h=>by simp at h
theorem clT_cells:∀ (A:List Claim) (ja:List Nat),allC (clT A ja)
 | [],ja=>by simp
 | c :: A,[]=>by simp [clT]
 | c :: A,j :: ja=>by simp; exact clT_cells A ja
/-- The rows of marks lie where the ids say. -/
def Says (m:Mem):List Claim→List Nat→Prop
 | [],[]=>True
 | c :: l,j :: js=>m j=some (.box 119 2 (mkT c.says))∧Says m l js
 | _,_=>False
theorem Says.len {m:Mem} : ∀ {l:List Claim} {js:List Nat},Says m l js→l.length=js.length
 | [],[],_=>rfl
 | c :: l,j :: js,h=>by simp [Says.len h.2]
 | [],j :: js,h=>h.elim
 | c :: l,[],h=>h.elim
theorem Says.keep {m m':Mem} : ∀ {l:List Claim} {js:List Nat},Says m l js→(∀ j ∈ js,m' j=m j)→Says m' l js
 | [],[],_,_=>trivial
 | c :: l,j :: js,h,hk=>⟨by rw [hk j (by simp)]; exact h.1,h.2.keep fun x hx=>hk x (by simp [hx])⟩
 | [],j :: js,h,_=>h.elim
 | c :: l,[],h,_=>h.elim
theorem Says.app {m:Mem} : ∀ {A B:List Claim} {ja jb:List Nat},A.length=ja.length→(Says m (A++B) (ja++jb)↔Says m A ja∧Says m B jb)
 | [],B,[],jb,h=>by simp [Says]
 | c :: A,B,j :: ja,jb,h=>by
  have:=Says.app (m:=m) (A:=A) (B:=B) (ja:=ja) (jb:=jb) (by simpa using h)
  simp only [List.cons_append,Says,this,and_assoc]
 | [],B,j :: ja,jb,h=>by simp at h
 | c :: A,B,[],jb,h=>by simp at h
theorem clT_bor {m:Mem} (d:Nat):∀ {l:List Claim} {js:List Nat},Says m l js→mapO (bor true m (d+1)) (clT l js)=some (l.flatMap fun c=>c.v.cells)
 | [],[],_=>rfl
 | c :: l,j :: js,h=>by
  have e:=bor_marks (m:=m) (i:=j) (e:=119) (ms:=c.says) d h.1
  have e2:=clT_bor d h.2
  simp only [marksV] at e
  simp [mapO,e,e2,V.cells]
 | [],j :: js,h=>h.elim
 | c :: l,[],h=>h.elim
theorem clV_cell (l:List Claim):∀ x ∈ (l.flatMap fun c=>c.v.cells),x.cell=true:=by
 intro x hx
 obtain ⟨p,_,hp⟩:=List.mem_flatMap.1 hx
 simp [V.cells] at hp
 rcases hp with rfl | rfl <;> rfl
theorem clV_chunk (l:List Claim):chunk 2 l.length (l.flatMap fun c=>c.v.cells)=l.map Claim.v:=by
 induction l with
 | nil=>rfl
 | cons x xs ih=>simp [chunk,V.cells]; simpa [V.cells] using ih
theorem bor_claims {m:Mem} {i e:Nat} {l:List Claim} {js:List Nat} (d:Nat) (h:m i=some (.box e 2 (clT l js))) (hs:Says m l js):bor true m (d+2) (.sv i 0 l.length)=some (.sl (l.map Claim.v)):=by
 have hl:=clT_len l js hs.len
 have c1:0+l.length * 2≤(clT l js).length:=by omega
 show (match m i with | some (.box _ z cs)=>tst (0+l.length * z≤cs.length) (obind (mapO (TL.bor true m (d+1)) ((cs.drop 0).take (l.length * z))) fun xs=>tst (∀ x ∈ xs,x.cell=true) (some (V.sl (chunk z l.length xs)))) | _=>none)=_
 rw [h]
 show tst (0+l.length * 2≤(clT l js).length) (obind (mapO (TL.bor true m (d+1)) (((clT l js).drop 0).take (l.length * 2))) fun xs=>tst (∀ x ∈ xs,x.cell=true) (some (V.sl (chunk 2 l.length xs))))=_
 rw [tst_pos c1,List.drop_zero,List.take_of_length_le (by omega),clT_bor d hs,obind_some,tst_pos (clV_cell l),clV_chunk]
/-! Marks. -/
def mkc (k:Int):List Claim→List Claim
 | []=>[]
 | c :: l=>⟨k,cnts (k+1) c.says.length⟩ :: mkc (k+1+2 * c.says.length) l
def mkn (k:Int):List Claim→Int
 | []=>k
 | c :: l=>mkn (k+1+2 * c.says.length) l
@[simp] theorem mkc_length:∀ (l:List Claim) (k:Int),(mkc k l).length=l.length
 | [],k=>rfl
 | c :: l,k=>by simp [mkc,mkc_length l]
end TL

namespace TL
open Go Go.Proofs
attribute [local simp] marksV storyV codeV Claim.v Place.v
def OwnRowC (m:Mem) (lo hi:Nat) (st:T) (l:List Claim) (js:List Nat):Prop:=(∀ j ∈ js,lo≤j∧j<hi)∧js.Nodup∧Says m l js∧((st=.nil∧l=[]∧js=[])∨∃ id,st=.sv id 0 l.length∧lo≤id∧id<hi∧id ∉ js∧m id=some (.box 63 2 (clT l js)))
end TL

namespace TL
open Go Go.Proofs
attribute [local simp] marksV storyV codeV Claim.v Place.v
theorem OwnRowC.cell {m:Mem} {lo hi:Nat} {st:T} {l:List Claim} {js:List Nat} (h:OwnRowC m lo hi st l js):st.cell=true:=by
 rcases h.2.2.2 with ⟨rfl,_⟩ | ⟨id,rfl,_⟩ <;> rfl
theorem OwnRowC.cells {m:Mem} {lo hi:Nat} {st:T} {l:List Claim} {js:List Nat} (h:OwnRowC m lo hi st l js):st.cells=[st]:=by
 rcases h.2.2.2 with ⟨rfl,_⟩ | ⟨id,rfl,_⟩ <;> rfl
theorem OwnRowC.keep {m m':Mem} {lo hi:Nat} {st:T} {l:List Claim} {js:List Nat} (h:OwnRowC m lo hi st l js) (hk:∀ j,lo≤j→j<hi→m' j=m j):OwnRowC m' lo hi st l js:=by
 obtain ⟨h1,h2,h3,h4⟩:=h
 refine ⟨h1,h2,h3.keep fun j hj=>hk j (h1 j hj).1 (h1 j hj).2, ?_⟩
 rcases h4 with h4 | ⟨id,e,i0,i1,i2,i3⟩
 ·exact .inl h4
 ·exact .inr ⟨id,e,i0,i1,i2,by rw [hk id i0 i1,i3]⟩
theorem OwnRowC.bor {m:Mem} {lo hi:Nat} {st:T} {l:List Claim} {js:List Nat} (h:OwnRowC m lo hi st l js) (d:Nat):TL.bor true m (d+2) st=some (.sl (l.map Claim.v)):=by
 obtain ⟨h1,h2,h3,h4⟩:=h
 rcases h4 with ⟨rfl,rfl,rfl⟩ | ⟨id,rfl,i0,i1,i2,i3⟩
 ·rfl
 ·exact bor_claims d i3 h3
end TL

namespace TL
open Go Go.RowKit
variable {P:Program}
mutual
/-- Values of a frame that name nothing but its own memory. -/
def T.fl:T→Bool
 | .v x=>x.flat
 | .nil=>true
 | .sv _ _ _=>true
 | .ptr _ _=>true
 | .agg cs=>flT cs
 | .tup cs=>flT cs
 | _=>false
def flT:List T→Bool
 | []=>true
 | x :: xs=>x.fl && flT xs
end
@[simp] theorem flT_nil:flT []=true:=rfl
@[simp] theorem flT_cons (x:T) (xs:List T):flT (x :: xs)=(x.fl && flT xs):=rfl
@[simp] theorem fl_v (x:V):(T.v x).fl=x.flat:=rfl
@[simp] theorem fl_nil:T.nil.fl=true:=rfl
@[simp] theorem fl_sv (i j k:Nat):(T.sv i j k).fl=true:=rfl
@[simp] theorem fl_ptr (i j:Nat):(T.ptr i j).fl=true:=rfl
@[simp] theorem fl_agg (cs:List T):(T.agg cs).fl=flT cs:=rfl
@[simp] theorem fl_tup (cs:List T):(T.tup cs).fl=flT cs:=rfl
theorem flT_append (a b:List T):flT (a++b)=(flT a && flT b):=by
 induction a with
 | nil=>simp
 | cons x xs ih=>simp [ih,Bool.and_assoc]
def Blk.fl:Blk→Bool
 | .box _ _ cs=>flT cs
 | _=>false
section
variable {φ:Phi} {Z Z':Zs} {w w':World}
end
end TL

namespace TL
open Go Go.Proofs
attribute [local simp] marksV storyV codeV Claim.v Place.v Desk.v
def IcsO (l:List Claim) (m0:Mem) (n0:Nat) (e:Nat) (s:S):Prop:=∃ (i id:Nat) (js:List Nat),s.tm 7=.v (.sl (l.map Claim.v))∧s.tm 8=.v (.int .i64 l.length)∧s.tm 9=.v (.int .i64 i)∧s.mu=true∧i≤l.length∧s.tm 3=.sv id 0 i∧n0≤id∧id<s.n∧id ∉ js∧s.m id=some (.box 63 2 (clT (l.take i) js)) ∧
 (∀ j ∈ js,n0≤j∧j<s.n)∧js.Nodup∧Says s.m (l.take i) js∧(∀ j,j<n0→s.m j=m0 j)∧(e=1→i=l.length)
theorem copyStory_deep (l:List Claim) (hl:l.length≤1048576) (hs:∀ c ∈ l,c.small) (hne:∀ c ∈ l,c.says ≠ []) (m:Mem) (n:Nat):FnS Tryz.prog 105 m n [.v (storyV l)] (fun t m' n'=>n≤n'∧(∀ j,j<n→m' j=m j)∧∃ js,OwnRowC m' n n' t l js):=by
 refine FS (rs:=[.tmp 2]) true Tryz.func105 ?_
 simp -dsimp
 refine twp_loopC (IcsO l m n 0) (fun s=>l.length-natOf (s.tm 9)) (IcsO l m n 1) ?_ ?_ ?_
 ·exact ⟨0,n,[],by simp -dsimp,by simp -dsimp,by simp -dsimp,by simp -dsimp,by omega,by simp -dsimp,Nat.le_refl _,by simp -dsimp,by simp,by simp -dsimp,by simp,List.nodup_nil,trivial,fun j j1=>by simp -dsimp [far j1],by simp⟩
 ·rintro s ⟨i,id,js,t7,t8,t9,hmu,hi,t3,hid0,hid,hin,hm,hjs,hnd,hsy,hout,hend⟩
  by_cases hlt:i<l.length
  case neg =>
   simp -dsimp [t8,t9,hlt]
   exact ⟨i,id,js,by simp -dsimp [t7],by simp -dsimp [t8],by simp -dsimp [t9],by simp -dsimp [hmu],hi,by simp -dsimp [t3],hid0,by simp -dsimp [hid],hin,by simp -dsimp [hm],fun j hj=>by have:=hjs j hj; simp -dsimp; omega,hnd,hsy,fun j j1=>by simp -dsimp [hout j j1],fun _=>by omega⟩
  have hget:(l.map Claim.v)[i]? = some (l[i].v):=by simp [hlt]
  have wi:IntKind.wrap .i64 ((i:Int)+1)=((i+1:Nat):Int):=by rw [w64 (by omega) (by omega)]; omega
  have hmu1:l.length-(i+1)<l.length-i:=by omega
  have f1:=far hid
  have b1:(i+1) * 32≤140737488355328:=by omega
  have htk:l.take (i+1)=l.take i++[l[i]]:=List.take_succ_eq_append_getElem hlt
  have htl:(l.take i).length=i:=by simp; omega
  have r5:=clT_len (l.take i) js hsy.len
  have r6:=clT_cells (l.take i) js
  have hcm:=List.getElem_mem hlt
  have hclone:=fun m n=>cloneMarks_own l[i].says (hne _ hcm) (hs _ hcm) m n
  rw [htl] at r5
  generalize hc:l[i]=c at *
  obtain ⟨c1,c2⟩:=c
  simp -dsimp [t7,t8,t9,hlt,hget,hc]
  refine twd (List.range 10) [s.n] (List.replicate 10 [0]) (List.replicate 10 [0]) ?_
  simp -dsimp [List.range_succ,t3]
  refine callS_ (hclone _ _) ?_
  rintro t m2 n2 ⟨hn2,hout2,id2,rfl,i0,i1,him2⟩
  have k0:=hout2 s.n (by omega)
  have k1:=hout2 id (by omega)
  have g0:=far (show s.n<n2 by omega)
  have g1:=far (show id<n2 by omega)
  have g2:=far i1
  simp -dsimp [f1,hm] at k0 k1
  simp -dsimp [List.range_succ,t3,t9,hmu,f1,hm,hc,k0,k1,g0,g1,g2,r5,r6,b1,wi,hmu1,nes]
  refine st_out fun s' ht hm' hn' hu' => ?_
  have a3:=ht 3
  have a7:=ht 7
  have a8:=ht 8
  have a9:=ht 9
  simp -dsimp [t7,t8,wi] at a3 a7 a8 a9 hm' hn' hu'
  clear ht
  have hjk:∀ j ∈ js,s'.m j=s.m j:=fun j hj=>by
   have q1:=hjs j hj
   have q2:¬j=id:=fun e=>hin (e ▸ hj)
   have q3:=hout2 j (by omega)
   simp [far q1.2] at q3
   simp [hm',far (show j<n2 by omega),q2,q3]
  have hsl:(l.take i).length=js.length:=hsy.len
  refine ⟨i+1,n2+1,js++[id2],a7,a8,a9,by rw [hu',hmu],by omega,a3,by omega,by omega, ?_, ?_,fun j hj => ?_, ?_, ?_,fun j j1 => ?_,by simp⟩
  ·intro hj
   rcases List.mem_append.1 hj with hj | hj
   ·have:=hjs _ hj; omega
   ·have:=List.mem_singleton.1 hj; omega
  ·rw [htk,clT_app _ _ _ _ hsl]
   simp [hm',nes,List.take_of_length_le (show (clT (l.take i) js).length≤i * 2 by omega)]
  ·rcases List.mem_append.1 hj with hj | hj
   ·have:=hjs j hj; omega
   ·rw [List.mem_singleton.1 hj]; omega
  ·rw [List.nodup_append]
   refine ⟨hnd,by simp,fun y hy z hz => ?_⟩
   rw [List.mem_singleton.1 hz]
   have:=hjs y hy
   omega
  ·rw [htk]
   exact (Says.app hsl).2 ⟨hsy.keep hjk,⟨by simp [hm',g2,show ¬id2=id by omega,him2],trivial⟩⟩
  ·have q3:=hout2 j (by omega)
   simp [far (show j<s.n by omega)] at q3
   simp [hm',far (show j<n2 by omega),show ¬j=id by omega,q3,hout j j1]
 ·rintro s ⟨i,id,js,t7,t8,t9,hmu,hi,t3,hid0,hid,hin,hm,hjs,hnd,hsy,hout,hend⟩
  have:=hend rfl
  subst this
  rw [List.take_length] at hm hsy
  simp -dsimp [t3]
  exact ⟨by omega,hout,js,hjs,hnd,hsy,.inr ⟨id,rfl,hid0,hid,hin,hm⟩⟩
/-- A place of the caller's own. -/
def DeepP (p:Place) (m:Mem) (n:Nat) (t:T) (m':Mem) (n':Nat):Prop:=n≤n'∧(∀ j,j<n→m' j=m j)∧∃ st js,t=.agg [.v (.int .i64 p.people),st]∧OwnRowC m' n n' st p.story js
theorem OwnRowC.wide {m m':Mem} {lo hi lo' hi':Nat} {st:T} {l:List Claim} {js:List Nat} (h:OwnRowC m lo hi st l js) (h1:lo'≤lo) (h2:hi≤hi') (hk:∀ j,lo≤j→j<hi→m' j=m j):OwnRowC m' lo' hi' st l js:=by
 obtain ⟨a1,a2,a3,a4⟩:=h.keep hk
 refine ⟨fun j hj=>by have:=a1 j hj; omega,a2,a3, ?_⟩
 rcases a4 with a4 | ⟨id,e,i0,i1,i2,i3⟩
 ·exact .inl a4
 ·exact .inr ⟨id,e,by omega,by omega,i2,i3⟩
theorem copyPlace_deep (p:Place) (hp:p.small) (hne:∀ c ∈ p.story,c.says ≠ []) (m:Mem) (n:Nat):FnS Tryz.prog 51 m n [.v p.v] (DeepP p m n):=by
 refine FS (rs:=[.cell 2 25]) true Tryz.func51 ?_
 have e0:¬n=n+1:=by omega
 have e5:¬n+1=n:=by omega
 simp -dsimp
 refine twd (List.range 7) [n] (List.replicate 7 [0]) (List.replicate 7 [0]) ?_
 simp -dsimp [List.range_succ,e0,e5,nes]
 refine callS_ (copyStory_deep p.story hp.1 hp.2 hne _ _) ?_
 rintro t m1 n1 ⟨hn1,hout1,js,hrow⟩
 have k0:=hout1 n (by omega)
 have k1:=hout1 (n+1) (by omega)
 simp -dsimp [nes,e0,e5] at k0 k1
 have hc:=hrow.cell
 have hcs:=hrow.cells
 simp -dsimp [List.range_succ,k0,k1,nes,e0,e5,hc,hcs]
 refine ⟨by omega,fun j j1 => ?_,t,js,rfl,hrow.wide (by omega) (by omega) fun j j1 j2=>by simp [show ¬j=n+1 by omega]⟩
 have:=hout1 j (by omega)
 simp [far j1,show ¬j=n+1 by omega] at this ⊢
 exact this
end TL

namespace TL
open Go Go.Proofs
attribute [local simp] marksV storyV codeV Claim.v Place.v Desk.v
/-- Places as cells, their rows of claims told. -/
def pcT:List Place→List T→List T
 | p :: l,st :: ss=>.v (.int .i64 p.people) :: st :: pcT l ss
 | _,_=>[]
@[simp] theorem pcT_nil (ss:List T):pcT [] ss=[]:=by cases ss <;> rfl
@[simp] theorem pcT_cons (p:Place) (l:List Place) (st:T) (ss:List T):pcT (p :: l) (st :: ss)=.v (.int .i64 p.people) :: st :: pcT l ss:=rfl
/-- Places whose rows are one's own, one after the other from lo to hi. -/
def OwnPl (m:Mem):Nat→Nat→List Place→List T→Prop
 | lo,hi,[],[]=>lo≤hi
 | lo,hi,p :: l,st :: ss=>∃ mid js,lo≤mid∧OwnRowC m lo mid st p.story js∧OwnPl m mid hi l ss
 | _,_,_,_=>False
theorem OwnPl.le {m:Mem} : ∀ {l:List Place} {ss:List T} {lo hi:Nat},OwnPl m lo hi l ss→lo≤hi
 | [],[],lo,hi,h=>h
 | p :: l,st :: ss,lo,hi,⟨mid,js,h1,h2,h3⟩=>Nat.le_trans h1 h3.le
 | [],st :: ss,_,_,h=>h.elim
 | p :: l,[],_,_,h=>h.elim
theorem OwnPl.len {m:Mem} : ∀ {l:List Place} {ss:List T} {lo hi:Nat},OwnPl m lo hi l ss→l.length=ss.length
 | [],[],lo,hi,h=>rfl
 | p :: l,st :: ss,lo,hi,⟨mid,js,h1,h2,h3⟩=>by simp [h3.len]
 | [],st :: ss,_,_,h=>h.elim
 | p :: l,[],_,_,h=>h.elim
theorem OwnPl.keep {m m':Mem} : ∀ {l:List Place} {ss:List T} {lo hi:Nat},OwnPl m lo hi l ss→(∀ j,lo≤j→j<hi→m' j=m j)→OwnPl m' lo hi l ss
 | [],[],lo,hi,h,_=>h
 | p :: l,st :: ss,lo,hi,⟨mid,js,h1,h2,h3⟩,hk=>⟨mid,js,h1,h2.keep fun j j1 j2=>hk j j1 (Nat.lt_of_lt_of_le j2 h3.le),h3.keep fun j j1 j2=>hk j (Nat.le_trans h1 j1) j2⟩
 | [],st :: ss,_,_,h,_=>h.elim
 | p :: l,[],_,_,h,_=>h.elim
theorem OwnPl.snoc {m:Mem} {p:Place} {st:T} {js:List Nat} {a b:Nat} : ∀ {l:List Place} {ss:List T} {lo hi:Nat},OwnPl m lo hi l ss→hi≤a→a≤b→OwnRowC m a b st p.story js→OwnPl m lo b (l++[p]) (ss++[st])
 | [],[],lo,hi,h,h1,h2,h3=>⟨b,js,by have:lo≤hi:=h; omega,h3.wide (by have:lo≤hi:=h; omega) (Nat.le_refl _) (fun _ _ _=>rfl),Nat.le_refl _⟩
 | q :: l,s :: ss,lo,hi,⟨mid,k,g1,g2,g3⟩,h1,h2,h3=>⟨mid,k,g1,g2,g3.snoc h1 h2 h3⟩
 | [],st :: ss,_,_,h,_,_,_=>h.elim
 | p :: l,[],_,_,h,_,_,_=>h.elim
theorem pcT_app:∀ (A B:List Place) (sa sb:List T),A.length=sa.length→pcT (A++B) (sa++sb)=pcT A sa++pcT B sb
 | [],B,[],sb,h=>rfl
 | c :: A,B,j :: sa,sb,h=>by simp [pcT_app A B sa sb (by simpa using h)]
 | [],B,j :: sa,sb,h=>by simp at h
 | c :: A,B,[],sb,h=>by simp at h
theorem pcT_len:∀ (A:List Place) (sa:List T),A.length=sa.length→(pcT A sa).length=A.length * 2
 | [],[],h=>rfl
 | c :: A,j :: sa,h=>by simp [pcT_len A sa (by simpa using h)]; omega
 | [],j :: sa,h=>by simp at h
 | c :: A,[],h=>by simp at h
theorem OwnPl.cells {m:Mem} : ∀ {l:List Place} {ss:List T} {lo hi:Nat},OwnPl m lo hi l ss→allC (pcT l ss)
 | [],[],lo,hi,h=>by simp
 | p :: l,st :: ss,lo,hi,⟨mid,js,h1,h2,h3⟩=>by
  intro x hx
  simp only [pcT_cons,List.mem_cons] at hx
  rcases hx with rfl | rfl | hx
  ·rfl
  ·exact h2.cell
  ·exact h3.cells x hx
 | [],st :: ss,_,_,h=>h.elim
 | p :: l,[],_,_,h=>h.elim
end TL

namespace TL
open Go Go.Proofs
attribute [local simp] marksV storyV codeV Claim.v Place.v Desk.v
/-- A row of places of one's own; ex: what lies behind it in its block. -/
def PastO (m:Mem) (b hi:Nat) (P:T) (l:List Place) (ss:List T):Prop:=(P=.nil∧l=[]∧ss=[])∨∃ id ex,P=.sv id 0 l.length∧b≤id∧id<hi∧flT ex=true∧m id=some (.box 25 2 (pcT l ss++ex))
theorem PastO.cell {m:Mem} {b hi:Nat} {P:T} {l:List Place} {ss:List T} (h:PastO m b hi P l ss):P.cell=true:=by
 rcases h with ⟨rfl,_⟩ | ⟨id,ex,rfl,_⟩ <;> rfl
theorem PastO.cells {m:Mem} {b hi:Nat} {P:T} {l:List Place} {ss:List T} (h:PastO m b hi P l ss):P.cells=[P]:=by
 rcases h with ⟨rfl,_⟩ | ⟨id,ex,rfl,_⟩ <;> rfl
/-- A desk of one's own: the claims of its place lie from n to a, those of its places of before from a to b, the row of these from b on. -/
def DeepD (d:Desk) (m:Mem) (n:Nat) (t:T) (m':Mem) (n':Nat):Prop:=n≤n'∧(∀ j,j<n→m' j=m j)∧∃ (sn P:T) (jn:List Nat) (ss:List T) (a b:Nat),t=.agg [.v (.int .i64 d.now.people),sn,P]∧OwnRowC m' n a sn d.now.story jn∧n≤a∧OwnPl m' a b d.past ss∧b≤n'∧PastO m' b n' P d.past ss
def IcdO (d:Desk) (m0:Mem) (n0 q:Nat) (sn:T) (jn:List Nat) (e:Nat) (s:S):Prop:=∃ (i b:Nat) (P:T) (ss:List T),s.tm 2=.ptr (n0+1) 0∧s.tm 3=.ptr q 0∧s.tm 11=.v (.sl (d.past.map Place.v))∧s.tm 12=.v (.int .i64 d.past.length)∧s.tm 13=.v (.int .i64 i)∧s.mu=true∧i≤d.past.length∧q<s.n ∧
 s.m (n0+1)=some (.box 28 3 [.v (.int .i64 0),.nil,.nil])∧s.m q=some (.box 28 3 [.v (.int .i64 d.now.people),sn,P])∧OwnRowC s.m (n0+1+1) q sn d.now.story jn∧OwnPl s.m (q+1) b (d.past.take i) ss∧b≤s.n∧PastO s.m b s.n P (d.past.take i) ss∧(∀ j,j<n0→s.m j=m0 j)∧(e=1→i=d.past.length)
theorem copyDesk_deep (d:Desk) (hd:d.small) (hn0:∀ c ∈ d.now.story,c.says ≠ []) (hp0:∀ p ∈ d.past,∀ c ∈ p.story,c.says ≠ []) (m:Mem) (n:Nat):FnS Tryz.prog 24 m n [.v d.v] (DeepD d m n):=by
 have hl:=hd.2.1
 refine FS (rs:=[.cell 2 28]) true Tryz.func24 ?_
 have e0:¬n=n+1:=by omega
 have e5:¬n+1=n:=by omega
 simp -dsimp [e0,e5,nes]
 refine callL_ (vs:=[d.now.v]) (copyPlace_deep d.now hd.1 hn0 _ _) (by simp -dsimp) ?_
 rintro t m1 n1 ⟨hn1,hout1,sn,jn,rfl,hrow⟩
 have k0:=hout1 n (by omega)
 have k1:=hout1 (n+1) (by omega)
 simp -dsimp [nes,e0,e5] at k0 k1
 have g0:=far (show n<n1 by omega)
 have g1:=far (show n+1<n1 by omega)
 have hc:=hrow.cell
 have hcs:=hrow.cells
 simp -dsimp [k0,k1,nes,g0,g1,hc,hcs,e0,e5]
 refine twp_loopC (IcdO d m n n1 sn jn 0) (fun s=>d.past.length-natOf (s.tm 13)) (IcdO d m n n1 sn jn 1) ?_ ?_ ?_
 ·refine ⟨0,n1+1,.nil,[],by simp -dsimp,by simp -dsimp,by simp -dsimp,by simp -dsimp,by simp -dsimp,by simp -dsimp,by omega,(by simp -dsimp <;> omega),by simp -dsimp [g1,k1],by simp -dsimp,hrow.keep (fun j j1 j2=>by simp -dsimp [far j2]),Nat.le_refl _,(by simp -dsimp <;> omega),.inl ⟨rfl,rfl,rfl⟩,fun j j1 => ?_,by simp⟩
  have:=hout1 j (by omega)
  simp -dsimp [far j1] at this
  simp -dsimp [far (show j<n1 by omega),this]
 ·rintro s ⟨i,b,P,ss,t2,t3,t11,t12,t13,hmu,hi,hq,m1',mq,hnow,hpl,hbn,hst,hout,hend⟩
  by_cases hlt:i<d.past.length
  case neg =>
   simp -dsimp [t12,t13,hlt]
   exact ⟨i,b,P,ss,by simp -dsimp [t2],by simp -dsimp [t3],by simp -dsimp [t11],by simp -dsimp [t12],by simp -dsimp [t13],by simp -dsimp [hmu],hi,by simp -dsimp; omega,by simp -dsimp [m1'],by simp -dsimp [mq],hnow,hpl,by simp -dsimp; omega,hst,fun j j1=>by simp -dsimp [hout j j1],fun _=>by omega⟩
  have hget:(d.past.map Place.v)[i]? = some (d.past[i].v):=by simp [hlt]
  have wi:IntKind.wrap .i64 ((i:Int)+1)=((i+1:Nat):Int):=by rw [w64 (by omega) (by omega)]; omega
  have hmu1:d.past.length-(i+1)<d.past.length-i:=by omega
  have p0:=far (show n1<s.n by omega)
  have p1:=far (show n+1<s.n by omega)
  have p3:=far (show n<s.n by omega)
  have q0:¬n+1=n1:=by omega
  have q1:¬n1=n+1:=by omega
  have hmem:=List.getElem_mem hlt
  have hcp:=fun m n=>copyPlace_deep d.past[i] (hd.2.2 _ hmem) (hp0 _ hmem) m n
  have b1:(min i d.past.length+1) * 32≤140737488355328:=by omega
  have b2:(i+1) * 32≤140737488355328:=by omega
  have htk:d.past.take (i+1)=d.past.take i++[d.past[i]]:=List.take_succ_eq_append_getElem hlt
  have hil:min i d.past.length=i:=by omega
  have htl:(d.past.take i).length=i:=by simp; omega
  have r5:=pcT_len (d.past.take i) ss hpl.len
  have r6:=hpl.cells
  rw [htl] at r5
  have hcq:=hst.cell
  simp -dsimp [t11,t12,t13,hlt,hget]
  refine twd (List.range 8) [s.n,n1] (List.replicate 8 [0,1]) (List.replicate 7 [0,1]++[[0]]) ?_
  simp -dsimp [List.range_succ,t3,mq,p0,p1,nes]
  refine callL_ (vs:=[d.past[i].v]) (hcp _ _) (by simp -dsimp) ?_
  rintro t m2 n2 ⟨hn2,hout2,st,js,rfl,hrow2⟩
  have u0:=hout2 n1 (by omega)
  have u1:=hout2 (n+1) (by omega)
  have u2:=hout2 s.n (by omega)
  have v0:=far (show n1<n2 by omega)
  have v1:=far (show n+1<n2 by omega)
  have v2:=far (show s.n<n2 by omega)
  have hc2:=hrow2.cell
  have hcs2:=hrow2.cells
  simp -dsimp [p0,p1,mq] at u0 u1 u2
  rcases hst with ⟨rfl,hs0,hs1⟩ | ⟨r,ex,rfl,hi0,hi1,hex,him'⟩
  ·have hi00:i=0:=by
    simp at hs0; rcases hs0 with h | h
    ·exact h
    ·rw [h] at hlt; simp at hlt
   subst hi00
   simp -dsimp [List.range_succ,t3,t13,mq,u0,u1,u2,v0,v1,v2,hc2,hcs2,p0,p1,nes,hmu,wi,hmu1,q0,q1]
   refine ⟨?_,by rw [w64 (by omega) (by omega)]; omega⟩
   have w1:IntKind.wrap .i64 (1:Int)=1:=by rw [w64 (by omega) (by omega)]
   refine st_out (I:=IcdO d m n n1 sn jn 0) fun s' ht hm' hn' hu' => ?_
   have a2:=ht 2
   have a3:=ht 3
   have a11:=ht 11
   have a12:=ht 12
   have a13:=ht 13
   simp -dsimp [t2,t3,t11,t12,wi,w1] at a2 a3 a11 a12 a13 hm' hn' hu'
   clear ht
   have hjk:∀ j,j<s.n→¬j=n1→s'.m j=s.m j:=fun j j1 j2=>by
    have q3:=hout2 j (by omega)
    simp [show ¬j=s.n by omega] at q3
    simp [hm',show ¬j=n2 by omega,show ¬j=n2+1 by omega,j2,q3]
   have ht1:d.past.take 1=[d.past[0]]:=by rw [show (1:Nat)=0+1 from rfl,htk]; rfl
   rw [hs1] at hpl
   have hle:=hpl.le
   refine ⟨1,n2,.sv (n2+1) 0 1,[st],a2,a3,a11,a12,a13,by rw [hu',hmu],by omega,by omega, ?_, ?_,hnow.keep fun j j1 j2=>hjk j (by omega) (by omega), ?_,by omega, ?_,fun j j1 => ?_,by simp⟩
   ·rw [hjk _ (by omega) (by omega),m1']
   ·simp [hm']
   ·rw [ht1]
    exact ⟨n2,js,by omega,hrow2.wide (by omega) (Nat.le_refl _) fun j j1 j2=>by simp [hm',show ¬j=n2 by omega,show ¬j=n2+1 by omega,show ¬j=n1 by omega],Nat.le_refl _⟩
   ·rw [ht1]
    exact .inr ⟨n2+1,[],rfl,by omega,by omega,rfl,by simp [hm',show ¬n2+1=n1 by omega]⟩
   ·rw [hjk j (by omega) (by omega),hout j j1]
  ·have g1':=far (show r<n2 by omega)
   have g2:¬r=n1:=by have:=hpl.le; omega
   have g3:¬r=n+1:=by have:=hpl.le; omega
   have u3:=hout2 r (by omega)
   simp -dsimp [far hi1,him'] at u3
   simp -dsimp [List.range_succ,t3,t13,mq,u0,u1,u2,u3,v0,v1,v2,hc2,hcs2,p0,p1,nes,hmu,wi,hmu1,q0,q1,g1',g2,Ne.symm g2,b1,b2,hil,htl,r5,r6]
   refine ⟨by omega, ?_⟩
   refine st_out (I:=IcdO d m n n1 sn jn 0) fun s' ht hm' hn' hu' => ?_
   have a2:=ht 2
   have a3:=ht 3
   have a11:=ht 11
   have a12:=ht 12
   have a13:=ht 13
   simp -dsimp [t2,t3,t11,t12,wi] at a2 a3 a11 a12 a13 hm' hn' hu'
   clear ht
   have hjk:∀ j,j<s.n→¬j=n1→¬j=r→s'.m j=s.m j:=fun j j1 j2 j3=>by
    have q3:=hout2 j (by omega)
    simp [show ¬j=s.n by omega] at q3
    simp [hm',show ¬j=n2 by omega,show ¬j=n2+1 by omega,j2,j3,q3]
   have hle:=hpl.le
   have hsl:=hpl.len
   refine ⟨i+1,n2,.sv (n2+1) 0 (i+1),ss++[st],a2,a3,a11,a12,by rw [a13]; simp,by rw [hu',hmu],by omega,by omega, ?_, ?_,hnow.keep fun j j1 j2=>hjk j (by omega) (by omega) (by omega), ?_,by omega, ?_,fun j j1 => ?_,by simp⟩
   ·rw [hjk _ (by omega) (by omega) (by omega),m1']
   ·simp [hm']
   ·rw [htk]
    exact (hpl.keep fun j j1 j2=>hjk j (by omega) (by omega) (by omega)).snoc (a:=s.n+1+1) (by omega) (by omega) (hrow2.keep fun j j1 j2=>by simp [hm',show ¬j=n2 by omega,show ¬j=n2+1 by omega,show ¬j=n1 by omega,show ¬j=r by omega])
   ·rw [htk]
    exact .inr ⟨n2+1,[],by simp; omega,by omega,by omega,rfl,by rw [pcT_app _ _ _ _ hsl]; simp [hm',show ¬n2+1=n1 by omega]⟩
   ·rw [hjk j (by omega) (by omega) (by omega),hout j j1]
 ·rintro s ⟨i,b,P,ss,t2,t3,t11,t12,t13,hmu,hi,hq,m1',mq,hnow,hpl,hbn,hst,hout,hend⟩
  have:=hend rfl
  subst this
  rw [List.take_length] at hpl hst
  have hcq:=hst.cell
  have hcs2:=hst.cells
  simp -dsimp [t2,t3,mq,m1',nes,hc,hcs,hcq,hcs2,e0,e5]
  have hle:=hpl.le
  have hk:∀ j,¬j=n+1→updM s.m (n+1) (some (.box 28 3 [.v (.int .i64 d.now.people),sn,P])) j=s.m j:=fun j j1=>by simp [j1]
  refine ⟨by omega,fun j j1=>by rw [hk j (by omega),hout j j1],sn,P,jn,ss,n1+1,b,rfl,hnow.wide (by omega) (by omega) fun j j1 j2=>hk j (by omega),by omega,hpl.keep fun j j1 j2=>hk j (by omega),by omega, ?_⟩
  rcases hst with h | ⟨id,ex,h1,h2,h3,h5,h4⟩
  ·exact .inl h
  ·exact .inr ⟨id,ex,h1,h2,by omega,h5,by rw [hk id (by omega),h4]⟩
end TL

namespace TL
open Go Go.Proofs
attribute [local simp] marksV storyV codeV Claim.v Place.v Desk.v
/-! What names nothing but its own memory. -/
theorem mkT_fl (l:List Mark):flT (mkT l)=true:=by
 induction l with
 | nil=>rfl
 | cons x xs ih=>simp [mkT,ih,V.flat]
theorem clT_fl:∀ (l:List Claim) (js:List Nat),flT (clT l js)=true
 | [],js=>by simp
 | c :: l,[]=>by simp [clT]
 | c :: l,j :: js=>by simp [clT_fl l js,V.flat]
theorem OwnRowC.fl {m:Mem} {lo hi:Nat} {st:T} {l:List Claim} {js:List Nat} (h:OwnRowC m lo hi st l js):st.fl=true:=by
 rcases h.2.2.2 with ⟨rfl,_⟩ | ⟨id,rfl,_⟩ <;> rfl
end TL

namespace TL
open Go Go.RowKit
variable {P:Program}
mutual
/-- The handles of a value, moved up. -/
def T.up (k:Nat):T→T
 | .sv i co len=>.sv (i+k) co len
 | .ptr i j=>.ptr (i+k) j
 | .agg cs=>.agg (upT k cs)
 | .tup cs=>.tup (upT k cs)
 | .v x=>.v x
 | .nil=>.nil
 | x=>x
def upT (k:Nat):List T→List T
 | []=>[]
 | x :: xs=>x.up k :: upT k xs
end
@[simp] theorem upT_nil (k:Nat):upT k []=[]:=rfl
@[simp] theorem upT_cons (k:Nat) (x:T) (xs:List T):upT k (x :: xs)=x.up k :: upT k xs:=rfl
@[simp] theorem up_v (k:Nat) (x:V):(T.v x).up k=.v x:=rfl
@[simp] theorem up_nil (k:Nat):T.nil.up k=.nil:=rfl
@[simp] theorem up_sv (k i j l:Nat):(T.sv i j l).up k=.sv (i+k) j l:=rfl
@[simp] theorem up_ptr (k i j:Nat):(T.ptr i j).up k=.ptr (i+k) j:=rfl
@[simp] theorem up_agg (k:Nat) (cs:List T):(T.agg cs).up k=.agg (upT k cs):=rfl
@[simp] theorem up_tup (k:Nat) (cs:List T):(T.tup cs).up k=.tup (upT k cs):=rfl
theorem upT_append (k:Nat) (a b:List T):upT k (a++b)=upT k a++upT k b:=by
 induction a with
 | nil=>rfl
 | cons x xs ih=>simp [ih]
@[simp] theorem upT_length (k:Nat) (a:List T):(upT k a).length=a.length:=by
 induction a with
 | nil=>rfl
 | cons x xs ih=>simp [ih]
def Blk.up (k:Nat):Blk→Blk
 | .box e z cs=>.box e z (upT k cs)
 | b=>b
@[simp] theorem up_box (k:Nat) (e:TypeId) (z:Nat) (cs:List T):(Blk.box e z cs).up k=.box e z (upT k cs):=rfl
theorem up_cell (k:Nat) (x:T):(x.up k).cell=x.cell:=by cases x <;> simp only [T.up,T.cell]
theorem upT_allC (k:Nat) {cs:List T} (h:allC cs):allC (upT k cs):=by
 induction cs with
 | nil=>exact h
 | cons x xs ih =>
  intro y hy
  simp only [upT_cons,List.mem_cons] at hy
  rcases hy with rfl | hy
  ·rw [up_cell]; exact h x (by simp)
  ·exact ih (fun z hz=>h z (by simp [hz])) y hy
def catM (n:Nat) (m m':Mem):Mem:=fun i=>if i<n then m i else (m' (i-n)).map (Blk.up n)
theorem catM_lo {n j:Nat} {m m':Mem} (h:j<n):catM n m m' j=m j:=if_pos h
theorem catM_hi {n j:Nat} {m m':Mem} {b:Blk} (h:m' j=some b):catM n m m' (j+n)=some (b.up n):=by
 unfold catM
 rw [if_neg (by omega),Nat.add_sub_cancel,h]; rfl
section
variable {φ φ2:Phi} {Z Z':Zs} {w w':World} {k:Nat}
mutual
theorem fl_up {x:T} {u:Value} (he:∀ i u,φ i=some u→φ2 (i+k)=some u) (h:x.fl=true):RepT φ Z w x u→RepT φ2 Z' w' (x.up k) u
 | .v g=>.v (flat_rep h g)
 | .nil=>.nil
 | .sv g hl hm ha h0=>.sv (he _ _ g) hl hm ha h0
 | .ptr g=>.ptr (he _ _ g)
 | .ptrs g=>.ptrs (he _ _ g)
 | .agg g=>.agg (flT_up he (by simpa using h) g)
 | .tup g=>.tup (flT_up he (by simpa using h) g)
theorem flT_up {x:List T} {u:List Value} (he:∀ i u,φ i=some u→φ2 (i+k)=some u) (h:flT x=true):RepTs φ Z w x u→RepTs φ2 Z' w' (upT k x) u
 | .nil=>.nil
 | .cons g t=>.cons (fl_up he (by simp at h; exact h.1) g) (flT_up he (by simp at h; exact h.2) t)
end
end
theorem FnS.ownUp {f:Nat} {m:Mem} {n:Nat} {args:List T} {vs:List V} {post Q:T→Mem→Nat→Prop} (h:FnS P f (fun _=>none) 0 (vs.map .v) post) (ha:mapO (bor true m 4) args=some vs)
  (hp:∀ t m' n',post t m' n'→∃ m2,LeM m2 m'∧t.fl=true∧(∀ i b,m2 i=some b→b.fl=true)∧Q t m2 n') :
  FnS P f m n args (fun t mm n'=>∃ t' m' n'',Q t' m' n''∧t=t'.up n∧mm=catM n m m'∧n'=n+n''):=by
 refine ⟨h.1,fun φ Z w us hm hr => ?_⟩
 let Zb:Zs:=fun k o=>Z k o∨Owned φ m k
 have hZ:SubZ Z Zb:=fun k o h=>.inl h
 have hvs:=bors_sound hm (k:=true) (Zb:=Zb) hZ (fun _ g hg o=>.inr hg) args us vs hr ha
 have no:∀ k,¬Owned (fun _=>none) (fun _=>none) k:=fun k ⟨i,b,v,h1,_⟩=>by cases h1
 have hm0:RelM P (fun _=>none) Zb (fun _=>none) 0 w:=by
  refine ⟨fun i u h=>(by cases h),fun i _=>rfl,fun i b hb=>(by cases hb),fun i j a b u v k h1=>(by cases h1),⟨fun k o hz => ?_,hm.zlt.gl.keep hZ fun _ _ _=>rfl⟩⟩
  rcases hz with hz | hz
  ·exact hm.zlt.lt k o hz
  ·exact hm.owned_lt hz
 refine (h.2 (fun _=>none) Zb w us hm0 hvs.toTs).mono fun e w' hh => ?_
 obtain ⟨v,φ',Z',m1,n',t,rfl,h1,h2,h3,h4⟩:=hh
 obtain ⟨m',hle,ht,hb,h4⟩:=hp t m1 n' h4
 have h1:=h1.le hle
 let φ2:Phi:=fun i=>if i<n then φ i else φ' (i-n)
 have plo:∀ i,i<n→φ2 i=φ i:=fun i hi=>if_pos hi
 have phi:∀ i,¬i<n→φ2 i=φ' (i-n):=fun i hi=>if_neg hi
 have up:∀ i u,φ' i=some u→φ2 (i+n)=some u:=fun i u hu=>by rw [phi _ (by omega),Nat.add_sub_cancel]; exact hu
 have ext:Ext φ φ2:=fun i u hu=>by
  rcases Nat.lt_or_ge i n with h | h
  ·rw [plo i h]; exact hu
  ·rw [hm.fresh i h] at hu; cases hu
 have lift:∀ k,Owned φ' m' k→Owned φ' m1 k:=fun k ⟨i,b,v,c1,c2⟩=>⟨i,b,v,hle _ _ c1,c2⟩
 have new:∀ (i:Nat) (b:Blk) (v:Value) (k:Nat),m' i=some b→isRo b=false→φ' i=some v→blkOf v=some k→w.heap.size≤k:=fun i b v k h5 h6 h7 h8=>by
  rcases Nat.lt_or_ge k w.heap.size with h | h
  ·exact absurd (h3.own k h (lift k ⟨i,b,v,h5,h6,h7,h8⟩)) (no k)
  ·exact h
 have kz:KeepZ Z w w':=fun k o hz=>h3.keep k o (.inl hz)
 have hro:∀ b:Blk,isRo (b.up n)=isRo b:=fun b=>by cases b <;> rfl
 have hcat:∀ i b,catM n m m' i=some b→(i<n∧m i=some b∧φ2 i=φ i)∨(¬i<n∧φ2 i=φ' (i-n)∧∃ b0,m' (i-n)=some b0∧b=b0.up n):=fun i b hi=>by
  unfold catM at hi
  split at hi
  ·rename_i hn; exact .inl ⟨hn,hi,plo i hn⟩
  ·rename_i hn
   cases e:m' (i-n) with
   | none=>rw [e] at hi; cases hi
   | some b0=>rw [e] at hi; cases hi; exact .inr ⟨hn,phi i hn,b0,rfl,rfl⟩
 refine ⟨v,φ2,Z,catM n m m',n+n',t.up n,rfl,⟨fun i u hu => ?_,fun i hi => ?_,fun i b hi => ?_,fun i j a b u v k hi hj hu hv hku hkv ra rb => ?_,⟨fun k o hz=>Nat.lt_of_lt_of_le (hm.zlt.lt k o hz) h3.size,hm.zlt.gl.keep (fun _ _ h=>h) kz⟩⟩,fl_up up ht h2,
  ⟨ext,fun k o hz=>hz,kz,h3.os,h3.tape,h3.output,h3.size,fun k hk ho=>h3.out k hk (no k),fun k hk ho => ?_,fun k o hz=>.inl hz⟩,t,m',n',h4,rfl,rfl,rfl⟩
 ·rcases Nat.lt_or_ge i n with h | h
  ·rw [plo i h] at hu; exact hm.ok i u hu
  ·rw [phi i (by omega)] at hu; exact h1.ok _ u hu
 ·rw [phi i (by omega)]; exact h1.fresh _ (by omega)
 ·rcases hcat i b hi with ⟨c1,c2,c3⟩ | ⟨c1,c2,b0,c3,rfl⟩
  ·obtain ⟨v,h5,h6⟩:=hm.blk i b c2
   refine ⟨v,ext _ _ h5,h6.keep ext (fun _ _ h=>h) kz fun hro k hk=>⟨h3.out k (h6.lt hro hk) (no k),fun o ho=>ho⟩⟩
  ·obtain ⟨v,h5,h6⟩:=h1.blk _ b0 c3
   refine ⟨v,by rw [c2]; exact h5, ?_⟩
   have hf:=hb _ b0 c3
   cases b0 with
   | ro xs=>cases hf
   | arr e xs=>cases hf
   | mp es=>cases hf
   | box e z cs =>
    obtain ⟨a1,a2,k,cur,a3,a4,a5,a6,a7,a8,a9⟩:=h6
    exact ⟨a1,a2,k,cur,a3,a4,by rw [upT_length]; exact a5,by rw [upT_length]; exact flT_up up hf a6,upT_allC n a7,fun o ho=>a8 o (h3.sub k o (.inl ho)),a9⟩
 ·rcases hcat i a hi with ⟨c1,c2,c3⟩ | ⟨c1,c2,b0,c3,rfl⟩ <;> rcases hcat j b hj with ⟨d1,d2,d3⟩ | ⟨d1,d2,e0,d3,rfl⟩
  ·rw [c3] at hu; rw [d3] at hv
   exact hm.ne i j a b u v k c2 d2 hu hv hku hkv ra rb
  ·rw [c3] at hu; rw [d2] at hv
   have l1:=hm.owned_lt ⟨i,a,u,c2,ra,hu,hku⟩
   have l2:=new _ e0 v k d3 (by rw [← hro]; exact rb) hv hkv
   omega
  ·rw [c2] at hu; rw [d3] at hv
   have l1:=hm.owned_lt ⟨j,b,v,d2,rb,hv,hkv⟩
   have l2:=new _ b0 u k c3 (by rw [← hro]; exact ra) hu hku
   omega
  ·rw [c2] at hu; rw [d2] at hv
   have:=h1.ne _ _ b0 e0 u v k c3 d3 hu hv hku hkv (by rw [← hro]; exact ra) (by rw [← hro]; exact rb)
   omega
 ·obtain ⟨i,b,v,h5,h6,h7,h8⟩:=ho
  rcases hcat i b h5 with ⟨c1,c2,c3⟩ | ⟨c1,c2,b0,c3,rfl⟩
  ·rw [c3] at h7; exact ⟨i,b,v,c2,h6,h7,h8⟩
  ·rw [c2] at h7
   have:=new _ b0 v k c3 (by rw [← hro]; exact h6) h7 h8
   omega
theorem callU_ {f:Nat} {m:Mem} {n:Nat} {args:List T} {vs:List V} {k:T→Mem→Nat→Prop} {post Q:T→Mem→Nat→Prop} (h:FnS P f (fun _=>none) 0 (vs.map .v) post) (ha:mapO (bor true m 4) args=some vs)
  (hp:∀ t m' n',post t m' n'→∃ m2,LeM m2 m'∧t.fl=true∧(∀ i b,m2 i=some b→b.fl=true)∧Q t m2 n') (hk:∀ t m' n',Q t m' n'→k (t.up n) (catM n m m') (n+n')):callP P f m n args k :=
 callS_ (h.ownUp ha hp) fun t mm n' ⟨t',m',n'',h1,h2,h3,h4⟩=>by rw [h2,h3,h4]; exact hk t' m' n'' h1
end TL

namespace TL
open Go Go.Proofs
attribute [local simp] marksV storyV codeV Claim.v Place.v Desk.v
theorem OwnPl.wide {m:Mem} {l:List Place} {ss:List T} {lo hi lo' hi':Nat} (h:OwnPl m lo hi l ss) (h1:lo'≤lo) (h2:hi≤hi'):OwnPl m lo' hi' l ss:=by
 induction l generalizing ss lo lo' with
 | nil =>
  cases ss with
  | nil=>have:lo≤hi:=h; show lo'≤hi'; omega
  | cons st ss=>exact h.elim
 | cons p l ih =>
  cases ss with
  | nil=>exact h.elim
  | cons st ss =>
   obtain ⟨mid,js,g1,g2,g3⟩:=h
   exact ⟨mid,js,by omega,g2.wide h1 (Nat.le_refl _) fun _ _ _=>rfl,ih g3 (Nat.le_refl _)⟩
theorem PastO.keep {m m':Mem} {b hi b' hi':Nat} {P:T} {l:List Place} {ss:List T} (h:PastO m b hi P l ss) (h1:b'≤b) (h2:hi≤hi') (hk:∀ j,b≤j→j<hi→m' j=m j):PastO m' b' hi' P l ss:=by
 rcases h with h | ⟨id,ex,e1,e2,e3,e4,e5⟩
 ·exact .inl h
 ·exact .inr ⟨id,ex,e1,by omega,by omega,e4,by rw [hk id e2 e3,e5]⟩
/-- A desk of one's own: three parts of memory, apart from each other. -/
def OwnD (m:Mem) (lo hi:Nat) (sn P:T) (d:Desk):Prop:=∃ (jn:List Nat) (ss:List T) (a1 b1 a2 b2 a3 b3:Nat),OwnRowC m a1 b1 sn d.now.story jn∧OwnPl m a2 b2 d.past ss∧PastO m a3 b3 P d.past ss∧lo≤a1∧a1≤b1∧b1≤hi∧lo≤a2∧b2≤hi∧lo≤a3∧a3≤b3∧b3≤hi∧(b1≤a2∨b2≤a1)∧(b1≤a3∨b3≤a1)∧(b2≤a3∨b3≤a2)
def dT (d:Desk) (sn P:T):T:=.agg [.v (.int .i64 d.now.people),sn,P]
theorem OwnD.keep {m m':Mem} {lo hi lo' hi':Nat} {sn P:T} {d:Desk} (h:OwnD m lo hi sn P d) (h1:lo'≤lo) (h2:hi≤hi') (hk:∀ j,lo≤j→j<hi→m' j=m j):OwnD m' lo' hi' sn P d:=by
 obtain ⟨jn,ss,a1,b1,a2,b2,a3,b3,r1,r2,r3,c1,c2,c3,c4,c5,c6,c7,c8,c9,c10,c11⟩:=h
 exact ⟨jn,ss,a1,b1,a2,b2,a3,b3,r1.keep fun j j1 j2=>hk j (by omega) (by omega),r2.keep fun j j1 j2=>hk j (by omega) (by omega),r3.keep (Nat.le_refl _) (Nat.le_refl _) fun j j1 j2=>hk j (by omega) (by omega),by omega,by omega,by omega,by omega,by omega,by omega,by omega,by omega,c9,c10,c11⟩
theorem OwnD.facts {m:Mem} {lo hi:Nat} {sn P:T} {d:Desk} (h:OwnD m lo hi sn P d):sn.cell=true∧sn.cells=[sn]∧P.cell=true∧P.cells=[P]:=by
 obtain ⟨jn,ss,a1,b1,a2,b2,a3,b3,r1,r2,r3,_⟩:=h
 exact ⟨r1.cell,r1.cells,r3.cell,r3.cells⟩
/-! Lent. -/
theorem pcT_bor {m:Mem} (d:Nat):∀ {l:List Place} {ss:List T} {lo hi:Nat},OwnPl m lo hi l ss→mapO (bor true m (d+2)) (pcT l ss)=some (l.flatMap fun p=>p.v.cells)
 | [],[],lo,hi,_=>rfl
 | p :: l,st :: ss,lo,hi,⟨mid,js,h1,h2,h3⟩=>by
  have e:=h2.bor d
  have e2:=pcT_bor d h3
  simp [mapO,e,e2,V.cells]
 | [],st :: ss,_,_,h=>h.elim
 | p :: l,[],_,_,h=>h.elim
theorem plV_cell (l:List Place):∀ x ∈ (l.flatMap fun p=>p.v.cells),x.cell=true:=by
 intro x hx
 obtain ⟨p,_,hp⟩:=List.mem_flatMap.1 hx
 simp [V.cells] at hp
 rcases hp with rfl | rfl <;> rfl
theorem plV_chunk (l:List Place):chunk 2 l.length (l.flatMap fun p=>p.v.cells)=l.map Place.v:=by
 induction l with
 | nil=>rfl
 | cons x xs ih=>simp [chunk,V.cells]; simpa [V.cells] using ih
theorem PastO.bor {m:Mem} {lo hi b hh:Nat} {P:T} {l:List Place} {ss:List T} (h:PastO m b hh P l ss) (hp:OwnPl m lo hi l ss) (d:Nat):TL.bor true m (d+3) P=some (.sl (l.map Place.v)):=by
 rcases h with ⟨rfl,rfl,rfl⟩ | ⟨i,ex,rfl,_,_,_,h⟩
 ·rfl
 ·have hl:=pcT_len l ss hp.len
  have c1:0+l.length * 2≤(pcT l ss++ex).length:=by simp; omega
  have e1:List.take (l.length * 2) (List.drop 0 (pcT l ss++ex))=pcT l ss:=by rw [List.drop_zero,← hl]; exact List.take_left
  show (match m i with | some (.box _ z cs)=>tst (0+l.length * z≤cs.length) (obind (mapO (TL.bor true m (d+2)) ((cs.drop 0).take (l.length * z))) fun xs=>tst (∀ x ∈ xs,x.cell=true) (some (V.sl (chunk z l.length xs)))) | _=>none)=_
  rw [h]
  show tst (0+l.length * 2≤(pcT l ss++ex).length) (obind (mapO (TL.bor true m (d+2)) (((pcT l ss++ex).drop 0).take (l.length * 2))) fun xs=>tst (∀ x ∈ xs,x.cell=true) (some (V.sl (chunk 2 l.length xs))))=_
  rw [tst_pos c1,e1,pcT_bor d hp,obind_some,tst_pos (plV_cell l),plV_chunk]
theorem OwnD.bor {m:Mem} {lo hi:Nat} {sn P:T} {d:Desk} (h:OwnD m lo hi sn P d):TL.bor true m 3 sn=some (.sl (d.now.story.map Claim.v))∧TL.bor true m 3 P=some (.sl (d.past.map Place.v)):=by
 obtain ⟨jn,ss,a1,b1,a2,b2,a3,b3,r1,r2,r3,_⟩:=h
 exact ⟨r1.bor 1,r3.bor r2 0⟩
/-! The part of memory that names nothing but memory. -/
def flM (m:Mem):Mem:=fun i=>match m i with
 | some b=>if b.fl=true then some b else none
 | none=>none
theorem flM_le (m:Mem):LeM (flM m) m:=fun i b hb=>by
 unfold flM at hb
 split at hb
 ·rename_i c hc; split at hb
  ·cases hb; exact hc
  ·cases hb
 ·cases hb
theorem flM_fl (m:Mem):∀ i b,flM m i=some b→b.fl=true:=fun i b hb=>by
 unfold flM at hb
 split at hb
 ·split at hb
  ·cases hb; assumption
  ·cases hb
 ·cases hb
theorem flM_of {m:Mem} {i:Nat} {b:Blk} (h:m i=some b) (hf:b.fl=true):flM m i=some b:=by
 unfold flM; rw [h]; exact if_pos hf
theorem Says.flat {m:Mem} : ∀ {l:List Claim} {js:List Nat},Says m l js→Says (flM m) l js
 | [],[],_=>trivial
 | c :: l,j :: js,h=>⟨flM_of h.1 (mkT_fl _),h.2.flat⟩
 | [],j :: js,h=>h.elim
 | c :: l,[],h=>h.elim
theorem OwnRowC.flat {m:Mem} {lo hi:Nat} {st:T} {l:List Claim} {js:List Nat} (h:OwnRowC m lo hi st l js):OwnRowC (flM m) lo hi st l js:=by
 obtain ⟨h1,h2,h3,h4⟩:=h
 refine ⟨h1,h2,h3.flat, ?_⟩
 rcases h4 with h4 | ⟨id,e,i0,i1,i2,i3⟩
 ·exact .inl h4
 ·exact .inr ⟨id,e,i0,i1,i2,flM_of i3 (clT_fl _ _)⟩
theorem OwnPl.flat {m:Mem} : ∀ {l:List Place} {ss:List T} {lo hi:Nat},OwnPl m lo hi l ss→OwnPl (flM m) lo hi l ss
 | [],[],lo,hi,h=>h
 | p :: l,st :: ss,lo,hi,⟨mid,js,h1,h2,h3⟩=>⟨mid,js,h1,h2.flat,h3.flat⟩
 | [],st :: ss,_,_,h=>h.elim
 | p :: l,[],_,_,h=>h.elim
theorem OwnPl.fl {m:Mem} : ∀ {l:List Place} {ss:List T} {lo hi:Nat},OwnPl m lo hi l ss→flT (pcT l ss)=true
 | [],[],lo,hi,h=>rfl
 | p :: l,st :: ss,lo,hi,⟨mid,js,h1,h2,h3⟩=>by simp [h2.fl,h3.fl,V.flat]
 | [],st :: ss,_,_,h=>h.elim
 | p :: l,[],_,_,h=>h.elim
theorem PastO.flat {m:Mem} {lo hi b hh:Nat} {P:T} {l:List Place} {ss:List T} (h:PastO m b hh P l ss) (hp:OwnPl m lo hi l ss):PastO (flM m) b hh P l ss:=by
 rcases h with h | ⟨id,ex,e1,e2,e3,e4,e5⟩
 ·exact .inl h
 ·exact .inr ⟨id,ex,e1,e2,e3,e4,flM_of e5 (by show flT _=true; rw [flT_append,hp.fl,e4]; rfl)⟩
theorem OwnD.flat {m:Mem} {lo hi:Nat} {sn P:T} {d:Desk} (h:OwnD m lo hi sn P d):OwnD (flM m) lo hi sn P d∧(dT d sn P).fl=true:=by
 obtain ⟨jn,ss,a1,b1,a2,b2,a3,b3,r1,r2,r3,c⟩:=h
 refine ⟨⟨jn,ss,a1,b1,a2,b2,a3,b3,r1.flat,r2.flat,r3.flat r2,c⟩, ?_⟩
 have e:P.fl=true:=by rcases r3 with ⟨rfl,_⟩ | ⟨_,_,rfl,_⟩ <;> rfl
 simp [dT,r1.fl,e,V.flat]
/-! Moved up. -/
theorem mkT_up (k:Nat) (l:List Mark):upT k (mkT l)=mkT l:=by
 induction l with
 | nil=>rfl
 | cons x xs ih=>simp [mkT,ih]
theorem clT_up (k:Nat):∀ (l:List Claim) (js:List Nat),upT k (clT l js)=clT l (js.map (· + k))
 | [],js=>by simp
 | c :: l,[]=>by simp [clT]
 | c :: l,j :: js=>by simp [clT_up k l js]
theorem Says.up {n:Nat} {m m':Mem} : ∀ {l:List Claim} {js:List Nat},Says m' l js→Says (catM n m m') l (js.map (· + n))
 | [],[],_=>trivial
 | c :: l,j :: js,h=>⟨by rw [catM_hi h.1,up_box,mkT_up],h.2.up⟩
 | [],j :: js,h=>h.elim
 | c :: l,[],h=>h.elim
theorem OwnRowC.up {n : Nat} {m m' : Mem} {lo hi : Nat} {st : T} {l : List Claim} {js : List Nat} (h : OwnRowC m' lo hi st l js) : OwnRowC (catM n m m') (lo + n) (hi + n) (st.up n) l (js.map (· + n)) := by
  obtain ⟨h1,h2,h3,h4⟩ := h
  refine ⟨fun j hj => ?_, ?_,h3.up, ?_⟩
  · obtain ⟨i,hi,rfl⟩ := List.mem_map.1 hj
    have := h1 i hi; omega
  · exact List.pairwise_map.2 (List.Pairwise.imp (fun {a b} h e => h (by omega)) h2)
  · rcases h4 with ⟨rfl,rfl,rfl⟩ | ⟨id,rfl,i0,i1,i2,i3⟩
    · exact .inl ⟨rfl,rfl,rfl⟩
    · refine .inr ⟨id + n,rfl,by omega,by omega,fun h => ?_,by rw [catM_hi i3,up_box,clT_up]⟩
      obtain ⟨i,hi,e⟩ := List.mem_map.1 h
      exact i2 (by have : i = id := by omega
                   rw [← this]; exact hi)
theorem pcT_up (k:Nat):∀ (l:List Place) (ss:List T),upT k (pcT l ss)=pcT l (upT k ss)
 | [],ss=>by simp
 | p :: l,[]=>by simp [pcT]
 | p :: l,st :: ss=>by simp [pcT_up k l ss]
theorem OwnPl.up {n:Nat} {m m':Mem} : ∀ {l:List Place} {ss:List T} {lo hi:Nat},OwnPl m' lo hi l ss→OwnPl (catM n m m') (lo+n) (hi+n) l (upT n ss)
 | [],[],lo,hi,h=>by have:lo≤hi:=h; show lo+n≤hi+n; omega
 | p :: l,st :: ss,lo,hi,⟨mid,js,h1,h2,h3⟩=>⟨mid+n,_,by omega,h2.up,h3.up⟩
 | [],st :: ss,_,_,h=>h.elim
 | p :: l,[],_,_,h=>h.elim
mutual
theorem up_fl (k:Nat):∀ (x:T),x.fl=true→(x.up k).fl=true
 | .sv _ _ _,_=>rfl
 | .ptr _ _,_=>rfl
 | .agg cs,h=>upT_fl k cs h
 | .tup cs,h=>upT_fl k cs h
 | .v _,h=>h
 | .nil,_=>rfl
 | .loc _,h=>by cases h
 | .fptr _ _,h=>by cases h
 | .fn _ _,h=>by cases h
theorem upT_fl (k:Nat):∀ (cs:List T),flT cs=true→flT (upT k cs)=true
 | [],_=>rfl
 | x :: xs,h=>by
  simp only [flT_cons,Bool.and_eq_true] at h
  simp only [upT_cons,flT_cons,Bool.and_eq_true]
  exact ⟨up_fl k x h.1,upT_fl k xs h.2⟩
end
theorem PastO.up {n:Nat} {m m':Mem} {b hh:Nat} {P:T} {l:List Place} {ss:List T} (h:PastO m' b hh P l ss):PastO (catM n m m') (b+n) (hh+n) (P.up n) l (upT n ss):=by
 rcases h with ⟨rfl,rfl,rfl⟩ | ⟨id,ex,rfl,e2,e3,e4,e5⟩
 ·exact .inl ⟨rfl,rfl,rfl⟩
 ·exact .inr ⟨id+n,upT n ex,rfl,by omega,by omega,upT_fl n _ e4,by rw [catM_hi e5,up_box,upT_append,pcT_up]⟩
theorem OwnD.up {n:Nat} {m m':Mem} {lo hi:Nat} {sn P:T} {d:Desk} (h:OwnD m' lo hi sn P d):OwnD (catM n m m') (lo+n) (hi+n) (sn.up n) (P.up n) d:=by
 obtain ⟨jn,ss,a1,b1,a2,b2,a3,b3,r1,r2,r3,c1,c2,c3,c4,c5,c6,c7,c8,c9,c10,c11⟩:=h
 exact ⟨_,_,a1+n,b1+n,a2+n,b2+n,a3+n,b3+n,r1.up,r2.up,r3.up,by omega,by omega,by omega,by omega,by omega,by omega,by omega,by omega,by omega,by omega,by omega⟩
theorem OwnD.none {m:Mem} {lo hi:Nat} : lo≤hi→OwnD m lo hi .nil .nil noDeskV:=fun h=>⟨[],[],lo,lo,lo,lo,lo,lo,⟨by simp,List.nodup_nil,trivial,.inl ⟨rfl,rfl,rfl⟩⟩,Nat.le_refl _,.inl ⟨rfl,rfl,rfl⟩,by omega,by omega,by omega,by omega,by omega,by omega,by omega,by omega,by omega,by omega,by omega⟩
/-- A copied desk. -/
theorem DeepD.own {d:Desk} {m m':Mem} {n n':Nat} {t:T} (h:DeepD d m n t m' n'):n≤n'∧(∀ j,j<n→m' j=m j)∧∃ sn P,t=dT d sn P∧OwnD m' n n' sn P d:=by
 obtain ⟨h1,h2,sn,P,jn,ss,a,b,e,r1,c1,r2,c2,r3⟩:=h
 have:=r2.le
 refine ⟨h1,h2,sn,P,e,jn,ss,n,a,a,b,b,n',r1,r2,r3, ?_, ?_, ?_, ?_, ?_, ?_, ?_, ?_, ?_, ?_, ?_⟩ <;> omega
end TL

namespace TL
open Go Go.Proofs
attribute [local simp] marksV storyV codeV Claim.v Place.v Desk.v
def mkp (k:Int):List Place→List Place
 | []=>[]
 | p :: l=>⟨k,mkc (k+1) p.story⟩ :: mkp (mkn (k+1) p.story) l
@[simp] theorem mkp_length:∀ (l:List Place) (k:Int),(mkp k l).length=l.length
 | [],k=>rfl
 | p :: l,k=>by simp [mkp,mkp_length l]
theorem OwnPl.parts {m:Mem} : ∀ {A B:List Place} {sa sb:List T} {lo hi:Nat},A.length=sa.length→(OwnPl m lo hi (A++B) (sa++sb)↔∃ mid,OwnPl m lo mid A sa∧OwnPl m mid hi B sb)
 | [],B,[],sb,lo,hi,_=>⟨fun h=>⟨lo,Nat.le_refl _,h⟩,fun ⟨mid,h1,h2⟩=>h2.wide h1 (Nat.le_refl _)⟩
 | p :: A,B,st :: sa,sb,lo,hi,h=>by
  have ih:=fun lo=>OwnPl.parts (m:=m) (A:=A) (B:=B) (sa:=sa) (sb:=sb) (lo:=lo) (hi:=hi) (by simpa using h)
  constructor
  ·rintro ⟨mid,js,h1,h2,h3⟩
   obtain ⟨mid2,h4,h5⟩:=(ih mid).1 h3
   exact ⟨mid2,⟨mid,js,h1,h2,h4⟩,h5⟩
  ·rintro ⟨mid2,⟨mid,js,h1,h2,h4⟩,h5⟩
   exact ⟨mid,js,h1,h2,(ih mid).2 ⟨mid2,h4,h5⟩⟩
 | [],B,st :: sa,sb,lo,hi,h=>by simp at h
 | p :: A,B,[],sb,lo,hi,h=>by simp at h
end TL

namespace TL
open Go Go.Proofs
attribute [local simp] marksV storyV codeV Claim.v Place.v Desk.v
/-- A desk of the caller's own. -/
def DeepK (d:Desk) (m:Mem) (n:Nat) (t:T) (m':Mem) (n':Nat):Prop:=n≤n'∧(∀ j,j<n→m' j=m j)∧∃ sn P,t=dT d sn P∧OwnD m' n n' sn P d
theorem OwnD.form {m:Mem} {lo hi:Nat} {sn P:T} {d:Desk} (hown:OwnD m lo hi sn P d):sn=.nil∧d.now.story.length=0∨∃ i,sn=.sv i 0 d.now.story.length:=by
 obtain ⟨jn,ss,a1,b1,a2,b2,a3,b3,r1,_⟩:=hown
 rcases r1.2.2.2 with ⟨h1,h2,_⟩ | ⟨i,h1,_⟩
 ·exact .inl ⟨h1,by rw [h2]; rfl⟩
 ·exact .inr ⟨i,h1⟩
theorem OwnD.none_past {m:Mem} {lo hi:Nat} {sn P:T} {d:Desk} (hown:OwnD m lo hi sn P d) (he:d.past=[]):P=.nil∨∃ i,P=.sv i 0 0:=by
 obtain ⟨jn,ss,a1,b1,a2,b2,a3,b3,r1,r2,r3,_⟩:=hown
 rcases r3 with ⟨h1,_⟩ | ⟨i,ex,h1,_⟩
 ·exact .inl h1
 ·exact .inr ⟨i,by rw [h1,he]; rfl⟩
/-- The place of before taken back. -/
theorem OwnD.last {m:Mem} {lo hi:Nat} {sn P:T} {d:Desk} {dd:List Place} {q:Place} (h:OwnD m lo hi sn P d) (hp:d.past=dd++[q]) :
  ∃ (r:Nat) (cc:List T) (st:T) (ex:List T),P=.sv r 0 (dd.length+1)∧lo≤r∧r<hi∧m r=some (.box 25 2 cc)∧cc.length=dd.length * 2+2+ex.length∧cc.drop (dd.length * 2)=.v (.int .i64 q.people) :: st :: ex∧st.cell=true∧st.cells=[st] ∧
   OwnD m lo hi st (.sv r 0 dd.length) ⟨q,dd⟩:=by
 obtain ⟨jn,ss,a1,b1,a2,b2,a3,b3,r1,r2,r3,c1,c2,c3,c4,c5,c6,c7,c8,c9,c10,c11⟩:=h
 rw [hp] at r2 r3
 rcases r3 with ⟨_,h1,_⟩ | ⟨r,ex,rfl,i0,i1,hex,him⟩
 ·simp at h1
 have hsl:=r2.len
 have hss:ss ≠ []:=fun h=>by rw [h] at hsl; simp at hsl
 have hslast:=List.dropLast_concat_getLast hss
 generalize ss.getLast hss=st at *
 generalize ss.dropLast=sd at *
 subst hslast
 have hdl:dd.length=sd.length:=by simpa using hsl
 obtain ⟨mid,r5,mid2,js,g1,g2,g3⟩:=(OwnPl.parts hdl).1 r2
 have hle:=r5.le
 have hle3:mid2≤b2:=g3
 have hpl:=pcT_len dd sd hdl
 have ecl:pcT (dd++[q]) (sd++[st])++ex=pcT dd sd++(.v (.int .i64 q.people) :: st :: ex):=by rw [pcT_app _ _ _ _ hdl]; simp
 refine ⟨r,_,st,ex,by simp,by omega,by omega,him,by rw [ecl]; simp [hpl]; omega,by rw [ecl,← hpl]; exact List.drop_left,g2.cell,g2.cells,js,sd,mid,mid2,a2,mid,a3,b3,g2,r5,.inr ⟨r,.v (.int .i64 q.people) :: st :: ex,rfl,i0,i1, ?_,by rw [him,ecl]⟩, ?_, ?_, ?_, ?_, ?_, ?_, ?_, ?_, ?_, ?_, ?_⟩
 ·simp [g2.fl,hex,V.flat]
 all_goals omega
end TL

namespace TL
open Go Go.Proofs
attribute [local simp] marksV storyV codeV Claim.v Place.v Deed.v Desk.v
/-- A desk and a truth of the caller's own. -/
def PostK (R:Desk × Bool) (t:T) (m':Mem) (n':Nat):Prop:=∃ sn P,t=.tup [dT R.1 sn P,.v (.bool R.2)]∧OwnD m' 0 n' sn P R.1
theorem desk_says {d:Desk} (hk:deskOk d=true):(∀ c ∈ d.now.story,c.says ≠ [])∧(∀ p ∈ d.past,∀ c ∈ p.story,c.says ≠ []):=by
 obtain ⟨hpast,hnow,_⟩:=deskOk_iff.1 hk
 have h:∀ p:Place,placeOk p=true→∀ c ∈ p.story,c.says ≠ []:=fun p hp c hc h0=>by
  have:=termOk_pos (claimOk_all ((placeOk_all hp).2.2.2 c hc)).2.2.2.2.1
  rw [h0] at this; simp at this
 exact ⟨h _ hnow,fun p hp=>h p (hpast p hp)⟩
theorem copyDesk_k (d:Desk) (hd:d.small) (hk:deskOk d=true) (m:Mem) (n:Nat):FnS Tryz.prog 24 m n [.v d.v] (DeepK d m n) :=
 (copyDesk_deep d hd (desk_says hk).1 (desk_says hk).2 m n).weak fun _ _ _ h=>h.own
theorem clip_own (i l:Nat) (hl:l≤1048576) (m:Mem) (n:Nat):FnS Tryz.prog 50 m n [.sv i 0 l] (fun t m' n'=>t=.sv i 0 l∧m'=m∧n≤n'):=by
 refine FS (rs:=[.tmp 2]) false Tryz.func50 ?_
 simp -dsimp [evClipM]
theorem do_people_k (d:Desk) (num:Int) (hd:d.small) (hk:deskOk d=true) (X:Place) (hXl:X.story.length≤7) (hX:X=⟨num,d.now.story⟩) :
  FnS Tryz.prog 23 (fun _=>none) 0 [.v d.v,.v (⟨2,num,[]⟩:Deed).v] (PostK (if (placeOk X && !decide (placeTx X=placeTx d.now))=true then ((⟨X,keep8 (d.past++[d.now])⟩,true):Desk × Bool) else (d,false))):=by
 have hpo:=placeOk_fn X (by omega)
 have hpt:=placeText_fn X (by omega)
 have hpn:=placeText_fn d.now (by have:=hd.1.1; omega)
 have hcn:=copyPlace_fn d.now hd.1
 have hok:=deskOk_fn d (by have:=hd.2.1; omega) (by have:=hd.1.1; omega) (fun p hp=>by have:=(hd.2.2 p hp).1; omega)
 rw [hk] at hok
 obtain ⟨hpast,hnow,hp8⟩:=deskOk_iff.1 hk
 have hcopy:=fun m n=>copyDesk_own d hd m n
 have hcopyK:=fun m n=>copyDesk_k d hd hk m n
 have fullb:(d.past.length+1) * 32≤140737488355328:=by omega
 have zplaces:allZ 2 (List.map Place.v d.past++[d.now.v]):=fun x hx=>by
  rcases List.mem_append.1 hx with hx | hx
  ·obtain ⟨p,_,rfl⟩:=List.mem_map.1 hx; exact ⟨by simp,by simp⟩
  ·rw [List.mem_singleton.1 hx]; exact ⟨by simp,by simp⟩
 have hR:placeOk X=true→∀ l,keep8 (d.past++[d.now])=l→∀ m n,FnS Tryz.prog 24 m n [.v (⟨X,l⟩:Desk).v] (DeepK ⟨X,l⟩ m n):=fun hX l hl m n=>by
  have ok:deskOk ⟨X,l⟩=true:=deskOk_iff.2 ⟨fun p hp=>by
   rw [← hl] at hp
   rcases List.mem_append.1 (keep8_mem hp) with h1 | h1
   ·exact hpast p h1
   ·rw [List.mem_singleton.1 h1]; exact hnow,hX,by rw [← hl]; exact keep8_len _ (by simp; omega)⟩
  exact copyDesk_k ⟨X,l⟩ (desk_fine ok).1 ok m n
 have hkX:=ft (placeOk X)
 have htx:placeTx X=placeTx d.now∨¬placeTx X=placeTx d.now:=Classical.em _
 generalize placeTx X=tX at *
 generalize placeTx d.now=tN at *
 generalize placeOk X=okX at *
 subst hX
 refine FS (rs:=[.cell 4 28,.tmp 5]) false Tryz.func23 ?_
 simp -dsimp
 refine cl hok ?_
 simp -dsimp
 refine callL_ (vs:=[d.v]) (hcopy _ _) (by simp -dsimp) ?_
 rintro t m1 n1 ⟨hn1,hout,id,st,rfl,hi0,hi1,him,hst,hne⟩
 have k0:=hout 0 (by omega)
 have k1:=hout 1 (by omega)
 have k2:=hout 2 (by omega)
 simp -dsimp at k0 k1 k2
 have f0:=far (show 0<n1 by omega)
 have f1:=far (show 1<n1 by omega)
 have f2:=far (show 2<n1 by omega)
 have z1:¬n1=0:=by omega
 have z2:¬n1=1:=by omega
 have z3:¬n1=2:=by omega
 have g1:=far hi1
 have y0:¬id=0:=by omega
 have y1:¬id=1:=by omega
 have y2:¬id=2:=by omega
 have yn:¬id=n1:=by omega
 have hc:=hst.cell
 rcases hst with ⟨rfl,hs0⟩ | ⟨r,rfl,hr0,hr1,hrm⟩
 ·have hp0:d.past=[]:=by simpa using hs0
  simp -dsimp [nes8 n1,k0,k1,k2,f0,f1,f2,z1,z2,z3,nes,g1,y0,y1,y2,yn,Ne.symm y0,Ne.symm y1,Ne.symm y2,him,hc]
  refine twd [0,1,2,3,4,5,6,7,8,10,11,9,12,13,14] [0,n1] (List.replicate 15 [0,1]) (List.replicate 15 [0,1]) ?_
  simp -dsimp [nes8 n1,k0,k1,k2,f0,f1,f2,z1,z2,z3,nes,g1,y0,y1,y2,yn,Ne.symm y0,Ne.symm y1,Ne.symm y2,him,hc,hp0]
  refine call_ hpo (by simp -dsimp [nes8 n1,k0,k1,k2,f0,f1,f2,z1,z2,z3,nes,g1,y0,y1,y2,yn,Ne.symm y0,Ne.symm y1,Ne.symm y2,him,hc,hp0]) ?_
  rcases hkX with rfl | rfl
  ·simp -dsimp [nes8 n1,k0,k1,k2,f0,f1,f2,z1,z2,z3,nes,g1,y0,y1,y2,yn,Ne.symm y0,Ne.symm y1,Ne.symm y2,him,hc,hp0]
   refine callL_ (vs:=[d.v]) (hcopyK _ _) (by simp -dsimp [hc,hp0]) ?_
   rintro t m2 n2 ⟨hn2,hout2,sn2,P2,rfl,hown2⟩
   have q2:=hout2 2 (by omega)
   simp -dsimp [nes8 n1,k0,k1,k2,f0,f1,f2,z1,z2,z3,nes,g1,y0,y1,y2,yn,Ne.symm y0,Ne.symm y1,Ne.symm y2,him] at q2
   have hfc:=hown2.facts
   have hc2:=hfc.1
   have hcs2:=hfc.2.1
   have hcP2:=hfc.2.2.1
   have hcsP2:=hfc.2.2.2
   clear hfc
   simp -dsimp [dT,q2,hc2,hcs2,hcP2,hcsP2]
   exact ⟨sn2,P2,rfl,hown2.keep (Nat.zero_le _) (by omega) fun j j1 j2=>by simp [show ¬j=2 by omega]⟩
  simp -dsimp [nes8 n1,k0,k1,k2,f0,f1,f2,z1,z2,z3,nes,g1,y0,y1,y2,yn,Ne.symm y0,Ne.symm y1,Ne.symm y2,him,hc,hp0]
  refine call_ hpt (by simp -dsimp [nes8 n1,k0,k1,k2,f0,f1,f2,z1,z2,z3,nes,g1,y0,y1,y2,yn,Ne.symm y0,Ne.symm y1,Ne.symm y2,him,hc,hp0]) ?_
  simp -dsimp [nes8 n1,k0,k1,k2,f0,f1,f2,z1,z2,z3,nes,g1,y0,y1,y2,yn,Ne.symm y0,Ne.symm y1,Ne.symm y2,him,hc,hp0]
  refine cl hpn ?_
  rcases htx with rfl | htx
  ·simp -dsimp [nes8 n1,k0,k1,k2,f0,f1,f2,z1,z2,z3,nes,g1,y0,y1,y2,yn,Ne.symm y0,Ne.symm y1,Ne.symm y2,him,hc,hp0]
   refine callL_ (vs:=[d.v]) (hcopyK _ _) (by simp -dsimp [hc,hp0]) ?_
   rintro t m2 n2 ⟨hn2,hout2,sn2,P2,rfl,hown2⟩
   have q2:=hout2 2 (by omega)
   simp -dsimp [nes8 n1,k0,k1,k2,f0,f1,f2,z1,z2,z3,nes,g1,y0,y1,y2,yn,Ne.symm y0,Ne.symm y1,Ne.symm y2,him] at q2
   have hfc:=hown2.facts
   have hc2:=hfc.1
   have hcs2:=hfc.2.1
   have hcP2:=hfc.2.2.1
   have hcsP2:=hfc.2.2.2
   clear hfc
   simp -dsimp [dT,q2,hc2,hcs2,hcP2,hcsP2]
   exact ⟨sn2,P2,rfl,hown2.keep (Nat.zero_le _) (by omega) fun j j1 j2=>by simp [show ¬j=2 by omega]⟩
  have hRs:=hR rfl
  simp -dsimp [nes8 n1,k0,k1,k2,f0,f1,f2,z1,z2,z3,nes,g1,y0,y1,y2,yn,Ne.symm y0,Ne.symm y1,Ne.symm y2,him,hc,hp0,htx]
  refine twd (List.range 9) [0,n1] (List.replicate 9 [0,1]) (List.replicate 8 [0,1]++[[0]]) ?_
  simp -dsimp [List.range_succ,nes8 n1,k0,k1,k2,f0,f1,f2,z1,z2,z3,nes,g1,y0,y1,y2,yn,Ne.symm y0,Ne.symm y1,Ne.symm y2,him,hc,hp0,htx]
  refine cl hcn ?_
  have hR2:=hRs [d.now] (by rw [hp0]; rfl)
  simp -dsimp [List.range_succ,nes8 n1,k0,k1,k2,f0,f1,f2,z1,z2,z3,nes,g1,y0,y1,y2,yn,Ne.symm y0,Ne.symm y1,Ne.symm y2,him,hc,hp0,htx]
  refine callL_ (vs:=[(⟨⟨num,d.now.story⟩,[d.now]⟩:Desk).v]) (hR2 _ _) (by simp -dsimp [nes8 n1,k0,k1,k2,f0,f1,f2,z1,z2,z3,nes,g1,y0,y1,y2,yn,Ne.symm y0,Ne.symm y1,Ne.symm y2,him,hc,hp0]) ?_
  rintro t m2 n2 ⟨hn2,hout2,sn2,P2,rfl,hown2⟩
  have q2:=hout2 2 (by omega)
  simp -dsimp [nes8 n1,k0,k1,k2,f0,f1,f2,z1,z2,z3,nes,g1,y0,y1,y2,yn,Ne.symm y0,Ne.symm y1,Ne.symm y2,him] at q2
  have hfc:=hown2.facts
  have hc2:=hfc.1
  have hcs2:=hfc.2.1
  have hcP2:=hfc.2.2.1
  have hcsP2:=hfc.2.2.2
  clear hfc
  simp -dsimp [dT,q2,hc2,hcs2,hcP2,hcsP2,htx,hp0,keep8]
  exact ⟨sn2,P2,rfl,hown2.keep (Nat.zero_le _) (by omega) fun j j1 j2=>by simp [show ¬j=2 by omega]⟩
 ·have g2:=far hr1
  have x0:¬r=0:=by omega
  have x1:¬r=1:=by omega
  have x2:¬r=2:=by omega
  have xi:¬r=id:=fun h=>hne (by rw [h])
  simp -dsimp [nes8 n1,k0,k1,k2,f0,f1,f2,z1,z2,z3,nes,g1,y0,y1,y2,yn,Ne.symm y0,Ne.symm y1,Ne.symm y2,him,g2,x0,x1,x2,xi,Ne.symm x0,Ne.symm x1,Ne.symm x2,Ne.symm xi,hrm,hc]
  refine twd [0,1,2,3,4,5,6,7,8,10,11,9,12,13,14] [0,n1] (List.replicate 15 [0,1]) (List.replicate 15 [0,1]) ?_
  simp -dsimp [nes8 n1,k0,k1,k2,f0,f1,f2,z1,z2,z3,nes,g1,y0,y1,y2,yn,Ne.symm y0,Ne.symm y1,Ne.symm y2,him,g2,x0,x1,x2,xi,Ne.symm x0,Ne.symm x1,Ne.symm x2,Ne.symm xi,hrm,hc]
  refine call_ hpo (by simp -dsimp [nes8 n1,k0,k1,k2,f0,f1,f2,z1,z2,z3,nes,g1,y0,y1,y2,yn,Ne.symm y0,Ne.symm y1,Ne.symm y2,him,g2,x0,x1,x2,xi,Ne.symm x0,Ne.symm x1,Ne.symm x2,Ne.symm xi,hrm,hc]) ?_
  rcases hkX with rfl | rfl
  ·simp -dsimp [nes8 n1,k0,k1,k2,f0,f1,f2,z1,z2,z3,nes,g1,y0,y1,y2,yn,Ne.symm y0,Ne.symm y1,Ne.symm y2,him,g2,x0,x1,x2,xi,Ne.symm x0,Ne.symm x1,Ne.symm x2,Ne.symm xi,hrm,hc]
   refine callL_ (vs:=[d.v]) (hcopyK _ _) (by simp -dsimp [hc]) ?_
   rintro t m2 n2 ⟨hn2,hout2,sn2,P2,rfl,hown2⟩
   have q2:=hout2 2 (by omega)
   simp -dsimp [nes8 n1,k0,k1,k2,f0,f1,f2,z1,z2,z3,nes,g1,y0,y1,y2,yn,Ne.symm y0,Ne.symm y1,Ne.symm y2,him,g2,x0,x1,x2,xi,Ne.symm x0,Ne.symm x1,Ne.symm x2,Ne.symm xi,hrm] at q2
   have hfc:=hown2.facts
   have hc2:=hfc.1
   have hcs2:=hfc.2.1
   have hcP2:=hfc.2.2.1
   have hcsP2:=hfc.2.2.2
   clear hfc
   simp -dsimp [dT,q2,hc2,hcs2,hcP2,hcsP2]
   exact ⟨sn2,P2,rfl,hown2.keep (Nat.zero_le _) (by omega) fun j j1 j2=>by simp [show ¬j=2 by omega]⟩
  simp -dsimp [nes8 n1,k0,k1,k2,f0,f1,f2,z1,z2,z3,nes,g1,y0,y1,y2,yn,Ne.symm y0,Ne.symm y1,Ne.symm y2,him,g2,x0,x1,x2,xi,Ne.symm x0,Ne.symm x1,Ne.symm x2,Ne.symm xi,hrm,hc]
  refine call_ hpt (by simp -dsimp [nes8 n1,k0,k1,k2,f0,f1,f2,z1,z2,z3,nes,g1,y0,y1,y2,yn,Ne.symm y0,Ne.symm y1,Ne.symm y2,him,g2,x0,x1,x2,xi,Ne.symm x0,Ne.symm x1,Ne.symm x2,Ne.symm xi,hrm,hc]) ?_
  simp -dsimp [nes8 n1,k0,k1,k2,f0,f1,f2,z1,z2,z3,nes,g1,y0,y1,y2,yn,Ne.symm y0,Ne.symm y1,Ne.symm y2,him,g2,x0,x1,x2,xi,Ne.symm x0,Ne.symm x1,Ne.symm x2,Ne.symm xi,hrm,hc]
  refine cl hpn ?_
  rcases htx with rfl | htx
  ·simp -dsimp [nes8 n1,k0,k1,k2,f0,f1,f2,z1,z2,z3,nes,g1,y0,y1,y2,yn,Ne.symm y0,Ne.symm y1,Ne.symm y2,him,g2,x0,x1,x2,xi,Ne.symm x0,Ne.symm x1,Ne.symm x2,Ne.symm xi,hrm,hc]
   refine callL_ (vs:=[d.v]) (hcopyK _ _) (by simp -dsimp [hc]) ?_
   rintro t m2 n2 ⟨hn2,hout2,sn2,P2,rfl,hown2⟩
   have q2:=hout2 2 (by omega)
   simp -dsimp [nes8 n1,k0,k1,k2,f0,f1,f2,z1,z2,z3,nes,g1,y0,y1,y2,yn,Ne.symm y0,Ne.symm y1,Ne.symm y2,him,g2,x0,x1,x2,xi,Ne.symm x0,Ne.symm x1,Ne.symm x2,Ne.symm xi,hrm] at q2
   have hfc:=hown2.facts
   have hc2:=hfc.1
   have hcs2:=hfc.2.1
   have hcP2:=hfc.2.2.1
   have hcsP2:=hfc.2.2.2
   clear hfc
   simp -dsimp [dT,q2,hc2,hcs2,hcP2,hcsP2]
   exact ⟨sn2,P2,rfl,hown2.keep (Nat.zero_le _) (by omega) fun j j1 j2=>by simp [show ¬j=2 by omega]⟩
  have hRs:=hR rfl
  simp -dsimp [nes8 n1,k0,k1,k2,f0,f1,f2,z1,z2,z3,nes,g1,y0,y1,y2,yn,Ne.symm y0,Ne.symm y1,Ne.symm y2,him,g2,x0,x1,x2,xi,Ne.symm x0,Ne.symm x1,Ne.symm x2,Ne.symm xi,hrm,hc,htx]
  refine twd (List.range 9) [0,n1] (List.replicate 9 [0,1]) (List.replicate 8 [0,1]++[[0]]) ?_
  simp -dsimp [List.range_succ,nes8 n1,k0,k1,k2,f0,f1,f2,z1,z2,z3,nes,g1,y0,y1,y2,yn,Ne.symm y0,Ne.symm y1,Ne.symm y2,him,g2,x0,x1,x2,xi,Ne.symm x0,Ne.symm x1,Ne.symm x2,Ne.symm xi,hrm,hc,htx]
  refine cl hcn ?_
  by_cases h8:d.past.length=8
  ·have e8:(d.past.length:Int)=8:=by omega
   have ek:keep8 (d.past++[d.now])=(d.past++[d.now]).tail:=by unfold keep8; rw [if_pos (by simp [h8])]; simp
   have hR2:=hRs (d.past++[d.now]).tail ek
   have tk:List.take 9 (List.map Place.v d.past++[d.now.v])=List.map Place.v d.past++[d.now.v]:=List.take_of_length_le (by simp [h8])
   have zk:allZ 2 (List.map Place.v d.past++[d.now.v]).tail:=fun x hx=>zplaces x (List.mem_of_mem_tail hx)
   simp only [Place.v,storyV] at tk zk
   simp -dsimp [List.range_succ,nes8 n1,k0,k1,k2,f0,f1,f2,z1,z2,z3,nes,g1,y0,y1,y2,yn,Ne.symm y0,Ne.symm y1,Ne.symm y2,him,g2,x0,x1,x2,xi,Ne.symm x0,Ne.symm x1,Ne.symm x2,Ne.symm xi,hrm,hc,htx,fullb,h8,e8,tk,zk]
   refine callL_ (vs:=[(⟨⟨num,d.now.story⟩,(d.past++[d.now]).tail⟩:Desk).v]) (hR2 _ _) (by simp -dsimp [nes8 n1,k0,k1,k2,f0,f1,f2,z1,z2,z3,nes,g1,y0,y1,y2,yn,Ne.symm y0,Ne.symm y1,Ne.symm y2,him,g2,x0,x1,x2,xi,Ne.symm x0,Ne.symm x1,Ne.symm x2,Ne.symm xi,hrm,hc,List.map_tail,List.map_append]) ?_
   rintro t m2 n2 ⟨hn2,hout2,sn2,P2,rfl,hown2⟩
   have q2:=hout2 2 (by omega)
   simp -dsimp [nes8 n1,k0,k1,k2,f0,f1,f2,z1,z2,z3,nes,g1,y0,y1,y2,yn,Ne.symm y0,Ne.symm y1,Ne.symm y2,him,g2,x0,x1,x2,xi,Ne.symm x0,Ne.symm x1,Ne.symm x2,Ne.symm xi,hrm] at q2
   have hfc:=hown2.facts
   have hc2:=hfc.1
   have hcs2:=hfc.2.1
   have hcP2:=hfc.2.2.1
   have hcsP2:=hfc.2.2.2
   clear hfc
   simp -dsimp [dT,q2,hc2,hcs2,hcP2,hcsP2,htx,ek]
   exact ⟨sn2,P2,rfl,hown2.keep (Nat.zero_le _) (by omega) fun j j1 j2=>by simp [show ¬j=2 by omega]⟩
  ·have e8:d.past.length<8:=by omega
   have e8':¬(8:Int)<(d.past.length:Int)+1:=by omega
   have e8'':¬8<d.past.length+1:=by omega
   have ek:keep8 (d.past++[d.now])=d.past++[d.now]:=by unfold keep8; rw [if_neg (by simp; omega)]
   have hR2:=hRs (d.past++[d.now]) ek
   simp -dsimp [List.range_succ,nes8 n1,k0,k1,k2,f0,f1,f2,z1,z2,z3,nes,g1,y0,y1,y2,yn,Ne.symm y0,Ne.symm y1,Ne.symm y2,him,g2,x0,x1,x2,xi,Ne.symm x0,Ne.symm x1,Ne.symm x2,Ne.symm xi,hrm,hc,htx,fullb,h8,e8,e8',e8'']
   refine callL_ (vs:=[(⟨⟨num,d.now.story⟩,d.past++[d.now]⟩:Desk).v]) (hR2 _ _) (by simp -dsimp [nes8 n1,k0,k1,k2,f0,f1,f2,z1,z2,z3,nes,g1,y0,y1,y2,yn,Ne.symm y0,Ne.symm y1,Ne.symm y2,him,g2,x0,x1,x2,xi,Ne.symm x0,Ne.symm x1,Ne.symm x2,Ne.symm xi,hrm,hc]) ?_
   rintro t m2 n2 ⟨hn2,hout2,sn2,P2,rfl,hown2⟩
   have q2:=hout2 2 (by omega)
   simp -dsimp [nes8 n1,k0,k1,k2,f0,f1,f2,z1,z2,z3,nes,g1,y0,y1,y2,yn,Ne.symm y0,Ne.symm y1,Ne.symm y2,him,g2,x0,x1,x2,xi,Ne.symm x0,Ne.symm x1,Ne.symm x2,Ne.symm xi,hrm] at q2
   have hfc:=hown2.facts
   have hc2:=hfc.1
   have hcs2:=hfc.2.1
   have hcP2:=hfc.2.2.1
   have hcsP2:=hfc.2.2.2
   clear hfc
   simp -dsimp [dT,q2,hc2,hcs2,hcP2,hcsP2,htx,ek]
   exact ⟨sn2,P2,rfl,hown2.keep (Nat.zero_le _) (by omega) fun j j1 j2=>by simp [show ¬j=2 by omega]⟩
end TL

namespace TL
open Go Go.Proofs
attribute [local simp] marksV storyV codeV Claim.v Place.v Deed.v Desk.v
theorem do_least_k (d:Desk)  (hd:d.small) (hk:deskOk d=true) (X:Place) (hXl:X.story.length≤7) (hX:X=⟨d.now.people,least d.now.people.toNat d.now.story⟩) :
  FnS Tryz.prog 23 (fun _=>none) 0 [.v d.v,.v (⟨3,0,[]⟩:Deed).v] (PostK (if (placeOk X && !decide (placeTx X=placeTx d.now))=true then ((⟨X,keep8 (d.past++[d.now])⟩,true):Desk × Bool) else (d,false))):=by
 have hpo:=placeOk_fn X (by omega)
 have hpt:=placeText_fn X (by omega)
 have hpn:=placeText_fn d.now (by have:=hd.1.1; omega)
 have hcn:=copyPlace_fn d.now hd.1
 have hok:=deskOk_fn d (by have:=hd.2.1; omega) (by have:=hd.1.1; omega) (fun p hp=>by have:=(hd.2.2 p hp).1; omega)
 rw [hk] at hok
 obtain ⟨hpast,hnow,hp8⟩:=deskOk_iff.1 hk
 have hcopy:=fun m n=>copyDesk_own d hd m n
 have hcopyK:=fun m n=>copyDesk_k d hd hk m n
 have fullb:(d.past.length+1) * 32≤140737488355328:=by omega
 have zplaces:allZ 2 (List.map Place.v d.past++[d.now.v]):=fun x hx=>by
  rcases List.mem_append.1 hx with hx | hx
  ·obtain ⟨p,_,rfl⟩:=List.mem_map.1 hx; exact ⟨by simp,by simp⟩
  ·rw [List.mem_singleton.1 hx]; exact ⟨by simp,by simp⟩
 have hR:placeOk X=true→∀ l,keep8 (d.past++[d.now])=l→∀ m n,FnS Tryz.prog 24 m n [.v (⟨X,l⟩:Desk).v] (DeepK ⟨X,l⟩ m n):=fun hX l hl m n=>by
  have ok:deskOk ⟨X,l⟩=true:=deskOk_iff.2 ⟨fun p hp=>by
   rw [← hl] at hp
   rcases List.mem_append.1 (keep8_mem hp) with h1 | h1
   ·exact hpast p h1
   ·rw [List.mem_singleton.1 h1]; exact hnow,hX,by rw [← hl]; exact keep8_len _ (by simp; omega)⟩
  exact copyDesk_k ⟨X,l⟩ (desk_fine ok).1 ok m n
 have hls:=leastStory_fn d.now.people d.now.story hnow
 have hkX:=ft (placeOk X)
 have htx:placeTx X=placeTx d.now∨¬placeTx X=placeTx d.now:=Classical.em _
 generalize placeTx X=tX at *
 generalize placeTx d.now=tN at *
 generalize placeOk X=okX at *
 subst hX
 generalize least d.now.people.toNat d.now.story=R at *
 refine FS (rs:=[.cell 4 28,.tmp 5]) false Tryz.func23 ?_
 simp -dsimp
 refine cl hok ?_
 simp -dsimp
 refine callL_ (vs:=[d.v]) (hcopy _ _) (by simp -dsimp) ?_
 rintro t m1 n1 ⟨hn1,hout,id,st,rfl,hi0,hi1,him,hst,hne⟩
 have k0:=hout 0 (by omega)
 have k1:=hout 1 (by omega)
 have k2:=hout 2 (by omega)
 simp -dsimp at k0 k1 k2
 have f0:=far (show 0<n1 by omega)
 have f1:=far (show 1<n1 by omega)
 have f2:=far (show 2<n1 by omega)
 have z1:¬n1=0:=by omega
 have z2:¬n1=1:=by omega
 have z3:¬n1=2:=by omega
 have g1:=far hi1
 have y0:¬id=0:=by omega
 have y1:¬id=1:=by omega
 have y2:¬id=2:=by omega
 have yn:¬id=n1:=by omega
 have hc:=hst.cell
 rcases hst with ⟨rfl,hs0⟩ | ⟨r,rfl,hr0,hr1,hrm⟩
 ·have hp0:d.past=[]:=by simpa using hs0
  simp -dsimp [nes8 n1,k0,k1,k2,f0,f1,f2,z1,z2,z3,nes,g1,y0,y1,y2,yn,Ne.symm y0,Ne.symm y1,Ne.symm y2,him,hc]
  refine twd (List.range 16) [n1] (List.replicate 12 [0]++[[],[],[],[]]) (List.replicate 15 [0]++[[]]) ?_
  simp -dsimp [List.range_succ,nes8 n1,k0,k1,k2,f0,f1,f2,z1,z2,z3,nes,g1,y0,y1,y2,yn,Ne.symm y0,Ne.symm y1,Ne.symm y2,him,hc]
  refine call_ hls (by simp -dsimp [nes8 n1,k0,k1,k2,f0,f1,f2,z1,z2,z3,nes,g1,y0,y1,y2,yn,Ne.symm y0,Ne.symm y1,Ne.symm y2,him,hc]) ?_
  simp -dsimp [List.range_succ,nes8 n1,k0,k1,k2,f0,f1,f2,z1,z2,z3,nes,g1,y0,y1,y2,yn,Ne.symm y0,Ne.symm y1,Ne.symm y2,him,hc]
  refine twd [0,1,2,3,4,5,6,7,8,10,11,9,12,13,14] [0,n1] (List.replicate 15 [0,1]) (List.replicate 15 [0,1]) ?_
  simp -dsimp [nes8 n1,k0,k1,k2,f0,f1,f2,z1,z2,z3,nes,g1,y0,y1,y2,yn,Ne.symm y0,Ne.symm y1,Ne.symm y2,him,hc,hp0]
  refine call_ hpo (by simp -dsimp [nes8 n1,k0,k1,k2,f0,f1,f2,z1,z2,z3,nes,g1,y0,y1,y2,yn,Ne.symm y0,Ne.symm y1,Ne.symm y2,him,hc,hp0]) ?_
  rcases hkX with rfl | rfl
  ·simp -dsimp [nes8 n1,k0,k1,k2,f0,f1,f2,z1,z2,z3,nes,g1,y0,y1,y2,yn,Ne.symm y0,Ne.symm y1,Ne.symm y2,him,hc,hp0]
   refine callL_ (vs:=[d.v]) (hcopyK _ _) (by simp -dsimp [hc,hp0]) ?_
   rintro t m2 n2 ⟨hn2,hout2,sn2,P2,rfl,hown2⟩
   have q2:=hout2 2 (by omega)
   simp -dsimp [nes8 n1,k0,k1,k2,f0,f1,f2,z1,z2,z3,nes,g1,y0,y1,y2,yn,Ne.symm y0,Ne.symm y1,Ne.symm y2,him] at q2
   have hfc:=hown2.facts
   have hc2:=hfc.1
   have hcs2:=hfc.2.1
   have hcP2:=hfc.2.2.1
   have hcsP2:=hfc.2.2.2
   clear hfc
   simp -dsimp [dT,q2,hc2,hcs2,hcP2,hcsP2]
   exact ⟨sn2,P2,rfl,hown2.keep (Nat.zero_le _) (by omega) fun j j1 j2=>by simp [show ¬j=2 by omega]⟩
  simp -dsimp [nes8 n1,k0,k1,k2,f0,f1,f2,z1,z2,z3,nes,g1,y0,y1,y2,yn,Ne.symm y0,Ne.symm y1,Ne.symm y2,him,hc,hp0]
  refine call_ hpt (by simp -dsimp [nes8 n1,k0,k1,k2,f0,f1,f2,z1,z2,z3,nes,g1,y0,y1,y2,yn,Ne.symm y0,Ne.symm y1,Ne.symm y2,him,hc,hp0]) ?_
  simp -dsimp [nes8 n1,k0,k1,k2,f0,f1,f2,z1,z2,z3,nes,g1,y0,y1,y2,yn,Ne.symm y0,Ne.symm y1,Ne.symm y2,him,hc,hp0]
  refine cl hpn ?_
  rcases htx with rfl | htx
  ·simp -dsimp [nes8 n1,k0,k1,k2,f0,f1,f2,z1,z2,z3,nes,g1,y0,y1,y2,yn,Ne.symm y0,Ne.symm y1,Ne.symm y2,him,hc,hp0]
   refine callL_ (vs:=[d.v]) (hcopyK _ _) (by simp -dsimp [hc,hp0]) ?_
   rintro t m2 n2 ⟨hn2,hout2,sn2,P2,rfl,hown2⟩
   have q2:=hout2 2 (by omega)
   simp -dsimp [nes8 n1,k0,k1,k2,f0,f1,f2,z1,z2,z3,nes,g1,y0,y1,y2,yn,Ne.symm y0,Ne.symm y1,Ne.symm y2,him] at q2
   have hfc:=hown2.facts
   have hc2:=hfc.1
   have hcs2:=hfc.2.1
   have hcP2:=hfc.2.2.1
   have hcsP2:=hfc.2.2.2
   clear hfc
   simp -dsimp [dT,q2,hc2,hcs2,hcP2,hcsP2]
   exact ⟨sn2,P2,rfl,hown2.keep (Nat.zero_le _) (by omega) fun j j1 j2=>by simp [show ¬j=2 by omega]⟩
  have hRs:=hR rfl
  simp -dsimp [nes8 n1,k0,k1,k2,f0,f1,f2,z1,z2,z3,nes,g1,y0,y1,y2,yn,Ne.symm y0,Ne.symm y1,Ne.symm y2,him,hc,hp0,htx]
  refine twd (List.range 9) [0,n1] (List.replicate 9 [0,1]) (List.replicate 8 [0,1]++[[0]]) ?_
  simp -dsimp [List.range_succ,nes8 n1,k0,k1,k2,f0,f1,f2,z1,z2,z3,nes,g1,y0,y1,y2,yn,Ne.symm y0,Ne.symm y1,Ne.symm y2,him,hc,hp0,htx]
  refine cl hcn ?_
  have hR2:=hRs [d.now] (by rw [hp0]; rfl)
  simp -dsimp [List.range_succ,nes8 n1,k0,k1,k2,f0,f1,f2,z1,z2,z3,nes,g1,y0,y1,y2,yn,Ne.symm y0,Ne.symm y1,Ne.symm y2,him,hc,hp0,htx]
  refine callL_ (vs:=[(⟨⟨d.now.people,R⟩,[d.now]⟩:Desk).v]) (hR2 _ _) (by simp -dsimp [nes8 n1,k0,k1,k2,f0,f1,f2,z1,z2,z3,nes,g1,y0,y1,y2,yn,Ne.symm y0,Ne.symm y1,Ne.symm y2,him,hc,hp0]) ?_
  rintro t m2 n2 ⟨hn2,hout2,sn2,P2,rfl,hown2⟩
  have q2:=hout2 2 (by omega)
  simp -dsimp [nes8 n1,k0,k1,k2,f0,f1,f2,z1,z2,z3,nes,g1,y0,y1,y2,yn,Ne.symm y0,Ne.symm y1,Ne.symm y2,him] at q2
  have hfc:=hown2.facts
  have hc2:=hfc.1
  have hcs2:=hfc.2.1
  have hcP2:=hfc.2.2.1
  have hcsP2:=hfc.2.2.2
  clear hfc
  simp -dsimp [dT,q2,hc2,hcs2,hcP2,hcsP2,htx,hp0,keep8]
  exact ⟨sn2,P2,rfl,hown2.keep (Nat.zero_le _) (by omega) fun j j1 j2=>by simp [show ¬j=2 by omega]⟩
 ·have g2:=far hr1
  have x0:¬r=0:=by omega
  have x1:¬r=1:=by omega
  have x2:¬r=2:=by omega
  have xi:¬r=id:=fun h=>hne (by rw [h])
  simp -dsimp [nes8 n1,k0,k1,k2,f0,f1,f2,z1,z2,z3,nes,g1,y0,y1,y2,yn,Ne.symm y0,Ne.symm y1,Ne.symm y2,him,g2,x0,x1,x2,xi,Ne.symm x0,Ne.symm x1,Ne.symm x2,Ne.symm xi,hrm,hc]
  refine twd (List.range 16) [n1] (List.replicate 12 [0]++[[],[],[],[]]) (List.replicate 15 [0]++[[]]) ?_
  simp -dsimp [List.range_succ,nes8 n1,k0,k1,k2,f0,f1,f2,z1,z2,z3,nes,g1,y0,y1,y2,yn,Ne.symm y0,Ne.symm y1,Ne.symm y2,him,g2,x0,x1,x2,xi,Ne.symm x0,Ne.symm x1,Ne.symm x2,Ne.symm xi,hrm,hc]
  refine call_ hls (by simp -dsimp [nes8 n1,k0,k1,k2,f0,f1,f2,z1,z2,z3,nes,g1,y0,y1,y2,yn,Ne.symm y0,Ne.symm y1,Ne.symm y2,him,g2,x0,x1,x2,xi,Ne.symm x0,Ne.symm x1,Ne.symm x2,Ne.symm xi,hrm,hc]) ?_
  simp -dsimp [List.range_succ,nes8 n1,k0,k1,k2,f0,f1,f2,z1,z2,z3,nes,g1,y0,y1,y2,yn,Ne.symm y0,Ne.symm y1,Ne.symm y2,him,g2,x0,x1,x2,xi,Ne.symm x0,Ne.symm x1,Ne.symm x2,Ne.symm xi,hrm,hc]
  refine twd [0,1,2,3,4,5,6,7,8,10,11,9,12,13,14] [0,n1] (List.replicate 15 [0,1]) (List.replicate 15 [0,1]) ?_
  simp -dsimp [nes8 n1,k0,k1,k2,f0,f1,f2,z1,z2,z3,nes,g1,y0,y1,y2,yn,Ne.symm y0,Ne.symm y1,Ne.symm y2,him,g2,x0,x1,x2,xi,Ne.symm x0,Ne.symm x1,Ne.symm x2,Ne.symm xi,hrm,hc]
  refine call_ hpo (by simp -dsimp [nes8 n1,k0,k1,k2,f0,f1,f2,z1,z2,z3,nes,g1,y0,y1,y2,yn,Ne.symm y0,Ne.symm y1,Ne.symm y2,him,g2,x0,x1,x2,xi,Ne.symm x0,Ne.symm x1,Ne.symm x2,Ne.symm xi,hrm,hc]) ?_
  rcases hkX with rfl | rfl
  ·simp -dsimp [nes8 n1,k0,k1,k2,f0,f1,f2,z1,z2,z3,nes,g1,y0,y1,y2,yn,Ne.symm y0,Ne.symm y1,Ne.symm y2,him,g2,x0,x1,x2,xi,Ne.symm x0,Ne.symm x1,Ne.symm x2,Ne.symm xi,hrm,hc]
   refine callL_ (vs:=[d.v]) (hcopyK _ _) (by simp -dsimp [hc]) ?_
   rintro t m2 n2 ⟨hn2,hout2,sn2,P2,rfl,hown2⟩
   have q2:=hout2 2 (by omega)
   simp -dsimp [nes8 n1,k0,k1,k2,f0,f1,f2,z1,z2,z3,nes,g1,y0,y1,y2,yn,Ne.symm y0,Ne.symm y1,Ne.symm y2,him,g2,x0,x1,x2,xi,Ne.symm x0,Ne.symm x1,Ne.symm x2,Ne.symm xi,hrm] at q2
   have hfc:=hown2.facts
   have hc2:=hfc.1
   have hcs2:=hfc.2.1
   have hcP2:=hfc.2.2.1
   have hcsP2:=hfc.2.2.2
   clear hfc
   simp -dsimp [dT,q2,hc2,hcs2,hcP2,hcsP2]
   exact ⟨sn2,P2,rfl,hown2.keep (Nat.zero_le _) (by omega) fun j j1 j2=>by simp [show ¬j=2 by omega]⟩
  simp -dsimp [nes8 n1,k0,k1,k2,f0,f1,f2,z1,z2,z3,nes,g1,y0,y1,y2,yn,Ne.symm y0,Ne.symm y1,Ne.symm y2,him,g2,x0,x1,x2,xi,Ne.symm x0,Ne.symm x1,Ne.symm x2,Ne.symm xi,hrm,hc]
  refine call_ hpt (by simp -dsimp [nes8 n1,k0,k1,k2,f0,f1,f2,z1,z2,z3,nes,g1,y0,y1,y2,yn,Ne.symm y0,Ne.symm y1,Ne.symm y2,him,g2,x0,x1,x2,xi,Ne.symm x0,Ne.symm x1,Ne.symm x2,Ne.symm xi,hrm,hc]) ?_
  simp -dsimp [nes8 n1,k0,k1,k2,f0,f1,f2,z1,z2,z3,nes,g1,y0,y1,y2,yn,Ne.symm y0,Ne.symm y1,Ne.symm y2,him,g2,x0,x1,x2,xi,Ne.symm x0,Ne.symm x1,Ne.symm x2,Ne.symm xi,hrm,hc]
  refine cl hpn ?_
  rcases htx with rfl | htx
  ·simp -dsimp [nes8 n1,k0,k1,k2,f0,f1,f2,z1,z2,z3,nes,g1,y0,y1,y2,yn,Ne.symm y0,Ne.symm y1,Ne.symm y2,him,g2,x0,x1,x2,xi,Ne.symm x0,Ne.symm x1,Ne.symm x2,Ne.symm xi,hrm,hc]
   refine callL_ (vs:=[d.v]) (hcopyK _ _) (by simp -dsimp [hc]) ?_
   rintro t m2 n2 ⟨hn2,hout2,sn2,P2,rfl,hown2⟩
   have q2:=hout2 2 (by omega)
   simp -dsimp [nes8 n1,k0,k1,k2,f0,f1,f2,z1,z2,z3,nes,g1,y0,y1,y2,yn,Ne.symm y0,Ne.symm y1,Ne.symm y2,him,g2,x0,x1,x2,xi,Ne.symm x0,Ne.symm x1,Ne.symm x2,Ne.symm xi,hrm] at q2
   have hfc:=hown2.facts
   have hc2:=hfc.1
   have hcs2:=hfc.2.1
   have hcP2:=hfc.2.2.1
   have hcsP2:=hfc.2.2.2
   clear hfc
   simp -dsimp [dT,q2,hc2,hcs2,hcP2,hcsP2]
   exact ⟨sn2,P2,rfl,hown2.keep (Nat.zero_le _) (by omega) fun j j1 j2=>by simp [show ¬j=2 by omega]⟩
  have hRs:=hR rfl
  simp -dsimp [nes8 n1,k0,k1,k2,f0,f1,f2,z1,z2,z3,nes,g1,y0,y1,y2,yn,Ne.symm y0,Ne.symm y1,Ne.symm y2,him,g2,x0,x1,x2,xi,Ne.symm x0,Ne.symm x1,Ne.symm x2,Ne.symm xi,hrm,hc,htx]
  refine twd (List.range 9) [0,n1] (List.replicate 9 [0,1]) (List.replicate 8 [0,1]++[[0]]) ?_
  simp -dsimp [List.range_succ,nes8 n1,k0,k1,k2,f0,f1,f2,z1,z2,z3,nes,g1,y0,y1,y2,yn,Ne.symm y0,Ne.symm y1,Ne.symm y2,him,g2,x0,x1,x2,xi,Ne.symm x0,Ne.symm x1,Ne.symm x2,Ne.symm xi,hrm,hc,htx]
  refine cl hcn ?_
  by_cases h8:d.past.length=8
  ·have e8:(d.past.length:Int)=8:=by omega
   have ek:keep8 (d.past++[d.now])=(d.past++[d.now]).tail:=by unfold keep8; rw [if_pos (by simp [h8])]; simp
   have hR2:=hRs (d.past++[d.now]).tail ek
   have tk:List.take 9 (List.map Place.v d.past++[d.now.v])=List.map Place.v d.past++[d.now.v]:=List.take_of_length_le (by simp [h8])
   have zk:allZ 2 (List.map Place.v d.past++[d.now.v]).tail:=fun x hx=>zplaces x (List.mem_of_mem_tail hx)
   simp only [Place.v,storyV] at tk zk
   simp -dsimp [List.range_succ,nes8 n1,k0,k1,k2,f0,f1,f2,z1,z2,z3,nes,g1,y0,y1,y2,yn,Ne.symm y0,Ne.symm y1,Ne.symm y2,him,g2,x0,x1,x2,xi,Ne.symm x0,Ne.symm x1,Ne.symm x2,Ne.symm xi,hrm,hc,htx,fullb,h8,e8,tk,zk]
   refine callL_ (vs:=[(⟨⟨d.now.people,R⟩,(d.past++[d.now]).tail⟩:Desk).v]) (hR2 _ _) (by simp -dsimp [nes8 n1,k0,k1,k2,f0,f1,f2,z1,z2,z3,nes,g1,y0,y1,y2,yn,Ne.symm y0,Ne.symm y1,Ne.symm y2,him,g2,x0,x1,x2,xi,Ne.symm x0,Ne.symm x1,Ne.symm x2,Ne.symm xi,hrm,hc,List.map_tail,List.map_append]) ?_
   rintro t m2 n2 ⟨hn2,hout2,sn2,P2,rfl,hown2⟩
   have q2:=hout2 2 (by omega)
   simp -dsimp [nes8 n1,k0,k1,k2,f0,f1,f2,z1,z2,z3,nes,g1,y0,y1,y2,yn,Ne.symm y0,Ne.symm y1,Ne.symm y2,him,g2,x0,x1,x2,xi,Ne.symm x0,Ne.symm x1,Ne.symm x2,Ne.symm xi,hrm] at q2
   have hfc:=hown2.facts
   have hc2:=hfc.1
   have hcs2:=hfc.2.1
   have hcP2:=hfc.2.2.1
   have hcsP2:=hfc.2.2.2
   clear hfc
   simp -dsimp [dT,q2,hc2,hcs2,hcP2,hcsP2,htx,ek]
   exact ⟨sn2,P2,rfl,hown2.keep (Nat.zero_le _) (by omega) fun j j1 j2=>by simp [show ¬j=2 by omega]⟩
  ·have e8:d.past.length<8:=by omega
   have e8':¬(8:Int)<(d.past.length:Int)+1:=by omega
   have e8'':¬8<d.past.length+1:=by omega
   have ek:keep8 (d.past++[d.now])=d.past++[d.now]:=by unfold keep8; rw [if_neg (by simp; omega)]
   have hR2:=hRs (d.past++[d.now]) ek
   simp -dsimp [List.range_succ,nes8 n1,k0,k1,k2,f0,f1,f2,z1,z2,z3,nes,g1,y0,y1,y2,yn,Ne.symm y0,Ne.symm y1,Ne.symm y2,him,g2,x0,x1,x2,xi,Ne.symm x0,Ne.symm x1,Ne.symm x2,Ne.symm xi,hrm,hc,htx,fullb,h8,e8,e8',e8'']
   refine callL_ (vs:=[(⟨⟨d.now.people,R⟩,d.past++[d.now]⟩:Desk).v]) (hR2 _ _) (by simp -dsimp [nes8 n1,k0,k1,k2,f0,f1,f2,z1,z2,z3,nes,g1,y0,y1,y2,yn,Ne.symm y0,Ne.symm y1,Ne.symm y2,him,g2,x0,x1,x2,xi,Ne.symm x0,Ne.symm x1,Ne.symm x2,Ne.symm xi,hrm,hc]) ?_
   rintro t m2 n2 ⟨hn2,hout2,sn2,P2,rfl,hown2⟩
   have q2:=hout2 2 (by omega)
   simp -dsimp [nes8 n1,k0,k1,k2,f0,f1,f2,z1,z2,z3,nes,g1,y0,y1,y2,yn,Ne.symm y0,Ne.symm y1,Ne.symm y2,him,g2,x0,x1,x2,xi,Ne.symm x0,Ne.symm x1,Ne.symm x2,Ne.symm xi,hrm] at q2
   have hfc:=hown2.facts
   have hc2:=hfc.1
   have hcs2:=hfc.2.1
   have hcP2:=hfc.2.2.1
   have hcsP2:=hfc.2.2.2
   clear hfc
   simp -dsimp [dT,q2,hc2,hcs2,hcP2,hcsP2,htx,ek]
   exact ⟨sn2,P2,rfl,hown2.keep (Nat.zero_le _) (by omega) fun j j1 j2=>by simp [show ¬j=2 by omega]⟩
end TL

namespace TL
open Go Go.Proofs
attribute [local simp] marksV storyV codeV Claim.v Place.v Deed.v Desk.v
theorem do_drop_k (d:Desk) (k:Nat) (hd:d.small) (hk:deskOk d=true) (X:Place) (hXl:X.story.length≤7) (hlt:k<d.now.story.length) (hX:X=⟨d.now.people,d.now.story.eraseIdx k⟩) :
  FnS Tryz.prog 23 (fun _=>none) 0 [.v d.v,.v (⟨1,(k:Int),[]⟩:Deed).v] (PostK (if (placeOk X && !decide (placeTx X=placeTx d.now))=true then ((⟨X,keep8 (d.past++[d.now])⟩,true):Desk × Bool) else (d,false))):=by
 have hpo:=placeOk_fn X (by omega)
 have hpt:=placeText_fn X (by omega)
 have hpn:=placeText_fn d.now (by have:=hd.1.1; omega)
 have hcn:=copyPlace_fn d.now hd.1
 have hok:=deskOk_fn d (by have:=hd.2.1; omega) (by have:=hd.1.1; omega) (fun p hp=>by have:=(hd.2.2 p hp).1; omega)
 rw [hk] at hok
 obtain ⟨hpast,hnow,hp8⟩:=deskOk_iff.1 hk
 have hcopy:=fun m n=>copyDesk_own d hd m n
 have hcopyK:=fun m n=>copyDesk_k d hd hk m n
 have fullb:(d.past.length+1) * 32≤140737488355328:=by omega
 have zplaces:allZ 2 (List.map Place.v d.past++[d.now.v]):=fun x hx=>by
  rcases List.mem_append.1 hx with hx | hx
  ·obtain ⟨p,_,rfl⟩:=List.mem_map.1 hx; exact ⟨by simp,by simp⟩
  ·rw [List.mem_singleton.1 hx]; exact ⟨by simp,by simp⟩
 have hR:placeOk X=true→∀ l,keep8 (d.past++[d.now])=l→∀ m n,FnS Tryz.prog 24 m n [.v (⟨X,l⟩:Desk).v] (DeepK ⟨X,l⟩ m n):=fun hX l hl m n=>by
  have ok:deskOk ⟨X,l⟩=true:=deskOk_iff.2 ⟨fun p hp=>by
   rw [← hl] at hp
   rcases List.mem_append.1 (keep8_mem hp) with h1 | h1
   ·exact hpast p h1
   ·rw [List.mem_singleton.1 h1]; exact hnow,hX,by rw [← hl]; exact keep8_len _ (by simp; omega)⟩
  exact copyDesk_k ⟨X,l⟩ (desk_fine ok).1 ok m n
 have hw:=without_fn d.now.story k hlt (by have:=hd.1.1; omega)
 have hkX:=ft (placeOk X)
 have htx:placeTx X=placeTx d.now∨¬placeTx X=placeTx d.now:=Classical.em _
 generalize placeTx X=tX at *
 generalize placeTx d.now=tN at *
 generalize placeOk X=okX at *
 subst hX
 have c1:¬(d.now.story.length:Int)≤k:=by omega
 have c2:¬d.now.story.length≤k:=by omega
 have c3:¬(k:Int)<0:=by omega
 generalize d.now.story.eraseIdx k=R at *
 refine FS (rs:=[.cell 4 28,.tmp 5]) false Tryz.func23 ?_
 simp -dsimp
 refine cl hok ?_
 simp -dsimp
 refine callL_ (vs:=[d.v]) (hcopy _ _) (by simp -dsimp) ?_
 rintro t m1 n1 ⟨hn1,hout,id,st,rfl,hi0,hi1,him,hst,hne⟩
 have k0:=hout 0 (by omega)
 have k1:=hout 1 (by omega)
 have k2:=hout 2 (by omega)
 simp -dsimp at k0 k1 k2
 have f0:=far (show 0<n1 by omega)
 have f1:=far (show 1<n1 by omega)
 have f2:=far (show 2<n1 by omega)
 have z1:¬n1=0:=by omega
 have z2:¬n1=1:=by omega
 have z3:¬n1=2:=by omega
 have g1:=far hi1
 have y0:¬id=0:=by omega
 have y1:¬id=1:=by omega
 have y2:¬id=2:=by omega
 have yn:¬id=n1:=by omega
 have hc:=hst.cell
 rcases hst with ⟨rfl,hs0⟩ | ⟨r,rfl,hr0,hr1,hrm⟩
 ·have hp0:d.past=[]:=by simpa using hs0
  simp -dsimp [nes8 n1,k0,k1,k2,f0,f1,f2,z1,z2,z3,nes,g1,y0,y1,y2,yn,Ne.symm y0,Ne.symm y1,Ne.symm y2,him,hc,c1,c2,c3]
  refine twd (List.range 13) [1,n1,id] (List.replicate 13 [0,1,2]) (List.replicate 13 [0,1,2]) ?_
  simp -dsimp [List.range_succ,nes8 n1,k0,k1,k2,f0,f1,f2,z1,z2,z3,nes,g1,y0,y1,y2,yn,Ne.symm y0,Ne.symm y1,Ne.symm y2,him,hc,c1,c2,c3]
  refine twd (List.range 11) [1,n1] (List.replicate 8 [0,1]++[[],[],[]]) (List.replicate 10 [0,1]++[[0]]) ?_
  simp -dsimp [List.range_succ,nes8 n1,k0,k1,k2,f0,f1,f2,z1,z2,z3,nes,g1,y0,y1,y2,yn,Ne.symm y0,Ne.symm y1,Ne.symm y2,him,hc,c1,c2,c3]
  refine call_ hw (by simp -dsimp [nes8 n1,k0,k1,k2,f0,f1,f2,z1,z2,z3,nes,g1,y0,y1,y2,yn,Ne.symm y0,Ne.symm y1,Ne.symm y2,him,hc,c1,c2,c3]) ?_
  simp -dsimp [List.range_succ,nes8 n1,k0,k1,k2,f0,f1,f2,z1,z2,z3,nes,g1,y0,y1,y2,yn,Ne.symm y0,Ne.symm y1,Ne.symm y2,him,hc,c1,c2,c3]
  refine twd [0,1,2,3,4,5,6,7,8,10,11,9,12,13,14] [0,n1] (List.replicate 15 [0,1]) (List.replicate 15 [0,1]) ?_
  simp -dsimp [nes8 n1,k0,k1,k2,f0,f1,f2,z1,z2,z3,nes,g1,y0,y1,y2,yn,Ne.symm y0,Ne.symm y1,Ne.symm y2,him,hc,c1,c2,c3,hp0]
  refine call_ hpo (by simp -dsimp [nes8 n1,k0,k1,k2,f0,f1,f2,z1,z2,z3,nes,g1,y0,y1,y2,yn,Ne.symm y0,Ne.symm y1,Ne.symm y2,him,hc,c1,c2,c3,hp0]) ?_
  rcases hkX with rfl | rfl
  ·simp -dsimp [nes8 n1,k0,k1,k2,f0,f1,f2,z1,z2,z3,nes,g1,y0,y1,y2,yn,Ne.symm y0,Ne.symm y1,Ne.symm y2,him,hc,c1,c2,c3,hp0]
   refine callL_ (vs:=[d.v]) (hcopyK _ _) (by simp -dsimp [hc,c1,c2,c3,hp0]) ?_
   rintro t m2 n2 ⟨hn2,hout2,sn2,P2,rfl,hown2⟩
   have q2:=hout2 2 (by omega)
   simp -dsimp [nes8 n1,k0,k1,k2,f0,f1,f2,z1,z2,z3,nes,g1,y0,y1,y2,yn,Ne.symm y0,Ne.symm y1,Ne.symm y2,him] at q2
   have hfc:=hown2.facts
   have hc2:=hfc.1
   have hcs2:=hfc.2.1
   have hcP2:=hfc.2.2.1
   have hcsP2:=hfc.2.2.2
   clear hfc
   simp -dsimp [dT,q2,hc2,hcs2,hcP2,hcsP2]
   exact ⟨sn2,P2,rfl,hown2.keep (Nat.zero_le _) (by omega) fun j j1 j2=>by simp [show ¬j=2 by omega]⟩
  simp -dsimp [nes8 n1,k0,k1,k2,f0,f1,f2,z1,z2,z3,nes,g1,y0,y1,y2,yn,Ne.symm y0,Ne.symm y1,Ne.symm y2,him,hc,c1,c2,c3,hp0]
  refine call_ hpt (by simp -dsimp [nes8 n1,k0,k1,k2,f0,f1,f2,z1,z2,z3,nes,g1,y0,y1,y2,yn,Ne.symm y0,Ne.symm y1,Ne.symm y2,him,hc,c1,c2,c3,hp0]) ?_
  simp -dsimp [nes8 n1,k0,k1,k2,f0,f1,f2,z1,z2,z3,nes,g1,y0,y1,y2,yn,Ne.symm y0,Ne.symm y1,Ne.symm y2,him,hc,c1,c2,c3,hp0]
  refine cl hpn ?_
  rcases htx with rfl | htx
  ·simp -dsimp [nes8 n1,k0,k1,k2,f0,f1,f2,z1,z2,z3,nes,g1,y0,y1,y2,yn,Ne.symm y0,Ne.symm y1,Ne.symm y2,him,hc,c1,c2,c3,hp0]
   refine callL_ (vs:=[d.v]) (hcopyK _ _) (by simp -dsimp [hc,c1,c2,c3,hp0]) ?_
   rintro t m2 n2 ⟨hn2,hout2,sn2,P2,rfl,hown2⟩
   have q2:=hout2 2 (by omega)
   simp -dsimp [nes8 n1,k0,k1,k2,f0,f1,f2,z1,z2,z3,nes,g1,y0,y1,y2,yn,Ne.symm y0,Ne.symm y1,Ne.symm y2,him] at q2
   have hfc:=hown2.facts
   have hc2:=hfc.1
   have hcs2:=hfc.2.1
   have hcP2:=hfc.2.2.1
   have hcsP2:=hfc.2.2.2
   clear hfc
   simp -dsimp [dT,q2,hc2,hcs2,hcP2,hcsP2]
   exact ⟨sn2,P2,rfl,hown2.keep (Nat.zero_le _) (by omega) fun j j1 j2=>by simp [show ¬j=2 by omega]⟩
  have hRs:=hR rfl
  simp -dsimp [nes8 n1,k0,k1,k2,f0,f1,f2,z1,z2,z3,nes,g1,y0,y1,y2,yn,Ne.symm y0,Ne.symm y1,Ne.symm y2,him,hc,c1,c2,c3,hp0,htx]
  refine twd (List.range 9) [0,n1] (List.replicate 9 [0,1]) (List.replicate 8 [0,1]++[[0]]) ?_
  simp -dsimp [List.range_succ,nes8 n1,k0,k1,k2,f0,f1,f2,z1,z2,z3,nes,g1,y0,y1,y2,yn,Ne.symm y0,Ne.symm y1,Ne.symm y2,him,hc,c1,c2,c3,hp0,htx]
  refine cl hcn ?_
  have hR2:=hRs [d.now] (by rw [hp0]; rfl)
  simp -dsimp [List.range_succ,nes8 n1,k0,k1,k2,f0,f1,f2,z1,z2,z3,nes,g1,y0,y1,y2,yn,Ne.symm y0,Ne.symm y1,Ne.symm y2,him,hc,c1,c2,c3,hp0,htx]
  refine callL_ (vs:=[(⟨⟨d.now.people,R⟩,[d.now]⟩:Desk).v]) (hR2 _ _) (by simp -dsimp [nes8 n1,k0,k1,k2,f0,f1,f2,z1,z2,z3,nes,g1,y0,y1,y2,yn,Ne.symm y0,Ne.symm y1,Ne.symm y2,him,hc,c1,c2,c3,hp0]) ?_
  rintro t m2 n2 ⟨hn2,hout2,sn2,P2,rfl,hown2⟩
  have q2:=hout2 2 (by omega)
  simp -dsimp [nes8 n1,k0,k1,k2,f0,f1,f2,z1,z2,z3,nes,g1,y0,y1,y2,yn,Ne.symm y0,Ne.symm y1,Ne.symm y2,him] at q2
  have hfc:=hown2.facts
  have hc2:=hfc.1
  have hcs2:=hfc.2.1
  have hcP2:=hfc.2.2.1
  have hcsP2:=hfc.2.2.2
  clear hfc
  simp -dsimp [dT,q2,hc2,hcs2,hcP2,hcsP2,htx,hp0,keep8]
  exact ⟨sn2,P2,rfl,hown2.keep (Nat.zero_le _) (by omega) fun j j1 j2=>by simp [show ¬j=2 by omega]⟩
 ·have g2:=far hr1
  have x0:¬r=0:=by omega
  have x1:¬r=1:=by omega
  have x2:¬r=2:=by omega
  have xi:¬r=id:=fun h=>hne (by rw [h])
  simp -dsimp [nes8 n1,k0,k1,k2,f0,f1,f2,z1,z2,z3,nes,g1,y0,y1,y2,yn,Ne.symm y0,Ne.symm y1,Ne.symm y2,him,g2,x0,x1,x2,xi,Ne.symm x0,Ne.symm x1,Ne.symm x2,Ne.symm xi,hrm,hc,c1,c2,c3]
  refine twd (List.range 13) [1,n1,id] (List.replicate 13 [0,1,2]) (List.replicate 13 [0,1,2]) ?_
  simp -dsimp [List.range_succ,nes8 n1,k0,k1,k2,f0,f1,f2,z1,z2,z3,nes,g1,y0,y1,y2,yn,Ne.symm y0,Ne.symm y1,Ne.symm y2,him,g2,x0,x1,x2,xi,Ne.symm x0,Ne.symm x1,Ne.symm x2,Ne.symm xi,hrm,hc,c1,c2,c3]
  refine twd (List.range 11) [1,n1] (List.replicate 8 [0,1]++[[],[],[]]) (List.replicate 10 [0,1]++[[0]]) ?_
  simp -dsimp [List.range_succ,nes8 n1,k0,k1,k2,f0,f1,f2,z1,z2,z3,nes,g1,y0,y1,y2,yn,Ne.symm y0,Ne.symm y1,Ne.symm y2,him,g2,x0,x1,x2,xi,Ne.symm x0,Ne.symm x1,Ne.symm x2,Ne.symm xi,hrm,hc,c1,c2,c3]
  refine call_ hw (by simp -dsimp [nes8 n1,k0,k1,k2,f0,f1,f2,z1,z2,z3,nes,g1,y0,y1,y2,yn,Ne.symm y0,Ne.symm y1,Ne.symm y2,him,g2,x0,x1,x2,xi,Ne.symm x0,Ne.symm x1,Ne.symm x2,Ne.symm xi,hrm,hc,c1,c2,c3]) ?_
  simp -dsimp [List.range_succ,nes8 n1,k0,k1,k2,f0,f1,f2,z1,z2,z3,nes,g1,y0,y1,y2,yn,Ne.symm y0,Ne.symm y1,Ne.symm y2,him,g2,x0,x1,x2,xi,Ne.symm x0,Ne.symm x1,Ne.symm x2,Ne.symm xi,hrm,hc,c1,c2,c3]
  refine twd [0,1,2,3,4,5,6,7,8,10,11,9,12,13,14] [0,n1] (List.replicate 15 [0,1]) (List.replicate 15 [0,1]) ?_
  simp -dsimp [nes8 n1,k0,k1,k2,f0,f1,f2,z1,z2,z3,nes,g1,y0,y1,y2,yn,Ne.symm y0,Ne.symm y1,Ne.symm y2,him,g2,x0,x1,x2,xi,Ne.symm x0,Ne.symm x1,Ne.symm x2,Ne.symm xi,hrm,hc,c1,c2,c3]
  refine call_ hpo (by simp -dsimp [nes8 n1,k0,k1,k2,f0,f1,f2,z1,z2,z3,nes,g1,y0,y1,y2,yn,Ne.symm y0,Ne.symm y1,Ne.symm y2,him,g2,x0,x1,x2,xi,Ne.symm x0,Ne.symm x1,Ne.symm x2,Ne.symm xi,hrm,hc,c1,c2,c3]) ?_
  rcases hkX with rfl | rfl
  ·simp -dsimp [nes8 n1,k0,k1,k2,f0,f1,f2,z1,z2,z3,nes,g1,y0,y1,y2,yn,Ne.symm y0,Ne.symm y1,Ne.symm y2,him,g2,x0,x1,x2,xi,Ne.symm x0,Ne.symm x1,Ne.symm x2,Ne.symm xi,hrm,hc,c1,c2,c3]
   refine callL_ (vs:=[d.v]) (hcopyK _ _) (by simp -dsimp [hc,c1,c2,c3]) ?_
   rintro t m2 n2 ⟨hn2,hout2,sn2,P2,rfl,hown2⟩
   have q2:=hout2 2 (by omega)
   simp -dsimp [nes8 n1,k0,k1,k2,f0,f1,f2,z1,z2,z3,nes,g1,y0,y1,y2,yn,Ne.symm y0,Ne.symm y1,Ne.symm y2,him,g2,x0,x1,x2,xi,Ne.symm x0,Ne.symm x1,Ne.symm x2,Ne.symm xi,hrm] at q2
   have hfc:=hown2.facts
   have hc2:=hfc.1
   have hcs2:=hfc.2.1
   have hcP2:=hfc.2.2.1
   have hcsP2:=hfc.2.2.2
   clear hfc
   simp -dsimp [dT,q2,hc2,hcs2,hcP2,hcsP2]
   exact ⟨sn2,P2,rfl,hown2.keep (Nat.zero_le _) (by omega) fun j j1 j2=>by simp [show ¬j=2 by omega]⟩
  simp -dsimp [nes8 n1,k0,k1,k2,f0,f1,f2,z1,z2,z3,nes,g1,y0,y1,y2,yn,Ne.symm y0,Ne.symm y1,Ne.symm y2,him,g2,x0,x1,x2,xi,Ne.symm x0,Ne.symm x1,Ne.symm x2,Ne.symm xi,hrm,hc,c1,c2,c3]
  refine call_ hpt (by simp -dsimp [nes8 n1,k0,k1,k2,f0,f1,f2,z1,z2,z3,nes,g1,y0,y1,y2,yn,Ne.symm y0,Ne.symm y1,Ne.symm y2,him,g2,x0,x1,x2,xi,Ne.symm x0,Ne.symm x1,Ne.symm x2,Ne.symm xi,hrm,hc,c1,c2,c3]) ?_
  simp -dsimp [nes8 n1,k0,k1,k2,f0,f1,f2,z1,z2,z3,nes,g1,y0,y1,y2,yn,Ne.symm y0,Ne.symm y1,Ne.symm y2,him,g2,x0,x1,x2,xi,Ne.symm x0,Ne.symm x1,Ne.symm x2,Ne.symm xi,hrm,hc,c1,c2,c3]
  refine cl hpn ?_
  rcases htx with rfl | htx
  ·simp -dsimp [nes8 n1,k0,k1,k2,f0,f1,f2,z1,z2,z3,nes,g1,y0,y1,y2,yn,Ne.symm y0,Ne.symm y1,Ne.symm y2,him,g2,x0,x1,x2,xi,Ne.symm x0,Ne.symm x1,Ne.symm x2,Ne.symm xi,hrm,hc,c1,c2,c3]
   refine callL_ (vs:=[d.v]) (hcopyK _ _) (by simp -dsimp [hc,c1,c2,c3]) ?_
   rintro t m2 n2 ⟨hn2,hout2,sn2,P2,rfl,hown2⟩
   have q2:=hout2 2 (by omega)
   simp -dsimp [nes8 n1,k0,k1,k2,f0,f1,f2,z1,z2,z3,nes,g1,y0,y1,y2,yn,Ne.symm y0,Ne.symm y1,Ne.symm y2,him,g2,x0,x1,x2,xi,Ne.symm x0,Ne.symm x1,Ne.symm x2,Ne.symm xi,hrm] at q2
   have hfc:=hown2.facts
   have hc2:=hfc.1
   have hcs2:=hfc.2.1
   have hcP2:=hfc.2.2.1
   have hcsP2:=hfc.2.2.2
   clear hfc
   simp -dsimp [dT,q2,hc2,hcs2,hcP2,hcsP2]
   exact ⟨sn2,P2,rfl,hown2.keep (Nat.zero_le _) (by omega) fun j j1 j2=>by simp [show ¬j=2 by omega]⟩
  have hRs:=hR rfl
  simp -dsimp [nes8 n1,k0,k1,k2,f0,f1,f2,z1,z2,z3,nes,g1,y0,y1,y2,yn,Ne.symm y0,Ne.symm y1,Ne.symm y2,him,g2,x0,x1,x2,xi,Ne.symm x0,Ne.symm x1,Ne.symm x2,Ne.symm xi,hrm,hc,c1,c2,c3,htx]
  refine twd (List.range 9) [0,n1] (List.replicate 9 [0,1]) (List.replicate 8 [0,1]++[[0]]) ?_
  simp -dsimp [List.range_succ,nes8 n1,k0,k1,k2,f0,f1,f2,z1,z2,z3,nes,g1,y0,y1,y2,yn,Ne.symm y0,Ne.symm y1,Ne.symm y2,him,g2,x0,x1,x2,xi,Ne.symm x0,Ne.symm x1,Ne.symm x2,Ne.symm xi,hrm,hc,c1,c2,c3,htx]
  refine cl hcn ?_
  by_cases h8:d.past.length=8
  ·have e8:(d.past.length:Int)=8:=by omega
   have ek:keep8 (d.past++[d.now])=(d.past++[d.now]).tail:=by unfold keep8; rw [if_pos (by simp [h8])]; simp
   have hR2:=hRs (d.past++[d.now]).tail ek
   have tk:List.take 9 (List.map Place.v d.past++[d.now.v])=List.map Place.v d.past++[d.now.v]:=List.take_of_length_le (by simp [h8])
   have zk:allZ 2 (List.map Place.v d.past++[d.now.v]).tail:=fun x hx=>zplaces x (List.mem_of_mem_tail hx)
   simp only [Place.v,storyV] at tk zk
   simp -dsimp [List.range_succ,nes8 n1,k0,k1,k2,f0,f1,f2,z1,z2,z3,nes,g1,y0,y1,y2,yn,Ne.symm y0,Ne.symm y1,Ne.symm y2,him,g2,x0,x1,x2,xi,Ne.symm x0,Ne.symm x1,Ne.symm x2,Ne.symm xi,hrm,hc,c1,c2,c3,htx,fullb,h8,e8,tk,zk]
   refine callL_ (vs:=[(⟨⟨d.now.people,R⟩,(d.past++[d.now]).tail⟩:Desk).v]) (hR2 _ _) (by simp -dsimp [nes8 n1,k0,k1,k2,f0,f1,f2,z1,z2,z3,nes,g1,y0,y1,y2,yn,Ne.symm y0,Ne.symm y1,Ne.symm y2,him,g2,x0,x1,x2,xi,Ne.symm x0,Ne.symm x1,Ne.symm x2,Ne.symm xi,hrm,hc,c1,c2,c3,List.map_tail,List.map_append]) ?_
   rintro t m2 n2 ⟨hn2,hout2,sn2,P2,rfl,hown2⟩
   have q2:=hout2 2 (by omega)
   simp -dsimp [nes8 n1,k0,k1,k2,f0,f1,f2,z1,z2,z3,nes,g1,y0,y1,y2,yn,Ne.symm y0,Ne.symm y1,Ne.symm y2,him,g2,x0,x1,x2,xi,Ne.symm x0,Ne.symm x1,Ne.symm x2,Ne.symm xi,hrm] at q2
   have hfc:=hown2.facts
   have hc2:=hfc.1
   have hcs2:=hfc.2.1
   have hcP2:=hfc.2.2.1
   have hcsP2:=hfc.2.2.2
   clear hfc
   simp -dsimp [dT,q2,hc2,hcs2,hcP2,hcsP2,htx,ek]
   exact ⟨sn2,P2,rfl,hown2.keep (Nat.zero_le _) (by omega) fun j j1 j2=>by simp [show ¬j=2 by omega]⟩
  ·have e8:d.past.length<8:=by omega
   have e8':¬(8:Int)<(d.past.length:Int)+1:=by omega
   have e8'':¬8<d.past.length+1:=by omega
   have ek:keep8 (d.past++[d.now])=d.past++[d.now]:=by unfold keep8; rw [if_neg (by simp; omega)]
   have hR2:=hRs (d.past++[d.now]) ek
   simp -dsimp [List.range_succ,nes8 n1,k0,k1,k2,f0,f1,f2,z1,z2,z3,nes,g1,y0,y1,y2,yn,Ne.symm y0,Ne.symm y1,Ne.symm y2,him,g2,x0,x1,x2,xi,Ne.symm x0,Ne.symm x1,Ne.symm x2,Ne.symm xi,hrm,hc,c1,c2,c3,htx,fullb,h8,e8,e8',e8'']
   refine callL_ (vs:=[(⟨⟨d.now.people,R⟩,d.past++[d.now]⟩:Desk).v]) (hR2 _ _) (by simp -dsimp [nes8 n1,k0,k1,k2,f0,f1,f2,z1,z2,z3,nes,g1,y0,y1,y2,yn,Ne.symm y0,Ne.symm y1,Ne.symm y2,him,g2,x0,x1,x2,xi,Ne.symm x0,Ne.symm x1,Ne.symm x2,Ne.symm xi,hrm,hc,c1,c2,c3]) ?_
   rintro t m2 n2 ⟨hn2,hout2,sn2,P2,rfl,hown2⟩
   have q2:=hout2 2 (by omega)
   simp -dsimp [nes8 n1,k0,k1,k2,f0,f1,f2,z1,z2,z3,nes,g1,y0,y1,y2,yn,Ne.symm y0,Ne.symm y1,Ne.symm y2,him,g2,x0,x1,x2,xi,Ne.symm x0,Ne.symm x1,Ne.symm x2,Ne.symm xi,hrm] at q2
   have hfc:=hown2.facts
   have hc2:=hfc.1
   have hcs2:=hfc.2.1
   have hcP2:=hfc.2.2.1
   have hcsP2:=hfc.2.2.2
   clear hfc
   simp -dsimp [dT,q2,hc2,hcs2,hcP2,hcsP2,htx,ek]
   exact ⟨sn2,P2,rfl,hown2.keep (Nat.zero_le _) (by omega) fun j j1 j2=>by simp [show ¬j=2 by omega]⟩
end TL
