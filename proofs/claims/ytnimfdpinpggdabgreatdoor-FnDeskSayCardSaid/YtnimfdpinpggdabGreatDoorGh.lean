/- TL: parts FnsI5b, FnsI5, FnsI6, FnsI4, FnsI7, FnsI8, FnsI8b, FnsI9, FnsIA, FnsIB, FnsIC, FnsID, FnsA5, FnsA6. -/
import Derived.Test.YtnimfdpinpggdabGreatDoorGg
import Derived.Lib.ItoaNum
set_option linter.unusedSimpArgs false
set_option linter.unusedVariables false
set_option maxRecDepth 100000
set_option maxHeartbeats 4000000
set_option pp.maxSteps 1500
namespace TL
open Go Go.Proofs
attribute [local simp] marksV storyV codeV Claim.v Place.v numsV
/-- The cells of kinds. -/
def ksT (ks:List Int):List T:=ks.map fun k=>T.v (.int .i64 k)
@[simp] theorem ksT_len (ks:List Int):(ksT ks).length=ks.length:=by simp [ksT]
theorem ksT_set (ks:List Int) (i:Nat) (k:Int):(ksT ks).set i (.v (.int .i64 k))=ksT (ks.set i k):=by simp [ksT,List.map_set]
theorem ksT_bor (m:Mem) (d:Nat) (ks:List Int):mapO (bor true m d) (ksT ks)=some (ks.map (V.int .i64)):=by
 induction ks with
 | nil=>rfl
 | cons k ks ih =>
  show (bor true m d (.v (.int .i64 k))).bind _=_
  rw [show bor true m d (.v (.int .i64 k))=some (.int .i64 k) by cases d <;> rfl]
  show (mapO (bor true m d) (ksT ks)).map _=_
  rw [ih]; rfl
theorem ksV_chunk (ks:List Int):chunk 1 ks.length (ks.map (V.int .i64))=ks.map (V.int .i64):=by
 induction ks with
 | nil=>rfl
 | cons k ks ih=>simp [chunk]; exact ih
theorem ks_bor {m:Mem} {i:Nat} {e:TypeId} {ks:List Int} {p:Nat} (h:m i=some (.box e 1 (ksT ks))) (hp:ks.length=p) (d:Nat):bor true m (d+1) (.sv i 0 p)=some (numsV ks):=by
 subst hp
 show (match m i with | some (.box _ z cs)=>tst (0+ks.length * z≤cs.length) (obind (mapO (TL.bor true m d) ((cs.drop 0).take (ks.length * z))) fun xs=>tst (∀ x ∈ xs,x.cell=true) (some (V.sl (chunk z ks.length xs)))) | _=>none)=_
 rw [h]
 show tst (0+ks.length * 1≤(ksT ks).length) (obind (mapO (TL.bor true m d) (((ksT ks).drop 0).take (ks.length * 1))) fun xs=>tst (∀ x ∈ xs,x.cell=true) (some (V.sl (chunk 1 ks.length xs))))=_
 rw [tst_pos (by simp),List.drop_zero,List.take_of_length_le (by simp),ksT_bor,obind_some,tst_pos (by simp [V.cell]),ksV_chunk]; rfl
def SpyM (m:Mem) (p:Nat) (l:List Claim) (ks:List Int) (many:Nat):Prop :=
 m 0=some (.box 3 1 [.v (.int .i64 p)])∧m 1=some (.box 23 1 [.v (storyV l)])∧m 2=some (.box 3 1 [.v (.int .i64 many)])∧m 4=some (.box 3 1 (ksT ks)) ∧
 m 5=some (.box 90 1 [.sv 4 0 p])∧m 7=some (.box 170 1 [.fn 160 [.ptr 0 0,.ptr 5 0,.ptr 1 0,.ptr 2 0,.ptr 7 0]])
def spyPost (p:Nat) (l:List Claim) (a:Nat) (pre:List Int) (all:Nat) (m:Mem) (n:Nat) (t:T) (m':Mem) (n':Nat):Prop:=n≤n'∧(∀ i,8≤i→i<n→m' i=m i)∧∃ ks',ks'.length=p∧ks'.take a=pre∧SpyM m' p l ks' all
def part3 (ok:List Int→Bool) (r:Nat) (pre:List Int) (left:Int):Nat→Nat
 | 0=>0
 | 1=>cntK ok r (pre++[0]) left
 | 2=>cntK ok r (pre++[0]) left+cntK ok r (pre++[1]) left
 | _=>cntK ok r (pre++[0]) left+cntK ok r (pre++[1]) left+cntK ok r (pre++[2]) (left-1)
def Isr (p:Nat) (l:List Claim) (r a:Nat) (pre:List Int) (many:Nat) (left:Int) (m:Mem) (n:Nat) (e:Nat) (s:S):Prop:=∃ (j:Nat) (ks':List Int) (many':Nat),s.tm 0=.v (.int .i64 a)∧s.tm 1=.v (.int .i64 left)∧s.tm 2=.ptr 0 0∧s.tm 3=.ptr 5 0∧s.tm 4=.ptr 1 0∧s.tm 5=.ptr 2 0∧s.tm 6=.ptr 7 0 ∧
 s.tm 23=.loc n∧s.tm 24=.v (.int .i64 3)∧s.tm 25=.v (.int .i64 j)∧j≤3∧n+1≤s.n∧s.m n=some (.arr 3 [.int .i64 0,.int .i64 1,.int .i64 2])∧SpyM s.m p l ks' many'∧ks'.length=p∧ks'.take a=pre ∧
 many'=many+part3 (spyOk l) r pre left j∧(∀ i,8≤i→i<n→s.m i=m i)∧(e=1→j=3)
theorem take_set_succ {ks:List Int} {a:Nat} (v:Int) (h:a<ks.length):(ks.set a v).take (a+1)=ks.take a++[v]:=by
 rw [List.take_succ_eq_append_getElem (by simpa using h),List.take_set_of_le (Nat.le_refl _)]; simp
theorem spyRows1_s (p:Nat) (l:List Claim) (hp1:1≤p) (hp4:p≤4) (hl:storyOk p l=true):∀ (r a:Nat) (ks:List Int) (many:Nat) (left:Int) (m:Mem) (n:Nat),a+r=p→ks.length=p→kinds3 (ks.take a)→many+3 ^ r≤100 → -4+(r:Int)≤left→left≤4→8≤n→SpyM m p l ks many →
  FnS Tryz.prog 160 m n [.v (.int .i64 a),.v (.int .i64 left),.ptr 0 0,.ptr 5 0,.ptr 1 0,.ptr 2 0,.ptr 7 0] (spyPost p l a (ks.take a) (many+cntK (spyOk l) r (ks.take a) left) m n)
 | 0,a,ks,many,left,m,n,ha,hks,hk,hm81,hl0,hl4,hn,hM=>by
  have hap:a=p:=by omega
  subst hap
  have etk:ks.take a=ks:=List.take_of_length_le (by omega)
  rw [etk] at hk ⊢
  have m0:=hM.1
  have m1:=hM.2.1
  have m2:=hM.2.2.1
  have m3:=hM.2.2.2.1
  have m4:=hM.2.2.2.2.1
  have m5:=hM.2.2.2.2.2
  have hss:=spyStory_fn ks l hk (by rw [hks]; exact hl)
  have hbr:=ks_bor m3 hks
  have hmany:IntKind.wrap .i64 ((many:Int)+1)=((many+1:Nat):Int):=by rw [w64 (by omega) (by omega)]; omega
  by_cases hleft:left=0
  ·subst hleft
   have hb:=ft (spyOk l ks)
   rcases hb with hb | hb
   ·have ec:cntK (spyOk l) 0 ks 0=0:=by unfold cntK; rw [if_neg (by simp [hb])]
    rw [ec]
    rw [hb] at hss
    refine FS (rs:=[]) false Tryz.func160 ?_
    simp -dsimp [m0,m1,m2,m3,m4,m5]
    refine callM_ hss (by simp -dsimp [hbr]) rfl ?_
    simp -dsimp
    exact ⟨by omega,fun i _ _=>rfl,ks,hks,etk,m0,m1,m2,m3,m4,m5⟩
   ·have ec:cntK (spyOk l) 0 ks 0=1:=by unfold cntK; rw [if_pos ⟨rfl,hb⟩]
    rw [ec]
    rw [hb] at hss
    refine FS (rs:=[]) false Tryz.func160 ?_
    simp -dsimp [m0,m1,m2,m3,m4,m5]
    refine callM_ hss (by simp -dsimp [hbr]) rfl ?_
    simp -dsimp [m2,hmany]
    exact ⟨by omega,fun i h6 _=>by simp [show ¬i=2 by omega],ks,hks,etk,by simp [m0],by simp [m1],by simp,by simp [m3],by simp [m4],by simp [m5]⟩
  ·have ec:cntK (spyOk l) 0 ks left=0:=by unfold cntK; rw [if_neg (by simp [hleft])]
   rw [ec]
   refine FS (rs:=[]) false Tryz.func160 ?_
   simp -dsimp [m0,m1,m2,m3,m4,m5,hleft]
   exact ⟨by omega,fun i _ _=>rfl,ks,hks,etk,m0,m1,m2,m3,m4,m5⟩
 | r+1,a,ks,many,left,m,n,ha,hks,hk,hm81,hl0,hl4,hn,hM=>by
  have m0:=hM.1
  have m1:=hM.2.1
  have m2:=hM.2.2.1
  have m3:=hM.2.2.2.1
  have m4:=hM.2.2.2.2.1
  have m5:=hM.2.2.2.2.2
  have hap:¬(a:Int)=p:=by omega
  have hap':¬a=p:=by omega
  have hap3:a<p:=by omega
  have hap4:a+1≤p:=by omega
  have ih:=spyRows1_s p l hp1 hp4 hl r (a+1)
  have ec:cntK (spyOk l) (r+1) (ks.take a) left=part3 (spyOk l) r (ks.take a) left 3:=rfl
  rw [ec]
  obtain ⟨pre,hpre⟩:∃ pre,ks.take a=pre:=⟨_,rfl⟩
  have c0:=cntK_le (spyOk l) r (pre++[0]) left
  have c1:=cntK_le (spyOk l) r (pre++[1]) left
  rw [Nat.pow_succ] at hm81
  have wa:IntKind.wrap .i64 ((a:Int)+1)=((a+1:Nat):Int):=by rw [w64 (by omega) (by omega)]; omega
  have wl:IntKind.wrap .i64 (left-1)=left-1:=w64 (by omega) (by omega)
  have hkpre:∀ v:Int,v=0∨v=1∨v=2→kinds3 (pre++[v]):=fun v hv k hk'=>by
   rcases List.mem_append.1 hk' with h | h
   ·exact hk k (by rw [hpre]; exact h)
   ·rw [List.mem_singleton.1 h]; exact hv
  rw [hpre]
  refine FS (rs:=[]) false Tryz.func160 ?_
  simp -dsimp [m0,m1,m2,m3,m4,m5,hap,hap']
  refine twp_loopB (Isr p l r a pre many left m n 0) (fun s=>3-natOf (s.tm 25)) (Isr p l r a pre many left m n 1) ?_ ?_ ?_
  ·exact ⟨0,ks,many,by simp -dsimp,by simp -dsimp,by simp -dsimp,by simp -dsimp,by simp -dsimp,by simp -dsimp,by simp -dsimp,by simp -dsimp,by simp -dsimp,by simp -dsimp,by omega,by simp -dsimp,by simp -dsimp,
    ⟨by simp [m0,show ¬0=n by omega],by simp [m1,show ¬1=n by omega],by simp [m2,show ¬2=n by omega],by simp [m3,show ¬4=n by omega],by simp [m4,show ¬5=n by omega],by simp [m5,show ¬7=n by omega]⟩,hks,hpre,by simp [part3],fun i h6 hi=>by simp [show ¬i=n by omega],by simp⟩
  ·rintro s ⟨j,ks',many',t0,t1,t2,t3,t4,t5,t6,t23,t24,t25,hj,hsn,hrow,hM',hks',hpre',hmany',hout,hend⟩
   have n0:=hM'.1
   have n1:=hM'.2.1
   have n2:=hM'.2.2.1
   have n3:=hM'.2.2.2.1
   have n4:=hM'.2.2.2.2.1
   have n5:=hM'.2.2.2.2.2
   have hal:a<ks'.length:=by omega
   have hst:=fun v=>ksT_set ks' a v
   have upd:∀ (v:Int),SpyM (updM s.m 4 (some (.box 3 1 (ksT (ks'.set a v))))) p l (ks'.set a v) many':=fun v=>⟨by simp [n0],by simp [n1],by simp [n2],by simp,by simp [n4],by simp [n5]⟩
   have htk:∀ v:Int,(ks'.set a v).take (a+1)=pre++[v]:=fun v=>by rw [take_set_succ v hal,hpre']
   have hcall:∀ (v left':Int),(v=0∨v=1∨v=2)→many'+3 ^ r≤100 → -4+(r:Int)≤left'→left'≤4→FnS Tryz.prog 160 (updM s.m 4 (some (.box 3 1 (ksT (ks'.set a v))))) (s.n+1) [.v (.int .i64 ((a:Int)+1)),.v (.int .i64 left'),.ptr 0 0,.ptr 5 0,.ptr 1 0,.ptr 2 0,.ptr 7 0]
     (spyPost p l (a+1) (pre++[v]) (many'+cntK (spyOk l) r (pre++[v]) left') (updM s.m 4 (some (.box 3 1 (ksT (ks'.set a v))))) (s.n+1)):=fun v left' hv h81 hl1 hl2=>by
    have:=ih (ks'.set a v) many' left' (updM s.m 4 (some (.box 3 1 (ksT (ks'.set a v))))) (s.n+1) (by omega) (by simpa using hks') (by rw [htk]; exact hkpre v hv) h81 hl1 hl2 (by omega) (upd v)
    rw [htk,show ((a+1:Nat):Int)=(a:Int)+1 by omega] at this
    exact this
   have fin:∀ (v left':Int) (t:T) (m3:Mem) (n3:Nat),spyPost p l (a+1) (pre++[v]) (many'+cntK (spyOk l) r (pre++[v]) left') (updM s.m 4 (some (.box 3 1 (ksT (ks'.set a v))))) (s.n+1) t m3 n3 →
     n+1≤n3∧m3 n=some (.arr 3 [.int .i64 0,.int .i64 1,.int .i64 2])∧(∀ i,8≤i→i<n→m3 i=m i)∧∃ ks3,ks3.length=p∧ks3.take a=pre∧SpyM m3 p l ks3 (many'+cntK (spyOk l) r (pre++[v]) left'):=fun v left' t m3 n3 hq=>by
    have q1:=hq.1
    have q2:=hq.2.1
    obtain ⟨ks3,q3,q4,q5⟩:=hq.2.2
    refine ⟨by omega,by rw [q2 n (by omega) (by omega)]; simp [show ¬n=4 by omega,hrow],fun i h6 hi=>by rw [q2 i h6 (by omega)]; simp [show ¬i=4 by omega,hout i h6 hi],ks3,q3, ?_,q5⟩
    have e1:ks3.take a=(ks3.take (a+1)).take a:=by rw [List.take_take,Nat.min_eq_left (by omega)]
    rw [e1,q4]
    have hpl:pre.length=a:=by rw [← hpre]; simp; omega
    rw [List.take_append_of_le_length (by omega),List.take_of_length_le (by omega)]
   have hj':j=0∨j=1∨j=2∨j=3:=by omega
   rcases hj' with rfl | rfl | rfl | rfl
   ·have e0:many'=many:=by rw [hmany']; rfl
    subst e0
    have hc:=hcall 0 left (.inl rfl) (by omega) (by omega) (by omega)
    simp -dsimp [t0,t1,t2,t3,t4,t5,t6,t23,t24,t25,hrow,n3,n4,hal,hap3,hap4,hks',hst,n5,wa]
    refine callS_ hc ?_
    intro t m3 n3 hq
    have hq':=fin 0 left t m3 n3 hq
    have q1:=hq'.1
    have q2:=hq'.2.1
    have q3:=hq'.2.2.1
    obtain ⟨ks3,q4,q5,q6⟩:=hq'.2.2.2
    simp -dsimp [t25,show IntKind.wrap .i64 1=1 from rfl,show IntKind.wrap .i64 2=2 from rfl,show IntKind.wrap .i64 3=3 from rfl]
    exact ⟨1,ks3,many'+cntK (spyOk l) r (pre++[0]) left,by simp -dsimp [t0],by simp -dsimp [t1],by simp -dsimp [t2],by simp -dsimp [t3],by simp -dsimp [t4],by simp -dsimp [t5],by simp -dsimp [t6],by simp -dsimp [t23],by simp -dsimp [t24],by simp -dsimp,by omega,by simp -dsimp; omega,by simp -dsimp [q2],q6,q4,q5,rfl,fun i h6 hi=>by simp -dsimp [q3 i h6 hi],by simp⟩
   ·have e0:many'=many+cntK (spyOk l) r (pre++[0]) left:=by rw [hmany']; rfl
    have hc:=hcall 1 left (.inr (.inl rfl)) (by omega) (by omega) (by omega)
    simp -dsimp [t0,t1,t2,t3,t4,t5,t6,t23,t24,t25,hrow,n3,n4,hal,hap3,hap4,hks',hst,n5,wa]
    refine callS_ hc ?_
    intro t m3 n3 hq
    have hq':=fin 1 left t m3 n3 hq
    have q1:=hq'.1
    have q2:=hq'.2.1
    have q3:=hq'.2.2.1
    obtain ⟨ks3,q4,q5,q6⟩:=hq'.2.2.2
    simp -dsimp [t25,show IntKind.wrap .i64 1=1 from rfl,show IntKind.wrap .i64 2=2 from rfl,show IntKind.wrap .i64 3=3 from rfl]
    exact ⟨2,ks3,_,by simp -dsimp [t0],by simp -dsimp [t1],by simp -dsimp [t2],by simp -dsimp [t3],by simp -dsimp [t4],by simp -dsimp [t5],by simp -dsimp [t6],by simp -dsimp [t23],by simp -dsimp [t24],by simp -dsimp,by omega,by simp -dsimp; omega,by simp -dsimp [q2],by simpa -dsimp using q6,q4,q5,by rw [e0,Nat.add_assoc]; rfl,fun i h6 hi=>by simp -dsimp [q3 i h6 hi],by simp⟩
   ·have e0:many'=many+(cntK (spyOk l) r (pre++[0]) left+cntK (spyOk l) r (pre++[1]) left):=by rw [hmany']; rfl
    have hc:=hcall 2 (left-1) (.inr (.inr rfl)) (by omega) (by omega) (by omega)
    simp -dsimp [t0,t1,t2,t3,t4,t5,t6,t23,t24,t25,hrow,n3,n4,hal,hap3,hap4,hks',hst,n5,wa,wl]
    refine callS_ hc ?_
    intro t m3 n3 hq
    have hq':=fin 2 (left-1) t m3 n3 hq
    have q1:=hq'.1
    have q2:=hq'.2.1
    have q3:=hq'.2.2.1
    obtain ⟨ks3,q4,q5,q6⟩:=hq'.2.2.2
    simp -dsimp [t25,show IntKind.wrap .i64 1=1 from rfl,show IntKind.wrap .i64 2=2 from rfl,show IntKind.wrap .i64 3=3 from rfl]
    exact ⟨3,ks3,_,by simp -dsimp [t0],by simp -dsimp [t1],by simp -dsimp [t2],by simp -dsimp [t3],by simp -dsimp [t4],by simp -dsimp [t5],by simp -dsimp [t6],by simp -dsimp [t23],by simp -dsimp [t24],by simp -dsimp,by omega,by simp -dsimp; omega,by simp -dsimp [q2],by simpa -dsimp using q6,q4,q5,by rw [e0,Nat.add_assoc]; rfl,fun i h6 hi=>by simp -dsimp [q3 i h6 hi],by simp⟩
   ·simp -dsimp [t24,t25]
    exact ⟨3,ks',many',by simp -dsimp [t0],by simp -dsimp [t1],by simp -dsimp [t2],by simp -dsimp [t3],by simp -dsimp [t4],by simp -dsimp [t5],by simp -dsimp [t6],by simp -dsimp [t23],by simp -dsimp [t24],by simp -dsimp [t25],by omega,by simp -dsimp; omega,by simp -dsimp [hrow],by simpa -dsimp using hM',hks',hpre',hmany',fun i h6 hi=>by simp -dsimp [hout i h6 hi],fun _=>rfl⟩
  ·rintro s ⟨j,ks',many',t0,t1,t2,t3,t4,t5,t6,t23,t24,t25,hj,hsn,hrow,hM',hks',hpre',hmany',hout,hend⟩
   have:=hend rfl
   subst this
   subst hmany'
   simp -dsimp
   exact ⟨by omega,hout,ks',hks',hpre',hM'⟩
end TL

namespace TL
open Go Go.Proofs
attribute [local simp] marksV storyV codeV Claim.v Place.v numsV
theorem spyRows_fn (p:Nat) (l:List Claim) (h:storyOk p l=true) (s:Nat) (hs:s≤p):FnZ Tryz.prog 109 [.int .i64 p,storyV l,.int .i64 s] (.int .i64 (cntK (spyOk l) p [] (s:Nat))):=by
 obtain ⟨h1,h4,hc,h6⟩:=allOk_of h
 have e0:List.flatten (List.replicate p [T.v (.int .i64 0)])=ksT (List.replicate p 0):=by
  rw [List.flatten_replicate_singleton]; simp [ksT]
 have h3:3 ^ p≤3 ^ 4:=Nat.pow_le_pow_right (by omega) (by omega)
 have hz:((0:Nat):Int)=0:=rfl
 have hcl:=fun m n=>spyRows1_s p l (by omega) (by omega) h p 0 (List.replicate p 0) 0 (s:Nat) m n (by omega) (by simp) (fun k hk=>by cases hk) (by omega) (by omega) (by omega)
 simp only [List.take_zero,Nat.zero_add,Int.natCast_zero] at hcl
 have b1:(8:Int) * p≤281474976710656:=by omega
 have b2:(p:Int)≤9223372036854775807:=by omega
 refine FZ (rs:=[.tmp 6]) false Tryz.func109 ?_
 simp -dsimp [b1,b2,e0]
 refine callS_ (hcl _ _ ?_ ?_) ?_
 ·simp
 ·exact ⟨by simp,by simp,by simp,by simp,by simp,by simp⟩
 intro t m3 n3 hq
 obtain ⟨ks3,q3,q4,q5⟩:=hq.2.2
 have q2:=q5.2.2.1
 simp -dsimp [q2]
def Ifs (p:Nat) (l:List Claim) (e:Nat) (s:S):Prop:=∃ i:Nat,s.tm 0=.v (.int .i64 p)∧s.tm 1=.v (storyV l)∧s.tm 5=.v (.int .i64 i)∧i≤fewest (spyOk l) p
theorem fewestSpies_fn (p:Nat) (l:List Claim) (h:storyOk p l=true):FnZ Tryz.prog 59 [.int .i64 p,storyV l] (.int .i64 (fewest (spyOk l) p)):=by
 obtain ⟨h1,h4,hc,h6⟩:=allOk_of h
 have hok:=storyOk_fn p l (by omega)
 rw [h] at hok
 have hall:=spyOk_all (p:=p) hc
 obtain ⟨f1,f2,f3⟩:=fewest_spec hall
 refine FZ (rs:=[.tmp 4]) false Tryz.func59 ?_
 simp -dsimp
 refine cl hok ?_
 simp -dsimp
 refine twp_loopB (Ifs p l 0) (fun s=>p+1-natOf (s.tm 5)) (fun _=>False) ?_ ?_ ?_
 ·exact ⟨0,by simp -dsimp,by simp -dsimp,by simp -dsimp,by omega⟩
 ·rintro s ⟨i,t0,t1,t5,hi⟩
  have hsr:=spyRows_fn p l h i (by omega)
  have wi:IntKind.wrap .i64 ((i:Int)+1)=((i+1:Nat):Int):=by rw [w64 (by omega) (by omega)]; omega
  have hmu1:(p-i).succ≤p+1-i:=by omega
  have hmu2:p-i<p+1-i:=by omega
  by_cases hlt:i<fewest (spyOk l) p
  ·have h0:=f3 i hlt
   rw [h0] at hsr
   simp -dsimp [t0,t1,t5]
   refine cl hsr ?_
   simp -dsimp [t5,wi,hmu1,hmu2]
   exact ⟨i+1,by simp -dsimp [t0],by simp -dsimp [t1],by simp -dsimp,by omega⟩
  ·have e:i=fewest (spyOk l) p:=by omega
   rw [← e] at f2 ⊢
   have hpos:(0:Int)<(cntK (spyOk l) p [] (i:Nat):Nat):=by omega
   generalize cntK (spyOk l) p [] (i:Nat)=C at *
   simp -dsimp [t0,t1,t5]
   refine cl hsr ?_
   simp -dsimp [t5,hpos,f2]
 ·intro s hs; exact hs.elim
end TL

namespace TL
open Go Go.Proofs
attribute [local simp] marksV storyV codeV Claim.v Place.v numsV
def bitI (w i:Nat):Int:=if w.testBit i then 1 else 0
def knownOf (ws:List Nat) (i:Nat):Int:=match ws with
 | [] => -1
 | w :: _=>if ws.all (fun v=>v.testBit i == w.testBit i)=true then bitI w i else -1
def knownL (p:Nat) (l:List Claim):List Int:=if sw p l=[] then [] else (List.range p).map (knownOf (sw p l))
theorem knownOf_le (ws:List Nat) (i:Nat):knownOf ws i≤1:=by
 unfold knownOf
 split
 ·omega
 ·split
  ·unfold bitI; split <;> omega
  ·omega
def Ikp1 (p:Nat) (W:List Nat) (e:Nat) (s:S):Prop:=∃ i id:Nat,s.tm 0=.v (.int .i64 p)∧s.tm 5=.v (natsV W)∧s.tm 6=.loc id∧id<s.n∧s.mu=false∧s.m id=some (.arr 3 (((List.range i).map (knownOf W)).map (V.int .i64))) ∧
 s.tm 20=.v (.int .i64 p)∧s.tm 21=.v (.int .i64 i)∧i≤p∧(e=1→i=p)
def Ikp2 (p:Nat) (W:List Nat) (i id:Nat) (e:Nat) (s:S):Prop:=∃ j:Nat,s.tm 0=.v (.int .i64 p)∧s.tm 5=.v (natsV W)∧s.tm 6=.loc id∧id<s.n∧s.mu=false∧s.m id=some (.arr 3 (((List.range i).map (knownOf W)).map (V.int .i64))) ∧
 s.tm 20=.v (.int .i64 p)∧s.tm 21=.v (.int .i64 i)∧s.tm 7=.v (.int .i64 i)∧s.tm 30=.v (natsV W)∧s.tm 31=.v (.int .i64 W.length)∧s.tm 32=.v (.int .i64 j)∧j≤W.length ∧
 (e=0→s.tm 8=.v (.int .i64 (bitI (W.headD 0) i))∧(W.take j).all (fun v=>v.testBit i == (W.headD 0).testBit i)=true)∧(e=1→s.tm 8=.v (.int .i64 (knownOf W i)))
theorem knownPeople_fn (p:Nat) (l:List Claim) (h:storyOk p l=true):FnZ Tryz.prog 57 [.int .i64 p,storyV l] (numsV (knownL p l)):=by
 obtain ⟨h1,h4,hc,h6⟩:=allOk_of h
 have hst:=storyTable_v p l (by omega)
 rw [storyTableV_ok h] at hst
 have hwi:=worldsIn_fn p (storyTab p l) (storyTab_ok (by omega) (by omega) l) (by omega) (by omega)
 have hsl:=sw_len (p:=p) (by omega) l
 have hwl:∀ w ∈ sw p l,w<16:=fun w hw=>sw_lt (by omega) hw
 have e0:worldsOf p (storyTab p l)=sw p l:=rfl
 rw [e0] at hwi
 unfold knownL
 generalize sw p l=W at *
 have hpp:1≤p∧p≤4:=by omega
 clear e0
 match W,hsl,hwl,hwi with
 | [],_,_,hwi =>
  refine FZ (rs:=[.tmp 4]) false Tryz.func57 ?_
  simp -dsimp
  refine cl hst ?_
  simp -dsimp
  refine cl hwi ?_
  simp -dsimp
 | w0 :: W',hsl,hwl,hwi =>
  obtain ⟨W,hW⟩:∃ W,w0 :: W'=W:=⟨_,rfl⟩
  have hh:W.headD 0=w0:=by rw [← hW]; rfl
  have h0:0<W.length:=by rw [← hW]; simp
  have hg0:W[0]=w0:=by subst hW; rfl
  have hw0:=hwl w0 (List.mem_cons_self ..)
  rw [hW] at hsl hwl hwi ⊢
  rw [if_neg (by rw [← hW]; simp)]
  have hkn:∀ i,knownOf W i=if W.all (fun v=>v.testBit i == w0.testBit i)=true then bitI w0 i else -1:=fun i=>by rw [← hW]; rfl
  have hne:¬W=[]:=by rw [← hW]; simp
  clear hW
  have hl0:¬(W.length:Int)=0:=by omega
  refine FZ (rs:=[.tmp 4]) false Tryz.func57 ?_
  simp -dsimp
  refine cl hst ?_
  simp -dsimp
  refine cl hwi ?_
  simp -dsimp [hne,hl0]
  refine twp_loopC (Ikp1 p W 0) (fun s=>p-natOf (s.tm 21)) (Ikp1 p W 1) ?_ ?_ ?_
  ·exact ⟨0,0,by simp -dsimp,by simp -dsimp [natsV],by simp -dsimp,by simp -dsimp,by simp -dsimp,by simp -dsimp,by simp -dsimp,by simp -dsimp,by omega,by simp⟩
  ·rintro s ⟨i,id,t0,t5,t6,hid,hmu,hm,t20,t21,hi,hend⟩
   by_cases hlt:i<p
   case neg =>
    simp -dsimp [t20,t21,hlt]
    exact ⟨i,id,by simp -dsimp [t0],by simp -dsimp [t5],by simp -dsimp [t6],by simp -dsimp; omega,by simp -dsimp [hmu],by simp -dsimp [hm],by simp -dsimp [t20],by simp -dsimp [t21],hi,fun _=>by omega⟩
   have wi:IntKind.wrap .i64 ((i:Int)+1)=((i+1:Nat):Int):=by rw [w64 (by omega) (by omega)]; omega
   have hmu1:p-(i+1)<p-i:=by omega
   have z1:¬(i:Int)<0:=by omega
   have b0:=bit1 w0 i (by omega) (by omega)
   have eb0:(if w0.testBit i then (1:Int) else 0)=bitI w0 i:=rfl
   simp -dsimp [t0,t5,t6,t20,t21,hlt,natsV,h0,hg0,z1,b0]
   refine twp_loopC (Ikp2 p W i id 0) (fun s=>W.length-natOf (s.tm 32)) (Ikp2 p W i id 1) ?_ ?_ ?_
   ·exact ⟨0,by simp -dsimp [t0],by simp -dsimp [t5,natsV],by simp -dsimp [t6],by simp -dsimp; omega,by simp -dsimp [hmu],by simp -dsimp [hm],by simp -dsimp [t20],by simp -dsimp [t21],by simp -dsimp,by simp -dsimp [natsV],by simp -dsimp,by simp -dsimp,by omega,fun _=>⟨by rw [hh]; simp -dsimp [bitI],by simp⟩,by simp⟩
   ·rintro s2 ⟨j,u0,u5,u6,uid,umu,um,u20,u21,u7,u30,u31,u32,hj,h8,hend2⟩
    have u8:=(h8 rfl).1
    have uall:=(h8 rfl).2
    rw [hh] at u8 uall
    by_cases hlt2:j<W.length
    case neg =>
     have hjl:j=W.length:=by omega
     rw [hjl,List.take_length] at uall
     have ek:knownOf W i=bitI w0 i:=by rw [hkn,if_pos uall]
     simp -dsimp [u31,u32,hlt2]
     exact ⟨j,by simp -dsimp [u0],by simp -dsimp [u5],by simp -dsimp [u6],by simp -dsimp; omega,by simp -dsimp [umu],by simp -dsimp [um],by simp -dsimp [u20],by simp -dsimp [u21],by simp -dsimp [u7],by simp -dsimp [u30],by simp -dsimp [u31],by simp -dsimp [u32],hj,by simp,fun _=>by simp -dsimp [u8,ek]⟩
    have wj:IntKind.wrap .i64 ((j:Int)+1)=((j+1:Nat):Int):=by rw [w64 (by omega) (by omega)]; omega
    have hmu2:W.length-(j+1)<W.length-j:=by omega
    obtain ⟨v,hv⟩:∃ v,W[j]=v:=⟨_,rfl⟩
    have hvl:v<16:=by rw [← hv]; exact hwl _ (List.getElem_mem hlt2)
    have b1:=bit1 v i (by omega) (by omega)
    have hnx:(W.take (j+1)).all (fun v=>v.testBit i == w0.testBit i)=((W.take j).all (fun v=>v.testBit i == w0.testBit i) && (v.testBit i == w0.testBit i)):=by
     rw [List.take_succ_eq_append_getElem hlt2,List.all_append,hv]; simp
    have hwhole:(v.testBit i == w0.testBit i)=false→knownOf W i = -1:=fun hf=>by
     rw [hkn,if_neg]
     intro hq
     have:=List.all_eq_true.1 hq W[j] (List.getElem_mem hlt2)
     rw [hv,hf] at this; cases this
    have hb:=ft (v.testBit i)
    have hb0:=ft (w0.testBit i)
    rcases hb with hb | hb <;> rcases hb0 with hb0 | hb0 <;> rw [hb] at b1 hnx hwhole <;> rw [hb0] at hnx hwhole
    ·rw [show bitI w0 i=0 by simp [bitI,hb0]] at u8
     simp -dsimp [u0,u5,u7,u8,u30,u31,u32,hlt2,hv,natsV,z1,b1,wj,hmu2]
     exact ⟨j+1,by simp -dsimp [u0],by simp -dsimp [u5,natsV],by simp -dsimp [u6],by simp -dsimp; omega,by simp -dsimp [umu],by simp -dsimp [um],by simp -dsimp [u20],by simp -dsimp [u21],by simp -dsimp [u7],by simp -dsimp [u30,natsV],by simp -dsimp [u31],by simp -dsimp,by omega,fun _=>⟨by rw [hh]; simp -dsimp [u8,bitI,hb0],by rw [hh,hb0,hnx]; simp at uall ⊢; first | exact uall | (simp only [hb0] at uall; exact uall)⟩,by simp⟩
    ·have ek:=hwhole rfl
     rw [show bitI w0 i=1 by simp [bitI,hb0]] at u8
     simp -dsimp [u0,u5,u7,u8,u30,u31,u32,hlt2,hv,natsV,z1,b1,wj,hmu2]
     exact ⟨j,by simp -dsimp [u0],by simp -dsimp [u5,natsV],by simp -dsimp [u6],by simp -dsimp; omega,by simp -dsimp [umu],by simp -dsimp [um],by simp -dsimp [u20],by simp -dsimp [u21],by simp -dsimp [u7],by simp -dsimp [u30,natsV],by simp -dsimp [u31],by simp -dsimp [u32],by omega,by simp,fun _=>by simp -dsimp [ek]⟩
    ·have ek:=hwhole rfl
     rw [show bitI w0 i=0 by simp [bitI,hb0]] at u8
     simp -dsimp [u0,u5,u7,u8,u30,u31,u32,hlt2,hv,natsV,z1,b1,wj,hmu2]
     exact ⟨j,by simp -dsimp [u0],by simp -dsimp [u5,natsV],by simp -dsimp [u6],by simp -dsimp; omega,by simp -dsimp [umu],by simp -dsimp [um],by simp -dsimp [u20],by simp -dsimp [u21],by simp -dsimp [u7],by simp -dsimp [u30,natsV],by simp -dsimp [u31],by simp -dsimp [u32],by omega,by simp,fun _=>by simp -dsimp [ek]⟩
    ·rw [show bitI w0 i=1 by simp [bitI,hb0]] at u8
     simp -dsimp [u0,u5,u7,u8,u30,u31,u32,hlt2,hv,natsV,z1,b1,wj,hmu2]
     exact ⟨j+1,by simp -dsimp [u0],by simp -dsimp [u5,natsV],by simp -dsimp [u6],by simp -dsimp; omega,by simp -dsimp [umu],by simp -dsimp [um],by simp -dsimp [u20],by simp -dsimp [u21],by simp -dsimp [u7],by simp -dsimp [u30,natsV],by simp -dsimp [u31],by simp -dsimp,by omega,fun _=>⟨by rw [hh]; simp -dsimp [u8,bitI,hb0],by rw [hh,hb0,hnx]; simp at uall ⊢; first | exact uall | (simp only [hb0] at uall; exact uall)⟩,by simp⟩
   ·rintro s2 ⟨j,u0,u5,u6,uid,umu,um,u20,u21,u7,u30,u31,u32,hj,h8,hend2⟩
    have u8:=hend2 rfl
    have f1:=far uid
    have hnx:((List.range (i+1)).map (knownOf W)).map (V.int .i64)=((List.range i).map (knownOf W)).map (V.int .i64)++[.int .i64 (knownOf W i)]:=by
     rw [List.range_succ,List.map_append,List.map_append]; rfl
    have b1:(i+1) * 8≤140737488355328:=by omega
    simp -dsimp [u0,u5,u6,u7,u8,u20,u21,umu,um,f1,b1,wi,hmu1,t21,nes]
    refine st_out fun s' ht hm' hn' hu' => ?_
    have a0:=ht 0
    have a5:=ht 5
    have a6:=ht 6
    have a20:=ht 20
    have a21:=ht 21
    simp -dsimp [u0,u5,u20] at a0 a5 a6 a20 a21 hm' hn' hu'
    clear ht
    refine ⟨i+1,_,a0,by rw [a5],a6,by omega,by rw [hu',umu], ?_,a20,a21,by omega,by simp⟩
    rw [hnx]; simp [hm',nes]
  ·rintro s ⟨i,id,t0,t5,t6,hid,hmu,hm,t20,t21,hi,hend⟩
   have:=hend rfl
   subst this
   simp -dsimp [t6,hm]
/-- What is left of one table without another. -/
def andN (a b:Nat):Nat:=a % 2 ^ IntKind.i64.bits &&& 2 ^ IntKind.i64.bits-1-b % 2 ^ IntKind.i64.bits
theorem andN_w {a b:Nat} (ha:a<65536):IntKind.wrap .i64 ((a % 2 ^ IntKind.i64.bits &&& 2 ^ IntKind.i64.bits-1-b % 2 ^ IntKind.i64.bits:Nat):Int)=((andN a b:Nat):Int):=by
 have l1:andN a b≤a % 2 ^ IntKind.i64.bits:=Nat.and_le_left
 have l2:a % 2 ^ IntKind.i64.bits≤a:=Nat.mod_le _ _
 exact w64 (by unfold andN at l1; omega) (by unfold andN at l1; omega)
def followsB (p:Nat) (l:List Claim) (t:List Mark):Bool:=decide (andN (storyTab p l) (termTab p t)=0)
theorem followsFrom_fn (p:Nat) (l:List Claim) (t:List Mark) (h:storyOk p l=true) (ht:termOk p t=true):FnZ Tryz.prog 62 [.int .i64 p,storyV l,marksV t] (.bool (followsB p l t)):=by
 obtain ⟨h1,h4,hc,h6⟩:=allOk_of h
 have hok:=storyOk_fn p l (by omega)
 rw [h] at hok
 have hto:=termOk_fn p t
 rw [ht] at hto
 have hst:=storyTable_fn p l (by omega) (by omega) (by omega) hc
 have htt:=tableOf_fn p t ht
 have hs:=storyTab_small (p:=p) (by omega) l
 unfold followsB
 obtain ⟨A,hA⟩:∃ A,storyTab p l=A:=⟨_,rfl⟩
 obtain ⟨B,hB⟩:∃ B,termTab p t=B:=⟨_,rfl⟩
 rw [hA] at hst hs ⊢
 rw [hB] at htt ⊢
 have hw:=andN_w (b:=B) hs
 obtain ⟨C,hC⟩:∃ C,andN A B=C:=⟨_,rfl⟩
 rw [hC] at hw ⊢
 refine FZ (rs:=[.tmp 6]) false Tryz.func62 ?_
 simp -dsimp
 refine cl hok ?_
 simp -dsimp
 refine cl hto ?_
 simp -dsimp
 refine cl hst ?_
 simp -dsimp
 refine cl htt ?_
 simp -dsimp [hw]
end TL

namespace TL
open Go Go.Proofs
/-- A split: who, where the case goes on to if the person lies, and else. -/
structure Sp where
 who:Int
 no:Int
 yes:Int
def Sp.v (s:Sp):V:=.agg [.int .i64 s.who,.int .i64 s.no,.int .i64 s.yes]
inductive PT where
 | goal
 | claim (i:Nat)
 | split (who:Nat) (no yes:PT)
/-- How many splits. -/
def PT.size:PT→Nat
 | .goal | .claim _=>0
 | .split _ a b=>1+a.size+b.size
/-- Where a tree is gone on to whose splits lie from a place on. -/
def PT.to (at_:Nat):PT→Int
 | .goal => -1
 | .claim i => -2-(i:Int)
 | .split _ _ _=>at_
/-- Its splits, from a place on. -/
def PT.row:PT→Nat→List Sp
 | .goal,_ | .claim _,_=>[]
 | .split who a b,n=>⟨who,a.to (n+1),b.to (n+1+a.size)⟩ :: (a.row (n+1)++b.row (n+1+a.size))
theorem PT.row_len:∀ (t:PT) (n:Nat),(t.row n).length=t.size
 | .goal,n=>rfl
 | .claim i,n=>rfl
 | .split who a b,n=>by simp [PT.row,PT.size,PT.row_len a,PT.row_len b]; omega
/-- A tree's text. -/
def PT.tx:PT→List UInt8
 | .goal=>[42]
 | .claim i=>dec i
 | .split who a b=>UInt8.ofNat (97+who) :: 40 :: (a.tx++44 :: (b.tx++[41]))
theorem dec_ne (i:Nat):dec (i:Int) ≠ []:=by
 unfold dec
 rw [Int.toNat_natCast]
 intro h
 have h1:=Go.Lib.decDigits_length i
 have h2:=Go.Lib.nDigits_pos i
 rw [h] at h1
 simp at h1; omega
theorem PT.tx_ne (t:PT):t.tx ≠ []:=by
 cases t with
 | goal=>simp [PT.tx]
 | claim i=>exact dec_ne i
 | split who a b=>simp [PT.tx]
/-- The worlds that agree with what is known of the first k people. -/
def agr (p k world:Nat):Nat:=tabN (2 ^ p) fun w=>w % 2 ^ k == world
/-- A case is closed by what is to be proved. -/
def closG (p:Nat) (t:List Mark) (k world:Nat):Bool:=decide (andN (agr p k world) (termTab p t)=0)
/-- A case is closed by a claim. -/
def closC (p:Nat) (c:Claim) (k world:Nat):Bool:=decide (agr p k world &&& claimTab p c=0)
def closI (p:Nat) (l:List Claim) (k world i:Nat):Bool:=match l[i]? with
 | some c=>closC p c k world
 | none=>false
def leaf (p:Nat) (l:List Claim) (t:List Mark) (k world:Nat):Option PT :=
 if closG p t k world=true then some .goal else ((List.range l.length).find? (closI p l k world)).map .claim
/-- The proof that is found, with so many people not known yet. -/
def findT (p:Nat) (l:List Claim) (t:List Mark):Nat→Nat→Option PT
 | 0,world=>leaf p l t p world
 | r+1,world=>match leaf p l t (p-(r+1)) world with
  | some x=>some x
  | none=>match findT p l t r world,findT p l t r (world+2 ^ (p-(r+1))) with
   | some a,some b=>some (.split (p-(r+1)) a b)
   | _,_=>none
/-- A tree is right for a case. -/
def okT (p:Nat) (l:List Claim) (t:List Mark):PT→Nat→Nat→Prop
 | .goal,k,world=>closG p t k world=true
 | .claim i,k,world=>i<l.length∧closI p l k world i=true
 | .split who a b,k,world=>who=k∧k<p∧okT p l t a (k+1) world∧okT p l t b (k+1) (world+2 ^ k)
theorem leaf_ok {p:Nat} {l:List Claim} {t:List Mark} {k world:Nat} {x:PT} (h:leaf p l t k world=some x):okT p l t x k world∧x.size=0:=by
 unfold leaf at h
 split at h
 ·rename_i hg; cases h; exact ⟨hg,rfl⟩
 ·rw [Option.map_eq_some_iff] at h
  obtain ⟨i,hi,rfl⟩:=h
  have h1:=List.find?_some hi
  have h2:=List.mem_of_find?_eq_some hi
  exact ⟨⟨List.mem_range.1 h2,h1⟩,rfl⟩
theorem findT_ok {p:Nat} {l:List Claim} {t:List Mark} : ∀ (r world:Nat) (x:PT),r≤p→findT p l t r world=some x→okT p l t x (p-r) world∧x.size+1≤2 ^ r
 | 0,world,x,_,h=>by
  obtain ⟨h1,h2⟩:=leaf_ok h
  exact ⟨h1,by omega⟩
 | r+1,world,x,hr,h=>by
  unfold findT at h
  split at h
  ·rename_i y hy
   cases h
   obtain ⟨h1,h2⟩:=leaf_ok hy
   have:=Nat.one_le_two_pow (n:=r+1)
   exact ⟨h1,by omega⟩
  ·split at h
   ·rename_i a b ha hb
    cases h
    obtain ⟨a1,a2⟩:=findT_ok r _ _ (by omega) ha
    obtain ⟨b1,b2⟩:=findT_ok r _ _ (by omega) hb
    have e:p-(r+1)+1=p-r:=by omega
    refine ⟨⟨rfl,by omega,by rw [e]; exact a1,by rw [e]; exact b1⟩, ?_⟩
    rw [Nat.pow_succ]
    simp only [PT.size]; omega
   ·cases h
end TL

namespace TL
open Go Go.Proofs
attribute [local simp] marksV storyV codeV Claim.v Place.v numsV
/-- What is known: the first so many. -/
def kn (k:Nat):Int:=((2 ^ k-1:Nat):Int)
theorem agr_small {p:Nat} (h4:p≤4) (k world:Nat):agr p k world<65536:=table_small h4 (tabN_lt _ _)
theorem closed1_fn (k world w:Nat) (hk:k≤4) (hw:w<16):FnZ Tryz.prog 166 [.int .i64 w,.ref [.int .i64 (kn k)],.ref [.int .i64 world]] (.bool (w % 2 ^ k == world)):=by
 have hp:=pow_small hk
 have ha:=and_ni (a:=w) (b:=2 ^ k-1) (x:=kn k) rfl (by omega) (by omega)
 rw [Nat.and_two_pow_sub_one_eq_mod] at ha
 have e:(w % 2 ^ k == world)=decide (((w % 2 ^ k:Nat):Int)=(world:Int)):=by
  rw [Bool.eq_iff_iff]; simp only [beq_iff_eq,decide_eq_true_eq,Int.natCast_inj]
 rw [e]
 generalize w % 2 ^ k=A at *
 generalize kn k=K at *
 refine FZ (rs:=[.tmp 4]) false Tryz.func166 ?_
 simp -dsimp [ha]
/-- What the map of a case says. -/
def MapOk (p:Nat) (l:List Claim) (t:List Mark) (k world i:Nat) (es:List (Int × V)):Prop:=mget (-1) es=some (.bool (closG p t k world))∧∀ j,j<i→mget (-2-(j:Int)) es=some (.bool (closI p l k world j))
def clPost (p:Nat) (l:List Claim) (t:List Mark) (k world:Nat) (m:Mem) (n:Nat) (x:T) (m':Mem) (n':Nat):Prop:=∃ (id:Nat) (es:List (Int × V)),x=.mp id∧n≤id∧id<n'∧m' id=some (.mp es)∧MapOk p l t k world l.length es∧∀ j,j<n→m' j=m j
def Icb (p:Nat) (l:List Claim) (t:List Mark) (k world:Nat) (m:Mem) (n id:Nat) (e:Nat) (s:S):Prop:=∃ (i:Nat) (es:List (Int × V)),s.tm 0=.v (.int .i64 p)∧s.tm 11=.v (.int .i64 (agr p k world))∧s.tm 12=.mp id∧s.tm 26=.v (.sl (l.map Claim.v))∧s.tm 27=.v (.int .i64 l.length)∧s.tm 28=.v (.int .i64 i) ∧
 i≤l.length∧id<s.n∧s.m id=some (.mp es)∧MapOk p l t k world i es∧(∀ j,j<n→s.m j=m j)∧(e=1→i=l.length)
theorem closedBy_s (p:Nat) (l:List Claim) (t:List Mark) (h:storyOk p l=true) (ht:termOk p t=true) (k world:Nat) (hk:k≤4) (m:Mem) (n:Nat) :
  FnS Tryz.prog 115 m n [.v (.int .i64 p),.v (storyV l),.v (marksV t),.v (.int .i64 (kn k)),.v (.int .i64 world)] (clPost p l t k world m n):=by
 obtain ⟨h1,h4,hc,h6⟩:=allOk_of h
 have hN:=pow_small (p:=p) (by omega)
 have htb:=tableBy_fn p (by omega) (by omega) 166 [.ref [.int .i64 (kn k)],.ref [.int .i64 world]] (fun w=>w % 2 ^ k == world) (fun w hw=>closed1_fn k world w hk (by omega))
 have e1:tabN (2 ^ p) (fun w=>w % 2 ^ k == world)=agr p k world:=rfl
 rw [e1] at htb
 have htt:=tableOf_fn p t ht
 have hs:=agr_small (p:=p) (by omega) k world
 have hw:=andN_w (b:=termTab p t) hs
 have eG:closG p t k world=decide (andN (agr p k world) (termTab p t)=0):=rfl
 obtain ⟨B,hB⟩:∃ B,termTab p t=B:=⟨_,rfl⟩
 rw [hB] at htt hw eG
 have hcI:∀ (i:Nat) (hi:i<l.length),closI p l k world i=decide (agr p k world &&& claimTab p l[i]=0):=fun i hi=>by
  unfold closI; rw [List.getElem?_eq_getElem hi]; rfl
 obtain ⟨A,hA⟩:∃ A,agr p k world=A:=⟨_,rfl⟩
 rw [hA] at htb hs hw eG
 obtain ⟨C,hC⟩:∃ C,andN A B=C:=⟨_,rfl⟩
 rw [hC] at hw eG
 have hcap:∀ K:Int,kn k=K→True:=fun _ _=>trivial
 obtain ⟨K,hK⟩:∃ K,kn k=K:=⟨_,rfl⟩
 rw [hK] at htb ⊢
 refine FS (rs:=[.tmp 10]) false Tryz.func115 ?_
 simp -dsimp [nes]
 refine callM_ htb (by simp -dsimp [nes]) rfl ?_
 simp -dsimp [nes]
 refine cl htt ?_
 simp -dsimp [hw,nes,V.flat]
 refine twp_loopC (Icb p l t k world m n (n+1+1) 0) (fun s=>l.length-natOf (s.tm 28)) (Icb p l t k world m n (n+1+1) 1) ?_ ?_ ?_
 ·refine ⟨0,[(-1,.bool (closG p t k world))],by simp -dsimp,by simp -dsimp [hA],by simp -dsimp,by simp -dsimp,by simp -dsimp,by simp -dsimp,by omega,by simp -dsimp,by simp -dsimp [mset,eG],⟨by simp [mget],fun j hj=>absurd hj (by omega)⟩,fun j hj => ?_,by simp⟩
  have f:=far hj
  simp -dsimp [f]
 ·rintro s ⟨i,es,t0,t11,t12,t26,t27,t28,hi,hid,hm,hok,hout,hend⟩
  by_cases hlt:i<l.length
  case neg =>
   simp -dsimp [t27,t28,hlt]
   exact ⟨i,es,by simp -dsimp [t0],by simp -dsimp [t11],by simp -dsimp [t12],by simp -dsimp [t26],by simp -dsimp [t27],by simp -dsimp [t28],hi,by simp -dsimp; omega,by simp -dsimp [hm],hok,fun j hj=>by simp -dsimp [hout j hj],fun _=>by omega⟩
  rw [hA] at t11
  have hget:(l.map Claim.v)[i]? = some (l[i].v):=by simp [hlt]
  have wi:IntKind.wrap .i64 ((i:Int)+1)=((i+1:Nat):Int):=by rw [w64 (by omega) (by omega)]; omega
  have w2:IntKind.wrap .i64 (-2-(i:Int)) = -2-(i:Int):=w64 (by omega) (by omega)
  have hmu1:l.length-(i+1)<l.length-i:=by omega
  have hct:=claimTable_fn p l[i] (hc _ (List.getElem_mem hlt))
  rw [Int.toNat_natCast] at hct
  have hcs:=claimTab_small (p:=p) (by omega) l[i]
  have hci:=hcI i hlt
  rw [hA] at hci
  have f1:=far hid
  obtain ⟨D,hD⟩:∃ D,claimTab p l[i]=D:=⟨_,rfl⟩
  rw [hD] at hct hcs hci
  have hand:=and_ni (a:=A) (b:=D) (x:=(D:Int)) rfl (by omega) (by omega)
  have hnx:MapOk p l t k world (i+1) (mset (-2-(i:Int)) (.bool (decide (A &&& D=0))) es):=by
   refine ⟨?_,fun j hj => ?_⟩
   ·rw [mget_mset,if_neg (by omega)]; exact hok.1
   ·rw [mget_mset]
    by_cases hji:j=i
    ·subst hji; rw [if_pos rfl,hci]
    ·rw [if_neg (by omega)]; exact hok.2 j (by omega)
  have hdz:decide (((A &&& D:Nat):Int)=0)=decide (A &&& D=0):=by
   rw [Bool.eq_iff_iff]; simp only [decide_eq_true_eq]; omega
  obtain ⟨E,hE⟩:∃ E,A &&& D=E:=⟨_,rfl⟩
  have hEA:E≤A:=by rw [← hE]; exact Nat.and_le_left
  have hand2:IntKind.wrap .i64 ((A % 2 ^ IntKind.i64.bits &&& D % 2 ^ IntKind.i64.bits:Nat):Int)=(E:Int):=by
   rw [Nat.mod_eq_of_lt (show A<2 ^ IntKind.i64.bits by simp [IntKind.bits]; omega),Nat.mod_eq_of_lt (show D<2 ^ IntKind.i64.bits by simp [IntKind.bits]; omega),hE]
   exact w64 (by omega) (by omega)
  rw [hE] at hand hnx hdz
  simp -dsimp [t26,t27,t28,hlt,hget,t0,t11,t12,claim_cellsE,w2,f1,nes]
  refine cl hct ?_
  simp -dsimp [t0,t11,t12,t26,t27,t28,w2,hand,hm,f1,nes,V.flat,wi,hmu1]
  refine st_out fun s' ht' hm' hn' hu' => ?_
  have q0:=ht' 0
  have q11:=ht' 11
  have q12:=ht' 12
  have q26:=ht' 26
  have q27:=ht' 27
  have q28:=ht' 28
  simp -dsimp [t0,t11,t12,t26,t27] at q0 q11 q12 q26 q27 q28 hm' hn' hu'
  clear ht'
  refine ⟨i+1,_,q0,by rw [q11,hA],q12,q26,q27,q28,by omega,by omega, ?_,hnx,fun j hj => ?_,by simp⟩
  ·rw [hm']; simp [hand2]
  ·have fj:=far (show j<s.n by omega)
   rw [hm']; simp [fj,show ¬j=n+1+1 by omega,hout j hj]
 ·rintro s ⟨i,es,t0,t11,t12,t26,t27,t28,hi,hid,hm,hok,hout,hend⟩
  have:=hend rfl
  subst this
  simp -dsimp [t12]
  exact ⟨n+1+1,es,rfl,by omega,hid,hm,hok,hout⟩
end TL

namespace TL
open Go Go.Proofs
attribute [local simp] marksV storyV codeV Claim.v Place.v numsV
/-- The cells of splits. -/
def spT (sps:List Sp):List T:=sps.flatMap fun s=>[.v (.int .i64 s.who),.v (.int .i64 s.no),.v (.int .i64 s.yes)]
@[simp] theorem spT_len (sps:List Sp):(spT sps).length=sps.length * 3:=by
 induction sps with
 | nil=>rfl
 | cons s sps ih=>simp only [spT,List.flatMap_cons,List.length_append,List.length_cons,List.length_nil] at ih ⊢; omega
theorem spT_cons (s:Sp) (sps:List Sp):spT (s :: sps)=.v (.int .i64 s.who) :: .v (.int .i64 s.no) :: .v (.int .i64 s.yes) :: spT sps:=rfl
theorem spT_app (a b:List Sp):spT (a++b)=spT a++spT b:=by simp [spT]
theorem spT_take (sps:List Sp):(spT sps).take (sps.length * 3)=spT sps:=List.take_of_length_le (by simp)
def setNo (i:Nat) (x:Int) (sps:List Sp):List Sp:=sps.modify i fun s => { s with no:=x }
def setYes (i:Nat) (x:Int) (sps:List Sp):List Sp:=sps.modify i fun s => { s with yes:=x }
@[simp] theorem setNo_len (i:Nat) (x:Int) (sps:List Sp):(setNo i x sps).length=sps.length:=by simp [setNo]
@[simp] theorem setYes_len (i:Nat) (x:Int) (sps:List Sp):(setYes i x sps).length=sps.length:=by simp [setYes]
theorem spT_no:∀ (sps:List Sp) (i:Nat) (x:Int),(spT sps).set (i * 3+1) (.v (.int .i64 x))=spT (setNo i x sps)
 | [],i,x=>by cases i <;> rfl
 | s :: sps,0,x=>rfl
 | s :: sps,i+1,x=>by
  have ih:=spT_no sps i x
  rw [spT_cons,show (i+1) * 3+1=(i * 3+1)+1+1+1 by omega,List.set_cons_succ,List.set_cons_succ,List.set_cons_succ,ih]
  rfl
theorem spT_yes:∀ (sps:List Sp) (i:Nat) (x:Int),(spT sps).set (i * 3+2) (.v (.int .i64 x))=spT (setYes i x sps)
 | [],i,x=>by cases i <;> rfl
 | s :: sps,0,x=>rfl
 | s :: sps,i+1,x=>by
  have ih:=spT_yes sps i x
  rw [spT_cons,show (i+1) * 3+2=(i * 3+2)+1+1+1 by omega,List.set_cons_succ,List.set_cons_succ,List.set_cons_succ,ih]
  rfl
theorem set_mid (a:List Sp) (w x y u v:Int) (b:List Sp):setYes a.length v (setNo a.length u (a++⟨w,x,y⟩ :: b))=a++⟨w,u,v⟩ :: b:=by
 induction a with
 | nil=>rfl
 | cons s a ih =>
  simp only [setYes,setNo,List.cons_append,List.length_cons,List.modify_succ_cons] at ih ⊢
  rw [ih]
/-- The memory of the search. -/
def FpM (m:Mem) (n:Nat) (p:Nat) (l:List Claim) (t:List Mark) (sps:List Sp):Prop :=
 m 0=some (.box 3 1 [.v (.int .i64 p)])∧m 1=some (.box 23 1 [.v (storyV l)])∧m 2=some (.box 61 1 [.v (marksV t)])∧m 3=some (.box 102 2 [.v (.int .i64 0),.nil]) ∧
 m 6=some (.box 133 1 [.fn 114 [.ptr 0 0,.ptr 1 0,.ptr 2 0,.ptr 4 0,.ptr 6 0]]) ∧
 ∃ X,m 4=some (.box 102 2 [.v (.int .i64 0),X])∧((X=.nil∧sps=[])∨∃ id,X=.sv id 0 sps.length∧8≤id∧id<n∧m id=some (.box 137 3 (spT sps)))
theorem FpM.keep {m m':Mem} {n n' p:Nat} {l:List Claim} {t:List Mark} {sps:List Sp} (h:FpM m n p l t sps) (hn:8≤n) (h1:n≤n') (h2:∀ j,j<n→m' j=m j):FpM m' n' p l t sps:=by
 obtain ⟨a0,a1,a2,a3,a6,X,a4,hX⟩:=h
 refine ⟨by rw [h2 0 (by omega),a0],by rw [h2 1 (by omega),a1],by rw [h2 2 (by omega),a2],by rw [h2 3 (by omega),a3],by rw [h2 6 (by omega),a6],X,by rw [h2 4 (by omega),a4], ?_⟩
 rcases hX with hX | ⟨id,b1,b2,b3,b4⟩
 ·exact .inl hX
 ·exact .inr ⟨id,b1,b2,by omega,by rw [h2 id b3,b4]⟩
def fpPost (p:Nat) (l:List Claim) (t:List Mark) (o:Option PT) (sps:List Sp) (n:Nat) (x:T) (m':Mem) (n':Nat):Prop:=n≤n'∧match o with
 | some y=>x=.tup [.v (.int .i64 (y.to sps.length)),.v (.bool true)]∧FpM m' n' p l t (sps++y.row sps.length)
 | none=>∃ (z:Int) (sps':List Sp),x=.tup [.v (.int .i64 z),.v (.bool false)]∧sps.length≤sps'.length∧FpM m' n' p l t sps'
theorem fpPost_some {p:Nat} {l:List Claim} {t:List Mark} {y:PT} {sps:List Sp} {n:Nat} {x:T} {m':Mem} {n' L:Nat} (h:fpPost p l t (some y) sps n x m' n') (hL:sps.length=L) :
  ∃ (A:List Sp) (Y:Int),x=.tup [.v (.int .i64 Y),.v (.bool true)]∧A=sps++y.row L∧Y=y.to L∧A.length=L+y.size∧FpM m' n' p l t A:=by
 subst hL
 exact ⟨_,_,h.2.1,rfl,rfl,by rw [List.length_append,PT.row_len],h.2.2⟩
theorem findT_leaf {p : Nat} {l : List Claim} {t : List Mark} {r k world : Nat} {x : PT} (hk : k + r = p) (h : leaf p l t k world = some x) : findT p l t r world = some x := by
  cases r with
  | zero => obtain rfl : k = p := by omega
            exact h
  | succ r => rw [findT,show p - (r + 1) = k by omega,h]
theorem leaf_cases (p:Nat) (l:List Claim) (t:List Mark) (k world:Nat):(closG p t k world=true∧leaf p l t k world=some .goal)∨(closG p t k world=false∧∃ i,i<l.length∧closI p l k world i=true∧(∀ j,j<i→closI p l k world j=false)∧leaf p l t k world=some (.claim i)) ∨
  (closG p t k world=false∧(∀ j,j<l.length→closI p l k world j=false)∧leaf p l t k world=none):=by
 unfold leaf
 rcases ft (closG p t k world) with h | h
 ·rw [if_neg (by simp [h])]
  rcases find_range (f:=closI p l k world) l.length with ⟨d,g1,g2,g3,g4⟩ | ⟨g1,g2⟩
  ·exact .inr (.inl ⟨h,d,g2,g3,g4,by rw [g1]; rfl⟩)
  ·exact .inr (.inr ⟨h,g2,by rw [g1]; rfl⟩)
 ·rw [if_pos h]; exact .inl ⟨h,rfl⟩
theorem kn_succ (k:Nat):(2 ^ k-1) ||| 2 ^ k=2 ^ (k+1)-1:=by
 have h:=Nat.two_pow_pos k
 have h1:=Nat.two_pow_add_eq_or_of_lt (show 2 ^ k-1<2 ^ k by omega) 1
 rw [Nat.mul_one] at h1
 rw [Nat.or_comm,← h1,Nat.pow_succ]; omega
theorem or_pow {world k:Nat} (h:world<2 ^ k):world ||| 2 ^ k=world+2 ^ k:=by
 have h1:=Nat.two_pow_add_eq_or_of_lt h 1
 rw [Nat.mul_one] at h1
 rw [Nat.or_comm,← h1]; omega
def Ifp1 (l:List Claim) (k world:Nat) (id:Nat) (m1:Mem) (n1 hi:Nat) (e:Nat) (s:S):Prop:=∃ i:Nat,s.tm 0=.v (.int .i64 (kn k))∧s.tm 1=.v (.int .i64 world)∧s.tm 2=.ptr 0 0∧s.tm 3=.ptr 1 0∧s.tm 4=.ptr 2 0∧s.tm 5=.ptr 4 0∧s.tm 6=.ptr 6 0 ∧
 s.tm 11=.mp id∧s.tm 28=.v (.int .i64 l.length)∧s.tm 29=.v (.int .i64 i)∧i≤hi∧s.m=m1∧s.n=n1∧s.mu=true∧(e=1→i=l.length)
def Ifp2 (k world:Nat) (m1:Mem) (n1:Nat) (e:Nat) (s:S):Prop:=∃ i:Nat,s.tm 0=.v (.int .i64 (kn k))∧s.tm 1=.v (.int .i64 world)∧s.tm 2=.ptr 0 0∧s.tm 3=.ptr 1 0∧s.tm 4=.ptr 2 0∧s.tm 5=.ptr 4 0∧s.tm 6=.ptr 6 0 ∧
 s.tm 13=.v (.int .i64 i)∧i≤k∧s.m=m1∧s.n=n1∧s.mu=true∧(e=1→i=k)
theorem kn_bit (k i:Nat) (hk:k≤4) (hi:i<60):IntKind.wrap .i64 (((kn k).fdiv (2 ^ min i IntKind.i64.bits) % 2 ^ IntKind.i64.bits).toNat &&& 1 % 2 ^ IntKind.i64.bits:Nat)=if i<k then 1 else 0:=by
 have hp:=pow_small hk
 have h:=bit1 (2 ^ k-1) i (by omega) hi
 rw [show (((2 ^ k-1:Nat):Int))=kn k from rfl,Nat.testBit_two_pow_sub_one] at h
 rw [h]; simp
theorem find_A (p:Nat) (l:List Claim) (t:List Mark) (h:storyOk p l=true) (ht:termOk p t=true) (r k world:Nat) (sps:List Sp) (m:Mem) (n:Nat) (hk:k+r=p) (hn:8≤n) (hM:FpM m n p l t sps) (hl:closG p t k world=true∧leaf p l t k world=some .goal) :
  FnS Tryz.prog 114 m n [.v (.int .i64 (kn k)),.v (.int .i64 world),.ptr 0 0,.ptr 1 0,.ptr 2 0,.ptr 4 0,.ptr 6 0] (fpPost p l t (findT p l t r world) sps n):=by
 obtain ⟨h1,h4,hc,h6⟩:=allOk_of h
 have hcl:=closedBy_s p l t h ht k world (by omega) m n
 rw [findT_leaf hk hl.2]
 have m0:=hM.1
 have m1:=hM.2.1
 have m2:=hM.2.2.1
 refine FS (rs:=[.tmp 9,.tmp 10]) true Tryz.func114 ?_
 simp -dsimp [m0,m1,m2]
 refine callS_ hcl ?_
 rintro x m1 n1 ⟨id,es,rfl,hid,hid2,hmid,hok,hout⟩
 have hg:=hok.1
 rw [hl.1] at hg
 simp -dsimp [hmid,hg]
 exact ⟨by omega,rfl,by rw [show PT.goal.row sps.length=[] from rfl,List.append_nil]; exact hM.keep hn (by omega) hout⟩
theorem find_B (p:Nat) (l:List Claim) (t:List Mark) (h:storyOk p l=true) (ht:termOk p t=true) (r k world:Nat) (sps:List Sp) (m:Mem) (n:Nat) (hk:k+r=p) (hn:8≤n) (hM:FpM m n p l t sps) (i0:Nat) (hg0:closG p t k world=false) (hi0:i0<l.length)
  (hci:closI p l k world i0=true) (hcj:∀ j,j<i0→closI p l k world j=false) (hl:leaf p l t k world=some (.claim i0)) :
  FnS Tryz.prog 114 m n [.v (.int .i64 (kn k)),.v (.int .i64 world),.ptr 0 0,.ptr 1 0,.ptr 2 0,.ptr 4 0,.ptr 6 0] (fpPost p l t (findT p l t r world) sps n):=by
 obtain ⟨h1,h4,hc,h6⟩:=allOk_of h
 have hcl:=closedBy_s p l t h ht k world (by omega) m n
 rw [findT_leaf hk hl]
 have m0:=hM.1
 have m1:=hM.2.1
 have m2:=hM.2.2.1
 refine FS (rs:=[.tmp 9,.tmp 10]) true Tryz.func114 ?_
 simp -dsimp [m0,m1,m2]
 refine callS_ hcl ?_
 rintro x m1 n1 ⟨id,es,rfl,hid,hid2,hmid,hok,hout⟩
 have hM1:=hM.keep hn (show n≤n1 by omega) hout
 have q1:=hM1.2.1
 have hg:=hok.1
 rw [hg0] at hg
 simp -dsimp [hmid,hg,q1]
 refine twp_loopC (Ifp1 l k world id m1 n1 i0 0) (fun s=>l.length-natOf (s.tm 29)) (fun _=>False) ?_ ?_ ?_
 ·exact ⟨0,by simp -dsimp,by simp -dsimp,by simp -dsimp,by simp -dsimp,by simp -dsimp,by simp -dsimp,by simp -dsimp,by simp -dsimp,by simp -dsimp,by simp -dsimp,by omega,by simp -dsimp,by simp -dsimp,by simp -dsimp,by simp⟩
 ·rintro s ⟨i,t0,t1,t2,t3,t4,t5,t6,t11,t28,t29,hi,hm,hsn,hmu,hend⟩
  have hlt:i<l.length:=by omega
  have wi:IntKind.wrap .i64 ((i:Int)+1)=((i+1:Nat):Int):=by rw [w64 (by omega) (by omega)]; omega
  have w2:IntKind.wrap .i64 (-2-(i:Int)) = -2-(i:Int):=w64 (by omega) (by omega)
  have hmu1:l.length-(i+1)<l.length-i:=by omega
  have hmi:=hok.2 i hlt
  by_cases he:i=i0
  ·subst he
   rw [hci] at hmi
   simp -dsimp [t11,t28,t29,hlt,hm,hmid,w2,hmi]
   exact ⟨by omega,rfl,by rw [show (PT.claim i).row sps.length=[] from rfl,List.append_nil]; simpa -dsimp [hm,hsn] using hM1⟩
  ·rw [hcj i (by omega)] at hmi
   simp -dsimp [t11,t28,t29,hlt,hm,hmid,w2,hmi,wi,hmu1]
   exact ⟨i+1,by simp -dsimp [t0],by simp -dsimp [t1],by simp -dsimp [t2],by simp -dsimp [t3],by simp -dsimp [t4],by simp -dsimp [t5],by simp -dsimp [t6],by simp -dsimp [t11],by simp -dsimp [t28],by simp -dsimp,by omega,by simp -dsimp [hm],by simp -dsimp [hsn],by simp -dsimp [hmu],by simp⟩
 ·intro s hs; exact hs.elim
theorem find_C0 (p:Nat) (l:List Claim) (t:List Mark) (h:storyOk p l=true) (ht:termOk p t=true) (k world:Nat) (sps:List Sp) (m:Mem) (n:Nat) (hk:k=p) (hn:8≤n) (hM:FpM m n p l t sps) (hg0:closG p t k world=false)
  (hcj:∀ j,j<l.length→closI p l k world j=false) (hl:leaf p l t k world=none) :
  FnS Tryz.prog 114 m n [.v (.int .i64 (kn k)),.v (.int .i64 world),.ptr 0 0,.ptr 1 0,.ptr 2 0,.ptr 4 0,.ptr 6 0] (fpPost p l t (findT p l t 0 world) sps n):=by
 have e0:findT p l t 0 world=none:=by rw [findT]; rw [hk] at hl; exact hl
 rw [e0]
 have hkp:p≤k:=by omega
 have hkp2:(p:Int)≤k:=by omega
 obtain ⟨h1,h4,hc,h6⟩:=allOk_of h
 have hcl:=closedBy_s p l t h ht k world (by omega) m n
 have m0:=hM.1
 have m1:=hM.2.1
 have m2:=hM.2.2.1
 refine FS (rs:=[.tmp 9,.tmp 10]) true Tryz.func114 ?_
 simp -dsimp [m0,m1,m2]
 refine callS_ hcl ?_
 rintro x m1 n1 ⟨id,es,rfl,hid,hid2,hmid,hok,hout⟩
 have hM1:=hM.keep hn (show n≤n1 by omega) hout
 have q0:=hM1.1
 have q1:=hM1.2.1
 have q6:=hM1.2.2.2.2.1
 have hXX:=hM1.2.2.2.2.2
 have hg:=hok.1
 rw [hg0] at hg
 simp -dsimp [hmid,hg,q1]
 refine twp_loopC (Ifp1 l k world id m1 n1 l.length 0) (fun s=>l.length-natOf (s.tm 29)) (Ifp1 l k world id m1 n1 l.length 1) ?_ ?_ ?_
 ·exact ⟨0,by simp -dsimp,by simp -dsimp,by simp -dsimp,by simp -dsimp,by simp -dsimp,by simp -dsimp,by simp -dsimp,by simp -dsimp,by simp -dsimp,by simp -dsimp,by omega,by simp -dsimp,by simp -dsimp,by simp -dsimp,by simp⟩
 ·rintro s ⟨i,t0,t1,t2,t3,t4,t5,t6,t11,t28,t29,hi,hm,hsn,hmu,hend⟩
  by_cases hlt:i<l.length
  case neg =>
   simp -dsimp [t28,t29,hlt]
   exact ⟨i,by simp -dsimp [t0],by simp -dsimp [t1],by simp -dsimp [t2],by simp -dsimp [t3],by simp -dsimp [t4],by simp -dsimp [t5],by simp -dsimp [t6],by simp -dsimp [t11],by simp -dsimp [t28],by simp -dsimp [t29],by omega,by simp -dsimp [hm],by simp -dsimp [hsn],by simp -dsimp [hmu],fun _=>by omega⟩
  have wi:IntKind.wrap .i64 ((i:Int)+1)=((i+1:Nat):Int):=by rw [w64 (by omega) (by omega)]; omega
  have w2:IntKind.wrap .i64 (-2-(i:Int)) = -2-(i:Int):=w64 (by omega) (by omega)
  have hmu1:l.length-(i+1)<l.length-i:=by omega
  have hmi:=hok.2 i hlt
  rw [hcj i (by omega)] at hmi
  simp -dsimp [t11,t28,t29,hlt,hm,hmid,w2,hmi,wi,hmu1]
  exact ⟨i+1,by simp -dsimp [t0],by simp -dsimp [t1],by simp -dsimp [t2],by simp -dsimp [t3],by simp -dsimp [t4],by simp -dsimp [t5],by simp -dsimp [t6],by simp -dsimp [t11],by simp -dsimp [t28],by simp -dsimp,by omega,by simp -dsimp [hm],by simp -dsimp [hsn],by simp -dsimp [hmu],by simp⟩
 rintro s ⟨i,t0,t1,t2,t3,t4,t5,t6,t11,t28,t29,hi,hm,hsn,hmu,hend⟩
 clear hend t29 t28 t11 hi
 simp -dsimp
 refine twp_loopC (Ifp2 k world m1 n1 0) (fun s=>k-natOf (s.tm 13)) (Ifp2 k world m1 n1 1) ?_ ?_ ?_
 ·exact ⟨0,by simp -dsimp [t0],by simp -dsimp [t1],by simp -dsimp [t2],by simp -dsimp [t3],by simp -dsimp [t4],by simp -dsimp [t5],by simp -dsimp [t6],by simp -dsimp,by omega,by simp -dsimp [hm],by simp -dsimp [hsn],by simp -dsimp [hmu],by simp⟩
 ·rintro s ⟨i,t0,t1,t2,t3,t4,t5,t6,t13,hi,hm,hsn,hmu,hend⟩
  have hb:=kn_bit k i (by omega) (by omega)
  have z1:¬(i:Int)<0:=by omega
  by_cases hlt:i<k
  case neg =>
   rw [if_neg hlt] at hb
   simp -dsimp [t0,t13,hb,z1]
   exact ⟨i,by simp -dsimp [t0],by simp -dsimp [t1],by simp -dsimp [t2],by simp -dsimp [t3],by simp -dsimp [t4],by simp -dsimp [t5],by simp -dsimp [t6],by simp -dsimp [t13],by omega,by simp -dsimp [hm],by simp -dsimp [hsn],by simp -dsimp [hmu],fun _=>by omega⟩
  have wi:IntKind.wrap .i64 ((i:Int)+1)=((i+1:Nat):Int):=by rw [w64 (by omega) (by omega)]; omega
  have hmu1:k-(i+1)<k-i:=by omega
  rw [if_pos hlt] at hb
  simp -dsimp [t0,t13,hb,z1,wi,hmu1]
  exact ⟨i+1,by simp -dsimp [t0],by simp -dsimp [t1],by simp -dsimp [t2],by simp -dsimp [t3],by simp -dsimp [t4],by simp -dsimp [t5],by simp -dsimp [t6],by simp -dsimp,by omega,by simp -dsimp [hm],by simp -dsimp [hsn],by simp -dsimp [hmu],by simp⟩
 rintro s ⟨i,t0,t1,t2,t3,t4,t5,t6,t13,hi,hm,hsn,hmu,hend⟩
 have hik:k=i:=(hend rfl).symm
 subst hik
 clear hend hi
 obtain ⟨X,q4,hX⟩:=hXX
 rcases hX with ⟨rfl,hs⟩ | ⟨id2,rfl,b1,b2,b3⟩
 ·simp -dsimp [t0,t1,t2,t3,t4,t5,t6,t13,hm,q0,q4,hkp,hkp2]
  exact ⟨by omega,0,sps,rfl,by omega,by simpa -dsimp [hm,hsn] using hM1⟩
 ·simp -dsimp [t0,t1,t2,t3,t4,t5,t6,t13,hm,q0,q4,hkp,hkp2]
  exact ⟨by omega,0,sps,rfl,by omega,by simpa -dsimp [hm,hsn] using hM1⟩
end TL

namespace TL
open Go Go.Proofs
attribute [local simp] marksV storyV codeV Claim.v Place.v numsV
theorem find_C1 (p:Nat) (l:List Claim) (t:List Mark) (h:storyOk p l=true) (ht:termOk p t=true) (r k world:Nat) (sps:List Sp) (m:Mem) (n:Nat) (hk:k+(r+1)=p) (hn:8≤n) (hM:FpM m n p l t sps) (hg0:closG p t k world=false)
  (hcj:∀ j,j<l.length→closI p l k world j=false) (hl:leaf p l t k world=none)
  (hw:world<2 ^ k) (hlen:sps.length+2 ^ (r+1)≤16) (ih:∀ (world:Nat) (sps:List Sp) (m:Mem) (n:Nat),world<2 ^ (k+1)→sps.length+2 ^ r≤16→8≤n→FpM m n p l t sps→FnS Tryz.prog 114 m n [.v (.int .i64 (kn (k+1))),.v (.int .i64 world),.ptr 0 0,.ptr 1 0,.ptr 2 0,.ptr 4 0,.ptr 6 0] (fpPost p l t (findT p l t r world) sps n)) :
  FnS Tryz.prog 114 m n [.v (.int .i64 (kn k)),.v (.int .i64 world),.ptr 0 0,.ptr 1 0,.ptr 2 0,.ptr 4 0,.ptr 6 0] (fpPost p l t (findT p l t (r+1) world) sps n):=by
 have eF:findT p l t (r+1) world=match findT p l t r world,findT p l t r (world+2 ^ k) with
   | some a,some b=>some (.split k a b)
   | _,_=>none:=by
  rw [findT,show p-(r+1)=k by omega,hl]
  all_goals rfl
 obtain ⟨oF,hoF⟩:∃ oF,findT p l t (r+1) world=oF:=⟨_,rfl⟩
 rw [hoF] at eF ⊢
 obtain ⟨o1,ho1⟩:∃ o1,findT p l t r world=o1:=⟨_,rfl⟩
 obtain ⟨o2,ho2⟩:∃ o2,findT p l t r (world+2 ^ k)=o2:=⟨_,rfl⟩
 rw [ho1,ho2] at eF
 have hk4:k<4:=by have:=(allOk_of h).2.1; omega
 have hp1:=Nat.one_le_two_pow (n:=r)
 rw [Nat.pow_succ] at hlen
 have hpk:=pow_small (p:=k) (by have:=(allOk_of h).2.1; omega)
 have ih1:=fun m n=>ih world (sps++[⟨k,0,0⟩]) m n (by rw [Nat.pow_succ]; omega) (by simp; omega)
 have ih2:=fun sps m n=>ih (world+2 ^ k) sps m n (by rw [Nat.pow_succ]; omega)
 rw [ho1] at ih1
 rw [ho2] at ih2
 have ekn:kn (k+1)=(((2 ^ k-1) ||| 2 ^ k:Nat):Int):=by rw [kn_succ]; rfl
 rw [ekn] at ih1 ih2
 have hor1:=or_ni (a:=2 ^ k-1) (b:=2 ^ k) (x:=(2:Int) ^ k) (by simp) (by omega) (by omega)
 have hor2:=or_ni (a:=world) (b:=2 ^ k) (x:=(2:Int) ^ k) (by simp) (by omega) (by omega)
 rw [or_pow hw] at hor2
 obtain ⟨W2,hW2⟩:∃ W2,world+2 ^ k=W2:=⟨_,rfl⟩
 rw [hW2] at ih2 hor2
 have hsz:∀ a,o1=some a→a.size+1≤2 ^ r:=fun a ha=>(findT_ok (p:=p) (l:=l) (t:=t) r world a (by omega) (by rw [ho1,ha])).2
 have hT:∀ (a:PT) (L:Nat),o1=some a→L=sps.length+1+a.size→L+2 ^ r≤16:=fun a L ha hL=>by have:=hsz a ha; omega
 have hT0:∀ (a:PT) (L:Nat),o1=some a→L=0+1+a.size→L+2 ^ r≤16:=fun a L ha hL=>by have:=hsz a ha; omega
 have hsh:=shl_fact (w:=k) (by omega)
 obtain ⟨h1,h4,hc,h6⟩:=allOk_of h
 have hcl:=closedBy_s p l t h ht k world (by omega) m n
 have m0:=hM.1
 have m1:=hM.2.1
 have m2:=hM.2.2.1
 refine FS (rs:=[.tmp 9,.tmp 10]) true Tryz.func114 ?_
 simp -dsimp [m0,m1,m2]
 refine callS_ hcl ?_
 rintro x m1 n1 ⟨id,es,rfl,hid,hid2,hmid,hok,hout⟩
 have hM1:=hM.keep hn (show n≤n1 by omega) hout
 have q0:=hM1.1
 have q1:=hM1.2.1
 have q6:=hM1.2.2.2.2.1
 have hXX:=hM1.2.2.2.2.2
 have hg:=hok.1
 rw [hg0] at hg
 simp -dsimp [hmid,hg,q1]
 refine twp_loopC (Ifp1 l k world id m1 n1 l.length 0) (fun s=>l.length-natOf (s.tm 29)) (Ifp1 l k world id m1 n1 l.length 1) ?_ ?_ ?_
 ·exact ⟨0,by simp -dsimp,by simp -dsimp,by simp -dsimp,by simp -dsimp,by simp -dsimp,by simp -dsimp,by simp -dsimp,by simp -dsimp,by simp -dsimp,by simp -dsimp,by omega,by simp -dsimp,by simp -dsimp,by simp -dsimp,by simp⟩
 ·rintro s ⟨i,t0,t1,t2,t3,t4,t5,t6,t11,t28,t29,hi,hm,hsn,hmu,hend⟩
  by_cases hlt:i<l.length
  case neg =>
   simp -dsimp [t28,t29,hlt]
   exact ⟨i,by simp -dsimp [t0],by simp -dsimp [t1],by simp -dsimp [t2],by simp -dsimp [t3],by simp -dsimp [t4],by simp -dsimp [t5],by simp -dsimp [t6],by simp -dsimp [t11],by simp -dsimp [t28],by simp -dsimp [t29],by omega,by simp -dsimp [hm],by simp -dsimp [hsn],by simp -dsimp [hmu],fun _=>by omega⟩
  have wi:IntKind.wrap .i64 ((i:Int)+1)=((i+1:Nat):Int):=by rw [w64 (by omega) (by omega)]; omega
  have w2:IntKind.wrap .i64 (-2-(i:Int)) = -2-(i:Int):=w64 (by omega) (by omega)
  have hmu1:l.length-(i+1)<l.length-i:=by omega
  have hmi:=hok.2 i hlt
  rw [hcj i (by omega)] at hmi
  simp -dsimp [t11,t28,t29,hlt,hm,hmid,w2,hmi,wi,hmu1]
  exact ⟨i+1,by simp -dsimp [t0],by simp -dsimp [t1],by simp -dsimp [t2],by simp -dsimp [t3],by simp -dsimp [t4],by simp -dsimp [t5],by simp -dsimp [t6],by simp -dsimp [t11],by simp -dsimp [t28],by simp -dsimp,by omega,by simp -dsimp [hm],by simp -dsimp [hsn],by simp -dsimp [hmu],by simp⟩
 rintro s ⟨i,t0,t1,t2,t3,t4,t5,t6,t11,t28,t29,hi,hm,hsn,hmu,hend⟩
 clear hend t29 t28 t11 hi
 simp -dsimp
 refine twp_loopC (Ifp2 k world m1 n1 0) (fun s=>k-natOf (s.tm 13)) (Ifp2 k world m1 n1 1) ?_ ?_ ?_
 ·exact ⟨0,by simp -dsimp [t0],by simp -dsimp [t1],by simp -dsimp [t2],by simp -dsimp [t3],by simp -dsimp [t4],by simp -dsimp [t5],by simp -dsimp [t6],by simp -dsimp,by omega,by simp -dsimp [hm],by simp -dsimp [hsn],by simp -dsimp [hmu],by simp⟩
 ·rintro s ⟨i,t0,t1,t2,t3,t4,t5,t6,t13,hi,hm,hsn,hmu,hend⟩
  have hb:=kn_bit k i (by omega) (by omega)
  have z1:¬(i:Int)<0:=by omega
  by_cases hlt:i<k
  case neg =>
   rw [if_neg hlt] at hb
   simp -dsimp [t0,t13,hb,z1]
   exact ⟨i,by simp -dsimp [t0],by simp -dsimp [t1],by simp -dsimp [t2],by simp -dsimp [t3],by simp -dsimp [t4],by simp -dsimp [t5],by simp -dsimp [t6],by simp -dsimp [t13],by omega,by simp -dsimp [hm],by simp -dsimp [hsn],by simp -dsimp [hmu],fun _=>by omega⟩
  have wi:IntKind.wrap .i64 ((i:Int)+1)=((i+1:Nat):Int):=by rw [w64 (by omega) (by omega)]; omega
  have hmu1:k-(i+1)<k-i:=by omega
  rw [if_pos hlt] at hb
  simp -dsimp [t0,t13,hb,z1,wi,hmu1]
  exact ⟨i+1,by simp -dsimp [t0],by simp -dsimp [t1],by simp -dsimp [t2],by simp -dsimp [t3],by simp -dsimp [t4],by simp -dsimp [t5],by simp -dsimp [t6],by simp -dsimp,by omega,by simp -dsimp [hm],by simp -dsimp [hsn],by simp -dsimp [hmu],by simp⟩
 rintro s ⟨i,t0,t1,t2,t3,t4,t5,t6,t13,hi,hm,hsn,hmu,hend⟩
 have hik:k=i:=(hend rfl).symm
 subst hik
 clear hend hi
 have hkp:¬p≤k:=by omega
 have hkp2:¬(p:Int)≤k:=by omega
 have z1:¬(k:Int)<0:=by omega
 have ek:kn k=(((2 ^ k-1:Nat)):Int):=rfl
 rw [ek] at t0
 obtain ⟨q,hq⟩:∃ q,2 ^ k-1=q:=⟨_,rfl⟩
 rw [hq] at t0 hor1 ih1 ih2
 have f0:=far (show 0<n1 by omega)
 have f1:=far (show 1<n1 by omega)
 have f2:=far (show 2<n1 by omega)
 have f3:=far (show 3<n1 by omega)
 have f4:=far (show 4<n1 by omega)
 have f6:=far (show 6<n1 by omega)
 have q2:=hM1.2.2.1
 have q3:=hM1.2.2.2.1
 have y0:¬n1=0:=by omega
 have y1:¬n1=1:=by omega
 have y2:¬n1=2:=by omega
 have y3:¬n1=3:=by omega
 have y4:¬n1=4:=by omega
 have y6:¬n1=6:=by omega
 obtain ⟨X,q4,hX⟩:=hXX
 rcases hX with ⟨rfl,hs⟩ | ⟨id2,rfl,b1,b2,b3⟩
 ·subst hs
  simp -dsimp [t0,t1,t2,t3,t4,t5,t6,t13,hm,hsn,hmu,q0,q4,q6,hkp,hkp2,z1,f0,f1,f2,f3,f4,f6,nes]
  refine twd (List.range 12) [6] ([[0]]++List.replicate 11 []) (List.replicate 6 [0]++[[]]++List.replicate 5 [0]) ?_
  simp -dsimp [List.range_succ,t0,t1,t2,t3,t4,t5,t6,t13,hm,hsn,hmu,q0,q4,q6,z1,f0,f1,f2,f3,f4,f6,nes,hsh,hor1]
  refine callS_ (ih1 _ _ ?_ ?_) ?_
  ·omega
  ·refine ⟨?_, ?_, ?_, ?_, ?_,.sv (n1+1) 0 (1), ?_,.inr ⟨n1+1, ?_, ?_, ?_, ?_⟩⟩
   ·simp [q0,f0,f1,f2,f3,f4,f6,nes,y0,y1,y2,y3,y4,y6]
   ·simp [q1,f0,f1,f2,f3,f4,f6,nes,y0,y1,y2,y3,y4,y6]
   ·simp [q2,f0,f1,f2,f3,f4,f6,nes,y0,y1,y2,y3,y4,y6]
   ·simp [q3,f0,f1,f2,f3,f4,f6,nes,y0,y1,y2,y3,y4,y6]
   ·simp [q6,f0,f1,f2,f3,f4,f6,nes,y0,y1,y2,y3,y4,y6]
   ·simp [f0,f1,f2,f3,f4,f6,nes,y0,y1,y2,y3,y4,y6]
   ·simp
   ·omega
   ·simp
   ·simp [f0,f1,f2,f3,f4,f6,nes,y0,y1,y2,y3,y4,y6,spT]
  intro x3 m3 n3 hq3
  have hn3:=hq3.1
  have hq3b:=hq3.2
  cases o1 with
  | none =>
   obtain ⟨zz,sps3,rfl,hlen3,hM3⟩:=hq3b
   simp only [List.length_append,List.length_cons,List.length_nil] at hlen3
   have p6:=hM3.2.2.2.2.1
   have hXX3:=hM3.2.2.2.2.2
   obtain ⟨X3,p4,hX3⟩:=hXX3
   rcases hX3 with ⟨rfl,hs3⟩ | ⟨id3,rfl,d1,d2,d3⟩
   ·rw [hs3] at hlen3; simp at hlen3
   simp -dsimp [t0,t1,t2,t3,t4,t5,t6,t13,hm,hsn,hmu]
   refine twd (List.range 14) [4] ([[],[0],[],[],[0]]++List.replicate 9 []) (List.replicate 13 [0]++[[]]) ?_
   have hat:0<sps3.length:=by omega
   have g3:=far d2
   have g5:¬id3=4∧¬4=id3∧¬0=id3∧¬1=id3∧¬2=id3∧¬3=id3∧¬6=id3:=by omega
   have hat1:1+1≤sps3.length * 3:=by omega
   have hat2:2+1≤sps3.length * 3:=by omega
   have hat3:2≤sps3.length * 3:=by omega
   have hat4:3≤sps3.length * 3:=by omega
   have hst1:=fun x=>spT_no sps3 0 x
   have hst2:=fun x y=>spT_yes (setNo 0 x sps3) 0 y
   simp only [Nat.zero_mul,Nat.zero_add] at hst1 hst2
   simp -dsimp [List.range_succ,t0,t1,t2,t3,t4,t5,t6,t13,hm,hsn,hmu,p4,d3,g3,g5,hat,hat1,hat2,hat3,hat4,hst1,hst2]
   have eN:oF=none:=by rw [eF]
   rw [eN]
   refine ⟨?_,_,setYes 0 0 (setNo 0 zz sps3),rfl,by first | omega | (simp <;> omega), ?_⟩
   ·first | omega | (simp <;> omega)
   refine ⟨?_, ?_, ?_, ?_, ?_,.sv id3 0 sps3.length, ?_,.inr ⟨id3,by simp,d1, ?_, ?_⟩⟩
   ·simp [hM3.1,g5]
   ·simp [hM3.2.1,g5]
   ·simp [hM3.2.2.1,g5]
   ·simp [hM3.2.2.2.1,g5]
   ·simp [p6,g5]
   ·simp [p4,g5]
   ·first | omega | (simp <;> omega)
   ·simp [hst1,hst2]
  | some ta =>
   have hta:=hsz ta rfl
   have hL1:(([]:List Sp)++[(⟨k,0,0⟩:Sp)]).length=0+1:=by simp
   have hq3c:=fpPost_some hq3 hL1
   obtain ⟨A3,TA,rfl,hA3,hTA,hL2,hM3⟩:=hq3c
   have p0:=hM3.1
   have p6:=hM3.2.2.2.2.1
   have ih3:=ih2 A3 m3 n3 (hT0 ta _ rfl hL2) (by clear y0 y1 y2 y3 y4 y6; omega) hM3
   simp -dsimp [t0,t1,t2,t3,t4,t5,t6,t13,hm,hsn,hmu]
   refine twd (List.range 15) [6] ([[0]]++List.replicate 14 []) (List.replicate 9 [0]++[[]]++List.replicate 5 [0]) ?_
   simp -dsimp [List.range_succ,t0,t1,t2,t3,t4,t5,t6,t13,hm,hsn,hmu,p6,z1,hsh,hor1,hor2]
   refine callS_ ih3 ?_
   intro x4 m4 n4 hq4
   have hn4:=hq4.1
   have hq4b:=hq4.2
   cases o2 with
   | none =>
    obtain ⟨zz,sps4,rfl,hlen4,hM4⟩:=hq4b
    have u6:=hM4.2.2.2.2.1
    have hXX4:=hM4.2.2.2.2.2
    obtain ⟨X4,u4,hX4⟩:=hXX4
    rcases hX4 with ⟨rfl,hs4⟩ | ⟨id3,rfl,d1,d2,d3⟩
    ·rw [hs4] at hlen4; simp only [List.length_nil] at hlen4; clear y0 y1 y2 y3 y4 y6; omega
    simp -dsimp [t0,t1,t2,t3,t4,t5,t6,t13,hm,hsn,hmu]
    refine twd (List.range 14) [4] ([[],[0],[],[],[0]]++List.replicate 9 []) (List.replicate 13 [0]++[[]]) ?_
    have hat:0<sps4.length:=by omega
    have g3:=far d2
    have g5:¬id3=4∧¬4=id3∧¬0=id3∧¬1=id3∧¬2=id3∧¬3=id3∧¬6=id3:=by omega
    have hat1:1+1≤sps4.length * 3:=by omega
    have hat2:2+1≤sps4.length * 3:=by omega
    have hat3:2≤sps4.length * 3:=by omega
    have hat4:3≤sps4.length * 3:=by omega
    have hst1:=fun x=>spT_no sps4 0 x
    have hst2:=fun x y=>spT_yes (setNo 0 x sps4) 0 y
    simp only [Nat.zero_mul,Nat.zero_add] at hst1 hst2
    simp -dsimp [List.range_succ,t0,t1,t2,t3,t4,t5,t6,t13,hm,hsn,hmu,u4,d3,g3,g5,hat,hat1,hat2,hat3,hat4,hst1,hst2]
    have eN:oF=none:=by rw [eF]
    rw [eN]
    refine ⟨?_,_,setYes 0 zz (setNo 0 TA sps4),rfl,by first | omega | (simp <;> omega), ?_⟩
    ·first | omega | (simp <;> omega)
    refine ⟨?_, ?_, ?_, ?_, ?_,.sv id3 0 sps4.length, ?_,.inr ⟨id3,by simp,d1, ?_, ?_⟩⟩
    ·simp [hM4.1,g5]
    ·simp [hM4.2.1,g5]
    ·simp [hM4.2.2.1,g5]
    ·simp [hM4.2.2.2.1,g5]
    ·simp [u6,g5]
    ·simp [u4,g5]
    ·first | omega | (simp <;> omega)
    ·simp [hst1,hst2]
   | some tb =>
    have hq4c:=fpPost_some hq4 hL2
    obtain ⟨sps4,TB,rfl,hs4,hTB,hl4,hM4⟩:=hq4c
    have hfin:setYes 0 TB (setNo 0 TA sps4)=([]:List Sp)++(PT.split k ta tb).row ([]:List Sp).length:=by
     rw [hs4,hA3,hTA,hTB]
     have:=set_mid [] k 0 0 (ta.to (0+1)) (tb.to (0+1+ta.size)) (ta.row (0+1)++tb.row (0+1+ta.size))
     simpa [PT.row,List.append_assoc] using this
    have u6:=hM4.2.2.2.2.1
    have hXX4:=hM4.2.2.2.2.2
    obtain ⟨X4,u4,hX4⟩:=hXX4
    rcases hX4 with ⟨rfl,hs4'⟩ | ⟨id3,rfl,d1,d2,d3⟩
    ·rw [hs4'] at hl4; simp only [List.length_nil] at hl4; clear y0 y1 y2 y3 y4 y6; omega
    simp -dsimp [t0,t1,t2,t3,t4,t5,t6,t13,hm,hsn,hmu]
    refine twd (List.range 14) [4] ([[],[0],[],[],[0]]++List.replicate 9 []) (List.replicate 13 [0]++[[]]) ?_
    have hat:0<sps4.length:=by omega
    have g3:=far d2
    have g5:¬id3=4∧¬4=id3∧¬0=id3∧¬1=id3∧¬2=id3∧¬3=id3∧¬6=id3:=by omega
    have hat1:1+1≤sps4.length * 3:=by omega
    have hat2:2+1≤sps4.length * 3:=by omega
    have hat3:2≤sps4.length * 3:=by omega
    have hat4:3≤sps4.length * 3:=by omega
    have hst1:=fun x=>spT_no sps4 0 x
    have hst2:=fun x y=>spT_yes (setNo 0 x sps4) 0 y
    simp only [Nat.zero_mul,Nat.zero_add] at hst1 hst2
    simp -dsimp [List.range_succ,t0,t1,t2,t3,t4,t5,t6,t13,hm,hsn,hmu,u4,d3,g3,g5,hat,hat1,hat2,hat3,hat4,hst1,hst2]
    have eS:oF=some (.split k ta tb):=by rw [eF]
    rw [eS]
    refine ⟨?_,rfl, ?_⟩
    ·first | omega | (simp <;> omega)
    rw [← hfin]
    refine ⟨?_, ?_, ?_, ?_, ?_,.sv id3 0 sps4.length, ?_,.inr ⟨id3,by simp,d1, ?_, ?_⟩⟩
    ·simp [hM4.1,g5]
    ·simp [hM4.2.1,g5]
    ·simp [hM4.2.2.1,g5]
    ·simp [hM4.2.2.2.1,g5]
    ·simp [u6,g5]
    ·simp [u4,g5]
    ·first | omega | (simp <;> omega)
    ·simp [hst1,hst2]
 ·have hl15:¬15≤sps.length:=by omega
  have hl15b:¬(15:Int)≤sps.length:=by omega
  have bb:(sps.length+1) * 24≤140737488355328:=by omega
  have g2:=far b2
  have g4:¬id2=4∧¬4=id2∧¬id2=6∧¬6=id2∧¬0=id2∧¬1=id2∧¬2=id2∧¬3=id2:=by omega
  have htk:=spT_take sps
  simp -dsimp [t0,t1,t2,t3,t4,t5,t6,t13,hm,hsn,hmu,q0,q4,q6,b3,bb,g2,g4,htk,hl15,hl15b,hkp,hkp2,z1,f0,f1,f2,f3,f4,f6,nes]
  refine twd (List.range 12) [6] ([[0]]++List.replicate 11 []) (List.replicate 6 [0]++[[]]++List.replicate 5 [0]) ?_
  simp -dsimp [List.range_succ,t0,t1,t2,t3,t4,t5,t6,t13,hm,hsn,hmu,q0,q4,q6,z1,f0,f1,f2,f3,f4,f6,nes,hsh,hor1,g2,g4]
  refine callS_ (ih1 _ _ ?_ ?_) ?_
  ·omega
  ·refine ⟨?_, ?_, ?_, ?_, ?_,.sv (n1+1) 0 (sps.length+1), ?_,.inr ⟨n1+1, ?_, ?_, ?_, ?_⟩⟩
   ·simp [q0,f0,f1,f2,f3,f4,f6,nes,y0,y1,y2,y3,y4,y6,g2,g4]
   ·simp [q1,f0,f1,f2,f3,f4,f6,nes,y0,y1,y2,y3,y4,y6,g2,g4]
   ·simp [q2,f0,f1,f2,f3,f4,f6,nes,y0,y1,y2,y3,y4,y6,g2,g4]
   ·simp [q3,f0,f1,f2,f3,f4,f6,nes,y0,y1,y2,y3,y4,y6,g2,g4]
   ·simp [q6,f0,f1,f2,f3,f4,f6,nes,y0,y1,y2,y3,y4,y6,g2,g4]
   ·simp [f0,f1,f2,f3,f4,f6,nes,y0,y1,y2,y3,y4,y6,g2,g4]
   ·simp
   ·omega
   ·simp
   ·simp [f0,f1,f2,f3,f4,f6,nes,y0,y1,y2,y3,y4,y6,g2,g4,spT_app,htk]; rfl
  intro x3 m3 n3 hq3
  have hn3:=hq3.1
  have hq3b:=hq3.2
  cases o1 with
  | none =>
   obtain ⟨zz,sps3,rfl,hlen3,hM3⟩:=hq3b
   simp only [List.length_append,List.length_cons,List.length_nil] at hlen3
   have p6:=hM3.2.2.2.2.1
   have hXX3:=hM3.2.2.2.2.2
   obtain ⟨X3,p4,hX3⟩:=hXX3
   rcases hX3 with ⟨rfl,hs3⟩ | ⟨id3,rfl,d1,d2,d3⟩
   ·rw [hs3] at hlen3; simp at hlen3
   simp -dsimp [t0,t1,t2,t3,t4,t5,t6,t13,hm,hsn,hmu]
   refine twd (List.range 14) [4] ([[],[0],[],[],[0]]++List.replicate 9 []) (List.replicate 13 [0]++[[]]) ?_
   have hat:sps.length<sps3.length:=by omega
   have g3:=far d2
   have g5:¬id3=4∧¬4=id3∧¬0=id3∧¬1=id3∧¬2=id3∧¬3=id3∧¬6=id3:=by omega
   have hat1:sps.length * 3+1+1≤sps3.length * 3:=by omega
   have hat2:sps.length * 3+2+1≤sps3.length * 3:=by omega
   have hat3:=hat
   have hat4:=hat
   have hst1:=fun x=>spT_no sps3 sps.length x
   have hst2:=fun x y=>spT_yes (setNo sps.length x sps3) sps.length y
   simp -dsimp [List.range_succ,t0,t1,t2,t3,t4,t5,t6,t13,hm,hsn,hmu,p4,d3,g3,g5,hat,hat1,hat2,hat3,hat4,hst1,hst2]
   have eN:oF=none:=by rw [eF]
   rw [eN]
   refine ⟨?_,_,setYes sps.length 0 (setNo sps.length zz sps3),rfl,by first | omega | (simp <;> omega), ?_⟩
   ·first | omega | (simp <;> omega)
   refine ⟨?_, ?_, ?_, ?_, ?_,.sv id3 0 sps3.length, ?_,.inr ⟨id3,by simp,d1, ?_, ?_⟩⟩
   ·simp [hM3.1,g5]
   ·simp [hM3.2.1,g5]
   ·simp [hM3.2.2.1,g5]
   ·simp [hM3.2.2.2.1,g5]
   ·simp [p6,g5]
   ·simp [p4,g5]
   ·first | omega | (simp <;> omega)
   ·simp [hst1,hst2]
  | some ta =>
   have hta:=hsz ta rfl
   have hL1:(sps++[(⟨k,0,0⟩:Sp)]).length=sps.length+1:=by simp
   have hq3c:=fpPost_some hq3 hL1
   obtain ⟨A3,TA,rfl,hA3,hTA,hL2,hM3⟩:=hq3c
   have p0:=hM3.1
   have p6:=hM3.2.2.2.2.1
   have ih3:=ih2 A3 m3 n3 (hT ta _ rfl hL2) (by clear y0 y1 y2 y3 y4 y6; omega) hM3
   simp -dsimp [t0,t1,t2,t3,t4,t5,t6,t13,hm,hsn,hmu]
   refine twd (List.range 15) [6] ([[0]]++List.replicate 14 []) (List.replicate 9 [0]++[[]]++List.replicate 5 [0]) ?_
   simp -dsimp [List.range_succ,t0,t1,t2,t3,t4,t5,t6,t13,hm,hsn,hmu,p6,z1,hsh,hor1,hor2]
   refine callS_ ih3 ?_
   intro x4 m4 n4 hq4
   have hn4:=hq4.1
   have hq4b:=hq4.2
   cases o2 with
   | none =>
    obtain ⟨zz,sps4,rfl,hlen4,hM4⟩:=hq4b
    have u6:=hM4.2.2.2.2.1
    have hXX4:=hM4.2.2.2.2.2
    obtain ⟨X4,u4,hX4⟩:=hXX4
    rcases hX4 with ⟨rfl,hs4⟩ | ⟨id3,rfl,d1,d2,d3⟩
    ·rw [hs4] at hlen4; simp only [List.length_nil] at hlen4; clear y0 y1 y2 y3 y4 y6; omega
    simp -dsimp [t0,t1,t2,t3,t4,t5,t6,t13,hm,hsn,hmu]
    refine twd (List.range 14) [4] ([[],[0],[],[],[0]]++List.replicate 9 []) (List.replicate 13 [0]++[[]]) ?_
    have hat:sps.length<sps4.length:=by omega
    have g3:=far d2
    have g5:¬id3=4∧¬4=id3∧¬0=id3∧¬1=id3∧¬2=id3∧¬3=id3∧¬6=id3:=by omega
    have hat1:sps.length * 3+1+1≤sps4.length * 3:=by omega
    have hat2:sps.length * 3+2+1≤sps4.length * 3:=by omega
    have hat3:=hat
    have hat4:=hat
    have hst1:=fun x=>spT_no sps4 sps.length x
    have hst2:=fun x y=>spT_yes (setNo sps.length x sps4) sps.length y
    simp -dsimp [List.range_succ,t0,t1,t2,t3,t4,t5,t6,t13,hm,hsn,hmu,u4,d3,g3,g5,hat,hat1,hat2,hat3,hat4,hst1,hst2]
    have eN:oF=none:=by rw [eF]
    rw [eN]
    refine ⟨?_,_,setYes sps.length zz (setNo sps.length TA sps4),rfl,by first | omega | (simp <;> omega), ?_⟩
    ·first | omega | (simp <;> omega)
    refine ⟨?_, ?_, ?_, ?_, ?_,.sv id3 0 sps4.length, ?_,.inr ⟨id3,by simp,d1, ?_, ?_⟩⟩
    ·simp [hM4.1,g5]
    ·simp [hM4.2.1,g5]
    ·simp [hM4.2.2.1,g5]
    ·simp [hM4.2.2.2.1,g5]
    ·simp [u6,g5]
    ·simp [u4,g5]
    ·first | omega | (simp <;> omega)
    ·simp [hst1,hst2]
   | some tb =>
    have hq4c:=fpPost_some hq4 hL2
    obtain ⟨sps4,TB,rfl,hs4,hTB,hl4,hM4⟩:=hq4c
    have hfin:setYes sps.length TB (setNo sps.length TA sps4)=sps++(PT.split k ta tb).row sps.length:=by
     rw [hs4,hA3,hTA,hTB]
     have:=set_mid sps k 0 0 (ta.to (sps.length+1)) (tb.to (sps.length+1+ta.size)) (ta.row (sps.length+1)++tb.row (sps.length+1+ta.size))
     simpa [PT.row,List.append_assoc] using this
    have u6:=hM4.2.2.2.2.1
    have hXX4:=hM4.2.2.2.2.2
    obtain ⟨X4,u4,hX4⟩:=hXX4
    rcases hX4 with ⟨rfl,hs4'⟩ | ⟨id3,rfl,d1,d2,d3⟩
    ·rw [hs4'] at hl4; simp only [List.length_nil] at hl4; clear y0 y1 y2 y3 y4 y6; omega
    simp -dsimp [t0,t1,t2,t3,t4,t5,t6,t13,hm,hsn,hmu]
    refine twd (List.range 14) [4] ([[],[0],[],[],[0]]++List.replicate 9 []) (List.replicate 13 [0]++[[]]) ?_
    have hat:sps.length<sps4.length:=by omega
    have g3:=far d2
    have g5:¬id3=4∧¬4=id3∧¬0=id3∧¬1=id3∧¬2=id3∧¬3=id3∧¬6=id3:=by omega
    have hat1:sps.length * 3+1+1≤sps4.length * 3:=by omega
    have hat2:sps.length * 3+2+1≤sps4.length * 3:=by omega
    have hat3:=hat
    have hat4:=hat
    have hst1:=fun x=>spT_no sps4 sps.length x
    have hst2:=fun x y=>spT_yes (setNo sps.length x sps4) sps.length y
    simp -dsimp [List.range_succ,t0,t1,t2,t3,t4,t5,t6,t13,hm,hsn,hmu,u4,d3,g3,g5,hat,hat1,hat2,hat3,hat4,hst1,hst2]
    have eS:oF=some (.split k ta tb):=by rw [eF]
    rw [eS]
    refine ⟨?_,rfl, ?_⟩
    ·first | omega | (simp <;> omega)
    rw [← hfin]
    refine ⟨?_, ?_, ?_, ?_, ?_,.sv id3 0 sps4.length, ?_,.inr ⟨id3,by simp,d1, ?_, ?_⟩⟩
    ·simp [hM4.1,g5]
    ·simp [hM4.2.1,g5]
    ·simp [hM4.2.2.1,g5]
    ·simp [hM4.2.2.2.1,g5]
    ·simp [u6,g5]
    ·simp [u4,g5]
    ·first | omega | (simp <;> omega)
    ·simp [hst1,hst2]
end TL

namespace TL
open Go Go.Proofs
attribute [local simp] marksV storyV codeV Claim.v Place.v numsV
theorem find_s (p:Nat) (l:List Claim) (t:List Mark) (h:storyOk p l=true) (ht:termOk p t=true):∀ (r k world:Nat) (sps:List Sp) (m:Mem) (n:Nat),k+r=p→world<2 ^ k→sps.length+2 ^ r≤16→8≤n→FpM m n p l t sps →
  FnS Tryz.prog 114 m n [.v (.int .i64 (kn k)),.v (.int .i64 world),.ptr 0 0,.ptr 1 0,.ptr 2 0,.ptr 4 0,.ptr 6 0] (fpPost p l t (findT p l t r world) sps n)
 | 0,k,world,sps,m,n,hk,hw,hlen,hn,hM=>by
  rcases leaf_cases p l t k world with ha | ⟨b1,i0,b2,b3,b4,b5⟩ | ⟨c1,c2,c3⟩
  ·exact find_A p l t h ht 0 k world sps m n hk hn hM ha
  ·exact find_B p l t h ht 0 k world sps m n hk hn hM i0 b1 b2 b3 b4 b5
  ·exact find_C0 p l t h ht k world sps m n (by omega) hn hM c1 c2 c3
 | r+1,k,world,sps,m,n,hk,hw,hlen,hn,hM=>by
  rcases leaf_cases p l t k world with ha | ⟨b1,i0,b2,b3,b4,b5⟩ | ⟨c1,c2,c3⟩
  ·exact find_A p l t h ht (r+1) k world sps m n hk hn hM ha
  ·exact find_B p l t h ht (r+1) k world sps m n hk hn hM i0 b1 b2 b3 b4 b5
  ·exact find_C1 p l t h ht r k world sps m n hk hn hM c1 c2 c3 hw hlen fun world sps m n a b c d=>find_s p l t h ht r (k+1) world sps m n (by omega) a b c d
def spsV (l:List Sp):V:=.sl (l.map Sp.v)
theorem spT_bor (m:Mem) (d:Nat) (l:List Sp):mapO (bor true m d) (spT l)=some (l.flatMap fun s=>[V.int .i64 s.who,V.int .i64 s.no,V.int .i64 s.yes]):=by
 have e:spT l=(l.flatMap fun s=>[V.int .i64 s.who,V.int .i64 s.no,V.int .i64 s.yes]).map T.v:=by simp [spT,List.map_flatMap]
 rw [e]
 induction (l.flatMap fun s=>[V.int .i64 s.who,V.int .i64 s.no,V.int .i64 s.yes]) with
 | nil=>rfl
 | cons x xs ih =>
  show (bor true m d (.v x)).bind _=_
  rw [show bor true m d (.v x)=some x by cases d <;> rfl]
  show (mapO (bor true m d) (xs.map T.v)).map _=_
  rw [ih]; rfl
theorem spV_chunk (l:List Sp):chunk 3 l.length (l.flatMap fun s=>[V.int .i64 s.who,V.int .i64 s.no,V.int .i64 s.yes])=l.map Sp.v:=by
 induction l with
 | nil=>rfl
 | cons s l ih=>simp [chunk,Sp.v]; exact ih
theorem spV_cell (l:List Sp):∀ x ∈ (l.flatMap fun s=>[V.int .i64 s.who,V.int .i64 s.no,V.int .i64 s.yes]),x.cell=true:=fun x hx=>by
 obtain ⟨s,_,hs⟩:=List.mem_flatMap.1 hx
 simp at hs
 rcases hs with rfl | rfl | rfl <;> rfl
theorem sp_bor {m:Mem} {i:Nat} {e:TypeId} {l:List Sp} {p:Nat} (h:m i=some (.box e 3 (spT l))) (hp:l.length=p) (d:Nat):bor true m (d+1) (.sv i 0 p)=some (spsV l):=by
 subst hp
 show (match m i with | some (.box _ z cs)=>tst (0+l.length * z≤cs.length) (obind (mapO (TL.bor true m d) ((cs.drop 0).take (l.length * z))) fun xs=>tst (∀ x ∈ xs,x.cell=true) (some (V.sl (chunk z l.length xs)))) | _=>none)=_
 rw [h]
 show tst (0+l.length * 3≤(spT l).length) (obind (mapO (TL.bor true m d) (((spT l).drop 0).take (l.length * 3))) fun xs=>tst (∀ x ∈ xs,x.cell=true) (some (V.sl (chunk 3 l.length xs))))=_
 rw [tst_pos (by simp),List.drop_zero,spT_take,spT_bor,obind_some,tst_pos (spV_cell l),spV_chunk]; rfl
def proofV (o:Option PT):V:=match o with
 | some y=>.agg [.int .i64 (y.to 0),spsV (y.row 0)]
 | none=>.agg [.int .i64 0,.sl []]
theorem findProof_fn (p:Nat) (l:List Claim) (t:List Mark) (h:storyOk p l=true) (ht:termOk p t=true):FnZ Tryz.prog 63 [.int .i64 p,storyV l,marksV t] (.tup [proofV (findT p l t p 0),.bool (findT p l t p 0).isSome]):=by
 obtain ⟨h1,h4,hc,h6⟩:=allOk_of h
 have hok:=storyOk_fn p l (by omega)
 rw [h] at hok
 have hto:=termOk_fn p t
 rw [ht] at hto
 have hN:=pow_small (p:=p) (by omega)
 have hcl:=fun m=>find_s p l t h ht p 0 0 [] m 8 (by omega) (by simp) (by simp; omega) (by omega)
 obtain ⟨o,ho⟩:∃ o,findT p l t p 0=o:=⟨_,rfl⟩
 rw [ho] at hcl ⊢
 have ek:kn 0=0:=rfl
 rw [ek] at hcl
 simp only [Int.natCast_zero] at hcl
 refine FZ (rs:=[.cell 6 102,.tmp 7]) true Tryz.func63 ?_
 simp -dsimp
 refine cl hok ?_
 simp -dsimp
 refine cl hto ?_
 simp -dsimp
 refine callS_ (hcl _ ?_) ?_
 ·exact ⟨by simp,by simp,by simp,by simp,by simp,.nil,by simp,.inl ⟨rfl,rfl⟩⟩
 intro x3 m3 n3 hq3
 cases o with
 | none =>
  have hq3b:=hq3.2
  obtain ⟨zz,sps3,rfl,hlen3,hM3⟩:=hq3b
  have p3:=hM3.2.2.2.1
  simp -dsimp [p3,proofV]
 | some y =>
  have hq3c:=fpPost_some hq3 rfl
  obtain ⟨A3,TA,rfl,hA3,hTA,hL,hM3⟩:=hq3c
  have p3:=hM3.2.2.2.1
  have hXX3:=hM3.2.2.2.2.2
  have e1:A3=y.row 0:=by rw [hA3]; rfl
  have e2:TA=y.to 0:=hTA
  have ev:proofV (some y)=.agg [.int .i64 TA,spsV A3]:=by rw [e1,e2]; rfl
  obtain ⟨X3,p4,hX3⟩:=hXX3
  rcases hX3 with ⟨rfl,hs3⟩ | ⟨id3,rfl,d1,d2,d3⟩
  ·rw [hs3] at ev
   simp -dsimp [p3,p4,ev,spsV]
  ·have g:¬id3=4∧¬id3=3∧¬4=id3∧¬3=id3:=by omega
   have hbr:∀ (m:Mem) (d:Nat),m id3=m3 id3→bor true m (d+1) (.sv id3 0 A3.length)=some (spsV A3):=fun m d hm=>sp_bor (by rw [hm,d3]) rfl d
   have hb3:=hbr (updM (updM m3 4 (some (.box 102 2 [.v (.int .i64 TA),.sv id3 0 A3.length]))) 3 (some (.box 102 2 [.v (.int .i64 TA),.sv id3 0 A3.length]))) 2 (by simp [g])
   simp -dsimp [p3,p4,ev,g,hb3,spsV]
end TL

namespace TL
open Go Go.Proofs
attribute [local simp] marksV storyV codeV Claim.v Place.v numsV
theorem tx_len {p:Nat} {l:List Claim} {t:List Mark} (hl:l.length≤100):∀ (y:PT) (k world:Nat),okT p l t y k world→y.tx.length≤6 * y.size+2
 | .goal,_,_,_=>by simp [PT.tx]
 | .claim i,_,_,h=>by
  have:=dec_len (n:=(i:Int)) (by omega) (by have:=h.1; omega)
  simp only [PT.tx,PT.size]; omega
 | .split who a b,k,world,h=>by
  have h1:=tx_len hl a _ _ h.2.2.1
  have h2:=tx_len hl b _ _ h.2.2.2
  simp only [PT.tx,PT.size,List.length_cons,List.length_append,List.length_nil]; omega
theorem caseText_fn (p:Nat) (l:List Claim) (t:List Mark) (hp:p≤4) (hl:l.length≤6):∀ (y:PT) (k world:Nat) (pre post:List Sp) (F:Int) (R:List Sp),okT p l t y k world→y.size≤15→pre.length+y.size≤1000→R=pre++y.row pre.length++post →
  FnZ Tryz.prog 117 [.agg [.int .i64 F,spsV R],.int .i64 (y.to pre.length)] (.str y.tx)
 | .goal,k,world,pre,post,F,R,h,hs,hpr,hR=>by
  have e1:PT.goal.to pre.length = -1:=rfl
  have e2:PT.goal.tx=[42]:=rfl
  rw [e1,e2]
  refine FZ (rs:=[.tmp 4]) false Tryz.func117 ?_
  simp -dsimp [spsV]
 | .claim i,k,world,pre,post,F,R,h,hs,hpr,hR=>by
  have hi:=h.1
  have e1:(PT.claim i).to pre.length = -2-(i:Int):=rfl
  have e2:(PT.claim i).tx=dec i:=rfl
  have hit:=itoa_fn (i:Int) (by omega) (by omega)
  have c1:¬(-2-(i:Int) = -1):=by omega
  have c2 : -2-(i:Int)<0:=by omega
  have w1:IntKind.wrap .i64 (-2-(-2-(i:Int)))=(i:Int):=by rw [w64 (by omega) (by omega)]; omega
  rw [e1,e2]
  generalize dec (i:Int)=D at *
  generalize hX : -2-(i:Int)=X at *
  refine FZ (rs:=[.tmp 4]) false Tryz.func117 ?_
  simp -dsimp [spsV,c1,c2,w1]
  refine cl hit ?_
  simp -dsimp
 | .split who a b,k,world,pre,post,F,R,h,hs,hpr,hR=>by
  obtain ⟨hk,hkp,ha,hb⟩:=h
  have la:=tx_len (by omega) a _ _ ha
  have lb:=tx_len (by omega) b _ _ hb
  simp only [PT.size] at hs hpr
  subst hk
  have ia:=caseText_fn p l t hp hl a (who+1) world (pre++[⟨who,a.to (pre.length+1),b.to (pre.length+1+a.size)⟩]) (b.row (pre.length+1+a.size)++post) F R ha (by omega) (by simp only [List.length_append,List.length_cons,List.length_nil]; omega) (by rw [hR]; simp [PT.row,List.append_assoc])
  have ib:=caseText_fn p l t hp hl b (who+1) (world+2 ^ who) (pre++[⟨who,a.to (pre.length+1),b.to (pre.length+1+a.size)⟩]++a.row (pre.length+1)) post F R hb (by omega) (by simp only [List.length_append,List.length_cons,List.length_nil,PT.row_len]; omega) (by rw [hR]; simp [PT.row,PT.row_len,List.append_assoc]; congr 1; omega)
  have e3:(pre++[(⟨who,a.to (pre.length+1),b.to (pre.length+1+a.size)⟩:Sp)]).length=pre.length+1:=by simp
  have e4:(pre++[(⟨who,a.to (pre.length+1),b.to (pre.length+1+a.size)⟩:Sp)]++a.row (pre.length+1)).length=pre.length+1+a.size:=by simp [PT.row_len]; omega
  rw [e3] at ia
  rw [e4] at ib
  have hget:(R.map Sp.v)[pre.length]? = some (Sp.v ⟨who,a.to (pre.length+1),b.to (pre.length+1+a.size)⟩):=by
   rw [hR]; simp [PT.row,Sp.v]
  have e5:(PT.split who a b).to pre.length=(pre.length:Int):=rfl
  have e6:(PT.split who a b).tx=UInt8.ofNat (97+who) :: 40 :: (a.tx++44 :: (b.tx++[41])):=rfl
  rw [e5,e6]
  obtain ⟨TA,hTA⟩:∃ TA,a.to (pre.length+1)=TA:=⟨_,rfl⟩
  obtain ⟨TB,hTB⟩:∃ TB,b.to (pre.length+1+a.size)=TB:=⟨_,rfl⟩
  rw [hTA] at ia hget
  rw [hTB] at ib hget
  obtain ⟨xa,hxa⟩:∃ xa,a.tx=xa:=⟨_,rfl⟩
  obtain ⟨xb,hxb⟩:∃ xb,b.tx=xb:=⟨_,rfl⟩
  rw [hxa] at ia la ⊢
  rw [hxb] at ib lb ⊢
  obtain ⟨rowV,hrow⟩:∃ rowV,R.map Sp.v=rowV:=⟨_,rfl⟩
  have es:spsV R=.sl rowV:=by rw [← hrow]; rfl
  rw [hrow] at hget
  rw [es] at ia ib ⊢
  have hcell:(Sp.v ⟨who,TA,TB⟩).cells=[.int .i64 who,.int .i64 TA,.int .i64 TB]:=rfl
  obtain ⟨N,hN⟩:∃ N,pre.length=N:=⟨_,rfl⟩
  rw [hN] at hget ⊢
  have z1:¬(N:Int) = -1:=by omega
  have z2:¬(N:Int)<0:=by omega
  have w0:IntKind.wrap .i64 (97+(who:Int))=97+(who:Int):=w64 (by omega) (by omega)
  have w2:IntKind.wrap .u8 (97+(who:Int))=97+(who:Int):=by rw [IntKind.wrap_u8]; omega
  have w3:(97+(who:Int)).toNat=97+who:=by omega
  have b1:(1+1+xa.length:Int)≤9223372036854775807:=by omega
  have b5:(2+xa.length:Int)≤9223372036854775807:=by omega
  have b6:(2+(xa.length+1):Int)≤9223372036854775807:=by omega
  have b7:(2+(xa.length+1+xb.length):Int)≤9223372036854775807:=by omega
  have b8:(2+(xa.length+(1+xb.length)):Int)≤9223372036854775807:=by omega
  have b9:(2+(xa.length+(xb.length+1)):Int)≤9223372036854775807:=by omega
  have b10:(2+(xa.length+(xb.length+1))+1:Int)≤9223372036854775807:=by omega
  have b11:(2+(xa.length+(xb.length+1+1)):Int)≤9223372036854775807:=by omega
  have b12:(2+xa.length+1:Int)≤9223372036854775807:=by omega
  have b13:(2+(xa.length+1)+xb.length:Int)≤9223372036854775807:=by omega
  have b14:(2+(xa.length+(xb.length+2)):Int)≤9223372036854775807:=by omega
  have b2:(1+1+xa.length+1:Int)≤9223372036854775807:=by omega
  have b3:(1+1+xa.length+1+xb.length:Int)≤9223372036854775807:=by omega
  have b4:(1+1+xa.length+1+xb.length+1:Int)≤9223372036854775807:=by omega
  have d0:((xa.length+1+1+1:Nat):Int)≤9223372036854775807:=by omega
  have d1:((xa.length+1+1+1+xb.length:Nat):Int)≤9223372036854775807:=by omega
  have d2:((xa.length+(xb.length+1)+1+1:Nat):Int)≤9223372036854775807:=by omega
  have d3:((xa.length+(xb.length+1)+1+1+1:Nat):Int)≤9223372036854775807:=by omega
  have d4:((xa.length+(xb.length+1+1)+1+1:Nat):Int)≤9223372036854775807:=by omega
  have d5:((xa.length+1+1+1+xb.length+1:Nat):Int)≤9223372036854775807:=by omega
  have d6:((xa.length+1+1:Nat):Int)≤9223372036854775807:=by omega
  have d7:((xa.length+(1+xb.length)+1+1:Nat):Int)≤9223372036854775807:=by omega
  have d8:((xa.length+(xb.length+(1+1))+1+1:Nat):Int)≤9223372036854775807:=by omega
  simp only [Int.natCast_add,Int.natCast_one] at d0 d1 d2 d3 d4 d5 d6 d7 d8
  clear hTA hTB hxa hxb hrow hR e3 e4 e5 e6 es
  refine FZ (rs:=[.tmp 4]) false Tryz.func117 ?_
  simp -dsimp [z1,z2,hget,hcell]
  refine twd [0,1,2,3,1004,5,6,7,8,9,13,14,15,10,11,12,16,17,18,19] [0,1] (List.replicate 20 [0,1]) (List.replicate 20 [0,1]) ?_
  simp -dsimp [z1,z2,hget,hcell,w0,w2]
  refine bld_ [(0,.int .u8 (97+(who:Int)))] 5 [.int .u8 (97+(who:Int))] (by simp -dsimp) (by simp -dsimp) ?_
  simp -dsimp [z1,z2,hget,hcell,w0,w2,w3]
  refine cl ia ?_
  simp -dsimp [b1,b2,b3,b4,b5,b6,b7,b8,b9,b10,b11,b12,b13,b14,d0,d1,d2,d3,d4,d5,d6,d7,d8]
  refine cl ib ?_
  simp -dsimp [b1,b2,b3,b4,b5,b6,b7,b8,b9,b10,b11,b12,b13,b14,d0,d1,d2,d3,d4,d5,d6,d7,d8]
end TL

namespace TL
open Go Go.Proofs
attribute [local simp] marksV storyV codeV Claim.v Place.v numsV
def truesV (n:Nat):V:=.sl (List.replicate n (.bool true))
def Iix (n:Nat) (e:Nat) (s:S):Prop:=∃ i:Nat,s.tm 0=.v (truesV n)∧s.tm 1=.v (.bool false)∧s.tm 7=.v (.int .i64 n)∧s.tm 8=.v (.int .i64 i)∧i≤n∧(e=1→i=n)
theorem index_fn (n:Nat) (hn:n≤1000):FnZ Tryz.prog 199 [truesV n,.bool false] (.int .i64 (-1)):=by
 refine FZ (rs:=[.tmp 4]) false Tryz.func199 ?_
 simp -dsimp [truesV]
 refine twp_loopC (Iix n 0) (fun s=>n-natOf (s.tm 8)) (Iix n 1) ?_ ?_ ?_
 ·exact ⟨0,by simp -dsimp [truesV],by simp -dsimp,by simp -dsimp,by simp -dsimp,by omega,by simp⟩
 ·rintro s ⟨i,t0,t1,t7,t8,hi,hend⟩
  by_cases hlt:i<n
  case neg =>
   simp -dsimp [t7,t8,hlt]
   exact ⟨i,by simp -dsimp [t0],by simp -dsimp [t1],by simp -dsimp [t7],by simp -dsimp [t8],hi,fun _=>by omega⟩
  have wi:IntKind.wrap .i64 ((i:Int)+1)=((i+1:Nat):Int):=by rw [w64 (by omega) (by omega)]; omega
  have hmu1:n-(i+1)<n-i:=by omega
  simp -dsimp [t0,t1,t7,t8,hlt,truesV,wi,hmu1]
  exact ⟨i+1,by simp -dsimp [t0,truesV],by simp -dsimp [t1],by simp -dsimp [t7],by simp -dsimp,by omega,by simp⟩
 ·rintro s ⟨i,t0,t1,t7,t8,hi,hend⟩
  simp -dsimp
theorem contains_fn (n:Nat) (hn:n≤1000):FnZ Tryz.prog 168 [truesV n,.bool false] (.bool false):=by
 have hi:=index_fn n hn
 refine FZ (rs:=[.tmp 4]) false Tryz.func168 ?_
 simp -dsimp
 refine cl hi ?_
 simp -dsimp
/-- The cells of a row of truths. -/
def bsT (bs:List Bool):List T:=bs.map fun b=>T.v (.bool b)
@[simp] theorem bsT_len (bs:List Bool):(bsT bs).length=bs.length:=by simp [bsT]
theorem bsT_set (bs:List Bool) (i:Nat) (b:Bool):(bsT bs).set i (.v (.bool b))=bsT (bs.set i b):=by simp [bsT,List.map_set]
theorem bsT_get (bs:List Bool) (i:Nat):(bsT bs)[i]? = (bs[i]?).map fun b=>T.v (.bool b):=by simp [bsT]
theorem trues_bor {m:Mem} {i:Nat} {e:TypeId} {n:Nat} (h:m i=some (.box e 1 (bsT (List.replicate n true)))) (d:Nat):bor true m (d+1) (.sv i 0 n)=some (truesV n):=by
 have e1:∀ (d:Nat) (k:Nat),mapO (bor true m d) (bsT (List.replicate k true))=some (List.replicate k (V.bool true)):=fun d k=>by
  induction k with
  | zero=>rfl
  | succ k ih =>
   rw [List.replicate_succ]
   show (bor true m d (.v (.bool true))).bind _=_
   rw [show bor true m d (.v (.bool true))=some (.bool true) by cases d <;> rfl]
   show (mapO (bor true m d) (bsT (List.replicate k true))).map _=_
   rw [ih]; rfl
 have e2:∀ k:Nat,chunk 1 k (List.replicate k (V.bool true))=List.replicate k (V.bool true):=fun k=>by
  induction k with
  | zero=>rfl
  | succ k ih=>simp [chunk,List.replicate_succ]; exact ih
 show (match m i with | some (.box _ z cs)=>tst (0+n * z≤cs.length) (obind (mapO (TL.bor true m d) ((cs.drop 0).take (n * z))) fun xs=>tst (∀ x ∈ xs,x.cell=true) (some (V.sl (chunk z n xs)))) | _=>none)=_
 rw [h]
 show tst (0+n * 1≤(bsT (List.replicate n true)).length) (obind (mapO (TL.bor true m d) (((bsT (List.replicate n true)).drop 0).take (n * 1))) fun xs=>tst (∀ x ∈ xs,x.cell=true) (some (V.sl (chunk 1 n xs))))=_
 rw [tst_pos (by simp),List.drop_zero,List.take_of_length_le (by simp),e1,obind_some,tst_pos (fun x hx=>by rw [List.eq_of_mem_replicate hx]; rfl),e2]; rfl
end TL

namespace TL
open Go Go.Proofs
attribute [local simp] marksV storyV codeV Claim.v Place.v numsV
/-- The first so many were come to. -/
def bsAt (len a:Nat):List Bool:=List.replicate a true++List.replicate (len-a) false
theorem bsAt_len {len a:Nat} (h:a≤len):(bsAt len a).length=len:=by simp [bsAt]; omega
theorem bsAt_get {len a:Nat} (h:a<len):(bsAt len a)[a]? = some false:=by
 unfold bsAt
 rw [List.getElem?_append_right (by simp),List.length_replicate,Nat.sub_self,List.getElem?_replicate,if_pos (by omega)]
theorem bsAt_set {len a:Nat} (h:a<len):(bsAt len a).set a true=bsAt len (a+1):=by
 unfold bsAt
 rw [List.set_append_right _ _ (by simp),List.length_replicate,Nat.sub_self,show len-a=(len-(a+1))+1 by omega,List.replicate_succ,List.set_cons_zero,List.replicate_succ']
 simp
def CkM (m:Mem) (p:Nat) (l:List Claim) (t:List Mark) (F:Int) (R:List Sp) (bs:List Bool):Prop :=
 m 0=some (.box 3 1 [.v (.int .i64 p)])∧m 1=some (.box 23 1 [.v (storyV l)])∧m 2=some (.box 61 1 [.v (marksV t)])∧m 3=some (.box 102 2 [.v (.int .i64 F),.v (spsV R)]) ∧
 m 4=some (.box 4 1 (bsT bs))∧m 5=some (.box 173 1 [.sv 4 0 R.length])∧m 7=some (.box 174 1 [.fn 167 [.ptr 0 0,.ptr 1 0,.ptr 2 0,.ptr 3 0,.ptr 5 0,.ptr 7 0]])
theorem CkM.keep {m m':Mem} {n p:Nat} {l:List Claim} {t:List Mark} {F:Int} {R:List Sp} {bs:List Bool} (h:CkM m p l t F R bs) (hn:9≤n) (h2:∀ j,j<n→m' j=m j):CkM m' p l t F R bs:=by
 obtain ⟨a0,a1,a2,a3,a4,a5,a7⟩:=h
 exact ⟨by rw [h2 0 (by omega),a0],by rw [h2 1 (by omega),a1],by rw [h2 2 (by omega),a2],by rw [h2 3 (by omega),a3],by rw [h2 4 (by omega),a4],by rw [h2 5 (by omega),a5],by rw [h2 7 (by omega),a7]⟩
def ckPost (p:Nat) (l:List Claim) (t:List Mark) (F:Int) (R:List Sp) (a:Nat) (m:Mem) (n:Nat) (x:T) (m':Mem) (n':Nat):Prop:=x=.v (.bool true)∧n≤n'∧CkM m' p l t F R (bsAt R.length a)∧∀ j,9≤j→j<n→m' j=m j
theorem check_split (p:Nat) (l:List Claim) (t:List Mark) (h:storyOk p l=true) (F:Int) (R:List Sp) (hR15:R.length≤1000) (who:Nat) (a b:PT) (world:Nat) (pre post:List Sp) (fr:Int) (m:Mem) (n:Nat) (hkp:who<p) (hw:world<2 ^ who) (hR:R=pre++(PT.split who a b).row pre.length++post) (hfr:fr<pre.length) (hn:9≤n) (hM:CkM m p l t F R (bsAt R.length pre.length))
  (ia:∀ (m:Mem) (n:Nat),9≤n→CkM m p l t F R (bsAt R.length (pre.length+1))→FnS Tryz.prog 167 m n [.v (.int .i64 (a.to (pre.length+1))),.v (.int .i64 (pre.length:Nat)),.v (.int .i64 (kn (who+1))),.v (.int .i64 (world:Nat)),.ptr 0 0,.ptr 1 0,.ptr 2 0,.ptr 3 0,.ptr 5 0,.ptr 7 0] (ckPost p l t F R (pre.length+1+a.size) m n))
  (ib:∀ (m:Mem) (n:Nat),9≤n→CkM m p l t F R (bsAt R.length (pre.length+1+a.size))→FnS Tryz.prog 167 m n [.v (.int .i64 (b.to (pre.length+1+a.size))),.v (.int .i64 (pre.length:Nat)),.v (.int .i64 (kn (who+1))),.v (.int .i64 (world+2 ^ who:Nat)),.ptr 0 0,.ptr 1 0,.ptr 2 0,.ptr 3 0,.ptr 5 0,.ptr 7 0] (ckPost p l t F R (pre.length+1+a.size+b.size) m n)) :
  FnS Tryz.prog 167 m n [.v (.int .i64 ((PT.split who a b).to pre.length)),.v (.int .i64 fr),.v (.int .i64 (kn who)),.v (.int .i64 (world:Nat)),.ptr 0 0,.ptr 1 0,.ptr 2 0,.ptr 3 0,.ptr 5 0,.ptr 7 0] (ckPost p l t F R (pre.length+(PT.split who a b).size) m n):=by
 have h4:p≤4:=by have:=(allOk_of h).2.1; omega
 have hpk:=pow_small (p:=who) (by omega)
 have hlen:R.length=pre.length+(1+a.size+b.size)+post.length:=by rw [hR]; simp [PT.row_len,PT.size]; omega
 have e3:(pre++[(⟨who,a.to (pre.length+1),b.to (pre.length+1+a.size)⟩:Sp)]).length=pre.length+1:=by simp
 have e4:(pre++[(⟨who,a.to (pre.length+1),b.to (pre.length+1+a.size)⟩:Sp)]++a.row (pre.length+1)).length=pre.length+1+a.size:=by rw [List.length_append,e3,PT.row_len]
 have hget:(R.map Sp.v)[pre.length]? = some (Sp.v ⟨who,a.to (pre.length+1),b.to (pre.length+1+a.size)⟩):=by
  rw [hR]; simp [PT.row,Sp.v]
 have hget3:R[pre.length]? = some ⟨who,a.to (pre.length+1),b.to (pre.length+1+a.size)⟩:=by
  rw [hR]; simp [PT.row]
 have e5:(PT.split who a b).to pre.length=(pre.length:Int):=rfl
 have e6:pre.length+(PT.split who a b).size=pre.length+1+a.size+b.size:=by simp only [PT.size]; omega
 rw [e5,e6]
 obtain ⟨TA,hTA⟩:∃ TA,a.to (pre.length+1)=TA:=⟨_,rfl⟩
 obtain ⟨TB,hTB⟩:∃ TB,b.to (pre.length+1+a.size)=TB:=⟨_,rfl⟩
 rw [hTA] at ia hget hget3
 rw [hTB] at ib hget hget3
 have hcell:(Sp.v ⟨who,TA,TB⟩).cells=[.int .i64 who,.int .i64 TA,.int .i64 TB]:=rfl
 obtain ⟨N,hN⟩:∃ N,pre.length=N:=⟨_,rfl⟩
 rw [hN] at hget hget3 hlen ia ib hM hfr ⊢
 have hNR:N<R.length:=by omega
 have hset:=bsT_set (bsAt R.length N) N true
 rw [bsAt_set hNR] at hset
 have hgb:(bsT (bsAt R.length N))[N]? = some (.v (.bool false)):=by rw [bsT_get,bsAt_get hNR]; rfl
 have hRN:∀ hh:N<R.length,R[N]'hh=⟨who,TA,TB⟩:=fun hh=>by
  have:=List.getElem?_eq_getElem hh
  rw [hget3] at this; exact (Option.some.inj this).symm
 have hgb2:∀ hh:N<(bsT (bsAt R.length N)).length,(bsT (bsAt R.length N))[N]'hh=.v (.bool false):=fun hh=>by
  have:=List.getElem?_eq_getElem hh
  rw [hgb] at this; exact (Option.some.inj this).symm
 have hbl:(bsT (bsAt R.length N)).length=R.length:=by rw [bsT_len,bsAt_len (by omega)]
 have hor1:=or_ni (a:=2 ^ who-1) (b:=2 ^ who) (x:=(2:Int) ^ who) (by simp) (by omega) (by omega)
 have hor2:=or_ni (a:=world) (b:=2 ^ who) (x:=(2:Int) ^ who) (by simp) (by omega) (by omega)
 rw [or_pow hw] at hor2
 have ekn:kn (who+1)=(((2 ^ who-1) ||| 2 ^ who:Nat):Int):=by rw [kn_succ]; rfl
 rw [ekn] at ia ib
 obtain ⟨W2,hW2⟩:∃ W2,world+2 ^ who=W2:=⟨_,rfl⟩
 rw [hW2] at ib hor2
 have hkb:=kn_bit who who (by omega) (by omega)
 rw [if_neg (by omega)] at hkb
 have hsh:=shl_fact (w:=who) (by omega)
 have ek:kn who=(((2 ^ who-1:Nat)):Int):=rfl
 rw [ek] at hkb ⊢
 obtain ⟨q,hq⟩:∃ q,2 ^ who-1=q:=⟨_,rfl⟩
 rw [hq] at hor1 ia ib hkb ⊢
 have z1:¬(N:Int)<0:=by omega
 have z2:¬(N:Int)≤fr:=by omega
 have z3:¬(R.length:Int)≤N:=by omega
 have z4:¬R.length≤N:=by omega
 have z5:¬(who:Int)<0:=by omega
 have z6:¬(p:Int)≤who:=by omega
 have z7:¬p≤who:=by omega
 have m0:=hM.1
 have m1:=hM.2.1
 have m2:=hM.2.2.1
 have m3:=hM.2.2.2.1
 have m4:=hM.2.2.2.2.1
 have m5:=hM.2.2.2.2.2.1
 have m7:=hM.2.2.2.2.2.2
 have hNR2:N+1≤R.length:=by omega
 have y0:¬n=0:=by omega
 have y3:¬n=3:=by omega
 have y4:¬n=4:=by omega
 have y5:¬n=5:=by omega
 have y7:¬n=7:=by omega
 have f0:=far (show 0<n by omega)
 have f3:=far (show 3<n by omega)
 have f4:=far (show 4<n by omega)
 have f5:=far (show 5<n by omega)
 have f7:=far (show 7<n by omega)
 refine FS (rs:=[.tmp 14]) false Tryz.func167 ?_
 simp -dsimp [m0,m1,m2,m3,m4,m5,m7,z1,z2,z3,z4,z5,z6,z7,hget,hRN,hcell,hgb,hgb2,hbl,hset,hNR,hNR2,hkb,spsV,f0,f3,f4,f5,f7,y0,y3,y4,y5,y7,hsh,hor1,nes]
 refine twd (List.range 21) [7,n+1] ([[0],[],[1],[],[],[],[],[],[0],[],[1],[],[],[],[],[1]]++List.replicate 5 []) (List.replicate 6 [0,1]++[[]]++List.replicate 14 [0,1]) ?_
 simp -dsimp [List.range_succ,m7,z5,f0,f3,f4,f5,f7,y0,y3,y4,y5,y7,nes,hor1]
 refine callS_ (ia _ _ ?_ ?_) ?_
 ·omega
 ·exact ⟨by simp [m0,f0,y0],by simp [m1,y0,show ¬1=n by omega,show ¬n=1 by omega,far (show 1<n by omega)],by simp [m2,far (show 2<n by omega)],by simp [m3,f3],by simp [f4],by simp [m5,f5],by simp [m7,f7]⟩
 rintro x3 m3 n3 ⟨rfl,hn3,hM3,hout3⟩
 have sb:=hout3 (n+1) (by omega) (by omega)
 have p7:=hM3.2.2.2.2.2.2
 simp -dsimp [nes] at sb
 simp -dsimp [List.range_succ,keepP,p7,sb,z5,f0,f3,f4,f5,f7,y0,y3,y4,y5,y7,nes,hor1,hor2,hsh]
 refine callS_ (ib _ _ ?_ ?_) ?_
 ·omega
 ·exact hM3
 rintro x4 m4 n4 ⟨rfl,hn4,hM4,hout4⟩
 have sb4:=hout4 (n+1) (by omega) (by omega)
 have p74:=hM4.2.2.2.2.2.2
 simp -dsimp [keepP,p7,p74,sb4]
 exact ⟨rfl,by omega,hM4,fun j h9 hj=>by rw [hout4 j h9 (by omega),hout3 j h9 (by omega)]; simp [far hj,show ¬j=4 by omega,show ¬j=n by omega,show ¬j=n+1 by omega]⟩
theorem check_s (p:Nat) (l:List Claim) (t:List Mark) (h:storyOk p l=true) (ht:termOk p t=true) (F:Int) (R:List Sp) (hR15:R.length≤1000):∀ (y:PT) (k world:Nat) (pre post:List Sp) (fr:Int) (m:Mem) (n:Nat),okT p l t y k world→k≤p→world<2 ^ k→R=pre++y.row pre.length++post→fr<pre.length→9≤n→CkM m p l t F R (bsAt R.length pre.length) →
  FnS Tryz.prog 167 m n [.v (.int .i64 (y.to pre.length)),.v (.int .i64 fr),.v (.int .i64 (kn k)),.v (.int .i64 world),.ptr 0 0,.ptr 1 0,.ptr 2 0,.ptr 3 0,.ptr 5 0,.ptr 7 0] (ckPost p l t F R (pre.length+y.size) m n)
 | .goal,k,world,pre,post,fr,m,n,hy,hk,hw,hR,hfr,hn,hM=>by
  have hcl:=closedBy_s p l t h ht k world (by have:=(allOk_of h).2.1; omega) m n
  have e1:PT.goal.to pre.length = -1:=rfl
  have e2:pre.length+PT.goal.size=pre.length:=rfl
  have hg:closG p t k world=true:=hy
  rw [e1,e2]
  have m0:=hM.1
  have m1:=hM.2.1
  have m2:=hM.2.2.1
  refine FS (rs:=[.tmp 14]) false Tryz.func167 ?_
  simp -dsimp [m0,m1,m2]
  refine callS_ hcl ?_
  rintro x m1 n1 ⟨id,es,rfl,hid,hid2,hmid,hok,hout⟩
  have hgo:=hok.1
  rw [hg] at hgo
  simp -dsimp [hmid,hgo]
  exact ⟨rfl,by omega,hM.keep hn hout,fun j _ hj=>hout j hj⟩
 | .claim i,k,world,pre,post,fr,m,n,hy,hk,hw,hR,hfr,hn,hM=>by
  have hcl:=closedBy_s p l t h ht k world (by have:=(allOk_of h).2.1; omega) m n
  have hi:=hy.1
  have h6:=(allOk_of h).2.2.2
  have e1:(PT.claim i).to pre.length = -2-(i:Int):=rfl
  have e2:pre.length+(PT.claim i).size=pre.length:=rfl
  have c2 : -2-(i:Int)<0:=by omega
  rw [e1,e2]
  have m0:=hM.1
  have m1:=hM.2.1
  have m2:=hM.2.2.1
  refine FS (rs:=[.tmp 14]) false Tryz.func167 ?_
  simp -dsimp [m0,m1,m2,c2]
  refine callS_ hcl ?_
  rintro x m1 n1 ⟨id,es,rfl,hid,hid2,hmid,hok,hout⟩
  have hgo:=hok.2 i hi
  rw [hy.2] at hgo
  simp -dsimp [hmid,hgo]
  exact ⟨rfl,by omega,hM.keep hn hout,fun j _ hj=>hout j hj⟩
 | .split who a b,k,world,pre,post,fr,m,n,hy,hk,hw,hR,hfr,hn,hM=>by
  obtain ⟨hwho,hkp,ha,hb⟩:=hy
  subst hwho
  have hlen:R.length=pre.length+(1+a.size+b.size)+post.length:=by rw [hR]; simp [PT.row_len,PT.size]; omega
  have e3:(pre++[(⟨who,a.to (pre.length+1),b.to (pre.length+1+a.size)⟩:Sp)]).length=pre.length+1:=by simp
  have e4:(pre++[(⟨who,a.to (pre.length+1),b.to (pre.length+1+a.size)⟩:Sp)]++a.row (pre.length+1)).length=pre.length+1+a.size:=by rw [List.length_append,e3,PT.row_len]
  refine check_split p l t h F R hR15 who a b world pre post fr m n hkp hw hR hfr hn hM (fun m n h9 hM => ?_) (fun m n h9 hM => ?_)
  ·have:=check_s p l t h ht F R hR15 a (who+1) world (pre++[⟨who,a.to (pre.length+1),b.to (pre.length+1+a.size)⟩]) (b.row (pre.length+1+a.size)++post) pre.length m n ha (by omega) (by rw [Nat.pow_succ]; omega) (by rw [hR]; simp [PT.row,List.append_assoc]) (by rw [e3]; omega) h9 (by rw [e3]; exact hM)
   rw [e3] at this; exact this
  ·have:=check_s p l t h ht F R hR15 b (who+1) (world+2 ^ who) (pre++[⟨who,a.to (pre.length+1),b.to (pre.length+1+a.size)⟩]++a.row (pre.length+1)) post pre.length m n hb (by omega) (by rw [Nat.pow_succ]; omega) (by rw [hR]; simp [PT.row,PT.row_len,List.append_assoc]; congr 1; omega) (by rw [e4]; omega) h9 (by rw [e4]; exact hM)
   rw [e4] at this; exact this
end TL

namespace TL
open Go Go.Proofs
attribute [local simp] marksV storyV codeV Claim.v Place.v numsV
theorem to_zero (y:PT):y.size=0∨y.to 0=0:=by
 cases y with
 | goal=>exact .inl rfl
 | claim i=>exact .inl rfl
 | split who a b=>exact .inr rfl
theorem proofOk_fn (p:Nat) (l:List Claim) (t:List Mark) (h:storyOk p l=true) (ht:termOk p t=true) (y:PT) (hy:okT p l t y 0 0) (hs:y.size≤15):FnZ Tryz.prog 116 [.int .i64 p,storyV l,marksV t,proofV (some y)] (.bool true):=by
 obtain ⟨h1,h4,hc,h6⟩:=allOk_of h
 have hok:=storyOk_fn p l (by omega)
 rw [h] at hok
 have hto:=termOk_fn p t
 rw [ht] at hto
 have hrl:=y.row_len 0
 have hck:=fun m=>check_s p l t h ht (y.to 0) (y.row 0) (by omega) y 0 0 [] [] (-1) m 9 hy (by omega) (by simp) (by simp) (by simp) (by omega)
 have hz:=to_zero y
 rw [← hrl] at hz hs hck
 have hct:=contains_fn (y.row 0).length (by omega)
 have hpv:proofV (some y)=.agg [.int .i64 (y.to 0),.sl ((y.row 0).map Sp.v)]:=rfl
 rw [hpv]
 obtain ⟨F,hF⟩:∃ F,y.to 0=F:=⟨_,rfl⟩
 obtain ⟨R,hR⟩:∃ R,y.row 0=R:=⟨_,rfl⟩
 simp only [List.length_nil,Nat.zero_add] at hck
 rw [hF,hR] at hck
 rw [hF] at hz ⊢
 rw [hR] at hz hs hct ⊢
 have ek:kn 0=0:=rfl
 rw [ek] at hck
 simp only [Int.natCast_zero] at hck
 have e0:List.flatten (List.replicate R.length [T.v (.bool false)])=bsT (bsAt R.length 0):=by
  rw [List.flatten_replicate_singleton]; simp [bsT,bsAt]
 have e1:bsAt R.length R.length=List.replicate R.length true:=by simp [bsAt]
 have b0:¬(15:Int)<R.length:=by omega
 have b1:(R.length:Int)≤281474976710656:=by omega
 have b2:(R.length:Int)≤9223372036854775807:=by omega
 have b3:¬15<R.length:=by omega
 have hbr:=fun (m:Mem) (hm:m 4=some (.box 4 1 (bsT (List.replicate R.length true)))) (d:Nat)=>trues_bor hm d
 rcases hz with hz | hz
 ·have c0:¬0<R.length:=by omega
  have c1:¬(0:Int)<R.length:=by omega
  have c2:R=[]:=List.length_eq_zero_iff.1 hz
  refine FZ (rs:=[.tmp 8]) false Tryz.func116 ?_
  simp -dsimp
  refine cl hok ?_
  simp -dsimp
  refine cl hto ?_
  simp -dsimp [b0,b1,b2,b3,c0,c1,e0]
  refine callS_ (hck _ ?_) ?_
  ·exact ⟨by simp,by simp,by simp,by simp [spsV],by simp,by simp,by simp⟩
  rintro x3 m3 n3 ⟨rfl,hn3,hM3,hout3⟩
  have q4:=hM3.2.2.2.2.1
  have q5:=hM3.2.2.2.2.2.1
  rw [e1] at q4
  have hb3:=hbr m3 q4 3
  simp -dsimp [q5]
  refine callM_ hct (by simp -dsimp [hb3]) rfl ?_
  simp -dsimp
 ·subst hz
  by_cases c0:0<R.length
  ·have c1:(0:Int)<R.length:=by omega
   have c2:¬R=[]:=fun h=>by rw [h] at c0; simp at c0
   refine FZ (rs:=[.tmp 8]) false Tryz.func116 ?_
   simp -dsimp
   refine cl hok ?_
   simp -dsimp
   refine cl hto ?_
   simp -dsimp [b0,b1,b2,b3,c0,c1,e0]
   refine callS_ (hck _ ?_) ?_
   ·exact ⟨by simp,by simp,by simp,by simp [spsV],by simp,by simp,by simp⟩
   rintro x3 m3 n3 ⟨rfl,hn3,hM3,hout3⟩
   have q4:=hM3.2.2.2.2.1
   have q5:=hM3.2.2.2.2.2.1
   rw [e1] at q4
   have hb3:=hbr m3 q4 3
   simp -dsimp [q5]
   refine callM_ hct (by simp -dsimp [hb3]) rfl ?_
   simp -dsimp
  ·have c1:¬(0:Int)<R.length:=by omega
   refine FZ (rs:=[.tmp 8]) false Tryz.func116 ?_
   simp -dsimp
   refine cl hok ?_
   simp -dsimp
   refine cl hto ?_
   simp -dsimp [b0,b1,b2,b3,c0,c1,e0]
   refine callS_ (hck _ ?_) ?_
   ·exact ⟨by simp,by simp,by simp,by simp [spsV],by simp,by simp,by simp⟩
   rintro x3 m3 n3 ⟨rfl,hn3,hM3,hout3⟩
   have q4:=hM3.2.2.2.2.1
   have q5:=hM3.2.2.2.2.2.1
   rw [e1] at q4
   have hb3:=hbr m3 q4 3
   simp -dsimp [q5]
   refine callM_ hct (by simp -dsimp [hb3]) rfl ?_
   simp -dsimp
theorem proofText_fn (p:Nat) (l:List Claim) (t:List Mark) (h:storyOk p l=true) (ht:termOk p t=true) (y:PT) (hy:okT p l t y 0 0) (hs:y.size≤15):FnZ Tryz.prog 64 [.int .i64 p,storyV l,marksV t,proofV (some y)] (.str y.tx):=by
 obtain ⟨h1,h4,hc,h6⟩:=allOk_of h
 have hpo:=proofOk_fn p l t h ht y hy hs
 have hct:=caseText_fn p l t (by omega) h6 y 0 0 [] [] (y.to 0) (y.row 0) hy hs (by simp; omega) (by simp)
 simp only [List.length_nil] at hct
 have hpv:proofV (some y)=.agg [.int .i64 (y.to 0),spsV (y.row 0)]:=rfl
 rw [hpv] at hpo ⊢
 obtain ⟨F,hF⟩:∃ F,y.to 0=F:=⟨_,rfl⟩
 obtain ⟨W,hW⟩:∃ W,spsV (y.row 0)=W:=⟨_,rfl⟩
 have hWc:W.cell=true:=by rw [← hW]; rfl
 have hWs:∃ xs,W=.sl xs:=⟨_,hW.symm⟩
 obtain ⟨xs,rfl⟩:=hWs
 rw [hF,hW] at hpo hct ⊢
 refine FZ (rs:=[.tmp 8]) false Tryz.func64 ?_
 simp -dsimp
 refine cl hpo ?_
 simp -dsimp
 refine cl hct ?_
 simp -dsimp
end TL

namespace TL
open Go Go.Proofs
attribute [local simp] mapZ_ii
def la (people t:Int):Int:=if tableOk people t=true then lv people.toNat people.toNat t.toNat else -1
theorem la_ok {p T:Nat} (h1:1≤p) (h4:p≤4) (hT:InT p T):la p T=lv p p T:=by
 unfold la; rw [if_pos (tab_ok h1 h4 hT)]; rfl
theorem leastAsks_fn (people t:Int):FnZ Tryz.prog 60 [.int .i64 people,.int .i64 t] (.int .i64 (la people t)):=by
 have hk:=ft (tableOk people t)
 have hok:=tableOk_fn people t
 rcases hk with hk | hk
 ·have e:la people t = -1:=if_neg (by simp [hk])
  rw [hk] at hok
  refine FZ (rs:=[.tmp 4]) false Tryz.func60 ?_
  simp -dsimp
  refine cl hok ?_
  simp -dsimp [e]
 ·rw [hk] at hok
  obtain ⟨p,T,rfl,rfl,h1,h4,hT⟩:=tableOk_spec hk
  have e:=la_ok h1 h4 hT
  have hs:=leastAsks_s p h1 h4 T hT
  refine FZ (rs:=[.tmp 4]) false Tryz.func60 ?_
  simp -dsimp
  refine cl hok ?_
  simp -dsimp [e]
  refine callS_ (hs _ 1 0 [] (by omega) (by simp) (fun U v h=>by cases h)) ?_
  rintro t m3 n3 ⟨rfl,hn3,es3,hg3,rfl⟩
  simp -dsimp [e]
def Ilt1 (p T:Nat) (e:Nat) (s:S):Prop:=∃ k:Nat,s.tm 0=.v (.int .i64 p)∧s.tm 1=.v (.int .i64 T)∧s.tm 5=.v (.int .i64 k)∧k≤p∧(∀ i,i<k→tells p T i=false)∧(e=1→k=p)
def Ilt2 (p T k:Nat) (e:Nat) (s:S):Prop:=∃ w:Nat,s.tm 0=.v (.int .i64 p)∧s.tm 1=.v (.int .i64 T)∧s.tm 5=.v (.int .i64 k)∧s.tm 6=.v (.bool ((List.range w).all fun w => !T.testBit w || w.testBit k))∧s.tm 7=.v (.int .i64 w)∧w≤2 ^ p∧(e=1→w=2 ^ p)
theorem l13Teller_fn (p T:Nat) (h1:1≤p) (h4:p≤4) (hT:InT p T):FnZ Tryz.prog 174 [.int .i64 p,.int .i64 T] (.int .i64 (ktell p T)):=by
 have hs:=table_small h4 hT
 have hN:2 ^ p≤2 ^ 4:=Nat.pow_le_pow_right (by omega) h4
 have ws:IntKind.wrap .i64 (2 ^ min p IntKind.i64.bits)=((2 ^ p:Nat):Int):=by rw [shl_fact (by omega)]; simp
 have hp0:¬(p:Int)<0:=by omega
 refine FZ (rs:=[.tmp 4]) false Tryz.func174 ?_
 simp -dsimp
 refine twp_loopC (Ilt1 p T 0) (fun s=>p-natOf (s.tm 5)) (Ilt1 p T 1) ?_ ?_ ?_
 ·exact ⟨0,by simp -dsimp,by simp -dsimp,by simp -dsimp,by omega,fun i hi=>absurd hi (by omega),by simp⟩
 ·rintro s ⟨k,t0,t1,t5,hk,hno,hend⟩
  by_cases hlt:k<p
  case neg =>
   simp -dsimp [t0,t5,hlt]
   exact ⟨k,by simp -dsimp [t0],by simp -dsimp [t1],by simp -dsimp [t5],hk,hno,fun _=>by omega⟩
  have wk:IntKind.wrap .i64 ((k:Int)+1)=((k+1:Nat):Int):=by rw [w64 (by omega) (by omega)]; omega
  have hmu:p-(k+1)<p-k:=by omega
  have z5:¬(k:Int)<0:=by omega
  simp -dsimp [t0,t5,hlt]
  refine twp_loopC (Ilt2 p T k 0) (fun s=>2 ^ p-natOf (s.tm 7)) (Ilt2 p T k 1) ?_ ?_ ?_
  ·exact ⟨0,by simp -dsimp [t0],by simp -dsimp [t1],by simp -dsimp [t5],by simp -dsimp,by simp -dsimp,Nat.zero_le _,by simp⟩
  ·rintro s2 ⟨w,u0,u1,u5,u6,u7,hw,hend2⟩
   generalize hNN:2 ^ p=N at ws hN hw hend2
   by_cases hlt2:w<N
   case neg =>
    simp -dsimp [u0,u7,hp0,ws,hlt2]
    exact ⟨w,by simp -dsimp [u0],by simp -dsimp [u1],by simp -dsimp [u5],by simp -dsimp [u6],by simp -dsimp [u7],by omega,fun _=>by omega⟩
   have ww:IntKind.wrap .i64 ((w:Int)+1)=((w+1:Nat):Int):=by rw [w64 (by omega) (by omega)]; omega
   have hmu2:N-(w+1)<N-w:=by omega
   have z7:¬(w:Int)<0:=by omega
   have b1:=bit2 T w (by omega)
   have b2:=bit2 w k (by omega)
   have hall:((List.range (w+1)).all fun w => !T.testBit w || w.testBit k)=(((List.range w).all fun w => !T.testBit w || w.testBit k) && (!T.testBit w || w.testBit k)):=by rw [List.range_succ,List.all_append]; simp
   generalize ((List.range w).all fun w => !T.testBit w || w.testBit k)=A at *
   cases A with
   | false =>
    simp -dsimp [u0,u1,u5,u6,u7,hp0,ws,hlt2,ww,hmu2]
    exact ⟨w+1,by simp -dsimp [u0],by simp -dsimp [u1],by simp -dsimp [u5],by simp -dsimp [hall],by simp -dsimp,by omega,by simp⟩
   | true =>
    cases hb:T.testBit w with
    | false =>
     rw [hb] at b1 hall
     simp -dsimp [u0,u1,u5,u6,u7,hp0,ws,hlt2,ww,hmu2,z5,z7,b1,b2]
     exact ⟨w+1,by simp -dsimp [u0],by simp -dsimp [u1],by simp -dsimp [u5],by simp -dsimp [hall],by simp -dsimp,by omega,by simp⟩
    | true =>
     rw [hb] at b1 hall
     cases hc:w.testBit k with
     | false =>
      rw [hc] at b2 hall
      simp -dsimp [u0,u1,u5,u6,u7,hp0,ws,hlt2,ww,hmu2,z5,z7,b1,b2]
      exact ⟨w+1,by simp -dsimp [u0],by simp -dsimp [u1],by simp -dsimp [u5],by simp -dsimp [hall],by simp -dsimp,by omega,by simp⟩
     | true =>
      rw [hc] at b2 hall
      simp -dsimp [u0,u1,u5,u6,u7,hp0,ws,hlt2,ww,hmu2,z5,z7,b1,b2]
      exact ⟨w+1,by simp -dsimp [u0],by simp -dsimp [u1],by simp -dsimp [u5],by simp -dsimp [hall],by simp -dsimp,by omega,by simp⟩
  ·rintro s2 ⟨w,u0,u1,u5,u6,u7,hw,hend2⟩
   have:=hend2 rfl
   subst this
   have htl:((List.range (2 ^ p)).all fun w => !T.testBit w || w.testBit k)=tells p T k:=rfl
   rw [htl] at u6
   have htc:=ft (tells p T k)
   rcases htc with htc | htc
   ·rw [htc] at u6
    simp -dsimp [u5,u6,wk,hmu,t5]
    refine ⟨k+1,by simp -dsimp [u0],by simp -dsimp [u1],by simp -dsimp,by omega,fun i hi => ?_,by simp⟩
    rcases Nat.lt_or_ge i k with h | h
    ·exact hno i h
    ·have:i=k:=by omega
     rw [this]; exact htc
   ·have e:ktell p T=(k:Int):=by
     unfold ktell
     rcases find_range (f:=tells p T) p with ⟨d,g1,g2,g3,g4⟩ | ⟨g1,g2⟩
     ·rw [g1]
      have:d=k:=by
       rcases Nat.lt_trichotomy d k with h | h | h
       ·rw [hno d h] at g3; cases g3
       ·exact h
       ·rw [g4 k h] at htc; cases htc
      rw [this]
     ·rw [g2 k hlt] at htc; cases htc
    rw [htc] at u6
    simp -dsimp [u5,u6,e]
 ·rintro s ⟨k,t0,t1,t5,hk,hno,hend⟩
  have:=hend rfl
  subst this
  have e:ktell k T = -1:=by
   unfold ktell
   rcases find_range (f:=tells k T) k with ⟨d,g1,g2,g3,g4⟩ | ⟨g1,g2⟩
   ·rw [hno d g2] at g3; cases g3
   ·rw [g1]
  simp -dsimp [e]
end TL

namespace TL
open Go Go.Proofs
theorem ktell_done {p T:Nat} (h0:¬T=0):0≤ktell p T↔doneT p T=true:=by
 have:=kt_done (p:=p) (T:=T)
 unfold kt at this
 rw [if_neg h0] at this
 rw [← this]
 exact ⟨fun h=>.inl h,fun h=>h.resolve_right h0⟩
theorem split_not {p T i j:Nat} (hT:InT p T):splits p T i j=false↔askY p T i j=T∨askN p T i j=T:=by
 constructor
 ·intro h
  by_cases hy:askY p T i j=0
  ·refine .inr ?_
   apply Nat.eq_of_testBit_eq; intro w
   have:(askY p T i j).testBit w=false:=by rw [hy,Nat.zero_testBit]
   rw [bit_askY hT] at this
   rw [bit_askN hT]
   cases hw:T.testBit w
   ·rfl
   ·rw [hw] at this
    rw [show (w.testBit i == w.testBit j)=false by simpa using this]; rfl
  ·by_cases hn:askN p T i j=0
   ·refine .inl ?_
    apply Nat.eq_of_testBit_eq; intro w
    have:(askN p T i j).testBit w=false:=by rw [hn,Nat.zero_testBit]
    rw [bit_askN hT] at this
    rw [bit_askY hT]
    cases hw:T.testBit w
    ·rfl
    ·rw [hw] at this
     rw [show (w.testBit i == w.testBit j)=true by simpa using this]; rfl
   ·rw [splits_iff.2 ⟨hy,hn⟩] at h; cases h
 ·intro h
  cases hs:splits p T i j
  ·rfl
  ·have:=split_lt hT hs
   omega
theorem asked13 {p T i j:Nat} (h1:1≤p) (h4:p≤4) (hT:InT p T) (hi:i<p) (hj:j<p):FnZ Tryz.prog 175 [.int .i64 p,.int .i64 T,.int .i64 i,.int .i64 j,.bool true] (.int .i64 ((askY p T i j:Nat):Int))∧FnZ Tryz.prog 175 [.int .i64 p,.int .i64 T,.int .i64 i,.int .i64 j,.bool false] (.int .i64 ((askN p T i j:Nat):Int)):=by
 have a:=l13Asked_fn p T i j true h1 h4 (table_small h4 hT) (by omega) (by omega)
 have b:=l13Asked_fn p T i j false h1 h4 (table_small h4 hT) (by omega) (by omega)
 rw [askedS_val _ hT] at a b
 exact ⟨a,b⟩
def Ime (p T m:Nat) (e:Nat) (s:S):Prop:=∃ (i:Nat) (best:Int),s.tm 0=.v (.int .i64 p)∧s.tm 1=.v (.int .i64 T)∧s.tm 2=.v (.int .i64 ((m+1:Nat):Int))∧s.tm 7=.v (.int .i64 best)∧s.tm 8=.v (.int .i64 i)∧i≤p ∧
 InvB p T (lv p m) (fun a b=>a<i∧a<b∧b<p) best∧(e=1→i=p)
def Imi (p T m i:Nat) (e:Nat) (s:S):Prop:=∃ (j:Nat) (best:Int),s.tm 0=.v (.int .i64 p)∧s.tm 1=.v (.int .i64 T)∧s.tm 2=.v (.int .i64 ((m+1:Nat):Int))∧s.tm 7=.v (.int .i64 best)∧s.tm 8=.v (.int .i64 i)∧s.tm 9=.v (.int .i64 j)∧i<j∧j≤p ∧
 InvB p T (lv p m) (fun a b=>(a<i∧a<b∧b<p)∨(a=i∧i<b∧b<j)) best∧(e=1→j=p)
theorem l13Least_fn (p:Nat) (h1:1≤p) (h4:p≤4):∀ m:Nat,m≤1000→∀ T:Nat,InT p T→FnZ Tryz.prog 131 [.int .i64 p,.int .i64 T,.int .i64 m] (.int .i64 (lv p m T)):=by
 intro m
 induction m with
 | zero =>
  intro _ T hT
  have hkt:=l13Teller_fn p T h1 h4 hT
  by_cases h0:T=0
  ·subst h0
   have e:lv p 0 0=0:=lv_done (doneT_iff.2 (.inl rfl))
   refine FZ (rs:=[.tmp 6]) false Tryz.func131 ?_
   simp -dsimp [e]
  have hkd:=ktell_done (p:=p) h0
  cases hd:doneT p T with
  | true =>
   have e:lv p 0 T=0:=lv_done hd
   have hk:=hkd.2 hd
   generalize ktell p T=q at *
   refine FZ (rs:=[.tmp 6]) false Tryz.func131 ?_
   simp -dsimp [h0]
   refine cl hkt ?_
   simp -dsimp [h0,hk,e]
  | false =>
   have e:lv p 0 T = -1:=lv_zero hd
   have hk:¬0≤ktell p T:=fun h=>by rw [hkd.1 h] at hd; cases hd
   generalize ktell p T=q at *
   refine FZ (rs:=[.tmp 6]) false Tryz.func131 ?_
   simp -dsimp [h0]
   refine cl hkt ?_
   simp -dsimp [h0,hk,e]
 | succ m ih =>
  intro hm T hT
  have ih:=ih (by omega)
  have hkt:=l13Teller_fn p T h1 h4 hT
  by_cases h0:T=0
  ·have e:lv p (m+1) T=0:=lv_done (doneT_iff.2 (.inl h0))
   refine FZ (rs:=[.tmp 6]) false Tryz.func131 ?_
   simp -dsimp [h0]
   rw [← h0,e]
  have hkd:=ktell_done (p:=p) h0
  cases hd:doneT p T with
  | true =>
   have e:lv p (m+1) T=0:=lv_done hd
   have hk:=hkd.2 hd
   generalize ktell p T=q at *
   refine FZ (rs:=[.tmp 6]) false Tryz.func131 ?_
   simp -dsimp [h0]
   refine cl hkt ?_
   simp -dsimp [h0,hk,e]
  | false =>
   have hk:¬0≤ktell p T:=fun h=>by rw [hkd.1 h] at hd; cases hd
   have hm0:¬((m+1:Nat):Int)=0:=by omega
   have hm0':¬(m:Int)+1=0:=by omega
   have wm:IntKind.wrap .i64 (((m+1:Nat):Int)-1)=(m:Int):=by rw [w64 (by omega) (by omega)]; omega
   have wm':IntKind.wrap .i64 (m:Int)=(m:Int):=w64 (by omega) (by omega)
   generalize ktell p T=q at *
   refine FZ (rs:=[.tmp 6]) false Tryz.func131 ?_
   simp -dsimp [h0]
   refine cl hkt ?_
   simp -dsimp [h0,hk,hm0,hm0']
   refine twp_loopC (Ime p T m 0) (fun s=>p-natOf (s.tm 8)) (Ime p T m 1) ?_ ?_ ?_
   ·exact ⟨0, -1,by simp -dsimp,by simp -dsimp,by simp -dsimp,by simp -dsimp,by simp -dsimp,by omega,.inl ⟨rfl,fun a b hab=>by omega⟩,by simp⟩
   ·rintro s ⟨i,best,t0,t1,t2,t7,t8,hi,hinv,hend⟩
    by_cases hlt:i<p
    case neg =>
     simp -dsimp [t0,t8,hlt]
     exact ⟨i,best,by simp -dsimp [t0],by simp -dsimp [t1],by simp -dsimp [t2],by simp -dsimp [t7],by simp -dsimp [t8],hi,hinv,fun _=>by omega⟩
    have wi:IntKind.wrap .i64 ((i:Int)+1)=((i+1:Nat):Int):=by rw [w64 (by omega) (by omega)]; omega
    have hmu:p-(i+1)<p-i:=by omega
    simp -dsimp [t0,t8,hlt,wi]
    refine twp_loopB (Imi p T m i 0) (fun s=>p-natOf (s.tm 9)) (Imi p T m i 1) ?_ ?_ ?_
    ·exact ⟨i+1,best,by simp -dsimp [t0],by simp -dsimp [t1],by simp -dsimp [t2],by simp -dsimp [t7],by simp -dsimp [t8],by simp -dsimp,by omega,by omega,hinv.same (fun a b=>by omega),by simp⟩
    ·rintro s2 ⟨j,best,u0,u1,u2,u7,u8,u9,hij,hj,hinv2,hend2⟩
     by_cases hlt2:j<p
     case neg =>
      simp -dsimp [u0,u9,hlt2]
      exact ⟨j,best,by simp -dsimp [u0],by simp -dsimp [u1],by simp -dsimp [u2],by simp -dsimp [u7],by simp -dsimp [u8],by simp -dsimp [u9],hij,hj,hinv2,fun _=>by omega⟩
     have wj:IntKind.wrap .i64 ((j:Int)+1)=((j+1:Nat):Int):=by rw [w64 (by omega) (by omega)]; omega
     have hmu2:p-(j+1)<p-j:=by omega
     obtain ⟨hy,hn⟩:=asked13 (i:=i) (j:=j) h1 h4 hT hlt hlt2
     have hstep:=hinv2.step (S':=fun a b=>(a<i∧a<b∧b<p)∨(a=i∧i<b∧b<j+1)) (a:=i) (c:=j) (fun a b=>by omega)
     obtain ⟨y,hY⟩:∃ y,askY p T i j=y:=⟨_,rfl⟩
     obtain ⟨z,hZ⟩:∃ z,askN p T i j=z:=⟨_,rfl⟩
     have hyT:=hT.askY (i:=i) (j:=j)
     have hzT:=hT.askN (i:=i) (j:=j)
     have hcd:candB p T (lv p m) i j=if splits p T i j=true∧0≤lv p m y∧0≤lv p m z then some (1+max (lv p m y) (lv p m z)) else none:=by rw [← hY,← hZ]; rfl
     have hspn:=split_not (i:=i) (j:=j) hT
     rw [hY] at hy hyT hspn
     rw [hZ] at hn hzT hspn
     cases hsp:splits p T i j with
     | false =>
      rw [hsp] at hcd hspn
      rw [hcd,if_neg (by simp)] at hstep
      simp only [stepB] at hstep
      by_cases hyT2:y=T
      ·simp -dsimp [u0,u1,u2,u7,u8,u9,hlt2]
       refine cl hy ?_
       simp -dsimp [u0,u1,u2,u7,u8,u9,hlt2]
       refine cl hn ?_
       simp -dsimp [u0,u1,u2,u7,u8,u9,hlt2,hyT2,wj,hmu2]
       exact ⟨j+1,best,by simp -dsimp [u0],by simp -dsimp [u1],by simp -dsimp [u2],by simp -dsimp [u7],by simp -dsimp [u8],by simp -dsimp,by omega,by omega,hstep,by simp⟩
      ·have hzT2:z=T:=(hspn.1 rfl).resolve_left hyT2
       have hyT3:¬(y:Int)=T:=by omega
       simp -dsimp [u0,u1,u2,u7,u8,u9,hlt2]
       refine cl hy ?_
       simp -dsimp [u0,u1,u2,u7,u8,u9,hlt2]
       refine cl hn ?_
       simp -dsimp [u0,u1,u2,u7,u8,u9,hlt2,hyT2,hyT3,hzT2,wj,hmu2]
       exact ⟨j+1,best,by simp -dsimp [u0],by simp -dsimp [u1],by simp -dsimp [u2],by simp -dsimp [u7],by simp -dsimp [u8],by simp -dsimp,by omega,by omega,hstep,by simp⟩
     | true =>
      rw [hsp] at hspn hcd
      have hyT2:¬y=T:=fun h=>by have:=hspn.2 (.inl h); cases this
      have hzT2:¬z=T:=fun h=>by have:=hspn.2 (.inr h); cases this
      have hyT3:¬(y:Int)=T:=by omega
      have hzT3:¬(z:Int)=T:=by omega
      have ihy:=ih y hyT
      have ihz:=ih z hzT
      have a1:=lv_ge p m y
      have a2:=lv_lt (m:=m) h1 hyT
      have b1:=lv_ge p m z
      have b2:=lv_lt (m:=m) h1 hzT
      obtain ⟨a,ha⟩:∃ a,lv p m y=a:=⟨_,rfl⟩
      obtain ⟨b,hb⟩:∃ b,lv p m z=b:=⟨_,rfl⟩
      simp only [ha,hb] at ihy ihz a1 a2 b1 b2 hcd
      have wab:IntKind.wrap .i64 (max a b+1)=max a b+1:=w64 (by omega) (by omega)
      have hco:1+max a b=max a b+1:=by omega
      rw [hco] at hcd
      simp -dsimp [u0,u1,u2,u7,u8,u9,hlt2]
      refine cl hy ?_
      simp -dsimp [u0,u1,u2,u7,u8,u9,hlt2]
      refine cl hn ?_
      simp -dsimp [u0,u1,u2,u7,u8,u9,hlt2,hyT2,hzT2,hyT3,hzT3,wm,wm']
      refine cl ihy ?_
      simp -dsimp [u0,u1,u2,u7,u8,u9,hlt2,hyT2,hzT2,hyT3,hzT3,wm,wm']
      refine cl ihz ?_
      by_cases ca:a<0
      ·rw [hcd,if_neg (by omega)] at hstep
       simp only [stepB] at hstep
       simp -dsimp [u0,u1,u2,u7,u8,u9,hlt2,ca,wj,hmu2]
       exact ⟨j+1,best,by simp -dsimp [u0],by simp -dsimp [u1],by simp -dsimp [u2],by simp -dsimp [u7],by simp -dsimp [u8],by simp -dsimp,by omega,by omega,hstep,by simp⟩
      by_cases cb:b<0
      ·rw [hcd,if_neg (by omega)] at hstep
       simp only [stepB] at hstep
       simp -dsimp [u0,u1,u2,u7,u8,u9,hlt2,ca,cb,wj,hmu2]
       exact ⟨j+1,best,by simp -dsimp [u0],by simp -dsimp [u1],by simp -dsimp [u2],by simp -dsimp [u7],by simp -dsimp [u8],by simp -dsimp,by omega,by omega,hstep,by simp⟩
      rw [hcd,if_pos ⟨trivial,by omega,by omega⟩] at hstep
      simp only [stepB] at hstep
      by_cases cc:best<0
      ·rw [if_pos (.inl cc)] at hstep
       simp -dsimp [u0,u1,u2,u7,u8,u9,hlt2,ca,cb,cc,wab,wj,hmu2]
       exact ⟨j+1,max a b+1,by simp -dsimp [u0],by simp -dsimp [u1],by simp -dsimp [u2],by simp -dsimp [u7],by simp -dsimp [u8],by simp -dsimp,by omega,by omega,hstep,by simp⟩
      by_cases cd:max a b+1<best
      ·rw [if_pos (.inr cd)] at hstep
       simp -dsimp [u0,u1,u2,u7,u8,u9,hlt2,ca,cb,cc,cd,wab,wj,hmu2]
       exact ⟨j+1,max a b+1,by simp -dsimp [u0],by simp -dsimp [u1],by simp -dsimp [u2],by simp -dsimp [u7],by simp -dsimp [u8],by simp -dsimp,by omega,by omega,hstep,by simp⟩
      ·rw [if_neg (by omega)] at hstep
       simp -dsimp [u0,u1,u2,u7,u8,u9,hlt2,ca,cb,cc,cd,wab,wj,hmu2]
       exact ⟨j+1,best,by simp -dsimp [u0],by simp -dsimp [u1],by simp -dsimp [u2],by simp -dsimp [u7],by simp -dsimp [u8],by simp -dsimp,by omega,by omega,hstep,by simp⟩
    ·rintro s2 ⟨j,best,u0,u1,u2,u7,u8,u9,hij,hj,hinv2,hend2⟩
     have:=hend2 rfl
     subst this
     simp -dsimp [u0,u8,wi,hmu,t8]
     exact ⟨i+1,best,by simp -dsimp [u0],by simp -dsimp [u1],by simp -dsimp [u2],by simp -dsimp [u7],by simp -dsimp,by omega,hinv2.same (fun a b=>by omega),by simp⟩
   ·rintro s ⟨i,best,t0,t1,t2,t7,t8,hi,hinv,hend⟩
    have:=hend rfl
    subst this
    have hlv:=hinv.lv hT hd (fun a b hab=>by omega) (fun a b ha hb=>.inr ⟨by omega,hb,ha⟩)
    have e:best=lv i (m+1) T:=IsLv.uniq hlv (lv_is i (m+1) T)
    subst e
    simp -dsimp [t7]
theorem leastAsksS_fn (people t:Int):FnZ Tryz.prog 80 [.int .i64 people,.int .i64 t] (.int .i64 (la people t)):=by
 have hk:=ft (tableOk people t)
 have hok:=tableOkS_fn people t
 rcases hk with hk | hk
 ·have e:la people t = -1:=if_neg (by simp [hk])
  rw [hk] at hok
  refine FZ (rs:=[.tmp 4]) false Tryz.func80 ?_
  simp -dsimp
  refine cl hok ?_
  simp -dsimp [e]
 ·rw [hk] at hok
  obtain ⟨p,T,rfl,rfl,h1,h4,hT⟩:=tableOk_spec hk
  have e:=la_ok h1 h4 hT
  have hs:=l13Least_fn p h1 h4 p (by omega) T hT
  refine FZ (rs:=[.tmp 4]) false Tryz.func80 ?_
  simp -dsimp
  refine cl hok ?_
  simp -dsimp [e]
  refine cl hs ?_
  simp -dsimp [e]
end TL
