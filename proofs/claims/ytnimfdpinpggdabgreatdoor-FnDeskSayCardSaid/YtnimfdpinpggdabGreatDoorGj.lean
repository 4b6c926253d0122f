/- TL: parts FnsIM, FnsIN, FnsIO, FnsIR, FnsIP, FnsIL, FnsIF, FnsIG. -/
import Derived.Test.YtnimfdpinpggdabGreatDoorGi
import Derived.Test.YtnimfdpinpggdabGreatDoorGh
import Derived.Test.YtnimfdpinpggdabGreatDoorGg
set_option linter.unusedSimpArgs false
set_option linter.unusedVariables false
set_option maxRecDepth 100000
set_option maxHeartbeats 4000000
set_option pp.maxSteps 1500
namespace TL
open Go Go.Proofs
attribute [local simp] marksV storyV codeV Claim.v Place.v
theorem agree_all {p k:Nat} (hk:k≤p) (X:Nat→Bool):((List.range p).all fun i => !decide (i<k) || X i)=(List.range k).all X:=by
 rw [Bool.eq_iff_iff,List.all_eq_true,List.all_eq_true]
 constructor
 ·intro h i hi
  have hi:=List.mem_range.1 hi
  have:=h i (List.mem_range.2 (by omega))
  simpa [hi] using this
 ·intro h i hi
  by_cases hik:i<k
  ·simp [h i (List.mem_range.2 hik)]
  ·simp [hik]
/-- Agrees, of the first so many people. -/
def agB (k world w j:Nat):Bool:=(List.range j).all fun i => !decide (i<k) || (world.testBit i == w.testBit i)
theorem agB_succ (k world w j:Nat):agB k world w (j+1)=(agB k world w j && (!decide (j<k) || (world.testBit j == w.testBit j))):=by
 unfold agB; rw [List.range_succ,List.all_append]; simp
theorem agB_end {p k world w:Nat} (hk:k≤p) (hw:world<2 ^ k):agB k world w p=(w % 2 ^ k == world):=by
 unfold agB; rw [agree_all hk,agree_iff hk hw]
def Iag1 (p k world N:Nat) (e:Nat) (s:S):Prop:=∃ w:Nat,s.tm 0=.v (.int .i64 p)∧s.tm 1=.v (numsV (knownR p k world))∧s.tm 5=.v (.int .i64 (tabN w fun w=>w % 2 ^ k == world))∧s.tm 6=.v (.int .i64 w)∧w≤N∧(e=1→w=N)
def Iag2 (p k world N w:Nat) (e:Nat) (s:S):Prop:=∃ j:Nat,s.tm 0=.v (.int .i64 p)∧s.tm 1=.v (numsV (knownR p k world))∧s.tm 5=.v (.int .i64 (tabN w fun w=>w % 2 ^ k == world))∧s.tm 6=.v (.int .i64 w)∧s.tm 7=.v (.bool (agB k world w j))∧s.tm 8=.v (.int .i64 j)∧j≤p∧(e=1→j=p)
theorem l11Agree_fn (p k world:Nat) (hp1:1≤p) (hp4:p≤4) (hk:k≤p) (hw:world<2 ^ k):FnZ Tryz.prog 207 [.int .i64 p,numsV (knownR p k world)] (.int .i64 (agr p k world)):=by
 have hN:=pow_small (p:=p) (by omega)
 have ws:=(shl_pow (p:=p) (by omega)).1
 have e:agr p k world=tabN (2 ^ p) fun w=>w % 2 ^ k == world:=rfl
 rw [e]
 obtain ⟨N,hNN⟩:∃ N,2 ^ p=N:=⟨_,rfl⟩
 rw [hNN] at hN ws ⊢
 have hp0:¬(p:Int)<0:=by omega
 have hend0:∀ w,agB k world w p=(w % 2 ^ k == world):=fun w=>agB_end hk hw
 have hwk:=pow_small (p:=k) (by omega)
 refine FZ (rs:=[.tmp 4]) false Tryz.func207 ?_
 simp -dsimp
 refine twp_loopC (Iag1 p k world N 0) (fun s=>N-natOf (s.tm 6)) (Iag1 p k world N 1) ?_ ?_ ?_
 ·exact ⟨0,by simp -dsimp,by simp -dsimp,by simp -dsimp [tabN],by simp -dsimp,by omega,by simp⟩
 ·rintro s ⟨w,t0,t1,t5,t6,hwN,hend⟩
  by_cases hlt:w<N
  case neg =>
   simp -dsimp [t0,t6,hp0,ws,hlt]
   exact ⟨w,by simp -dsimp [t0],by simp -dsimp [t1],by simp -dsimp [t5],by simp -dsimp [t6],hwN,fun _=>by omega⟩
  have wi:IntKind.wrap .i64 ((w:Int)+1)=((w+1:Nat):Int):=by rw [w64 (by omega) (by omega)]; omega
  have hmu1:N-(w+1)<N-w:=by omega
  simp -dsimp [t0,t6,hp0,ws,hlt]
  refine twp_loopC (Iag2 p k world N w 0) (fun s=>p-natOf (s.tm 8)) (Iag2 p k world N w 1) ?_ ?_ ?_
  ·exact ⟨0,by simp -dsimp [t0],by simp -dsimp [t1],by simp -dsimp [t5],by simp -dsimp [t6],by simp -dsimp [agB],by simp -dsimp,by omega,by simp⟩
  ·rintro s2 ⟨j,u0,u1,u5,u6,u7,u8,hj,hend2⟩
   by_cases hlt2:j<p
   case neg =>
    simp -dsimp [u0,u8,hlt2]
    exact ⟨j,by simp -dsimp [u0],by simp -dsimp [u1],by simp -dsimp [u5],by simp -dsimp [u6],by simp -dsimp [u7],by simp -dsimp [u8],hj,fun _=>by omega⟩
   have wj:IntKind.wrap .i64 ((j:Int)+1)=((j+1:Nat):Int):=by rw [w64 (by omega) (by omega)]; omega
   have hmu2:p-(j+1)<p-j:=by omega
   have z1:¬(j:Int)<0:=by omega
   have b2:=bit2 w j (by omega)
   have hsc:=agB_succ k world w j
   have hkl:=knownR_len p k world
   have hgk:=knownR_get (p:=p) (k:=k) (world:=world) hlt2
   have hlen:((knownR p k world).map (V.int .i64)).length=p:=by simp [hkl]
   have hget:((knownR p k world).map (V.int .i64))[j]? = some (.int .i64 (if j<k then bitI world j else -1)):=by rw [List.getElem?_map,hgk]; rfl
   obtain ⟨A,hA⟩:∃ A,agB k world w j=A:=⟨_,rfl⟩
   rw [hA] at u7 hsc
   have hu1:s2.tm 1=.v (.sl ((knownR p k world).map (V.int .i64))):=u1
   have fin:∀ s':S,s'.tm 0=.v (.int .i64 p)→s'.tm 1=.v (numsV (knownR p k world))→s'.tm 5=.v (.int .i64 (tabN w fun w=>w % 2 ^ k == world))→s'.tm 6=.v (.int .i64 w)→s'.tm 7=.v (.bool (agB k world w (j+1)))→s'.tm 8=.v (.int .i64 (j+1:Nat))→Iag2 p k world N w 0 s' :=
    fun s' a0 a1 a5 a6 a7 a8=>⟨j+1,a0,a1,a5,a6,a7,a8,by omega,by simp⟩
   obtain ⟨K,hK⟩:∃ K,(knownR p k world).map (V.int .i64)=K:=⟨_,rfl⟩
   rw [hK] at hu1 hlen hget
   have hltK:j<K.length:=by omega
   have hgetK:K[j]=.int .i64 (if j<k then bitI world j else -1):=by rw [List.getElem?_eq_getElem hltK] at hget; exact Option.some.inj hget
   cases A with
   | false =>
    simp -dsimp [u0,u8,hlt2]
    refine twd (List.range 20) [] (List.replicate 20 []) (List.replicate 20 []) ?_
    simp -dsimp [List.range_succ,u0,hu1,u6,u7,u8,hlt2,wj,hmu2]
    exact fin _ (by simp -dsimp [u0]) (by simp -dsimp [u1]) (by simp -dsimp [u5]) (by simp -dsimp [u6]) (by simp -dsimp [hsc]) (by simp -dsimp)
   | true =>
    by_cases hjk:j<k
    ·have hnn:¬bitI world j<0:=by unfold bitI; split <;> omega
     rw [if_pos hjk] at hgetK
     have hsc2:agB k world w (j+1)=(world.testBit j == w.testBit j):=by rw [hsc]; simp [hjk]
     have hcmp:decide (bitI world j=if w.testBit j=true then (1:Int) else 0)=(world.testBit j == w.testBit j):=by
      unfold bitI
      cases world.testBit j <;> cases w.testBit j <;> simp
     obtain ⟨BI,hBI⟩:∃ BI,bitI world j=BI:=⟨_,rfl⟩
     rw [hBI] at hnn hgetK hcmp
     have hb:=ft (w.testBit j)
     rcases hb with hb | hb
     ·rw [hb] at b2 hcmp
      by_cases hq:BI=0
      ·have hsc3:agB k world w (j+1)=true:=by rw [hsc2,hb,← hcmp]; simp [hq]
       simp -dsimp [u0,u8,hlt2]
       refine twd (List.range 20) [] (List.replicate 20 []) (List.replicate 20 []) ?_
       simp -dsimp [List.range_succ,u0,hu1,u6,u7,u8,hlt2,hltK,hgetK,hnn,b2,z1,wj,hmu2,hq]
       exact fin _ (by simp -dsimp [u0]) (by simp -dsimp [u1]) (by simp -dsimp [u5]) (by simp -dsimp [u6]) (by simp -dsimp [hsc3]) (by simp -dsimp)
      ·have hsc3:agB k world w (j+1)=false:=by rw [hsc2,hb,← hcmp]; simp [hq]
       simp -dsimp [u0,u8,hlt2]
       refine twd (List.range 20) [] (List.replicate 20 []) (List.replicate 20 []) ?_
       simp -dsimp [List.range_succ,u0,hu1,u6,u7,u8,hlt2,hltK,hgetK,hnn,b2,z1,wj,hmu2,hq]
       exact fin _ (by simp -dsimp [u0]) (by simp -dsimp [u1]) (by simp -dsimp [u5]) (by simp -dsimp [u6]) (by simp -dsimp [hsc3]) (by simp -dsimp)
     ·rw [hb] at b2 hcmp
      by_cases hq:BI=1
      ·have hsc3:agB k world w (j+1)=true:=by rw [hsc2,hb,← hcmp]; simp [hq]
       simp -dsimp [u0,u8,hlt2]
       refine twd (List.range 20) [] (List.replicate 20 []) (List.replicate 20 []) ?_
       simp -dsimp [List.range_succ,u0,hu1,u6,u7,u8,hlt2,hltK,hgetK,hnn,b2,z1,wj,hmu2,hq]
       exact fin _ (by simp -dsimp [u0]) (by simp -dsimp [u1]) (by simp -dsimp [u5]) (by simp -dsimp [u6]) (by simp -dsimp [hsc3]) (by simp -dsimp)
      ·have hsc3:agB k world w (j+1)=false:=by rw [hsc2,hb,← hcmp]; simp [hq]
       simp -dsimp [u0,u8,hlt2]
       refine twd (List.range 20) [] (List.replicate 20 []) (List.replicate 20 []) ?_
       simp -dsimp [List.range_succ,u0,hu1,u6,u7,u8,hlt2,hltK,hgetK,hnn,b2,z1,wj,hmu2,hq]
       exact fin _ (by simp -dsimp [u0]) (by simp -dsimp [u1]) (by simp -dsimp [u5]) (by simp -dsimp [u6]) (by simp -dsimp [hsc3]) (by simp -dsimp)
    ·rw [if_neg hjk] at hgetK
     have hsc2:agB k world w (j+1)=true:=by rw [hsc]; simp [hjk]
     simp -dsimp [u0,u8,hlt2]
     refine twd (List.range 20) [] (List.replicate 20 []) (List.replicate 20 []) ?_
     simp -dsimp [List.range_succ,u0,hu1,u6,u7,u8,hlt2,hltK,hgetK,wj,hmu2]
     exact fin _ (by simp -dsimp [u0]) (by simp -dsimp [u1]) (by simp -dsimp [u5]) (by simp -dsimp [u6]) (by simp -dsimp [hsc2]) (by simp -dsimp)
  ·rintro s2 ⟨j,u0,u1,u5,u6,u7,u8,hj,hend2⟩
   have hjp:=hend2 rfl
   rw [hjp,hend0] at u7
   have hb:=tabN_lt (fun w=>w % 2 ^ k == world) w
   have h2:=(shl_pow (p:=w) (by omega)).2
   have wsh:=(shl_pow (p:=w) (by omega)).1
   have hp:2 ^ w≤2 ^ 16:=Nat.pow_le_pow_right (by omega) (by omega)
   have hor:=or_ni (a:=tabN w fun w=>w % 2 ^ k == world) (b:=2 ^ w) (x:=(2:Int) ^ w) (by simp) (by omega) h2
   have hz:¬(w:Int)<0:=by omega
   have hsucc:tabN (w+1) (fun w=>w % 2 ^ k == world)=if (w % 2 ^ k == world)=true then tabN w (fun w=>w % 2 ^ k == world) ||| 2 ^ w else tabN w (fun w=>w % 2 ^ k == world):=rfl
   obtain ⟨A,hA⟩:∃ A,tabN w (fun w=>w % 2 ^ k == world)=A:=⟨_,rfl⟩
   rw [hA] at u5 hor hsucc
   obtain ⟨B,hB⟩:∃ B,(w % 2 ^ k == world)=B:=⟨_,rfl⟩
   rw [hB] at u7 hsucc
   cases B with
   | false =>
    rw [if_neg (by simp)] at hsucc
    simp -dsimp [u5,u6,u7,t6,wi,hmu1]
    exact ⟨w+1,by simp -dsimp [u0],by simp -dsimp [u1],by simp -dsimp [u5,hsucc],by simp -dsimp,by omega,by simp⟩
   | true =>
    rw [if_pos rfl] at hsucc
    simp -dsimp [u5,u6,u7,t6,wi,hmu1,wsh,hor,hz]
    exact ⟨w+1,by simp -dsimp [u0],by simp -dsimp [u1],by simp -dsimp [hsucc],by simp -dsimp,by omega,by simp⟩
 ·rintro s ⟨w,t0,t1,t5,t6,hwN,hend⟩
  have:=hend rfl
  subst this
  simp -dsimp [t5]
theorem closesG_fn (p:Nat) (l:List Claim) (t:List Mark) (h:storyOk p l=true) (ht:termOk p t=true) (k world:Nat) (hk:k≤p) (hw:world<2 ^ k):FnZ Tryz.prog 177 [.int .i64 p,storyV l,marksV t,.int .i64 (-1),numsV (knownR p k world)] (.bool (closG p t k world)):=by
 obtain ⟨h1,h4,hc,h6⟩:=allOk_of h
 have hag:=l11Agree_fn p k world (by omega) (by omega) hk hw
 have htt:=l3Table_fn p t ht
 have hs:=agr_small (p:=p) (k:=k) (world:=world) (by omega)
 unfold closG
 obtain ⟨A,hA⟩:∃ A,agr p k world=A:=⟨_,rfl⟩
 obtain ⟨B,hB⟩:∃ B,termTab p t=B:=⟨_,rfl⟩
 obtain ⟨K,hK⟩:∃ K,(knownR p k world).map (V.int .i64)=K:=⟨_,rfl⟩
 rw [hA] at hag hs ⊢
 rw [hB] at htt ⊢
 have hw:=andN_w (b:=B) hs
 obtain ⟨C,hC⟩:∃ C,andN A B=C:=⟨_,rfl⟩
 rw [hC] at hw ⊢
 simp only [numsV,hK] at hag ⊢
 refine FZ (rs:=[.tmp 10]) false Tryz.func177 ?_
 simp -dsimp
 refine cl hag ?_
 simp -dsimp
 refine cl htt ?_
 simp -dsimp [hw]
theorem closesC_fn (p:Nat) (l:List Claim) (t:List Mark) (h:storyOk p l=true) (k world:Nat) (hk:k≤p) (hw:world<2 ^ k) (i:Nat) (hi:i<l.length):FnZ Tryz.prog 177 [.int .i64 p,storyV l,marksV t,.int .i64 (-2-(i:Int)),numsV (knownR p k world)] (.bool (closI p l k world i)):=by
 obtain ⟨h1,h4,hc,h6⟩:=allOk_of h
 have hag:=l11Agree_fn p k world (by omega) (by omega) hk hw
 have hct:=l4Table_fn p l[i] (hc _ (List.getElem_mem hi))
 rw [Int.toNat_natCast] at hct
 have hs:=agr_small (p:=p) (k:=k) (world:=world) (by omega)
 have hcs:=claimTab_small (p:=p) (by omega) l[i]
 have e:closI p l k world i=decide (agr p k world &&& claimTab p l[i]=0):=by
  unfold closI; rw [List.getElem?_eq_getElem hi]; rfl
 rw [e]
 have hin:=l1In_fn (i:Int) 0 ((l.length-1:Nat):Int)
 have hit:inR (i:Int) 0 ((l.length-1:Nat):Int)=true:=(inR_true ..).2 (by omega)
 rw [hit] at hin
 have hget:(l.map Claim.v)[i]? = some (l[i].v):=by simp [hi]
 have w1:IntKind.wrap .i64 ((l.length:Int)-1)=((l.length-1:Nat):Int):=by rw [w64 (by omega) (by omega)]; omega
 have w2:IntKind.wrap .i64 (-2-(-2-(i:Int)))=(i:Int):=by rw [w64 (by omega) (by omega)]; omega
 have c1:¬(-2-(i:Int) = -1):=by omega
 obtain ⟨A,hA⟩:∃ A,agr p k world=A:=⟨_,rfl⟩
 obtain ⟨B,hB⟩:∃ B,claimTab p l[i]=B:=⟨_,rfl⟩
 obtain ⟨K,hK⟩:∃ K,(knownR p k world).map (V.int .i64)=K:=⟨_,rfl⟩
 rw [hA] at hag hs ⊢
 rw [hB] at hct hcs ⊢
 have hand:=and_nn (a:=A) (b:=B) (by omega) (by omega)
 simp only [numsV,hK] at hag ⊢
 obtain ⟨X,hX⟩:∃ X, -2-(i:Int)=X:=⟨_,rfl⟩
 rw [hX] at c1 w2 ⊢
 have z1:¬(i:Int)<0:=by omega
 have hd:decide (((A &&& B:Nat):Int)=0)=decide (A &&& B=0):=by simp
 refine FZ (rs:=[.tmp 10]) false Tryz.func177 ?_
 simp -dsimp
 refine cl hag ?_
 simp -dsimp [c1,w1,w2]
 refine cl hin ?_
 simp -dsimp [w2,hi,hget,z1,claim_cellsE]
 refine cl hct ?_
 simp -dsimp [hand]
end TL

namespace TL
open Go Go.Proofs
attribute [local simp] marksV storyV codeV Claim.v Place.v
/-- The cells of a row of numbers. -/
def intsT (l:List Int):List T:=l.map fun x=>T.v (.int .i64 x)
@[simp] theorem intsT_length (l:List Int):(intsT l).length=l.length:=by simp [intsT]
theorem intsT_set (l:List Int) (i:Nat) (x:Int):(intsT l).set i (.v (.int .i64 x))=intsT (l.set i x):=by simp [intsT,List.map_set]
theorem intsT_app (a b:List Int):intsT (a++b)=intsT a++intsT b:=by simp [intsT]
theorem intsT_mapO (m:Mem) (d:Nat) (l:List Int):mapO (bor true m d) (intsT l)=some (l.map (V.int .i64)):=by
 induction l with
 | nil=>rfl
 | cons x xs ih =>
  show (bor true m d (.v (.int .i64 x))).bind _=_
  rw [show bor true m d (.v (.int .i64 x))=some (.int .i64 x) by cases d <;> rfl]
  show (mapO (bor true m d) (intsT xs)).map _=_
  rw [ih]; rfl
theorem ints_chunk (l:List Int):chunk 1 l.length (l.map (V.int .i64))=l.map (V.int .i64):=by
 induction l with
 | nil=>rfl
 | cons x xs ih=>simp [chunk]; exact ih
theorem bor_ints {m:Mem} {i:Nat} {e:TypeId} {l:List Int} {p:Nat} (d:Nat) (h:m i=some (.box e 1 (intsT l))) (hp:l.length=p):bor true m (d+1) (.sv i 0 p)=some (numsV l):=by
 subst hp
 show (match m i with | some (.box _ z cs)=>tst (0+l.length * z≤cs.length) (obind (mapO (TL.bor true m d) ((cs.drop 0).take (l.length * z))) fun xs=>tst (∀ x ∈ xs,x.cell=true) (some (V.sl (chunk z l.length xs)))) | _=>none)=_
 rw [h]
 show tst (0+l.length * 1≤(intsT l).length) (obind (mapO (TL.bor true m d) (((intsT l).drop 0).take (l.length * 1))) fun xs=>tst (∀ x ∈ xs,x.cell=true) (some (V.sl (chunk 1 l.length xs))))=_
 rw [tst_pos (by simp),List.drop_zero,Nat.mul_one,List.take_of_length_le (by simp),intsT_mapO,obind_some,tst_pos (fun x hx=>by obtain ⟨w,_,rfl⟩:=List.mem_map.1 hx; rfl),ints_chunk]; rfl
theorem spT_set (x:Sp):∀ (l:List Sp) (i:Nat),i<l.length→(((spT l).set (i * 3) (.v (.int .i64 x.who))).set (i * 3+1) (.v (.int .i64 x.no))).set (i * 3+2) (.v (.int .i64 x.yes))=spT (l.set i x)
 | s :: l,0,_=>rfl
 | s :: l,i+1,h=>by
  have ih:=spT_set x l i (by simpa using h)
  rw [spT_cons,show (i+1) * 3+2=(i * 3+2)+1+1+1 by omega,show (i+1) * 3+1=(i * 3+1)+1+1+1 by omega,show (i+1) * 3=(i * 3)+1+1+1 by omega]
  simp only [List.set_cons_succ]
  rw [ih]; rfl
theorem intsT_allC (l:List Int):allC (intsT l):=fun x hx=>by obtain ⟨w,_,rfl⟩:=List.mem_map.1 hx; rfl
theorem spT_allC (l:List Sp):allC (spT l):=fun x hx=>by
 obtain ⟨w,_,hw⟩:=List.mem_flatMap.1 hx
 simp at hw
 rcases hw with rfl | rfl | rfl <;> rfl
def Ino (p:Nat) (m:Mem) (n:Nat) (e:Nat) (s:S):Prop:=∃ i id:Nat,s.tm 0=.v (.int .i64 p)∧s.tm 3=.sv id 0 i∧n≤id∧id<s.n∧s.mu=true∧s.m id=some (.box 3 1 (intsT (List.replicate i (-1))))∧s.tm 4=.v (.int .i64 i)∧i≤p∧(∀ j,j<n→s.m j=m j)∧(e=1→i=p)
theorem l11Nothing_own (p:Nat) (hp:p≤4) (m:Mem) (n:Nat):FnS Tryz.prog 134 m n [.v (.int .i64 p)] (fun t m' n'=>∃ id,t=.sv id 0 p∧n≤id∧id<n'∧m' id=some (.box 3 1 (intsT (List.replicate p (-1))))∧∀ j,j<n→m' j=m j):=by
 refine FS (rs:=[.tmp 2]) true Tryz.func134 ?_
 simp -dsimp
 refine twp_loopC (Ino p m n 0) (fun s=>p-natOf (s.tm 4)) (Ino p m n 1) ?_ ?_ ?_
 ·exact ⟨0,n,by simp -dsimp,by simp -dsimp,by omega,by simp -dsimp,by simp -dsimp,by simp -dsimp [intsT],by simp -dsimp,by omega,fun j j1=>by simp -dsimp [far j1],by simp⟩
 ·rintro s ⟨i,id,t0,t3,hid0,hid,hmu,hm,t4,hi,hout,hend⟩
  by_cases hlt:i<p
  case neg =>
   simp -dsimp [t0,t4,hlt]
   exact ⟨i,id,by simp -dsimp [t0],by simp -dsimp [t3],hid0,by simp -dsimp; omega,by simp -dsimp [hmu],by simp -dsimp [hm],by simp -dsimp [t4],hi,fun j j1=>by simp -dsimp [hout j j1],fun _=>by omega⟩
  have wi:IntKind.wrap .i64 ((i:Int)+1)=((i+1:Nat):Int):=by rw [w64 (by omega) (by omega)]; omega
  have hmu1:p-(i+1)<p-i:=by omega
  have f1:=far hid
  have b1:(i+1) * 8≤140737488355328:=by omega
  simp -dsimp [t0,t3,t4,hlt,hm,hmu,f1,b1,wi,hmu1,nes]
  refine st_out fun s' ht hm' hn' hu' => ?_
  have a0:=ht 0
  have a3:=ht 3
  have a4:=ht 4
  simp -dsimp [t0] at a0 a3 a4 hm' hn' hu'
  clear ht
  refine ⟨i+1,_,a0,a3,by omega,by omega,by rw [hu',hmu], ?_,a4,by omega,fun j j1 => ?_,by simp⟩
  ·rw [List.replicate_succ',intsT_app]; simp [hm',nes,f1,intsT]
  ·simp [hm',far (show j<s.n by omega),show ¬j=id by omega,hout j j1]
 ·rintro s ⟨i,id,t0,t3,hid0,hid,hmu,hm,t4,hi,hout,hend⟩
  have:=hend rfl
  subst this
  simp -dsimp [t3]
  exact ⟨hid0,hid,hm,hout⟩
/-! Growing. -/
def grPost (G:List Sp × Int × Bool) (sid:Nat) (m:Mem) (n:Nat) (t:T) (m':Mem) (n':Nat):Prop:=∃ id,t=.tup [.sv id 0 G.1.length,.v (.int .i64 G.2.1),.v (.bool G.2.2)]∧n≤n'∧(∀ j,j<n→m' j=m j)∧m' id=some (.box 137 3 (spT G.1))∧(id=sid∨n≤id)∧id<n'
theorem growR_zero (p:Nat) (l:List Claim) (t:List Mark) (world:Nat) (sps:List Sp):growR p l t 0 world sps=match leaf p l t p world with
  | some x=>(sps,x.to 0,true)
  | none=>(sps, -1,false):=rfl
theorem growR_leaf {p : Nat} {l : List Claim} {t : List Mark} {r k world : Nat} {x : PT} (hk : k + r = p) (h : leaf p l t k world = some x) (sps : List Sp) : growR p l t r world sps = (sps,x.to 0,true) := by
  cases r with
  | zero => obtain rfl : k = p := by omega
            rw [growR_zero,h]
  | succ r => rw [growR,show p - (r + 1) = k by omega,h]
theorem growR_none {p:Nat} {l:List Claim} {t:List Mark} {world:Nat} (h:leaf p l t p world=none) (sps:List Sp):growR p l t 0 world sps=(sps, -1,false):=by rw [growR_zero,h]
theorem growR_succ (p:Nat) (l:List Claim) (t:List Mark) (r world:Nat) (sps:List Sp):growR p l t (r+1) world sps=match leaf p l t (p-(r+1)) world with
  | some x=>(sps,x.to 0,true)
  | none=>((growR p l t r (world+2 ^ (p-(r+1))) (growR p l t r world (sps++[⟨(p-(r+1):Nat), -1, -1⟩])).1).1.set sps.length ⟨(p-(r+1):Nat),(growR p l t r world (sps++[⟨(p-(r+1):Nat), -1, -1⟩])).2.1,(growR p l t r (world+2 ^ (p-(r+1))) (growR p l t r world (sps++[⟨(p-(r+1):Nat), -1, -1⟩])).1).2.1⟩,sps.length,(growR p l t r world (sps++[⟨(p-(r+1):Nat), -1, -1⟩])).2.2 && (growR p l t r (world+2 ^ (p-(r+1))) (growR p l t r world (sps++[⟨(p-(r+1):Nat), -1, -1⟩])).1).2.2):=rfl
theorem growR_step {p:Nat} {l:List Claim} {t:List Mark} {r k world:Nat} (hk:k+(r+1)=p) (h:leaf p l t k world=none) (sps:List Sp) (A B:List Sp × Int × Bool) (hA:A=growR p l t r world (sps++[(⟨k, -1, -1⟩:Sp)])) (hB:B=growR p l t r (world+2 ^ k) A.1) :
  growR p l t (r+1) world sps=(B.1.set sps.length ⟨k,A.2.1,B.2.1⟩,((sps.length:Nat):Int),A.2.2 && B.2.2):=by
 subst hB; subst hA
 have e:p-(r+1)=k:=by omega
 rw [growR_succ,e,h]
def cntOf:T→Nat
 | .v (.int _ x)=>(x+1).toNat
 | _=>0
@[simp] theorem cntOf_int (k:IntKind) (x:Int):cntOf (.v (.int k x))=(x+1).toNat:=rfl
def GrM (p k world:Nat) (sps:List Sp) (kid sid:Nat) (m:Mem) (n:Nat):Prop:=kid<n∧sid<n∧m kid=some (.box 3 1 (intsT (knownR p k world)))∧m sid=some (.box 137 3 (spT sps))
def Igr (p:Nat) (l:List Claim) (t:List Mark) (kid sid L:Nat) (m:Mem) (n hi:Nat) (e:Nat) (s:S):Prop:=∃ i:Nat,s.tm 0=.v (.int .i64 p)∧s.tm 1=.v (storyV l)∧s.tm 2=.v (marksV t)∧s.tm 3=.sv kid 0 p∧s.tm 4=.sv sid 0 L∧s.tm 13=.v (.int .i64 (-1))∧s.tm 14=.v (.int .i64 i)∧i≤hi∧s.m=m∧s.n=n∧s.mu=true∧(e=1→i=l.length)
theorem grow_goal (p:Nat) (l:List Claim) (t:List Mark) (h:storyOk p l=true) (ht:termOk p t=true) (k world:Nat) (hk:k≤p) (hw:world<2 ^ k) (sps:List Sp) (kid sid:Nat) (m:Mem) (n:Nat) (hM:GrM p k world sps kid sid m n) (hg:closG p t k world=true) :
  FnS Tryz.prog 133 m n [.v (.int .i64 p),.v (storyV l),.v (marksV t),.sv kid 0 p,.sv sid 0 sps.length] (grPost (sps, -1,true) sid m n):=by
 obtain ⟨k1,s1,km,sm⟩:=hM
 have hc:=closesG_fn p l t h ht k world hk hw
 rw [hg] at hc
 have hb:=fun d=>bor_ints (p:=p) d km (knownR_len p k world)
 have hb3:=hb 3
 obtain ⟨K,hK⟩:∃ K,numsV (knownR p k world)=K:=⟨_,rfl⟩
 rw [hK] at hc hb3
 refine FS (rs:=[.tmp 10,.tmp 11,.tmp 12]) true Tryz.func133 ?_
 simp -dsimp
 refine callM_ hc (by simp -dsimp [hb3]) rfl ?_
 simp -dsimp
 exact ⟨sid,rfl,Nat.le_refl _,fun j j1=>rfl,sm,.inl rfl,s1⟩
theorem grow_claim (p:Nat) (l:List Claim) (t:List Mark) (h:storyOk p l=true) (ht:termOk p t=true) (k world:Nat) (hk:k≤p) (hw:world<2 ^ k) (sps:List Sp) (kid sid:Nat) (m:Mem) (n:Nat) (hM:GrM p k world sps kid sid m n)
  (hg:closG p t k world=false) (i0:Nat) (hi0:i0<l.length) (h1:closI p l k world i0=true) (h2:∀ j,j<i0→closI p l k world j=false) :
  FnS Tryz.prog 133 m n [.v (.int .i64 p),.v (storyV l),.v (marksV t),.sv kid 0 p,.sv sid 0 sps.length] (grPost (sps, -2-(i0:Int),true) sid m n):=by
 obtain ⟨k1,s1,km,sm⟩:=hM
 have h6:=(allOk_of h).2.2.2
 have hc:=closesG_fn p l t h ht k world hk hw
 rw [hg] at hc
 have hcc:=fun i hi=>closesC_fn p l t h k world hk hw i hi
 have hb:=fun d=>bor_ints (p:=p) d km (knownR_len p k world)
 have hb3:=hb 3
 obtain ⟨K,hK⟩:∃ K,numsV (knownR p k world)=K:=⟨_,rfl⟩
 rw [hK] at hc hb3
 simp only [hK] at hcc
 clear hb
 refine FS (rs:=[.tmp 10,.tmp 11,.tmp 12]) true Tryz.func133 ?_
 simp -dsimp
 refine callM_ hc (by simp -dsimp [hb3]) rfl ?_
 simp -dsimp
 refine twp_loopC (Igr p l t kid sid sps.length m n i0 0) (fun s=>l.length-natOf (s.tm 14)) (fun _=>False) ?_ ?_ ?_
 ·exact ⟨0,by simp -dsimp,by simp -dsimp,by simp -dsimp,by simp -dsimp,by simp -dsimp,by simp -dsimp,by simp -dsimp,by omega,by simp -dsimp,by simp -dsimp,by simp -dsimp,by simp⟩
 ·rintro s ⟨i,t0,t1,t2,t3,t4,t13,t14,hi,hm,hn,hmu,hend⟩
  have hlt:i<l.length:=by omega
  have hlt':(i:Int)<l.length:=by omega
  have wi:IntKind.wrap .i64 ((i:Int)+1)=((i+1:Nat):Int):=by rw [w64 (by omega) (by omega)]; omega
  have hmu1:l.length-(i+1)<l.length-i:=by omega
  have w2:IntKind.wrap .i64 (-2-(i:Int)) = -2-(i:Int):=w64 (by omega) (by omega)
  have hci:=hcc i hlt
  by_cases he:i=i0
  ·rw [he] at hci w2 t14 hlt hlt'
   rw [h1] at hci
   obtain ⟨X,hX⟩:∃ X, -2-(i0:Int)=X:=⟨_,rfl⟩
   have w2:=w2.trans hX
   rw [hX] at hci ⊢
   simp -dsimp [t0,t1,t2,t3,t4,t14,hlt,hlt',w2]
   refine callM_ hci (by simp -dsimp [hm,hb3]) rfl ?_
   simp -dsimp [t4,t14,w2,hm,hn]
   exact ⟨sid,rfl,Nat.le_refl _,fun j j1=>rfl,sm,.inl rfl,s1⟩
  ·rw [h2 i (by omega)] at hci
   simp -dsimp [t0,t1,t2,t3,t4,t14,hlt,hlt',w2]
   refine callM_ hci (by simp -dsimp [hm,hb3]) rfl ?_
   simp -dsimp [t14,wi,hmu1]
   exact ⟨i+1,by simp -dsimp [t0],by simp -dsimp [t1],by simp -dsimp [t2],by simp -dsimp [t3],by simp -dsimp [t4],by simp -dsimp [t13],by simp -dsimp,by omega,by simp -dsimp [hm],by simp -dsimp [hn],by simp -dsimp [hmu],by simp⟩
 ·intro s hs; exact hs.elim
/-- Behind the search of the person: the next person is k, if there is one. -/
def Igp (p k:Nat) (l:List Claim) (t:List Mark) (kid sid L:Nat) (m:Mem) (n:Nat) (e:Nat) (s:S):Prop:=∃ c:Nat,s.tm 0=.v (.int .i64 p)∧s.tm 1=.v (storyV l)∧s.tm 2=.v (marksV t)∧s.tm 3=.sv kid 0 p∧s.tm 4=.sv sid 0 L∧s.tm 13=.v (.int .i64 (if max k c<p then ((max k c:Nat):Int) else -1))∧s.tm 15=.v (.int .i64 ((c:Int)-1))∧c≤p∧s.m=m∧s.n=n∧s.mu=true∧(e=1→c=0)
theorem grow_rest (p:Nat) (l:List Claim) (t:List Mark) (h:storyOk p l=true) (ht:termOk p t=true) (k world:Nat) (hk:k≤p) (hw:world<2 ^ k) (sps:List Sp) (hL:sps.length≤1000) (kid sid:Nat) (m:Mem) (n:Nat) (hM:GrM p k world sps kid sid m n)
  (hg:closG p t k world=false) (h2:∀ j,j<l.length→closI p l k world j=false) (G:List Sp × Int × Bool) (h0:k=p→G=(sps, -1,false))
  (A B:List Sp × Int × Bool) (hG:k<p→G=(B.1.set sps.length ⟨k,A.2.1,B.2.1⟩,((sps.length:Nat):Int),A.2.2 && B.2.2)∧sps.length<B.1.length∧B.1.length≤1000)
  (ia:k<p→∀ (kid sid:Nat) (m:Mem) (n:Nat),GrM p (k+1) world (sps++[⟨k, -1, -1⟩]) kid sid m n→FnS Tryz.prog 133 m n [.v (.int .i64 p),.v (storyV l),.v (marksV t),.sv kid 0 p,.sv sid 0 (sps.length+1)] (grPost A sid m n))
  (ib:k<p→∀ (kid sid:Nat) (m:Mem) (n:Nat),GrM p (k+1) (world+2 ^ k) A.1 kid sid m n→FnS Tryz.prog 133 m n [.v (.int .i64 p),.v (storyV l),.v (marksV t),.sv kid 0 p,.sv sid 0 A.1.length] (grPost B sid m n)) :
  FnS Tryz.prog 133 m n [.v (.int .i64 p),.v (storyV l),.v (marksV t),.sv kid 0 p,.sv sid 0 sps.length] (grPost G sid m n):=by
 obtain ⟨k1,s1,km,sm⟩:=hM
 obtain ⟨hp1,hp4,_,h6⟩:=allOk_of h
 have hc:=closesG_fn p l t h ht k world hk hw
 rw [hg] at hc
 have hcc:=fun i hi=>closesC_fn p l t h k world hk hw i hi
 have hb:=fun d=>bor_ints (p:=p) d km (knownR_len p k world)
 have hb3:=hb 3
 have hkl:=knownR_len p k world
 have hkg:=fun i (hi:i<p)=>knownR_get (k:=k) (world:=world) hi
 have hno:=fun (hkp:k<p)=>knownR_no hkp hw
 have hyes:=fun (hkp:k<p)=>knownR_yes hkp hw
 obtain ⟨K,hK⟩:∃ K,numsV (knownR p k world)=K:=⟨_,rfl⟩
 rw [hK] at hc hb3
 simp only [hK] at hcc
 clear hb
 obtain ⟨A1,A2,A3⟩:=A
 obtain ⟨B1,B2,B3⟩:=B
 obtain ⟨G1,G2,G3⟩:=G
 simp only [Prod.mk.injEq] at hG ia ib
 have hst2:k<p→(((spT B1).set (sps.length * 3) (.v (.int .i64 k))).set (sps.length * 3+1) (.v (.int .i64 A2))).set (sps.length * 3+2) (.v (.int .i64 B2))=spT G1:=fun h=>by
  rw [(hG h).1.1]; exact spT_set ⟨k,A2,B2⟩ B1 sps.length (hG h).2.1
 have hln:k<p→G1.length=B1.length:=fun h=>by rw [(hG h).1.1,List.length_set]
 have hbl:=spT_len B1
 obtain ⟨c3,hc3⟩:∃ c3,spT B1=c3:=⟨_,rfl⟩
 rw [hc3] at hst2 hbl
 refine FS (rs:=[.tmp 10,.tmp 11,.tmp 12]) true Tryz.func133 ?_
 simp -dsimp
 refine callM_ hc (by simp -dsimp [hb3]) rfl ?_
 simp -dsimp
 refine twp_loopC (Igr p l t kid sid sps.length m n l.length 0) (fun s=>l.length-natOf (s.tm 14)) (Igr p l t kid sid sps.length m n l.length 1) ?_ ?_ ?_
 ·exact ⟨0,by simp -dsimp,by simp -dsimp,by simp -dsimp,by simp -dsimp,by simp -dsimp,by simp -dsimp,by simp -dsimp,by omega,by simp -dsimp,by simp -dsimp,by simp -dsimp,by simp⟩
 ·rintro s ⟨i,t0,t1,t2,t3,t4,t13,t14,hi,hm,hn,hmu,hend⟩
  by_cases hlt:i<l.length
  case neg =>
   simp -dsimp [t1,t14,hlt]
   exact ⟨i,by simp -dsimp [t0],by simp -dsimp [t1],by simp -dsimp [t2],by simp -dsimp [t3],by simp -dsimp [t4],by simp -dsimp [t13],by simp -dsimp [t14],by omega,by simp -dsimp [hm],by simp -dsimp [hn],by simp -dsimp [hmu],fun _=>by omega⟩
  have hlt':(i:Int)<l.length:=by omega
  have wi:IntKind.wrap .i64 ((i:Int)+1)=((i+1:Nat):Int):=by rw [w64 (by omega) (by omega)]; omega
  have hmu1:l.length-(i+1)<l.length-i:=by omega
  have w2:IntKind.wrap .i64 (-2-(i:Int)) = -2-(i:Int):=w64 (by omega) (by omega)
  have hci:=hcc i hlt
  rw [h2 i hlt] at hci
  simp -dsimp [t0,t1,t2,t3,t4,t14,hlt,hlt',w2]
  refine callM_ hci (by simp -dsimp [hm,hb3]) rfl ?_
  simp -dsimp [t14,wi,hmu1]
  exact ⟨i+1,by simp -dsimp [t0],by simp -dsimp [t1],by simp -dsimp [t2],by simp -dsimp [t3],by simp -dsimp [t4],by simp -dsimp [t13],by simp -dsimp,by omega,by simp -dsimp [hm],by simp -dsimp [hn],by simp -dsimp [hmu],by simp⟩
 rintro s ⟨i,t0,t1,t2,t3,t4,t13,t14,hi,hm,hn,hmu,hend⟩
 have wp:IntKind.wrap .i64 ((p:Int)-1)=(p:Int)-1:=w64 (by omega) (by omega)
 simp -dsimp [t0,wp]
 refine twp_loopC (Igp p k l t kid sid sps.length m n 0) (fun s=>cntOf (s.tm 15)) (Igp p k l t kid sid sps.length m n 1) ?_ ?_ ?_
 ·refine ⟨p,by simp -dsimp [t0],by simp -dsimp [t1],by simp -dsimp [t2],by simp -dsimp [t3],by simp -dsimp [t4], ?_,by simp -dsimp,by omega,by simp -dsimp [hm],by simp -dsimp [hn],by simp -dsimp [hmu],by simp⟩
  rw [if_neg (by omega)]; simp -dsimp [t13]
 ·rintro s ⟨c,t0,t1,t2,t3,t4,t13,t15,hcp,hm,hn,hmu,hend⟩
  by_cases hc0:c=0
  ·subst hc0
   have t15:s.tm 15=.v (.int .i64 (-1)):=by rw [t15]; rfl
   simp -dsimp [t15]
   exact ⟨0,by simp -dsimp [t0],by simp -dsimp [t1],by simp -dsimp [t2],by simp -dsimp [t3],by simp -dsimp [t4],by simp -dsimp [t13],by simp -dsimp [t15],hcp,by simp -dsimp [hm],by simp -dsimp [hn],by simp -dsimp [hmu],fun _=>rfl⟩
  obtain ⟨d,rfl⟩:∃ d,c=d+1:=⟨c-1,by omega⟩
  have ed:((d+1:Nat):Int)-1=(d:Int):=by omega
  rw [ed] at t15
  have hdp:d<p:=by omega
  have hdp':(d:Int)<p:=by omega
  have z1:¬(d:Int)<0:=by omega
  have wd:IntKind.wrap .i64 ((d:Int)-1)=(d:Int)-1:=w64 (by omega) (by omega)
  have hkm:s.m kid=some (.box 3 1 (intsT (knownR p k world))):=by rw [hm,km]
  have hgt:(intsT (knownR p k world))[d]? = some (.v (.int .i64 (if d<k then bitI world d else -1))):=by
   have:=hkg d hdp
   unfold intsT; rw [List.getElem?_map,this]; rfl
  have hit:(intsT (knownR p k world)).length=p:=by simp [hkl]
  have hms:((d:Int)-1+1).toNat<((d:Int)+1).toNat:=by omega
  obtain ⟨c1,hc1⟩:∃ c1,intsT (knownR p k world)=c1:=⟨_,rfl⟩
  rw [hc1] at hkm hgt hit
  have hdc:d<c1.length:=by omega
  rw [List.getElem?_eq_getElem hdc] at hgt
  have hgt:=Option.some.inj hgt
  by_cases hdk:d<k
  ·rw [if_pos hdk] at hgt
   have hnn:¬bitI world d<0:=by unfold bitI; split <;> omega
   have em:max k (d+1)=max k d:=by omega
   rw [em] at t13
   simp -dsimp [t3,t15,hdp,hdp',z1,hkm,hgt,hit,hnn,wd]
   exact ⟨d,by simp -dsimp [t0],by simp -dsimp [t1],by simp -dsimp [t2],by simp -dsimp [t3],by simp -dsimp [t4],by simp -dsimp [t13],by simp -dsimp,by omega,by simp -dsimp [hm],by simp -dsimp [hn],by simp -dsimp [hmu],by simp⟩
  ·rw [if_neg hdk] at hgt
   have em:max k d=d:=by omega
   simp -dsimp [t3,t15,hdp,hdp',z1,hkm,hgt,hit,wd]
   exact ⟨d,by simp -dsimp [t0],by simp -dsimp [t1],by simp -dsimp [t2],by simp -dsimp [t3],by simp -dsimp [t4],by simp -dsimp [em,hdp],by simp -dsimp,by omega,by simp -dsimp [hm],by simp -dsimp [hn],by simp -dsimp [hmu],by simp⟩
 ·rintro s ⟨c,t0,t1,t2,t3,t4,t13,t15,hcp,hm,hn,hmu,hend⟩
  have hc0:=hend rfl
  subst hc0
  rw [show max k 0=k by omega] at t13
  by_cases hkp:k<p
  case neg =>
   have hG:=h0 (by omega)
   rw [hG]
   rw [if_neg hkp] at t13
   simp -dsimp [t4,t13,hm,hn]
   exact ⟨sid,rfl,Nat.le_refl _,fun j j1=>rfl,sm,.inl rfl,s1⟩
  rw [if_pos hkp] at t13
  have z1:¬(k:Int)<0:=by omega
  have hno:=hno hkp
  have hyes:=hyes hkp
  have hG:=hG hkp
  have ia:=ia hkp
  have ib:=ib hkp
  have hkm:s.m kid=some (.box 3 1 (intsT (knownR p k world))):=by rw [hm,km]
  have hsm:s.m sid=some (.box 137 3 (spT sps)):=by rw [hm,sm]
  have hit:(intsT (knownR p k world)).length=p:=by simp [hkl]
  have st0:(intsT (knownR p k world)).set k (.v (.int .i64 0))=intsT (knownR p (k+1) world):=by rw [intsT_set,hno]
  have st1:(intsT (knownR p k world)).set k (.v (.int .i64 1))=intsT (knownR p (k+1) (world+2 ^ k)):=by rw [intsT_set,hyes]
  have itk:(intsT (knownR p k world)).take p=intsT (knownR p k world):=List.take_of_length_le (by omega)
  have sps1:spT sps++[T.v (.int .i64 k),.v (.int .i64 (-1)),.v (.int .i64 (-1))]=spT (sps++[⟨k, -1, -1⟩]):=by rw [spT_app]; rfl
  have stk:=spT_take sps
  have sln:=spT_len sps
  have al1:allC (intsT (knownR p k world)):=intsT_allC _
  have al2:allC (spT sps):=spT_allC _
  obtain ⟨c1,hc1⟩:∃ c1,intsT (knownR p k world)=c1:=⟨_,rfl⟩
  obtain ⟨c2,hc2⟩:∃ c2,spT sps=c2:=⟨_,rfl⟩
  rw [hc1] at al1
  rw [hc2] at al2
  rw [hc1] at hkm hit st0 st1 itk
  rw [hc2] at hsm sps1 stk sln
  have hkn:kid<s.n:=by omega
  have hsn:sid<s.n:=by omega
  have f1:=far hkn
  have f2:=far hsn
  have hkp':(k:Int)<p:=by omega
  have b1:sps.length * 24≤140737488355328:=by omega
  have b2:(sps.length+1) * 24≤140737488355328:=by omega
  have b3:p * 8≤140737488355328:=by omega
  have o1:k+1≤p:=hkp
  simp -dsimp [t0,t1,t2,t3,t4,t13,z1,hkm,hsm,hit,itk,stk,sln,al1,al2,st0,st1,sps1,f1,f2,b1,b2,b3,hmu,hkp,hkp',o1,setAt,nes,nes8]
  refine callS_ (ia _ _ _ _ ?_) ?_
  ·refine ⟨?_, ?_, ?_, ?_⟩
   ·omega
   ·omega
   ·simp -dsimp [nes,nes8]
   ·simp -dsimp [nes,nes8]
  rintro t m1 n1 ⟨id1,rfl,hn1,hout1,hm1,hid1,hid1b⟩
  have hb1:=hout1 (s.n+1+1+1+1+1+1+1+1) (by omega)
  simp -dsimp [nes,nes8] at hb1
  simp only at hm1
  simp -dsimp [t0,t1,t2,nes,nes8]
  refine callS_ (ib _ _ _ _ ?_) ?_
  ·refine ⟨?_, ?_, ?_, ?_⟩
   ·omega
   ·omega
   ·exact hb1
   ·exact hm1
  rintro t m2 n2 ⟨id2,rfl,hn2,hout2,hm2,hid2,hid2b⟩
  simp only [hc3] at hm2
  have hB1:=hG.2.1
  have hB2:=hG.2.2
  have hst2:=hst2 hkp
  have hln:=hln hkp
  have o2:sps.length * 3+3≤B1.length * 3:=by omega
  have hB1':(sps.length:Int)<B1.length:=by omega
  have hfl:∀ j,j<n→m2 j=s.m j:=fun j j1=>by rw [hout2 j (by omega),hout1 j (by omega)]; simp -dsimp [far (show j<s.n by omega)]
  have hid2n:n≤id2:=by omega
  have f3:=far hid2b
  cases A3
  ·simp -dsimp [t0,t1,t2,t13,hm2,hB1,hB1',o2,hbl,hst2,setAt,f3,nes,nes8]
   refine ⟨id2, ?_, ?_, ?_, ?_, ?_, ?_⟩
   ·simp only [hln,hG.1.2.1,hG.1.2.2]; rfl
   ·omega
   ·intro j j1
    simp [show ¬j=id2 by omega,hfl j j1,hm]
   ·simp
   ·exact .inr hid2n
   ·omega
  ·simp -dsimp [t0,t1,t2,t13,hm2,hB1,hB1',o2,hbl,hst2,setAt,f3,nes,nes8]
   refine ⟨id2, ?_, ?_, ?_, ?_, ?_, ?_⟩
   ·simp only [hln,hG.1.2.1,hG.1.2.2]; rfl
   ·omega
   ·intro j j1
    simp [show ¬j=id2 by omega,hfl j j1,hm]
   ·simp
   ·exact .inr hid2n
   ·omega
theorem grow_s (p:Nat) (l:List Claim) (t:List Mark) (h:storyOk p l=true) (ht:termOk p t=true):∀ (r k world:Nat) (sps:List Sp) (kid sid:Nat) (m:Mem) (n:Nat),k+r=p→world<2 ^ k→sps.length+2 ^ r≤1000→GrM p k world sps kid sid m n →
  FnS Tryz.prog 133 m n [.v (.int .i64 p),.v (storyV l),.v (marksV t),.sv kid 0 p,.sv sid 0 sps.length] (grPost (growR p l t r world sps) sid m n)
 | 0,k,world,sps,kid,sid,m,n,hk,hw,hlen,hM=>by
  rcases leaf_cases p l t k world with ⟨a1,a2⟩ | ⟨b1,i0,b2,b3,b4,b5⟩ | ⟨c1,c2,c3⟩
  ·rw [growR_leaf hk a2]; exact grow_goal p l t h ht k world (by omega) hw sps kid sid m n hM a1
  ·rw [growR_leaf hk b5]; exact grow_claim p l t h ht k world (by omega) hw sps kid sid m n hM b1 i0 b2 b3 b4
  ·obtain rfl:k=p:=by omega
   exact grow_rest k l t h ht k world (by omega) hw sps (by omega) kid sid m n hM c1 c2 _ (fun _=>growR_none c3 sps) ([],0,false) ([],0,false) (fun h=>absurd h (by omega)) (fun h=>absurd h (by omega)) (fun h=>absurd h (by omega))
 | r+1,k,world,sps,kid,sid,m,n,hk,hw,hlen,hM=>by
  rcases leaf_cases p l t k world with ⟨a1,a2⟩ | ⟨b1,i0,b2,b3,b4,b5⟩ | ⟨c1,c2,c3⟩
  ·rw [growR_leaf hk a2]; exact grow_goal p l t h ht k world (by omega) hw sps kid sid m n hM a1
  ·rw [growR_leaf hk b5]; exact grow_claim p l t h ht k world (by omega) hw sps kid sid m n hM b1 i0 b2 b3 b4
  ·have hA:=growR_len p l t r world (sps++[(⟨k, -1, -1⟩:Sp)])
   have hB:=growR_len p l t r (world+2 ^ k) (growR p l t r world (sps++[(⟨k, -1, -1⟩:Sp)])).1
   have hst:=growR_step hk c3 sps _ _ rfl rfl
   have e:(sps++[(⟨k, -1, -1⟩:Sp)]).length=sps.length+1:=by simp
   rw [e] at hA
   rw [Nat.pow_succ] at hlen
   refine grow_rest p l t h ht k world (by omega) hw sps (by omega) kid sid m n hM c1 c2 _ (fun h=>absurd h (by omega)) (growR p l t r world (sps++[(⟨k, -1, -1⟩:Sp)])) (growR p l t r (world+2 ^ k) (growR p l t r world (sps++[(⟨k, -1, -1⟩:Sp)])).1) (fun _=>⟨hst,by omega,by omega⟩) (fun _ kid sid m n hM => ?_) (fun _ kid sid m n hM => ?_)
   ·have:=grow_s p l t h ht r (k+1) world (sps++[(⟨k, -1, -1⟩:Sp)]) kid sid m n (by omega) (by rw [Nat.pow_succ]; omega) (by rw [e]; omega) hM
    rw [e] at this; exact this
   ·exact grow_s p l t h ht r (k+1) (world+2 ^ k) _ kid sid m n (by omega) (by rw [Nat.pow_succ]; omega) (by omega) hM
end TL

namespace TL
open Go Go.Proofs
attribute [local simp] marksV storyV codeV Claim.v Place.v
def InoF (p:Nat) (e:Nat) (s:S):Prop:=∃ i id:Nat,s.tm 0=.v (.int .i64 p)∧s.tm 3=.loc id∧id<s.n∧s.mu=false∧s.m id=some (.arr 3 ((List.replicate i (-1:Int)).map (V.int .i64)))∧s.tm 4=.v (.int .i64 i)∧i≤p∧(e=1→i=p)
theorem l11Nothing_fn (p:Nat) (hp:p≤4):FnZ Tryz.prog 134 [.int .i64 p] (numsV (List.replicate p (-1))):=by
 refine FZ (rs:=[.tmp 2]) false Tryz.func134 ?_
 simp -dsimp
 refine twp_loopC (InoF p 0) (fun s=>p-natOf (s.tm 4)) (InoF p 1) ?_ ?_ ?_
 ·exact ⟨0,0,by simp -dsimp,by simp -dsimp,by simp -dsimp,by simp -dsimp,by simp -dsimp,by simp -dsimp,by omega,by simp⟩
 ·rintro s ⟨i,id,t0,t3,hid,hmu,hm,t4,hi,hend⟩
  by_cases hlt:i<p
  case neg =>
   simp -dsimp [t0,t4,hlt]
   exact ⟨i,id,by simp -dsimp [t0],by simp -dsimp [t3],by simp -dsimp; omega,by simp -dsimp [hmu],by simp -dsimp [hm],by simp -dsimp [t4],hi,fun _=>by omega⟩
  have wi:IntKind.wrap .i64 ((i:Int)+1)=((i+1:Nat):Int):=by rw [w64 (by omega) (by omega)]; omega
  have hmu1:p-(i+1)<p-i:=by omega
  have f1:=far hid
  have b1:(i+1) * 8≤140737488355328:=by omega
  have hnx:(List.replicate (i+1) (-1:Int)).map (V.int .i64)=(List.replicate i (-1:Int)).map (V.int .i64)++[.int .i64 (-1)]:=by rw [List.replicate_succ',List.map_append]; rfl
  have hrl:((List.replicate i (-1:Int)).map (V.int .i64)).length=i:=by simp
  obtain ⟨xs,hxs⟩:∃ xs,(List.replicate i (-1:Int)).map (V.int .i64)=xs:=⟨_,rfl⟩
  rw [hxs] at hm hnx hrl
  have b2:(xs.length+1) * 8≤140737488355328:=by omega
  simp -dsimp [t0,t3,t4,hlt,hm,hmu,f1,b1,b2,hrl,wi,hmu1,nes]
  refine st_out fun s' ht hm' hn' hu' => ?_
  have a0:=ht 0
  have a3:=ht 3
  have a4:=ht 4
  simp -dsimp [t0] at a0 a3 a4 hm' hn' hu'
  clear ht
  refine ⟨i+1,_,a0,a3,by omega,by rw [hu',hmu], ?_,a4,by omega,by simp⟩
  rw [hnx]; simp [hm',nes]
 ·rintro s ⟨i,id,t0,t3,hid,hmu,hm,t4,hi,hend⟩
  have:=hend rfl
  subst this
  simp -dsimp [t3,hm,numsV]
/-! Texts. -/
theorem l11Text_fn (p:Nat) (l:List Claim) (t:List Mark) (hp:p≤4) (hl:l.length≤6):∀ (y:PT) (k world:Nat) (pre post:List Sp) (F:Int) (R:List Sp),okT p l t y k world→y.size≤15→pre.length+y.size≤1000→R=pre++y.row pre.length++post →
  FnZ Tryz.prog 136 [.agg [.int .i64 F,spsV R],.int .i64 (y.to pre.length)] (.str y.tx)
 | .goal,k,world,pre,post,F,R,h,hs,hpr,hR=>by
  have e1:PT.goal.to pre.length = -1:=rfl
  have e2:PT.goal.tx=[42]:=rfl
  rw [e1,e2]
  refine FZ (rs:=[.tmp 4]) false Tryz.func136 ?_
  simp -dsimp [spsV]
 | .claim i,k,world,pre,post,F,R,h,hs,hpr,hR=>by
  have hi:=h.1
  have e1:(PT.claim i).to pre.length = -2-(i:Int):=rfl
  have e2:(PT.claim i).tx=dec i:=rfl
  have hit:=l1Number2_fn (i:Int) (by omega) (by omega)
  have c1:¬(-2-(i:Int) = -1):=by omega
  have c2 : -2-(i:Int)<0:=by omega
  have w1:IntKind.wrap .i64 (-2-(-2-(i:Int)))=(i:Int):=by rw [w64 (by omega) (by omega)]; omega
  rw [e1,e2]
  generalize dec (i:Int)=D at *
  generalize hX : -2-(i:Int)=X at *
  refine FZ (rs:=[.tmp 4]) false Tryz.func136 ?_
  simp -dsimp [spsV,c1,c2,w1]
  refine cl hit ?_
  simp -dsimp
 | .split who a b,k,world,pre,post,F,R,h,hs,hpr,hR=>by
  obtain ⟨hk,hkp,ha,hb⟩:=h
  have la:=tx_len (by omega) a _ _ ha
  have lb:=tx_len (by omega) b _ _ hb
  simp only [PT.size] at hs hpr
  subst hk
  have ia:=l11Text_fn p l t hp hl a (who+1) world (pre++[⟨who,a.to (pre.length+1),b.to (pre.length+1+a.size)⟩]) (b.row (pre.length+1+a.size)++post) F R ha (by omega) (by simp only [List.length_append,List.length_cons,List.length_nil]; omega) (by rw [hR]; simp [PT.row,List.append_assoc])
  have ib:=l11Text_fn p l t hp hl b (who+1) (world+2 ^ who) (pre++[⟨who,a.to (pre.length+1),b.to (pre.length+1+a.size)⟩]++a.row (pre.length+1)) post F R hb (by omega) (by simp only [List.length_append,List.length_cons,List.length_nil,PT.row_len]; omega) (by rw [hR]; simp [PT.row,PT.row_len,List.append_assoc]; congr 1; omega)
  have e3:(pre++[(⟨who,a.to (pre.length+1),b.to (pre.length+1+a.size)⟩:Sp)]).length=pre.length+1:=by simp
  have e4:(pre++[(⟨who,a.to (pre.length+1),b.to (pre.length+1+a.size)⟩:Sp)]++a.row (pre.length+1)).length=pre.length+1+a.size:=by simp [PT.row_len]; omega
  rw [e3] at ia
  rw [e4] at ib
  have hget:(R.map Sp.v)[pre.length]? = some (Sp.v ⟨who,a.to (pre.length+1),b.to (pre.length+1+a.size)⟩):=by
   rw [hR]; simp [PT.row,Sp.v]
  have e5:(PT.split who a b).to pre.length=(pre.length:Int):=rfl
  have e6:(PT.split who a b).tx=UInt8.ofNat (97+who) :: 40 :: (a.tx++44 :: (b.tx++[41])):=rfl
  rw [e5,e6]
  obtain ⟨TA,hTA⟩:∃ TA,a.to (pre.length+1)=TA:=⟨_,rfl⟩
  obtain ⟨TB,hTB⟩:∃ TB,b.to (pre.length+1+a.size)=TB:=⟨_,rfl⟩
  rw [hTA] at ia hget
  rw [hTB] at ib hget
  obtain ⟨xa,hxa⟩:∃ xa,a.tx=xa:=⟨_,rfl⟩
  obtain ⟨xb,hxb⟩:∃ xb,b.tx=xb:=⟨_,rfl⟩
  rw [hxa] at ia la ⊢
  rw [hxb] at ib lb ⊢
  obtain ⟨rowV,hrow⟩:∃ rowV,R.map Sp.v=rowV:=⟨_,rfl⟩
  have es:spsV R=.sl rowV:=by rw [← hrow]; rfl
  rw [hrow] at hget
  rw [es] at ia ib ⊢
  have hcell:∀ x y z:Int,(Sp.v ⟨x,y,z⟩).cells=[.int .i64 x,.int .i64 y,.int .i64 z]:=fun _ _ _=>rfl
  obtain ⟨N,hN⟩:∃ N,pre.length=N:=⟨_,rfl⟩
  rw [hN] at hget ⊢
  have z1:¬(N:Int) = -1:=by omega
  have z2:¬(N:Int)<0:=by omega
  have b1:(1+1+xa.length:Int)≤9223372036854775807:=by omega
  have b5:(2+xa.length:Int)≤9223372036854775807:=by omega
  have b6:(2+(xa.length+1):Int)≤9223372036854775807:=by omega
  have b7:(2+(xa.length+1+xb.length):Int)≤9223372036854775807:=by omega
  have b8:(2+(xa.length+(1+xb.length)):Int)≤9223372036854775807:=by omega
  have b9:(2+(xa.length+(xb.length+1)):Int)≤9223372036854775807:=by omega
  have b10:(2+(xa.length+(xb.length+1))+1:Int)≤9223372036854775807:=by omega
  have b11:(2+(xa.length+(xb.length+1+1)):Int)≤9223372036854775807:=by omega
  have b12:(2+xa.length+1:Int)≤9223372036854775807:=by omega
  have b13:(2+(xa.length+1)+xb.length:Int)≤9223372036854775807:=by omega
  have b14:(2+(xa.length+(xb.length+2)):Int)≤9223372036854775807:=by omega
  have b2:(1+1+xa.length+1:Int)≤9223372036854775807:=by omega
  have b3:(1+1+xa.length+1+xb.length:Int)≤9223372036854775807:=by omega
  have b4:(1+1+xa.length+1+xb.length+1:Int)≤9223372036854775807:=by omega
  have d0:((xa.length+1+1+1:Nat):Int)≤9223372036854775807:=by omega
  have d1:((xa.length+1+1+1+xb.length:Nat):Int)≤9223372036854775807:=by omega
  have d2:((xa.length+(xb.length+1)+1+1:Nat):Int)≤9223372036854775807:=by omega
  have d3:((xa.length+(xb.length+1)+1+1+1:Nat):Int)≤9223372036854775807:=by omega
  have d4:((xa.length+(xb.length+1+1)+1+1:Nat):Int)≤9223372036854775807:=by omega
  have d5:((xa.length+1+1+1+xb.length+1:Nat):Int)≤9223372036854775807:=by omega
  have d6:((xa.length+1+1:Nat):Int)≤9223372036854775807:=by omega
  have d7:((xa.length+(1+xb.length)+1+1:Nat):Int)≤9223372036854775807:=by omega
  have d8:((xa.length+(xb.length+(1+1))+1+1:Nat):Int)≤9223372036854775807:=by omega
  simp only [Int.natCast_add,Int.natCast_one] at d0 d1 d2 d3 d4 d5 d6 d7 d8
  clear hTA hTB hxa hxb hrow hR e3 e4 e5 e6 es
  have hwho:who=0∨who=1∨who=2∨who=3:=by omega
  rcases hwho with rfl | rfl | rfl | rfl
  all_goals
   refine FZ (rs:=[.tmp 4]) false Tryz.func136 ?_
   simp -dsimp [z1,z2,hget,hcell]
   refine twd [0,1,2,3,4,5,6,7,8,9,13,14,15,10,11,12,16,17,18,19] [0,1] (List.replicate 20 [0,1]) (List.replicate 20 [0,1]) ?_
   simp -dsimp [z1,z2,hget,hcell,show IntKind.wrap .i64 1=1 from rfl,show IntKind.wrap .i64 2=2 from rfl,show IntKind.wrap .i64 3=3 from rfl,show IntKind.wrap .i64 4=4 from rfl]
   refine cl ia ?_
   simp -dsimp [b1,b2,b3,b4,b5,b6,b7,b8,b9,b10,b11,b12,b13,b14,d0,d1,d2,d3,d4,d5,d6,d7,d8]
   refine cl ib ?_
   simp -dsimp [b1,b2,b3,b4,b5,b6,b7,b8,b9,b10,b11,b12,b13,b14,d0,d1,d2,d3,d4,d5,d6,d7,d8]
/-! Each split is come to once. -/
theorem tgs_at {R:List Sp} {i:Nat} (h:i<R.length):tgs R=tgs (R.take i)++([R[i].no,R[i].yes]++tgs (R.drop (i+1))):=by
 have e:R=R.take i++R[i] :: R.drop (i+1):=by rw [← drop_cons h,List.take_append_drop]
 have e2:tgs R=tgs (R.take i++R[i] :: R.drop (i+1)):=congrArg tgs e
 rw [e2]
 unfold tgs
 rw [List.flatMap_append,List.flatMap_cons]; rfl
theorem tgs_succ {R:List Sp} {i:Nat} (h:i<R.length):tgs (R.take (i+1))=tgs (R.take i)++[R[i].no,R[i].yes]:=by
 rw [List.take_succ_eq_append_getElem h]
 unfold tgs
 rw [List.flatMap_append]; simp [Sp.tg]
/-- What stands of a split's targets ahead of a side. -/
def side2 (x:Sp):Nat→List Int
 | 0=>[]
 | 1=>[x.no]
 | _=>[x.no,x.yes]
def Ion1 (F:Int) (R:List Sp) (e:Nat) (s:S):Prop:=∃ i:Nat,s.tm 1=.ptr 0 0∧s.m 0=some (.box 102 2 [.v (.int .i64 F),.v (spsV R)])∧s.tm 3=.sv 1 0 R.length∧s.m 1=some (.box 4 1 (bsT (seenL R.length (tgs (R.take i)))))∧s.tm 4=.v (.int .i64 i)∧i≤R.length∧s.mu=true∧2≤s.n∧(e=1→i=R.length)
def Ion2 (F:Int) (R:List Sp) (i:Nat) (x:Sp) (P:List Int) (e:Nat) (s:S):Prop:=∃ j:Nat,s.tm 1=.ptr 0 0∧s.m 0=some (.box 102 2 [.v (.int .i64 F),.v (spsV R)])∧s.tm 3=.sv 1 0 R.length∧s.m 1=some (.box 4 1 (bsT (seenL R.length (P++side2 x j))))∧s.tm 4=.v (.int .i64 i)∧s.tm 5=.v (.int .i64 j)∧j≤2∧s.mu=true∧2≤s.n∧(e=1→j=2)
theorem l11Once_fn (F:Int) (R:List Sp) (hR:R.length≤1000) (ho:onceT (tgs R)) (hf:∀ x ∈ tgs R,x<R.length):FnZ Tryz.prog 179 [.agg [.int .i64 F,spsV R]] (.bool true):=by
 have b1:(R.length:Int)≤281474976710656:=by omega
 have b2:(R.length:Int)≤9223372036854775807:=by omega
 have b3:(0:Int)≤R.length:=by omega
 have e0:List.replicate R.length (T.v (.bool false))=bsT (seenL R.length (tgs [])):=by
  refine (List.eq_replicate_iff.2 ⟨by simp [seenL_len],fun x hx => ?_⟩).symm
  obtain ⟨b,hb,rfl⟩:=List.mem_map.1 hx
  obtain ⟨j,_,rfl⟩:=List.mem_map.1 hb
  simp [tgs]
 refine FZ (rs:=[.tmp 2]) true Tryz.func179 ?_
 simp -dsimp [spsV,b1,b2,b3]
 refine twp_loopC (Ion1 F R 0) (fun s=>R.length-natOf (s.tm 4)) (Ion1 F R 1) ?_ ?_ ?_
 ·exact ⟨0,by simp -dsimp,by simp -dsimp [spsV],by simp -dsimp,by simp -dsimp [e0],by simp -dsimp,by omega,by simp -dsimp,by simp -dsimp,by simp⟩
 ·rintro s ⟨i,t1,m0,t3,m1,t4,hi,hmu,hn,hend⟩
  by_cases hlt:i<R.length
  case neg =>
   simp -dsimp [t1,m0,t4,hlt,spsV]
   exact ⟨i,by simp -dsimp [t1],by simp -dsimp [m0],by simp -dsimp [t3],by simp -dsimp [m1],by simp -dsimp [t4],hi,by simp -dsimp [hmu],by simp -dsimp [hn],fun _=>by omega⟩
  have wi:IntKind.wrap .i64 ((i:Int)+1)=((i+1:Nat):Int):=by rw [w64 (by omega) (by omega)]; omega
  have hmu1:R.length-(i+1)<R.length-i:=by omega
  have hget:(R.map Sp.v)[i]? = some (Sp.v R[i]):=by simp [hlt]
  have hta:=tgs_at hlt
  have hts:=tgs_succ hlt
  have hlti:(i:Int)<R.length:=by omega
  obtain ⟨x,hx⟩:∃ x,R[i]=x:=⟨_,rfl⟩
  rw [hx] at hget hta hts
  obtain ⟨P,hP⟩:∃ P,tgs (R.take i)=P:=⟨_,rfl⟩
  rw [hP] at hta hts m1
  have hfx:∀ z ∈ [x.no,x.yes],z<R.length:=fun z hz=>hf z (by rw [hta]; simp only [List.mem_append]; exact .inr (.inl hz))
  have hno:=hfx x.no (by simp)
  have hye:=hfx x.yes (by simp)
  have hn1:0≤x.no→x.no ∉ P:=fun h0=>once_next (post:=x.yes :: tgs (R.drop (i+1))) (by rw [hta] at ho; exact ho) h0
  have hn2:0≤x.yes→x.yes ∉ P++[x.no]:=fun h0=>once_next (post:=tgs (R.drop (i+1))) (by rw [hta] at ho; simpa using ho) h0
  obtain ⟨w,xn,xy⟩:=x
  simp only at hno hye hn1 hn2
  have hcell:(Sp.v ⟨w,xn,xy⟩).cells=[.int .i64 w,.int .i64 xn,.int .i64 xy]:=rfl
  have hvv:Sp.v ⟨w,xn,xy⟩=.agg [.int .i64 w,.int .i64 xn,.int .i64 xy]:=rfl
  obtain ⟨rv,hrv⟩:∃ rv,R.map Sp.v=rv:=⟨_,rfl⟩
  have es:spsV R=.sl rv:=by rw [← hrv]; rfl
  have erl:rv.length=R.length:=by rw [← hrv]; simp
  rw [hrv] at hget
  rw [es] at m0
  have hltv:i<rv.length:=by omega
  have hgv:rv[i]=Sp.v ⟨w,xn,xy⟩:=by rw [List.getElem?_eq_getElem hltv] at hget; exact Option.some.inj hget
  clear ho hf hfx hta
  simp -dsimp [t1,m0,t4,hlt,hlti,erl]
  refine twp_loopB (Ion2 F R i ⟨w,xn,xy⟩ P 0) (fun s=>2-natOf (s.tm 5)) (Ion2 F R i ⟨w,xn,xy⟩ P 1) ?_ ?_ ?_
  ·exact ⟨0,by simp -dsimp [t1],by simp -dsimp [m0,es],by simp -dsimp [t3],by simp -dsimp [m1,side2],by simp -dsimp [t4],by simp -dsimp,by omega,by simp -dsimp [hmu],by simp -dsimp [hn],by simp⟩
  ·rintro s2 ⟨j,u1,um0,u3,um1,u4,u5,hj,umu,un,hend2⟩
   rw [es] at um0
   by_cases hj2:j=2
   ·simp -dsimp [u5,hj2]
    exact ⟨2,by simp -dsimp [u1],by simp -dsimp [um0,es],by simp -dsimp [u3],by simp -dsimp [um1,hj2],by simp -dsimp [u4],by simp -dsimp [u5,hj2],by omega,by simp -dsimp [umu],by simp -dsimp [un],fun _=>rfl⟩
   by_cases hj0:j=0
   ·subst hj0
    simp only [side2,List.append_nil] at um1
    by_cases hx0:xn<0
    ·have hs:=seenL_skip (n:=R.length) (xs:=P) hx0
     simp -dsimp [u1,um0,u4,u5,hlt,hltv,hlti,erl,hget,hgv,hcell,hvv,hx0,show IntKind.wrap .i64 1=1 from rfl,show IntKind.wrap .i64 2=2 from rfl]
     exact ⟨1,by simp -dsimp [u1],by simp -dsimp [um0,es],by simp -dsimp [u3],by simp -dsimp [um1,side2,hs],by simp -dsimp [u4],by simp -dsimp,by omega,by simp -dsimp [umu],(by simp -dsimp <;> omega),by simp⟩
    ·obtain ⟨q,rfl⟩:=Int.eq_ofNat_of_zero_le (show 0≤xn by omega)
     have hq:q<R.length:=by omega
     have hq':(q:Int)<R.length:=by omega
     have hq2:¬(R.length:Int)≤q:=by omega
     have hq3:¬R.length≤q:=by omega
     have hsg:=seenL_get (xs:=P) hq
     rw [decide_eq_false (hn1 (by omega))] at hsg
     have hst:=seenL_set (xs:=P) hq
     have hbg:(bsT (seenL R.length P))[q]? = some (.v (.bool false)):=by rw [bsT_get,hsg]; rfl
     have hbs:(bsT (seenL R.length P)).set q (.v (.bool true))=bsT (seenL R.length (P++[(q:Int)])):=by rw [bsT_set,hst]
     have hbl:(bsT (seenL R.length P)).length=R.length:=by simp [seenL_len]
     have z1:¬(q:Int)<0:=by omega
     have o1:q+1≤R.length:=by omega
     obtain ⟨c1,hc1⟩:∃ c1,bsT (seenL R.length P)=c1:=⟨_,rfl⟩
     rw [hc1] at um1 hbg hbs hbl
     have hqc:q<c1.length:=by omega
     rw [List.getElem?_eq_getElem hqc] at hbg
     have hbg:=Option.some.inj hbg
     simp -dsimp [u1,um0,u3,um1,u4,u5,hlt,hltv,hlti,erl,hget,hgv,hcell,hvv,z1,hq,hq',hq2,hq3,hbg,hbs,hbl,setAt,o1,show IntKind.wrap .i64 1=1 from rfl,show IntKind.wrap .i64 2=2 from rfl]
     exact ⟨1,by simp -dsimp [u1],by simp -dsimp [um0,es],by simp -dsimp [u3],by simp -dsimp [side2],by simp -dsimp [u4],by simp -dsimp,by omega,by simp -dsimp [umu],(by simp -dsimp <;> omega),by simp⟩
   ·have hj1:j=1:=by omega
    subst hj1
    simp only [side2] at um1
    have hap:∀ z:Int,P++[xn]++[z]=P++[xn,z]:=fun z=>by simp
    by_cases hx0:xy<0
    ·have hs:=seenL_skip (n:=R.length) (xs:=P++[xn]) hx0
     rw [hap] at hs
     simp -dsimp [u1,um0,u4,u5,hlt,hltv,hlti,erl,hget,hgv,hcell,hvv,hx0,show IntKind.wrap .i64 1=1 from rfl,show IntKind.wrap .i64 2=2 from rfl]
     exact ⟨2,by simp -dsimp [u1],by simp -dsimp [um0,es],by simp -dsimp [u3],by simp -dsimp [um1,side2,hs],by simp -dsimp [u4],by simp -dsimp,by omega,by simp -dsimp [umu],(by simp -dsimp <;> omega),by simp⟩
    ·obtain ⟨q,rfl⟩:=Int.eq_ofNat_of_zero_le (show 0≤xy by omega)
     have hq:q<R.length:=by omega
     have hq':(q:Int)<R.length:=by omega
     have hq2:¬(R.length:Int)≤q:=by omega
     have hq3:¬R.length≤q:=by omega
     have hsg:=seenL_get (xs:=P++[xn]) hq
     rw [decide_eq_false (hn2 (by omega))] at hsg
     have hst:=seenL_set (xs:=P++[xn]) hq
     rw [hap] at hst
     have hbg:(bsT (seenL R.length (P++[xn])))[q]? = some (.v (.bool false)):=by rw [bsT_get,hsg]; rfl
     have hbs:(bsT (seenL R.length (P++[xn]))).set q (.v (.bool true))=bsT (seenL R.length (P++[xn,(q:Int)])):=by rw [bsT_set,hst]
     have hbl:(bsT (seenL R.length (P++[xn]))).length=R.length:=by simp [seenL_len]
     have z1:¬(q:Int)<0:=by omega
     have o1:q+1≤R.length:=by omega
     obtain ⟨c1,hc1⟩:∃ c1,bsT (seenL R.length (P++[xn]))=c1:=⟨_,rfl⟩
     rw [hc1] at um1 hbg hbs hbl
     have hqc:q<c1.length:=by omega
     rw [List.getElem?_eq_getElem hqc] at hbg
     have hbg:=Option.some.inj hbg
     simp -dsimp [u1,um0,u3,um1,u4,u5,hlt,hltv,hlti,erl,hget,hgv,hcell,hvv,z1,hq,hq',hq2,hq3,hbg,hbs,hbl,setAt,o1,show IntKind.wrap .i64 1=1 from rfl,show IntKind.wrap .i64 2=2 from rfl]
     exact ⟨2,by simp -dsimp [u1],by simp -dsimp [um0,es],by simp -dsimp [u3],by simp -dsimp [side2],by simp -dsimp [u4],by simp -dsimp,by omega,by simp -dsimp [umu],(by simp -dsimp <;> omega),by simp⟩
  ·rintro s2 ⟨j,u1,um0,u3,um1,u4,u5,hj,umu,un,hend2⟩
   have:=hend2 rfl
   subst this
   simp only [side2] at um1
   rw [← hts] at um1
   simp -dsimp [u4,wi,hmu1,t4]
   exact ⟨i+1,by simp -dsimp [u1],by simp -dsimp [um0],by simp -dsimp [u3],by simp -dsimp [um1],by simp -dsimp,by omega,by simp -dsimp [umu],(by simp -dsimp <;> omega),by simp⟩
 ·rintro s ⟨i,t1,m0,t3,m1,t4,hi,hmu,hn,hend⟩
  simp -dsimp
end TL

namespace TL
open Go Go.Proofs
attribute [local simp] marksV storyV codeV Claim.v Place.v
def Ick (p:Nat) (l:List Claim) (t:List Mark) (F:Int) (rv:List V) (K:V) (N who:Nat) (TA TB:Int) (sa sb:Nat) (e:Nat) (s:S):Prop:=∃ j:Nat,s.tm 0=.v (.int .i64 p)∧s.tm 1=.v (storyV l)∧s.tm 2=.v (marksV t)∧s.tm 4=.v (.int .i64 N)∧s.tm 5=.v K∧s.tm 9=.ptr 0 0∧s.tm 14=.ptr 1 0 ∧
 s.tm 15=.v (.int .i64 ((1+(if 1≤j then sa else 0)+(if 2≤j then sb else 0):Nat):Int))∧s.tm 16=.v (.int .i64 j)∧s.m 0=some (.box 102 2 [.v (.int .i64 F),.v (.sl rv)])∧s.m 1=some (.box 137 3 [.v (.int .i64 who),.v (.int .i64 TA),.v (.int .i64 TB)])∧j≤2∧s.mu=true∧2≤s.n∧(e=1→j=2)
theorem checks_split (p:Nat) (l:List Claim) (t:List Mark) (h:storyOk p l=true) (F:Int) (rv:List V) (who N sa sb world:Nat) (TA TB:Int) (hkp:who<p) (hw:world<2 ^ who) (hN:N<rv.length) (hlen:rv.length≤1000) (hs:1+sa+sb≤1000) (hget:rv[N]? = some (Sp.v ⟨who,TA,TB⟩))
  (hTA:TA<0∨((N:Int)<TA∧TA<rv.length)) (hTB:TB<0∨((N:Int)<TB∧TB<rv.length))
  (ia:FnZ Tryz.prog 178 [.int .i64 p,storyV l,marksV t,.agg [.int .i64 F,.sl rv],.int .i64 TA,numsV (knownR p (who+1) world)] (.tup [.int .i64 (sa:Nat),.bool true]))
  (ib:FnZ Tryz.prog 178 [.int .i64 p,storyV l,marksV t,.agg [.int .i64 F,.sl rv],.int .i64 TB,numsV (knownR p (who+1) (world+2 ^ who))] (.tup [.int .i64 (sb:Nat),.bool true])) :
  FnZ Tryz.prog 178 [.int .i64 p,storyV l,marksV t,.agg [.int .i64 F,.sl rv],.int .i64 N,numsV (knownR p who world)] (.tup [.int .i64 ((1+sa+sb:Nat):Int),.bool true]):=by
 have h4:p≤4:=by have:=(allOk_of h).2.1; omega
 have hin:=l1In_fn (who:Int) 0 ((p-1:Nat):Int)
 have hit:inR (who:Int) 0 ((p-1:Nat):Int)=true:=(inR_true ..).2 (by omega)
 rw [hit] at hin
 have w1:IntKind.wrap .i64 ((p:Int)-1)=((p-1:Nat):Int):=by rw [w64 (by omega) (by omega)]; omega
 have z1:¬(N:Int)<0:=by omega
 have z2:¬(who:Int)<0:=by omega
 have hNi:(N:Int)<rv.length:=by omega
 have hcell:∀ x y z:Int,(Sp.v ⟨x,y,z⟩).cells=[.int .i64 x,.int .i64 y,.int .i64 z]:=fun _ _ _=>rfl
 have hgv:rv[N]=Sp.v ⟨who,TA,TB⟩:=by rw [List.getElem?_eq_getElem hN] at hget; exact Option.some.inj hget
 have hkl:=knownR_len p who world
 have hkg:=knownR_get (k:=who) (world:=world) hkp
 rw [if_neg (by omega)] at hkg
 have hno:=knownR_no hkp hw
 have hyes:=knownR_yes hkp hw
 have hmv:(knownR p who world).map (V.int .i64)=(knownR p who world).map (V.int .i64):=rfl
 have e0:numsV (knownR p who world)=.sl ((knownR p who world).map (V.int .i64)):=rfl
 have hkl2:((knownR p who world).map (V.int .i64)).length=p:=by simp [hkl]
 have hkg2:((knownR p who world).map (V.int .i64))[who]? = some (.int .i64 (-1)):=by rw [List.getElem?_map,hkg]; rfl
 have hmt:((knownR p who world).map (V.int .i64)).flatMap (fun x=>x.cells.map T.v)=intsT (knownR p who world):=by
  rw [List.flatMap_map]; unfold intsT; induction knownR p who world with
  | nil=>rfl
  | cons x xs ih=>simp [V.cells] at ih ⊢; exact ih
 have hzK:allZ 1 ((knownR p who world).map (V.int .i64)):=by
  intro x hx; obtain ⟨b,_,rfl⟩:=List.mem_map.1 hx; simp [V.cells,V.cell]
 have st0:(intsT (knownR p who world)).set who (.v (.int .i64 0))=intsT (knownR p (who+1) world):=by rw [intsT_set,hno]
 have st1:(intsT (knownR p who world)).set who (.v (.int .i64 1))=intsT (knownR p (who+1) (world+2 ^ who)):=by rw [intsT_set,hyes]
 have hbr0:=fun (m:Mem) (i d:Nat) (hm:m i=some (.box 3 1 (intsT (knownR p (who+1) world))))=>bor_ints (m:=m) (p:=p) d hm (knownR_len ..)
 have hbr1:=fun (m:Mem) (i d:Nat) (hm:m i=some (.box 3 1 (intsT (knownR p (who+1) (world+2 ^ who)))))=>bor_ints (m:=m) (p:=p) d hm (knownR_len ..)
 have itl:(intsT (knownR p who world)).length=p:=by simp [hkl]
 have al1:allC (intsT (knownR p who world)):=intsT_allC _
 rw [e0]
 obtain ⟨c0,hc0⟩:∃ c0,intsT (knownR p who world)=c0:=⟨_,rfl⟩
 obtain ⟨c1,hc1⟩:∃ c1,intsT (knownR p (who+1) world)=c1:=⟨_,rfl⟩
 obtain ⟨c2,hc2⟩:∃ c2,intsT (knownR p (who+1) (world+2 ^ who))=c2:=⟨_,rfl⟩
 obtain ⟨K1,hK1⟩:∃ K1,numsV (knownR p (who+1) world)=K1:=⟨_,rfl⟩
 obtain ⟨K2,hK2⟩:∃ K2,numsV (knownR p (who+1) (world+2 ^ who))=K2:=⟨_,rfl⟩
 obtain ⟨K,hK⟩:∃ K,(knownR p who world).map (V.int .i64)=K:=⟨_,rfl⟩
 rw [hc0] at hmt st0 st1 itl al1
 rw [hc1] at st0
 rw [hc2] at st1
 simp only [hc1,hK1] at hbr0
 simp only [hc2,hK2] at hbr1
 rw [hK1] at ia
 rw [hK2] at ib
 rw [hK] at hkl2 hkg2 hmt hzK ⊢
 have hbrA:∀ (m:Mem) (i:Nat),m i=some (.box 3 1 c1)→bor true m 4 (.sv i 0 p)=some K1:=fun m i hm=>hbr0 m i 3 hm
 have hbrB:∀ (m:Mem) (i:Nat),m i=some (.box 3 1 c2)→bor true m 4 (.sv i 0 p)=some K2:=fun m i hm=>hbr1 m i 3 hm
 have hwK:who<K.length:=by omega
 have hkgK:K[who]=.int .i64 (-1):=by rw [List.getElem?_eq_getElem hwK] at hkg2; exact Option.some.inj hkg2
 have hwi:(who:Int)<p:=by omega
 have o1:who+1≤p:=hkp
 have b3:p * 8≤140737488355328:=by omega
 clear hbr0 hbr1 hc0 hc1 hc2 hK1 hK2 hK hno hyes hkg hkl e0 hmv
 refine FZ (rs:=[.tmp 12,.tmp 13]) true Tryz.func178 ?_
 simp -dsimp [z1,hN,hNi,hgv,hcell,w1]
 refine cl hin ?_
 simp -dsimp [z2,hwi,hkl2,hkgK,hwK,hkp]
 refine twp_loopC (Ick p l t F rv (.sl K) N who TA TB sa sb 0) (fun s=>2-natOf (s.tm 16)) (Ick p l t F rv (.sl K) N who TA TB sa sb 1) ?_ ?_ ?_
 ·exact ⟨0,by simp -dsimp,by simp -dsimp,by simp -dsimp,by simp -dsimp,by simp -dsimp,by simp -dsimp,by simp -dsimp,by simp -dsimp,by simp -dsimp,by simp -dsimp,by simp -dsimp,by omega,by simp -dsimp,by simp -dsimp,by simp⟩
 ·rintro s ⟨j,t0,t1,t2,t4,t5,t9,t14,t15,t16,m0,m1,hj,hmu,hn,hend⟩
  have f0:=far (show 0<s.n by omega)
  have f1:=far (show 1<s.n by omega)
  by_cases hj2:j=2
  ·simp -dsimp [t16,hj2]
   exact ⟨2,by simp -dsimp [t0],by simp -dsimp [t1],by simp -dsimp [t2],by simp -dsimp [t4],by simp -dsimp [t5],by simp -dsimp [t9],by simp -dsimp [t14],by simp -dsimp [t15,hj2],by simp -dsimp [t16,hj2],by simp -dsimp [m0],by simp -dsimp [m1],by omega,by simp -dsimp [hmu],by simp -dsimp [hn],fun _=>rfl⟩
  by_cases hj0:j=0
  ·subst hj0
   have t15:s.tm 15=.v (.int .i64 1):=by rw [t15]; rfl
   have wq:IntKind.wrap .i64 (1+(sa:Int))=((1+sa:Nat):Int):=by rw [w64 (by omega) (by omega)]; omega
   have fin:∀ s':S,s'.tm 0=.v (.int .i64 p)→s'.tm 1=.v (storyV l)→s'.tm 2=.v (marksV t)→s'.tm 4=.v (.int .i64 N)→s'.tm 5=.v (.sl K)→s'.tm 9=.ptr 0 0→s'.tm 14=.ptr 1 0→s'.tm 15=.v (.int .i64 ((1+sa:Nat):Int))→s'.tm 16=.v (.int .i64 1)→s'.m 0=some (.box 102 2 [.v (.int .i64 F),.v (.sl rv)])→s'.m 1=some (.box 137 3 [.v (.int .i64 who),.v (.int .i64 TA),.v (.int .i64 TB)])→s'.mu=true→2≤s'.n→Ick p l t F rv (.sl K) N who TA TB sa sb 0 s' :=
    fun s' a0 a1 a2 a4 a5 a9 a14 a15 a16 am0 am1 amu an=>⟨1,a0,a1,a2,a4,a5,a9,a14,by rw [a15]; simp,a16,am0,am1,by omega,amu,an,by simp⟩
   rcases hTA with hTA | ⟨hT1,hT2⟩
   ·have zt:¬(0:Int)≤TA:=by omega
    simp -dsimp [t0,t1,t2,t4,t5,t9,t14,t15,t16,m0,m1,f0,f1,hmu,hzK,hmt,hkl2,itl,al1,b3,hkp,hwi,o1,z2,setAt,nes,zt,st0]
    refine callM_ ia (by simp -dsimp [t0,t1,t2,t4,t5,t9,t14,t15,t16,m0,m1,f0,f1,hmu,hzK,hmt,hkl2,itl,al1,b3,hkp,hwi,o1,z2,setAt,nes,hbrA]) rfl ?_
    simp -dsimp [t0,t1,t2,t4,t5,t9,t14,t15,t16,m0,m1,f0,f1,hmu,hzK,hmt,hkl2,itl,al1,b3,hkp,hwi,o1,z2,setAt,nes,zt,st0,wq,show IntKind.wrap .i64 1=1 from rfl,show IntKind.wrap .i64 2=2 from rfl]
    refine st_out (I:=Ick p l t F rv (.sl K) N who TA TB sa sb 0) fun s' ht hm' hn' hu' => ?_
    have a0:=ht 0
    have a1:=ht 1
    have a2:=ht 2
    have a4:=ht 4
    have a5:=ht 5
    have a9:=ht 9
    have a14:=ht 14
    have a15:=ht 15
    have a16:=ht 16
    simp -dsimp [t0,t1,t2,t4,t5,t9,t14,wq,show IntKind.wrap .i64 1=1 from rfl,show IntKind.wrap .i64 2=2 from rfl] at a0 a1 a2 a4 a5 a9 a14 a15 a16 hm' hn' hu'
    clear ht
    exact fin s' a0 a1 a2 a4 a5 a9 a14 (by rw [a15]; first | rfl | simp) (by rw [a16]) (by rw [hm']; simp [f0,m0,show ¬s.n=0 by omega]) (by rw [hm']; simp [f1,m1,show ¬s.n=1 by omega,show ¬s.n=0 by omega]) (by rw [hu',hmu]) (by omega)
   ·have zt:(0:Int)≤TA:=by omega
    have zu:¬TA≤N:=by omega
    have zv:¬(rv.length:Int)≤TA:=by omega
    simp -dsimp [t0,t1,t2,t4,t5,t9,t14,t15,t16,m0,m1,f0,f1,hmu,hzK,hmt,hkl2,itl,al1,b3,hkp,hwi,o1,z2,setAt,nes,zt,zu,zv,st0]
    refine callM_ ia (by simp -dsimp [t0,t1,t2,t4,t5,t9,t14,t15,t16,m0,m1,f0,f1,hmu,hzK,hmt,hkl2,itl,al1,b3,hkp,hwi,o1,z2,setAt,nes,hbrA]) rfl ?_
    simp -dsimp [t0,t1,t2,t4,t5,t9,t14,t15,t16,m0,m1,f0,f1,hmu,hzK,hmt,hkl2,itl,al1,b3,hkp,hwi,o1,z2,setAt,nes,zt,zu,zv,st0,wq,show IntKind.wrap .i64 1=1 from rfl,show IntKind.wrap .i64 2=2 from rfl]
    refine st_out (I:=Ick p l t F rv (.sl K) N who TA TB sa sb 0) fun s' ht hm' hn' hu' => ?_
    have a0:=ht 0
    have a1:=ht 1
    have a2:=ht 2
    have a4:=ht 4
    have a5:=ht 5
    have a9:=ht 9
    have a14:=ht 14
    have a15:=ht 15
    have a16:=ht 16
    simp -dsimp [t0,t1,t2,t4,t5,t9,t14,wq,show IntKind.wrap .i64 1=1 from rfl,show IntKind.wrap .i64 2=2 from rfl] at a0 a1 a2 a4 a5 a9 a14 a15 a16 hm' hn' hu'
    clear ht
    exact fin s' a0 a1 a2 a4 a5 a9 a14 (by rw [a15]; first | rfl | simp) (by rw [a16]) (by rw [hm']; simp [f0,m0,show ¬s.n=0 by omega]) (by rw [hm']; simp [f1,m1,show ¬s.n=1 by omega,show ¬s.n=0 by omega]) (by rw [hu',hmu]) (by omega)
  ·have hj1:j=1:=by omega
   subst hj1
   have t15:s.tm 15=.v (.int .i64 ((1+sa:Nat):Int)):=by rw [t15]; rfl
   have wq:IntKind.wrap .i64 (1+(sa:Int)+(sb:Int))=((1+sa+sb:Nat):Int):=by rw [w64 (by omega) (by omega)]; omega
   have fin:∀ s':S,s'.tm 0=.v (.int .i64 p)→s'.tm 1=.v (storyV l)→s'.tm 2=.v (marksV t)→s'.tm 4=.v (.int .i64 N)→s'.tm 5=.v (.sl K)→s'.tm 9=.ptr 0 0→s'.tm 14=.ptr 1 0→s'.tm 15=.v (.int .i64 ((1+sa+sb:Nat):Int))→s'.tm 16=.v (.int .i64 2)→s'.m 0=some (.box 102 2 [.v (.int .i64 F),.v (.sl rv)])→s'.m 1=some (.box 137 3 [.v (.int .i64 who),.v (.int .i64 TA),.v (.int .i64 TB)])→s'.mu=true→2≤s'.n→Ick p l t F rv (.sl K) N who TA TB sa sb 0 s' :=
    fun s' a0 a1 a2 a4 a5 a9 a14 a15 a16 am0 am1 amu an=>⟨2,a0,a1,a2,a4,a5,a9,a14,by rw [a15]; simp,a16,am0,am1,by omega,amu,an,by simp⟩
   rcases hTB with hTB | ⟨hT1,hT2⟩
   ·have zt:¬(0:Int)≤TB:=by omega
    simp -dsimp [t0,t1,t2,t4,t5,t9,t14,t15,t16,m0,m1,f0,f1,hmu,hzK,hmt,hkl2,itl,al1,b3,hkp,hwi,o1,z2,setAt,nes,zt,st1]
    refine callM_ ib (by simp -dsimp [t0,t1,t2,t4,t5,t9,t14,t15,t16,m0,m1,f0,f1,hmu,hzK,hmt,hkl2,itl,al1,b3,hkp,hwi,o1,z2,setAt,nes,hbrB]) rfl ?_
    simp -dsimp [t0,t1,t2,t4,t5,t9,t14,t15,t16,m0,m1,f0,f1,hmu,hzK,hmt,hkl2,itl,al1,b3,hkp,hwi,o1,z2,setAt,nes,zt,st1,wq,show IntKind.wrap .i64 1=1 from rfl,show IntKind.wrap .i64 2=2 from rfl]
    refine st_out (I:=Ick p l t F rv (.sl K) N who TA TB sa sb 0) fun s' ht hm' hn' hu' => ?_
    have a0:=ht 0
    have a1:=ht 1
    have a2:=ht 2
    have a4:=ht 4
    have a5:=ht 5
    have a9:=ht 9
    have a14:=ht 14
    have a15:=ht 15
    have a16:=ht 16
    simp -dsimp [t0,t1,t2,t4,t5,t9,t14,wq,show IntKind.wrap .i64 1=1 from rfl,show IntKind.wrap .i64 2=2 from rfl] at a0 a1 a2 a4 a5 a9 a14 a15 a16 hm' hn' hu'
    clear ht
    exact fin s' a0 a1 a2 a4 a5 a9 a14 (by rw [a15]; first | rfl | simp) (by rw [a16]) (by rw [hm']; simp [f0,m0,show ¬s.n=0 by omega]) (by rw [hm']; simp [f1,m1,show ¬s.n=1 by omega,show ¬s.n=0 by omega]) (by rw [hu',hmu]) (by omega)
   ·have zt:(0:Int)≤TB:=by omega
    have zu:¬TB≤N:=by omega
    have zv:¬(rv.length:Int)≤TB:=by omega
    simp -dsimp [t0,t1,t2,t4,t5,t9,t14,t15,t16,m0,m1,f0,f1,hmu,hzK,hmt,hkl2,itl,al1,b3,hkp,hwi,o1,z2,setAt,nes,zt,zu,zv,st1]
    refine callM_ ib (by simp -dsimp [t0,t1,t2,t4,t5,t9,t14,t15,t16,m0,m1,f0,f1,hmu,hzK,hmt,hkl2,itl,al1,b3,hkp,hwi,o1,z2,setAt,nes,hbrB]) rfl ?_
    simp -dsimp [t0,t1,t2,t4,t5,t9,t14,t15,t16,m0,m1,f0,f1,hmu,hzK,hmt,hkl2,itl,al1,b3,hkp,hwi,o1,z2,setAt,nes,zt,zu,zv,st1,wq,show IntKind.wrap .i64 1=1 from rfl,show IntKind.wrap .i64 2=2 from rfl]
    refine st_out (I:=Ick p l t F rv (.sl K) N who TA TB sa sb 0) fun s' ht hm' hn' hu' => ?_
    have a0:=ht 0
    have a1:=ht 1
    have a2:=ht 2
    have a4:=ht 4
    have a5:=ht 5
    have a9:=ht 9
    have a14:=ht 14
    have a15:=ht 15
    have a16:=ht 16
    simp -dsimp [t0,t1,t2,t4,t5,t9,t14,wq,show IntKind.wrap .i64 1=1 from rfl,show IntKind.wrap .i64 2=2 from rfl] at a0 a1 a2 a4 a5 a9 a14 a15 a16 hm' hn' hu'
    clear ht
    exact fin s' a0 a1 a2 a4 a5 a9 a14 (by rw [a15]; first | rfl | simp) (by rw [a16]) (by rw [hm']; simp [f0,m0,show ¬s.n=0 by omega]) (by rw [hm']; simp [f1,m1,show ¬s.n=1 by omega,show ¬s.n=0 by omega]) (by rw [hu',hmu]) (by omega)
 ·rintro s ⟨j,t0,t1,t2,t4,t5,t9,t14,t15,t16,m0,m1,hj,hmu,hn,hend⟩
  have:=hend rfl
  subst this
  have t15:s.tm 15=.v (.int .i64 ((1+sa+sb:Nat):Int)):=by rw [t15]; rfl
  simp -dsimp [t15]
theorem checks_fn (p:Nat) (l:List Claim) (t:List Mark) (h:storyOk p l=true) (ht:termOk p t=true) (F:Int) (R:List Sp) (hR15:R.length≤1000):∀ (y:PT) (k world:Nat) (pre post:List Sp),okT p l t y k world→k≤p→world<2 ^ k→R=pre++y.row pre.length++post →
  FnZ Tryz.prog 178 [.int .i64 p,storyV l,marksV t,.agg [.int .i64 F,spsV R],.int .i64 (y.to pre.length),numsV (knownR p k world)] (.tup [.int .i64 (y.size:Nat),.bool true])
 | .goal,k,world,pre,post,hy,hk,hw,hR=>by
  have h6:=(allOk_of h).2.2.2
  have hcl:=closesG_fn p l t h ht k world hk hw
  rw [show closG p t k world=true from hy] at hcl
  have e1:PT.goal.to pre.length = -1:=rfl
  have e2:PT.goal.size=0:=rfl
  have w1:IntKind.wrap .i64 (-2-(l.length:Int)) = -2-(l.length:Int):=w64 (by omega) (by omega)
  have c1 : -2-(l.length:Int) ≤ -1:=by omega
  rw [e1,e2]
  obtain ⟨K,hK⟩:∃ K,(knownR p k world).map (V.int .i64)=K:=⟨_,rfl⟩
  obtain ⟨rv,hrv⟩:∃ rv,R.map Sp.v=rv:=⟨_,rfl⟩
  simp only [numsV,spsV,hK,hrv] at hcl ⊢
  refine FZ (rs:=[.tmp 12,.tmp 13]) true Tryz.func178 ?_
  simp -dsimp [w1,c1]
  refine cl hcl ?_
  simp -dsimp
 | .claim i,k,world,pre,post,hy,hk,hw,hR=>by
  have h6:=(allOk_of h).2.2.2
  have hi:=hy.1
  have hcl:=closesC_fn p l t h k world hk hw i hi
  rw [hy.2] at hcl
  have e1:(PT.claim i).to pre.length = -2-(i:Int):=rfl
  have e2:(PT.claim i).size=0:=rfl
  have w1:IntKind.wrap .i64 (-2-(l.length:Int)) = -2-(l.length:Int):=w64 (by omega) (by omega)
  have c1 : -2-(l.length:Int) ≤ -2-(i:Int):=by omega
  have c2 : -2-(i:Int)<0:=by omega
  rw [e1,e2]
  obtain ⟨K,hK⟩:∃ K,(knownR p k world).map (V.int .i64)=K:=⟨_,rfl⟩
  obtain ⟨rv,hrv⟩:∃ rv,R.map Sp.v=rv:=⟨_,rfl⟩
  simp only [numsV,spsV,hK,hrv] at hcl ⊢
  obtain ⟨X,hX⟩:∃ X, -2-(i:Int)=X:=⟨_,rfl⟩
  obtain ⟨Y,hY⟩:∃ Y, -2-(l.length:Int)=Y:=⟨_,rfl⟩
  have w2:=w1.trans hY
  rw [hX] at hcl c1 c2 ⊢
  rw [hY] at c1
  refine FZ (rs:=[.tmp 12,.tmp 13]) true Tryz.func178 ?_
  simp -dsimp [w2,c1,c2]
  refine cl hcl ?_
  simp -dsimp
 | .split who a b,k,world,pre,post,hy,hk,hw,hR=>by
  obtain ⟨hwho,hkp,ha,hb⟩:=hy
  subst hwho
  have hlen:R.length=pre.length+(1+a.size+b.size)+post.length:=by rw [hR]; simp [PT.row_len,PT.size]; omega
  have e3:(pre++[(⟨who,a.to (pre.length+1),b.to (pre.length+1+a.size)⟩:Sp)]).length=pre.length+1:=by simp
  have e4:(pre++[(⟨who,a.to (pre.length+1),b.to (pre.length+1+a.size)⟩:Sp)]++a.row (pre.length+1)).length=pre.length+1+a.size:=by rw [List.length_append,e3,PT.row_len]
  have ia:=checks_fn p l t h ht F R hR15 a (who+1) world (pre++[⟨who,a.to (pre.length+1),b.to (pre.length+1+a.size)⟩]) (b.row (pre.length+1+a.size)++post) ha (by omega) (by rw [Nat.pow_succ]; omega) (by rw [hR]; simp [PT.row,List.append_assoc])
  have ib:=checks_fn p l t h ht F R hR15 b (who+1) (world+2 ^ who) (pre++[⟨who,a.to (pre.length+1),b.to (pre.length+1+a.size)⟩]++a.row (pre.length+1)) post hb (by omega) (by rw [Nat.pow_succ]; omega) (by rw [hR]; simp [PT.row,PT.row_len,List.append_assoc]; congr 1; omega)
  rw [e3] at ia
  rw [e4] at ib
  have hget:(R.map Sp.v)[pre.length]? = some (Sp.v ⟨who,a.to (pre.length+1),b.to (pre.length+1+a.size)⟩):=by
   rw [hR]; simp [PT.row,Sp.v]
  have hta:=to_range a (pre.length+1)
  have htb:=to_range b (pre.length+1+a.size)
  have hml:(R.map Sp.v).length=R.length:=by simp
  exact checks_split p l t h F (R.map Sp.v) who pre.length a.size b.size world _ _ hkp hw (by omega) (by omega) (by omega) hget (by rw [hml]; omega) (by rw [hml]; omega) ia ib
theorem proofOkS_fn (p:Nat) (l:List Claim) (t:List Mark) (h:storyOk p l=true) (ht:termOk p t=true) (y:PT) (hy:okT p l t y 0 0) (hs:y.size≤15):FnZ Tryz.prog 135 [.int .i64 p,storyV l,marksV t,proofV (some y)] (.bool true):=by
 obtain ⟨h1,h4,hc,h6⟩:=allOk_of h
 have hok:=storyOkS_fn p l (by omega) fun c hx=>(claim_fine (hc c hx)).1
 rw [h] at hok
 have hto:=termOkS_fn p t (termOk_fits ht) (by have:=(termOk_facts ht).2.2.1; omega)
 rw [ht] at hto
 have hrl:=y.row_len 0
 have hno:=l11Nothing_fn p (by omega)
 have hck:=checks_fn p l t h ht (y.to 0) (y.row 0) (by omega) y 0 0 [] [] hy (by omega) (by simp) (by simp)
 rw [knownR_zero] at hck
 have hon:=l11Once_fn (y.to 0) (y.row 0) (by omega) (onceT_row y 0) (tgs_fit y)
 have htr:=to_range y 0
 have hz:=to_zero y
 have hpv:proofV (some y)=.agg [.int .i64 (y.to 0),.sl ((y.row 0).map Sp.v)]:=rfl
 have hml:((y.row 0).map Sp.v).length=y.size:=by rw [List.length_map,hrl]
 rw [hpv]
 obtain ⟨F,hF⟩:∃ F,y.to 0=F:=⟨_,rfl⟩
 obtain ⟨rv,hrv⟩:∃ rv,(y.row 0).map Sp.v=rv:=⟨_,rfl⟩
 obtain ⟨K,hK⟩:∃ K,(List.replicate p (-1:Int)).map (V.int .i64)=K:=⟨_,rfl⟩
 simp only [List.length_nil,spsV,numsV,hF,hrv,hK] at hck hon hno htr hz hml ⊢
 have b0:¬(15:Int)<rv.length:=by omega
 have b3:¬15<rv.length:=by omega
 have b1:¬(0:Int)<F:=by omega
 rcases hz with hz | hz
 ·have c0:¬F=0∨F=0:=by omega
  have c1:rv.length=0:=by omega
  have c2:¬F=0:=by omega
  have c3:rv=[]:=List.length_eq_zero_iff.1 c1
  have c4:(y.size:Int)=rv.length:=by omega
  refine FZ (rs:=[.tmp 8]) false Tryz.func135 ?_
  simp -dsimp
  refine cl hok ?_
  simp -dsimp
  refine cl hto ?_
  simp -dsimp [b0,b3,b1,c2]
  refine twd (List.range 14) [0] (List.replicate 14 [0]) (List.replicate 14 [0]) ?_
  simp -dsimp [List.range_succ]
  refine cl hno ?_
  simp -dsimp [List.range_succ]
  refine cl hck ?_
  simp -dsimp [List.range_succ,c4]
  refine cl hon ?_
  simp -dsimp
 ·have c4:(y.size:Int)=rv.length:=by omega
  by_cases c1:rv.length=0
  ·exfalso
   rcases htr with h | ⟨h,h2⟩
   ·omega
   ·omega
  subst hz
  have c2:¬(rv.length:Int)=0:=by omega
  have c3:¬rv=[]:=fun h=>c1 (by rw [h]; rfl)
  refine FZ (rs:=[.tmp 8]) false Tryz.func135 ?_
  simp -dsimp
  refine cl hok ?_
  simp -dsimp
  refine cl hto ?_
  simp -dsimp [b0,b3,b1,c1,c2,c3]
  refine twd (List.range 14) [0] (List.replicate 14 [0]) (List.replicate 14 [0]) ?_
  simp -dsimp [List.range_succ]
  refine cl hno ?_
  simp -dsimp [List.range_succ]
  refine cl hck ?_
  simp -dsimp [List.range_succ,c4]
  refine cl hon ?_
  simp -dsimp
theorem proofTextS_fn (p:Nat) (l:List Claim) (t:List Mark) (h:storyOk p l=true) (ht:termOk p t=true) (y:PT) (hy:okT p l t y 0 0) (hs:y.size≤15):FnZ Tryz.prog 84 [.int .i64 p,storyV l,marksV t,proofV (some y)] (.str y.tx):=by
 obtain ⟨h1,h4,hc,h6⟩:=allOk_of h
 have hpo:=proofOkS_fn p l t h ht y hy hs
 have hct:=l11Text_fn p l t (by omega) h6 y 0 0 [] [] (y.to 0) (y.row 0) hy hs (by simp; omega) (by simp)
 simp only [List.length_nil] at hct
 have hpv:proofV (some y)=.agg [.int .i64 (y.to 0),spsV (y.row 0)]:=rfl
 rw [hpv] at hpo ⊢
 obtain ⟨F,hF⟩:∃ F,y.to 0=F:=⟨_,rfl⟩
 obtain ⟨W,hW⟩:∃ W,spsV (y.row 0)=W:=⟨_,rfl⟩
 have hWs:∃ xs,W=.sl xs:=⟨_,hW.symm⟩
 obtain ⟨xs,rfl⟩:=hWs
 rw [hF,hW] at hpo hct ⊢
 refine FZ (rs:=[.tmp 8]) false Tryz.func84 ?_
 simp -dsimp
 refine cl hpo ?_
 simp -dsimp
 refine cl hct ?_
 simp -dsimp
end TL

namespace TL
open Go Go.Proofs
attribute [local simp] marksV storyV codeV Claim.v Place.v
theorem findProofS_fn (p:Nat) (l:List Claim) (t:List Mark) (h:storyOk p l=true) (ht:termOk p t=true):FnZ Tryz.prog 83 [.int .i64 p,storyV l,marksV t] (.tup [proofV (findT p l t p 0),.bool (findT p l t p 0).isSome]):=by
 obtain ⟨h1,h4,hc,h6⟩:=allOk_of h
 have hok:=storyOkS_fn p l (by omega) fun c hx=>(claim_fine (hc c hx)).1
 rw [h] at hok
 have hto:=termOkS_fn p t (termOk_fits ht) (by have:=(termOk_facts ht).2.2.1; omega)
 rw [ht] at hto
 have hN:=pow_small (p:=p) (by omega)
 have hno:=fun m n=>l11Nothing_own p (by omega) m n
 have hgr:=fun kid sid m n=>grow_s p l t h ht p 0 0 [] kid sid m n (by omega) (by simp) (by simp; omega)
 have hsp:=growR_spec p l t p 0 []
 have hk0:=knownR_zero p 0
 obtain ⟨G,hG⟩:∃ G,growR p l t p 0 []=G:=⟨_,rfl⟩
 rw [hG] at hgr hsp
 obtain ⟨o,ho⟩:∃ o,findT p l t p 0=o:=⟨_,rfl⟩
 rw [ho] at hsp ⊢
 obtain ⟨G1,G2,G3⟩:=G
 simp only [List.length_nil,Nat.add_zero] at hgr
 have hpv:proofV o=(if o.isSome=true then .agg [.int .i64 G2,spsV G1] else .agg [.int .i64 0,.sl []])∧G3=o.isSome:=by
  cases o with
  | none=>simp only at hsp; exact ⟨rfl,hsp⟩
  | some y =>
   simp only [List.nil_append,List.length_nil,Prod.mk.injEq] at hsp
   obtain ⟨e1,e2,e3⟩:=hsp
   exact ⟨by rw [e1,e2]; rfl,e3⟩
 obtain ⟨hpv,hg3⟩:=hpv
 obtain ⟨b,hb⟩:∃ b,o.isSome=b:=⟨_,rfl⟩
 rw [hb] at hpv hg3 ⊢
 subst hg3
 obtain ⟨PV,hPV⟩:∃ PV,proofV o=PV:=⟨_,rfl⟩
 rw [hPV] at hpv ⊢
 have hspb:=fun (m:Mem) (id:Nat) (hm:m id=some (.box 137 3 (spT G1))) (d:Nat)=>sp_bor hm rfl d
 clear ho hsp hb hPV hG
 refine FZ (rs:=[.cell 6 102,.tmp 7]) true Tryz.func83 ?_
 simp -dsimp
 refine cl hok ?_
 simp -dsimp
 refine cl hto ?_
 simp -dsimp
 refine callS_ (hno _ _) ?_
 rintro t1 m1 n1 ⟨kid,rfl,k1,k2,km,kout⟩
 rw [← hk0] at km
 have kf:=far k2
 have q0:=kout 0 (by omega)
 simp -dsimp at q0
 simp -dsimp [kf]
 refine callS_ (hgr _ _ _ _ ?_) ?_
 ·refine ⟨?_, ?_, ?_, ?_⟩
  ·omega
  ·omega
  ·simp -dsimp [kf,km]
  ·simp -dsimp [spT]
 rintro t2 m2 n2 ⟨id2,rfl,hn2,hout2,hm2,hid2,hid2b⟩
 simp only at hm2
 have q1:m2 0=some (.box 102 2 [.v (.int .i64 0),.nil]):=by rw [hout2 0 (by omega)]; simp -dsimp [kf,q0,show ¬0=n1 by omega]
 have hid0:¬id2=0:=by omega
 have hid0':¬0=id2:=by omega
 cases G3 with
 | false =>
  rw [if_neg (by simp)] at hpv
  subst hpv
  simp -dsimp [q1]
 | true =>
  rw [if_pos rfl] at hpv
  subst hpv
  have hb3:=hspb (updM m2 0 (some (.box 102 2 [.v (.int .i64 G2),.sv id2 0 G1.length]))) id2 (by simp -dsimp [hid0,hm2]) 2
  simp -dsimp [q1,hid0,hid0',hb3,spsV]
end TL

namespace TL
open Go Go.Proofs
attribute [local simp] marksV storyV codeV Claim.v Place.v numsV
def IkoS (ks:List Int) (e:Nat) (s:S):Prop:=∃ i:Nat,s.tm 0=.v (.sl (ks.map (V.int .i64)))∧s.tm 3=.v (.int .i64 i)∧i≤ks.length∧(e=1→i=ks.length)
theorem kindsOkS_fn (ks:List Int) (hk:kinds3 ks) (h1:1≤ks.length) (h4:ks.length≤4):FnZ Tryz.prog 172 [numsV ks] (.bool true):=by
 have hpo:=l1In_fn (ks.length:Int) 1 4
 have hpt:inR (ks.length:Int) 1 4=true:=(inR_true ..).2 (by omega)
 rw [hpt] at hpo
 refine FZ (rs:=[.tmp 2]) false Tryz.func172 ?_
 simp -dsimp [numsV]
 refine twp_loopC (IkoS ks 0) (fun s=>ks.length-natOf (s.tm 3)) (IkoS ks 1) ?_ ?_ ?_
 ·exact ⟨0,by simp -dsimp,by simp -dsimp,by omega,by simp⟩
 ·rintro s ⟨i,t0,t3,hi,hend⟩
  by_cases hlt:i<ks.length
  case neg =>
   simp -dsimp [t0,t3,hlt]
   exact ⟨i,by simp -dsimp [t0],by simp -dsimp [t3],hi,fun _=>by omega⟩
  have hget:(ks.map (V.int .i64))[i]? = some (.int .i64 ks[i]):=by simp [hlt]
  have wi:IntKind.wrap .i64 ((i:Int)+1)=((i+1:Nat):Int):=by rw [w64 (by omega) (by omega)]; omega
  have hmu1:ks.length-(i+1)<ks.length-i:=by omega
  have hin:=l1In_fn ks[i] 0 2
  have hit:inR ks[i] 0 2=true:=(inR_true ..).2 (by rcases kinds3_at hk hlt with hv | hv | hv <;> rw [hv] <;> omega)
  rw [hit] at hin
  simp -dsimp [t0,t3,hlt,hget]
  refine cl hin ?_
  simp -dsimp [t0,t3,hlt,wi,hmu1]
  exact ⟨i+1,by simp -dsimp [t0],by simp -dsimp,by omega,by simp⟩
 ·rintro s ⟨i,t0,t3,hi,hend⟩
  simp -dsimp [t0]
  refine cl hpo ?_
  simp -dsimp
def IwkS (ks:List Int) (e:Nat) (s:S):Prop:=∃ i:Nat,s.tm 0=.v (.sl (ks.map (V.int .i64)))∧s.tm 4=.v (.int .i64 i)∧s.tm 3=.v (.int .i64 (tabN i fun i=>decide (ks[i]? = some 1)))∧i≤ks.length∧(e=1→i=ks.length)
theorem l9World_fn (ks:List Int) (h4:ks.length≤4):FnZ Tryz.prog 206 [numsV ks] (.int .i64 (worldK ks)):=by
 refine FZ (rs:=[.tmp 2]) false Tryz.func206 ?_
 simp -dsimp [numsV]
 refine twp_loopC (IwkS ks 0) (fun s=>ks.length-natOf (s.tm 4)) (IwkS ks 1) ?_ ?_ ?_
 ·exact ⟨0,by simp -dsimp,by simp -dsimp,by simp -dsimp [tabN],by omega,by simp⟩
 ·rintro s ⟨i,t0,t4,t3,hi,hend⟩
  by_cases hlt:i<ks.length
  case neg =>
   simp -dsimp [t0,t4,hlt]
   exact ⟨i,by simp -dsimp [t0],by simp -dsimp [t4],by simp -dsimp [t3],hi,fun _=>by omega⟩
  have hget:(ks.map (V.int .i64))[i]? = some (.int .i64 ks[i]):=by simp [hlt]
  have hg2:ks[i]? = some ks[i]:=List.getElem?_eq_getElem hlt
  have wi:IntKind.wrap .i64 ((i:Int)+1)=((i+1:Nat):Int):=by rw [w64 (by omega) (by omega)]; omega
  have hmu1:ks.length-(i+1)<ks.length-i:=by omega
  have z1:¬(i:Int)<0:=by omega
  have hb:=tabN_lt (fun i=>decide (ks[i]? = some 1)) i
  have hp:2 ^ i≤2 ^ 16:=Nat.pow_le_pow_right (by omega) (by omega)
  have h2:(2:Nat) ^ i<4611686018427387904:=by omega
  have wsh:IntKind.wrap .i64 (2 ^ min i IntKind.i64.bits)=((2 ^ i:Nat):Int):=by rw [shl_fact (by omega)]; simp
  have hor:=or_ni (a:=tabN i fun i=>decide (ks[i]? = some 1)) (b:=2 ^ i) (x:=(2:Int) ^ i) (by simp) (by omega) h2
  have hsucc:tabN (i+1) (fun i=>decide (ks[i]? = some 1))=if decide (ks[i]? = some 1)=true then tabN i (fun i=>decide (ks[i]? = some 1)) ||| 2 ^ i else tabN i (fun i=>decide (ks[i]? = some 1)):=rfl
  obtain ⟨A,hA⟩:∃ A,tabN i (fun i=>decide (ks[i]? = some 1))=A:=⟨_,rfl⟩
  rw [hA] at t3 hor hsucc
  by_cases hv:ks[i]=1
  ·rw [hg2,hv,if_pos (by simp)] at hsucc
   simp -dsimp [t0,t3,t4,hlt,hv,wi,hmu1,wsh,hor,z1]
   exact ⟨i+1,by simp -dsimp [t0],by simp -dsimp,by simp -dsimp [hsucc],by omega,by simp⟩
  ·rw [hg2,if_neg (by simp [hv])] at hsucc
   simp -dsimp [t0,t3,t4,hlt,wi,hmu1,wsh,hor,z1,hv]
   exact ⟨i+1,by simp -dsimp [t0],by simp -dsimp,by simp -dsimp [t3,hsucc],by omega,by simp⟩
 ·rintro s ⟨i,t0,t4,t3,hi,hend⟩
  have:=hend rfl
  subst this
  have e:tabN ks.length (fun i=>decide (ks[i]? = some 1))=worldK ks:=rfl
  rw [e] at t3
  simp -dsimp [t3]
theorem spySaysS_fn (ks:List Int) (c:Claim) (hk:kinds3 ks) (h:claimOk (ks.length:Nat) c=true):FnZ Tryz.prog 173 [numsV ks,c.v] (.bool (saysB ks c)):=by
 obtain ⟨hp1,hp4,h0,h1,ht,hl,hr⟩:=claim_facts h
 have hok:=kindsOkS_fn ks hk (by omega) (by omega)
 have hck:=claimOkS_fn (ks.length:Nat) c (claim_fine h).1
 rw [h] at hck
 have hwk:=l9World_fn ks (by omega)
 have hms:=l4May_fn _ c h (worldK ks) (worldK_lt (by omega))
 obtain ⟨k,hk0⟩:=Int.eq_ofNat_of_zero_le h0
 have hkl:k<ks.length:=by omega
 have e:saysB ks c=(decide (ks[k]=2) || mayB c (worldK ks)):=by
  unfold saysB
  rw [hk0,Int.toNat_natCast,List.getElem?_eq_getElem hkl]; simp
 have hget:(ks.map (V.int .i64))[k]? = some (.int .i64 ks[k]):=by simp [hkl]
 rw [e]
 obtain ⟨B,hB⟩:∃ B,mayB c (worldK ks)=B:=⟨_,rfl⟩
 rw [hB] at hms ⊢
 obtain ⟨who,says⟩:=c
 simp only at hk0
 subst hk0
 have z1:¬(k:Int)<0:=by omega
 by_cases hv:ks[k]=2
 ·rw [hv]
  refine FZ (rs:=[.tmp 4]) false Tryz.func173 ?_
  simp -dsimp [numsV]
  refine call_ hok (by simp -dsimp [numsV]) ?_
  simp -dsimp
  refine cl hck ?_
  simp -dsimp
  refine twd (List.range 13) [0] (List.replicate 13 [0]) (List.replicate 13 [0]) ?_
  simp -dsimp [List.range_succ,hkl,hv,z1]
 ·refine FZ (rs:=[.tmp 4]) false Tryz.func173 ?_
  simp -dsimp [numsV]
  refine call_ hok (by simp -dsimp [numsV]) ?_
  simp -dsimp
  refine cl hck ?_
  simp -dsimp
  refine twd (List.range 13) [0] (List.replicate 13 [0]) (List.replicate 13 [0]) ?_
  simp -dsimp [List.range_succ,hkl,z1,hv]
  refine call_ hwk (by simp -dsimp [numsV]) ?_
  simp -dsimp [hkl,z1,hv]
  refine cl hms ?_
  simp -dsimp [hv]
def IssS (ks:List Int) (l:List Claim) (e:Nat) (s:S):Prop:=∃ i:Nat,s.tm 0=.v (.sl (ks.map (V.int .i64)))∧s.tm 1=.v (.sl (l.map Claim.v))∧s.tm 5=.v (.int .i64 i)∧i≤l.length∧(l.take i).all (saysB ks)=true∧(e=1→i=l.length)
theorem spyStoryS_fn (ks:List Int) (l:List Claim) (hk:kinds3 ks) (h:storyOk (ks.length:Nat) l=true):FnZ Tryz.prog 129 [numsV ks,storyV l] (.bool (spyOk l ks)):=by
 obtain ⟨h1,h4,hc,h6⟩:=allOk_of h
 have hok:=kindsOkS_fn ks hk (by omega) (by omega)
 have hst:=storyOkS_fn (ks.length:Nat) l (by omega) fun c hx=>(claim_fine (hc c hx)).1
 rw [h] at hst
 refine FZ (rs:=[.tmp 4]) false Tryz.func129 ?_
 simp -dsimp [numsV]
 refine call_ hok (by simp -dsimp [numsV]) ?_
 simp -dsimp
 refine cl hst ?_
 simp -dsimp
 refine twp_loopC (IssS ks l 0) (fun s=>l.length-natOf (s.tm 5)) (IssS ks l 1) ?_ ?_ ?_
 ·exact ⟨0,by simp -dsimp,by simp -dsimp,by simp -dsimp,by omega,by simp,by simp⟩
 ·rintro s ⟨i,t0,t1,t5,hi,hall,hend⟩
  by_cases hlt:i<l.length
  case neg =>
   simp -dsimp [t1,t5,hlt]
   exact ⟨i,by simp -dsimp [t0],by simp -dsimp [t1],by simp -dsimp [t5],hi,hall,fun _=>by omega⟩
  have hget:(l.map Claim.v)[i]? = some (l[i].v):=by simp [hlt]
  have wi:IntKind.wrap .i64 ((i:Int)+1)=((i+1:Nat):Int):=by rw [w64 (by omega) (by omega)]; omega
  have hmu1:l.length-(i+1)<l.length-i:=by omega
  have hss:=spySaysS_fn ks l[i] hk (hc _ (List.getElem_mem hlt))
  have hnx:(l.take (i+1)).all (saysB ks)=((l.take i).all (saysB ks) && saysB ks l[i]):=by
   rw [List.take_succ_eq_append_getElem hlt,List.all_append]; simp
  have hwhole:saysB ks l[i]=false→spyOk l ks=false:=fun hf=>by
   unfold spyOk
   cases hq:l.all (saysB ks) with
   | false=>rfl
   | true=>rw [List.all_eq_true.1 hq _ (List.getElem_mem hlt)] at hf; cases hf
  simp -dsimp [t0,t1,t5,hlt,hget,claim_cellsE]
  refine call_ hss (by simp -dsimp [numsV]) ?_
  have hb:=ft (saysB ks l[i])
  rcases hb with hb | hb
  ·have hw:=hwhole hb
   simp -dsimp [hb,hw]
  ·rw [hall,hb] at hnx
   simp -dsimp [hb,t5,wi,hmu1]
   exact ⟨i+1,by simp -dsimp [t0],by simp -dsimp [t1],by simp -dsimp,by omega,by rw [hnx]; rfl,by simp⟩
 ·rintro s ⟨i,t0,t1,t5,hi,hall,hend⟩
  have:=hend rfl
  subst this
  rw [List.take_length] at hall
  have e:spyOk l ks=true:=hall
  simp -dsimp [e]
def Ikd (p n:Nat) (e:Nat) (s:S):Prop:=∃ i id:Nat,s.tm 0=.v (.int .i64 p)∧s.tm 1=.v (.int .i64 (n / 3 ^ i:Nat))∧s.tm 5=.loc id∧id<s.n∧s.mu=false∧s.m id=some (.arr 3 ((kd i n).map (V.int .i64)))∧s.tm 6=.v (.int .i64 i)∧i≤p∧(e=1→i=p)
theorem kd_next (i n:Nat):kd (i+1) n=kd i n++[((n / 3 ^ i % 3:Nat):Int)]:=by
 unfold kd; rw [List.range_succ,List.map_append]; rfl
theorem l9Kinds_fn (p n:Nat) (hp:p≤4) (hn:n≤1000):FnZ Tryz.prog 128 [.int .i64 p,.int .i64 n] (numsV (kd p n)):=by
 refine FZ (rs:=[.tmp 4]) false Tryz.func128 ?_
 simp -dsimp
 refine twp_loopC (Ikd p n 0) (fun s=>p-natOf (s.tm 6)) (Ikd p n 1) ?_ ?_ ?_
 ·exact ⟨0,0,by simp -dsimp,by simp -dsimp,by simp -dsimp,by simp -dsimp,by simp -dsimp,by simp -dsimp [kd],by simp -dsimp,by omega,by simp⟩
 ·rintro s ⟨i,id,t0,t1,t5,hid,hmu,hm,t6,hi,hend⟩
  by_cases hlt:i<p
  case neg =>
   simp -dsimp [t0,t6,hlt]
   exact ⟨i,id,by simp -dsimp [t0],by simp -dsimp [t1],by simp -dsimp [t5],by simp -dsimp; omega,by simp -dsimp [hmu],by simp -dsimp [hm],by simp -dsimp [t6],hi,fun _=>by omega⟩
  have wi:IntKind.wrap .i64 ((i:Int)+1)=((i+1:Nat):Int):=by rw [w64 (by omega) (by omega)]; omega
  have hmu1:p-(i+1)<p-i:=by omega
  have f1:=far hid
  have hq:n / 3 ^ i≤n:=Nat.div_le_self _ _
  have e2:n / 3 ^ (i+1)=n / 3 ^ i / 3:=by rw [Nat.pow_succ,Nat.div_div_eq_div_mul]
  have hnx:=kd_next i n
  have hkl:=kd_len i n
  obtain ⟨q,hQ⟩:∃ q,n / 3 ^ i=q:=⟨_,rfl⟩
  rw [hQ] at t1 hq e2 hnx
  have r1:((q:Int)).tmod 3=((q % 3:Nat):Int):=by rw [Int.tmod_eq_emod_of_nonneg (by omega)]; omega
  have r2:((q:Int)).tdiv 3=((q / 3:Nat):Int):=by rw [Int.tdiv_eq_ediv_of_nonneg (by omega)]; omega
  have w3:IntKind.wrap .i64 ((q / 3:Nat):Int)=((q / 3:Nat):Int):=w64 (by omega) (by omega)
  have b1:(i+1) * 8≤140737488355328:=by omega
  obtain ⟨y,hY⟩:∃ y,q % 3=y:=⟨_,rfl⟩
  obtain ⟨z,hZ⟩:∃ z,q / 3=z:=⟨_,rfl⟩
  rw [hY] at r1 hnx
  rw [hZ] at r2 w3 e2
  simp -dsimp [t0,t1,t5,t6,hlt,hm,hmu,r1,r2,w3,b1,f1,wi,hmu1,hkl,nes]
  refine st_out fun s' ht hm' hn' hu' => ?_
  have a0:=ht 0
  have a1:=ht 1
  have a5:=ht 5
  have a6:=ht 6
  simp -dsimp [t0] at a0 a1 a5 a6 hm' hn' hu'
  clear ht
  refine ⟨i+1,_,a0,by rw [a1,e2],a5,by omega,by rw [hu',hmu], ?_,a6,by omega,by simp⟩
  rw [hnx,List.map_append]; simp [hm',nes]
 ·rintro s ⟨i,id,t0,t1,t5,hid,hmu,hm,t6,hi,hend⟩
  have:=hend rfl
  subst this
  simp -dsimp [t5,hm]
def Irows (p:Nat) (e:Nat) (s:S):Prop:=∃ i:Nat,s.tm 0=.v (.int .i64 p)∧s.tm 3=.v (.int .i64 (3 ^ i:Nat))∧s.tm 4=.v (.int .i64 i)∧i≤p∧(e=1→i=p)
theorem l9Rows_fn (p:Nat) (hp:p≤4):FnZ Tryz.prog 127 [.int .i64 p] (.int .i64 (3 ^ p:Nat)):=by
 refine FZ (rs:=[.tmp 2]) false Tryz.func127 ?_
 simp -dsimp
 refine twp_loopC (Irows p 0) (fun s=>p-natOf (s.tm 4)) (Irows p 1) ?_ ?_ ?_
 ·exact ⟨0,by simp -dsimp,by simp -dsimp,by simp -dsimp,by omega,by simp⟩
 ·rintro s ⟨i,t0,t3,t4,hi,hend⟩
  by_cases hlt:i<p
  case neg =>
   simp -dsimp [t0,t4,hlt]
   exact ⟨i,by simp -dsimp [t0],by simp -dsimp [t3],by simp -dsimp [t4],hi,fun _=>by omega⟩
  have wi:IntKind.wrap .i64 ((i:Int)+1)=((i+1:Nat):Int):=by rw [w64 (by omega) (by omega)]; omega
  have hmu1:p-(i+1)<p-i:=by omega
  have hpw:3 ^ i≤3 ^ 4:=Nat.pow_le_pow_right (by omega) (by omega)
  have e2:3 ^ (i+1)=3 ^ i * 3:=Nat.pow_succ ..
  obtain ⟨q,hQ⟩:∃ q,3 ^ i=q:=⟨_,rfl⟩
  rw [hQ] at t3 hpw e2
  have w3:IntKind.wrap .i64 ((q:Int) * 3)=((q * 3:Nat):Int):=by rw [w64 (by omega) (by omega)]; omega
  simp -dsimp [t0,t3,t4,hlt,w3,wi,hmu1]
  exact ⟨i+1,by simp -dsimp [t0],by simp -dsimp [e2],by simp -dsimp,by omega,by simp⟩
 ·rintro s ⟨i,t0,t3,t4,hi,hend⟩
  have:=hend rfl
  subst this
  simp -dsimp [t3]
def Ispn (ks:List Int) (e:Nat) (s:S):Prop:=∃ i:Nat,s.tm 0=.v (.sl (ks.map (V.int .i64)))∧s.tm 3=.v (.int .i64 (spN (ks.take i)))∧s.tm 4=.v (.int .i64 i)∧i≤ks.length∧(e=1→i=ks.length)
theorem l9Spies_fn (ks:List Int) (h4:ks.length≤4):FnZ Tryz.prog 130 [numsV ks] (.int .i64 (spN ks)):=by
 refine FZ (rs:=[.tmp 2]) false Tryz.func130 ?_
 simp -dsimp [numsV]
 refine twp_loopC (Ispn ks 0) (fun s=>ks.length-natOf (s.tm 4)) (Ispn ks 1) ?_ ?_ ?_
 ·exact ⟨0,by simp -dsimp,by simp -dsimp [spN],by simp -dsimp,by omega,by simp⟩
 ·rintro s ⟨i,t0,t3,t4,hi,hend⟩
  by_cases hlt:i<ks.length
  case neg =>
   simp -dsimp [t0,t4,hlt]
   exact ⟨i,by simp -dsimp [t0],by simp -dsimp [t3],by simp -dsimp [t4],hi,fun _=>by omega⟩
  have hget:(ks.map (V.int .i64))[i]? = some (.int .i64 ks[i]):=by simp [hlt]
  have wi:IntKind.wrap .i64 ((i:Int)+1)=((i+1:Nat):Int):=by rw [w64 (by omega) (by omega)]; omega
  have hmu1:ks.length-(i+1)<ks.length-i:=by omega
  have hsp:spN (ks.take (i+1))=spN (ks.take i)+(if ks[i]=2 then 1 else 0):=by
   unfold spN
   rw [List.take_succ_eq_append_getElem hlt,List.count_append]
   by_cases h:ks[i]=2 <;> simp [h,List.count_cons]
  have hle:=spN_le (ks.take i)
  rw [List.length_take] at hle
  obtain ⟨q,hQ⟩:∃ q,spN (ks.take i)=q:=⟨_,rfl⟩
  rw [hQ] at t3 hsp hle
  have wq:IntKind.wrap .i64 ((q:Int)+1)=(q:Int)+1:=w64 (by omega) (by omega)
  by_cases hv:ks[i]=2
  ·rw [if_pos hv] at hsp
   simp -dsimp [t0,t3,t4,hlt,hget,hv,wi,hmu1,wq]
   exact ⟨i+1,by simp -dsimp [t0],by simp -dsimp [hsp],by simp -dsimp,by omega,by simp⟩
  ·rw [if_neg hv] at hsp
   simp -dsimp [t0,t3,t4,hlt,hget,hv,wi,hmu1]
   exact ⟨i+1,by simp -dsimp [t0],by simp -dsimp [t3,hsp],by simp -dsimp,by omega,by simp⟩
 ·rintro s ⟨i,t0,t3,t4,hi,hend⟩
  have:=hend rfl
  subst this
  rw [List.take_length] at t3
  simp -dsimp [t3]
def IfsS (p N:Nat) (l:List Claim) (e:Nat) (s:S):Prop:=∃ n:Nat,s.tm 0=.v (.int .i64 p)∧s.tm 1=.v (.sl (l.map Claim.v))∧s.tm 5=.v (.int .i64 (bestK (spyOk l) p n))∧s.tm 6=.v (.int .i64 n)∧n≤N∧(e=1→n=N)
theorem fewestSpiesS_fn (p:Nat) (l:List Claim) (h:storyOk p l=true):FnZ Tryz.prog 79 [.int .i64 p,storyV l] (.int .i64 (fewest (spyOk l) p)):=by
 obtain ⟨h1,h4,hc,h6⟩:=allOk_of h
 have hok:=storyOkS_fn p l (by omega) fun c hx=>(claim_fine (hc c hx)).1
 rw [h] at hok
 have hrw:=l9Rows_fn p (by omega)
 have he:=bestK_eq (spyOk_all (p:=p) hc)
 rw [← he]
 have hpw:3 ^ p≤3 ^ 4:=Nat.pow_le_pow_right (by omega) (by omega)
 have hkd:=fun n (hn:n<3 ^ p)=>l9Kinds_fn p n (by omega) (by omega)
 have hss:=fun n=>spyStoryS_fn (kd p n) l (kd_kinds p n) (by rw [kd_len]; exact h)
 have hsp:=fun n=>l9Spies_fn (kd p n) (by rw [kd_len]; omega)
 have hpl:=fun n=>bestK_le (spyOk l) p n
 have hstep:∀ n,bestK (spyOk l) p (n+1)=if spyOk l (kd p n)=true then min (bestK (spyOk l) p n) (spN (kd p n)) else bestK (spyOk l) p n:=fun n=>rfl
 obtain ⟨N,hNN⟩:∃ N,3 ^ p=N:=⟨_,rfl⟩
 rw [hNN] at hrw hpw hkd ⊢
 refine FZ (rs:=[.tmp 4]) false Tryz.func79 ?_
 simp -dsimp
 refine cl hok ?_
 simp -dsimp
 refine twp_loopC (IfsS p N l 0) (fun s=>N-natOf (s.tm 6)) (IfsS p N l 1) ?_ ?_ ?_
 ·exact ⟨0,by simp -dsimp,by simp -dsimp,by simp -dsimp [bestK],by simp -dsimp,by omega,by simp⟩
 ·rintro s ⟨n,t0,t1,t5,t6,hn,hend⟩
  by_cases hlt:n<N
  case neg =>
   simp -dsimp [t0,t6]
   refine cl hrw ?_
   simp -dsimp [t0,t6,hlt]
   exact ⟨n,by simp -dsimp [t0],by simp -dsimp [t1],by simp -dsimp [t5],by simp -dsimp [t6],hn,fun _=>by omega⟩
  have wi:IntKind.wrap .i64 ((n:Int)+1)=((n+1:Nat):Int):=by rw [w64 (by omega) (by omega)]; omega
  have hmu1:N-(n+1)<N-n:=by omega
  have hkn:=hkd n hlt
  have hsn:=hss n
  have hpn:=hsp n
  have hst:=hstep n
  obtain ⟨K,hK⟩:∃ K,kd p n=K:=⟨_,rfl⟩
  rw [hK] at hkn hsn hpn hst
  obtain ⟨B,hB⟩:∃ B,bestK (spyOk l) p n=B:=⟨_,rfl⟩
  rw [hB] at t5 hst
  have hb:=ft (spyOk l K)
  rcases hb with hb | hb
  ·rw [hb] at hst hsn
   simp -dsimp [t0,t6]
   refine cl hrw ?_
   simp -dsimp [t0,t6,hlt]
   refine cl hkn ?_
   simp -dsimp [t1]
   refine cl hsn ?_
   simp -dsimp [t0,t5,t6,wi,hmu1]
   exact ⟨n+1,by simp -dsimp [t0],by simp -dsimp [t1],by simp -dsimp [t5,hst],by simp -dsimp,by omega,by simp⟩
  ·rw [hb] at hst hsn
   simp -dsimp [t0,t6]
   refine cl hrw ?_
   simp -dsimp [t0,t6,hlt]
   refine cl hkn ?_
   simp -dsimp [t1]
   refine cl hsn ?_
   simp -dsimp [t0,t5,t6]
   refine cl hpn ?_
   have hmn:((min B (spN K):Nat):Int)=min (B:Int) (spN K:Int):=by omega
   simp -dsimp [t0,t5,t6,wi,hmu1]
   exact ⟨n+1,by simp -dsimp [t0],by simp -dsimp [t1],by simp -dsimp [hst,hmn],by simp -dsimp,by omega,by simp⟩
 ·rintro s ⟨n,t0,t1,t5,t6,hn,hend⟩
  have:=hend rfl
  subst this
  simp -dsimp [t5]
end TL

namespace TL
open Go Go.Proofs
attribute [local simp] marksV storyV codeV Claim.v Place.v numsV natsV
theorem answer_place (p:Nat) (l:List Claim) (h:storyOk p l=true):FnZ Tryz.prog 25 [(⟨p,l⟩:Place).v,.str wPlace] (.str (placeTx ⟨p,l⟩)):=by
 obtain ⟨h1,h4,hc,h6⟩:=allOk_of h
 have hst:=storyTable_fn p l (by omega) (by omega) (by omega) hc
 have hpl:=placeText_fn ⟨p,l⟩ (by simp only; omega)
 generalize placeTx ⟨p,l⟩=r at *
 refine FZ (rs:=[.tmp 4]) false Tryz.func25 ?_
 simp -dsimp
 refine cl hst ?_
 simp -dsimp [wPlace]
 refine cl hpl ?_
 simp -dsimp
theorem answer_worlds (p:Nat) (l:List Claim) (h:storyOk p l=true):FnZ Tryz.prog 25 [(⟨p,l⟩:Place).v,.str wWorlds] (.str (rowTx ((sw p l).map fun w=>((w:Nat):Int)))):=by
 obtain ⟨h1,h4,hc,h6⟩:=allOk_of h
 have hst:=storyTable_fn p l (by omega) (by omega) (by omega) hc
 have hwi:=worldsIn_fn p (storyTab p l) (storyTab_ok (by omega) (by omega) l) (by omega) (by omega)
 have hsl:=sw_len (p:=p) (by omega) l
 have hrt:=rowText_fn ((sw p l).map fun w=>((w:Nat):Int)) (by simpa using hsl) (fun n hn=>by obtain ⟨w,hw,rfl⟩:=List.mem_map.1 hn; have:=sw_lt (p:=p) (by omega) hw; omega)
 have e0:worldsOf p (storyTab p l)=sw p l:=rfl
 rw [e0] at hwi
 generalize rowTx ((sw p l).map fun w=>((w:Nat):Int))=r at *
 refine FZ (rs:=[.tmp 4]) false Tryz.func25 ?_
 simp -dsimp
 refine cl hst ?_
 simp -dsimp [wWorlds]
 refine cl hwi ?_
 simp -dsimp
 refine cl hrt ?_
 simp -dsimp
theorem onlyV_le {p:Nat} (h4:p≤4) (l:List Claim):onlyV p l≤99:=by
 unfold onlyV
 split
 ·rename_i w hw
  have:=sw_lt (p:=p) (l:=l) (w:=w) h4 (by rw [hw]; simp)
  omega
 ·omega
theorem answer_only (p:Nat) (l:List Claim) (h:storyOk p l=true):FnZ Tryz.prog 25 [(⟨p,l⟩:Place).v,.str wOnly] (.str (numTx (onlyV p l))):=by
 obtain ⟨h1,h4,hc,h6⟩:=allOk_of h
 have hst:=storyTable_fn p l (by omega) (by omega) (by omega) hc
 have how:=onlyWorld_fn p l h
 have hnt:=numberText_fn (onlyV p l) (onlyV_le (by omega) l)
 generalize numTx (onlyV p l)=r at *
 refine FZ (rs:=[.tmp 4]) false Tryz.func25 ?_
 simp -dsimp
 refine cl hst ?_
 simp -dsimp [wOnly]
 refine cl how ?_
 simp -dsimp
 refine cl hnt ?_
 simp -dsimp
theorem answer_known (p:Nat) (l:List Claim) (h:storyOk p l=true):FnZ Tryz.prog 25 [(⟨p,l⟩:Place).v,.str wKnown] (.str (rowTx (knownL p l))):=by
 obtain ⟨h1,h4,hc,h6⟩:=allOk_of h
 have hst:=storyTable_fn p l (by omega) (by omega) (by omega) hc
 have hkp:=knownPeople_fn p l h
 have hkl:(knownL p l).length≤16:=by unfold knownL; split <;> simp; omega
 have hrt:=rowText_fn (knownL p l) hkl (fun n hn=>by
  unfold knownL at hn
  split at hn
  ·cases hn
  ·obtain ⟨i,_,rfl⟩:=List.mem_map.1 hn
   have:=knownOf_le (sw p l) i; omega)
 generalize rowTx (knownL p l)=r at *
 refine FZ (rs:=[.tmp 4]) false Tryz.func25 ?_
 simp -dsimp
 refine cl hst ?_
 simp -dsimp [wKnown]
 refine cl hkp ?_
 simp -dsimp
 refine cl hrt ?_
 simp -dsimp
theorem answer_needless (p:Nat) (l:List Claim) (h:storyOk p l=true):FnZ Tryz.prog 25 [(⟨p,l⟩:Place).v,.str wNeedless] (.str (rowTx ((needless p l).map fun w=>((w:Nat):Int)))):=by
 obtain ⟨h1,h4,hc,h6⟩:=allOk_of h
 have hst:=storyTable_fn p l (by omega) (by omega) (by omega) hc
 have hnd:=needless_fn p l h
 have hnl:(needless p l).length≤l.length:=by
  have:=List.length_filter_le (fun i=>decide (storyTab p (l.eraseIdx i)=storyTab p l)) (List.range l.length)
  simpa [needless] using this
 have hrt:=rowText_fn ((needless p l).map fun w=>((w:Nat):Int)) (by simp only [List.length_map]; omega) (fun n hn=>by
  obtain ⟨w,hw,rfl⟩:=List.mem_map.1 hn
  have:=(List.mem_filter.1 hw).1
  simp at this; omega)
 generalize rowTx ((needless p l).map fun w=>((w:Nat):Int))=r at *
 refine FZ (rs:=[.tmp 4]) false Tryz.func25 ?_
 simp -dsimp
 refine cl hst ?_
 simp -dsimp [wNeedless]
 refine cl hnd ?_
 simp -dsimp
 refine cl hrt ?_
 simp -dsimp
theorem answer_spies (p:Nat) (l:List Claim) (h:storyOk p l=true):FnZ Tryz.prog 25 [(⟨p,l⟩:Place).v,.str wSpies] (.str (numTx (fewest (spyOk l) p))):=by
 obtain ⟨h1,h4,hc,h6⟩:=allOk_of h
 have hst:=storyTable_fn p l (by omega) (by omega) (by omega) hc
 have hfs:=fewestSpies_fn p l h
 have hle:=(fewest_spec (spyOk_all (p:=p) hc)).1
 have hnt:=numberText_fn (fewest (spyOk l) p:Nat) (by omega)
 generalize numTx (fewest (spyOk l) p:Nat)=r at *
 refine FZ (rs:=[.tmp 4]) false Tryz.func25 ?_
 simp -dsimp
 refine cl hst ?_
 simp -dsimp [wSpies]
 refine cl hfs ?_
 simp -dsimp
 refine cl hnt ?_
 simp -dsimp
theorem answer_asks (p:Nat) (l:List Claim) (h:storyOk p l=true):FnZ Tryz.prog 25 [(⟨p,l⟩:Place).v,.str wAsks] (.str (numTx (la p (storyTab p l)))):=by
 obtain ⟨h1,h4,hc,h6⟩:=allOk_of h
 have hst:=storyTable_fn p l (by omega) (by omega) (by omega) hc
 have hla:=leastAsks_fn p (storyTab p l)
 have hT:InT p (storyTab p l):=storyTab_le p l
 have hle:la p (storyTab p l)≤99:=by
  rw [la_ok (by omega) (by omega) hT]
  have:=lv_lt (m:=p) (by omega) hT
  omega
 have hnt:=numberText_fn (la p (storyTab p l)) hle
 generalize numTx (la p (storyTab p l))=r at *
 refine FZ (rs:=[.tmp 4]) false Tryz.func25 ?_
 simp -dsimp
 refine cl hst ?_
 simp -dsimp [wAsks]
 refine cl hla ?_
 simp -dsimp
 refine cl hnt ?_
 simp -dsimp
end TL

namespace TL
open Go Go.Proofs
attribute [local simp] marksV storyV codeV Claim.v Place.v numsV natsV
/-- A line that is none of the seven words. -/
def noWord (line:List UInt8):Prop:=¬line=wPlace∧¬line=wWorlds∧¬line=wOnly∧¬line=wKnown∧¬line=wNeedless∧¬line=wSpies∧¬line=wAsks
theorem cut_rest_le (s c:List UInt8):(Go.Lib.cut s c).2.1.length≤s.length:=by
 unfold Go.Lib.cut
 split
 ·simp only [List.length_drop]; omega
 ·simp
theorem worldsOf_le {p:Nat} (h4:p≤4) (n:Nat):(worldsOf p n).length≤16:=by
 have h1:(worldsOf p n).length≤(List.range (2 ^ p)).length:=List.length_filter_le _ _
 have h2:=pow_small h4
 simp only [List.length_range] at h1; omega
theorem answer_none (p:Nat) (l:List Claim) (h:storyOk p l=true) (line:List UInt8) (hl:line.length≤2000000000) (hn:noWord line) (hr:readT p (Go.Lib.cut line [32]).2.1=none):FnZ Tryz.prog 25 [(⟨p,l⟩:Place).v,.str line] (.str wWhat):=by
 obtain ⟨h1,h4,hc,h6⟩:=allOk_of h
 have hst:=storyTable_fn p l (by omega) (by omega) (by omega) hc
 have hcut:=cut_fn line [32] (by omega)
 have hrl:(Go.Lib.cut line [32]).2.1.length≤line.length:=cut_rest_le line [32]
 have hrt:=readTerm_fn p (Go.Lib.cut line [32]).2.1 (by omega)
 obtain ⟨hn1,hn2,hn3,hn4,hn5,hn6,hn7⟩:=hn
 simp only [wPlace,wWorlds,wOnly,wKnown,wNeedless,wSpies,wAsks] at hn1 hn2 hn3 hn4 hn5 hn6 hn7
 obtain ⟨C,hC⟩:∃ C,Go.Lib.cut line [32]=C:=⟨_,rfl⟩
 obtain ⟨W,R,B⟩:=C
 rw [hC] at hcut hrt hrl hr
 simp only at hcut hrt hrl hr
 rw [hr] at hrt
 simp only [optV,Option.getD_none,Option.isSome_none] at hrt
 refine FZ (rs:=[.tmp 4]) false Tryz.func25 ?_
 simp -dsimp
 refine cl hst ?_
 simp -dsimp [hn1,hn2,hn3,hn4,hn5,hn6,hn7]
 refine cl hcut ?_
 simp -dsimp
 refine cl hrt ?_
 simp -dsimp [wWhat]
theorem answer_follows (p:Nat) (l:List Claim) (h:storyOk p l=true) (line:List UInt8) (hl:line.length≤2000000000) (hn:noWord line) (t:List Mark) (hr:readT p (Go.Lib.cut line [32]).2.1=some t) (hw:(Go.Lib.cut line [32]).1=wFollows):FnZ Tryz.prog 25 [(⟨p,l⟩:Place).v,.str line] (.str (if followsB p l t=true then wYes else wNo)):=by
 have hto:=(readT_is hr).2.1
 have hff:=followsFrom_fn p l t h hto
 obtain ⟨h1,h4,hc,h6⟩:=allOk_of h
 have hst:=storyTable_fn p l (by omega) (by omega) (by omega) hc
 have hcut:=cut_fn line [32] (by omega)
 have hrl:(Go.Lib.cut line [32]).2.1.length≤line.length:=cut_rest_le line [32]
 have hrt:=readTerm_fn p (Go.Lib.cut line [32]).2.1 (by omega)
 obtain ⟨hn1,hn2,hn3,hn4,hn5,hn6,hn7⟩:=hn
 simp only [wPlace,wWorlds,wOnly,wKnown,wNeedless,wSpies,wAsks] at hn1 hn2 hn3 hn4 hn5 hn6 hn7
 obtain ⟨C,hC⟩:∃ C,Go.Lib.cut line [32]=C:=⟨_,rfl⟩
 obtain ⟨W,R,B⟩:=C
 rw [hC] at hcut hrt hrl hr hw
 simp only at hcut hrt hrl hr hw
 rw [hr] at hrt
 simp only [optV,Option.getD_some,Option.isSome_some] at hrt
 have hb:=ft (followsB p l t)
 simp only [wFollows] at hw
 subst hw
 rcases hb with hb | hb
 ·rw [hb] at hff ⊢
  refine FZ (rs:=[.tmp 4]) false Tryz.func25 ?_
  simp -dsimp
  refine cl hst ?_
  simp -dsimp [hn1,hn2,hn3,hn4,hn5,hn6,hn7]
  refine cl hcut ?_
  simp -dsimp
  refine cl hrt ?_
  simp -dsimp
  refine cl hff ?_
  simp -dsimp [wNo]
 ·rw [hb] at hff ⊢
  refine FZ (rs:=[.tmp 4]) false Tryz.func25 ?_
  simp -dsimp
  refine cl hst ?_
  simp -dsimp [hn1,hn2,hn3,hn4,hn5,hn6,hn7]
  refine cl hcut ?_
  simp -dsimp
  refine cl hrt ?_
  simp -dsimp
  refine cl hff ?_
  simp -dsimp [wYes]
theorem answer_proof (p:Nat) (l:List Claim) (h:storyOk p l=true) (line:List UInt8) (hl:line.length≤2000000000) (hn:noWord line) (t:List Mark) (hr:readT p (Go.Lib.cut line [32]).2.1=some t) (hw:(Go.Lib.cut line [32]).1=wProof):FnZ Tryz.prog 25 [(⟨p,l⟩:Place).v,.str line] (.str (match findT p l t p 0 with
  | some y=>y.tx
  | none=>wNone)):=by
 have hto:=(readT_is hr).2.1
 have hfp:=findProof_fn p l t h hto
 have hfo:=fun y (hy:findT p l t p 0=some y)=>findT_ok p 0 y (Nat.le_refl _) hy
 obtain ⟨o,ho⟩:∃ o,findT p l t p 0=o:=⟨_,rfl⟩
 rw [ho] at hfp hfo ⊢
 obtain ⟨h1,h4,hc,h6⟩:=allOk_of h
 have hst:=storyTable_fn p l (by omega) (by omega) (by omega) hc
 have hcut:=cut_fn line [32] (by omega)
 have hrl:(Go.Lib.cut line [32]).2.1.length≤line.length:=cut_rest_le line [32]
 have hrt:=readTerm_fn p (Go.Lib.cut line [32]).2.1 (by omega)
 obtain ⟨hn1,hn2,hn3,hn4,hn5,hn6,hn7⟩:=hn
 simp only [wPlace,wWorlds,wOnly,wKnown,wNeedless,wSpies,wAsks] at hn1 hn2 hn3 hn4 hn5 hn6 hn7
 obtain ⟨C,hC⟩:∃ C,Go.Lib.cut line [32]=C:=⟨_,rfl⟩
 obtain ⟨W,R,B⟩:=C
 rw [hC] at hcut hrt hrl hr hw
 simp only at hcut hrt hrl hr hw
 rw [hr] at hrt
 simp only [optV,Option.getD_some,Option.isSome_some] at hrt
 simp only [wProof] at hw
 subst hw
 cases o with
 | none =>
  obtain ⟨PV,hPV⟩:∃ x,proofV none=.agg [.int .i64 0,.sl x]:=⟨_,rfl⟩
  rw [hPV] at hfp
  simp only [Option.isSome_none] at hfp
  refine FZ (rs:=[.tmp 4]) false Tryz.func25 ?_
  simp -dsimp
  refine cl hst ?_
  simp -dsimp [hn1,hn2,hn3,hn4,hn5,hn6,hn7]
  refine cl hcut ?_
  simp -dsimp
  refine cl hrt ?_
  simp -dsimp
  refine cl hfp ?_
  simp -dsimp [wNone]
 | some y =>
  obtain ⟨y1,y2⟩:=hfo y rfl
  rw [Nat.sub_self] at y1
  have hp2:=pow_small (p:=p) (by omega)
  have hpt:=proofText_fn p l t h hto y y1 (by omega)
  obtain ⟨F,hF⟩:∃ F,y.to 0=F:=⟨_,rfl⟩
  obtain ⟨rv,hrv⟩:∃ rv,(y.row 0).map Sp.v=rv:=⟨_,rfl⟩
  have hpv:proofV (some y)=.agg [.int .i64 F,.sl rv]:=by rw [← hF,← hrv]; rfl
  rw [hpv] at hfp hpt
  simp only [Option.isSome_some] at hfp
  obtain ⟨X,hX⟩:∃ X,y.tx=X:=⟨_,rfl⟩
  rw [hX] at hpt
  simp only [hX]
  refine FZ (rs:=[.tmp 4]) false Tryz.func25 ?_
  simp -dsimp
  refine cl hst ?_
  simp -dsimp [hn1,hn2,hn3,hn4,hn5,hn6,hn7]
  refine cl hcut ?_
  simp -dsimp
  refine cl hrt ?_
  simp -dsimp
  refine cl hfp ?_
  simp -dsimp
  refine cl hpt ?_
  simp -dsimp
theorem answer_count (p:Nat) (l:List Claim) (h:storyOk p l=true) (line:List UInt8) (hl:line.length≤2000000000) (hn:noWord line) (t:List Mark) (hr:readT p (Go.Lib.cut line [32]).2.1=some t) (hw:(Go.Lib.cut line [32]).1=wCount):FnZ Tryz.prog 25 [(⟨p,l⟩:Place).v,.str line] (.str (dec (((worldsOf p (storyTab p l &&& termTab p t)).length:Nat):Int))):=by
 have hto:=(readT_is hr).2.1
 have htt:=tableOf_fn p t hto
 have hs1:=storyTab_le p l
 have hs0:=storyTab_small (p:=p) (by have:=(allOk_of h).2.1; omega) l
 have ht0:=termTab_small (p:=p) (by have:=(allOk_of h).2.1; omega) t
 have hT:InT p (storyTab p l &&& termTab p t):=Nat.lt_of_le_of_lt Nat.and_le_left hs1
 have hwi:=worldsIn_fn p (storyTab p l &&& termTab p t) (tab_ok (by have:=(allOk_of h).1; omega) (by have:=(allOk_of h).2.1; omega) hT) (by have:=(allOk_of h).1; omega) (by have:=(allOk_of h).2.1; omega)
 have hle:=worldsOf_le (p:=p) (by have:=(allOk_of h).2.1; omega) (storyTab p l &&& termTab p t)
 have hand:=and_nn (a:=storyTab p l) (b:=termTab p t) (by omega) (by omega)
 obtain ⟨h1,h4,hc,h6⟩:=allOk_of h
 have hst:=storyTable_fn p l (by omega) (by omega) (by omega) hc
 have hcut:=cut_fn line [32] (by omega)
 have hrl:(Go.Lib.cut line [32]).2.1.length≤line.length:=cut_rest_le line [32]
 have hrt:=readTerm_fn p (Go.Lib.cut line [32]).2.1 (by omega)
 obtain ⟨hn1,hn2,hn3,hn4,hn5,hn6,hn7⟩:=hn
 simp only [wPlace,wWorlds,wOnly,wKnown,wNeedless,wSpies,wAsks] at hn1 hn2 hn3 hn4 hn5 hn6 hn7
 obtain ⟨C,hC⟩:∃ C,Go.Lib.cut line [32]=C:=⟨_,rfl⟩
 obtain ⟨W,R,B⟩:=C
 rw [hC] at hcut hrt hrl hr hw
 simp only at hcut hrt hrl hr hw
 rw [hr] at hrt
 simp only [optV,Option.getD_some,Option.isSome_some] at hrt
 have hit:=itoa_fn ((worldsOf p (storyTab p l &&& termTab p t)).length:Nat) (by omega) (by omega)
 simp only [wCount] at hw
 subst hw
 obtain ⟨A,hA⟩:∃ A,storyTab p l=A:=⟨_,rfl⟩
 obtain ⟨T,hT2⟩:∃ T,termTab p t=T:=⟨_,rfl⟩
 rw [hA] at hst hwi hle hand hit ⊢
 rw [hT2] at htt hwi hle hand hit ⊢
 obtain ⟨WS,hWS⟩:∃ WS,worldsOf p (A &&& T)=WS:=⟨_,rfl⟩
 rw [hWS] at hwi hle hit ⊢
 obtain ⟨D,hD⟩:∃ D,dec ((WS.length:Nat):Int)=D:=⟨_,rfl⟩
 rw [hD] at hit ⊢
 refine FZ (rs:=[.tmp 4]) false Tryz.func25 ?_
 simp -dsimp
 refine cl hst ?_
 simp -dsimp [hn1,hn2,hn3,hn4,hn5,hn6,hn7]
 refine cl hcut ?_
 simp -dsimp
 refine cl hrt ?_
 simp -dsimp
 refine twd (List.range 12) [0] (List.replicate 12 [0]) (List.replicate 12 [0]) ?_
 simp -dsimp [List.range_succ]
 refine cl htt ?_
 simp -dsimp [List.range_succ,hand]
 refine cl hwi ?_
 simp -dsimp
 refine cl hit ?_
 simp -dsimp
theorem answer_else (p:Nat) (l:List Claim) (h:storyOk p l=true) (line:List UInt8) (hl:line.length≤2000000000) (hn:noWord line) (t:List Mark) (hr:readT p (Go.Lib.cut line [32]).2.1=some t) (hw:¬(Go.Lib.cut line [32]).1=wFollows∧¬(Go.Lib.cut line [32]).1=wProof∧¬(Go.Lib.cut line [32]).1=wCount):FnZ Tryz.prog 25 [(⟨p,l⟩:Place).v,.str line] (.str (wWhat)):=by
 have hto:=(readT_is hr).2.1
 obtain ⟨h1,h4,hc,h6⟩:=allOk_of h
 have hst:=storyTable_fn p l (by omega) (by omega) (by omega) hc
 have hcut:=cut_fn line [32] (by omega)
 have hrl:(Go.Lib.cut line [32]).2.1.length≤line.length:=cut_rest_le line [32]
 have hrt:=readTerm_fn p (Go.Lib.cut line [32]).2.1 (by omega)
 obtain ⟨hn1,hn2,hn3,hn4,hn5,hn6,hn7⟩:=hn
 simp only [wPlace,wWorlds,wOnly,wKnown,wNeedless,wSpies,wAsks] at hn1 hn2 hn3 hn4 hn5 hn6 hn7
 obtain ⟨C,hC⟩:∃ C,Go.Lib.cut line [32]=C:=⟨_,rfl⟩
 obtain ⟨W,R,B⟩:=C
 rw [hC] at hcut hrt hrl hr hw
 simp only at hcut hrt hrl hr hw
 rw [hr] at hrt
 simp only [optV,Option.getD_some,Option.isSome_some] at hrt
 obtain ⟨w1,w2,w3⟩:=hw
 simp only [wFollows,wProof,wCount] at w1 w2 w3
 refine FZ (rs:=[.tmp 4]) false Tryz.func25 ?_
 simp -dsimp
 refine cl hst ?_
 simp -dsimp [hn1,hn2,hn3,hn4,hn5,hn6,hn7]
 refine cl hcut ?_
 simp -dsimp
 refine cl hrt ?_
 simp -dsimp [w1,w2,w3,wWhat]
theorem answer_fn (q:Place) (hq:placeOk q=true) (line:List UInt8) (hl:line.length≤2000000000):FnZ Tryz.prog 25 [q.v,.str line] (.str (ans q line)):=by
 obtain ⟨people,l⟩:=q
 have h:storyOk people l=true:=hq
 obtain ⟨p,rfl⟩:=Int.eq_ofNat_of_zero_le (show 0≤people by have:=(allOk_of h).1; omega)
 unfold ans
 simp only [Int.toNat_natCast]
 by_cases c1:line=wPlace
 ·rw [if_pos c1,c1]; exact answer_place p l h
 by_cases c2:line=wWorlds
 ·rw [if_neg c1,if_pos c2,c2]; exact answer_worlds p l h
 by_cases c3:line=wOnly
 ·rw [if_neg c1,if_neg c2,if_pos c3,c3]; exact answer_only p l h
 by_cases c4:line=wKnown
 ·rw [if_neg c1,if_neg c2,if_neg c3,if_pos c4,c4]; exact answer_known p l h
 by_cases c5:line=wNeedless
 ·rw [if_neg c1,if_neg c2,if_neg c3,if_neg c4,if_pos c5,c5]; exact answer_needless p l h
 by_cases c6:line=wSpies
 ·rw [if_neg c1,if_neg c2,if_neg c3,if_neg c4,if_neg c5,if_pos c6,c6]; exact answer_spies p l h
 by_cases c7:line=wAsks
 ·rw [if_neg c1,if_neg c2,if_neg c3,if_neg c4,if_neg c5,if_neg c6,if_pos c7,c7]; exact answer_asks p l h
 rw [if_neg c1,if_neg c2,if_neg c3,if_neg c4,if_neg c5,if_neg c6,if_neg c7]
 have hn:noWord line:=⟨c1,c2,c3,c4,c5,c6,c7⟩
 cases hr:readT p (Go.Lib.cut line [32]).2.1 with
 | none=>exact answer_none p l h line hl hn hr
 | some t =>
  show FnZ Tryz.prog 25 _ (.str (askT p l (Go.Lib.cut line [32]).1 t))
  unfold askT
  by_cases d1:(Go.Lib.cut line [32]).1=wFollows
  ·rw [if_pos d1]; exact answer_follows p l h line hl hn t hr d1
  by_cases d2:(Go.Lib.cut line [32]).1=wProof
  ·rw [if_neg d1,if_pos d2]; exact answer_proof p l h line hl hn t hr d2
  by_cases d3:(Go.Lib.cut line [32]).1=wCount
  ·rw [if_neg d1,if_neg d2,if_pos d3]; exact answer_count p l h line hl hn t hr d3
  rw [if_neg d1,if_neg d2,if_neg d3]; exact answer_else p l h line hl hn t hr ⟨d1,d2,d3⟩
end TL
