/- TL: parts FnsIE, FnsIH, FnsD1, FnsD2, FnsC3, FnsD3a, FnsD3, FnsL3, FnsE15o, FnsE3, FnsE6, FnsE15a, FnsE16, FnsE15b, FnsE18p, FnsE5, FnsE12, FnsP2, FnsK7, FnsIV, FnsIJ, FnsIK. -/
import Derived.Test.YtnimfdpinpggdabGreatDoorGh
import Derived.Test.YtnimfdpinpggdabGreatDoorGe
import Derived.Test.YtnimfdpinpggdabGreatDoorGf
import Derived.Test.YtnimfdpinpggdabGreatDoorGg
import Derived.Test.YtnimfdpinpggdabGreatDoorShelfC
import Derived.Shelf.Strings.Cut
import Derived.Shelf.Strconv.AtoiAll
import Derived.Lib.SmallJoins
import Derived.WalkSmall
set_option linter.unusedSimpArgs false
set_option linter.unusedVariables false
set_option maxRecDepth 100000
set_option maxHeartbeats 4000000
set_option pp.maxSteps 1500
namespace TL
open Go Go.Proofs
def wPlace:List UInt8:=[112,108,97,99,101]
def wWorlds:List UInt8:=[119,111,114,108,100,115]
def wOnly:List UInt8:=[111,110,108,121]
def wKnown:List UInt8:=[107,110,111,119,110]
def wNeedless:List UInt8:=[110,101,101,100,108,101,115,115]
def wSpies:List UInt8:=[115,112,105,101,115]
def wAsks:List UInt8:=[97,115,107,115]
def wFollows:List UInt8:=[102,111,108,108,111,119,115]
def wProof:List UInt8:=[112,114,111,111,102]
def wCount:List UInt8:=[99,111,117,110,116]
def wWhat:List UInt8:=[119,104,97,116]
def wNone:List UInt8:=[110,111,110,101]
def wYes:List UInt8:=[121,101,115]
def wNo:List UInt8:=[110,111]
/-- The answer about a term. -/
def askT (p:Nat) (l:List Claim) (w:List UInt8) (t:List Mark):List UInt8 :=
 if w=wFollows then (if followsB p l t=true then wYes else wNo)
 else if w=wProof then (match findT p l t p 0 with
  | some y=>y.tx
  | none=>wNone)
 else if w=wCount then dec (((worldsOf p (storyTab p l &&& termTab p t)).length:Nat):Int)
 else wWhat
noncomputable def ans (q:Place) (line:List UInt8):List UInt8 :=
 if line=wPlace then placeTx q
 else if line=wWorlds then rowTx ((sw q.people.toNat q.story).map fun w=>((w:Nat):Int))
 else if line=wOnly then numTx (onlyV q.people.toNat q.story)
 else if line=wKnown then rowTx (knownL q.people.toNat q.story)
 else if line=wNeedless then rowTx ((needless q.people.toNat q.story).map fun w=>((w:Nat):Int))
 else if line=wSpies then numTx (fewest (spyOk q.story) q.people.toNat)
 else if line=wAsks then numTx (la q.people (storyTab q.people.toNat q.story))
 else match readT q.people (Go.Lib.cut line [32]).2.1 with
  | some t=>askT q.people.toNat q.story (Go.Lib.cut line [32]).1 t
  | none=>wWhat
end TL

namespace TL
open Go Go.Proofs
/-! Bits. -/
theorem cnt_filter:∀ (N n:Nat),n<2 ^ N→cnt n=((List.range N).filter fun i=>n.testBit i).length
 | 0,n,h=>by
  have:n=0:=by simpa using h
  subst this; rw [cnt_zero]; rfl
 | N+1,n,h=>by
  have ih:=cnt_filter N (n / 2) (by rw [Nat.pow_succ] at h; omega)
  have e:cnt n=n % 2+cnt (n / 2):=by
   by_cases h0:0<n
   ·exact cnt_step h0
   ·have:n=0:=by omega
    subst this; rw [cnt_zero]
  rw [e,ih,List.range_succ_eq_map,List.filter_cons,List.filter_map]
  have e2:(List.range N).filter ((fun i=>n.testBit i) ∘ Nat.succ)=(List.range N).filter fun i=>(n / 2).testBit i:=by
   congr 1; funext i; simp [Nat.testBit_succ]
  rw [e2]
  have e3:n.testBit 0=decide (n % 2=1):=Nat.testBit_zero n
  by_cases h1:n % 2=1
  ·rw [if_pos (by rw [e3]; simp [h1]),List.length_cons,List.length_map]; omega
  ·rw [if_neg (by rw [e3]; simp [h1]),List.length_map]; omega
theorem cnt_worlds {p n:Nat} (h:InT p n):cnt n=(worldsOf p n).length:=cnt_filter (2 ^ p) n h
/-- How many of some worlds have a bit. -/
def cntB (W:List Nat) (i:Nat):Nat:=(W.filter fun w=>w.testBit i).length
theorem cntB_le (W:List Nat) (i:Nat):cntB W i≤W.length:=List.length_filter_le _ _
theorem knownOf_cnt {W:List Nat} (h:W ≠ []) (i:Nat):knownOf W i=if cntB W i=0 then 0 else if cntB W i=W.length then 1 else -1:=by
 match W,h with
 | w :: W',_ =>
  show (if (w :: W').all (fun v=>v.testBit i == w.testBit i)=true then bitI w i else -1)=_
  obtain ⟨V,hV⟩:∃ V,w :: W'=V:=⟨_,rfl⟩
  have hw:w ∈ V:=by rw [← hV]; simp
  rw [hV]
  by_cases c0:cntB V i=0
  ·rw [if_pos c0]
   have hn:∀ v ∈ V,v.testBit i=false:=fun v hv=>by
    cases hb:v.testBit i with
    | false=>rfl
    | true =>
     have:v ∈ V.filter fun w=>w.testBit i:=List.mem_filter.2 ⟨hv,hb⟩
     have h0:=List.length_pos_of_mem this
     unfold cntB at c0; omega
   rw [if_pos (List.all_eq_true.2 fun v hv=>by rw [hn v hv,hn w hw]; rfl)]
   simp [bitI,hn w hw]
  ·rw [if_neg c0]
   by_cases c1:cntB V i=V.length
   ·rw [if_pos c1]
    have hn:∀ v ∈ V,v.testBit i=true:=by
     have:=List.length_filter_eq_length_iff.1 c1
     exact this
    rw [if_pos (List.all_eq_true.2 fun v hv=>by rw [hn v hv,hn w hw]; rfl)]
    simp [bitI,hn w hw]
   ·rw [if_neg c1,if_neg]
    intro hall
    have hall:=List.all_eq_true.1 hall
    cases hb:w.testBit i with
    | true=>exact c1 (List.length_filter_eq_length_iff.2 fun v hv=>by have:=hall v hv; rw [hb] at this; simpa using this)
    | false =>
     refine c0 (List.length_eq_zero_iff.2 (List.filter_eq_nil_iff.2 fun v hv => ?_))
     have:=hall v hv; rw [hb] at this; simp at this; simp [this]
/-! Rows' texts, from their first numbers. -/
def rowJ (l:List Int):List UInt8:=Go.Lib.join (l.map cellTx) [44]
theorem rowJ_zero (l:List Int):rowJ (l.take 0)=[]:=rfl
theorem rowJ_first (l:List Int) (h:0<l.length):rowJ (l.take 1)=cellTx l[0]:=by
 cases l with
 | nil=>simp at h
 | cons c l=>simp [rowJ,Go.Lib.join_one]
theorem rowJ_next (l:List Int) (i:Nat) (h0:0<i) (h:i<l.length):rowJ (l.take (i+1))=rowJ (l.take i)++[44]++cellTx l[i]:=by
 unfold rowJ
 rw [List.take_succ_eq_append_getElem h,List.map_append]
 cases l with
 | nil=>simp at h
 | cons c l =>
  cases i with
  | zero=>omega
  | succ i=>simp only [List.take_succ_cons,List.map_cons,List.map_nil]; exact join_snoc _ _ _
theorem rowJ_len {l:List Int} (h:∀ n ∈ l,n≤99):(rowJ l).length≤28 * l.length+28:=by
 have:=join_len (l.map cellTx) (fun x hx=>by obtain ⟨n,hn,rfl⟩:=List.mem_map.1 hx; exact cellTx_len (h n hn))
 unfold rowJ; simp only [List.length_map] at this; omega
/-! Lines of two words. -/
theorem termText_no32 {people:Int} {s:List UInt8} {t:List Mark} (h:readT people s=some t):s ≠ []∧∀ y ∈ s,y ≠ (32:UInt8):=by
 obtain ⟨_,h2,h3⟩:=readT_is h
 refine ⟨?_,fun y hy => ?_⟩
 ·obtain ⟨T,_,_,h4⟩:=termText_tree h2
  rw [← h3,← h4]; exact tm_text_pos T
 ·rw [← h3] at hy; exact (termText_plain h2 y hy).1
theorem first_space (s:List UInt8):(∀ y ∈ s,y ≠ (32:UInt8))∨∃ x r,s=x++32 :: r∧∀ y ∈ x,y ≠ (32:UInt8):=by
 induction s with
 | nil=>exact .inl (by simp)
 | cons c s ih =>
  by_cases hc:c=32
  ·exact .inr ⟨[],s,by simp [hc],by simp⟩
  ·rcases ih with h | ⟨x,r,h1,h2⟩
   ·refine .inl fun y hy => ?_
    rcases List.mem_cons.1 hy with rfl | hy
    ·exact hc
    ·exact h y hy
   ·refine .inr ⟨c :: x,r,by rw [h1]; rfl,fun y hy => ?_⟩
    rcases List.mem_cons.1 hy with rfl | hy
    ·exact hc
    ·exact h2 y hy
theorem cutAt_len1 (s:List UInt8):1≤(cutAt 32 s).length:=by
 rcases first_space s with h | ⟨x,r,rfl,hx⟩
 ·rw [cutAt_none h]; simp
 ·rw [cutAt_app hx]; simp
/-- A line about a term is of two words, or is read as no term. -/
theorem two_words (people:Int) (line:List UInt8):(∃ w r,cutAt 32 line=[w,r]∧(Go.Lib.cut line [32]).1=w∧(Go.Lib.cut line [32]).2.1=r)∨((cutAt 32 line).length ≠ 2∧readT people (Go.Lib.cut line [32]).2.1=none):=by
 rcases first_space line with h | ⟨x,r,rfl,hx⟩
 ·refine .inr ⟨by rw [cutAt_none h]; simp, ?_⟩
  rw [cut_clean h]
  cases hr:readT people [] with
  | none=>rfl
  | some t=>exact absurd rfl (termText_no32 hr).1
 ·rw [cut_at hx,cutAt_app hx]
  rcases first_space r with h | ⟨x2,r2,h2,hx2⟩
  ·rw [cutAt_none h]; exact .inl ⟨x,r,rfl,rfl,rfl⟩
  ·refine .inr ⟨?_, ?_⟩
   ·rw [h2,cutAt_app hx2]
    have:=cutAt_len1 r2
    simp only [List.length_cons]; omega
   ·cases hr:readT people r with
    | none=>simp only [hr]
    | some t=>exact absurd rfl ((termText_no32 hr).2 32 (by rw [h2]; simp))
/-! Grown proofs. -/
/-- What the reference grows, with so many people not known yet. -/
def growR (p:Nat) (l:List Claim) (t:List Mark):Nat→Nat→List Sp→List Sp × Int × Bool
 | 0,world,sps=>match leaf p l t p world with
  | some x=>(sps,x.to 0,true)
  | none=>(sps, -1,false)
 | r+1,world,sps=>match leaf p l t (p-(r+1)) world with
  | some x=>(sps,x.to 0,true)
  | none =>
   let A:=growR p l t r world (sps++[⟨(p-(r+1):Nat), -1, -1⟩])
   let B:=growR p l t r (world+2 ^ (p-(r+1))) A.1
   (B.1.set sps.length ⟨(p-(r+1):Nat),A.2.1,B.2.1⟩,sps.length,A.2.2 && B.2.2)
theorem leaf_to {p:Nat} {l:List Claim} {t:List Mark} {k world:Nat} {x:PT} (h:leaf p l t k world=some x) (n:Nat):x.to 0=x.to n∧x.row n=[]:=by
 unfold leaf at h
 split at h
 ·cases h; exact ⟨rfl,rfl⟩
 ·rw [Option.map_eq_some_iff] at h
  obtain ⟨i,hi,rfl⟩:=h
  exact ⟨rfl,rfl⟩
theorem growR_len (p:Nat) (l:List Claim) (t:List Mark):∀ (r world:Nat) (sps:List Sp),(growR p l t r world sps).1.length+1≤sps.length+2 ^ r∧sps.length≤(growR p l t r world sps).1.length
 | 0,world,sps=>by unfold growR; split <;> simp
 | r+1,world,sps=>by
  have hp:=Nat.one_le_two_pow (n:=r+1)
  unfold growR
  split
  ·simp only; omega
  ·have a:=growR_len p l t r world (sps++[⟨(p-(r+1):Nat), -1, -1⟩])
   have b:=growR_len p l t r (world+2 ^ (p-(r+1))) (growR p l t r world (sps++[⟨(p-(r+1):Nat), -1, -1⟩])).1
   simp only [List.length_append,List.length_cons,List.length_nil] at a
   simp only [List.length_set]
   rw [Nat.pow_succ]; omega
theorem growR_spec (p:Nat) (l:List Claim) (t:List Mark):∀ (r world:Nat) (sps:List Sp),match findT p l t r world with
  | some y=>growR p l t r world sps=(sps++y.row sps.length,y.to sps.length,true)
  | none=>(growR p l t r world sps).2.2=false
 | 0,world,sps=>by
  show (match leaf p l t p world with | some y=>_ | none=>_)
  unfold growR
  cases h:leaf p l t p world with
  | none=>rfl
  | some x =>
   obtain ⟨h1,h2⟩:=leaf_to h sps.length
   simp only [h1,h2,List.append_nil]
 | r+1,world,sps=>by
  unfold findT growR
  cases h:leaf p l t (p-(r+1)) world with
  | some x =>
   obtain ⟨h1,h2⟩:=leaf_to h sps.length
   simp only [h1,h2,List.append_nil]
  | none =>
   simp only
   have ia:=growR_spec p l t r world (sps++[⟨(p-(r+1):Nat), -1, -1⟩])
   cases ha:findT p l t r world with
   | none =>
    rw [ha] at ia
    simp only at ia
    simp only [ia,Bool.false_and]
   | some a =>
    rw [ha] at ia
    simp only at ia
    rw [ia]
    simp only [List.length_append,List.length_cons,List.length_nil]
    have ib:=growR_spec p l t r (world+2 ^ (p-(r+1))) (sps++[⟨(p-(r+1):Nat), -1, -1⟩]++a.row (sps.length+0+1))
    cases hb:findT p l t r (world+2 ^ (p-(r+1))) with
    | none =>
     rw [hb] at ib
     simp only [Nat.add_zero] at ib
     simp only [ib,Bool.and_false,Nat.zero_add]
    | some b =>
     rw [hb] at ib
     simp only [Nat.add_zero,List.length_append,List.length_cons,List.length_nil,PT.row_len,Nat.zero_add] at ib
     simp only [Nat.zero_add,ib,Bool.and_self]
     simp [PT.row,PT.to,List.set_append]
/-! Targets. -/
def Sp.tg (s:Sp):List Int:=[s.no,s.yes]
/-- The targets of splits, in their order. -/
def tgs (R:List Sp):List Int:=R.flatMap Sp.tg
theorem to_range (y:PT) (n:Nat):y.to n<0∨(y.to n=n∧0<y.size):=by
 cases y with
 | goal=>exact .inl (by simp [PT.to])
 | claim i=>exact .inl (by simp only [PT.to]; omega)
 | split who a b=>exact .inr ⟨rfl,by simp only [PT.size]; omega⟩
theorem tgs_range:∀ (y:PT) (n:Nat),∀ x ∈ tgs (y.row n),0≤x→(n:Int)<x∧x<n+y.size
 | .goal,n=>by simp [tgs,PT.row]
 | .claim i,n=>by simp [tgs,PT.row]
 | .split who a b,n=>by
  intro x hx h0
  simp only [tgs,PT.row,List.flatMap_cons,List.flatMap_append,Sp.tg,List.mem_append,List.mem_cons,List.not_mem_nil,or_false] at hx
  simp only [PT.size]
  rcases hx with (hx | hx) | hx | hx
  ·rcases to_range a (n+1) with h | ⟨h,h2⟩ <;> omega
  ·rcases to_range b (n+1+a.size) with h | ⟨h,h2⟩ <;> omega
  ·have:=tgs_range a (n+1) x hx h0; omega
  ·have:=tgs_range b (n+1+a.size) x hx h0; omega
/-- No target comes twice. -/
def onceT (xs:List Int):Prop:=(xs.filter fun x=>decide (0≤x)).Nodup
theorem onceT_row:∀ (y:PT) (n:Nat),onceT (tgs (y.row n))
 | .goal,n=>by simp [onceT,tgs,PT.row]
 | .claim i,n=>by simp [onceT,tgs,PT.row]
 | .split who a b,n=>by
  have ha:=onceT_row a (n+1)
  have hb:=onceT_row b (n+1+a.size)
  have ra:=tgs_range a (n+1)
  have rb:=tgs_range b (n+1+a.size)
  have ta:=to_range a (n+1)
  have tb:=to_range b (n+1+a.size)
  have e:tgs ((PT.split who a b).row n)=[a.to (n+1)]++([b.to (n+1+a.size)]++(tgs (a.row (n+1))++tgs (b.row (n+1+a.size)))):=by
   simp [tgs,PT.row,Sp.tg]
  unfold onceT at ha hb ⊢
  rw [e]
  obtain ⟨X,hX⟩:∃ X,tgs (a.row (n+1))=X:=⟨_,rfl⟩
  obtain ⟨Y,hY⟩:∃ Y,tgs (b.row (n+1+a.size))=Y:=⟨_,rfl⟩
  rw [hX] at ha ra ⊢
  rw [hY] at hb rb ⊢
  simp only [List.filter_append,List.nodup_append,List.mem_append,List.mem_filter,decide_eq_true_eq]
  refine ⟨?_,⟨?_,⟨ha,hb, ?_⟩, ?_⟩, ?_⟩
  ·simp only [List.filter_cons,List.filter_nil]; split <;> simp
  ·simp only [List.filter_cons,List.filter_nil]; split <;> simp
  ·rintro x ⟨h1,h2⟩ z ⟨h3,h4⟩ rfl
   have a1:=ra x h1 h2
   have a2:=rb x h3 h4
   omega
  ·rintro x ⟨h1,h2⟩ z (⟨h3,h4⟩ | ⟨h3,h4⟩) rfl
   ·have a1:=ra x h3 h4
    have h5:x=b.to (n+1+a.size):=by simpa using h1
    omega
   ·have a2:=rb x h3 h4
    have h5:x=b.to (n+1+a.size):=by simpa using h1
    omega
  ·rintro x ⟨h1,h2⟩ z (⟨h3,h4⟩ | ⟨h3,h4⟩ | ⟨h3,h4⟩) rfl
   ·have h5:x=a.to (n+1):=by simpa using h1
    have h6:x=b.to (n+1+a.size):=by simpa using h3
    omega
   ·have h5:x=a.to (n+1):=by simpa using h1
    have a1:=ra x h3 h4
    omega
   ·have h5:x=a.to (n+1):=by simpa using h1
    have a2:=rb x h3 h4
    omega
theorem tgs_fit (y:PT):∀ x ∈ tgs (y.row 0),x<(y.row 0).length:=fun x hx=>by
 rw [PT.row_len]
 by_cases h:0≤x
 ·have:=tgs_range y 0 x hx h; omega
 ·omega
/-- What was seen, of the first targets. -/
def seenL (n:Nat) (xs:List Int):List Bool:=(List.range n).map fun j:Nat=>decide ((j:Int) ∈ xs)
theorem seenL_len (n:Nat) (xs:List Int):(seenL n xs).length=n:=by simp [seenL]
theorem seenL_skip {n:Nat} {xs:List Int} {x:Int} (h:x<0):seenL n (xs++[x])=seenL n xs:=by
 unfold seenL
 refine List.map_congr_left fun j _ => ?_
 have:¬(j:Int)=x:=by omega
 simp [this]
theorem seenL_set {n:Nat} {xs:List Int} {j:Nat} (h:j<n):(seenL n xs).set j true=seenL n (xs++[(j:Int)]):=by
 unfold seenL
 refine List.ext_getElem (by simp) fun i h1 h2 => ?_
 simp only [List.length_set,List.length_map,List.length_range] at h1
 rw [List.getElem_set]
 split
 ·rename_i e; subst e; simp
 ·rename_i e
  have:¬i=j:=fun h=>e h.symm
  have h3:¬(i:Int)=j:=by omega
  simp [h3]
theorem seenL_get {n:Nat} {xs:List Int} {j:Nat} (h:j<n):(seenL n xs)[j]? = some (decide ((j:Int) ∈ xs)):=by
 simp [seenL,h]
theorem once_next {pre:List Int} {x:Int} {post:List Int} (h:onceT (pre++x :: post)) (h0:0≤x):x ∉ pre:=by
 unfold onceT at h
 rw [List.filter_append,List.filter_cons,if_pos (by simpa using h0),List.nodup_append] at h
 intro hx
 exact h.2.2 x (List.mem_filter.2 ⟨hx,by simpa using h0⟩) x (List.mem_cons_self ..) rfl
/-! Known people, as the reference has them. -/
def knownR (p k world:Nat):List Int:=(List.range p).map fun i=>if i<k then bitI world i else -1
theorem knownR_len (p k world:Nat):(knownR p k world).length=p:=by simp [knownR]
theorem knownR_get {p k world i:Nat} (h:i<p):(knownR p k world)[i]? = some (if i<k then bitI world i else -1):=by simp [knownR,h]
theorem knownR_zero (p world:Nat):knownR p 0 world=List.replicate p (-1):=by
 unfold knownR
 refine List.ext_getElem (by simp) fun i h1 h2=>by simp
theorem knownR_no {p k world:Nat} (hk:k<p) (hw:world<2 ^ k):(knownR p k world).set k 0=knownR p (k+1) world:=by
 unfold knownR
 refine List.ext_getElem (by simp) fun i h1 h2 => ?_
 rw [List.getElem_set]
 simp only [List.getElem_map,List.getElem_range]
 split
 ·rename_i e; subst e
  rw [if_pos (by omega)]
  have:world.testBit k=false:=Nat.testBit_lt_two_pow hw
  simp [bitI,this]
 ·rename_i e
  by_cases hi:i<k
  ·rw [if_pos hi,if_pos (by omega)]
  ·rw [if_neg hi,if_neg (by omega)]
theorem knownR_yes {p k world:Nat} (hk:k<p) (hw:world<2 ^ k):(knownR p k world).set k 1=knownR p (k+1) (world+2 ^ k):=by
 have hor:world+2 ^ k=2 ^ k ||| world:=by
  have h1:=Nat.two_pow_add_eq_or_of_lt hw 1
  rw [Nat.mul_one] at h1
  rw [Nat.add_comm,h1]
 unfold knownR
 refine List.ext_getElem (by simp) fun i h1 h2 => ?_
 rw [List.getElem_set]
 simp only [List.getElem_map,List.getElem_range]
 split
 ·rename_i e; subst e
  rw [if_pos (by omega),hor]
  simp [bitI,Nat.testBit_or]
 ·rename_i e
  have hik:¬k=i:=e
  by_cases hi:i<k
  ·rw [if_pos hi,if_pos (by omega),hor]
   unfold bitI
   rw [Nat.testBit_or,Nat.testBit_two_pow]
   simp [hik]
  ·rw [if_neg hi,if_neg (by omega)]
theorem agree_iff {p k world w:Nat} (hk:k≤p) (hw:world<2 ^ k):(w % 2 ^ k == world)=(List.range k).all fun i=>world.testBit i == w.testBit i:=by
 rw [Bool.eq_iff_iff,beq_iff_eq,List.all_eq_true]
 constructor
 ·rintro h i hi
  have hi:=List.mem_range.1 hi
  rw [← h,Nat.testBit_mod_two_pow]; simp [hi]
 ·intro h
  refine Nat.eq_of_testBit_eq fun i => ?_
  rw [Nat.testBit_mod_two_pow]
  by_cases hi:i<k
  ·have:=h i (List.mem_range.2 hi)
   simp only [beq_iff_eq] at this
   simp [hi,this]
  ·have h1:world.testBit i=false:=Nat.testBit_lt_two_pow (Nat.lt_of_lt_of_le hw (Nat.pow_le_pow_right (by omega) (by omega)))
   simp [hi,h1]
end TL

namespace TL
open Go Go.Proofs
attribute [local simp] marksV storyV codeV Claim.v Place.v Deed.v
theorem l15Made_fn (p:Place) (a:Deed) (hp:placeOk p=true) (ha:a.words.length≤1000000000):FnZ Tryz.prog 70 [p.v,a.v] (made p a).v:=by
 obtain ⟨hfine,hfit,hsm,hl6⟩:=place_fine hp
 have hpl:=fun m n=>l15Place_own p hsm m n
 have hrc:=readClaimS_fn p.people a.words (by omega)
 have hleast:=leastStoryS_fn p.people p.story hp
 have hwo:∀ k:Nat,k<p.story.length→FnZ Tryz.prog 122 [storyV p.story,.int .i64 k] (storyV (p.story.eraseIdx k)):=fun k hk=>l5Without_fn p.story k hk (by omega)
 have hin:=l1In_z a.num 0 ((p.story.length:Int)-1)
 have w1:IntKind.wrap .i64 ((p.story.length:Int)-1)=(p.story.length:Int)-1:=w64 (by omega) (by omega)
 obtain ⟨people,story⟩:=p
 obtain ⟨kind,num,words⟩:=a
 simp only at hrc hleast hwo hin w1 hl6
 have b1:(story.length+1) * 32≤140737488355328:=by omega
 unfold made
 simp only
 by_cases c0:kind=0∧num=0
 ·obtain ⟨rfl,rfl⟩:=c0
  rw [if_pos ⟨rfl,rfl⟩]
  refine FZ (rs:=[.cell 4 25]) false Tryz.func70 ?_
  simp -dsimp
  refine callL_ (vs:=[(⟨people,story⟩:Place).v]) (hpl _ _) (by simp -dsimp) ?_
  rintro t m1 n1 ⟨hn1,hout,st,rfl,hst⟩
  have k0:=hout 0 (by omega)
  have k1:=hout 1 (by omega)
  have k2:=hout 2 (by omega)
  simp -dsimp at k0 k1 k2
  have f0:=far (show 0<n1 by omega)
  have f1:=far (show 1<n1 by omega)
  have f2:=far (show 2<n1 by omega)
  have hc:=hst.cell
  have z1:¬n1=0:=by omega
  have z2:¬n1=1:=by omega
  have z3:¬n1=2:=by omega
  simp -dsimp [k0,k1,k2,f0,f1,f2,hc,z1,z2,z3]
  refine cl hrc ?_
  cases hr:readC people words with
  | none=>simp -dsimp [optC,k0,k1,k2,f0,f1,f2,hc,z1,z2,z3,nes]
  | some c =>
   rcases hst with ⟨rfl,hs0⟩ | ⟨id,rfl,hi0,hi1,him⟩
   ·have hs0':story=[]:=by simpa using hs0
    subst hs0'
    simp -dsimp [optC,k0,k1,k2,f0,f1,f2,hc,z1,z2,z3,nes]
   ·have g1:=far hi1
    have y1:¬id=0:=by omega
    have y2:¬id=1:=by omega
    have y3:¬id=2:=by omega
    simp -dsimp [optC,k0,k1,k2,f0,f1,f2,g1,hc,z1,z2,z3,y1,y2,y3,Ne.symm y1,Ne.symm y2,Ne.symm y3,nes,him,b1]
 rw [if_neg c0]
 by_cases c1:kind=1∧words=[]∧0≤num∧num<story.length
 ·rw [if_pos c1]
  obtain ⟨rfl,rfl,h2,h3⟩:=c1
  obtain ⟨k,rfl⟩:=Int.eq_ofNat_of_zero_le h2
  have hw:=hwo k (by omega)
  have hb:(decide (0≤(k:Int)) && decide ((k:Int)≤(story.length:Int)-1))=true:=by simp; omega
  rw [hb] at hin
  simp only [Int.toNat_natCast]
  refine FZ (rs:=[.cell 4 25]) false Tryz.func70 ?_
  simp -dsimp
  refine callL_ (vs:=[(⟨people,story⟩:Place).v]) (hpl _ _) (by simp -dsimp) ?_
  rintro t m1 n1 ⟨hn1,hout,st,rfl,hst⟩
  have k0:=hout 0 (by omega)
  have k1:=hout 1 (by omega)
  have k2:=hout 2 (by omega)
  simp -dsimp at k0 k1 k2
  have f0:=far (show 0<n1 by omega)
  have f1:=far (show 1<n1 by omega)
  have f2:=far (show 2<n1 by omega)
  have hc:=hst.cell
  have z1:¬n1=0:=by omega
  have z2:¬n1=1:=by omega
  have z3:¬n1=2:=by omega
  simp -dsimp [k0,k1,k2,f0,f1,f2,hc,z1,z2,z3,w1]
  refine cl hin ?_
  simp -dsimp [k0,k1,k2,f0,f1,f2,hc,z1,z2,z3,w1]
  refine twd (List.range 9) [0,1,n1] (List.replicate 9 [0,1,2]) (List.replicate 9 [0,1,2]) ?_
  rcases hst with ⟨rfl,hs0⟩ | ⟨id,rfl,hi0,hi1,him⟩
  ·have hs0':story=[]:=by simpa using hs0
   rw [hs0'] at h3; simp at h3; omega
  ·have g1:=far hi1
   simp -dsimp [List.range_succ,k0,k1,k2,f0,f1,f2,hc,z1,z2,z3,w1]
   refine call_ hw (by simp -dsimp [g1,him]) ?_
   simp -dsimp [List.range_succ,k0,k1,k2,f0,f1,f2,hc,z1,z2,z3,w1]
 rw [if_neg c1]
 have g1:¬(kind=1∧words=[]∧(decide (0≤num) && decide (num≤(story.length:Int)-1))=true):=fun h=>c1 ⟨h.1,h.2.1,by have:=h.2.2; simp at this; omega,by have:=h.2.2; simp at this; omega⟩
 generalize (decide (0≤num) && decide (num≤(story.length:Int)-1))=bin at *
 by_cases c2:kind=2∧words=[]
 ·rw [if_pos c2]
  obtain ⟨rfl,rfl⟩:=c2
  refine FZ (rs:=[.cell 4 25]) false Tryz.func70 ?_
  simp -dsimp
  refine callL_ (vs:=[(⟨people,story⟩:Place).v]) (hpl _ _) (by simp -dsimp) ?_
  rintro t m1 n1 ⟨hn1,hout,st,rfl,hst⟩
  have k0:=hout 0 (by omega)
  have k1:=hout 1 (by omega)
  have k2:=hout 2 (by omega)
  simp -dsimp at k0 k1 k2
  have f0:=far (show 0<n1 by omega)
  have f1:=far (show 1<n1 by omega)
  have f2:=far (show 2<n1 by omega)
  have hc:=hst.cell
  have z1:¬n1=0:=by omega
  have z2:¬n1=1:=by omega
  have z3:¬n1=2:=by omega
  rcases hst with ⟨rfl,hs0⟩ | ⟨id,rfl,hi0,hi1,him⟩
  ·have hs0':story=[]:=by simpa using hs0
   subst hs0'
   by_cases d0:num=0
   ·simp -dsimp [k0,k1,k2,f0,f1,f2,hc,z1,z2,z3,w1,d0,nes]
   ·simp -dsimp [k0,k1,k2,f0,f1,f2,hc,z1,z2,z3,w1,d0,nes]
  ·have g1:=far hi1
   have y1:¬id=0:=by omega
   have y2:¬id=1:=by omega
   have y3:¬id=2:=by omega
   by_cases d0:num=0
   ·simp -dsimp [k0,k1,k2,f0,f1,f2,hc,z1,z2,z3,w1,d0,nes,g1,y1,y2,y3,him]
   ·simp -dsimp [k0,k1,k2,f0,f1,f2,hc,z1,z2,z3,w1,d0,nes,g1,y1,y2,y3,him]
 rw [if_neg c2]
 by_cases c3:kind=3∧num=0∧words=[]
 ·rw [if_pos c3]
  obtain ⟨rfl,rfl,rfl⟩:=c3
  refine FZ (rs:=[.cell 4 25]) false Tryz.func70 ?_
  simp -dsimp
  refine callL_ (vs:=[(⟨people,story⟩:Place).v]) (hpl _ _) (by simp -dsimp) ?_
  rintro t m1 n1 ⟨hn1,hout,st,rfl,hst⟩
  have k0:=hout 0 (by omega)
  have k1:=hout 1 (by omega)
  have k2:=hout 2 (by omega)
  simp -dsimp at k0 k1 k2
  have f0:=far (show 0<n1 by omega)
  have f1:=far (show 1<n1 by omega)
  have f2:=far (show 2<n1 by omega)
  have hc:=hst.cell
  have z1:¬n1=0:=by omega
  have z2:¬n1=1:=by omega
  have z3:¬n1=2:=by omega
  simp -dsimp [k0,k1,k2,f0,f1,f2,hc,z1,z2,z3,w1,nes]
  refine cl hleast ?_
  simp -dsimp [k0,k1,k2,f0,f1,f2,hc,z1,z2,z3,w1,nes]
 rw [if_neg c3]
 by_cases e0:kind=0
 ·subst e0
  have d0:¬num=0:=fun h=>c0 ⟨rfl,h⟩
  refine FZ (rs:=[.cell 4 25]) false Tryz.func70 ?_
  simp -dsimp
  refine callL_ (vs:=[(⟨people,story⟩:Place).v]) (hpl _ _) (by simp -dsimp) ?_
  rintro t m1 n1 ⟨hn1,hout,st,rfl,hst⟩
  have k0:=hout 0 (by omega)
  have k1:=hout 1 (by omega)
  have k2:=hout 2 (by omega)
  simp -dsimp at k0 k1 k2
  have f0:=far (show 0<n1 by omega)
  have f1:=far (show 1<n1 by omega)
  have f2:=far (show 2<n1 by omega)
  have hc:=hst.cell
  have z1:¬n1=0:=by omega
  have z2:¬n1=1:=by omega
  have z3:¬n1=2:=by omega
  simp -dsimp [k0,k1,k2,f0,f1,f2,hc,z1,z2,z3,w1,nes,d0]
 by_cases e1:kind=1
 ·subst e1
  by_cases dw:words=[]
  ·subst dw
   have hbf:bin=false:=by
    cases bin
    ·rfl
    ·exact absurd ⟨rfl,rfl,rfl⟩ g1
   subst hbf
   refine FZ (rs:=[.cell 4 25]) false Tryz.func70 ?_
   simp -dsimp
   refine callL_ (vs:=[(⟨people,story⟩:Place).v]) (hpl _ _) (by simp -dsimp) ?_
   rintro t m1 n1 ⟨hn1,hout,st,rfl,hst⟩
   have k0:=hout 0 (by omega)
   have k1:=hout 1 (by omega)
   have k2:=hout 2 (by omega)
   simp -dsimp at k0 k1 k2
   have f0:=far (show 0<n1 by omega)
   have f1:=far (show 1<n1 by omega)
   have f2:=far (show 2<n1 by omega)
   have hc:=hst.cell
   have z1:¬n1=0:=by omega
   have z2:¬n1=1:=by omega
   have z3:¬n1=2:=by omega

   simp -dsimp [k0,k1,k2,f0,f1,f2,hc,z1,z2,z3,w1,nes]
   refine cl hin ?_
   simp -dsimp [k0,k1,k2,f0,f1,f2,hc,z1,z2,z3,w1,nes]
  ·refine FZ (rs:=[.cell 4 25]) false Tryz.func70 ?_
   simp -dsimp
   refine callL_ (vs:=[(⟨people,story⟩:Place).v]) (hpl _ _) (by simp -dsimp) ?_
   rintro t m1 n1 ⟨hn1,hout,st,rfl,hst⟩
   have k0:=hout 0 (by omega)
   have k1:=hout 1 (by omega)
   have k2:=hout 2 (by omega)
   simp -dsimp at k0 k1 k2
   have f0:=far (show 0<n1 by omega)
   have f1:=far (show 1<n1 by omega)
   have f2:=far (show 2<n1 by omega)
   have hc:=hst.cell
   have z1:¬n1=0:=by omega
   have z2:¬n1=1:=by omega
   have z3:¬n1=2:=by omega

   simp -dsimp [k0,k1,k2,f0,f1,f2,hc,z1,z2,z3,w1,nes,dw]
 by_cases e2:kind=2
 ·subst e2
  have dw:¬words=[]:=fun h=>c2 ⟨rfl,h⟩
  refine FZ (rs:=[.cell 4 25]) false Tryz.func70 ?_
  simp -dsimp
  refine callL_ (vs:=[(⟨people,story⟩:Place).v]) (hpl _ _) (by simp -dsimp) ?_
  rintro t m1 n1 ⟨hn1,hout,st,rfl,hst⟩
  have k0:=hout 0 (by omega)
  have k1:=hout 1 (by omega)
  have k2:=hout 2 (by omega)
  simp -dsimp at k0 k1 k2
  have f0:=far (show 0<n1 by omega)
  have f1:=far (show 1<n1 by omega)
  have f2:=far (show 2<n1 by omega)
  have hc:=hst.cell
  have z1:¬n1=0:=by omega
  have z2:¬n1=1:=by omega
  have z3:¬n1=2:=by omega
  by_cases d0:num=0
  ·simp -dsimp [k0,k1,k2,f0,f1,f2,hc,z1,z2,z3,w1,nes,d0,dw]
  ·simp -dsimp [k0,k1,k2,f0,f1,f2,hc,z1,z2,z3,w1,nes,d0,dw]
 by_cases e3:kind=3
 ·subst e3
  refine FZ (rs:=[.cell 4 25]) false Tryz.func70 ?_
  simp -dsimp
  refine callL_ (vs:=[(⟨people,story⟩:Place).v]) (hpl _ _) (by simp -dsimp) ?_
  rintro t m1 n1 ⟨hn1,hout,st,rfl,hst⟩
  have k0:=hout 0 (by omega)
  have k1:=hout 1 (by omega)
  have k2:=hout 2 (by omega)
  simp -dsimp at k0 k1 k2
  have f0:=far (show 0<n1 by omega)
  have f1:=far (show 1<n1 by omega)
  have f2:=far (show 2<n1 by omega)
  have hc:=hst.cell
  have z1:¬n1=0:=by omega
  have z2:¬n1=1:=by omega
  have z3:¬n1=2:=by omega
  by_cases d0:num=0
  ·have dw:¬words=[]:=fun h=>c3 ⟨rfl,d0,h⟩
   simp -dsimp [k0,k1,k2,f0,f1,f2,hc,z1,z2,z3,w1,nes,d0,dw]
  ·simp -dsimp [k0,k1,k2,f0,f1,f2,hc,z1,z2,z3,w1,nes,d0]
 refine FZ (rs:=[.cell 4 25]) false Tryz.func70 ?_
 simp -dsimp
 refine callL_ (vs:=[(⟨people,story⟩:Place).v]) (hpl _ _) (by simp -dsimp) ?_
 rintro t m1 n1 ⟨hn1,hout,st,rfl,hst⟩
 have k0:=hout 0 (by omega)
 have k1:=hout 1 (by omega)
 have k2:=hout 2 (by omega)
 simp -dsimp at k0 k1 k2
 have f0:=far (show 0<n1 by omega)
 have f1:=far (show 1<n1 by omega)
 have f2:=far (show 2<n1 by omega)
 have hc:=hst.cell
 have z1:¬n1=0:=by omega
 have z2:¬n1=1:=by omega
 have z3:¬n1=2:=by omega

 simp -dsimp [k0,k1,k2,f0,f1,f2,hc,z1,z2,z3,w1,nes,e0,e1,e2,e3]
end TL

namespace TL
open Go Go.Proofs
attribute [local simp] marksV storyV codeV Claim.v Place.v Deed.v Desk.v
theorem made_fine (p:Place) (a:Deed) (hp:placeOk p=true):(made p a).fine∧(made p a).story.length≤7∧(made p a).small:=by
 obtain ⟨h1,h2,h3,h4⟩:=placeOk_all hp
 have hc:∀ c ∈ p.story,c.fine∧c.small:=fun c hc=>⟨(claim_fine (h4 c hc)).1,(claim_fine (h4 c hc)).2.2.1⟩
 have key:∀ q:Place,q.story.length≤7→(∀ c ∈ q.story,c.fine∧c.small)→q.fine∧q.story.length≤7∧q.small:=fun q hl hq=>⟨⟨by omega,fun c hx=>(hq c hx).1⟩,hl,⟨by omega,fun c hx=>(hq c hx).2⟩⟩
 have zero:=key ⟨0,[]⟩ (by simp) (by simp)
 unfold made
 split
 ·split
  ·rename_i c hr
   have:=claim_fine (readC_is hr).1
   refine key _ (by simp; omega) fun x hx => ?_
   rcases List.mem_append.1 hx with hx | hx
   ·exact hc x hx
   ·rw [List.mem_singleton.1 hx]; exact ⟨this.1,this.2.2.1⟩
  ·exact zero
 ·split
  ·refine key _ ?_ fun x hx=>hc x ((List.eraseIdx_sublist _ _).subset hx)
   have:=(List.eraseIdx_sublist p.story a.num.toNat).length_le
   simp only; omega
  ·split
   ·exact key _ (by simp only; omega) hc
   ·split
    ·refine key _ ?_ fun x hx=>hc x ((least_sub _ _).subset hx)
     have:=(least_sub p.people.toNat p.story).length_le
     simp only; omega
    ·exact zero
theorem last_facts {l:List Place} {q:Place} (h:l ≠ []):((l.length:Int)-1).toNat=l.length-1∧(l.map Place.v)[l.length-1]? = some (l.getLast?.getD q).v∧(l.map Place.v).take (l.length-1)=l.dropLast.map Place.v∧(0:Int)≤(l.length:Int)-1∧(l.length:Int)-1≤l.length∧l.length-1≤l.length:=by
 have hl:0<l.length:=List.length_pos_iff.2 h
 refine ⟨by omega, ?_, ?_,by omega,by omega,by omega⟩
 ·rw [List.getLast?_eq_getElem?,List.getElem?_map,List.getElem?_eq_getElem (by omega)]; rfl
 ·rw [← List.map_take,List.dropLast_eq_take]
theorem deskDoS_fn (d:Desk) (a:Deed) (hd:d.small) (hf:d.fit) (ha:a.words.length≤1000000000):FnZ Tryz.prog 28 [d.v,a.v] (.tup [(deskDo d a).1.v,.bool (deskDo d a).2]):=by
 have hok:=deskOkS_fn d hd hf
 have hk:=ft (deskOk d)
 rcases hk with hk | hk
 ·rw [deskDo_no hk]
  rw [hk] at hok
  obtain ⟨a1,a2,a3⟩:=a
  refine FZ (rs:=[.cell 4 28,.tmp 5]) false Tryz.func28 ?_
  simp -dsimp
  refine cl hok ?_
  simp -dsimp [noDeskV]
 rw [hk] at hok
 obtain ⟨hpast,hnow,hp8⟩:=deskOk_iff.1 hk
 have hcopy:=fun m n=>l15Copy_own d hd m n
 by_cases hb:isBack a=true∧d.past ≠ []
 ·rw [deskDo_back hk hb.1 hb.2]
  have ha4:a=⟨4,0,[]⟩:=by have:=hb.1; simp only [isBack,decide_eq_true_eq] at this; exact this
  subst ha4
  obtain ⟨l1,l2,l3,l4,l5,l6⟩:=last_facts (q:=d.now) hb.2
  have hpos:0<d.past.length:=List.length_pos_iff.2 hb.2
  have hpos':(0:Int)<d.past.length:=by omega
  have hne:=hb.2
  have p1:(1:Int)≤d.past.length:=by omega
  have p2:1≤d.past.length:=by omega
  have w1:IntKind.wrap .i64 ((d.past.length:Int)-1)=(d.past.length:Int)-1:=w64 (by omega) (by omega)
  clear hb
  refine FZ (rs:=[.cell 4 28,.tmp 5]) false Tryz.func28 ?_
  simp -dsimp
  refine cl hok ?_
  simp -dsimp
  refine callL_ (vs:=[d.v]) (hcopy _ _) (by simp -dsimp) ?_
  rintro t m1 n1 ⟨hn1,hout,st,rfl,hst⟩
  have k0:=hout 0 (by omega)
  have k1:=hout 1 (by omega)
  have k2:=hout 2 (by omega)
  simp -dsimp at k0 k1 k2
  have f0:=far (show 0<n1 by omega)
  have f1:=far (show 1<n1 by omega)
  have f2:=far (show 2<n1 by omega)
  have z1:¬n1=0:=by omega
  have z2:¬n1=1:=by omega
  have z3:¬n1=2:=by omega
  rcases hst with ⟨rfl,hs0⟩ | ⟨id,rfl,hi0,hi1,him⟩
  ·exact absurd (by simpa using hs0) hne
  ·have g1:=far hi1
   generalize d.past.getLast?.getD d.now=q at *
   simp -dsimp [k0,k1,k2,f0,f1,f2,z1,z2,z3,hne,hpos,hpos',p1,p2,g1,him,w1,l1,l2,l3,l4,l5,l6,nes]
 have hmade:=l15Made_fn d.now a hnow ha
 obtain ⟨mf,ml,ms⟩:=made_fine d.now a hnow
 have hpo:=placeOkS_fn (made d.now a) mf
 have hpt:=placeTextS_fn (made d.now a) mf
 have hpn:=placeTextS_fn d.now (place_fine hnow).1
 have hD:deskDo d a=if (placeOk (made d.now a) && !decide (placeTx (made d.now a)=placeTx d.now))=true then (⟨made d.now a,keep8 (d.past++[d.now])⟩,true) else (d,false):=by
  unfold deskDo; rw [if_pos hk,if_neg hb]; rfl
 rw [hD]
 have hb':(decide (a=⟨4,0,[]⟩)=true∧d.past ≠ [])→False:=hb
 have hba:isBack a=true→placeOk (made d.now a)=false∧d.past=[]:=fun h=>⟨by rw [made_back h,zero_no],Classical.byContradiction fun h2=>hb' ⟨h,h2⟩⟩
 clear hb hb' hD
 generalize made d.now a=X at *
 generalize placeTx X=tX at *
 generalize placeTx d.now=tN at *
 have hkX:=ft (placeOk X)
 generalize placeOk X=okX at *
 obtain ⟨kind,num,words⟩:=a
 have htx:tX=tN∨¬tX=tN:=Classical.em _
 obtain ⟨Xp,Xs⟩:=X
 have fullb:(d.past.length+1) * 32≤140737488355328:=by omega
 by_cases hq:kind=4∧num=0∧words=[]
 ·obtain ⟨rfl,rfl,rfl⟩:=hq
  obtain ⟨hokX,he⟩:=hba rfl
  subst hokX
  have he0:(d.past.map Place.v)=[]:=by rw [he]; rfl
  refine FZ (rs:=[.cell 4 28,.tmp 5]) false Tryz.func28 ?_
  simp -dsimp
  refine cl hok ?_
  simp -dsimp
  refine callL_ (vs:=[d.v]) (hcopy _ _) (by simp -dsimp) ?_
  rintro t m1 n1 ⟨hn1,hout,st,rfl,hst⟩
  have k0:=hout 0 (by omega)
  have k1:=hout 1 (by omega)
  have k2:=hout 2 (by omega)
  simp -dsimp at k0 k1 k2
  have f0:=far (show 0<n1 by omega)
  have f1:=far (show 1<n1 by omega)
  have f2:=far (show 2<n1 by omega)
  have z1:¬n1=0:=by omega
  have z2:¬n1=1:=by omega
  have z3:¬n1=2:=by omega
  have hc:=hst.cell
  simp -dsimp [k0,k1,k2,f0,f1,f2,z1,z2,z3,hc,he,nes]
  refine cl hmade ?_
  simp -dsimp [k0,k1,k2,f0,f1,f2,z1,z2,z3,hc,he,nes]
  refine twd [0,1,2,3,4,6,7,5,8,9,10] [0,n1+1+1] (List.replicate 11 [0,1]) (List.replicate 11 [0,1]) ?_
  simp -dsimp [k0,k1,k2,f0,f1,f2,z1,z2,z3,hc,he,nes]
  refine cl hpo ?_
  rcases hst with ⟨rfl,hs0⟩ | ⟨id,rfl,hi0,hi1,him⟩
  ·simp -dsimp [k0,k1,k2,f0,f1,f2,z1,z2,z3,hc,he,nes]
  ·have g1:=far hi1
   have y3:¬id=2:=by omega
   simp -dsimp [k0,k1,k2,f0,f1,f2,z1,z2,z3,hc,he,nes,g1,him,y3]
 ·have hbb:(decide (kind=4) && (decide (num=0) && decide (words=[])))=false:=by
   rw [Bool.eq_false_iff]; intro h; simp at h; exact hq h
  refine FZ (rs:=[.cell 4 28,.tmp 5]) false Tryz.func28 ?_
  simp -dsimp
  refine cl hok ?_
  simp -dsimp
  refine callL_ (vs:=[d.v]) (hcopy _ _) (by simp -dsimp) ?_
  rintro t m1 n1 ⟨hn1,hout,st,rfl,hst⟩
  have k0:=hout 0 (by omega)
  have k1:=hout 1 (by omega)
  have k2:=hout 2 (by omega)
  simp -dsimp at k0 k1 k2
  have f0:=far (show 0<n1 by omega)
  have f1:=far (show 1<n1 by omega)
  have f2:=far (show 2<n1 by omega)
  have z1:¬n1=0:=by omega
  have z2:¬n1=1:=by omega
  have z3:¬n1=2:=by omega
  have hc:=hst.cell
  simp -dsimp [k0,k1,k2,f0,f1,f2,z1,z2,z3,hc,hbb,nes]
  refine cl hmade ?_
  simp -dsimp [k0,k1,k2,f0,f1,f2,z1,z2,z3,hc,nes]
  refine twd [0,1,2,3,4,6,7,5,8,9,10] [0,n1+1+1] (List.replicate 11 [0,1]) (List.replicate 11 [0,1]) ?_
  simp -dsimp [k0,k1,k2,f0,f1,f2,z1,z2,z3,hc,nes]
  refine cl hpo ?_
  rcases hkX with rfl | rfl
  ·rcases hst with ⟨rfl,hs0⟩ | ⟨id,rfl,hi0,hi1,him⟩
   ·have hs0':d.past=[]:=by simpa using hs0
    simp -dsimp [k0,k1,k2,f0,f1,f2,z1,z2,z3,hc,nes,hs0']
   ·have g1:=far hi1
    have y3:¬id=2:=by omega
    simp -dsimp [k0,k1,k2,f0,f1,f2,z1,z2,z3,hc,nes,g1,him,y3]
  simp -dsimp [k0,k1,k2,f0,f1,f2,z1,z2,z3,hc,nes]
  refine cl hpt ?_
  simp -dsimp [k0,k1,k2,f0,f1,f2,z1,z2,z3,hc,nes]
  refine cl hpn ?_
  rcases htx with rfl | htx
  ·rcases hst with ⟨rfl,hs0⟩ | ⟨id,rfl,hi0,hi1,him⟩
   ·have hs0':d.past=[]:=by simpa using hs0
    simp -dsimp [k0,k1,k2,f0,f1,f2,z1,z2,z3,hc,nes,hs0']
   ·have g1:=far hi1
    have y3:¬id=2:=by omega
    simp -dsimp [k0,k1,k2,f0,f1,f2,z1,z2,z3,hc,nes,g1,him,y3]
  rcases hst with ⟨rfl,hs0⟩ | ⟨id,rfl,hi0,hi1,him⟩
  ·have hs0':d.past=[]:=by simpa using hs0
   have hk8:keep8 (d.past++[d.now])=[d.now]:=by rw [hs0']; rfl
   simp -dsimp [k0,k1,k2,f0,f1,f2,z1,z2,z3,hc,nes,htx,hs0',keep8]
  ·have g1:=far hi1
   have y3:¬id=2:=by omega
   by_cases h8:d.past.length=8
   ·have e8:(d.past.length:Int)=8:=by omega
    simp -dsimp [k0,k1,k2,f0,f1,f2,z1,z2,z3,hc,nes,htx,g1,him,y3,Ne.symm y3,h8,e8,keep8,fullb]
    rw [List.take_of_length_le (by simp [h8])]
   ·have e8:d.past.length<8:=by omega
    have e8':¬(8:Int)<(d.past.length:Int)+1:=by omega
    have e8'':¬8<d.past.length+1:=by omega
    simp -dsimp [k0,k1,k2,f0,f1,f2,z1,z2,z3,hc,nes,htx,g1,him,y3,Ne.symm y3,h8,e8,e8',e8'',keep8,fullb]
end TL

namespace TL
open Go Go.Proofs
attribute [local simp] marksV storyV codeV Claim.v Place.v Desk.v
def IcS (l:List Claim) (m0:Mem) (n0:Nat) (e:Nat) (s:S):Prop:=∃ i id:Nat,s.tm 7=.v (.sl (l.map Claim.v))∧s.tm 8=.v (.int .i64 l.length)∧s.tm 9=.v (.int .i64 i)∧s.mu=false∧i≤l.length∧s.tm 3=.loc id∧n0≤id∧id<s.n∧s.m id=some (.arr 63 ((l.take i).map Claim.v))∧(∀ j,j<n0→s.m j=m0 j)∧(e=1→i=l.length)
theorem copyStory_own (l:List Claim) (hl:l.length≤1048576) (hs:∀ c ∈ l,c.small) (m:Mem) (n:Nat):FnS Tryz.prog 105 m n [.v (storyV l)] (fun t m' n'=>n≤n'∧(∀ j,j<n→m' j=m j)∧∃ id,t=.loc id∧n≤id∧id<n'∧m' id=some (.arr 63 (l.map Claim.v))):=by
 refine FS (rs:=[.tmp 2]) false Tryz.func105 ?_
 simp -dsimp
 refine twp_loopC (IcS l m n 0) (fun s=>l.length-natOf (s.tm 9)) (IcS l m n 1) ?_ ?_ ?_
 ·exact ⟨0,n,by simp -dsimp,by simp -dsimp,by simp -dsimp,by simp -dsimp,by omega,by simp -dsimp,by omega,by simp -dsimp,by simp -dsimp,fun j j1=>by simp -dsimp [far j1],by simp⟩
 ·rintro s ⟨i,id,t7,t8,t9,hmu,hi,t3,hid0,hid,hm,hout,hend⟩
  by_cases hlt:i<l.length
  case neg =>
   simp -dsimp [t8,t9,hlt]
   exact ⟨i,id,by simp -dsimp [t7],by simp -dsimp [t8],by simp -dsimp [t9],by simp -dsimp [hmu],hi,by simp -dsimp [t3],hid0,by simp -dsimp [hid],by simp -dsimp [hm],fun j j1=>by simp -dsimp [hout j j1],fun _=>by omega⟩
  have hget:(l.map Claim.v)[i]? = some (l[i].v):=by simp [hlt]
  have wi:IntKind.wrap .i64 ((i:Int)+1)=((i+1:Nat):Int):=by rw [w64 (by omega) (by omega)]; omega
  have hmu1:l.length-(i+1)<l.length-i:=by omega
  have f1:=far hid
  have b1:(min i l.length+1) * 32≤140737488355328:=by omega
  have htk:(l.take (i+1)).map Claim.v=(l.take i).map Claim.v++[l[i].v]:=by rw [List.take_succ_eq_append_getElem hlt,List.map_append]; rfl
  simp -dsimp [t7,t8,t9,hlt,hget]
  refine twd (List.range 10) [s.n] (List.replicate 10 [0]) (List.replicate 10 [0]) ?_
  simp -dsimp [List.range_succ,t3]
  refine cl (cloneMarks_fn l[i].says (hs _ (List.getElem_mem _))) ?_
  simp -dsimp [List.range_succ,t3,t9,hmu,f1,hm,b1,wi,hmu1,nes]
  refine st_out fun s' ht hm' hn' hu' => ?_
  have a3:=ht 3
  have a7:=ht 7
  have a8:=ht 8
  have a9:=ht 9
  simp -dsimp [t7,t8] at a3 a7 a8 a9 hm' hn' hu'
  clear ht
  refine ⟨i+1,s.n+1+1+1,a7,a8,a9,by rw [hu',hmu],by omega,a3,by omega,by omega, ?_,fun j j1 => ?_,by simp⟩
  ·rw [htk]; simp [hm',nes]
  ·simp [hm',far (show j<s.n by omega),show ¬j=id by omega,hout j j1]
 ·rintro s ⟨i,id,t7,t8,t9,hmu,hi,t3,hid0,hid,hm,hout,hend⟩
  have:=hend rfl
  subst this
  rw [List.take_length] at hm
  simp -dsimp [t3]
  exact ⟨by omega,hout,hid0,hid,hm⟩
/-- A place whose claims are a row of the caller's own. -/
def OwnPlaceL (p:Place) (m:Mem) (n:Nat) (t:T) (m':Mem) (n':Nat):Prop:=n≤n'∧(∀ j,j<n→m' j=m j)∧∃ id,t=.agg [.v (.int .i64 p.people),.loc id]∧n≤id∧id<n'∧m' id=some (.arr 63 (p.story.map Claim.v))
theorem copyPlace_own (p:Place) (hp:p.small) (m:Mem) (n:Nat):FnS Tryz.prog 51 m n [.v p.v] (OwnPlaceL p m n):=by
 refine FS (rs:=[.cell 2 25]) false Tryz.func51 ?_
 simp -dsimp
 refine twd (List.range 7) [n] (List.replicate 7 [0]) (List.replicate 7 [0]) ?_
 simp -dsimp [List.range_succ]
 refine callS_ (copyStory_own p.story hp.1 hp.2 _ _) ?_
 rintro t m1 n1 ⟨hn1,hout1,id,rfl,hid0,hid,him⟩
 have f1:=far hid
 have k0:=hout1 n (by omega)
 have k1:=hout1 (n+1) (by omega)
 simp -dsimp [nes] at k0 k1
 have d0:¬id=n+1:=by omega
 have d1:¬n+1=id:=by omega
 simp -dsimp [List.range_succ,k0,k1,nes,f1]
 refine ⟨by omega,fun j j1 => ?_,id, ?_⟩
 ·have:=hout1 j (by omega)
  simp [far j1,show ¬j=n+1 by omega] at this ⊢
  exact this
 ·exact ⟨rfl,by omega,by omega,by simp [d0,him]⟩
/-- A desk whose place's claims and whose past are rows of the caller's own. -/
def OwnDeskL (d:Desk) (m:Mem) (n:Nat) (t:T) (m':Mem) (n':Nat):Prop:=n≤n'∧(∀ j,j<n→m' j=m j)∧∃ id st,t=.agg [.v (.int .i64 d.now.people),.loc id,st]∧n≤id∧id<n'∧m' id=some (.arr 63 (d.now.story.map Claim.v))∧IsRow m' n n' 25 st (d.past.map Place.v)∧st ≠ .loc id
def Icd (d:Desk) (m0:Mem) (n0 id q:Nat) (e:Nat) (s:S):Prop:=∃ (i:Nat) (st:T),s.tm 2=.ptr (n0+1) 0∧s.tm 3=.ptr q 0∧s.tm 11=.v (.sl (d.past.map Place.v))∧s.tm 12=.v (.int .i64 d.past.length)∧s.tm 13=.v (.int .i64 i)∧s.mu=false∧i≤d.past.length∧q<s.n ∧
 s.m (n0+1)=some (.box 28 3 [.v (.int .i64 0),.nil,.nil])∧s.m q=some (.box 28 3 [.v (.int .i64 d.now.people),.loc id,st])∧s.m id=some (.arr 63 (d.now.story.map Claim.v))∧IsRow s.m (q+1) s.n 25 st ((d.past.take i).map Place.v)∧(∀ j,j<n0→s.m j=m0 j)∧(e=1→i=d.past.length)
theorem copyDesk_own (d:Desk) (hd:d.small) (m:Mem) (n:Nat):FnS Tryz.prog 24 m n [.v d.v] (OwnDeskL d m n):=by
 have hl:=hd.2.1
 refine FS (rs:=[.cell 2 28]) false Tryz.func24 ?_
 simp -dsimp
 refine callL_ (vs:=[d.now.v]) (copyPlace_own d.now hd.1 _ _) (by simp -dsimp) ?_
 rintro t m1 n1 ⟨hn1,hout1,id,rfl,hid0,hid,him⟩
 have f1:=far hid
 have k0:=hout1 n (by omega)
 have k1:=hout1 (n+1) (by omega)
 simp -dsimp [nes] at k0 k1
 have g0:=far (show n<n1 by omega)
 have g1:=far (show n+1<n1 by omega)
 simp -dsimp [k0,k1,nes,f1,g0,g1]
 refine twp_loopC (Icd d m n id n1 0) (fun s=>d.past.length-natOf (s.tm 13)) (Icd d m n id n1 1) ?_ ?_ ?_
 ·refine ⟨0,.nil,by simp -dsimp,by simp -dsimp,by simp -dsimp,by simp -dsimp,by simp -dsimp,by simp -dsimp,by omega,(by simp -dsimp <;> omega),by simp -dsimp [g1,k1],by simp -dsimp [f1],by simp -dsimp [f1,him],.inl ⟨rfl,by simp⟩,fun j j1 => ?_,by simp⟩
  have:=hout1 j (by omega)
  simp -dsimp [far j1] at this
  simp -dsimp [far (show j<n1 by omega),this]
 ·rintro s ⟨i,st,t2,t3,t11,t12,t13,hmu,hi,hq,m1',mq,mid,hst,hout,hend⟩
  by_cases hlt:i<d.past.length
  case neg =>
   simp -dsimp [t12,t13,hlt]
   exact ⟨i,st,by simp -dsimp [t2],by simp -dsimp [t3],by simp -dsimp [t11],by simp -dsimp [t12],by simp -dsimp [t13],by simp -dsimp [hmu],hi,by simp -dsimp; omega,by simp -dsimp [m1'],by simp -dsimp [mq],by simp -dsimp [mid],hst,fun j j1=>by simp -dsimp [hout j j1],fun _=>by omega⟩
  have hget:(d.past.map Place.v)[i]? = some (d.past[i].v):=by simp [hlt]
  have wi:IntKind.wrap .i64 ((i:Int)+1)=((i+1:Nat):Int):=by rw [w64 (by omega) (by omega)]; omega
  have hmu1:d.past.length-(i+1)<d.past.length-i:=by omega
  have p0:=far (show n1<s.n by omega)
  have p1:=far (show n+1<s.n by omega)
  have p2:=far (show id<s.n by omega)
  have p3:=far (show n<s.n by omega)
  have q0:¬n+1=n1:=by omega
  have q1:¬n1=n+1:=by omega
  have q2:¬id=n1:=by omega
  have q3:¬n1=id:=by omega
  have q4:¬id=n+1:=by omega
  have q5:¬n+1=id:=by omega
  have hsm:=hd.2.2 d.past[i] (List.getElem_mem _)
  have hpl:=copyPlace_fn d.past[i] hsm
  have b1:(min i d.past.length+1) * 32≤140737488355328:=by omega
  have htk:(d.past.take (i+1)).map Place.v=(d.past.take i).map Place.v++[d.past[i].v]:=by rw [List.take_succ_eq_append_getElem hlt,List.map_append]; rfl
  simp -dsimp [t11,t12,t13,hlt,hget]
  refine twd (List.range 8) [s.n,n1] (List.replicate 8 [0,1]) (List.replicate 7 [0,1]++[[0]]) ?_
  rcases hst with ⟨rfl,hs0⟩ | ⟨r,rfl,hi0,hi1,him'⟩
  ·have hi00:i=0:=by
    simp at hs0; rcases hs0 with h | h
    ·exact h
    ·rw [h] at hlt; simp at hlt
   subst hi00
   have hmu2:d.past.length-1<d.past.length:=by omega
   have wz:IntKind.wrap .i64 1=1:=rfl
   simp -dsimp [List.range_succ,t3,mq,p0,p1,p2,nes]
   refine cl hpl ?_
   simp -dsimp [List.range_succ,t3,t13,mq,p0,p1,p2,nes,hmu,wi,hmu1,hmu2,wz,q0,q1,q2,q3,q4,q5]
   refine st_out fun s' ht hm' hn' hu' => ?_
   have a2:=ht 2
   have a3:=ht 3
   have a11:=ht 11
   have a12:=ht 12
   have a13:=ht 13
   simp -dsimp [t2,t3,t11,t12] at a2 a3 a11 a12 a13 hm' hn' hu'
   clear ht
   refine ⟨1,.loc (s.n+1+1+1),a2,a3,a11,a12,a13,by rw [hu',hmu],by omega,by omega,by simp [hm',p0,p1,p2,p3,nes,q0,m1'],by simp [hm',p0,nes],by simp [hm',p0,p1,p2,p3,nes,q2,mid],.inr ⟨s.n+1+1+1,rfl,by omega,by omega, ?_⟩,fun j j1 => ?_,by simp⟩
   ·rw [htk]; simp [hm',p0,nes]
   ·simp [hm',far (show j<s.n by omega),show ¬j=n1 by omega,hout j j1]
  ·have g1':=far hi1
   have g2:¬r=n1:=by omega
   have g3:¬r=n+1:=by omega
   have g4:¬r=id:=by omega
   simp -dsimp [List.range_succ,t3,mq,p0,p1,p2,nes]
   refine cl hpl ?_
   simp -dsimp [List.range_succ,t3,t13,mq,p0,p1,p2,nes,hmu,wi,hmu1,q0,q1,q2,q3,q4,q5,g1',g2,Ne.symm g2,him',b1]
   refine st_out fun s' ht hm' hn' hu' => ?_
   have a2:=ht 2
   have a3:=ht 3
   have a11:=ht 11
   have a12:=ht 12
   have a13:=ht 13
   simp -dsimp [t2,t3,t11,t12] at a2 a3 a11 a12 a13 hm' hn' hu'
   clear ht
   refine ⟨i+1,.loc (s.n+1+1+1),a2,a3,a11,a12,a13,by rw [hu',hmu],by omega,by omega,by simp [hm',p0,p1,p2,p3,nes,q0,m1',Ne.symm g3],by simp [hm',p0,nes],by simp [hm',p0,p1,p2,p3,nes,q2,mid,Ne.symm g4],.inr ⟨s.n+1+1+1,rfl,by omega,by omega, ?_⟩,fun j j1 => ?_,by simp⟩
   ·rw [htk]; simp [hm',p0,nes,g1']
   ·simp [hm',far (show j<s.n by omega),show ¬j=n1 by omega,show ¬j=r by omega,hout j j1]
 ·rintro s ⟨i,st,t2,t3,t11,t12,t13,hmu,hi,hq,m1',mq,mid,hst,hout,hend⟩
  have:=hend rfl
  subst this
  rw [List.take_length] at hst
  have q0:¬n1=n+1:=by omega
  have q1:¬id=n+1:=by omega
  have hc:=hst.cell
  simp -dsimp [t2,t3,m1',mq,q0,hc]
  refine ⟨by omega,fun j j1=>by simp [show ¬j=n+1 by omega,hout j j1],id,st, ?_⟩
  refine ⟨rfl,by omega,by omega,by simp [q1,mid], ?_, ?_⟩
  ·rcases hst with ⟨rfl,hs0⟩ | ⟨r,rfl,hi0,hi1,him'⟩
   ·exact .inl ⟨rfl,hs0⟩
   ·exact .inr ⟨r,rfl,by omega,by omega,by simp [show ¬r=n+1 by omega,him']⟩
  ·rcases hst with ⟨rfl,hs0⟩ | ⟨r,rfl,hi0,hi1,him'⟩
   ·simp
   ·simp; omega
end TL

namespace TL
open Go Go.Proofs
attribute [local simp] marksV storyV codeV Claim.v Place.v Deed.v Desk.v
theorem nes8 (n:Nat):(¬n=n+1+1+1+1+1+1+1+1)∧(¬n+1+1+1+1+1+1+1+1=n)∧(¬n=n+1+1+1+1+1+1+1+1+1)∧(¬n+1+1+1+1+1+1+1+1+1=n)∧(¬n=n+1+1+1+1+1+1+1+1+1+1)∧(¬n+1+1+1+1+1+1+1+1+1+1=n)∧(¬n=n+1+1+1+1+1+1+1+1+1+1+1)∧(¬n+1+1+1+1+1+1+1+1+1+1+1=n)∧(¬n=n+1+1+1+1+1+1+1+1+1+1+1+1)∧(¬n+1+1+1+1+1+1+1+1+1+1+1+1=n)∧(¬n=n+1+1+1+1+1+1+1+1+1+1+1+1+1)∧(¬n+1+1+1+1+1+1+1+1+1+1+1+1+1=n)∧(¬n=n+1+1+1+1+1+1+1+1+1+1+1+1+1+1)∧(¬n+1+1+1+1+1+1+1+1+1+1+1+1+1+1=n):=by
 refine ⟨?_, ?_, ?_, ?_, ?_, ?_, ?_, ?_, ?_, ?_, ?_, ?_, ?_, ?_⟩ <;> omega
/-- What is done if a deed makes a place. -/
theorem deskDo_made {d:Desk} {a:Deed} (hk:deskOk d=true) (hb:isBack a=false):deskDo d a=if (placeOk (made d.now a) && !decide (placeTx (made d.now a)=placeTx d.now))=true then (⟨made d.now a,keep8 (d.past++[d.now])⟩,true) else (d,false):=by
 unfold deskDo; rw [if_pos hk,if_neg (by simp [hb])]; rfl
theorem deskDo_zero {d:Desk} {a:Deed} (hk:deskOk d=true) (hb:isBack a=false) (hm:made d.now a=⟨0,[]⟩):deskDo d a=(d,false):=by
 rw [deskDo_made hk hb,hm,zero_no]; rfl
end TL

namespace TL
open Go Go.Proofs
attribute [local simp] marksV storyV codeV Claim.v Place.v Deed.v Desk.v
theorem back_no {a:Deed} (h:¬(a.kind=4∧a.num=0∧a.words=[])):isBack a=false:=by
 simp only [isBack,decide_eq_false_iff_not]; rintro rfl; exact h ⟨rfl,rfl,rfl⟩
end TL

namespace TL
open Go Go.Proofs Go.RowKit
section
variable {P:Program}
theorem cut_FnZ {ρ : Go.Shelf.Ren} (L : Go.Proofs.Lays.n145 P ρ) (hf : ∃ fn,P.funcs[ρ.f 145]? = some fn ∧ (fn.name == "runtime.NumGoroutine") = false ∧ fn.body.isNone = false)
  (hg : P.globalNamed "internal/bytealg.MaxLen" = some (ρ.g 1)) (s c : List UInt8) (hs : s.length < 4294967281) : FnZ P (ρ.f 145) [.str s,.str c] (.tup [.str (Go.Lib.cut s c).1,.str (Go.Lib.cut s c).2.1,.bool (Go.Lib.cut s c).2.2]) := by
 refine FnZ_calls hf fun Z w vs hz hv => ?_
 cases hv with | cons h1 hv=>cases hv with | cons h2 hv=>cases hv with | nil =>
  cases h1 with
  | @str _ b hb =>
   cases h2 with
   | @str _ bsep hb2 =>
    have hq:GQ P (ρ.g 1) (fun v=>∃ m,v=.int .i64 m):=GQ.maxLen hg
    obtain ⟨_,v,hc,m,rfl⟩:=hz.gl _ _ hq
    have hsz:b.size=s.length:=by rw [← hb]; rfl
    refine calls_mono (Any.strings_Cut L b bsep m w (by omega) hc) ?_
    rintro e w' ⟨rfl,n,rfl⟩
    rw [hb,hb2]
    exact ⟨_,rfl,below_drewN (Below.refl _ _) n,.tup (.cons (.str (by simp)) (.cons (.str (by simp)) (.cons (.bool _) .nil)))⟩
theorem atoi_FnZ {ρ : Go.Shelf.Ren} (L : Go.Proofs.LaysC.n172 P ρ) (hf : ∃ fn,P.funcs[ρ.f 172]? = some fn ∧ (fn.name == "runtime.NumGoroutine") = false ∧ fn.body.isNone = false)
  (s:List UInt8) (hs:s.length≤2000000000):FnZ P (ρ.f 172) [.str s] (.tup [.int .i64 (atoiV s),.any]):=by
 refine FnZ_calls hf fun Z w vs hz hv => ?_
 cases hv with | cons h1 hv=>cases hv with | nil =>
  cases h1 with
  | @str _ b hb =>
   have hsz:b.size=s.length:=by rw [← hb]; rfl
   have q1:GQ P (ρ.g 15) (fun v=>v=.nilIface∨∃ t p,v=.iface t p):=GQ.errSyntax L.m15
   have q2:GQ P (ρ.g 16) (fun v=>v=.nilIface∨∃ t p,v=.iface t p):=GQ.errRange L.m16
   obtain ⟨_,v1,hc1,hv1⟩:=hz.gl _ _ q1
   obtain ⟨_,v2,hc2,hv2⟩:=hz.gl _ _ q2
   cases e:Go.Lib.atoiAll s with
   | ok v =>
    have ev:atoiV s=v:=by unfold atoiV; rw [e]
    rw [ev]
    refine calls_mono (Any.strconv_Atoi_ok L b (by omega) v (by rw [hb]; exact e) w) ?_
    rintro e' w' ⟨rfl,hw⟩
    refine ⟨_,rfl, ?_,.tup (.cons (.int _ _) (.cons (.any _) .nil))⟩
    rcases hw with rfl | ⟨t,rfl⟩
    ·exact Below.refl _ _
    ·exact Go.Joins.below_bytesWorld _ _ _ _ (Nat.le_refl _)
   | range =>
    have ev:atoiV s=Go.Lib.atoiSat s:=by unfold atoiV; rw [e]
    rw [ev]
    refine calls_mono (Any.strconv_Atoi_range L b (by omega) (by rw [hb]; exact e) v2 w hc2 hv2) ?_
    rintro e' w' ⟨N,rfl,_,_,hw⟩
    rw [hb]
    exact ⟨_,rfl,hw,.tup (.cons (.int _ _) (.cons (.any _) .nil))⟩
   | _ =>
    have ev:atoiV s=0:=by unfold atoiV; rw [e]
    rw [ev]
    refine calls_mono (Any.strconv_Atoi_syntax L b (by omega) (by rw [hb]; exact e) v1 w hc1 hv1) ?_
    rintro e' w' ⟨N,rfl,_,_,hw⟩
    exact ⟨_,rfl,hw,.tup (.cons (.int _ _) (.cons (.any _) .nil))⟩
end
theorem cut_fn (s c:List UInt8) (hs:s.length<4294967281):FnZ Tryz.prog 45 [.str s,.str c] (.tup [.str (Go.Lib.cut s c).1,.str (Go.Lib.cut s c).2.1,.bool (Go.Lib.cut s c).2.2]) :=
 cut_FnZ Tryz.lays145 ⟨_,Tryz.func45,rfl,rfl⟩ (by kernel_rfl) s c hs
theorem atoi_fn (s:List UInt8) (hs:s.length≤2000000000):FnZ Tryz.prog 46 [.str s] (.tup [.int .i64 (atoiV s),.any]) :=
 atoi_FnZ Tryz.laysC172 ⟨_,Tryz.func46,rfl,rfl⟩ s hs
end TL

namespace TL
open Go Go.Proofs
def optD (o:Option Deed):V:=.tup [(o.getD ⟨0,0,[]⟩).v,.bool o.isSome]
end TL

namespace TL
open Go Go.Proofs
attribute [local simp] marksV storyV codeV Claim.v Place.v Deed.v
def Deed.fit (a:Deed):Prop:=TL.fit a.kind∧TL.fit a.num∧a.words.length≤9223372036854775807
end TL

namespace TL
open Go Go.Proofs
attribute [local simp] marksV storyV codeV Claim.v Place.v Deed.v
def jr (l:List Deed) (f:Deed→List UInt8):List UInt8:=(l.map fun a=>f a++[10]).flatten
/-! Rows of deeds. -/
end TL

namespace TL
open Go Go.Proofs
attribute [local simp] marksV storyV codeV Claim.v Place.v Deed.v
theorem readDeed_fn (s:List UInt8) (hl:s.length≤2000000000):FnZ Tryz.prog 22 [.str s] (optD (readD s)):=by
 have hcut:=cut_fn s [32] (by omega)
 have hon:∀ a,deedW (Go.Lib.cut s [32]).1 (Go.Lib.cut s [32]).2.1=some a→s ≠ []→readD s=if deedTx a=s then some a else none:=fun a h=>readD_on h
 have hoff:deedW (Go.Lib.cut s [32]).1 (Go.Lib.cut s [32]).2.1=none→readD s=none:=readD_off
 have hne:=cutW_nil (s:=s)
 have hrl:=cutR_len s [32]
 have hdt:∀ a:Deed,a.words.length≤2000000000→FnZ Tryz.prog 47 [a.v] (.str (deedTx a)):=fun a h=>deedText_fn a h
 generalize (Go.Lib.cut s [32]).2.2=f at *
 generalize (Go.Lib.cut s [32]).2.1=r at *
 generalize (Go.Lib.cut s [32]).1=w at *
 have hrl2:r.length≤2000000000:=by omega
 by_cases h1:w=[115,97,121]
 ·subst h1
  have ho:=hon ⟨0,0,r⟩ rfl (hne (by simp))
  have hd:=hdt ⟨0,0,r⟩ hrl2
  clear hon hoff hne hdt
  rw [ho]
  by_cases hx:deedTx ⟨0,0,r⟩=s
  ·rw [hx] at hd
   rw [if_pos hx]
   refine FZ (rs:=[.cell 2 49,.tmp 3]) false Tryz.func22 ?_
   simp -dsimp
   refine cl hcut ?_
   simp -dsimp
   refine cl hd ?_
   simp -dsimp [optD]
  ·rw [if_neg hx]
   refine FZ (rs:=[.cell 2 49,.tmp 3]) false Tryz.func22 ?_
   simp -dsimp
   refine cl hcut ?_
   simp -dsimp
   refine cl hd ?_
   simp -dsimp [optD,hx]
 by_cases h2:w=[100,114,111,112]
 ·subst h2
  have ho:=hon ⟨1,atoiV r,[]⟩ rfl (hne (by simp))
  have hd:=hdt ⟨1,atoiV r,[]⟩ (by simp)
  have ha:=atoi_fn r hrl2
  clear hon hoff hne hdt
  rw [ho]
  generalize atoiV r=num at *
  by_cases hx:deedTx ⟨1,num,[]⟩=s
  ·rw [hx] at hd
   rw [if_pos hx]
   refine FZ (rs:=[.cell 2 49,.tmp 3]) false Tryz.func22 ?_
   simp -dsimp
   refine cl hcut ?_
   simp -dsimp
   refine cl ha ?_
   simp -dsimp
   refine cl hd ?_
   simp -dsimp [optD]
  ·rw [if_neg hx]
   refine FZ (rs:=[.cell 2 49,.tmp 3]) false Tryz.func22 ?_
   simp -dsimp
   refine cl hcut ?_
   simp -dsimp
   refine cl ha ?_
   simp -dsimp
   refine cl hd ?_
   simp -dsimp [optD,hx]
 by_cases h3:w=[112,101,111,112,108,101]
 ·subst h3
  have ho:=hon ⟨2,atoiV r,[]⟩ rfl (hne (by simp))
  have hd:=hdt ⟨2,atoiV r,[]⟩ (by simp)
  have ha:=atoi_fn r hrl2
  clear hon hoff hne hdt
  rw [ho]
  generalize atoiV r=num at *
  by_cases hx:deedTx ⟨2,num,[]⟩=s
  ·rw [hx] at hd
   rw [if_pos hx]
   refine FZ (rs:=[.cell 2 49,.tmp 3]) false Tryz.func22 ?_
   simp -dsimp
   refine cl hcut ?_
   simp -dsimp
   refine cl ha ?_
   simp -dsimp
   refine cl hd ?_
   simp -dsimp [optD]
  ·rw [if_neg hx]
   refine FZ (rs:=[.cell 2 49,.tmp 3]) false Tryz.func22 ?_
   simp -dsimp
   refine cl hcut ?_
   simp -dsimp
   refine cl ha ?_
   simp -dsimp
   refine cl hd ?_
   simp -dsimp [optD,hx]
 by_cases h4:w=[108,101,97,115,116]
 ·subst h4
  have ho:=hon ⟨3,0,[]⟩ rfl (hne (by simp))
  have hd:=hdt ⟨3,0,[]⟩ (by simp)
  clear hon hoff hne hdt
  rw [ho]
  by_cases hx:deedTx ⟨3,0,[]⟩=s
  ·rw [hx] at hd
   rw [if_pos hx]
   refine FZ (rs:=[.cell 2 49,.tmp 3]) false Tryz.func22 ?_
   simp -dsimp
   refine cl hcut ?_
   simp -dsimp
   refine cl hd ?_
   simp -dsimp [optD]
  ·rw [if_neg hx]
   refine FZ (rs:=[.cell 2 49,.tmp 3]) false Tryz.func22 ?_
   simp -dsimp
   refine cl hcut ?_
   simp -dsimp
   refine cl hd ?_
   simp -dsimp [optD,hx]
 by_cases h5:w=[98,97,99,107]
 ·subst h5
  have ho:=hon ⟨4,0,[]⟩ rfl (hne (by simp))
  have hd:=hdt ⟨4,0,[]⟩ (by simp)
  clear hon hoff hne hdt
  rw [ho]
  by_cases hx:deedTx ⟨4,0,[]⟩=s
  ·rw [hx] at hd
   rw [if_pos hx]
   refine FZ (rs:=[.cell 2 49,.tmp 3]) false Tryz.func22 ?_
   simp -dsimp
   refine cl hcut ?_
   simp -dsimp
   refine cl hd ?_
   simp -dsimp [optD]
  ·rw [if_neg hx]
   refine FZ (rs:=[.cell 2 49,.tmp 3]) false Tryz.func22 ?_
   simp -dsimp
   refine cl hcut ?_
   simp -dsimp
   refine cl hd ?_
   simp -dsimp [optD,hx]
 ·have e:deedW w r=none:=by unfold deedW; rw [if_neg h1,if_neg h2,if_neg h3,if_neg h4,if_neg h5]
  rw [hoff e]
  clear hon hoff hne hdt
  refine FZ (rs:=[.cell 2 49,.tmp 3]) false Tryz.func22 ?_
  simp -dsimp
  refine cl hcut ?_
  simp -dsimp [optD,h1,h2,h3,h4,h5]
end TL

namespace TL
open Go Go.Proofs
attribute [local simp] marksV storyV codeV Claim.v Place.v Deed.v
def SomeDeed (x:V):Prop:=∃ a:Deed,a.words.length≤200∧x=a.v
theorem deed_kinds:∃ vs:List V,vs=[.int .i64 0,.int .i64 0,.int .i64 0,.int .i64 1,.int .i64 2,.int .i64 3,.int .i64 4]∧∀ r:Int,0≤r→r<7→∃ k:Int,0≤k∧k≤4∧vs[r.toNat]? = some (.int .i64 k):=by
 refine ⟨_,rfl,fun r h0 h6 => ?_⟩
 have:r=0∨r=1∨r=2∨r=3∨r=4∨r=5∨r=6:=by omega
 rcases this with rfl | rfl | rfl | rfl | rfl | rfl | rfl
 ·exact ⟨0,by omega,by omega,rfl⟩
 ·exact ⟨0,by omega,by omega,rfl⟩
 ·exact ⟨0,by omega,by omega,rfl⟩
 ·exact ⟨1,by omega,by omega,rfl⟩
 ·exact ⟨2,by omega,by omega,rfl⟩
 ·exact ⟨3,by omega,by omega,rfl⟩
 ·exact ⟨4,by omega,by omega,rfl⟩
def DI (m0:Mem) (n0 rid:Nat) (bs:List UInt8) (p:Nat) (q:Place) (s:S):Prop:=∃ (kind:Int) (id p':Nat),s.tm 0=.ptr rid 0∧s.tm 3=.ptr n0 0∧s.tm 4=.ptr (n0+1) 0∧s.tm 5=.ptr id 0∧s.mu=false∧n0+1<id∧id<s.n ∧
 s.m n0=some (.box 25 2 [.v (.int .i64 q.people),.v (storyV q.story)])∧s.m (n0+1)=some (.box 49 3 [.v (.int .i64 0),.v (.int .i64 0),.v (.str [])]) ∧
 s.m id=some (.box 49 3 [.v (.int .i64 kind),.v (.int .i64 0),.v (.str [])])∧s.m rid=some (rdB bs p')∧p≤p'∧p'≤p+2∧(∀ j,j<n0→j ≠ rid→s.m j=m0 j)
def DI2 (m0:Mem) (n0 rid:Nat) (bs:List UInt8) (p:Nat) (s:S):Prop:=∃ (kind num:Int) (words:List UInt8) (id p':Nat),s.tm 0=.ptr rid 0∧s.tm 4=.ptr (n0+1) 0∧s.tm 5=.ptr id 0∧s.mu=false∧n0+1<id∧id<s.n ∧
 s.m (n0+1)=some (.box 49 3 [.v (.int .i64 0),.v (.int .i64 0),.v (.str [])]) ∧
 s.m id=some (.box 49 3 [.v (.int .i64 kind),.v (.int .i64 num),.v (.str words)])∧words.length≤100∧s.m rid=some (rdB bs p')∧p≤p'∧p'≤p+60∧(∀ j,j<n0→j ≠ rid→s.m j=m0 j)
theorem sixty {r:Int} (h0:0≤r) (h:r<60):∃ k:Int,r.tdiv 59=k∧0≤k∧k≤1:=⟨_,rfl,by rw [Int.tdiv_eq_ediv_of_nonneg h0]; omega,by rw [Int.tdiv_eq_ediv_of_nonneg h0]; omega⟩
theorem deed_zX (bs:List UInt8) (p:Nat) (hp:p<600000000) (q:Place) (hq:q.story.length≤1000) (X:T) (hX:X.cells=[.v (.int .i64 q.people),.v (storyV q.story)]) (m:Mem) (n rid:Nat) (hr:rid<n) (hm:m rid=some (rdB bs p)) :
  FnS Tryz.prog 41 m n [.ptr rid 0,X] (Draws SomeDeed 100 m n rid bs p):=by
 refine Draws_of hr ⟨_,Tryz.func41,rfl,rfl⟩ fun hfr => ?_
 obtain ⟨vs,hvs,hel⟩:=deed_kinds
 refine FS (rs:=[.cell 4 49]) false Tryz.func41 ?_
 have f1:=far hr
 simp -dsimp [hX]
 refine twp_cutQ (DI m n rid bs p q) ?_ ?_
 ·refine twp_drawT (.run [1,5,1000] (.alt (.run [11,2,3,4,6,7,8,9,10,12] .done) (.run [2,3,4] (.alt (.run [11,6,7,8,9,10,12] .done) (.run [6,7,8,9,10,11,12] .done))))) [] (List.replicate 13 []) (List.replicate 13 []) (by kernel_rfl) (by kernel_rfl) (by kernel_rfl) (by kernel_rfl) ?_
  simp -dsimp [List.range_succ,f1]
  refine bld_ [(0,.int .i64 0),(1,.int .i64 0),(2,.int .i64 0),(3,.int .i64 1),(4,.int .i64 2),(5,.int .i64 3),(6,.int .i64 4)] 3 vs (by simp -dsimp) (by rw [hvs]; simp -dsimp) ?_
  clear hvs
  simp -dsimp [List.range_succ,f1]
  refine ordT_both ?_ ?_
  ·simp -dsimp [List.range_succ,f1]
   refine callS_ (pick_at bs p (by omega) _ _ _ rid (by simp [hm,f1])) ?_
   rintro t m1 n1 ⟨hn1,⟨r,rfl,hr0,hr1⟩,rfl⟩
   have hr1:=hr1 (by decide)
   refine (hel r hr0 hr1).elim fun k hk => ?_
   have k0:=hk.1
   have k4:=hk.2.1
   have kg:=hk.2.2
   have g1:=far (show rid<n1 by omega)
   simp -dsimp [List.range_succ,f1,hr0,kg]
   refine callS_ (pick_at bs (p+1) (by omega) _ _ _ rid (by simp [f1,g1])) ?_
   rintro t m2 n2 ⟨hn2,⟨r2,rfl,hr20,hr21⟩,rfl⟩
   have hr21:=hr21 (by decide)
   refine (sixty hr20 hr21).elim fun k2 hk2 => ?_
   have e2:=hk2.1
   have e20:=hk2.2.1
   have e21:=hk2.2.2
   have w1:IntKind.wrap .i64 k2=k2:=w64 (by omega) (by omega)
   have w2:IntKind.wrap .i64 (k2 * 5)=k2 * 5:=w64 (by omega) (by omega)
   have w3:IntKind.wrap .i64 (k+k2 * 5)=k+k2 * 5:=w64 (by omega) (by omega)
   have g2:=far (show rid<n2 by omega)
   have g3:=far (show n<n2 by omega)
   have g4:=far (show n+1<n2 by omega)
   have g5:=far (show n<n1 by omega)
   have g6:=far (show n+1<n1 by omega)
   have g7:=far (show n<n+1+1 by omega)
   have g8:=far (show n+1<n+1+1 by omega)
   simp -dsimp [List.range_succ,f1,g1,g2,g3,g4,e2,w1,w2,w3]
   refine ⟨k+k2 * 5,n+1+1,p+1+1,by simp -dsimp,by simp -dsimp,by simp -dsimp,by simp -dsimp,by simp -dsimp,by omega,by simp -dsimp <;> omega,by simp -dsimp [f1,g1,g2,g3,g4,g5,g6,g7,g8],by simp -dsimp [f1,g1,g2,g3,g4,g5,g6,g7,g8],by simp -dsimp [f1,g1,g2,g3,g4,g5,g6,g7,g8],by simp -dsimp [f1,g1,g2,g3,g4,g5,g6,g7,g8],by omega,by omega,fun j j1 j2 => ?_⟩
   simp -dsimp [far j1,far (show j<n1 by omega),far (show j<n2 by omega),j2,Ne.symm j2]
  ·simp -dsimp [List.range_succ,f1]
   refine callS_ (pick_at bs p (by omega) _ _ _ rid (by simp [hm,f1])) ?_
   rintro t m1 n1 ⟨hn1,⟨r,rfl,hr0,hr1⟩,rfl⟩
   have hr1:=hr1 (by decide)
   refine (hel r hr0 hr1).elim fun k hk => ?_
   have k0:=hk.1
   have k4:=hk.2.1
   have kg:=hk.2.2
   have g1:=far (show rid<n1 by omega)
   simp -dsimp [List.range_succ,f1,hr0,kg]
   refine ordT_both ?_ ?_
   ·simp -dsimp [List.range_succ,f1,g1]
    refine callS_ (pick_at bs (p+1) (by omega) _ _ _ rid (by simp [f1,g1])) ?_
    rintro t m2 n2 ⟨hn2,⟨r2,rfl,hr20,hr21⟩,rfl⟩
    have hr21:=hr21 (by decide)
    refine (sixty hr20 hr21).elim fun k2 hk2 => ?_
    have e2:=hk2.1
    have e20:=hk2.2.1
    have e21:=hk2.2.2
    have w1:IntKind.wrap .i64 k2=k2:=w64 (by omega) (by omega)
    have w2:IntKind.wrap .i64 (k2 * 5)=k2 * 5:=w64 (by omega) (by omega)
    have w3:IntKind.wrap .i64 (k+k2 * 5)=k+k2 * 5:=w64 (by omega) (by omega)
    have g2:=far (show rid<n2 by omega)
    have g3:=far (show n<n2 by omega)
    have g4:=far (show n+1<n2 by omega)
    have g5:=far (show n<n1 by omega)
    have g6:=far (show n+1<n1 by omega)
    have g7:=far (show n<n+1+1 by omega)
    have g8:=far (show n+1<n+1+1 by omega)
    simp -dsimp [List.range_succ,f1,g1,g2,g3,g4,e2,w1,w2,w3]
    refine ⟨k+k2 * 5,n1,p+1+1,by simp -dsimp,by simp -dsimp,by simp -dsimp,by simp -dsimp,by simp -dsimp,by omega,by simp -dsimp <;> omega,by simp -dsimp [f1,g1,g2,g3,g4,g5,g6,g7,g8],by simp -dsimp [f1,g1,g2,g3,g4,g5,g6,g7,g8],by simp -dsimp [f1,g1,g2,g3,g4,g5,g6,g7,g8],by simp -dsimp [f1,g1,g2,g3,g4,g5,g6,g7,g8],by omega,by omega,fun j j1 j2 => ?_⟩
    simp -dsimp [far j1,far (show j<n1 by omega),far (show j<n2 by omega),j2,Ne.symm j2]
   ·simp -dsimp [List.range_succ,f1,g1]
    refine callS_ (pick_at bs (p+1) (by omega) _ _ _ rid (by simp [f1,g1])) ?_
    rintro t m2 n2 ⟨hn2,⟨r2,rfl,hr20,hr21⟩,rfl⟩
    have hr21:=hr21 (by decide)
    refine (sixty hr20 hr21).elim fun k2 hk2 => ?_
    have e2:=hk2.1
    have e20:=hk2.2.1
    have e21:=hk2.2.2
    have w1:IntKind.wrap .i64 k2=k2:=w64 (by omega) (by omega)
    have w2:IntKind.wrap .i64 (k2 * 5)=k2 * 5:=w64 (by omega) (by omega)
    have w3:IntKind.wrap .i64 (k+k2 * 5)=k+k2 * 5:=w64 (by omega) (by omega)
    have g2:=far (show rid<n2 by omega)
    have g3:=far (show n<n2 by omega)
    have g4:=far (show n+1<n2 by omega)
    have g5:=far (show n<n1 by omega)
    have g6:=far (show n+1<n1 by omega)
    have g7:=far (show n<n+1+1 by omega)
    have g8:=far (show n+1<n+1+1 by omega)
    simp -dsimp [List.range_succ,f1,g1,g2,g3,g4,e2,w1,w2,w3]
    refine ⟨k+k2 * 5,n2,p+1+1,by simp -dsimp,by simp -dsimp,by simp -dsimp,by simp -dsimp,by simp -dsimp,by omega,by simp -dsimp <;> omega,by simp -dsimp [f1,g1,g2,g3,g4,g5,g6,g7,g8],by simp -dsimp [f1,g1,g2,g3,g4,g5,g6,g7,g8],by simp -dsimp [f1,g1,g2,g3,g4,g5,g6,g7,g8],by simp -dsimp [f1,g1,g2,g3,g4,g5,g6,g7,g8],by omega,by omega,fun j j1 j2 => ?_⟩
    simp -dsimp [far j1,far (show j<n1 by omega),far (show j<n2 by omega),j2,Ne.symm j2]
 ·intro s hs
  refine twp_cut (DI2 m n rid bs p) ?_ ?_
  ·obtain ⟨kind,id,p',t0,t3,t4,t5,hmu,hid0,hid,m0,m1,mid,mrd,hp0,hp2,hout⟩:=hs
   have d0:¬rid=id:=by omega
   have d1:¬n=id:=by omega
   have d2:¬n+1=id:=by omega
   have d3:¬id=rid:=by omega
   have e1:¬n+1=rid:=by omega
   have e2:¬rid=n+1:=by omega
   have h1:=far hid
   have h2:=far (show rid<s.n by omega)
   have h3:=far (show n<s.n by omega)
   have h4:=far (show n+1<s.n by omega)
   by_cases k0:kind=0
   ·have hpe:∃ w:Int,max q.people 1=w∧1≤w:=⟨_,rfl,by omega⟩
    have hpe2:∃ w:Int,min (max q.people 1) 4=w∧1≤w∧w≤4:=⟨_,rfl,by omega,by omega⟩
    refine hpe2.elim fun w hw => ?_
    have hw1:=hw.1
    have hw2:=hw.2.1
    have hw3:=hw.2.2
    simp -dsimp [t0,t3,t4,t5,mid,m0,k0,hw1,h1,h2,h3]
    refine callS_ (claim_z bs p' (by omega) w 0 (by omega) (by omega) (by omega) _ _ rid (by omega) (by simp [mrd])) ?_
    rintro t m2 n2 ⟨hn2,⟨x,⟨c,cw,cf,rfl⟩,rfl⟩,p3,hp3,hp4,rfl⟩
    have hct:=claimTxS_fn w c ⟨cf.2,by omega⟩
    have hcl:=claimTx_short w c
    have h5:=far (show id<n2 by omega)
    generalize claimTx w c=cx at *
    simp -dsimp [t0,t3,t4,t5,mid,m0,h1,h2,h3,h5,d3]
    refine cl hct ?_
    simp -dsimp [t0,t3,t4,t5,mid,m0,h1,h2,h3,h5,d3]
    refine ⟨0,0,cx,id,p3,by simp -dsimp [t0],by simp -dsimp [t4],by simp -dsimp [t5],by simp -dsimp [hmu],hid0,by simp -dsimp <;> omega,by simp -dsimp [d2,e1,e2,m1],by simp -dsimp [k0],by omega,by simp -dsimp [d0,d3],by omega,by omega,fun j j1 j2 => ?_⟩
    simp -dsimp [show ¬j=id by omega,j2,hout j j1 j2]
   by_cases k1:kind=1
   ·have hl1:∃ w:Int,max (q.story.length:Int) 1=w∧1≤w∧w≤1000:=⟨_,rfl,by omega,by omega⟩
    refine hl1.elim fun w hw => ?_
    have hw1:=hw.1
    have hw2:=hw.2.1
    have hw3:=hw.2.2
    simp -dsimp [t0,t3,t4,t5,mid,m0,k0,k1,hw1,h1,h2,h3]
    refine callS_ (pick_at bs p' (by omega) _ _ _ rid (by simp [mrd])) ?_
    rintro t m2 n2 ⟨hn2,⟨r,rfl,hr0,hr1⟩,rfl⟩
    simp -dsimp [t0,t3,t4,t5,mid,m0,h1,h2,h3,d3]
    refine ⟨1,r,[],id,p'+1,by simp -dsimp [t0],by simp -dsimp [t4],by simp -dsimp [t5],by simp -dsimp [hmu],hid0,by simp -dsimp <;> omega,by simp -dsimp [d2,e1,e2,m1],by simp -dsimp [k1],by simp,by simp -dsimp [d0,d3],by omega,by omega,fun j j1 j2 => ?_⟩
    simp -dsimp [show ¬j=id by omega,j2,hout j j1 j2]
   by_cases k2:kind=2
   ·simp -dsimp [t0,t3,t4,t5,mid,m0,k0,k1,k2,h1,h2,h3]
    refine callS_ (pick_at bs p' (by omega) _ _ _ rid (by simp [mrd])) ?_
    rintro t m2 n2 ⟨hn2,⟨r,rfl,hr0,hr1⟩,rfl⟩
    have hr1:=hr1 (by decide)
    have wr:IntKind.wrap .i64 (1+r)=1+r:=w64 (by omega) (by omega)
    simp -dsimp [t0,t3,t4,t5,mid,m0,h1,h2,h3,d3,wr]
    refine ⟨2,1+r,[],id,p'+1,by simp -dsimp [t0],by simp -dsimp [t4],by simp -dsimp [t5],by simp -dsimp [hmu],hid0,by simp -dsimp <;> omega,by simp -dsimp [d2,e1,e2,m1],by simp -dsimp [k2],by simp,by simp -dsimp [d0,d3],by omega,by omega,fun j j1 j2 => ?_⟩
    simp -dsimp [show ¬j=id by omega,j2,hout j j1 j2]
   ·simp -dsimp [t0,t3,t4,t5,mid,m0,k0,k1,k2,h1,h2,h3]
    exact ⟨kind,0,[],id,p',by simp -dsimp [t0],by simp -dsimp [t4],by simp -dsimp [t5],by simp -dsimp [hmu],hid0,by simp -dsimp [hid],by simp -dsimp [m1],by simp -dsimp [mid],by simp,by simp -dsimp [mrd],by omega,by omega,fun j j1 j2=>by simp -dsimp [hout j j1 j2]⟩
  ·rintro s ⟨kind,num,words,id,p',t0,t4,t5,hmu,hid0,hid,m1,mid,hwl,mrd,hp0,hp2,hout⟩
   have d0:¬rid=id:=by omega
   have d1:¬n+1=id:=by omega
   have d2:¬n+1=rid:=by omega
   have d3:¬id=rid:=by omega
   have d4:¬id=n+1:=by omega
   have e2:¬rid=n+1:=by omega
   have h1:=far hid
   have h2:=far (show rid<s.n by omega)
   have h4:=far (show n+1<s.n by omega)
   simp -dsimp [t0]
   refine callS_ (odd_at bs p' (by omega) _ (by omega) _ _ rid (by simp [mrd])) ?_
   rintro t m2 n2 ⟨hn2,⟨b,rfl,_⟩,p3,hp3,hp4,rfl⟩
   cases b with
   | false =>
    simp -dsimp [t0,t4,t5,mid,m1,d0,d1,d2,d3,d4]
    refine ⟨by omega,⟨_,by simp,⟨kind,num,words⟩,by simp only; omega,rfl⟩,fun j j1 j2 => ?_,p3,by omega,by omega,by simp [d0,d1,d2,d3,d4,e2,h1,h2,h4]⟩
    simp [far j1,far (show j<s.n by omega),far (show j<n2 by omega),show ¬j=id by omega,show ¬j=n+1 by omega,j2,hout j j1 j2]
   | true =>
    have h5:=far (show id<n2 by omega)
    have h6:=far (show rid<n2 by omega)
    have h7:=far (show n+1<n2 by omega)
    simp -dsimp [t0,t4,t5,mid,m1,d0,d1,d2,d3,d4]
    refine callS_ (pick_at bs p3 (by omega) _ _ _ rid (by simp)) ?_
    rintro t m3 n3 ⟨hn3,⟨r,rfl,hr0,hr1⟩,rfl⟩
    have hr1:=hr1 (by decide)
    have g5:=far (show id<n3 by omega)
    have g6:=far (show rid<n3 by omega)
    have g7:=far (show n+1<n3 by omega)
    have hr4:r=0∨r=1:=by omega
    rcases hr4 with rfl | rfl
    ·simp -dsimp [t0,t4,t5,mid,m1,hmu,d0,d1,d2,d3,d4,g5,g6,g7]
     refine callS_ (pick_at bs (p3+1) (by omega) _ _ _ rid (by simp [g6])) ?_
     rintro t m4 n4 ⟨hn4,⟨r2,rfl,hr20,hr21⟩,rfl⟩
     have hr21:=hr21 (by decide)
     have hr5:r2=0∨r2=1:=by omega
     have g8:=far (show n3<n4 by omega)
     rcases hr5 with rfl | rfl
     ·simp -dsimp [t0,t4,t5,mid,m1,hmu,d0,d1,d2,d3,d4,g5,g6,g7,g8]
      refine ⟨by omega,⟨_,by simp,⟨kind, -1,words⟩,by simp only; omega,rfl⟩,fun j j1 j2 => ?_,p3+1+1,by omega,by omega,by simp [d0,d1,d2,d3,d4,e2,h1,h2,h4,g6]⟩
      simp [far j1,far (show j<s.n by omega),far (show j<n2 by omega),far (show j<n3 by omega),show ¬j=id by omega,show ¬j=n+1 by omega,j2,hout j j1 j2]
     ·simp -dsimp [t0,t4,t5,mid,m1,hmu,d0,d1,d2,d3,d4,g5,g6,g7,g8]
      refine ⟨by omega,⟨_,by simp,⟨kind,100,words⟩,by simp only; omega,rfl⟩,fun j j1 j2 => ?_,p3+1+1,by omega,by omega,by simp [d0,d1,d2,d3,d4,e2,h1,h2,h4,g6]⟩
      simp [far j1,far (show j<s.n by omega),far (show j<n2 by omega),far (show j<n3 by omega),show ¬j=id by omega,show ¬j=n+1 by omega,j2,hout j j1 j2]
    ·simp -dsimp [t0,t4,t5,mid,m1,hmu,d0,d1,d2,d3,d4,g5,g6,g7]
     refine callS_ (pick_at bs (p3+1) (by omega) _ _ _ rid (by simp [g6])) ?_
     rintro t m4 n4 ⟨hn4,⟨r2,rfl,hr20,hr21⟩,rfl⟩
     have hr21:=hr21 (by decide)
     have hr5:r2=0∨r2=1∨r2=2∨r2=3:=by omega
     have g8:=far (show n3<n4 by omega)
     rcases hr5 with rfl | rfl | rfl | rfl
     ·simp -dsimp [t0,t4,t5,mid,m1,hmu,d0,d1,d2,d3,d4,g5,g6,g7,g8]
      refine ⟨by omega,⟨_,by simp,⟨kind,num,[97,58,40,98,41]⟩,by simp,rfl⟩,fun j j1 j2 => ?_,p3+1+1,by omega,by omega,by simp [d0,d1,d2,d3,d4,e2,h1,h2,h4,g6]⟩
      simp [far j1,far (show j<s.n by omega),far (show j<n2 by omega),far (show j<n3 by omega),show ¬j=id by omega,show ¬j=n+1 by omega,j2,hout j j1 j2]
     ·simp -dsimp [t0,t4,t5,mid,m1,hmu,d0,d1,d2,d3,d4,g5,g6,g7,g8]
      refine ⟨by omega,⟨_,by simp,⟨kind,num,[101,58,97]⟩,by simp,rfl⟩,fun j j1 j2 => ?_,p3+1+1,by omega,by omega,by simp [d0,d1,d2,d3,d4,e2,h1,h2,h4,g6]⟩
      simp [far j1,far (show j<s.n by omega),far (show j<n2 by omega),far (show j<n3 by omega),show ¬j=id by omega,show ¬j=n+1 by omega,j2,hout j j1 j2]
     ·simp -dsimp [t0,t4,t5,mid,m1,hmu,d0,d1,d2,d3,d4,g5,g6,g7,g8]
      refine ⟨by omega,⟨_,by simp,⟨kind,num,[97,32,97]⟩,by simp,rfl⟩,fun j j1 j2 => ?_,p3+1+1,by omega,by omega,by simp [d0,d1,d2,d3,d4,e2,h1,h2,h4,g6]⟩
      simp [far j1,far (show j<s.n by omega),far (show j<n2 by omega),far (show j<n3 by omega),show ¬j=id by omega,show ¬j=n+1 by omega,j2,hout j j1 j2]
     ·simp -dsimp [t0,t4,t5,mid,m1,hmu,d0,d1,d2,d3,d4,g5,g6,g7,g8]
      refine ⟨by omega,⟨_,by simp,⟨kind,num,[97,58]⟩,by simp,rfl⟩,fun j j1 j2 => ?_,p3+1+1,by omega,by omega,by simp [d0,d1,d2,d3,d4,e2,h1,h2,h4,g6]⟩
      simp [far j1,far (show j<s.n by omega),far (show j<n2 by omega),far (show j<n3 by omega),show ¬j=id by omega,show ¬j=n+1 by omega,j2,hout j j1 j2]
theorem deed_zA (bs:List UInt8) (p:Nat) (hp:p<600000000) (q:Place) (hq:q.story.length≤1000) (m:Mem) (n rid:Nat) (hr:rid<n) (hm:m rid=some (rdB bs p)) :
  FnS Tryz.prog 41 m n [.ptr rid 0,.agg [.v (.int .i64 q.people),.v (storyV q.story)]] (Draws SomeDeed 100 m n rid bs p):=deed_zX bs p hp q hq _ rfl m n rid hr hm
end TL

namespace TL
open Go Go.Proofs
attribute [local simp] marksV storyV codeV Claim.v Place.v Deed.v
/-! The reference. -/
def Isrd (s:List UInt8) (l:List Deed) (e:Nat) (y:S):Prop:=∃ i id:Nat,y.tm 0=.v (.str s)∧y.tm 2=.ptr 0 0∧y.m 0=some (.box 49 3 [.v (.int .i64 0),.v (.int .i64 0),.v (.str [])])∧y.tm 5=.loc id∧0<id∧id<y.n ∧
 y.m id=some (.arr 49 (l.map Deed.v))∧y.tm 7=.v (.int .i64 i)∧y.mu=false∧i≤l.length∧(∀ a ∈ l.take i,s ≠ []→deedTx a ≠ s)∧(e=1→i=l.length)
theorem deedS_two {s x r:List UInt8} (h:cutAt 32 s=[x,r]):deedS s=[⟨3,0,[]⟩,⟨4,0,[]⟩,⟨0,0,r⟩,⟨1,digS r,[]⟩,⟨2,digS r,[]⟩]:=by
 unfold deedS; rw [h]; rfl
theorem deedS_not {s:List UInt8} (h:(cutAt 32 s).length ≠ 2):deedS s=[⟨3,0,[]⟩,⟨4,0,[]⟩]:=by
 unfold deedS
 generalize cutAt 32 s=ps at h
 match ps,h with
 | [],_=>rfl
 | [_],_=>rfl
 | [_,_],h=>exact absurd rfl h
 | _ :: _ :: _ :: _,_=>rfl
theorem readDeedS_fn (s:List UInt8) (hl:s.length≤2000000000):FnZ Tryz.prog 27 [.str s] (optD (readD s)):=by
 have hcut:=l1Cut_fn s 32 hl
 have e32:(((32:UInt8).toNat:Nat):Int)=32:=rfl
 rw [e32] at hcut
 have hno:=readD_none' (s:=s)
 have hyes:∀ a,s ≠ []→deedTx a=s→readD s=some a:=fun a=>readD_some
 have hlen:∀ a ∈ deedS s,a.words.length≤2000000000:=by
  by_cases h2:(cutAt 32 s).length=2
  ·have h3:∃ x rest,cutAt 32 s=[x,rest]:=by
    generalize cutAt 32 s=ps at h2
    match ps,h2 with
    | [x,r],_=>exact ⟨x,r,rfl⟩
   obtain ⟨x,r,h5⟩:=h3
   have hrl:r.length≤s.length:=cutAt_piece (c:=32) (by rw [h5]; simp)
   rw [deedS_two h5]
   intro a ha
   simp only [List.mem_cons,List.mem_nil_iff,or_false] at ha
   rcases ha with rfl | rfl | rfl | rfl | rfl <;> simp <;> omega
  ·rw [deedS_not h2]
   intro a ha
   simp only [List.mem_cons,List.mem_nil_iff,or_false] at ha
   rcases ha with rfl | rfl <;> simp
 have hll:(deedS s).length≤5:=by
  by_cases h2:(cutAt 32 s).length=2
  ·have h3:∃ x rest,cutAt 32 s=[x,rest]:=by
    generalize cutAt 32 s=ps at h2
    match ps,h2 with
    | [x,r],_=>exact ⟨x,r,rfl⟩
   obtain ⟨x,r,h5⟩:=h3
   rw [deedS_two h5]; simp
  ·rw [deedS_not h2]; simp
 by_cases h2:(cutAt 32 s).length=2
 case pos =>
  have h3:∃ x rest,cutAt 32 s=[x,rest]:=by
   generalize cutAt 32 s=ps at h2
   match ps,h2 with
   | [x,r],_=>exact ⟨x,r,rfl⟩
  refine h3.elim fun x h4=>h4.elim fun r h5 => ?_
  clear h3 h4 h2
  have hrl:r.length≤s.length:=cutAt_piece (c:=32) (by rw [h5]; simp)
  have hdg:=l1Digits_fn r (by omega)
  have hds:=deedS_two h5
  rw [h5] at hcut
  generalize deedS s=l at *
  generalize digS r=D at *
  clear h5
  refine FZ (rs:=[.cell 2 49,.tmp 3]) false Tryz.func27 ?_
  simp -dsimp
  refine cl hcut ?_
  simp -dsimp
  refine cl hdg ?_
  simp -dsimp
  refine twp_loopC (Isrd s l 0) (fun y=>l.length-natOf (y.tm 7)) (Isrd s l 1) ?_ ?_ ?_
  ·refine ⟨0,_,by simp -dsimp,by simp -dsimp,by simp -dsimp,by simp -dsimp; rfl,by simp -dsimp,by simp -dsimp,by simp -dsimp [hds],by simp -dsimp,by simp -dsimp,by omega,by simp,by simp⟩
  ·rintro y ⟨i,id,t0,t2,m0,t5,hid0,hid,hm,t7,hmu,hi,hall,hend⟩
   by_cases hlt:i<l.length
   case neg =>
    simp -dsimp [t5,t7,hm,hlt]
    exact ⟨i,id,by simp -dsimp [t0],by simp -dsimp [t2],by simp -dsimp [m0],by simp -dsimp [t5],hid0,by simp -dsimp [hid],by simp -dsimp [hm],by simp -dsimp [t7],by simp -dsimp [hmu],hi,hall,fun _=>by omega⟩
   have hget:(l.map Deed.v)[i]? = some (l[i].v):=by simp [hlt]
   have wi:IntKind.wrap .i64 ((i:Int)+1)=((i+1:Nat):Int):=by rw [w64 (by omega) (by omega)]; omega
   have hmu1:l.length-(i+1)<l.length-i:=by omega
   have hdt:=deedTextS_fn l[i] (hlen _ (List.getElem_mem _))
   have f0:=far (show 0<y.n by omega)
   have f1:=far hid
   by_cases hs:s=[]
   ·have hnx:∀ a ∈ l.take (i+1),s ≠ []→deedTx a ≠ s:=fun a _ h=>absurd hs h
    simp -dsimp [t0,t5,t7,hm,hlt,hs,wi,hmu1]
    exact ⟨i+1,id,by simp -dsimp [t0,hs],by simp -dsimp [t2],by simp -dsimp [m0],by simp -dsimp [t5],hid0,by simp -dsimp [hid],by simp -dsimp [hm],by simp -dsimp,by simp -dsimp [hmu],by omega,fun a _ h=>absurd rfl h,by simp⟩
   ·by_cases he:deedTx l[i]=s
    ·rw [hyes _ hs he]
     rw [he] at hdt
     simp -dsimp [t0,t5,t7,hm,hlt,hs,hget]
     refine cl hdt ?_
     simp -dsimp [t0,t2,t5,t7,m0,hm,hget,hlt,f0,f1,optD]
    ·have hnx:∀ a ∈ l.take (i+1),s ≠ []→deedTx a ≠ s:=fun a ha h=>by
      rw [List.take_succ_eq_append_getElem hlt] at ha
      rcases List.mem_append.1 ha with ha | ha
      ·exact hall a ha h
      ·rw [List.mem_singleton.1 ha]; exact he
     simp -dsimp [t0,t5,t7,hm,hlt,hs,hget]
     refine cl hdt ?_
     simp -dsimp [t0,he,t7,wi,hmu1]
     exact ⟨i+1,id,by simp -dsimp [t0],by simp -dsimp [t2],by simp -dsimp [m0],by simp -dsimp [t5],hid0,by simp -dsimp [hid],by simp -dsimp [hm],by simp -dsimp,by simp -dsimp [hmu],by omega,hnx,by simp⟩
  ·rintro y ⟨i,id,t0,t2,m0,t5,hid0,hid,hm,t7,hmu,hi,hall,hend⟩
   have hil:=hend rfl
   rw [hil,List.take_length] at hall
   rw [hno hall]
   have f0:=far (show 0<y.n by omega)
   simp -dsimp [t2,m0,f0,optD]
 case neg =>
  have h2':¬((cutAt 32 s).length:Int)=2:=by omega
  have hds:=deedS_not h2
  generalize deedS s=l at *
  refine FZ (rs:=[.cell 2 49,.tmp 3]) false Tryz.func27 ?_
  simp -dsimp
  refine cl hcut ?_
  simp -dsimp [h2,h2']
  refine twp_loopC (Isrd s l 0) (fun y=>l.length-natOf (y.tm 7)) (Isrd s l 1) ?_ ?_ ?_
  ·refine ⟨0,_,by simp -dsimp,by simp -dsimp,by simp -dsimp,by simp -dsimp; rfl,by simp -dsimp,by simp -dsimp,by simp -dsimp [hds],by simp -dsimp,by simp -dsimp,by omega,by simp,by simp⟩
  ·rintro y ⟨i,id,t0,t2,m0,t5,hid0,hid,hm,t7,hmu,hi,hall,hend⟩
   by_cases hlt:i<l.length
   case neg =>
    simp -dsimp [t5,t7,hm,hlt]
    exact ⟨i,id,by simp -dsimp [t0],by simp -dsimp [t2],by simp -dsimp [m0],by simp -dsimp [t5],hid0,by simp -dsimp [hid],by simp -dsimp [hm],by simp -dsimp [t7],by simp -dsimp [hmu],hi,hall,fun _=>by omega⟩
   have hget:(l.map Deed.v)[i]? = some (l[i].v):=by simp [hlt]
   have wi:IntKind.wrap .i64 ((i:Int)+1)=((i+1:Nat):Int):=by rw [w64 (by omega) (by omega)]; omega
   have hmu1:l.length-(i+1)<l.length-i:=by omega
   have hdt:=deedTextS_fn l[i] (hlen _ (List.getElem_mem _))
   have f0:=far (show 0<y.n by omega)
   have f1:=far hid
   by_cases hs:s=[]
   ·have hnx:∀ a ∈ l.take (i+1),s ≠ []→deedTx a ≠ s:=fun a _ h=>absurd hs h
    simp -dsimp [t0,t5,t7,hm,hlt,hs,wi,hmu1]
    exact ⟨i+1,id,by simp -dsimp [t0,hs],by simp -dsimp [t2],by simp -dsimp [m0],by simp -dsimp [t5],hid0,by simp -dsimp [hid],by simp -dsimp [hm],by simp -dsimp,by simp -dsimp [hmu],by omega,fun a _ h=>absurd rfl h,by simp⟩
   ·by_cases he:deedTx l[i]=s
    ·rw [hyes _ hs he]
     rw [he] at hdt
     simp -dsimp [t0,t5,t7,hm,hlt,hs,hget]
     refine cl hdt ?_
     simp -dsimp [t0,t2,t5,t7,m0,hm,hget,hlt,f0,f1,optD]
    ·have hnx:∀ a ∈ l.take (i+1),s ≠ []→deedTx a ≠ s:=fun a ha h=>by
      rw [List.take_succ_eq_append_getElem hlt] at ha
      rcases List.mem_append.1 ha with ha | ha
      ·exact hall a ha h
      ·rw [List.mem_singleton.1 ha]; exact he
     simp -dsimp [t0,t5,t7,hm,hlt,hs,hget]
     refine cl hdt ?_
     simp -dsimp [t0,he,t7,wi,hmu1]
     exact ⟨i+1,id,by simp -dsimp [t0],by simp -dsimp [t2],by simp -dsimp [m0],by simp -dsimp [t5],hid0,by simp -dsimp [hid],by simp -dsimp [hm],by simp -dsimp,by simp -dsimp [hmu],by omega,hnx,by simp⟩
  ·rintro y ⟨i,id,t0,t2,m0,t5,hid0,hid,hm,t7,hmu,hi,hall,hend⟩
   have hil:=hend rfl
   rw [hil,List.take_length] at hall
   rw [hno hall]
   have f0:=far (show 0<y.n by omega)
   simp -dsimp [t2,m0,f0,optD]
end TL

namespace TL
open Go Go.Proofs
/-- What ReadJournal reads, and how far. -/
noncomputable def readJF:Nat→List UInt8→List Deed × Nat
 | 0,_=>([],0)
 | f+1,s=>if (Go.Lib.cut s [10]).2.2=true then match readD (Go.Lib.cut s [10]).1 with
  | some a=>(a :: (readJF f (Go.Lib.cut s [10]).2.1).1,(Go.Lib.cut s [10]).1.length+1+(readJF f (Go.Lib.cut s [10]).2.1).2)
  | none=>([],0) else ([],0)
noncomputable def readJ (s:List UInt8):List Deed × Nat:=readJF (s.length+1) s
end TL

namespace TL
open Go Go.Proofs
attribute [local simp] marksV storyV codeV Claim.v Place.v Deed.v
structure Store where
 saved:List UInt8
 log:List UInt8
 sure:Int
 deriving DecidableEq
def Store.v (s:Store):V:=.agg [.str s.saved,.str s.log,.int .i64 s.sure]
end TL

namespace TL
open Go Go.Proofs
attribute [local simp] marksV storyV codeV Claim.v Place.v Store.v
noncomputable def storeOk (s:Store):Bool:=(readP s.saved).isSome && decide (s.log.length≤1000) && decide (0≤s.sure) && decide (s.sure≤s.log.length)
def Store.small (s:Store):Prop:=s.saved.length≤2000000000∧s.log.length≤2000000000
/-! The exact laws. -/
def Store.mid (s:Store):Prop:=s.saved.length≤9223372036854775807∧s.log.length≤9223372036854775807
end TL

namespace TL
open Go Go.Proofs
/-! Stores. -/
noncomputable def placeOf (s:Store):Place:=(readP s.saved).getD ⟨0,[]⟩
noncomputable def opened (s:Store):Desk:=(doAll ⟨placeOf s,[]⟩ (readJ s.log).1).1
theorem desk_new {p:Place} (h:placeOk p=true):deskOk ⟨p,[]⟩=true:=deskOk_iff.2 ⟨by simp,h,by simp⟩
end TL

namespace TL
open Go Go.Proofs
attribute [local simp] marksV storyV codeV Claim.v Place.v Deed.v Desk.v
def okNot (b:Bool):List UInt8:=if b=true then [111,107] else [110,111,116]
end TL

namespace TL
open Go Go.Proofs
theorem numTx_ne (n:Int):numTx n ≠ []:=by
 unfold numTx
 split
 ·simp
 ·obtain ⟨k,rfl⟩:=Int.eq_ofNat_of_zero_le (show 0≤n by omega)
  exact dec_ne k
theorem cellTx_ne (n:Int):cellTx n ≠ []:=by
 unfold cellTx
 split
 ·simp
 ·obtain ⟨k,rfl⟩:=Int.eq_ofNat_of_zero_le (show 0≤n by omega)
  exact dec_ne k
theorem rowTx_ne (l:List Int):rowTx l ≠ []:=by
 unfold rowTx
 split
 ·simp
 ·match l with
  | []=>contradiction
  | [x]=>simp [Go.Lib.join_one,cellTx_ne]
  | x :: y :: r=>rw [List.map_cons,Go.Lib.join_cons]; simp [cellTx_ne]
theorem askT_ne (p:Nat) (l:List Claim) (w:List UInt8) (t:List Mark):askT p l w t ≠ []:=by
 unfold askT
 split
 ·split <;> simp [wYes,wNo]
 ·split
  ·split
   ·exact PT.tx_ne _
   ·simp [wNone]
  ·split
   ·exact dec_ne _
   ·simp [wWhat]
theorem ans_ne {q:Place} (h:placeOk q=true) (line:List UInt8):ans q line ≠ []:=by
 unfold ans
 split
 ·unfold placeTx; rw [if_pos h]; simp
 ·split
  ·exact rowTx_ne _
  ·split
   ·exact numTx_ne _
   ·split
    ·exact rowTx_ne _
    ·split
     ·exact rowTx_ne _
     ·split
      ·exact numTx_ne _
      ·split
       ·exact numTx_ne _
       ·split
        ·exact askT_ne _ _ _ _
        ·simp [wWhat]
theorem ans_nil (q:Place):ans q []=wWhat:=by
 have h:readT q.people (Go.Lib.cut [] [32]).2.1=none:=by
  rw [cut_clean (by simp)]
  cases hr:readT q.people [] with
  | none=>rfl
  | some t=>exact absurd rfl (termText_no32 hr).1
 unfold ans
 rw [h]
 simp [wPlace,wWorlds,wOnly,wKnown,wNeedless,wSpies,wAsks]
noncomputable def deskLine (d:Desk) (line:List UInt8):Desk × List UInt8 :=
 if deskOk d=true then (match readD line with
  | some a=>((deskDo d a).1,okNot (deskDo d a).2)
  | none=>(d,ans d.now line)) else (noDeskV,[])
theorem deskLine_no {d:Desk} (h:deskOk d=false) (line:List UInt8):deskLine d line=(noDeskV,[]):=by unfold deskLine; rw [if_neg (by simp [h])]
theorem deskLine_deed {d:Desk} (h:deskOk d=true) {line:List UInt8} {a:Deed} (ha:readD line=some a):deskLine d line=((deskDo d a).1,okNot (deskDo d a).2):=by unfold deskLine; rw [if_pos h,ha]
theorem deskLine_ask {d:Desk} (h:deskOk d=true) {line:List UInt8} (ha:readD line=none):deskLine d line=(d,ans d.now line):=by unfold deskLine; rw [if_pos h,ha]
theorem readD_nil:readD []=none:=readD_none fun a h=>absurd rfl h
theorem deskLine_nil {d:Desk} (h:deskOk d=true):deskLine d []=(d,wWhat):=by rw [deskLine_ask h readD_nil,ans_nil]
theorem deskLine_ok {d:Desk} (h:deskOk d=true) (line:List UInt8):deskOk (deskLine d line).1=true:=by
 cases hr:readD line with
 | none=>rw [deskLine_ask h hr]; exact h
 | some a=>rw [deskLine_deed h hr]; exact deskDo_ok d a h
theorem okNot_ne (b:Bool):okNot b ≠ []:=by unfold okNot; split <;> simp
theorem deskLine_ne {d:Desk} (h:deskOk d=true) (line:List UInt8):(deskLine d line).2 ≠ []:=by
 cases hr:readD line with
 | none=>rw [deskLine_ask h hr]; exact ans_ne (deskOk_iff.1 h).2.1 line
 | some a=>rw [deskLine_deed h hr]; exact okNot_ne _
/-- Unless the answer is ok, the desk is the one before. -/
theorem deskLine_same {d:Desk} (h:deskOk d=true) (line:List UInt8) (hn:(deskLine d line).2 ≠ [111,107]):(deskLine d line).1=d:=by
 cases hr:readD line with
 | none=>rw [deskLine_ask h hr]
 | some a =>
  rw [deskLine_deed h hr] at hn ⊢
  cases hd:(deskDo d a).2 with
  | true=>rw [hd] at hn; exact absurd rfl hn
  | false =>
   rcases deskDo_same hd with h2 | h2
   ·rw [h] at h2; cases h2
   ·exact h2
theorem readD_word {w:List UInt8} (h:∀ y ∈ w,y ≠ (32:UInt8)) (h1:w ≠ [108,101,97,115,116]) (h2:w ≠ [98,97,99,107]) (h3:w ≠ [115,97,121]) (h4:w ≠ [100,114,111,112]) (h5:w ≠ [112,101,111,112,108,101]):readD w=none:=by
 refine readD_off ?_
 unfold deedI
 rw [cut_clean h]
 unfold deedW
 rw [if_neg h3,if_neg h4,if_neg h5,if_neg h1,if_neg h2]
theorem deskLine_place {d:Desk} (h:deskOk d=true):deskLine d wPlace=(d,placeTx d.now):=by
 rw [deskLine_ask h (readD_word (by decide) (by decide) (by decide) (by decide) (by decide) (by decide))]
 unfold ans
 rw [if_pos rfl]
/-! Many lines. -/
noncomputable def sayStep (x:Desk × List (List UInt8)) (w:List UInt8):Desk × List (List UInt8):=((deskLine x.1 w).1,x.2++[(deskLine x.1 w).2])
noncomputable def sayAll (d:Desk) (ws:List (List UInt8)):Desk × List (List UInt8):=ws.foldl sayStep (d,[])
theorem sayAll_from (ws:List (List UInt8)):∀ (d:Desk) (o:List (List UInt8)),ws.foldl sayStep (d,o)=((sayAll d ws).1,o++(sayAll d ws).2):=by
 induction ws with
 | nil=>intro d o; simp [sayAll]
 | cons w ws ih =>
  intro d o
  have a:=ih (deskLine d w).1 (o++[(deskLine d w).2])
  have b:=ih (deskLine d w).1 ([]++[(deskLine d w).2])
  have e:sayAll d (w :: ws)=ws.foldl sayStep ((deskLine d w).1,[]++[(deskLine d w).2]):=rfl
  rw [e,b]
  show ws.foldl sayStep ((deskLine d w).1,o++[(deskLine d w).2])=_
  rw [a]; simp
theorem sayAll_append (d:Desk) (l k:List (List UInt8)):sayAll d (l++k)=((sayAll (sayAll d l).1 k).1,(sayAll d l).2++(sayAll (sayAll d l).1 k).2):=by
 unfold sayAll
 rw [List.foldl_append]
 exact sayAll_from k _ _
theorem sayAll_snoc (d:Desk) (l:List (List UInt8)) (w:List UInt8):sayAll d (l++[w])=((deskLine (sayAll d l).1 w).1,(sayAll d l).2++[(deskLine (sayAll d l).1 w).2]):=by
 rw [sayAll_append]; rfl
theorem sayAll_ok (l:List (List UInt8)):∀ d:Desk,deskOk d=true→deskOk (sayAll d l).1=true∧(∀ x ∈ (sayAll d l).2,x ≠ [])∧(sayAll d l).2.length=l.length:=by
 induction l with
 | nil=>intro d h; exact ⟨h,by simp [sayAll],rfl⟩
 | cons w ws ih =>
  intro d h
  obtain ⟨a,b,c⟩:=ih _ (deskLine_ok h w)
  have e:sayAll d (w :: ws)=((sayAll (deskLine d w).1 ws).1,[(deskLine d w).2]++(sayAll (deskLine d w).1 ws).2):=sayAll_append d [w] ws
  rw [e]
  refine ⟨a,fun x hx => ?_,by simp [c]⟩
  rcases List.mem_append.1 hx with hx | hx
  ·rw [List.mem_singleton.1 hx]; exact deskLine_ne h w
  ·exact b x hx
noncomputable def deskSay (d:Desk) (ws:List (List UInt8)):Desk × List (List UInt8):=if deskOk d=true∧ws.length≤40 then sayAll d ws else (noDeskV,[])
/-! Answers are short. -/
end TL

namespace TL
open Go Go.Proofs
attribute [local simp] marksV storyV codeV Claim.v Place.v numsV natsV
theorem storyTableS_fn (p:Nat) (l:List Claim) (h:storyOk p l=true):FnZ Tryz.prog 126 [.int .i64 p,storyV l] (.int .i64 (storyTab p l)):=by
 obtain ⟨h1,h4,hc,h6⟩:=allOk_of h
 have hok:=storyOkS_fn p l (by omega) fun c hx=>(claim_fine (hc c hx)).1
 rw [h] at hok
 have hst:=l4Story_fn p l (by omega) (by omega) (by omega) hc
 refine FZ (rs:=[.tmp 4]) false Tryz.func126 ?_
 simp -dsimp
 refine cl hok ?_
 simp -dsimp
 refine cl hst ?_
 simp -dsimp
def Iws (p n N:Nat) (e:Nat) (s:S):Prop:=∃ w id:Nat,s.tm 0=.v (.int .i64 p)∧s.tm 1=.v (.int .i64 n)∧s.tm 5=.loc id∧s.tm 6=.v (.int .i64 w)∧w≤N∧s.mu=false∧id<s.n ∧
 s.m id=some (.arr 3 (((List.range w).filter fun w=>n.testBit w).map fun w=>V.int .i64 (w:Nat)))∧(e=1→w=N)
theorem worldsInS_fn (p n:Nat) (hk:tableOk p n=true) (hp1:1≤p) (hp4:p≤4) (hn:n<65536):FnZ Tryz.prog 74 [.int .i64 p,.int .i64 n] (natsV (worldsOf p n)):=by
 have hok:=tableOkS_fn p n
 rw [hk] at hok
 have hN:=pow_small (p:=p) (by omega)
 have ws:=(shl_pow (p:=p) (by omega)).1
 have e:worldsOf p n=(List.range (2 ^ p)).filter fun w=>n.testBit w:=rfl
 rw [e]
 obtain ⟨N,hNN⟩:∃ N,2 ^ p=N:=⟨_,rfl⟩
 rw [hNN] at hN ws ⊢
 have hp0:¬(p:Int)<0:=by omega
 refine FZ (rs:=[.tmp 4]) false Tryz.func74 ?_
 simp -dsimp
 refine twp_loopC (Iws p n N 0) (fun s=>N-natOf (s.tm 6)) (Iws p n N 1) ?_ ?_ ?_
 ·exact ⟨0,0,by simp -dsimp,by simp -dsimp,by simp -dsimp,by simp -dsimp,by omega,by simp -dsimp,by simp -dsimp,by simp -dsimp,by simp⟩
 ·rintro s ⟨w,id,t0,t1,t5,t6,hw,hmu,hid,hm,hend⟩
  by_cases hlt:w<N
  case neg =>
   simp -dsimp [t0,t1,t6]
   refine cl hok ?_
   simp -dsimp [t0,t1,t6,hp0,ws,hlt]
   exact ⟨w,id,by simp -dsimp [t0],by simp -dsimp [t1],by simp -dsimp [t5],by simp -dsimp [t6],hw,by simp -dsimp [hmu],by simp -dsimp; omega,by simp -dsimp [hm],fun _=>by omega⟩
  have wi:IntKind.wrap .i64 ((w:Int)+1)=((w+1:Nat):Int):=by rw [w64 (by omega) (by omega)]; omega
  have hmu1:N-(w+1)<N-w:=by omega
  have z1:¬(w:Int)<0:=by omega
  have b1:=bit2 n w (by omega)
  have f1:=far hid
  have hsucc:(List.range (w+1)).filter (fun w=>n.testBit w)=(List.range w).filter (fun w=>n.testBit w)++(if n.testBit w=true then [w] else []):=by
   rw [List.range_succ,List.filter_append]; congr 1
   by_cases h:n.testBit w=true <;> simp [h]
  have hfl:((List.range w).filter fun w=>n.testBit w).length≤w:=by
   have:=List.length_filter_le (fun w=>n.testBit w) (List.range w)
   simpa using this
  obtain ⟨xs,hxs⟩:∃ xs,((List.range w).filter fun w=>n.testBit w).map (fun w=>V.int .i64 (w:Nat))=xs:=⟨_,rfl⟩
  have hxl:xs.length≤16:=by rw [← hxs]; simp only [List.length_map]; omega
  have bb:(xs.length+1) * 8≤140737488355328:=by omega
  rw [hxs] at hm
  have hc:=ft (n.testBit w)
  rcases hc with hc | hc
  ·rw [hc] at b1 hsucc
   simp -dsimp [t0,t1,t6]
   refine cl hok ?_
   simp -dsimp [t0,t1,t6,hp0,ws,hlt,b1,z1,wi,hmu1]
   refine ⟨w+1,id,by simp -dsimp [t0],by simp -dsimp [t1],by simp -dsimp [t5],by simp -dsimp,by omega,by simp -dsimp [hmu],by simp -dsimp; omega, ?_,by simp⟩
   rw [hsucc]; simp -dsimp [hm,hxs]
  ·rw [hc] at b1 hsucc
   simp -dsimp [t0,t1,t6]
   refine cl hok ?_
   simp -dsimp [t0,t1,t5,t6,hp0,ws,hlt,b1,z1,wi,hmu1,hm,hmu,f1,bb]
   refine st_out fun s' ht hm' hn' hu' => ?_
   have a0:=ht 0
   have a1:=ht 1
   have a5:=ht 5
   have a6:=ht 6
   simp -dsimp [t0,t1] at a0 a1 a5 a6 hm' hn' hu'
   clear ht
   refine ⟨w+1,_,a0,a1,a5,a6,by omega,by rw [hu',hmu],by omega, ?_,by simp⟩
   rw [hsucc]; simp [hm',nes,hxs]
 ·rintro s ⟨w,id,t0,t1,t5,t6,hw,hmu,hid,hm,hend⟩
  have:=hend rfl
  subst this
  simp -dsimp [t5,hm]
theorem onlyV_not {p:Nat} {l:List Claim} (h:¬(sw p l).length=1):onlyV p l = -1:=by
 unfold onlyV
 split
 ·rename_i w hw; rw [hw] at h; exact absurd rfl h
 ·rfl
theorem onlyV_one {p:Nat} {l:List Claim} {w:Nat} (h:sw p l=[w]):onlyV p l=w:=by
 unfold onlyV; rw [h]
theorem onlyWorldS_fn (p:Nat) (l:List Claim) (h:storyOk p l=true):FnZ Tryz.prog 75 [.int .i64 p,storyV l] (.tup [.int .i64 (onlyV p l),.bool (onlyB p l)]):=by
 obtain ⟨h1,h4,hc,h6⟩:=allOk_of h
 have hst:=storyTableS_fn p l h
 have hwi:=worldsInS_fn p (storyTab p l) (storyTab_ok (by omega) (by omega) l) (by omega) (by omega) (storyTab_small (by omega) l)
 have e0:worldsOf p (storyTab p l)=sw p l:=rfl
 rw [e0] at hwi
 by_cases c1:(sw p l).length=1
 ·obtain ⟨w,hw⟩:=List.length_eq_one_iff.1 c1
  rw [onlyV_one hw,show onlyB p l=true from decide_eq_true c1]
  rw [hw] at hwi
  refine FZ (rs:=[.tmp 4,.tmp 5]) false Tryz.func75 ?_
  simp -dsimp
  refine cl hst ?_
  simp -dsimp
  refine cl hwi ?_
  simp -dsimp
 ·rw [onlyV_not c1,show onlyB p l=false from decide_eq_false c1]
  generalize sw p l=W at *
  have c2:¬((W.length:Int)=1):=by omega
  refine FZ (rs:=[.tmp 4,.tmp 5]) false Tryz.func75 ?_
  simp -dsimp
  refine cl hst ?_
  simp -dsimp
  refine cl hwi ?_
  simp -dsimp [c1,c2]
def Isx1 (p:Nat) (W:List Nat) (e:Nat) (s:S):Prop:=∃ i id:Nat,s.tm 0=.v (.int .i64 p)∧s.tm 5=.loc id∧s.tm 6=.v (natsV W)∧id<s.n∧s.mu=false∧s.m id=some (.arr 3 (((List.range i).map (knownOf W)).map (V.int .i64)))∧s.tm 7=.v (.int .i64 i)∧i≤p∧(e=1→i=p)
def Isx2 (p:Nat) (W:List Nat) (i id:Nat) (e:Nat) (s:S):Prop:=∃ j:Nat,s.tm 0=.v (.int .i64 p)∧s.tm 5=.loc id∧s.tm 6=.v (natsV W)∧id<s.n∧s.mu=false∧s.m id=some (.arr 3 (((List.range i).map (knownOf W)).map (V.int .i64)))∧s.tm 7=.v (.int .i64 i) ∧
 s.tm 8=.v (.int .i64 (cntB (W.take j) i))∧s.tm 9=.v (.int .i64 j)∧j≤W.length∧(e=1→j=W.length)
theorem knownPeopleS_fn (p:Nat) (l:List Claim) (h:storyOk p l=true):FnZ Tryz.prog 77 [.int .i64 p,storyV l] (numsV (knownL p l)):=by
 obtain ⟨h1,h4,hc,h6⟩:=allOk_of h
 have hst:=storyTableS_fn p l h
 have hwi:=worldsInS_fn p (storyTab p l) (storyTab_ok (by omega) (by omega) l) (by omega) (by omega) (storyTab_small (by omega) l)
 have hsl:=sw_len (p:=p) (by omega) l
 have hwl:∀ w ∈ sw p l,w<16:=fun w hw=>sw_lt (by omega) hw
 have e0:worldsOf p (storyTab p l)=sw p l:=rfl
 rw [e0] at hwi
 unfold knownL
 generalize sw p l=W at *
 have hpp:1≤p∧p≤4:=by omega
 clear e0
 by_cases hne:W=[]
 ·rw [if_pos hne]
  rw [hne] at hwi
  refine FZ (rs:=[.tmp 4]) false Tryz.func77 ?_
  simp -dsimp
  refine cl hst ?_
  simp -dsimp
  refine cl hwi ?_
  simp -dsimp
  refine twp_loopC (fun s=>s.tm 0=.v (.int .i64 p)∧s.tm 5=.loc 0∧s.tm 6=.v (natsV [])∧s.mu=false∧s.m 0=some (.arr 3 [])∧s.tm 7=.v (.int .i64 0)) (fun s=>0) (fun s=>s.tm 5=.loc 0∧s.mu=false∧s.m 0=some (.arr 3 [])) ?_ ?_ ?_
  ·exact ⟨by simp -dsimp,by simp -dsimp,by simp -dsimp,by simp -dsimp,by simp -dsimp,by simp -dsimp⟩
  ·rintro s ⟨t0,t5,t6,hmu,hm,t7⟩
   have hlt:(0:Int)<p:=by omega
   have hlt':0<p:=by omega
   simp -dsimp [t0,t6,t7,hlt,hlt']
   exact ⟨by simp -dsimp [t5],by simp -dsimp [hmu],by simp -dsimp [hm]⟩
  ·rintro s ⟨t5,hmu,hm⟩
   simp -dsimp [t5,hm]
 ·rw [if_neg hne]
  have hl0:¬(W.length:Int)=0:=fun h=>hne (List.length_eq_zero_iff.1 (by omega))
  have hlp:(0:Int)<W.length:=by omega
  have hlp':0<W.length:=by omega
  refine FZ (rs:=[.tmp 4]) false Tryz.func77 ?_
  simp -dsimp
  refine cl hst ?_
  simp -dsimp
  refine cl hwi ?_
  simp -dsimp
  refine twp_loopC (Isx1 p W 0) (fun s=>p-natOf (s.tm 7)) (Isx1 p W 1) ?_ ?_ ?_
  ·exact ⟨0,0,by simp -dsimp,by simp -dsimp,by simp -dsimp,by simp -dsimp,by simp -dsimp,by simp -dsimp,by simp -dsimp,by omega,by simp⟩
  ·rintro s ⟨i,id,t0,t5,t6,hid,hmu,hm,t7,hi,hend⟩
   by_cases hlt:i<p
   case neg =>
    simp -dsimp [t0,t7,hlt]
    exact ⟨i,id,by simp -dsimp [t0],by simp -dsimp [t5],by simp -dsimp [t6],by simp -dsimp; omega,by simp -dsimp [hmu],by simp -dsimp [hm],by simp -dsimp [t7],hi,fun _=>by omega⟩
   have wi:IntKind.wrap .i64 ((i:Int)+1)=((i+1:Nat):Int):=by rw [w64 (by omega) (by omega)]; omega
   have hmu1:p-(i+1)<p-i:=by omega
   have z1:¬(i:Int)<0:=by omega
   simp -dsimp [t0,t6,t7,hlt,natsV,hlp,hlp',hne]
   refine twp_loopC (Isx2 p W i id 0) (fun s=>W.length-natOf (s.tm 9)) (Isx2 p W i id 1) ?_ ?_ ?_
   ·exact ⟨0,by simp -dsimp [t0],by simp -dsimp [t5],by simp -dsimp [t6,natsV],by simp -dsimp; omega,by simp -dsimp [hmu],by simp -dsimp [hm],by simp -dsimp [t7],by simp -dsimp [cntB],by simp -dsimp,by omega,by simp⟩
   ·rintro s2 ⟨j,u0,u5,u6,uid,umu,um,u7,u8,u9,hj,hend2⟩
    by_cases hlt2:j<W.length
    case neg =>
     simp -dsimp [u6,u9,hlt2,natsV]
     exact ⟨j,by simp -dsimp [u0],by simp -dsimp [u5],by simp -dsimp [u6,natsV],by simp -dsimp; omega,by simp -dsimp [umu],by simp -dsimp [um],by simp -dsimp [u7],by simp -dsimp [u8],by simp -dsimp [u9],hj,fun _=>by omega⟩
    have wj:IntKind.wrap .i64 ((j:Int)+1)=((j+1:Nat):Int):=by rw [w64 (by omega) (by omega)]; omega
    have hmu2:W.length-(j+1)<W.length-j:=by omega
    obtain ⟨v,hv⟩:∃ v,W[j]=v:=⟨_,rfl⟩
    have b1:=bit2 v i (by omega)
    have hcl:=cntB_le (W.take j) i
    have hnx:cntB (W.take (j+1)) i=cntB (W.take j) i+(if v.testBit i=true then 1 else 0):=by
     unfold cntB
     rw [List.take_succ_eq_append_getElem hlt2,List.filter_append,List.length_append,hv]
     by_cases hb:v.testBit i=true <;> simp [hb]
    have hget:(W.map fun w=>V.int .i64 (w:Nat))[j]? = some (.int .i64 v):=by simp [hlt2,hv]
    simp only [List.length_take] at hcl
    obtain ⟨q,hq⟩:∃ q,cntB (W.take j) i=q:=⟨_,rfl⟩
    rw [hq] at u8 hnx hcl
    have hb:=ft (v.testBit i)
    rcases hb with hb | hb
    ·rw [hb] at b1 hnx
     have wq:IntKind.wrap .i64 (q:Int)=(q:Int):=w64 (by omega) (by omega)
     simp -dsimp [u0,u6,u7,u8,u9,hlt2,hv,hget,natsV,z1,b1,wj,hmu2,wq]
     exact ⟨j+1,by simp -dsimp [u0],by simp -dsimp [u5],by simp -dsimp [u6,natsV],by simp -dsimp; omega,by simp -dsimp [umu],by simp -dsimp [um],by simp -dsimp [u7],by simp -dsimp [u8,hnx],by simp -dsimp,by omega,by simp⟩
    ·rw [hb] at b1 hnx
     have wq:IntKind.wrap .i64 ((q:Int)+1)=(q:Int)+1:=w64 (by omega) (by omega)
     simp -dsimp [u0,u6,u7,u8,u9,hlt2,hv,hget,natsV,z1,b1,wj,hmu2,wq]
     exact ⟨j+1,by simp -dsimp [u0],by simp -dsimp [u5],by simp -dsimp [u6,natsV],by simp -dsimp; omega,by simp -dsimp [umu],by simp -dsimp [um],by simp -dsimp [u7],by simp -dsimp [hnx],by simp -dsimp,by omega,by simp⟩
   ·rintro s2 ⟨j,u0,u5,u6,uid,umu,um,u7,u8,u9,hj,hend2⟩
    have hjl:=hend2 rfl
    rw [hjl,List.take_length] at u8
    have f1:=far uid
    have hkn:=knownOf_cnt hne i
    have hnx:((List.range (i+1)).map (knownOf W)).map (V.int .i64)=((List.range i).map (knownOf W)).map (V.int .i64)++[.int .i64 (knownOf W i)]:=by
     rw [List.range_succ,List.map_append,List.map_append]; rfl
    have b1:(i+1) * 8≤140737488355328:=by omega
    obtain ⟨q,hq⟩:∃ q,cntB W i=q:=⟨_,rfl⟩
    rw [hq] at u8 hkn
    have fin:∀ (s':S) (id':Nat),s'.tm 0=.v (.int .i64 p)→s'.tm 5=.loc id'→s'.tm 6=.v (natsV W)→id'<s'.n→s'.mu=false→s'.m id'=some (.arr 3 (((List.range i).map (knownOf W)).map (V.int .i64)++[.int .i64 (knownOf W i)]))→s'.tm 7=.v (.int .i64 (i+1:Nat))→Isx1 p W 0 s':=by
     intro s' id' a0 a5 a6 aid amu am a7
     exact ⟨i+1,id',a0,a5,a6,aid,amu,by rw [am,hnx],a7,by omega,by simp⟩
    by_cases c0:q=0
    ·have hk0:knownOf W i=0:=by rw [hkn,if_pos c0]
     have c0':(q:Int)=0:=by omega
     simp -dsimp [u0,u5,u6,u7,u8,umu,um,f1,b1,wi,hmu1,t7,nes,c0,c0',natsV]
     refine st_out fun s' ht hm' hn' hu' => ?_
     have a0:=ht 0
     have a5:=ht 5
     have a6:=ht 6
     have a7:=ht 7
     simp -dsimp [u0,u6] at a0 a5 a6 a7 hm' hn' hu'
     clear ht
     exact fin s' _ a0 a5 (by rw [a6]; rfl) (by omega) (by rw [hu',umu]) (by rw [hk0]; simp [hm',nes]) a7
    ·have c0':¬(q:Int)=0:=by omega
     by_cases c1:q=W.length
     ·have hk0:knownOf W i=1:=by rw [hkn,if_neg c0,if_pos c1]
      have c1':(q:Int)=W.length:=by omega
      simp -dsimp [u0,u5,u6,u7,u8,umu,um,f1,b1,wi,hmu1,t7,nes,c0,c0',c1,c1',natsV,hne,hl0]
      refine st_out fun s' ht hm' hn' hu' => ?_
      have a0:=ht 0
      have a5:=ht 5
      have a6:=ht 6
      have a7:=ht 7
      simp -dsimp [u0,u6] at a0 a5 a6 a7 hm' hn' hu'
      clear ht
      exact fin s' _ a0 a5 (by rw [a6]; rfl) (by omega) (by rw [hu',umu]) (by rw [hk0]; simp [hm',nes]) a7
     ·have hk0:knownOf W i = -1:=by rw [hkn,if_neg c0,if_neg c1]
      have c1':¬(q:Int)=W.length:=by omega
      simp -dsimp [u0,u5,u6,u7,u8,umu,um,f1,b1,wi,hmu1,t7,nes,c0,c0',c1,c1',natsV]
      refine st_out fun s' ht hm' hn' hu' => ?_
      have a0:=ht 0
      have a5:=ht 5
      have a6:=ht 6
      have a7:=ht 7
      simp -dsimp [u0,u6] at a0 a5 a6 a7 hm' hn' hu'
      clear ht
      exact fin s' _ a0 a5 (by rw [a6]; rfl) (by omega) (by rw [hu',umu]) (by rw [hk0]; simp [hm',nes]) a7
  ·rintro s ⟨i,id,t0,t5,t6,hid,hmu,hm,t7,hi,hend⟩
   have:=hend rfl
   subst this
   simp -dsimp [t5,hm]
end TL

namespace TL
open Go Go.Proofs
attribute [local simp] marksV storyV codeV Claim.v Place.v numsV natsV
def Isn (p:Nat) (l:List Claim) (e:Nat) (s:S):Prop:=∃ i id:Nat,s.tm 0=.v (.int .i64 p)∧s.tm 1=.v (storyV l)∧s.tm 5=.loc id∧id<s.n∧s.mu=false ∧
 s.m id=some (.arr 3 (((List.range i).filter fun i=>decide (storyTab p (l.eraseIdx i)=storyTab p l)).map fun w=>V.int .i64 (w:Nat))) ∧
 s.tm 6=.v (.int .i64 i)∧i≤l.length∧(e=1→i=l.length)
theorem needlessS_fn (p:Nat) (l:List Claim) (h:storyOk p l=true):FnZ Tryz.prog 78 [.int .i64 p,storyV l] (natsV (needless p l)):=by
 obtain ⟨h1,h4,hc,h6⟩:=allOk_of h
 have hok:=storyOkS_fn p l (by omega) fun c hx=>(claim_fine (hc c hx)).1
 rw [h] at hok
 have hst:=l4Story_fn p l (by omega) (by omega) (by omega) hc
 refine FZ (rs:=[.tmp 4]) false Tryz.func78 ?_
 simp -dsimp
 refine twp_loopC (Isn p l 0) (fun s=>l.length-natOf (s.tm 6)) (Isn p l 1) ?_ ?_ ?_
 ·exact ⟨0,0,by simp -dsimp,by simp -dsimp,by simp -dsimp,by simp -dsimp,by simp -dsimp,by simp -dsimp,by simp -dsimp,by omega,by simp⟩
 ·rintro s ⟨i,id,t0,t1,t5,hid,hmu,hm,t6,hi,hend⟩
  by_cases hlt:i<l.length
  case neg =>
   simp -dsimp [t1,t6,hlt]
   exact ⟨i,id,by simp -dsimp [t0],by simp -dsimp [t1],by simp -dsimp [t5],by simp -dsimp; omega,by simp -dsimp [hmu],by simp -dsimp [hm],by simp -dsimp [t6],hi,fun _=>by omega⟩
  have wi:IntKind.wrap .i64 ((i:Int)+1)=((i+1:Nat):Int):=by rw [w64 (by omega) (by omega)]; omega
  have hmu1:l.length-(i+1)<l.length-i:=by omega
  have hwo:=l5Without_fn l i hlt (by omega)
  obtain ⟨_,_,hc2,h62⟩:=allOk_of (storyOk_erase h i)
  have hs2:=l4Story_fn p (l.eraseIdx i) (by omega) (by omega) (by omega) hc2
  have hrl:((List.range i).filter fun i=>decide (storyTab p (l.eraseIdx i)=storyTab p l)).length≤i:=by
   have:=List.length_filter_le (fun i=>decide (storyTab p (l.eraseIdx i)=storyTab p l)) (List.range i)
   simpa using this
  have hsucc:(List.range (i+1)).filter (fun i=>decide (storyTab p (l.eraseIdx i)=storyTab p l))=(List.range i).filter (fun i=>decide (storyTab p (l.eraseIdx i)=storyTab p l))++(if storyTab p (l.eraseIdx i)=storyTab p l then [i] else []):=by
   rw [List.range_succ,List.filter_append]; congr 1
   by_cases h:storyTab p (l.eraseIdx i)=storyTab p l <;> simp [h]
  have f1:=far hid
  have fin:∀ (s':S) (id':Nat),s'.tm 0=.v (.int .i64 p)→s'.tm 1=.v (storyV l)→s'.tm 5=.loc id'→id'<s'.n→s'.mu=false → 
    s'.m id'=some (.arr 3 (((List.range i).filter fun i=>decide (storyTab p (l.eraseIdx i)=storyTab p l)).map (fun w=>V.int .i64 (w:Nat))++(if storyTab p (l.eraseIdx i)=storyTab p l then [V.int .i64 (i:Nat)] else []))) →
    s'.tm 6=.v (.int .i64 (i+1:Nat))→Isn p l 0 s':=by
   intro s' id' a0 a1 a5 aid amu am a6
   refine ⟨i+1,id',a0,a1,a5,aid,amu, ?_,a6,by omega,by simp⟩
   rw [am,hsucc]; split <;> simp
  generalize hxs:((List.range i).filter fun i=>decide (storyTab p (l.eraseIdx i)=storyTab p l)).map (fun w=>V.int .i64 (w:Nat))=xs at *
  have hxl:xs.length≤6:=by rw [← hxs]; simp only [List.length_map]; omega
  have b1:(xs.length+1) * 8≤140737488355328:=by omega
  generalize hA:storyTab p (l.eraseIdx i)=A at *
  generalize hB:storyTab p l=B at *
  simp -dsimp [t0,t1,t5,t6,hlt]
  refine cl hok ?_
  simp -dsimp [t0,t1,t5,t6]
  refine cl hwo ?_
  simp -dsimp [t0,t1]
  refine cl hs2 ?_
  simp -dsimp [t0,t1]
  refine cl hst ?_
  by_cases c0:A=B
  ·have c1:(A:Int)=B:=by omega
   simp -dsimp [t0,t1,t5,t6,hmu,hm,f1,b1,wi,hmu1,c1]
   refine st_out fun s' ht' hm' hn' hu' => ?_
   have q0:=ht' 0
   have q1:=ht' 1
   have q5:=ht' 5
   have q6:=ht' 6
   simp -dsimp [t0,t1,t5] at q0 q1 q5 q6 hm' hn' hu'
   clear ht'
   exact fin s' _ q0 q1 q5 (by omega) (by rw [hu',hmu]) (by simp [hm',c0]) q6
  ·have c1:¬(A:Int)=B:=by omega
   simp -dsimp [t0,t1,t5,t6,hmu,hm,f1,b1,wi,hmu1,c1]
   exact fin _ id (by simp -dsimp [t0]) (by simp -dsimp [t1]) (by simp -dsimp [t5]) (by simp -dsimp; omega) (by simp -dsimp [hmu]) (by simp -dsimp [hm,c0]) (by simp -dsimp)
 ·rintro s ⟨i,id,t0,t1,t5,hid,hmu,hm,t6,hi,hend⟩
  have:=hend rfl
  subst this
  simp -dsimp [t5,hm]
  rfl
def Il3 (N:Nat) (p:Nat) (t:List Mark) (e:Nat) (s:S):Prop:=∃ w:Nat,s.tm 0=.v (.int .i64 p)∧s.tm 1=.v (marksV t)∧s.tm 6=.v (.int .i64 w)∧s.tm 5=.v (.int .i64 (tabN w (truth t)))∧w≤N∧(e=1→w=N)
theorem l3Table_fn (p:Nat) (t:List Mark) (h:termOk p t=true):FnZ Tryz.prog 86 [.int .i64 p,marksV t] (.int .i64 (termTab p t)):=by
 obtain ⟨hp1,hp4,hl,hr⟩:=termOk_facts h
 obtain ⟨T,hT,eT⟩:=termOk_tree h
 have e:termTab p t=tabN (2 ^ p) (truth t):=rfl
 rw [e]
 have hN:=pow_small (p:=p) (by omega)
 have ws:=(shl_pow (p:=p) (by omega)).1
 have hm:∀ w:Nat,w<2 ^ p→FnZ Tryz.prog 137 [marksV t,.int .i64 w] (.bool (truth t w)):=fun w hw=>by
  have hh:=l3Holds_fn w (by omega) T hT (by rw [eT]; omega)
  have etr:=truth_tm w hT
  rw [eT] at hh etr
  rw [← etr] at hh; exact hh
 generalize hNN:2 ^ p=N at *
 have hp0:¬(p:Int)<0:=by omega
 clear eT hr
 refine FZ (rs:=[.tmp 4]) false Tryz.func86 ?_
 simp -dsimp
 refine twp_loopC (Il3 N p t 0) (fun s=>N-natOf (s.tm 6)) (Il3 N p t 1) ?_ ?_ ?_
 ·exact ⟨0,by simp -dsimp,by simp -dsimp,by simp -dsimp,by simp -dsimp [tabN],by omega,by simp⟩
 ·rintro s ⟨w,t0,t1,t6,t5,hw,hend⟩
  by_cases hlt:w<N
  case neg =>
   simp -dsimp [t0,t6,hp0,ws,hlt]
   exact ⟨w,by simp -dsimp [t0],by simp -dsimp [t1],by simp -dsimp [t6],by simp -dsimp [t5],hw,fun _=>by omega⟩
  have wi:IntKind.wrap .i64 ((w:Int)+1)=((w+1:Nat):Int):=by rw [w64 (by omega) (by omega)]; omega
  have hmu:N-(w+1)<N-w:=by omega
  have hb:=tabN_lt (truth t) w
  have h2:=(shl_pow (p:=w) (by omega)).2
  have wsh:=(shl_pow (p:=w) (by omega)).1
  have hp:2 ^ w≤2 ^ 16:=Nat.pow_le_pow_right (by omega) (by omega)
  have hor:=or_ni (a:=tabN w (truth t)) (b:=2 ^ w) (x:=(2:Int) ^ w) (by simp) (by omega) h2
  have hgw:=ft (truth t w)
  have hz:¬(w:Int)<0:=by omega
  simp -dsimp [t0,t1,t6,hp0,ws,hlt]
  refine cl (hm w hlt) ?_
  rcases hgw with hgw | hgw
  ·have ht:tabN (w+1) (truth t)=tabN w (truth t):=by simp [tabN,hgw]
   simp -dsimp [hgw,t5,t6,wi,hmu]
   exact ⟨w+1,by simp -dsimp [t0],by simp -dsimp [t1],by simp -dsimp,by simp -dsimp [t5,ht],by omega,by simp⟩
  ·have ht:tabN (w+1) (truth t)=tabN w (truth t) ||| 2 ^ w:=by simp [tabN,hgw]
   simp -dsimp [hgw,t5,t6,wi,hmu,wsh,hor,hz]
   exact ⟨w+1,by simp -dsimp [t0],by simp -dsimp [t1],by simp -dsimp,by simp -dsimp [ht],by omega,by simp⟩
 ·rintro s ⟨w,t0,t1,t6,t5,hw,hend⟩
  have:=hend rfl
  subst this
  simp -dsimp [t5]
theorem followsFromS_fn (p:Nat) (l:List Claim) (t:List Mark) (h:storyOk p l=true) (ht:termOk p t=true):FnZ Tryz.prog 82 [.int .i64 p,storyV l,marksV t] (.bool (followsB p l t)):=by
 obtain ⟨h1,h4,hc,h6⟩:=allOk_of h
 have hok:=storyOkS_fn p l (by omega) fun c hx=>(claim_fine (hc c hx)).1
 rw [h] at hok
 have hto:=termOkS_fn p t (termOk_fits ht) (by have:=(termOk_facts ht).2.2.1; omega)
 rw [ht] at hto
 have hst:=l4Story_fn p l (by omega) (by omega) (by omega) hc
 have htt:=l3Table_fn p t ht
 have hs:=storyTab_small (p:=p) (by omega) l
 unfold followsB
 obtain ⟨A,hA⟩:∃ A,storyTab p l=A:=⟨_,rfl⟩
 obtain ⟨B,hB⟩:∃ B,termTab p t=B:=⟨_,rfl⟩
 rw [hA] at hst hs ⊢
 rw [hB] at htt ⊢
 have hw:=andN_w (b:=B) hs
 obtain ⟨C,hC⟩:∃ C,andN A B=C:=⟨_,rfl⟩
 rw [hC] at hw ⊢
 refine FZ (rs:=[.tmp 6]) false Tryz.func82 ?_
 simp -dsimp
 refine cl hok ?_
 simp -dsimp
 refine cl hto ?_
 simp -dsimp
 refine cl hst ?_
 simp -dsimp
 refine cl htt ?_
 simp -dsimp [hw]
@[simp] theorem rowJ_nil:rowJ []=[]:=rfl
def Irw (l:List Int) (e:Nat) (s:S):Prop:=∃ i:Nat,s.tm 0=.v (numsV l)∧s.tm 3=.v (.str (rowJ (l.take i)))∧s.tm 4=.v (.int .i64 i)∧i≤l.length∧(e=1→i=l.length)
theorem l15Row_fn (l:List Int) (hl:l.length≤16) (h:∀ n ∈ l,n≤99):FnZ Tryz.prog 73 [numsV l] (.str (rowTx l)):=by
 refine FZ (rs:=[.tmp 2]) false Tryz.func73 ?_
 simp -dsimp
 refine twp_loopC (Irw l 0) (fun s=>l.length-natOf (s.tm 4)) (Irw l 1) ?_ ?_ ?_
 ·exact ⟨0,by simp -dsimp,by simp -dsimp [rowJ_zero],by simp -dsimp,by omega,by simp⟩
 ·rintro s ⟨i,t0,t3,t4,hi,hend⟩
  by_cases hlt:i<l.length
  case neg =>
   simp -dsimp [t0,t4,hlt,numsV]
   exact ⟨i,by simp -dsimp [t0],by simp -dsimp [t3],by simp -dsimp [t4],hi,fun _=>by omega⟩
  have hget:(l.map (V.int .i64))[i]? = some (.int .i64 l[i]):=by simp [hlt]
  have wi:IntKind.wrap .i64 ((i:Int)+1)=((i+1:Nat):Int):=by rw [w64 (by omega) (by omega)]; omega
  have hmu1:l.length-(i+1)<l.length-i:=by omega
  have hb:=h l[i] (List.getElem_mem hlt)
  have hct:=cellTx_len hb
  have hst2:=rowJ_len (l:=l.take i) fun n hn=>h n (List.mem_of_mem_take hn)
  rw [List.length_take] at hst2
  by_cases hi0:i=0
  ·have hnx:rowJ (l.take (i+1))=cellTx l[i]:=by
    subst hi0; exact rowJ_first l hlt
   have t3':s.tm 3=.v (.str []):=by rw [t3,hi0]; rfl
   have hi1:¬0<i:=by omega
   have hi1':¬(0:Int)<(i:Int):=by omega
   by_cases hneg:l[i]<0
   ·have ec:cellTx l[i]=[46]:=if_pos hneg
    rw [ec] at hnx
    simp -dsimp [t0,t3',t4,hlt,hget,hi1,hi1',hneg,wi,hmu1,numsV]
    exact ⟨i+1,by simp -dsimp [t0,numsV],by simp -dsimp [hnx],by simp -dsimp,by omega,by simp⟩
   ·have ec:cellTx l[i]=dec l[i]:=if_neg hneg
    have hit:=l1Number2_fn l[i] (by omega) hb
    rw [ec] at hnx hct
    generalize hD:dec l[i]=D at hnx hit hct
    have b2:(D.length:Int)≤9223372036854775807:=by omega
    simp -dsimp [t0,t3',t4,hlt,hget,hi1,hi1',hneg,numsV]
    refine cl hit ?_
    simp -dsimp [List.range_succ,t0,t3',t4,hlt,hget,wi,hmu1,numsV,b2]
    exact ⟨i+1,by simp -dsimp [t0,numsV],by simp -dsimp [hnx],by simp -dsimp,by omega,by simp⟩
  ·have hi1:0<i:=by omega
   have hi1':(0:Int)<(i:Int):=by omega
   have hnx:=rowJ_next l i hi1 hlt
   generalize hX:rowJ (l.take i)=X at *
   have b0:(X.length:Int)+1≤9223372036854775807:=by omega
   have b00:(X.length:Int)+1+1≤9223372036854775807:=by omega
   have b000:(X.length:Int)+(1+1)≤9223372036854775807:=by omega
   by_cases hneg:l[i]<0
   ·have ec:cellTx l[i]=[46]:=if_pos hneg
    rw [ec] at hnx
    simp -dsimp [t0,t3,t4,hlt,hget,hi1,hi1',hneg,wi,hmu1,numsV,b0,b00,b000]
    exact ⟨i+1,by simp -dsimp [t0,numsV],by simp -dsimp [hnx],by simp -dsimp,by omega,by simp⟩
   ·have ec:cellTx l[i]=dec l[i]:=if_neg hneg
    have hit:=l1Number2_fn l[i] (by omega) hb
    rw [ec] at hnx hct
    generalize hD:dec l[i]=D at hnx hit hct
    have b1:(X.length:Int)+1+D.length≤9223372036854775807:=by omega
    have b2:(X.length:Int)+(1+D.length)≤9223372036854775807:=by omega
    simp -dsimp [t0,t3,t4,hlt,hget,hi1,hi1',hneg,b0,numsV]
    refine cl hit ?_
    simp -dsimp [List.range_succ,t0,t3,t4,hlt,hget,wi,hmu1,b0,b1,b2,numsV]
    exact ⟨i+1,by simp -dsimp [t0,numsV],by simp -dsimp [hnx],by simp -dsimp,by omega,by simp⟩
 ·rintro s ⟨i,t0,t3,t4,hi,hend⟩
  have hil:=hend rfl
  rw [hil,List.take_length] at t3
  by_cases hs:l=[]
  ·have e:rowTx l=[110,111,110,101]:=if_pos hs
   rw [e]
   rw [hs] at t0
   simp -dsimp [t0,numsV]
  ·have e:rowTx l=rowJ l:=if_neg hs
   have hnn:¬(l.length:Int)=0:=fun h=>hs (List.length_eq_zero_iff.1 (by omega))
   rw [e]
   simp -dsimp [t0,t3,numsV,hs,hnn]
end TL
