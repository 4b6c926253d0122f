/- TL: parts FnsO4, Fns13, Fns14, Fns18, FnsC0, FnsB6, FnsC1, TlLend, FnsC2, FnsC4, FnsA1, FnsA2, FnsA3, FnsI1, FnsI3, FnsI5a, FnsA4. -/
import Derived.Test.YtnimfdpinpggdabGreatDoorGf
import Derived.Test.YtnimfdpinpggdabGreatDoorGe
import Derived.KernelRfl
import Derived.Test.YtnimfdpinpggdabGreatDoorGc
set_option linter.unusedSimpArgs false
set_option linter.unusedVariables false
set_option maxRecDepth 100000
set_option maxHeartbeats 4000000
set_option pp.maxSteps 1500
namespace TL
open Go Go.Proofs
attribute [local simp] marksV storyV codeV Claim.v Place.v
/-- Whether a term holds in a world. -/
def Tm.sat (w:Nat):Tm→Bool
 | .tells i=>w.testBit i
 | .count i=>decide ((i:Int)≤cnt w)
 | .not a => !a.sat w
 | .bin k a b=>if k=0 then a.sat w && b.sat w else if k=1 then a.sat w || b.sat w else a.sat w == b.sat w
theorem sat_bit (w i:Nat):decide (((w:Int).fdiv (2 ^ i)).tmod 2=1)=w.testBit i:=by
 have e1:(w:Int).fdiv (2 ^ i)=((w / 2 ^ i:Nat):Int):=by
  rw [Int.fdiv_eq_ediv_of_nonneg _ (by exact_mod_cast Nat.zero_le _)]
  push_cast; rfl
 rw [e1,Nat.testBit_eq_decide_div_mod_eq,decide_eq_decide]
 rw [Int.tmod_eq_emod_of_nonneg (Int.natCast_nonneg _)]
 omega
theorem l3Holds_fn (w:Nat) (hw:w<16):∀ T:Tm,T.ok→T.marks.length≤1048576→FnZ Tryz.prog 137 [marksV T.marks,.int .i64 w] (.bool (T.sat w))
 | .tells i,hok,hl=>by
  have hi:i<4:=hok
  have w4:IntKind.wrap .i64 0=0:=rfl
  refine FZ (rs:=[.tmp 4]) false Tryz.func137 ?_
  have hn:¬(i:Int)<0:=by omega
  have hm:min i IntKind.i64.bits=i:=Nat.min_eq_left (by show i≤64; omega)
  have hb:=sat_bit w i
  simp -dsimp [Tm.marks,Mark.v,w4,hn,hm,Tm.sat]
  exact hb
 | .count i,hok,hl=>by
  have hi:i<6:=hok
  have w4:IntKind.wrap .i64 0=0:=rfl
  have hh:=l1Heads_fn w (by omega)
  refine FZ (rs:=[.tmp 4]) false Tryz.func137 ?_
  simp -dsimp [Tm.marks,Mark.v,w4,Tm.sat]
  refine twd [0,2,3,4,5,6,1,7,8] [] (List.replicate 9 []) (List.replicate 9 []) ?_
  simp -dsimp [List.range_succ,Tm.marks,Mark.v,w4]
  refine cl hh ?_
  simp -dsimp [List.range_succ,Tm.marks,Mark.v,Tm.sat]
 | .not a,hok,hl=>by
  have hla:a.marks.length≤1048576:=by simp [Tm.marks] at hl; omega
  have ih:=l3Holds_fn w hw a hok hla
  have e0:(Tm.not a).marks=a.marks++[⟨2,0⟩]:=rfl
  have hlen:(Tm.not a).marks.length=a.marks.length+1:=by rw [e0]; simp
  have hget:(Tm.not a).marks[a.marks.length]? = some ⟨2,0⟩:=by rw [e0]; simp
  have htake:List.take a.marks.length (List.map Mark.v (Tm.not a).marks)=List.map Mark.v a.marks:=by rw [e0]; simp
  have w1:IntKind.wrap .i64 (((Tm.not a).marks.length:Int)-1)=(a.marks.length:Int):=by rw [w64 (by omega) (by omega)]; omega
  have hle:a.marks.length≤(Tm.not a).marks.length:=by omega
  have es:(Tm.not a).sat w = !a.sat w:=rfl
  rw [es]
  generalize (Tm.not a).marks=l at *
  generalize a.sat w=b at *
  refine FZ (rs:=[.tmp 4]) false Tryz.func137 ?_
  simp -dsimp [w1,hget,htake,hle,Mark.v]
  refine cl ih ?_
  simp -dsimp
 | .bin k a b,hok,hl=>by
  obtain ⟨hk,hoa,hob⟩:=hok
  have hlab:a.marks.length+b.marks.length≤1048575:=by simp [Tm.marks] at hl; omega
  have iha:=l3Holds_fn w hw a hoa (by omega)
  have ihb:=l3Holds_fn w hw b hob (by omega)
  have hlp:=l2Starts_fn a.marks [⟨3+k,0⟩] b hob (by simp; omega)
  have e0:(Tm.bin k a b).marks=a.marks++b.marks++[⟨3+k,0⟩]:=rfl
  have hlen:(Tm.bin k a b).marks.length=a.marks.length+b.marks.length+1:=by rw [e0]; simp; omega
  have hget:(Tm.bin k a b).marks[a.marks.length+b.marks.length]? = some ⟨3+k,0⟩:=by
   rw [e0,List.getElem?_append_right (by simp)]; simp
  have htake:List.take (a.marks.length+b.marks.length) (List.map Mark.v (Tm.bin k a b).marks)=List.map Mark.v (a.marks++b.marks):=by
   rw [e0,List.map_append,List.take_left' (by simp)]
  have htake2:List.take a.marks.length (List.map Mark.v (Tm.bin k a b).marks)=List.map Mark.v a.marks:=by
   rw [e0,List.append_assoc,List.map_append,List.take_left' (by simp)]
  have hdrop:List.drop a.marks.length (List.map Mark.v (a.marks++b.marks))=List.map Mark.v b.marks:=by
   rw [List.map_append,List.drop_left' (by simp)]
  have es:(Tm.bin k a b).sat w=if k=0 then a.sat w && b.sat w else if k=1 then a.sat w || b.sat w else a.sat w == b.sat w:=rfl
  rw [es]
  obtain ⟨n,hn⟩:∃ n,n=a.marks.length+b.marks.length:=⟨_,rfl⟩
  rw [← hn] at hlen hget htake
  have hc1:a.marks.length≤n:=by omega
  have hle:n≤(Tm.bin k a b).marks.length:=by omega
  have hle2:a.marks.length≤(Tm.bin k a b).marks.length:=by omega
  have w1:IntKind.wrap .i64 (((Tm.bin k a b).marks.length:Int)-1)=(n:Int):=by rw [w64 (by omega) (by omega)]; omega
  have wE:IntKind.wrap .i64 ((n:Int)-1)=(a.marks.length:Int)+b.marks.length-1:=by rw [w64 (by omega) (by omega)]; omega
  rw [← e0] at hlp
  have hkk:k=0∨k=1∨k=2:=by omega
  generalize hL:(Tm.bin k a b).marks=l at *
  generalize hM:a.marks++b.marks=M at *
  clear e0 hL hM es
  generalize a.sat w=x at *
  generalize b.sat w=y at *
  have hx:=ft x
  rcases hkk with rfl | rfl | rfl
  ·refine FZ (rs:=[.tmp 4]) false Tryz.func137 ?_
   simp -dsimp [w1,hget,Mark.v]
   refine call_ hlp (by simp -dsimp [wE]) ?_
   simp -dsimp [htake2,hle2]
   refine cl iha ?_
   simp -dsimp [htake,hdrop,hc1,hle]
   refine cl ihb ?_
   rcases hx with rfl | rfl
   ·simp -dsimp [hget,Mark.v]
   ·simp -dsimp [hget,Mark.v]
  ·refine FZ (rs:=[.tmp 4]) false Tryz.func137 ?_
   simp -dsimp [w1,hget,Mark.v]
   refine call_ hlp (by simp -dsimp [wE]) ?_
   simp -dsimp [htake2,hle2]
   refine cl iha ?_
   simp -dsimp [htake,hdrop,hc1,hle]
   refine cl ihb ?_
   rcases hx with rfl | rfl
   ·simp -dsimp [hget,Mark.v]
   ·simp -dsimp [hget,Mark.v]
  ·refine FZ (rs:=[.tmp 4]) false Tryz.func137 ?_
   simp -dsimp [w1,hget,Mark.v]
   refine call_ hlp (by simp -dsimp [wE]) ?_
   simp -dsimp [htake2,hle2]
   refine cl iha ?_
   simp -dsimp [htake,hdrop,hc1,hle]
   refine cl ihb ?_
   simp -dsimp [hget,Mark.v]
end TL

namespace TL
open Go Go.Proofs
attribute [local simp] marksV storyV codeV Claim.v Place.v
def mid (n:Nat):Prop:=n≤9223372036854775807
def Claim.mid (c:Claim):Prop:=TL.mid c.says.length
def Place.mid (p:Place):Prop:=TL.mid p.story.length∧∀ c ∈ p.story,c.mid
end TL

namespace TL
open Go Go.Proofs
theorem opens_code (w:World):Opens Tryz.prog w 22 fun vs=>∃ bs:List UInt8,vs=[codeV bs] :=
 (opens_slice (α:=UInt8) (v:=fun b=>V.int .u8 b.toNat) (Q:=fun _=>True) Tryz.underlying22 (z:=1) (by kernel_rfl) (by omega) ((opens_int Tryz.underlying5).mono fun vs h=>by
  obtain ⟨n,rfl,hw⟩:=h
  refine ⟨UInt8.ofNat n.toNat,trivial,.inr ⟨rfl, ?_⟩⟩
  have e:((UInt8.ofNat n.toNat).toNat:Int)=n:=by
   simp [Lit.wf,IntKind.min,IntKind.max,IntKind.signed,IntKind.bits] at hw
   rw [UInt8.toNat_ofNat']; omega
  rw [e])).mono fun vs h=>by obtain ⟨l,rfl,_,_⟩:=h; exact ⟨l,rfl⟩
end TL

namespace TL
open Go Go.Proofs
attribute [local simp] marksV storyV codeV Claim.v Place.v Desk.v
def Desk.fit (d:Desk):Prop:=d.now.fit∧∀ p ∈ d.past,p.fit
def Desk.mid (d:Desk):Prop:=d.now.mid∧TL.mid d.past.length∧∀ p ∈ d.past,p.mid
theorem Place.fine_of {p:Place} (hs:p.small) (hf:p.fit):p.fine:=⟨by have:=hs.1; omega,fun c hc=>⟨(hf.2 c hc).2,by have:=hs.2 c hc; unfold Claim.small at this; omega⟩⟩
def IdeskOkS (d:Desk) (e:Nat) (s:S):Prop:=∃ i:Nat,s.tm 1=.ptr 0 0∧s.m 0=some (.box 28 3 [.v (.int .i64 d.now.people),.v (storyV d.now.story),.v (.sl (d.past.map Place.v))])∧s.tm 3=.v (.int .i64 i) ∧
 i≤d.past.length∧(d.past.take i).all placeOk=true∧(e=1→i=d.past.length)
theorem deskOkS_fn (d:Desk) (hs:d.small) (hf:d.fit):FnZ Tryz.prog 9 [d.v] (.bool (deskOk d)):=by
 have hl:=hs.2.1
 refine FZ (rs:=[.tmp 2]) false Tryz.func9 ?_
 simp -dsimp
 refine twp_loopC (IdeskOkS d 0) (fun s=>d.past.length-natOf (s.tm 3)) (IdeskOkS d 1) ?_ ?_ ?_
 ·exact ⟨0,by simp -dsimp,by simp -dsimp,by simp -dsimp,by omega,by simp,by simp⟩
 ·rintro s ⟨i,t1,m0,t8,hi,hall,hend⟩
  by_cases hlt:i<d.past.length
  case neg =>
   simp -dsimp [t1,m0,t8,hlt]
   exact ⟨i,by simp -dsimp [t1],by simp -dsimp [m0],by simp -dsimp [t8],hi,hall,fun _=>by omega⟩
  have hget:(d.past.map Place.v)[i]? = some (d.past[i].v):=by simp [hlt]
  have hall':=all_take_succ (f:=placeOk) hlt
  have wi:IntKind.wrap .i64 ((i:Int)+1)=((i+1:Nat):Int):=by rw [w64 (by omega) (by omega)]; omega
  have hmu:d.past.length-(i+1)<d.past.length-i:=by omega
  have hbad:=all_bad (f:=placeOk) hlt
  have hm:=List.getElem_mem hlt
  simp -dsimp [t1,m0,t8,hlt,hget]
  refine cl (placeOkS_fn d.past[i] (Place.fine_of (hs.2.2 _ hm) (hf.2 _ hm))) ?_
  have hc:=ft (placeOk d.past[i])
  rcases hc with hc | hc
  ·simp -dsimp [hc,deskOk,hbad hc]
  ·simp -dsimp [hc,t8,wi,hmu]
   exact ⟨i+1,by simp -dsimp [t1],by simp -dsimp [m0],by simp -dsimp,by omega,by rw [hall',hall,hc]; rfl,by simp⟩
 ·rintro s ⟨i,t1,m0,t8,hi,hall,hend⟩
  have:=hend rfl
  subst this
  rw [List.take_length] at hall
  simp -dsimp [t1,m0]
  refine cl (placeOkS_fn d.now (Place.fine_of hs.1 hf.1)) ?_
  have hk:=ft (placeOk d.now)
  rcases hk with hk | hk
  ·simp -dsimp [deskOk,hk]
  ·simp -dsimp [t1,m0,deskOk,hk,hall]
   omega
end TL

namespace TL
open Go Go.Proofs
theorem runR_append (w:Nat) (r:List Bool) (a b:List Mark):runR w r (a++b)=runR w (runR w r a) b:=by simp [runR]
theorem runR_tm (w:Nat):∀ T:Tm,T.ok→∀ r,runR w r T.marks=T.sat w :: r
 | .tells i,_,r=>by simp [Tm.marks,runR,runStep,Tm.sat]
 | .count i,_,r=>by simp [Tm.marks,runR,runStep,Tm.sat]
 | .not a,h,r=>by
  have ih:=runR_tm w a h r
  show runR w r (a.marks++[⟨2,0⟩])=_
  rw [runR_append,ih]
  simp [runR,runStep,Tm.sat]
 | .bin k a b,h,r=>by
  obtain ⟨hk,ha,hb⟩:=h
  have e:(Tm.bin k a b).marks=a.marks++b.marks++[⟨3+k,0⟩]:=rfl
  rw [e,runR_append,runR_append,runR_tm w a ha,runR_tm w b hb]
  have:k=0∨k=1∨k=2:=by omega
  rcases this with rfl | rfl | rfl <;> simp [runR,runStep,Tm.sat]
theorem truth_tm (w:Nat) {T:Tm} (h:T.ok):truth T.marks w=T.sat w:=by unfold truth; rw [runR_tm w T h]; rfl
theorem tm_fits:∀ T:Tm,T.ok→fits T.marks
 | .tells i,h=>fun m hm=>by
  have h:i<4:=h
  simp [Tm.marks] at hm; subst hm; unfold Mark.fit fit; simp; omega
 | .count i,h=>fun m hm=>by
  have h:i<6:=h
  simp [Tm.marks] at hm; subst hm; unfold Mark.fit fit; simp; omega
 | .not a,h=>fun m hm=>by
  have e:(Tm.not a).marks=a.marks++[⟨2,0⟩]:=rfl
  rw [e] at hm
  rcases List.mem_append.1 hm with hm | hm
  ·exact tm_fits a h m hm
  ·rw [List.mem_singleton.1 hm]; unfold Mark.fit fit; simp
 | .bin k a b,h=>fun m hm=>by
  obtain ⟨hk,ha,hb⟩:=h
  have e:(Tm.bin k a b).marks=a.marks++b.marks++[⟨3+k,0⟩]:=rfl
  rw [e] at hm
  rcases List.mem_append.1 hm with hm | hm
  ·rcases List.mem_append.1 hm with hm | hm
   ·exact tm_fits a ha m hm
   ·exact tm_fits b hb m hm
  ·rw [List.mem_singleton.1 hm]; unfold Mark.fit fit; simp; omega
theorem claim_facts {people:Int} {c:Claim} (h:claimOk people c=true):1≤people∧people≤4∧0≤c.who∧c.who<people∧termOk people c.says=true∧c.says.length≤13∧marksRun people 0 c.says=some 1:=by
 simp only [claimOk,peopleOk,Bool.and_eq_true,decide_eq_true_eq] at h
 have ht:=h.1.2
 simp only [termOk,Bool.and_eq_true,decide_eq_true_eq] at ht
 exact ⟨h.1.1.1.1.1,h.1.1.1.1.2,h.1.1.1.2,h.1.1.2,h.1.2,h.2,ht.2⟩
theorem claim_fine {people:Int} {c:Claim} (h:claimOk people c=true):c.fine∧c.fit∧c.small∧c.says.length≤13:=by
 obtain ⟨h1,h2,h3,h4,h5,h6,h7⟩:=claim_facts h
 obtain ⟨T,hT,e⟩:=termOk_tree h5
 have hf:fits c.says:=by rw [← e]; exact tm_fits T hT
 exact ⟨⟨hf,by omega⟩,⟨by unfold fit; omega,hf⟩,by unfold Claim.small; omega,h6⟩
theorem place_fine {p:Place} (h:placeOk p=true):p.fine∧p.fit∧p.small∧p.story.length≤6:=by
 obtain ⟨h1,h2,h3,h4⟩:=placeOk_all h
 exact ⟨⟨by omega,fun c hc=>(claim_fine (h4 c hc)).1⟩,⟨by unfold fit; omega,fun c hc=>(claim_fine (h4 c hc)).2.1⟩,⟨by omega,fun c hc=>(claim_fine (h4 c hc)).2.2.1⟩,h3⟩
theorem desk_fine {d:Desk} (h:deskOk d=true):d.small∧d.fit∧d.past.length≤8∧d.now.fine:=by
 obtain ⟨h1,h2,h3⟩:=deskOk_iff.1 h
 exact ⟨⟨(place_fine h2).2.2.1,by omega,fun p hp=>(place_fine (h1 p hp)).2.2.1⟩,⟨(place_fine h2).2.1,fun p hp=>(place_fine (h1 p hp)).2.1⟩,h3,(place_fine h2).1⟩
end TL

namespace TL
open Go Go.Proofs
attribute [local simp] marksV storyV codeV Claim.v Place.v
theorem askedS_val {p n a b:Nat} (yes:Bool) (hn:n<2 ^ 2 ^ p):(tabN (2 ^ p) fun w=>n.testBit w && sameKind a b yes w)=n &&& askMask p a b yes:=by
 apply Nat.eq_of_testBit_eq
 intro i
 rw [testBit_tabN,Nat.testBit_and,askMask,testBit_tabN]
 by_cases h:i<2 ^ p
 ·simp [h]
 ·have:n.testBit i=false:=Nat.testBit_lt_two_pow (Nat.lt_of_lt_of_le hn (Nat.pow_le_pow_right (by omega) (by omega)))
  simp [this]
/-- The worlds of a table. -/
def worldsOf (p n:Nat):List Nat:=(List.range (2 ^ p)).filter fun w=>n.testBit w
def Iwi (N n p:Nat) (e:Nat) (s:S):Prop:=∃ w id:Nat,s.tm 1=.v (.int .i64 n)∧s.tm 5=.loc id∧s.tm 13=.v (.int .i64 N)∧s.tm 14=.v (.int .i64 w)∧w≤N∧s.mu=false∧id<s.n ∧
 s.m id=some (.arr 3 (((List.range w).filter fun w=>n.testBit w).map fun w=>V.int .i64 (w:Nat)))∧(e=1→w=N)
theorem worldsIn_fn (p n:Nat) (hk:tableOk p n=true) (hp1:1≤p) (hp4:p≤4):FnZ Tryz.prog 54 [.int .i64 p,.int .i64 n] (.sl ((worldsOf p n).map fun w=>V.int .i64 (w:Nat))):=by
 have hn:n<65536:=by
  obtain ⟨p',n',h1,h2,_,h4,h5⟩:=tableOk_spec hk
  have:n'=n:=by omega
  subst this
  exact table_small h4 h5
 have hN:2 ^ p≤16:=by
  have:p=1∨p=2∨p=3∨p=4:=by omega
  rcases this with rfl | rfl | rfl | rfl <;> simp
 have ws:IntKind.wrap .i64 (2 ^ min p IntKind.i64.bits)=((2 ^ p:Nat):Int):=by rw [shl_fact (by omega)]; simp
 unfold worldsOf
 generalize hNN:2 ^ p=N at *
 have hp0:¬(p:Int)<0:=by omega
 refine FZ (rs:=[.tmp 4]) false Tryz.func54 ?_
 simp -dsimp
 refine cl (tableOk_fn p n) ?_
 simp -dsimp [hk,ws,hp0]
 refine twp_loopC (Iwi N n p 0) (fun s=>N-natOf (s.tm 14)) (Iwi N n p 1) ?_ ?_ ?_
 ·exact ⟨0,0,by simp -dsimp,by simp -dsimp,by simp -dsimp,by simp -dsimp,by omega,by simp -dsimp,by simp -dsimp,by simp -dsimp,by simp⟩
 ·rintro s ⟨w,id,t1,t5,t13,t14,hw,hmu,hid,hm,hend⟩
  by_cases hlt:w<N
  case neg =>
   simp -dsimp [t13,t14,hlt]
   exact ⟨w,id,by simp -dsimp [t1],by simp -dsimp [t5],by simp -dsimp [t13],by simp -dsimp [t14],hw,by simp -dsimp [hmu],by simp -dsimp; omega,by simp -dsimp [hm],fun _=>by omega⟩
  have wi:IntKind.wrap .i64 ((w:Int)+1)=((w+1:Nat):Int):=by rw [w64 (by omega) (by omega)]; omega
  have hmu1:N-(w+1)<N-w:=by omega
  have z3:¬(w:Int)<0:=by omega
  have b0:=bit1 n w (by omega) (by omega)
  have hrl:((List.range w).filter fun w=>n.testBit w).length≤w:=by
   have:=List.length_filter_le (fun w=>n.testBit w) (List.range w)
   simpa using this
  have hsucc:(List.range (w+1)).filter (fun w=>n.testBit w)=(List.range w).filter (fun w=>n.testBit w)++(if n.testBit w then [w] else []):=by
   rw [List.range_succ,List.filter_append]; congr 1
   cases h:n.testBit w <;> simp [h]
  have fin:∀ (s':S) (id':Nat),s'.tm 1=.v (.int .i64 n)→s'.tm 5=.loc id'→s'.tm 13=.v (.int .i64 N)→s'.tm 14=.v (.int .i64 (w+1:Nat))→s'.mu=false→id'<s'.n →
    s'.m id'=some (.arr 3 (((List.range w).filter fun w=>n.testBit w).map (fun w=>V.int .i64 (w:Nat))++(if n.testBit w then [V.int .i64 w] else [])))→Iwi N n p 0 s':=by
   intro s' id' a1 a5 a13 a14 amu aid am
   refine ⟨w+1,id',a1,a5,a13,a14,by omega,amu,aid, ?_,by simp⟩
   rw [am,hsucc]; cases n.testBit w <;> simp
  have f1:=far hid
  generalize hxs:((List.range w).filter fun w=>n.testBit w).map (fun w=>V.int .i64 (w:Nat))=xs at *
  have hxl:xs.length≤16:=by rw [← hxs]; simp only [List.length_map]; omega
  have b1:(xs.length+1) * 8≤140737488355328:=by omega
  have c0:=ft (n.testBit w)
  rcases c0 with c0 | c0
  ·rw [c0] at b0
   simp -dsimp [t1,t5,t13,t14,hlt,hmu,z3,b0,wi,hmu1]
   exact fin _ id (by simp -dsimp [t1]) (by simp -dsimp [t5]) (by simp -dsimp [t13]) (by simp -dsimp) (by simp -dsimp [hmu]) (by simp -dsimp; omega) (by simp -dsimp [hm,c0])
  ·rw [c0] at b0
   simp -dsimp [t1,t5,t13,t14,hlt,hmu,z3,b0,hm,f1,b1,wi,hmu1]
   refine st_out fun s' ht' hm' hn' hu' => ?_
   have q1:=ht' 1
   have q5:=ht' 5
   have q13:=ht' 13
   have q14:=ht' 14
   simp -dsimp [t1,t5,t13] at q1 q5 q13 q14 hm' hn' hu'
   clear ht'
   exact fin s' _ q1 q5 q13 q14 (by rw [hu',hmu]) (by omega) (by simp [hm',c0])
 ·rintro s ⟨w,id,t1,t5,t13,t14,hw,hmu,hid,hm,hend⟩
  have:=hend rfl
  subst this
  simp -dsimp [t5,hm]
end TL

namespace TL
open Go Go.Proofs
attribute [local simp] marksV storyV codeV Claim.v Place.v
theorem maySay_fn (people:Int) (c:Claim) (h:claimOk people c=true) (w:Nat) (hw:w<16):FnZ Tryz.prog 159 [c.v,.int .i64 w] (.bool (mayB c w)):=by
 obtain ⟨hp1,hp4,h0,h1,ht,hl,hr⟩:=claim_facts h
 obtain ⟨who,says⟩:=c
 simp only at h0 h1 hl hr
 obtain ⟨k,rfl⟩:=Int.eq_ofNat_of_zero_le h0
 have hh:=holds_fn people hp4 says hr (by omega) w hw
 have hb:=bit1 w k (by omega) (by omega)
 have z1:¬(k:Int)<0:=by omega
 have e:mayB ⟨(k:Int),says⟩ w=(truth says w == w.testBit k):=rfl
 rw [e]
 generalize truth says w=tr at *
 have c0:=ft (w.testBit k)
 refine FZ (rs:=[.tmp 4]) false Tryz.func159 ?_
 simp -dsimp
 refine twd [0,1,2,4,5,6,7,8,9,3,10,11] [0] (List.replicate 12 [0]) (List.replicate 12 [0]) ?_
 rcases c0 with c0 | c0
 ·rw [c0] at hb ⊢
  simp -dsimp [z1,hb]
  refine cl hh ?_
  cases tr <;> simp -dsimp [z1,hb]
 ·rw [c0] at hb ⊢
  simp -dsimp [z1,hb]
  refine cl hh ?_
  cases tr <;> simp -dsimp [z1,hb]
theorem claimTable1_fn (people:Int) (c:Claim) (h:claimOk people c=true) (w:Nat) (hw:w<16):FnZ Tryz.prog 158 [.int .i64 w,.ref [.int .i64 c.who,marksV c.says]] (.bool (mayB c w)):=by
 have hm:=maySay_fn people c h w hw
 generalize mayB c w=b at *
 obtain ⟨who,says⟩:=c
 refine FZ (rs:=[.tmp 3]) false Tryz.func158 ?_
 simp -dsimp
 refine cl hm ?_
 simp -dsimp
theorem pow_small {p:Nat} (h:p≤4):2 ^ p≤16:=by
 have:2 ^ p≤2 ^ 4:=Nat.pow_le_pow_right (by omega) h
 omega
theorem claimTable_fn (people:Int) (c:Claim) (h:claimOk people c=true):FnZ Tryz.prog 106 [.int .i64 people,c.v] (.int .i64 (claimTab people.toNat c)):=by
 obtain ⟨hp1,hp4,h0,h1,ht,hl,hr⟩:=claim_facts h
 obtain ⟨p,rfl⟩:=Int.eq_ofNat_of_zero_le (show 0≤people by omega)
 have hok:=claimOk_fn p c
 rw [h] at hok
 have hN:=pow_small (p:=p) (by omega)
 have hc:∀ w:Nat,w<2 ^ p→FnZ Tryz.prog 158 [.int .i64 w,.ref [.int .i64 c.who,marksV c.says]] (.bool (mayB c w)):=fun w hw=>claimTable1_fn p c h w (by omega)
 have htb:=tableBy_fn p (by omega) (by omega) 158 [.ref [.int .i64 c.who,marksV c.says]] (mayB c) hc
 have e:claimTab (p:Int).toNat c=tabN (2 ^ p) (mayB c):=rfl
 rw [e]
 generalize tabN (2 ^ p) (mayB c)=tb at *
 clear h0 h1 ht hl hr hc
 obtain ⟨who,says⟩:=c
 refine FZ (rs:=[.tmp 4]) false Tryz.func106 ?_
 simp -dsimp
 refine cl hok ?_
 simp -dsimp
 refine callM_ htb (by simp -dsimp) rfl ?_
 simp -dsimp
end TL

namespace TL
open Go Go.RowKit
variable {P:Program}
/-- A contract for pure arguments serves for rows that nobody changes, too. -/
theorem FnS.lend {f:Nat} {m:Mem} {n:Nat} {args:List T} {vs:List V} {post:T→Mem→Nat→Prop} (h:FnS P f m n (vs.map .v) post) (ha:mapO (bor false m 4) args=some vs):FnS P f m n args post :=
 ⟨h.1,fun φ Z w us hm hr=>h.2 φ Z w us hm (bors_sound hm (k:=false) (Zb:=Z) (fun _ _ h=>h) (by simp) args us vs hr ha).toTs⟩
theorem callL_ {f:Nat} {m:Mem} {n:Nat} {args:List T} {vs:List V} {k:T→Mem→Nat→Prop} {post:T→Mem→Nat→Prop} (h:FnS P f m n (vs.map .v) post) (ha:mapO (bor false m 4) args=some vs) (hk:∀ t m' n',post t m' n'→k t m' n'):callP P f m n args k:=callS_ (h.lend ha) hk
end TL

namespace TL
open Go Go.Proofs
attribute [local simp] marksV storyV codeV Claim.v Place.v
theorem full_table {p:Nat} (h1:1≤p) (h4:p≤4):(2 ^ 2 ^ p-1:Nat)<65536∧IntKind.wrap .i64 (IntKind.wrap .i64 (2 ^ min (IntKind.wrap .u64 (2 ^ min p IntKind.u64.bits)).toNat IntKind.i64.bits)-1)=((2 ^ 2 ^ p-1:Nat):Int):=by
 have:p=1∨p=2∨p=3∨p=4:=by omega
 rcases this with rfl | rfl | rfl | rfl <;> exact ⟨by decide,by rfl⟩
def Ist (p:Nat) (l:List Claim) (e:Nat) (s:S):Prop:=∃ i:Nat,s.tm 0=.v (.int .i64 p)∧s.tm 5=.v (.int .i64 (storyTab p (l.take i)))∧s.tm 12=.v (.sl (l.map Claim.v))∧s.tm 13=.v (.int .i64 l.length)∧s.tm 14=.v (.int .i64 i)∧i≤l.length∧(e=1→i=l.length)
theorem storyTab_succ {p i:Nat} {l:List Claim} (h:i<l.length):storyTab p (l.take (i+1))=storyTab p (l.take i) &&& claimTab p l[i]:=by
 unfold storyTab
 rw [List.take_succ_eq_append_getElem h,List.foldl_append]; rfl
theorem storyTab_small {p:Nat} (h4:p≤4) (l:List Claim):storyTab p l<65536:=table_small h4 (storyTab_le p l)
theorem storyTable_fn (p:Nat) (l:List Claim) (hp1:1≤p) (hp4:p≤4) (hl:l.length≤1048576) (h:∀ c ∈ l,claimOk p c=true):FnZ Tryz.prog 52 [.int .i64 p,storyV l] (.int .i64 (storyTab p l)):=by
 obtain ⟨hf1,hf2⟩:=full_table hp1 hp4
 have hp0:¬(p:Int)<0:=by omega
 refine FZ (rs:=[.tmp 4]) false Tryz.func52 ?_
 have hsh:¬IntKind.wrap .u64 (2 ^ min p IntKind.u64.bits)<0:=by
  have:p=1∨p=2∨p=3∨p=4:=by omega
  rcases this with rfl | rfl | rfl | rfl <;> decide
 simp -dsimp [hp0,hsh,hf2]
 refine twp_loopC (Ist p l 0) (fun s=>l.length-natOf (s.tm 14)) (Ist p l 1) ?_ ?_ ?_
 ·exact ⟨0,by simp -dsimp,by simp -dsimp [storyTab],by simp -dsimp,by simp -dsimp,by simp -dsimp,by omega,by simp⟩
 ·rintro s ⟨i,t0,t5,t12,t13,t14,hi,hend⟩
  by_cases hlt:i<l.length
  case neg =>
   simp -dsimp [t13,t14,hlt]
   exact ⟨i,by simp -dsimp [t0],by simp -dsimp [t5],by simp -dsimp [t12],by simp -dsimp [t13],by simp -dsimp [t14],hi,fun _=>by omega⟩
  have hget:(l.map Claim.v)[i]? = some (l[i].v):=by simp [hlt]
  have wi:IntKind.wrap .i64 ((i:Int)+1)=((i+1:Nat):Int):=by rw [w64 (by omega) (by omega)]; omega
  have hmu1:l.length-(i+1)<l.length-i:=by omega
  have hct:=claimTable_fn p l[i] (h _ (List.getElem_mem _))
  rw [Int.toNat_natCast] at hct
  have ha:=storyTab_small hp4 (l.take i)
  have hb:claimTab p l[i]<65536:=table_small hp4 (tabN_lt _ _)
  have hs:=storyTab_succ (p:=p) hlt
  have hand:=and_nn (a:=storyTab p (l.take i)) (b:=claimTab p l[i]) (by omega) (by omega)
  generalize claimTab p l[i]=b at *
  generalize storyTab p (l.take i)=a at *
  simp -dsimp [t0,t5,t12,t13,t14,hlt,hget,nes]
  refine cl hct ?_
  simp -dsimp [t0,t5,t12,t13,t14,hand,wi,hmu1]
  exact ⟨i+1,by simp -dsimp [t0],by simp -dsimp [hs],by simp -dsimp [t12],by simp -dsimp [t13],by simp -dsimp,by omega,by simp⟩
 ·rintro s ⟨i,t0,t5,t12,t13,t14,hi,hend⟩
  have:=hend rfl
  subst this
  rw [List.take_length] at t5
  simp -dsimp [t5]
theorem allOk_of {people:Int} {l:List Claim} (h:storyOk people l=true):1≤people∧people≤4∧(∀ c ∈ l,claimOk people c=true)∧l.length≤6:=by
 simp only [storyOk,peopleOk,Bool.and_eq_true,decide_eq_true_eq,List.all_eq_true] at h
 exact ⟨h.1.2.1,h.1.2.2,h.1.1,h.2⟩
def storyTableV (people:Int) (l:List Claim):Int:=if storyOk people l=true then (storyTab people.toNat l:Int) else -1
theorem storyTable_v (people:Int) (l:List Claim) (hl:l.length≤1048576):FnZ Tryz.prog 108 [.int .i64 people,storyV l] (.int .i64 (storyTableV people l)):=by
 have hok:=storyOk_fn people l (by omega)
 have hk:=ft (storyOk people l)
 rcases hk with hk | hk
 ·have e:storyTableV people l = -1:=if_neg (by simp [hk])
  rw [e]
  refine FZ (rs:=[.tmp 4]) false Tryz.func108 ?_
  simp -dsimp
  refine cl hok ?_
  simp -dsimp [hk]
 ·have e:storyTableV people l=(storyTab people.toNat l:Int):=if_pos hk
  rw [e]
  obtain ⟨h1,h4,hc,h6⟩:=allOk_of hk
  obtain ⟨p,rfl⟩:=Int.eq_ofNat_of_zero_le (show 0≤people by omega)
  have ht:=storyTable_fn p l (by omega) (by omega) hl hc
  refine FZ (rs:=[.tmp 4]) false Tryz.func108 ?_
  simp -dsimp
  refine cl hok ?_
  simp -dsimp [hk]
  refine cl ht ?_
  simp -dsimp
theorem cloneClaims_own (l:List Claim) (hl:l.length≤1048576) (m:Mem) (n:Nat):FnS Tryz.prog 104 m n [.v (storyV l)] (fun t m' n'=>n≤n'∧(∀ j,j<n→m' j=m j)∧IsRow m' n n' 63 t (l.map Claim.v)):=by
 have b1:l.length * 32≤140737488355328:=by omega
 refine FS (rs:=[.tmp 2]) false Tryz.func104 ?_
 simp -dsimp [b1]
 refine ⟨⟨by omega,fun j hj=>by simp [show ¬j=n+1 by omega,show ¬j=n by omega],.inr ⟨n+1,rfl,by omega,by omega,by simp⟩⟩,fun h=>.inl ⟨rfl,by simp [h]⟩⟩
theorem without_fn (l:List Claim) (k:Nat) (hk:k<l.length) (hl:l.length≤1048576):FnZ Tryz.prog 48 [storyV l,.int .i64 k] (storyV (l.eraseIdx k)):=by
 have e:l.eraseIdx k=l.take k++l.drop (k+1):=List.eraseIdx_eq_take_drop_succ ..
 have h1:(k:Int)≤l.length:=by omega
 have h2:k≤l.length:=by omega
 have h3:k+1≤l.length:=by omega
 have h4:(k:Int)+1≤l.length:=by omega
 have w1:IntKind.wrap .i64 ((k:Int)+1)=(k:Int)+1:=w64 (by omega) (by omega)
 have b3:k * 32≤140737488355328:=by omega
 have b4:(k+(l.length-(k+1))) * 32≤140737488355328:=by omega
 have b2:(min k l.length+(l.length-(k+1))) * 32≤140737488355328:=by omega
 have h5:((k:Int)+1).toNat=k+1:=by omega
 have h6:(0:Int)≤(k:Int)+1:=by omega
 have z2:allZ 2 (List.drop (k+1) (List.map Claim.v l)):=by rw [← List.map_drop]; exact allZ_claims _
 have tk:List.take l.length (List.map Claim.v l)=List.map Claim.v l:=List.take_of_length_le (by simp)
 have hcl:=fun m n=>cloneClaims_own (l.take k) (by simp; omega) m n
 rw [e]
 refine FZ (rs:=[.tmp 4]) false Tryz.func48 ?_
 simp -dsimp
 refine twd [0,1,2,4,5,6,7,3,8,9] [] (List.replicate 10 []) (List.replicate 10 []) ?_
 simp -dsimp [h1,h2,h3,h4,h5,h6,w1,b2,b3,b4,z2,tk,nes]
 refine callL_ (vs:=[storyV (l.take k)]) (hcl _ _) (by simp -dsimp) ?_
 rintro t m1 n1 ⟨hn1,hout,hrow⟩
 rcases hrow with ⟨rfl,hz⟩ | ⟨id,rfl,hi0,hi1,him⟩
 ·have hz':l.take k=[]:=by simpa using hz
  have b5:(l.length-(k+1)) * 32≤140737488355328:=by omega
  simp -dsimp [h1,h2,h3,h4,h5,h6,w1,b2,b3,b4,b5,z2,tk,nes,hz']
 ·have f1:=far hi1
  simp -dsimp [h1,h2,h3,h4,h5,h6,w1,b2,b3,b4,z2,tk,nes,him,f1]
def Ils5 (p:Nat) (R:List Claim) (e:Nat) (s:S):Prop:=∃ (i:Nat) (l:List Claim),s.tm 0=.v (.int .i64 p)∧s.tm 6=.v (.sl (l.map Claim.v))∧s.tm 7=.v (.int .i64 i)∧i≤l.length∧l.length≤6∧(∀ c ∈ l,claimOk p c=true)∧leastGo p (l.length-i) i l=R∧(e=1→i=l.length)
theorem leastStory_fn (people:Int) (l:List Claim) (h:storyOk people l=true):FnZ Tryz.prog 49 [.int .i64 people,storyV l] (.tup [storyV (least people.toNat l),.bool true]):=by
 obtain ⟨h1,h4,hc,h6⟩:=allOk_of h
 obtain ⟨p,rfl⟩:=Int.eq_ofNat_of_zero_le (show 0≤people by omega)
 rw [Int.toNat_natCast]
 have hok:=storyOk_fn p l (by omega)
 have hsub:=least_sub p l
 have hcp:=copyStory_fn l (by omega) fun c hx=>(claim_fine (hc c hx)).2.2.1
 have hcp2:=copyStory_fn (least p l) (by have:=hsub.length_le; omega) fun c hx=>(claim_fine (hc c (hsub.subset hx))).2.2.1
 have hR:leastGo p (l.length-0) 0 l=least p l:=rfl
 generalize least p l=R at *
 refine FZ (rs:=[.tmp 4,.tmp 5]) false Tryz.func49 ?_
 simp -dsimp
 refine cl hok ?_
 simp -dsimp [h]
 refine cl hcp ?_
 simp -dsimp
 refine twp_loopC (Ils5 p R 0) (fun s=>(match s.tm 6 with | .v (.sl xs)=>xs.length | _=>0)-natOf (s.tm 7)) (Ils5 p R 1) ?_ ?_ ?_
 ·exact ⟨0,l,by simp -dsimp,by simp -dsimp,by simp -dsimp,by omega,h6,hc,hR,by simp⟩
 ·rintro s ⟨i,k,t0,t6,t7,hi,hk6,hkc,hgo,hend⟩
  by_cases hlt:i<k.length
  case neg =>
   simp -dsimp [t6,t7,hlt]
   exact ⟨i,k,by simp -dsimp [t0],by simp -dsimp [t6],by simp -dsimp [t7],hi,hk6,hkc,hgo,fun _=>by omega⟩
  have hw:=without_fn k i hlt (by omega)
  have hel:(k.eraseIdx i).length=k.length-1:=by rw [List.length_eraseIdx]; simp [hlt]
  have hec:∀ c ∈ k.eraseIdx i,claimOk p c=true:=fun c hx=>hkc c ((List.eraseIdx_sublist _ _).subset hx)
  have hs1:=storyTable_fn p (k.eraseIdx i) (by omega) (by omega) (by omega) hec
  have hs2:=storyTable_fn p k (by omega) (by omega) (by omega) hkc
  have wi:IntKind.wrap .i64 ((i:Int)+1)=((i+1:Nat):Int):=by rw [w64 (by omega) (by omega)]; omega
  have hmu1:k.length-(i+1)<k.length-i:=by omega
  have hmu2:k.length-1-i<k.length-i:=by omega
  simp -dsimp [t0,t6,t7,hlt]
  refine cl hw ?_
  simp -dsimp [t0,t6,t7]
  refine cl hs1 ?_
  simp -dsimp [t0,t6,t7]
  refine cl hs2 ?_
  by_cases hq:storyTab p (k.eraseIdx i)=storyTab p k
  ·have hgo2:=leastGo_out hlt hq
   rw [hgo2] at hgo
   have hq':(storyTab p (k.eraseIdx i):Int)=storyTab p k:=by rw [hq]
   simp -dsimp [t0,t6,t7,hq,hq',hel,hmu2]
   exact ⟨i,k.eraseIdx i,by simp -dsimp [t0],by simp -dsimp,by simp -dsimp [t7],by omega,by omega,hec,hgo,by simp⟩
  ·have hgo2:=leastGo_keep hlt hq
   rw [hgo2] at hgo
   have hq':¬(storyTab p (k.eraseIdx i):Int)=storyTab p k:=by omega
   simp -dsimp [t0,t6,t7,hq,hq',wi,hmu1]
   exact ⟨i+1,k,by simp -dsimp [t0],by simp -dsimp [t6],by simp -dsimp,by omega,hk6,hkc,hgo,by simp⟩
 ·rintro s ⟨i,k,t0,t6,t7,hi,hk6,hkc,hgo,hend⟩
  have:=hend rfl
  subst this
  rw [leastGo_end rfl (by omega)] at hgo
  subst hgo
  simp -dsimp [t6]
  refine cl hcp2 ?_
  simp -dsimp
end TL

namespace TL
open Go Go.Proofs
attribute [local simp] marksV storyV codeV Claim.v Place.v
theorem l4May_fn (people:Int) (c:Claim) (h:claimOk people c=true) (w:Nat) (hw:w<16):FnZ Tryz.prog 171 [c.v,.int .i64 w] (.bool (mayB c w)):=by
 obtain ⟨hp1,hp4,h0,h1,ht,hl,hr⟩:=claim_facts h
 obtain ⟨T,hT,eT⟩:=termOk_tree ht
 have hh:=l3Holds_fn w hw T hT (by rw [eT]; omega)
 have etr:=truth_tm w hT
 rw [eT] at hh etr
 rw [← etr] at hh
 obtain ⟨who,says⟩:=c
 simp only at h0 h1 hl hr hh
 obtain ⟨k,rfl⟩:=Int.eq_ofNat_of_zero_le h0
 have hb:=bit2 w k (by omega)
 have z1:¬(k:Int)<0:=by omega
 have e:mayB ⟨(k:Int),says⟩ w=(truth says w == w.testBit k):=rfl
 rw [e]
 clear etr
 generalize truth says w=tr at *
 have c0:=ft (w.testBit k)
 refine FZ (rs:=[.tmp 4]) false Tryz.func171 ?_
 simp -dsimp
 refine twd [0,1,2,3,4,5,6,7,8,9,10,11] [0] (List.replicate 12 [0]) (List.replicate 12 [0]) ?_
 rcases c0 with c0 | c0
 ·rw [c0] at hb ⊢
  simp -dsimp [z1,hb]
  refine cl hh ?_
  cases tr <;> simp -dsimp [z1,hb]
 ·rw [c0] at hb ⊢
  simp -dsimp [z1,hb]
  refine cl hh ?_
  cases tr <;> simp -dsimp [z1,hb]
def Il4 (N:Nat) (p:Nat) (c:Claim) (e:Nat) (s:S):Prop:=∃ w:Nat,s.tm 0=.v (.int .i64 p)∧s.tm 3=.ptr 0 0∧s.m 0=some (.box 63 2 [.v (.int .i64 c.who),.v (marksV c.says)])∧s.tm 6=.v (.int .i64 w)∧s.tm 5=.v (.int .i64 (tabN w (mayB c)))∧w≤N∧(e=1→w=N)
theorem shl_pow {p:Nat} (h:p≤16):IntKind.wrap .i64 (2 ^ min p IntKind.i64.bits)=((2 ^ p:Nat):Int)∧(2:Nat) ^ p<4611686018427387904:=by
 have hp:2 ^ p≤2 ^ 16:=Nat.pow_le_pow_right (by omega) h
 have h2:(2:Nat) ^ p<4611686018427387904:=by omega
 refine ⟨?_,h2⟩
 rw [Nat.min_eq_left (by simp [IntKind.bits]; omega),w64]
 ·simp
 ·have:(0:Int)≤2 ^ p:=Int.pow_nonneg (by omega)
  omega
 ·have:((2 ^ p:Nat):Int)=(2:Int) ^ p:=by simp
  omega
theorem l4Table_fn (people:Int) (c:Claim) (h:claimOk people c=true):FnZ Tryz.prog 124 [.int .i64 people,c.v] (.int .i64 (claimTab people.toNat c)):=by
 obtain ⟨hp1,hp4,h0,h1,ht,hl,hr⟩:=claim_facts h
 obtain ⟨p,rfl⟩:=Int.eq_ofNat_of_zero_le (show 0≤people by omega)
 have e:claimTab (p:Int).toNat c=tabN (2 ^ p) (mayB c):=rfl
 rw [e]
 have hN:=pow_small (p:=p) (by omega)
 have ws:=(shl_pow (p:=p) (by omega)).1
 have hm:∀ w:Nat,w<2 ^ p→FnZ Tryz.prog 171 [c.v,.int .i64 w] (.bool (mayB c w)):=fun w hw=>l4May_fn p c h w (by omega)
 generalize hNN:2 ^ p=N at *
 have hp0:¬(p:Int)<0:=by omega
 refine FZ (rs:=[.tmp 4]) false Tryz.func124 ?_
 simp -dsimp
 refine twp_loopC (Il4 N p c 0) (fun s=>N-natOf (s.tm 6)) (Il4 N p c 1) ?_ ?_ ?_
 ·exact ⟨0,by simp -dsimp,by simp -dsimp,by simp -dsimp,by simp -dsimp,by simp -dsimp [tabN],by omega,by simp⟩
 ·rintro s ⟨w,t0,t3,m0,t6,t5,hw,hend⟩
  by_cases hlt:w<N
  case neg =>
   simp -dsimp [t0,t6,hp0,ws,hlt]
   exact ⟨w,by simp -dsimp [t0],by simp -dsimp [t3],by simp -dsimp [m0],by simp -dsimp [t6],by simp -dsimp [t5],hw,fun _=>by omega⟩
  have wi:IntKind.wrap .i64 ((w:Int)+1)=((w+1:Nat):Int):=by rw [w64 (by omega) (by omega)]; omega
  have hmu:N-(w+1)<N-w:=by omega
  have hb:=tabN_lt (mayB c) w
  have h2:=(shl_pow (p:=w) (by omega)).2
  have wsh:=(shl_pow (p:=w) (by omega)).1
  have hp:2 ^ w≤2 ^ 16:=Nat.pow_le_pow_right (by omega) (by omega)
  have hor:=or_ni (a:=tabN w (mayB c)) (b:=2 ^ w) (x:=(2:Int) ^ w) (by simp) (by omega) h2
  have hgw:=ft (mayB c w)
  have hz:¬(w:Int)<0:=by omega
  simp -dsimp [t0,t3,m0,t6,hp0,ws,hlt]
  refine cl (hm w hlt) ?_
  rcases hgw with hgw | hgw
  ·have ht:tabN (w+1) (mayB c)=tabN w (mayB c):=by simp [tabN,hgw]
   simp -dsimp [hgw,t5,t6,wi,hmu]
   exact ⟨w+1,by simp -dsimp [t0],by simp -dsimp [t3],by simp -dsimp [m0],by simp -dsimp,by simp -dsimp [t5,ht],by omega,by simp⟩
  ·have ht:tabN (w+1) (mayB c)=tabN w (mayB c) ||| 2 ^ w:=by simp [tabN,hgw]
   simp -dsimp [hgw,t5,t6,wi,hmu,wsh,hor,hz]
   exact ⟨w+1,by simp -dsimp [t0],by simp -dsimp [t3],by simp -dsimp [m0],by simp -dsimp,by simp -dsimp [ht],by omega,by simp⟩
 ·rintro s ⟨w,t0,t3,m0,t6,t5,hw,hend⟩
  have:=hend rfl
  subst this
  simp -dsimp [t5]
def Is4 (p:Nat) (l:List Claim) (e:Nat) (s:S):Prop:=∃ i:Nat,s.tm 0=.v (.int .i64 p)∧s.tm 1=.v (.sl (l.map Claim.v))∧s.tm 5=.v (.int .i64 (storyTab p (l.take i)))∧s.tm 6=.v (.int .i64 i)∧i≤l.length∧(e=1→i=l.length)
theorem l4Story_fn (p:Nat) (l:List Claim) (hp1:1≤p) (hp4:p≤4) (hl:l.length≤1048576) (h:∀ c ∈ l,claimOk p c=true):FnZ Tryz.prog 72 [.int .i64 p,storyV l] (.int .i64 (storyTab p l)):=by
 obtain ⟨hf1,hf2⟩:=full_table hp1 hp4
 have hp0:¬(p:Int)<0:=by omega
 refine FZ (rs:=[.tmp 4]) false Tryz.func72 ?_
 have hsh:¬IntKind.wrap .u64 (2 ^ min p IntKind.u64.bits)<0:=by
  have:p=1∨p=2∨p=3∨p=4:=by omega
  rcases this with rfl | rfl | rfl | rfl <;> decide
 simp -dsimp [hp0,hsh,hf2]
 refine twp_loopC (Is4 p l 0) (fun s=>l.length-natOf (s.tm 6)) (Is4 p l 1) ?_ ?_ ?_
 ·exact ⟨0,by simp -dsimp,by simp -dsimp,by simp -dsimp [storyTab],by simp -dsimp,by omega,by simp⟩
 ·rintro s ⟨i,t0,t1,t5,t6,hi,hend⟩
  by_cases hlt:i<l.length
  case neg =>
   simp -dsimp [t1,t6,hlt]
   exact ⟨i,by simp -dsimp [t0],by simp -dsimp [t1],by simp -dsimp [t5],by simp -dsimp [t6],hi,fun _=>by omega⟩
  have hget:(l.map Claim.v)[i]? = some (l[i].v):=by simp [hlt]
  have wi:IntKind.wrap .i64 ((i:Int)+1)=((i+1:Nat):Int):=by rw [w64 (by omega) (by omega)]; omega
  have hmu1:l.length-(i+1)<l.length-i:=by omega
  have hct:=l4Table_fn p l[i] (h _ (List.getElem_mem _))
  rw [Int.toNat_natCast] at hct
  have ha:=storyTab_small hp4 (l.take i)
  have hb:claimTab p l[i]<65536:=table_small hp4 (tabN_lt _ _)
  have hs:=storyTab_succ (p:=p) hlt
  have hand:=and_nn (a:=storyTab p (l.take i)) (b:=claimTab p l[i]) (by omega) (by omega)
  generalize claimTab p l[i]=b at *
  generalize storyTab p (l.take i)=a at *
  simp -dsimp [t0,t1,t5,t6,hlt,hget]
  refine cl hct ?_
  simp -dsimp [t0,t1,t5,t6,hand,wi,hmu1]
  exact ⟨i+1,by simp -dsimp [t0],by simp -dsimp [t1],by simp -dsimp [hs],by simp -dsimp,by omega,by simp⟩
 ·rintro s ⟨i,t0,t1,t5,t6,hi,hend⟩
  have:=hend rfl
  subst this
  rw [List.take_length] at t5
  simp -dsimp [t5]
def IlsA (p:Nat) (l:List Claim) (e:Nat) (s:S):Prop:=∃ i id:Nat,s.tm 0=.v (.int .i64 p)∧s.tm 1=.v (.sl (l.map Claim.v))∧s.tm 6=.loc id∧id<s.n∧s.m id=some (.arr 63 ((l.take i).map Claim.v))∧s.tm 7=.v (.int .i64 i)∧s.mu=false∧i≤l.length∧(e=1→i=l.length)
def IlsB (p:Nat) (R:List Claim) (e:Nat) (s:S):Prop:=∃ (i:Nat) (l:List Claim),s.tm 0=.v (.int .i64 p)∧(s.tm 6=.v (.sl (l.map Claim.v))∨∃ id,s.tm 6=.loc id∧s.m id=some (.arr 63 (l.map Claim.v)))∧s.tm 8=.v (.int .i64 i)∧i≤l.length∧l.length≤6∧(∀ c ∈ l,claimOk p c=true)∧leastGo p (l.length-i) i l=R∧(e=1→i=l.length)
theorem leastStoryS_fn (people:Int) (l:List Claim) (h:storyOk people l=true):FnZ Tryz.prog 123 [.int .i64 people,storyV l] (.tup [storyV (least people.toNat l),.bool true]):=by
 obtain ⟨h1,h4,hc,h6⟩:=allOk_of h
 obtain ⟨p,rfl⟩:=Int.eq_ofNat_of_zero_le (show 0≤people by omega)
 rw [Int.toNat_natCast]
 have hok:=storyOkS_fn p l (by omega) fun c hx=>(claim_fine (hc c hx)).1
 have hR:leastGo p (l.length-0) 0 l=least p l:=rfl
 generalize least p l=R at *
 refine FZ (rs:=[.tmp 4,.tmp 5]) false Tryz.func123 ?_
 simp -dsimp
 refine cl hok ?_
 simp -dsimp [h]
 refine twp_loopC (IlsA p l 0) (fun s=>l.length-natOf (s.tm 7)) (IlsA p l 1) ?_ ?_ ?_
 ·exact ⟨0,0,by simp -dsimp,by simp -dsimp,by simp -dsimp,by simp -dsimp,by simp -dsimp,by simp -dsimp,by simp -dsimp,by omega,by simp⟩
 ·rintro s ⟨i,id,t0,t1,t6,hid,hm,t7,hmu,hi,hend⟩
  by_cases hlt:i<l.length
  case neg =>
   simp -dsimp [t1,t7,hlt]
   exact ⟨i,id,by simp -dsimp [t0],by simp -dsimp [t1],by simp -dsimp [t6],by simp -dsimp; omega,by simp -dsimp [hm],by simp -dsimp [t7],by simp -dsimp [hmu],hi,fun _=>by omega⟩
  have hget:(l.map Claim.v)[i]? = some (l[i].v):=by simp [hlt]
  have wi:IntKind.wrap .i64 ((i:Int)+1)=((i+1:Nat):Int):=by rw [w64 (by omega) (by omega)]; omega
  have hmu1:l.length-(i+1)<l.length-i:=by omega
  have f1:=far hid
  have hsm:=(claim_fine (hc l[i] (List.getElem_mem _))).2.2.2
  have b0:l[i].says.length * 16≤140737488355328:=by omega
  have b1:(min i l.length+1) * 32≤140737488355328:=by omega
  have htk:(l.take (i+1)).map Claim.v=(l.take i).map Claim.v++[l[i].v]:=by rw [List.take_succ_eq_append_getElem hlt,List.map_append]; rfl
  simp -dsimp [t1,t7,hlt]
  refine twd [0,1,2,3,4,5,7,8,9,10,11,6,12,13,14,15,16] [] (List.replicate 17 []) (List.replicate 17 []) ?_
  simp -dsimp [t1,t6,t7,hlt,hget,hmu,f1,hm,b0,b1,nes,wi,hmu1]
  refine st_out fun s' ht hm' hn' hu' => ?_
  have q0:=ht 0
  have q1:=ht 1
  have q6:=ht 6
  have q7:=ht 7
  simp -dsimp [t0,t1] at q0 q1 q6 q7 hm' hn' hu'
  clear ht
  refine ⟨i+1,_,q0,q1,q6,by omega, ?_,q7,by rw [hu',hmu],by omega,by simp⟩
  rw [htk]; simp [hm',nes,f1]
 ·rintro s ⟨i,id,t0,t1,t6,hid,hm,t7,hmu,hi,hend⟩
  have:=hend rfl
  subst this
  rw [List.take_length] at hm
  simp -dsimp
  refine twp_loopC (IlsB p R 0) (fun s=>(match s.tm 6 with | .v (.sl xs)=>xs.length | .loc _=>7 | _=>0)-natOf (s.tm 8)) (IlsB p R 1) ?_ ?_ ?_
  ·exact ⟨0,l,by simp -dsimp [t0],.inr ⟨id,by simp -dsimp [t6],by simp -dsimp [hm]⟩,by simp -dsimp,by omega,h6,hc,hR,by simp⟩
  ·rintro s ⟨i,k,t0,t6,t8,hi,hk6,hkc,hgo,hend⟩
   by_cases hlt:i<k.length
   case neg =>
    rcases t6 with t6 | ⟨id,t6,hm⟩
    ·simp -dsimp [t6,t8,hlt]
     exact ⟨i,k,by simp -dsimp [t0],.inl (by simp -dsimp [t6]),by simp -dsimp [t8],hi,hk6,hkc,hgo,fun _=>by omega⟩
    ·simp -dsimp [t6,t8,hlt,hm]
     exact ⟨i,k,by simp -dsimp [t0],.inr ⟨id,by simp -dsimp [t6],by simp -dsimp [hm]⟩,by simp -dsimp [t8],hi,hk6,hkc,hgo,fun _=>by omega⟩
   have hw:=l5Without_fn k i hlt (by omega)
   have hel:(k.eraseIdx i).length=k.length-1:=by rw [List.length_eraseIdx]; simp [hlt]
   have hec:∀ c ∈ k.eraseIdx i,claimOk p c=true:=fun c hx=>hkc c ((List.eraseIdx_sublist _ _).subset hx)
   have hs1:=l4Story_fn p (k.eraseIdx i) (by omega) (by omega) (by omega) hec
   have hs2:=l4Story_fn p k (by omega) (by omega) (by omega) hkc
   have wi:IntKind.wrap .i64 ((i:Int)+1)=((i+1:Nat):Int):=by rw [w64 (by omega) (by omega)]; omega
   have hmu1:k.length-(i+1)<k.length-i:=by omega
   have hmu2:k.length-1-i<k.length-i:=by omega
   have hmu3:k.length-1-i<7-i:=by omega
   have hmu4:6-i<7-i:=by omega
   by_cases hq:storyTab p (k.eraseIdx i)=storyTab p k
   ·have hgo2:=leastGo_out hlt hq
    rw [hgo2] at hgo
    have hq':(storyTab p (k.eraseIdx i):Int)=storyTab p k:=by rw [hq]
    rcases t6 with t6 | ⟨id,t6,hm⟩
    ·simp -dsimp [t0,t6,t8,hlt]
     refine cl hw ?_
     simp -dsimp [t0,t6,t8]
     refine cl hs1 ?_
     simp -dsimp [t0,t6,t8]
     refine cl hs2 ?_
     simp -dsimp [t0,t6,t8,hq,hq',hel,hmu2]
     exact ⟨i,k.eraseIdx i,by simp -dsimp [t0],.inl (by simp -dsimp),by simp -dsimp [t8],by omega,by omega,hec,hgo,by simp⟩
    ·simp -dsimp [t0,t6,t8,hlt,hm]
     refine call_ hw (by simp -dsimp [hm]) ?_
     simp -dsimp [t0,t6,t8]
     refine cl hs1 ?_
     simp -dsimp [t0,t6,t8]
     refine call_ hs2 (by simp -dsimp [hm]) ?_
     simp -dsimp [t0,t6,t8,hq,hq',hel,hmu3]
     exact ⟨i,k.eraseIdx i,by simp -dsimp [t0],.inl (by simp -dsimp),by simp -dsimp [t8],by omega,by omega,hec,hgo,by simp⟩
   ·have hgo2:=leastGo_keep hlt hq
    rw [hgo2] at hgo
    have hq':¬(storyTab p (k.eraseIdx i):Int)=storyTab p k:=by omega
    rcases t6 with t6 | ⟨id,t6,hm⟩
    ·simp -dsimp [t0,t6,t8,hlt]
     refine cl hw ?_
     simp -dsimp [t0,t6,t8]
     refine cl hs1 ?_
     simp -dsimp [t0,t6,t8]
     refine cl hs2 ?_
     simp -dsimp [t0,t6,t8,hq,hq',wi,hmu1]
     exact ⟨i+1,k,by simp -dsimp [t0],.inl (by simp -dsimp [t6]),by simp -dsimp,by omega,hk6,hkc,hgo,by simp⟩
    ·simp -dsimp [t0,t6,t8,hlt,hm]
     refine call_ hw (by simp -dsimp [hm]) ?_
     simp -dsimp [t0,t6,t8]
     refine cl hs1 ?_
     simp -dsimp [t0,t6,t8]
     refine call_ hs2 (by simp -dsimp [hm]) ?_
     simp -dsimp [t0,t6,t8,hq,hq',wi,hmu4]
     exact ⟨i+1,k,by simp -dsimp [t0],.inr ⟨id,by simp -dsimp [t6],by simp -dsimp [hm]⟩,by simp -dsimp,by omega,hk6,hkc,hgo,by simp⟩
  ·rintro s ⟨i,k,t0,t6,t8,hi,hk6,hkc,hgo,hend⟩
   have:=hend rfl
   subst this
   rw [leastGo_end rfl (by omega)] at hgo
   subst hgo
   rcases t6 with t6 | ⟨id,t6,hm⟩
   ·simp -dsimp [t6]
   ·simp -dsimp [t6,hm]
end TL

namespace TL
open Go Go.Proofs
/-- A table of worlds of p people. -/
def InT (p T:Nat):Prop:=T<2 ^ 2 ^ p
theorem InT.bit {p T w:Nat} (h:InT p T) (hw:T.testBit w=true):w<2 ^ p:=by
 rcases Nat.lt_or_ge w (2 ^ p) with h1 | h1
 ·exact h1
 ·have:T.testBit w=false:=Nat.testBit_lt_two_pow (Nat.lt_of_lt_of_le h (Nat.pow_le_pow_right (by omega) h1))
  rw [this] at hw; cases hw
/-- The person tells the truth in all worlds of a table. -/
def tells (p T k:Nat):Bool:=(List.range (2 ^ p)).all fun w => !T.testBit w || w.testBit k
def doneT (p T:Nat):Bool:=decide (T=0) || (List.range p).any (tells p T)
theorem doneT_iff {p T:Nat} : doneT p T=true↔T=0∨∃ k,k<p∧tells p T k=true:=by
 simp [doneT]
def askY (p T i j:Nat):Nat:=T &&& askMask p i j true
def askN (p T i j:Nat):Nat:=T &&& askMask p i j false
theorem bit_askY {p T i j w:Nat} (h:InT p T):(askY p T i j).testBit w=(T.testBit w && (w.testBit i == w.testBit j)):=by
 unfold askY askMask
 rw [Nat.testBit_and,testBit_tabN]
 cases hw:T.testBit w
 ·simp
 ·simp [h.bit hw,sameKind]
theorem bit_askN {p T i j w:Nat} (h:InT p T):(askN p T i j).testBit w=(T.testBit w && !(w.testBit i == w.testBit j)):=by
 unfold askN askMask
 rw [Nat.testBit_and,testBit_tabN]
 cases hw:T.testBit w
 ·simp
 ·simp [h.bit hw,sameKind]
theorem InT.askY {p T i j:Nat} (h:InT p T):InT p (askY p T i j):=Nat.lt_of_le_of_lt Nat.and_le_left h
theorem InT.askN {p T i j:Nat} (h:InT p T):InT p (askN p T i j):=Nat.lt_of_le_of_lt Nat.and_le_left h
theorem askY_comm {p T i j:Nat} (h:InT p T):askY p T i j=askY p T j i:=by
 apply Nat.eq_of_testBit_eq; intro w
 rw [bit_askY h,bit_askY h]
 cases T.testBit w <;> cases w.testBit i <;> cases w.testBit j <;> rfl
theorem askN_comm {p T i j:Nat} (h:InT p T):askN p T i j=askN p T j i:=by
 apply Nat.eq_of_testBit_eq; intro w
 rw [bit_askN h,bit_askN h]
 cases T.testBit w <;> cases w.testBit i <;> cases w.testBit j <;> rfl
theorem ne_zero_iff {T:Nat} : T ≠ 0↔∃ w,T.testBit w=true:=by
 constructor
 ·intro h
  refine Classical.byContradiction fun hn=>h (Nat.eq_of_testBit_eq fun w => ?_)
  rw [Nat.zero_testBit]
  cases hw:T.testBit w
  ·rfl
  ·exact absurd ⟨w,hw⟩ hn
 ·rintro ⟨w,hw⟩ rfl
  rw [Nat.zero_testBit] at hw; cases hw
def splits (p T i j:Nat):Bool:=decide (askY p T i j ≠ 0) && decide (askN p T i j ≠ 0)
theorem splits_iff {p T i j:Nat} : splits p T i j=true↔askY p T i j ≠ 0∧askN p T i j ≠ 0:=by simp [splits]
/-- With so many questions it is enough. -/
def sol (p:Nat):Nat→Nat→Bool
 | 0,T=>doneT p T
 | d+1,T=>doneT p T || (List.range p).any fun i=>(List.range i).any fun j=>splits p T i j && sol p d (askY p T i j) && sol p d (askN p T i j)
theorem sol_succ {p d T:Nat} : sol p (d+1) T=true↔doneT p T=true∨∃ i j,i<p∧j<i∧splits p T i j=true∧sol p d (askY p T i j)=true∧sol p d (askN p T i j)=true:=by
 simp only [sol,Bool.or_eq_true,List.any_eq_true,List.mem_range,Bool.and_eq_true]
 constructor
 ·rintro (h | ⟨i,hi,j,hj,⟨h1,h2⟩,h3⟩)
  ·exact .inl h
  ·exact .inr ⟨i,j,hi,hj,h1,h2,h3⟩
 ·rintro (h | ⟨i,j,hi,hj,h1,h2,h3⟩)
  ·exact .inl h
  ·exact .inr ⟨i,hi,j,hj,⟨h1,h2⟩,h3⟩
theorem sol_done {p T:Nat} (h:doneT p T=true):∀ d,sol p d T=true
 | 0=>h
 | d+1=>sol_succ.2 (.inl h)
theorem sol_mono1 {p:Nat} : ∀ d T,sol p d T=true→sol p (d+1) T=true
 | 0,T,h=>sol_done h 1
 | d+1,T,h=>by
  rcases sol_succ.1 h with h | ⟨i,j,hi,hj,h1,h2,h3⟩
  ·exact sol_done h _
  ·exact sol_succ.2 (.inr ⟨i,j,hi,hj,h1,sol_mono1 d _ h2,sol_mono1 d _ h3⟩)
theorem sol_mono {p d e T:Nat} (h:d≤e) (hs:sol p d T=true):sol p e T=true:=by
 obtain ⟨k,rfl⟩:=Nat.exists_eq_add_of_le h
 induction k with
 | zero=>exact hs
 | succ k ih=>exact sol_mono1 _ _ (ih (by omega))
/-! The least number, at most m. -/
def lv (p m T:Nat):Int:=match (List.range (m+1)).find? fun d=>sol p d T with
 | some d=>(d:Int)
 | none => -1
def IsLv (p m T:Nat) (v:Int):Prop:=(v = -1∧∀ d,d≤m→sol p d T=false)∨∃ d:Nat,d≤m∧v=d∧sol p d T=true∧∀ e,e<d→sol p e T=false
theorem find_range {f:Nat→Bool} : ∀ n,(∃ d,(List.range n).find? f=some d∧d<n∧f d=true∧∀ e,e<d→f e=false)∨((List.range n).find? f=none∧∀ e,e<n→f e=false)
 | 0=>.inr ⟨rfl,fun e h=>absurd h (by omega)⟩
 | n+1=>by
  rw [List.range_succ,List.find?_append]
  rcases find_range (f:=f) n with ⟨d,h1,h2,h3,h4⟩ | ⟨h1,h2⟩
  ·exact .inl ⟨d,by rw [h1]; rfl,by omega,h3,h4⟩
  ·rw [h1]
   cases hf:f n
   ·refine .inr ⟨by simp [hf],fun e he => ?_⟩
    rcases Nat.lt_or_ge e n with h | h
    ·exact h2 e h
    ·have:e=n:=by omega
     rw [this]; exact hf
   ·exact .inl ⟨n,by simp [hf],by omega,hf,h2⟩
theorem lv_is (p m T:Nat):IsLv p m T (lv p m T):=by
 unfold lv
 rcases find_range (f:=fun d=>sol p d T) (m+1) with ⟨d,h1,h2,h3,h4⟩ | ⟨h1,h2⟩
 ·rw [h1]; exact .inr ⟨d,by omega,rfl,h3,h4⟩
 ·rw [h1]; exact .inl ⟨rfl,fun d hd=>h2 d (by omega)⟩
theorem IsLv.uniq {p m T:Nat} {v u:Int} (h:IsLv p m T v) (g:IsLv p m T u):v=u:=by
 rcases h with ⟨h1,h2⟩ | ⟨d,h1,h2,h3,h4⟩ <;> rcases g with ⟨g1,g2⟩ | ⟨e,g1,g2,g3,g4⟩
 ·rw [h1,g1]
 ·rw [h2 e g1] at g3; cases g3
 ·rw [g2 d h1] at h3; cases h3
 ·have:d=e:=by
   rcases Nat.lt_trichotomy d e with h | h | h
   ·rw [g4 d h] at h3; cases h3
   ·exact h
   ·rw [h4 e h] at g3; cases g3
  rw [h2,g2,this]
theorem lv_nonneg {p m T:Nat} (h:0≤lv p m T):∃ d:Nat,d≤m∧lv p m T=d∧sol p d T=true:=by
 rcases lv_is p m T with ⟨h1,_⟩ | ⟨d,h1,h2,h3,_⟩
 ·omega
 ·exact ⟨d,h1,h2,h3⟩
theorem lv_le {p m T d:Nat} (hd:d≤m) (h:sol p d T=true):0≤lv p m T∧lv p m T≤d:=by
 rcases lv_is p m T with ⟨h1,h2⟩ | ⟨e,h1,h2,h3,h4⟩
 ·rw [h2 d hd] at h; cases h
 ·rcases Nat.lt_or_ge d e with h5 | h5
  ·rw [h4 d h5] at h; cases h
  ·omega
/-! The loops' best number. -/
def stepB (best:Int):Option Int→Int
 | none=>best
 | some v=>if best<0∨v<best then v else best
def candB (p T:Nat) (g:Nat→Int) (i j:Nat):Option Int:=if splits p T i j=true∧0≤g (askY p T i j)∧0≤g (askN p T i j) then some (1+max (g (askY p T i j)) (g (askN p T i j))) else none
def InvB (p T:Nat) (g:Nat→Int) (S:Nat→Nat→Prop) (b:Int):Prop:=(b = -1∧∀ i j,S i j→candB p T g i j=none)∨(0≤b∧(∃ i j,S i j∧candB p T g i j=some b)∧∀ i j v,S i j→candB p T g i j=some v→b≤v)
theorem InvB.same {p T:Nat} {g:Nat→Int} {S S':Nat→Nat→Prop} {b:Int} (h:InvB p T g S b) (hs:∀ i j,S' i j↔S i j):InvB p T g S' b:=by
 have e:S'=S:=by funext i j; exact propext (hs i j)
 rw [e]; exact h
theorem cand_pos {p T:Nat} {g:Nat→Int} {i j:Nat} {v:Int} (h:candB p T g i j=some v):0≤v∧splits p T i j=true∧0≤g (askY p T i j)∧0≤g (askN p T i j)∧v=1+max (g (askY p T i j)) (g (askN p T i j)):=by
 unfold candB at h
 split at h
 ·rename_i hh; cases h; exact ⟨by omega,hh.1,hh.2.1,hh.2.2,rfl⟩
 ·cases h
theorem InvB.step {p T:Nat} {g:Nat→Int} {S S':Nat→Nat→Prop} {b:Int} {a c:Nat} (h:InvB p T g S b) (hs:∀ i j,S' i j↔S i j∨(i=a∧j=c)):InvB p T g S' (stepB b (candB p T g a c)):=by
 cases hc:candB p T g a c with
 | none =>
  simp only [stepB]
  rcases h with ⟨h1,h2⟩ | ⟨h1,⟨i,j,h2,h3⟩,h4⟩
  ·refine .inl ⟨h1,fun i j hij => ?_⟩
   rcases (hs i j).1 hij with h | ⟨rfl,rfl⟩
   ·exact h2 i j h
   ·exact hc
  ·refine .inr ⟨h1,⟨i,j,(hs i j).2 (.inl h2),h3⟩,fun x y v hxy hv => ?_⟩
   rcases (hs x y).1 hxy with h | ⟨rfl,rfl⟩
   ·exact h4 x y v h hv
   ·rw [hc] at hv; cases hv
 | some u =>
  have hu:=(cand_pos hc).1
  simp only [stepB]
  rcases h with ⟨h1,h2⟩ | ⟨h1,⟨i,j,h2,h3⟩,h4⟩
  ·rw [if_pos (.inl (by omega))]
   refine .inr ⟨hu,⟨a,c,(hs a c).2 (.inr ⟨rfl,rfl⟩),hc⟩,fun x y v hxy hv => ?_⟩
   rcases (hs x y).1 hxy with h | ⟨rfl,rfl⟩
   ·rw [h2 x y h] at hv; cases hv
   ·rw [hc] at hv; cases hv; omega
  ·by_cases hlt:u<b
   ·rw [if_pos (.inr hlt)]
    refine .inr ⟨hu,⟨a,c,(hs a c).2 (.inr ⟨rfl,rfl⟩),hc⟩,fun x y v hxy hv => ?_⟩
    rcases (hs x y).1 hxy with h | ⟨rfl,rfl⟩
    ·have:=h4 x y v h hv; omega
    ·rw [hc] at hv; cases hv; omega
   ·rw [if_neg (by omega)]
    refine .inr ⟨h1,⟨i,j,(hs i j).2 (.inl h2),h3⟩,fun x y v hxy hv => ?_⟩
    rcases (hs x y).1 hxy with h | ⟨rfl,rfl⟩
    ·exact h4 x y v h hv
    ·rw [hc] at hv; cases hv; omega
theorem cand_comm {p T:Nat} {g:Nat→Int} {i j:Nat} (h:InT p T):candB p T g i j=candB p T g j i:=by
 unfold candB splits
 rw [askY_comm h,askN_comm h]
/-- What the loops find is the least number. -/
theorem InvB.lv {p m T:Nat} {S:Nat→Nat→Prop} {b:Int} (hT:InT p T) (hd:doneT p T=false) (h:InvB p T (TL.lv p m) S b) (h1:∀ i j,S i j→i<p∧j<p∧i ≠ j) (h2:∀ i j,i<p→j<i→S i j∨S j i):IsLv p (m+1) T b:=by
 have hno:∀ i j,i<p→j<i→(∃ d,d≤m∧sol p d (askY p T i j)=true∧sol p d (askN p T i j)=true)→splits p T i j=true→∃ v,candB p T (TL.lv p m) i j=some v:=fun i j hi hj ⟨d,hdm,g1,g2⟩ g3=>by
  have q1:=lv_le hdm g1
  have q2:=lv_le hdm g2
  exact ⟨_,by unfold candB; rw [if_pos ⟨g3,q1.1,q2.1⟩]⟩
 rcases h with ⟨e1,e2⟩ | ⟨e1,⟨i,j,e2,e3⟩,e4⟩
 ·refine .inl ⟨e1,fun d hdm => ?_⟩
  cases hs:sol p d T
  ·rfl
  ·exfalso
   cases d with
   | zero=>rw [show sol p 0 T=doneT p T from rfl,hd] at hs; cases hs
   | succ d =>
    rcases sol_succ.1 hs with h | ⟨i,j,hi,hj,g1,g2,g3⟩
    ·rw [hd] at h; cases h
    ·obtain ⟨v,hv⟩:=hno i j hi hj ⟨d,by omega,g2,g3⟩ g1
     rcases h2 i j hi hj with h | h
     ·rw [e2 i j h] at hv; cases hv
     ·rw [cand_comm hT,e2 j i h] at hv; cases hv
 ·obtain ⟨_,s1,s2,s3,s4⟩:=cand_pos e3
  obtain ⟨d1,a1,a2,a3⟩:=lv_nonneg s2
  obtain ⟨d2,b1,b2,b3⟩:=lv_nonneg s3
  rw [a2,b2] at s4
  refine .inr ⟨max d1 d2+1,by omega,by omega, ?_,fun e he => ?_⟩
  ·obtain ⟨g1,g2,g3⟩:=h1 i j e2
   refine sol_succ.2 (.inr ?_)
   rcases Nat.lt_or_ge j i with hji | hji
   ·exact ⟨i,j,g1,hji,s1,sol_mono (by omega) a3,sol_mono (by omega) b3⟩
   ·have s1':splits p T j i=true:=by unfold splits at s1 ⊢; rw [askY_comm hT,askN_comm hT]; exact s1
    exact ⟨j,i,g2,by omega,s1',by rw [askY_comm hT]; exact sol_mono (by omega) a3,by rw [askN_comm hT]; exact sol_mono (by omega) b3⟩
  ·cases hs:sol p e T
   ·rfl
   ·exfalso
    cases e with
    | zero=>rw [show sol p 0 T=doneT p T from rfl,hd] at hs; cases hs
    | succ e =>
     rcases sol_succ.1 hs with h | ⟨x,y,hx,hy,g1,g2,g3⟩
     ·rw [hd] at h; cases h
     ·have q1:=lv_le (m:=m) (by omega) g2
      have q2:=lv_le (m:=m) (by omega) g3
      have hv:candB p T (TL.lv p m) x y=some (1+max (TL.lv p m (askY p T x y)) (TL.lv p m (askN p T x y))):=by unfold candB; rw [if_pos ⟨g1,q1.1,q2.1⟩]
      have:b≤1+max (TL.lv p m (askY p T x y)) (TL.lv p m (askN p T x y)):=by
       rcases h2 x y hx hy with h | h
       ·exact e4 x y _ h hv
       ·rw [cand_comm hT] at hv; exact e4 y x _ h hv
      omega
theorem lv_done {p m T:Nat} (h:doneT p T=true):lv p m T=0 :=
 IsLv.uniq (lv_is p m T) (.inr ⟨0,by omega,rfl,h,fun e he=>absurd he (by omega)⟩)
theorem lv_zero {p T:Nat} (h:doneT p T=false):lv p 0 T = -1:=by
 refine IsLv.uniq (lv_is p 0 T) (.inl ⟨rfl,fun d hd => ?_⟩)
 have:d=0:=by omega
 subst this
 exact h
end TL

namespace TL
open Go Go.Proofs
/-- Two people are always alike, or always not, in the worlds of a table. -/
def rel (T i j:Nat):Prop:=∃ c:Bool,∀ w,T.testBit w=true→(w.testBit i == w.testBit j)=c
theorem rel_refl (T i:Nat):rel T i i:=⟨true,fun w _=>by simp⟩
theorem rel_symm {T i j:Nat} (h:rel T i j):rel T j i:=by
 obtain ⟨c,h⟩:=h
 refine ⟨c,fun w hw => ?_⟩
 rw [← h w hw]
 cases w.testBit i <;> cases w.testBit j <;> rfl
theorem rel_trans {T i j k:Nat} (h:rel T i j) (g:rel T j k):rel T i k:=by
 obtain ⟨c,h⟩:=h
 obtain ⟨d,g⟩:=g
 refine ⟨c == d,fun w hw => ?_⟩
 rw [← h w hw,← g w hw]
 cases w.testBit i <;> cases w.testBit j <;> cases w.testBit k <;> rfl
theorem rel_sub {T U i j:Nat} (hs:∀ w,U.testBit w=true→T.testBit w=true) (h:rel T i j):rel U i j:=by
 obtain ⟨c,h⟩:=h
 exact ⟨c,fun w hw=>h w (hs w hw)⟩
/-- The first ones of their kind. -/
def isRep (T k:Nat):Prop:=∀ j,j<k→¬rel T j k
open Classical in
noncomputable def cls (p T:Nat):Nat:=(List.range p).countP fun k=>decide (isRep T k)
theorem count_lt {α:Type} {P Q:α→Bool} : ∀ (l:List α),(∀ x ∈ l,P x=true→Q x=true)→(∃ a ∈ l,Q a=true∧P a=false)→l.countP P<l.countP Q
 | [],_,⟨a,h,_⟩=>by cases h
 | x :: l,hi,⟨a,ha,hq,hp⟩=>by
  rw [List.countP_cons,List.countP_cons]
  rcases List.mem_cons.1 ha with rfl | ha
  ·rw [hq,hp]
   have:l.countP P≤l.countP Q:=List.countP_mono_left fun x hx h=>hi x (by simp [hx]) h
   simp; omega
  ·have:=count_lt l (fun x hx=>hi x (by simp [hx])) ⟨a,ha,hq,hp⟩
   have h1:=hi x (by simp)
   cases hpx:P x
   ·cases Q x <;> simp <;> omega
   ·rw [h1 hpx]; simp; omega
theorem first_rel (T i:Nat):∃ a,a≤i∧rel T a i∧isRep T a:=by
 induction i using Nat.strongRecOn with
 | _ i ih =>
  by_cases h:isRep T i
  ·exact ⟨i,Nat.le_refl _,rel_refl T i,h⟩
  ·have:∃ j,j<i∧rel T j i:=by
    refine Classical.byContradiction fun hn=>h fun j hj hr=>hn ⟨j,hj,hr⟩
   obtain ⟨j,hj,hr⟩:=this
   obtain ⟨a,h1,h2,h3⟩:=ih j hj
   exact ⟨a,by omega,rel_trans h2 hr,h3⟩
theorem cls_lt {p T U i j:Nat} (hi:i<p) (hj:j<p) (hs:∀ w,U.testBit w=true→T.testBit w=true) (hn:¬rel T i j) (hr:rel U i j):cls p U<cls p T:=by
 unfold cls
 refine count_lt _ (fun k _ h => ?_) ?_
 ·simp only [decide_eq_true_eq] at h ⊢
  exact fun a ha hra=>h a ha (rel_sub hs hra)
 ·obtain ⟨a,a1,a2,a3⟩:=first_rel T i
  obtain ⟨b,b1,b2,b3⟩:=first_rel T j
  have hab:a ≠ b:=by
   rintro rfl
   exact hn (rel_trans (rel_symm a2) b2)
  have hu:rel U a b:=rel_trans (rel_sub hs a2) (rel_trans hr (rel_symm (rel_sub hs b2)))
  rcases Nat.lt_or_ge a b with h | h
  ·refine ⟨b,List.mem_range.2 (by omega),by simpa using b3, ?_⟩
   simp only [decide_eq_false_iff_not]
   exact fun hc=>hc a h hu
  ·refine ⟨a,List.mem_range.2 (by omega),by simpa using a3, ?_⟩
   simp only [decide_eq_false_iff_not]
   exact fun hc=>hc b (by omega) (rel_symm hu)
theorem cls_le (p T:Nat):cls p T≤p:=by
 unfold cls
 exact Nat.le_trans (List.countP_le_length) (by simp)
theorem cls_pos {p:Nat} (T:Nat) (hp:1≤p):1≤cls p T:=by
 unfold cls
 exact List.countP_pos_iff.2 ⟨0,List.mem_range.2 (by omega),by simp only [decide_eq_true_eq]; exact fun j hj=>absurd hj (by omega)⟩
theorem split_rel {p T i j:Nat} (hT:InT p T) (h:splits p T i j=true):¬rel T i j∧rel (askY p T i j) i j∧rel (askN p T i j) i j:=by
 obtain ⟨h1,h2⟩:=splits_iff.1 h
 obtain ⟨u,hu⟩:=ne_zero_iff.1 h1
 obtain ⟨v,hv⟩:=ne_zero_iff.1 h2
 rw [bit_askY hT,Bool.and_eq_true] at hu
 rw [bit_askN hT,Bool.and_eq_true] at hv
 refine ⟨?_,⟨true,fun w hw => ?_⟩,⟨false,fun w hw => ?_⟩⟩
 ·rintro ⟨c,hc⟩
  have e1:=hc u hu.1
  have e2:=hc v hv.1
  rw [hu.2] at e1
  have e3:=hv.2
  rw [e2,← e1] at e3
  cases e3
 ·rw [bit_askY hT,Bool.and_eq_true] at hw; exact hw.2
 ·rw [bit_askN hT,Bool.and_eq_true] at hw
  cases hb:(w.testBit i == w.testBit j)
  ·rfl
  ·rw [hb] at hw; cases hw.2
theorem sol_cls {p:Nat} (hp:1≤p):∀ d T,InT p T→sol p d T=true→sol p (cls p T-1) T=true
 | 0,T,_,h=>sol_done h _
 | d+1,T,hT,h=>by
  rcases sol_succ.1 h with h | ⟨i,j,hi,hj,h1,h2,h3⟩
  ·exact sol_done h _
  ·obtain ⟨g1,g2,g3⟩:=split_rel hT h1
   have s1:∀ w,(askY p T i j).testBit w=true→T.testBit w=true:=fun w hw=>by rw [bit_askY hT,Bool.and_eq_true] at hw; exact hw.1
   have s2:∀ w,(askN p T i j).testBit w=true→T.testBit w=true:=fun w hw=>by rw [bit_askN hT,Bool.and_eq_true] at hw; exact hw.1
   have c1:=cls_lt hi (show j<p by omega) s1 g1 g2
   have c2:=cls_lt hi (show j<p by omega) s2 g1 g3
   have p1:=cls_pos (askY p T i j) hp
   have p2:=cls_pos (askN p T i j) hp
   have i1:=sol_cls hp d _ hT.askY h2
   have i2:=sol_cls hp d _ hT.askN h3
   obtain ⟨k,hk⟩:∃ k,cls p T-1=k+1:=⟨cls p T-2,by omega⟩
   rw [hk]
   exact sol_succ.2 (.inr ⟨i,j,hi,hj,h1,sol_mono (by omega) i1,sol_mono (by omega) i2⟩)
/-- Fewer questions than people. -/
theorem sol_few {p d T:Nat} (hp:1≤p) (hT:InT p T) (h:sol p d T=true):sol p (p-1) T=true:=by
 have:=cls_le p T
 exact sol_mono (by omega) (sol_cls hp d T hT h)
theorem lv_lt {p m T:Nat} (hp:1≤p) (hT:InT p T):lv p m T<p:=by
 rcases lv_is p m T with ⟨h1,_⟩ | ⟨d,h1,h2,h3,h4⟩
 ·omega
 ·have:=sol_few hp hT h3
  rcases Nat.lt_or_ge d p with h | h
  ·omega
  ·rw [h4 (p-1) (by omega)] at this; cases this
theorem IsLv.down {p m T:Nat} {v:Int} (hp:1≤p) (hm:p-1≤m) (hT:InT p T) (h:IsLv p (m+1) T v):IsLv p m T v:=by
 rcases h with ⟨h1,h2⟩ | ⟨d,h1,h2,h3,h4⟩
 ·exact .inl ⟨h1,fun d hd=>h2 d (by omega)⟩
 ·refine .inr ⟨d, ?_,h2,h3,h4⟩
  have:=sol_few hp hT h3
  rcases Nat.lt_or_ge (p-1) d with h | h
  ·rw [h4 _ h] at this; cases this
  ·omega
end TL

namespace TL
open Go Go.Proofs
theorem tab_ok {p T:Nat} (h1:1≤p) (h4:p≤4) (hT:InT p T):tableOk p T=true:=by
 have e:((2 ^ 2 ^ p:Nat):Int)=(2:Int) ^ 2 ^ p:=by simp
 have:(T:Int)<(2:Int) ^ 2 ^ p:=by rw [← e]; unfold InT at hT; omega
 simp only [tableOk,peopleOk,Bool.and_eq_true,decide_eq_true_eq]
 exact ⟨⟨⟨by omega,by omega⟩,by omega⟩,by simpa using this⟩
/-- The first one who is known. -/
def ktell (p T:Nat):Int:=match (List.range p).find? (tells p T) with
 | some k=>(k:Int)
 | none => -1
def kt (p T:Nat):Int:=if T=0 then -1 else ktell p T
theorem kt_done {p T:Nat} : (0≤kt p T∨T=0)↔doneT p T=true:=by
 rw [doneT_iff]
 unfold kt ktell
 by_cases h0:T=0
 ·simp [h0]
 ·rw [if_neg h0]
  rcases find_range (f:=tells p T) p with ⟨d,h1,h2,h3,h4⟩ | ⟨h1,h2⟩
  ·rw [h1]
   exact ⟨fun _=>.inr ⟨d,h2,h3⟩,fun _=>.inl (by simp)⟩
  ·rw [h1]
   constructor
   ·rintro (h | h)
    ·simp at h
    ·exact absurd h h0
   ·rintro (h | ⟨k,hk,ht⟩)
    ·exact absurd h h0
    ·rw [h2 k hk] at ht; cases ht
def andAll (N:Nat) (l:List Nat):Nat:=l.foldl (· &&& ·) N
theorem andAll_le (N:Nat):∀ l,andAll N l≤N:=fun l=>by
 unfold andAll
 induction l generalizing N with
 | nil=>exact Nat.le_refl _
 | cons x xs ih=>exact Nat.le_trans (ih _) Nat.and_le_left
theorem andAll_bit (i:Nat):∀ (l:List Nat) (N:Nat),(andAll N l).testBit i=(N.testBit i && l.all fun w=>w.testBit i)
 | [],N=>by simp [andAll]
 | x :: xs,N=>by
  have:=andAll_bit i xs (N &&& x)
  unfold andAll at this ⊢
  rw [List.foldl_cons,this,Nat.testBit_and,List.all_cons,Bool.and_assoc]
theorem andAll_snoc (N:Nat) (l:List Nat) (x:Nat):andAll N (l++[x])=andAll N l &&& x:=by simp [andAll]
theorem worlds_tells {p T k:Nat} (hk:k<p):(andAll (2 ^ p-1) (worldsOf p T)).testBit k=tells p T k:=by
 rw [andAll_bit,Nat.testBit_two_pow_sub_one]
 simp only [hk,decide_true,Bool.true_and]
 rw [Bool.eq_iff_iff]
 simp only [worldsOf,tells,List.all_eq_true,List.mem_filter,List.mem_range,Bool.or_eq_true,Bool.not_eq_true']
 constructor
 ·intro h w hw
  cases hb:T.testBit w
  ·exact .inl rfl
  ·exact .inr (h w ⟨hw,hb⟩)
 ·rintro h w ⟨hw,hb⟩
  rcases h w hw with h | h
  ·rw [hb] at h; cases h
  ·exact h
theorem worlds_nil {p T:Nat} (hT:InT p T):worldsOf p T=[]↔T=0:=by
 constructor
 ·intro h
  apply Nat.eq_of_testBit_eq; intro w
  rw [Nat.zero_testBit]
  cases hb:T.testBit w
  ·rfl
  ·have:w ∈ worldsOf p T:=by simp [worldsOf,hb,hT.bit hb]
   rw [h] at this; cases this
 ·rintro rfl
  simp [worldsOf]
theorem worlds_small {p T:Nat} (h4:p≤4):(worldsOf p T).length≤16∧∀ w ∈ worldsOf p T,w<16:=by
 have hN:2 ^ p≤2 ^ 4:=Nat.pow_le_pow_right (by omega) h4
 refine ⟨Nat.le_trans (List.length_filter_le _ _) (by simp; omega),fun w hw => ?_⟩
 simp [worldsOf] at hw
 omega
def Ikt1 (p T:Nat) (e:Nat) (s:S):Prop:=∃ i:Nat,s.tm 0=.v (.int .i64 p)∧s.tm 6=.v (.int .i64 (andAll (2 ^ p-1) ((worldsOf p T).take i)))∧s.tm 19=.v (.sl ((worldsOf p T).map fun w=>V.int .i64 (w:Nat)))∧s.tm 20=.v (.int .i64 (worldsOf p T).length)∧s.tm 21=.v (.int .i64 i)∧i≤(worldsOf p T).length∧(e=1→i=(worldsOf p T).length)
def Ikt2 (p T:Nat) (e:Nat) (s:S):Prop:=∃ i:Nat,s.tm 6=.v (.int .i64 (andAll (2 ^ p-1) (worldsOf p T)))∧s.tm 29=.v (.int .i64 p)∧s.tm 30=.v (.int .i64 i)∧i≤p∧(∀ k,k<i→tells p T k=false)∧(e=1→i=p)
theorem knownTeller_fn (p T:Nat) (h1:1≤p) (h4:p≤4) (hT:InT p T):FnZ Tryz.prog 162 [.int .i64 p,.int .i64 T] (.int .i64 (kt p T)):=by
 have hw:=worldsIn_fn p T (tab_ok h1 h4 hT) h1 h4
 have ws:IntKind.wrap .i64 (2 ^ min p IntKind.i64.bits)=((2 ^ p:Nat):Int):=by rw [shl_fact (by omega)]; simp
 have hN:2 ^ p≤2 ^ 4:=Nat.pow_le_pow_right (by omega) h4
 have hN1:1≤2 ^ p:=Nat.one_le_two_pow
 have w1:IntKind.wrap .i64 (((2 ^ p:Nat):Int)-1)=((2 ^ p-1:Nat):Int):=by rw [w64 (by omega) (by omega)]; omega
 have hp0:¬(p:Int)<0:=by omega
 have hnil:=worlds_nil hT
 obtain ⟨s1,s2⟩:=worlds_small (T:=T) h4
 refine FZ (rs:=[.tmp 4]) false Tryz.func162 ?_
 simp -dsimp
 refine cl hw ?_
 by_cases h0:T=0
 ·have e:=hnil.2 h0
  have e2:kt p T = -1:=if_pos h0
  simp -dsimp [e,e2]
 have hne:¬worldsOf p T=[]:=fun h=>h0 (hnil.1 h)
 have hne2:¬((worldsOf p T).length:Int)=0:=fun h=>hne (List.length_eq_zero_iff.1 (by omega))
 have ekt:kt p T=ktell p T:=if_neg h0
 have hwt:=fun k hk=>worlds_tells (p:=p) (T:=T) (k:=k) hk
 have wsp:IntKind.wrap .i64 ((2:Int) ^ p-1)=((2 ^ p-1:Nat):Int):=by rw [← w1]; simp
 have hAl:=fun l=>andAll_le (2 ^ p-1) l
 rw [ekt]
 clear ekt hnil
 simp -dsimp [hne,hne2,ws,w1,wsp,hp0]
 refine twp_loopC (Ikt1 p T 0) (fun s=>(worldsOf p T).length-natOf (s.tm 21)) (Ikt1 p T 1) ?_ ?_ ?_
 ·exact ⟨0,by simp -dsimp,by simp -dsimp [andAll],by simp -dsimp,by simp -dsimp,by simp -dsimp,by omega,by simp⟩
 ·rintro s ⟨i,t0,t6,t19,t20,t21,hi,hend⟩
  by_cases hlt:i<(worldsOf p T).length
  case neg =>
   simp -dsimp [t20,t21,hlt]
   exact ⟨i,by simp -dsimp [t0],by simp -dsimp [t6],by simp -dsimp [t19],by simp -dsimp [t20],by simp -dsimp [t21],hi,fun _=>by omega⟩
  have htk:(worldsOf p T).take (i+1)=(worldsOf p T).take i++[(worldsOf p T)[i]]:=List.take_succ_eq_append_getElem hlt
  have hw16:=s2 _ (List.getElem_mem hlt)
  have hA:=hAl ((worldsOf p T).take i)
  have hget:((worldsOf p T).map fun w=>V.int .i64 (w:Nat))[i]? = some (.int .i64 ((worldsOf p T)[i]:Nat)):=by simp [hlt]
  have wi:IntKind.wrap .i64 ((i:Int)+1)=((i+1:Nat):Int):=by rw [w64 (by omega) (by omega)]; omega
  have hmu:(worldsOf p T).length-(i+1)<(worldsOf p T).length-i:=by omega
  have hand:=and_nn (a:=andAll (2 ^ p-1) ((worldsOf p T).take i)) (b:=(worldsOf p T)[i]) (by omega) (by omega)
  have hsn:=andAll_snoc (2 ^ p-1) ((worldsOf p T).take i) (worldsOf p T)[i]
  rw [← htk] at hsn
  rw [← hsn] at hand
  clear hsn htk hA
  generalize hA1:andAll (2 ^ p-1) ((worldsOf p T).take (i+1))=A1 at *
  generalize andAll (2 ^ p-1) ((worldsOf p T).take i)=A0 at *
  simp -dsimp [t6,t19,t20,t21,hlt,hget,hand,wi,hmu]
  exact ⟨i+1,by simp -dsimp [t0],by simp -dsimp [hA1],by simp -dsimp [t19],by simp -dsimp [t20],by simp -dsimp,by omega,by simp⟩
 ·rintro s ⟨i,t0,t6,t19,t20,t21,hi,hend⟩
  have:=hend rfl
  subst this
  rw [List.take_length] at t6
  have hA:=hAl (worldsOf p T)
  simp -dsimp [t0,t6]
  refine twp_loopC (Ikt2 p T 0) (fun s=>p-natOf (s.tm 30)) (Ikt2 p T 1) ?_ ?_ ?_
  ·exact ⟨0,by simp -dsimp [t6],by simp -dsimp,by simp -dsimp,by omega,fun k hk=>absurd hk (by omega),by simp⟩
  ·rintro s ⟨i,u6,u29,u30,hi,hno,hend⟩
   by_cases hlt:i<p
   case neg =>
    simp -dsimp [u29,u30,hlt]
    exact ⟨i,by simp -dsimp [u6],by simp -dsimp [u29],by simp -dsimp [u30],hi,hno,fun _=>by omega⟩
   have wi:IntKind.wrap .i64 ((i:Int)+1)=((i+1:Nat):Int):=by rw [w64 (by omega) (by omega)]; omega
   have hmu:p-(i+1)<p-i:=by omega
   have hb:=bit1 (andAll (2 ^ p-1) (worldsOf p T)) i (by omega) (by omega)
   have z3:¬(i:Int)<0:=by omega
   have hwi:=hwt i hlt
   rw [hwi] at hb
   have htc:=ft (tells p T i)
   generalize hAA:andAll (2 ^ p-1) (worldsOf p T)=A at *
   rcases htc with htc | htc
   ·rw [htc] at hb
    simp -dsimp [u6,u29,u30,hlt,z3,hb,wi,hmu]
    refine ⟨i+1,by simp -dsimp [u6,hAA],by simp -dsimp [u29],by simp -dsimp,by omega,fun k hk => ?_,by simp⟩
    rcases Nat.lt_or_ge k i with h | h
    ·exact hno k h
    ·have:k=i:=by omega
     rw [this]; exact htc
   ·rw [htc] at hb
    have e:ktell p T=(i:Int):=by
     unfold ktell
     rcases find_range (f:=tells p T) p with ⟨d,g1,g2,g3,g4⟩ | ⟨g1,g2⟩
     ·rw [g1]
      have:d=i:=by
       rcases Nat.lt_trichotomy d i with h | h | h
       ·rw [hno d h] at g3; cases g3
       ·exact h
       ·rw [g4 i h] at htc; cases htc
      rw [this]
     ·rw [g2 i hlt] at htc; cases htc
    simp -dsimp [u6,u29,u30,hlt,z3,hb,e]
  ·rintro s ⟨i,u6,u29,u30,hi,hno,hend⟩
   have:=hend rfl
   subst this
   have e:ktell i T = -1:=by
    unfold ktell
    rcases find_range (f:=tells i T) i with ⟨d,g1,g2,g3,g4⟩ | ⟨g1,g2⟩
    ·rw [hno d g2] at g3; cases g3
    ·rw [g1]
   simp -dsimp [e]
end TL

namespace TL
open Go Go.Proofs
attribute [local simp] marksV storyV codeV Claim.v Place.v
@[simp] theorem cell_nf:T.nf.cell=true:=rfl
@[simp] theorem cells_nf:T.nf.cells=[.nf]:=rfl
def termTab (p:Nat) (t:List Mark):Nat:=tabN (2 ^ p) (truth t)
theorem termTab_small {p:Nat} (h4:p≤4) (t:List Mark):termTab p t<65536:=table_small h4 (tabN_lt _ _)
theorem claimTab_small {p:Nat} (h4:p≤4) (c:Claim):claimTab p c<65536:=table_small h4 (tabN_lt _ _)
theorem termOk_facts {people:Int} {t:List Mark} (h:termOk people t=true):1≤people∧people≤4∧t.length≤15∧marksRun people 0 t=some 1:=by
 simp only [termOk,peopleOk,Bool.and_eq_true,decide_eq_true_eq] at h
 exact ⟨h.1.1.1.1,h.1.1.1.2,h.1.2,h.2⟩
theorem tableOf_fn (p:Nat) (t:List Mark) (h:termOk p t=true):FnZ Tryz.prog 66 [.int .i64 p,marksV t] (.int .i64 (termTab p t)):=by
 obtain ⟨hp1,hp4,hl,hr⟩:=termOk_facts h
 have hok:=termOk_fn p t
 rw [h] at hok
 have hN:=pow_small (p:=p) (by omega)
 have hc:∀ w:Nat,w<2 ^ p→FnZ Tryz.prog 120 [.int .i64 w,.ref [marksV t]] (.bool (truth t w)):=fun w hw=>by
  have hh:=holds_fn p hp4 t hr (by omega) w (by omega)
  generalize truth t w=b at *
  refine FZ (rs:=[.tmp 3]) false Tryz.func120 ?_
  simp -dsimp
  refine cl hh ?_
  simp -dsimp
 have htb:=tableBy_fn p (by omega) (by omega) 120 [.ref [marksV t]] (truth t) hc
 have e:termTab p t=tabN (2 ^ p) (truth t):=rfl
 rw [e]
 generalize tabN (2 ^ p) (truth t)=tb at *
 clear hl hr hc
 refine FZ (rs:=[.tmp 4]) false Tryz.func66 ?_
 simp -dsimp
 refine cl hok ?_
 simp -dsimp
 refine callM_ htb (by simp -dsimp) rfl ?_
 simp -dsimp
/-- A number in a row's text. -/
def cellTx (n:Int):List UInt8:=if n<0 then [46] else dec n
def numTx (n:Int):List UInt8:=if n<0 then [110,111,110,101] else dec n
def rowTx (l:List Int):List UInt8:=if l=[] then [110,111,110,101] else Go.Lib.join (l.map cellTx) [44]
theorem numberText_fn (n:Int) (hn:n≤99):FnZ Tryz.prog 56 [.int .i64 n] (.str (numTx n)):=by
 by_cases h:n<0
 ·have e:numTx n=[110,111,110,101]:=if_pos h
  rw [e]
  refine FZ (rs:=[.tmp 2]) false Tryz.func56 ?_
  simp -dsimp [h]
 ·have e:numTx n=dec n:=if_neg h
  have hi:=itoa_fn n (by omega) hn
  rw [e]
  generalize dec n=d at *
  refine FZ (rs:=[.tmp 2]) false Tryz.func56 ?_
  simp -dsimp [h]
  refine cl hi ?_
  simp -dsimp
theorem cellTx_len {n:Int} (h:n≤99):(cellTx n).length≤27:=by
 unfold cellTx
 split
 ·simp
 ·have:=dec_len (n:=n) (by omega) h
  omega
def numsV (l:List Int):V:=.sl (l.map (V.int .i64))
def Irt (l:List Int) (e:Nat) (s:S):Prop:=∃ i id:Nat,s.tm 3=.loc id∧id<s.n∧s.m id=some (.arr 9 (((l.take i).map cellTx).map V.str)) ∧
 s.tm 10=.v (.sl (l.map (V.int .i64)))∧s.tm 11=.v (.int .i64 l.length)∧s.tm 12=.v (.int .i64 i)∧s.mu=false∧i≤l.length∧(e=1→i=l.length)
theorem rowText_fn (l:List Int) (hl:l.length≤16) (h:∀ n ∈ l,n≤99):FnZ Tryz.prog 53 [numsV l] (.str (rowTx l)):=by
 by_cases hs:l=[]
 ·have e:rowTx l=[110,111,110,101]:=if_pos hs
  rw [e,hs]
  refine FZ (rs:=[.tmp 2]) false Tryz.func53 ?_
  simp -dsimp [numsV]
 have e:rowTx l=Go.Lib.join (l.map cellTx) [44]:=if_neg hs
 have hst:=join_len (l.map cellTx) (fun x hx=>by obtain ⟨n,hn,rfl⟩:=List.mem_map.1 hx; exact cellTx_len (h n hn))
 have hj:=join_fn (l.map cellTx) [44] (by simp; omega) (by simp only [List.length_map] at hst; omega)
 rw [e]
 have hnn:¬(l.length:Int)=0:=fun h=>hs (List.length_eq_zero_iff.1 (by omega))
 refine FZ (rs:=[.tmp 2]) false Tryz.func53 ?_
 simp -dsimp [numsV,hs,hnn]
 refine twp_loopC (Irt l 0) (fun s=>l.length-natOf (s.tm 12)) (Irt l 1) ?_ ?_ ?_
 ·exact ⟨0,0,by simp -dsimp,by simp -dsimp,by simp -dsimp,by simp -dsimp,by simp -dsimp,by simp -dsimp,by simp -dsimp,by omega,by simp⟩
 ·rintro s ⟨i,id,t3,hid,hm,t10,t11,t12,hmu,hi,hend⟩
  by_cases hlt:i<l.length
  case neg =>
   simp -dsimp [t11,t12,hlt]
   exact ⟨i,id,by simp -dsimp [t3],by simp -dsimp [hid],by simp -dsimp [hm],by simp -dsimp [t10],by simp -dsimp [t11],by simp -dsimp [t12],by simp -dsimp [hmu],hi,fun _=>by omega⟩
  have hget:(l.map (V.int .i64))[i]? = some (.int .i64 l[i]):=by simp [hlt]
  have wi:IntKind.wrap .i64 ((i:Int)+1)=((i+1:Nat):Int):=by rw [w64 (by omega) (by omega)]; omega
  have hmu1:l.length-(i+1)<l.length-i:=by omega
  have f1:=far hid
  have b1:(min i l.length+1) * 16≤140737488355328:=by omega
  have hb:=h l[i] (List.getElem_mem hlt)
  have hnx:((l.take (i+1)).map cellTx).map V.str=((l.take i).map cellTx).map V.str++[.str (cellTx l[i])]:=by
   rw [List.take_succ_eq_append_getElem hlt,List.map_append,List.map_append]; rfl
  by_cases hneg:l[i]<0
  ·have ec:cellTx l[i]=[46]:=if_pos hneg
   rw [ec] at hnx
   simp -dsimp [t3,t10,t11,t12,hlt,hget,hneg,hm,hmu,f1,b1,wi,hmu1,nes]
   refine st_out fun s' ht hm' hn' hu' => ?_
   have a3:=ht 3
   have a10:=ht 10
   have a11:=ht 11
   have a12:=ht 12
   simp -dsimp [t10,t11] at a3 a10 a11 a12 hm' hn' hu'
   clear ht
   refine ⟨i+1,_,a3,by omega, ?_,a10,a11,a12,by rw [hu',hmu],by omega,by simp⟩
   rw [hnx]; simp [hm',nes]
  ·have ec:cellTx l[i]=dec l[i]:=if_neg hneg
   have hit:=itoa_fn l[i] (by omega) hb
   rw [ec] at hnx
   generalize hD:dec l[i]=D at hnx hit
   simp -dsimp [t3,t10,t11,t12,hlt,hget,hneg,hm,hmu,f1,b1,nes]
   refine cl hit ?_
   simp -dsimp [t3,t10,t11,t12,hm,hmu,f1,b1,wi,hmu1,nes]
   refine st_out fun s' ht hm' hn' hu' => ?_
   have a3:=ht 3
   have a10:=ht 10
   have a11:=ht 11
   have a12:=ht 12
   simp -dsimp [t10,t11] at a3 a10 a11 a12 hm' hn' hu'
   clear ht
   refine ⟨i+1,_,a3,by omega, ?_,a10,a11,a12,by rw [hu',hmu],by omega,by simp⟩
   rw [hnx]; simp [hm',nes]
 ·rintro s ⟨i,id,t3,hid,hm,t10,t11,t12,hmu,hi,hend⟩
  have hil:=hend rfl
  rw [hil,List.take_length] at hm
  generalize (l.map cellTx).map V.str=row at *
  generalize Go.Lib.join (l.map cellTx) [44]=J at *
  simp -dsimp [t3,hm]
  refine call_ hj (by simp -dsimp [hm]) ?_
  simp -dsimp
/-- The worlds of a story. -/
def sw (p:Nat) (l:List Claim):List Nat:=worldsOf p (storyTab p l)
def natsV (l:List Nat):V:=.sl (l.map fun w=>V.int .i64 (w:Nat))
theorem storyTab_ok {p:Nat} (h1:1≤p) (h4:p≤4) (l:List Claim):tableOk p (storyTab p l)=true:=tab_ok h1 h4 (storyTab_le p l)
theorem storyTableV_ok {p:Nat} {l:List Claim} (h:storyOk p l=true):storyTableV p l=(storyTab p l:Int):=if_pos h
theorem sw_len {p:Nat} (h4:p≤4) (l:List Claim):(sw p l).length≤16:=by
 have h1:(sw p l).length≤(List.range (2 ^ p)).length:=List.length_filter_le _ _
 have h2:=pow_small h4
 simp only [List.length_range] at h1; omega
theorem sw_lt {p:Nat} (h4:p≤4) {l:List Claim} {w:Nat} (h:w ∈ sw p l):w<16:=by
 have h2:=pow_small h4
 have:=(List.mem_filter.1 h).1
 simp at this; omega
def onlyV (p:Nat) (l:List Claim):Int:=match sw p l with
 | [w]=>w
 | _ => -1
def onlyB (p:Nat) (l:List Claim):Bool:=decide ((sw p l).length=1)
theorem onlyWorld_fn (p:Nat) (l:List Claim) (h:storyOk p l=true):FnZ Tryz.prog 55 [.int .i64 p,storyV l] (.tup [.int .i64 (onlyV p l),.bool (onlyB p l)]):=by
 obtain ⟨h1,h4,hc,h6⟩:=allOk_of h
 have hst:=storyTable_v p l (by omega)
 rw [storyTableV_ok h] at hst
 have hwi:=worldsIn_fn p (storyTab p l) (storyTab_ok (by omega) (by omega) l) (by omega) (by omega)
 have hsl:=sw_len (p:=p) (by omega) l
 have e0:worldsOf p (storyTab p l)=sw p l:=rfl
 rw [e0] at hwi
 unfold onlyV onlyB
 generalize sw p l=W at *
 have c1:¬((W.length:Int)=1)∨∃ w,W=[w]:=by
  match W with
  | []=>exact .inl (by simp)
  | [w]=>exact .inr ⟨w,rfl⟩
  | a :: b :: r=>exact .inl (by simp; omega)
 rcases c1 with c1 | ⟨w,rfl⟩
 ·have e1:(match W with | [w]=>(w:Int) | _ => -1) = -1:=by
   match W,c1 with
   | [],_=>rfl
   | [w],c1=>exact absurd rfl c1
   | a :: b :: r,_=>rfl
  have c2:¬W.length=1:=by omega
  rw [e1]
  refine FZ (rs:=[.tmp 4,.tmp 5]) false Tryz.func55 ?_
  simp -dsimp
  refine cl hst ?_
  simp -dsimp
  refine cl hwi ?_
  simp -dsimp [c1,c2]
 ·refine FZ (rs:=[.tmp 4,.tmp 5]) false Tryz.func55 ?_
  simp -dsimp
  refine cl hst ?_
  simp -dsimp
  refine cl hwi ?_
  simp -dsimp
/-- The places of claims that are not needed. -/
def needless (p:Nat) (l:List Claim):List Nat:=(List.range l.length).filter fun i=>decide (storyTab p (l.eraseIdx i)=storyTab p l)
def Ind (p:Nat) (l:List Claim) (e:Nat) (s:S):Prop:=∃ i id:Nat,s.tm 0=.v (.int .i64 p)∧s.tm 1=.v (storyV l)∧s.tm 5=.loc id∧id<s.n∧s.mu=false ∧
 s.m id=some (.arr 3 (((List.range i).filter fun i=>decide (storyTab p (l.eraseIdx i)=storyTab p l)).map fun w=>V.int .i64 (w:Nat))) ∧
 s.tm 13=.v (.int .i64 l.length)∧s.tm 14=.v (.int .i64 i)∧i≤l.length∧(e=1→i=l.length)
theorem storyOk_erase {people:Int} {l:List Claim} (h:storyOk people l=true) (i:Nat):storyOk people (l.eraseIdx i)=true:=storyOk_sub h (List.eraseIdx_sublist l i)
theorem needless_fn (p:Nat) (l:List Claim) (h:storyOk p l=true):FnZ Tryz.prog 58 [.int .i64 p,storyV l] (natsV (needless p l)):=by
 obtain ⟨h1,h4,hc,h6⟩:=allOk_of h
 have hok:=storyOk_fn p l (by omega)
 rw [h] at hok
 have hst:=storyTable_fn p l (by omega) (by omega) (by omega) hc
 refine FZ (rs:=[.tmp 4]) false Tryz.func58 ?_
 simp -dsimp
 refine cl hok ?_
 simp -dsimp
 refine twp_loopC (Ind p l 0) (fun s=>l.length-natOf (s.tm 14)) (Ind p l 1) ?_ ?_ ?_
 ·exact ⟨0,0,by simp -dsimp,by simp -dsimp,by simp -dsimp,by simp -dsimp,by simp -dsimp,by simp -dsimp,by simp -dsimp,by simp -dsimp,by omega,by simp⟩
 ·rintro s ⟨i,id,t0,t1,t5,hid,hmu,hm,t13,t14,hi,hend⟩
  by_cases hlt:i<l.length
  case neg =>
   simp -dsimp [t13,t14,hlt]
   exact ⟨i,id,by simp -dsimp [t0],by simp -dsimp [t1],by simp -dsimp [t5],by simp -dsimp; omega,by simp -dsimp [hmu],by simp -dsimp [hm],by simp -dsimp [t13],by simp -dsimp [t14],hi,fun _=>by omega⟩
  have wi:IntKind.wrap .i64 ((i:Int)+1)=((i+1:Nat):Int):=by rw [w64 (by omega) (by omega)]; omega
  have hmu1:l.length-(i+1)<l.length-i:=by omega
  have hwo:=without_fn l i hlt (by omega)
  obtain ⟨_,_,hc2,h62⟩:=allOk_of (storyOk_erase h i)
  have hs2:=storyTable_fn p (l.eraseIdx i) (by omega) (by omega) (by omega) hc2
  have hrl:((List.range i).filter fun i=>decide (storyTab p (l.eraseIdx i)=storyTab p l)).length≤i:=by
   have:=List.length_filter_le (fun i=>decide (storyTab p (l.eraseIdx i)=storyTab p l)) (List.range i)
   simpa using this
  have hsucc:(List.range (i+1)).filter (fun i=>decide (storyTab p (l.eraseIdx i)=storyTab p l))=(List.range i).filter (fun i=>decide (storyTab p (l.eraseIdx i)=storyTab p l))++(if storyTab p (l.eraseIdx i)=storyTab p l then [i] else []):=by
   rw [List.range_succ,List.filter_append]; congr 1
   by_cases h:storyTab p (l.eraseIdx i)=storyTab p l <;> simp [h]
  have f1:=far hid
  have fin:∀ (s':S) (id':Nat),s'.tm 0=.v (.int .i64 p)→s'.tm 1=.v (storyV l)→s'.tm 5=.loc id'→id'<s'.n→s'.mu=false → 
    s'.m id'=some (.arr 3 (((List.range i).filter fun i=>decide (storyTab p (l.eraseIdx i)=storyTab p l)).map (fun w=>V.int .i64 (w:Nat))++(if storyTab p (l.eraseIdx i)=storyTab p l then [V.int .i64 (i:Nat)] else []))) →
    s'.tm 13=.v (.int .i64 l.length)→s'.tm 14=.v (.int .i64 (i+1:Nat))→Ind p l 0 s':=by
   intro s' id' a0 a1 a5 aid amu am a13 a14
   refine ⟨i+1,id',a0,a1,a5,aid,amu, ?_,a13,a14,by omega,by simp⟩
   rw [am,hsucc]; split <;> simp
  generalize hxs:((List.range i).filter fun i=>decide (storyTab p (l.eraseIdx i)=storyTab p l)).map (fun w=>V.int .i64 (w:Nat))=xs at *
  have hxl:xs.length≤6:=by rw [← hxs]; simp only [List.length_map]; omega
  have b1:(xs.length+1) * 8≤140737488355328:=by omega
  generalize hA:storyTab p (l.eraseIdx i)=A at *
  generalize hB:storyTab p l=B at *
  simp -dsimp [t0,t1,t5,t13,t14,hlt]
  refine cl hwo ?_
  simp -dsimp [t0,t1]
  refine cl hs2 ?_
  simp -dsimp [t0,t1]
  refine cl hst ?_
  by_cases c0:A=B
  ·have c1:(A:Int)=B:=by omega
   simp -dsimp [t0,t1,t5,t13,t14,hmu,hm,f1,b1,wi,hmu1,c1]
   refine st_out fun s' ht' hm' hn' hu' => ?_
   have q0:=ht' 0
   have q1:=ht' 1
   have q5:=ht' 5
   have q13:=ht' 13
   have q14:=ht' 14
   simp -dsimp [t0,t1,t5,t13] at q0 q1 q5 q13 q14 hm' hn' hu'
   clear ht'
   exact fin s' _ q0 q1 q5 (by omega) (by rw [hu',hmu]) (by simp [hm',c0]) q13 q14
  ·have c1:¬(A:Int)=B:=by omega
   simp -dsimp [t0,t1,t5,t13,t14,hmu,hm,f1,b1,wi,hmu1,c1]
   exact fin _ id (by simp -dsimp [t0]) (by simp -dsimp [t1]) (by simp -dsimp [t5]) (by simp -dsimp; omega) (by simp -dsimp [hmu]) (by simp -dsimp [hm,c0]) (by simp -dsimp [t13]) (by simp -dsimp)
 ·rintro s ⟨i,id,t0,t1,t5,hid,hmu,hm,t13,t14,hi,hend⟩
  have:=hend rfl
  subst this
  simp -dsimp [t5,hm]
  rfl
end TL

namespace TL
open Go Go.Proofs
def kinds3 (ks:List Int):Prop:=∀ k ∈ ks,k=0∨k=1∨k=2
def spN (ks:List Int):Nat:=ks.count 2
/-- The world of kinds. -/
def worldK (ks:List Int):Nat:=tabN ks.length fun i=>decide (ks[i]? = some 1)
/-- The claims that kinds may make. -/
def saysB (ks:List Int) (c:Claim):Bool:=decide (ks[c.who.toNat]? = some 2) || mayB c (worldK ks)
def spyOk (l:List Claim) (ks:List Int):Bool:=l.all (saysB ks)
/-- How many rows of kinds go on from a beginning, with so many spies. -/
def cntK (ok:List Int→Bool):Nat→List Int→Int→Nat
 | 0,pre,left=>if left=0∧ok pre=true then 1 else 0
 | r+1,pre,left=>cntK ok r (pre++[0]) left+cntK ok r (pre++[1]) left+cntK ok r (pre++[2]) (left-1)
theorem cntK_le (ok:List Int→Bool):∀ (r:Nat) (pre:List Int) (left:Int),cntK ok r pre left≤3 ^ r
 | 0,pre,left=>by unfold cntK; split <;> simp
 | r+1,pre,left=>by
  unfold cntK
  have a:=cntK_le ok r (pre++[0]) left
  have b:=cntK_le ok r (pre++[1]) left
  have c:=cntK_le ok r (pre++[2]) (left-1)
  rw [Nat.pow_succ]; omega
theorem cntK_pos (ok:List Int→Bool):∀ (r:Nat) (pre:List Int) (left:Int),0<cntK ok r pre left↔∃ suf,suf.length=r∧kinds3 suf∧(spN suf:Int)=left∧ok (pre++suf)=true
 | 0,pre,left=>by
  unfold cntK
  constructor
  ·intro h
   split at h
   ·rename_i hh
    exact ⟨[],rfl,(fun k hk=>by cases hk),by simp [spN,hh.1],by simpa using hh.2⟩
   ·omega
  ·rintro ⟨suf,h1,_,h3,h4⟩
   obtain rfl:suf=[]:=List.length_eq_zero_iff.1 h1
   rw [if_pos ⟨by simpa [spN] using h3.symm,by simpa using h4⟩]; omega
 | r+1,pre,left=>by
  have a:=cntK_pos ok r (pre++[0]) left
  have b:=cntK_pos ok r (pre++[1]) left
  have c:=cntK_pos ok r (pre++[2]) (left-1)
  have e:0<cntK ok (r+1) pre left↔0<cntK ok r (pre++[0]) left∨0<cntK ok r (pre++[1]) left∨0<cntK ok r (pre++[2]) (left-1):=by
   rw [show cntK ok (r+1) pre left=cntK ok r (pre++[0]) left+cntK ok r (pre++[1]) left+cntK ok r (pre++[2]) (left-1) from rfl]; omega
  rw [e,a,b,c]
  constructor
  ·rintro (⟨suf,h1,h2,h3,h4⟩ | ⟨suf,h1,h2,h3,h4⟩ | ⟨suf,h1,h2,h3,h4⟩)
   ·refine ⟨0 :: suf,by simp [h1],fun k hk => ?_, ?_,by simpa using h4⟩
    ·rcases List.mem_cons.1 hk with rfl | hk
     ·exact .inl rfl
     ·exact h2 k hk
    ·simpa [spN] using h3
   ·refine ⟨1 :: suf,by simp [h1],fun k hk => ?_, ?_,by simpa using h4⟩
    ·rcases List.mem_cons.1 hk with rfl | hk
     ·exact .inr (.inl rfl)
     ·exact h2 k hk
    ·simpa [spN] using h3
   ·refine ⟨2 :: suf,by simp [h1],fun k hk => ?_, ?_,by simpa using h4⟩
    ·rcases List.mem_cons.1 hk with rfl | hk
     ·exact .inr (.inr rfl)
     ·exact h2 k hk
    ·simp only [spN,List.count_cons_self] at h3 ⊢; omega
  ·rintro ⟨suf,h1,h2,h3,h4⟩
   match suf,h1 with
   | k :: suf,h1 =>
    have hl:suf.length=r:=by simpa using h1
    have h5:kinds3 suf:=fun k hk=>h2 k (List.mem_cons_of_mem _ hk)
    rcases h2 k (List.mem_cons_self ..) with rfl | rfl | rfl
    ·exact .inl ⟨suf,hl,h5,by simpa [spN] using h3,by simpa using h4⟩
    ·exact .inr (.inl ⟨suf,hl,h5,by simpa [spN] using h3,by simpa using h4⟩)
    ·refine .inr (.inr ⟨suf,hl,h5, ?_,by simpa using h4⟩)
     simp only [spN,List.count_cons_self] at h3 ⊢; omega
/-- The fewest spies. -/
def fewest (ok:List Int→Bool) (p:Nat):Nat:=((List.range (p+1)).find? fun s=>decide (0<cntK ok p [] (s:Nat))).getD p
theorem allSpies (p:Nat):kinds3 (List.replicate p 2)∧spN (List.replicate p 2)=p:=⟨fun k hk=>.inr (.inr (List.eq_of_mem_replicate hk)),by simp [spN]⟩
theorem fewest_pos {ok:List Int→Bool} {p:Nat} (h:ok (List.replicate p 2)=true):0<cntK ok p [] (p:Nat):=(cntK_pos ok p [] p).2 ⟨List.replicate p 2,by simp,(allSpies p).1,by rw [(allSpies p).2],by simpa using h⟩
theorem fewest_spec {ok:List Int→Bool} {p:Nat} (h:ok (List.replicate p 2)=true):fewest ok p≤p∧0<cntK ok p [] (fewest ok p:Nat)∧∀ s,s<fewest ok p→cntK ok p [] (s:Nat)=0:=by
 have hp:=fewest_pos h
 unfold fewest
 cases hf:(List.range (p+1)).find? fun s=>decide (0<cntK ok p [] (s:Nat)) with
 | none =>
  have:=List.find?_eq_none.1 hf p (by simp)
  simp only [decide_eq_true_eq] at this
  exact absurd hp this
 | some d =>
  have h1:=List.find?_some hf
  have h2:=List.mem_of_find?_eq_some hf
  simp only [decide_eq_true_eq] at h1
  simp only [List.mem_range] at h2
  refine ⟨by simp; omega,by simpa using h1,fun s hs => ?_⟩
  simp only [Option.getD_some] at hs
  rw [List.find?_range_eq_some] at hf
  have:=hf.2.2 s hs
  simp only [Bool.not_eq_true',decide_eq_false_iff_not] at this
  omega
theorem fewest_le {ok:List Int→Bool} {p:Nat} (h:ok (List.replicate p 2)=true) {ks:List Int} (h1:ks.length=p) (h2:kinds3 ks) (h3:ok ks=true):fewest ok p≤spN ks:=by
 rcases Nat.lt_or_ge (spN ks) (fewest ok p) with g | g
 ·have:=(fewest_spec h).2.2 _ g
  have h4:=(cntK_pos ok p [] (spN ks:Nat)).2 ⟨ks,h1,h2,rfl,by simpa using h3⟩
  omega
 ·exact g
theorem fewest_at {ok:List Int→Bool} {p:Nat} (h:ok (List.replicate p 2)=true):∃ ks:List Int,ks.length=p∧kinds3 ks∧ok ks=true∧spN ks=fewest ok p:=by
 obtain ⟨ks,h1,h2,h3,h4⟩:=(cntK_pos ok p [] (fewest ok p:Nat)).1 (fewest_spec h).2.1
 exact ⟨ks,h1,h2,by simpa using h4,by omega⟩
/-- The kinds of a number. -/
def kd (p n:Nat):List Int:=(List.range p).map fun k=>((n / 3 ^ k % 3:Nat):Int)
theorem kd_len (p n:Nat):(kd p n).length=p:=by simp [kd]
theorem kd_kinds (p n:Nat):kinds3 (kd p n):=fun k hk=>by
 obtain ⟨i,_,rfl⟩:=List.mem_map.1 hk
 have:n / 3 ^ i % 3<3:=Nat.mod_lt _ (by omega)
 omega
theorem kd_succ (p n:Nat):kd (p+1) n=((n % 3:Nat):Int) :: kd p (n / 3):=by
 unfold kd
 rw [List.range_succ_eq_map,List.map_cons,List.map_map]
 congr 1
 ·simp
 ·apply List.map_congr_left
  intro k _
  simp only [Function.comp]
  rw [Nat.pow_succ,Nat.mul_comm,Nat.div_div_eq_div_mul]
theorem kd_surj:∀ (p:Nat) (ks:List Int),ks.length=p→kinds3 ks→∃ n,n<3 ^ p∧kd p n=ks
 | 0,ks,h,_=>⟨0,by simp,by rw [List.length_eq_zero_iff.1 h]; rfl⟩
 | p+1,[],h,_=>by simp at h
 | p+1,k :: ks,h,hk=>by
  obtain ⟨n,h1,h2⟩:=kd_surj p ks (by simpa using h) fun k hk'=>hk k (List.mem_cons_of_mem _ hk')
  have h3:=hk k (List.mem_cons_self ..)
  obtain ⟨j,hj,hj3⟩:∃ j:Nat,k=j∧j<3:=by
   rcases h3 with rfl | rfl | rfl
   ·exact ⟨0,rfl,by omega⟩
   ·exact ⟨1,rfl,by omega⟩
   ·exact ⟨2,rfl,by omega⟩
  refine ⟨j+3 * n,by rw [Nat.pow_succ]; omega, ?_⟩
  rw [kd_succ,hj,show (j+3 * n) % 3=j by omega,show (j+3 * n) / 3=n by omega,h2]
/-- The least number of spies among the kinds of the first numbers. -/
def bestK (ok:List Int→Bool) (p:Nat):Nat→Nat
 | 0=>p
 | n+1=>if ok (kd p n)=true then min (bestK ok p n) (spN (kd p n)) else bestK ok p n
theorem spN_le (ks:List Int):spN ks≤ks.length:=List.count_le_length ..
theorem bestK_le (ok:List Int→Bool) (p:Nat):∀ n,bestK ok p n≤p
 | 0=>Nat.le_refl _
 | n+1=>by
  have:=bestK_le ok p n
  unfold bestK
  split <;> omega
theorem bestK_low {ok:List Int→Bool} {p:Nat} : ∀ {n k:Nat},k<n→ok (kd p k)=true→bestK ok p n≤spN (kd p k)
 | n+1,k,hk,h=>by
  unfold bestK
  by_cases e:k=n
  ·subst e; rw [if_pos h]; omega
  ·have:=bestK_low (n:=n) (by omega) h
   split <;> omega
theorem bestK_high {ok:List Int→Bool} {p:Nat} (h:ok (List.replicate p 2)=true):∀ n,fewest ok p≤bestK ok p n
 | 0=>(fewest_spec h).1
 | n+1=>by
  have ih:=bestK_high h n
  unfold bestK
  split
  ·rename_i hk
   have:=fewest_le h (kd_len p n) (kd_kinds p n) hk
   omega
  ·exact ih
theorem bestK_eq {ok:List Int→Bool} {p:Nat} (h:ok (List.replicate p 2)=true):bestK ok p (3 ^ p)=fewest ok p:=by
 have h1:=bestK_high h (3 ^ p)
 obtain ⟨ks,a1,a2,a3,a4⟩:=fewest_at h
 obtain ⟨n,b1,b2⟩:=kd_surj p ks a1 a2
 have:=bestK_low (ok:=ok) (p:=p) b1 (by rw [b2]; exact a3)
 rw [b2,a4] at this
 omega
theorem spyOk_all {p:Nat} {l:List Claim} (h:∀ c ∈ l,claimOk p c=true):spyOk l (List.replicate p 2)=true:=by
 unfold spyOk
 rw [List.all_eq_true]
 intro c hc
 have h1:=h c hc
 simp only [claimOk,Bool.and_eq_true,decide_eq_true_eq] at h1
 have h2:c.who.toNat<p:=by omega
 unfold saysB
 rw [Bool.or_eq_true]; left
 rw [decide_eq_true_eq,List.getElem?_replicate,if_pos h2]
end TL

namespace TL
open Go Go.Proofs
attribute [local simp] marksV storyV codeV Claim.v Place.v numsV
theorem kinds3_at {ks:List Int} (h:kinds3 ks) {i:Nat} (hi:i<ks.length):ks[i]=0∨ks[i]=1∨ks[i]=2:=h _ (List.getElem_mem hi)
def Iko (ks:List Int) (e:Nat) (s:S):Prop:=∃ i:Nat,s.tm 0=.v (.sl (ks.map (V.int .i64)))∧s.tm 5=.v (.sl (ks.map (V.int .i64)))∧s.tm 6=.v (.int .i64 ks.length)∧s.tm 7=.v (.int .i64 i)∧i≤ks.length∧(e=1→i=ks.length)
theorem kindsOk_fn (ks:List Int) (hk:kinds3 ks) (h1:1≤ks.length) (h4:ks.length≤4):FnZ Tryz.prog 194 [numsV ks] (.bool true):=by
 have hpo:=peopleOk_at (ks.length:Int)
 have hpt:peopleOk (ks.length:Int)=true:=by simp [peopleOk]; omega
 rw [hpt] at hpo
 refine FZ (rs:=[.tmp 2]) false Tryz.func194 ?_
 simp -dsimp [numsV]
 refine twp_loopC (Iko ks 0) (fun s=>ks.length-natOf (s.tm 7)) (Iko ks 1) ?_ ?_ ?_
 ·exact ⟨0,by simp -dsimp,by simp -dsimp,by simp -dsimp,by simp -dsimp,by omega,by simp⟩
 ·rintro s ⟨i,t0,t5,t6,t7,hi,hend⟩
  by_cases hlt:i<ks.length
  case neg =>
   simp -dsimp [t6,t7,hlt]
   exact ⟨i,by simp -dsimp [t0],by simp -dsimp [t5],by simp -dsimp [t6],by simp -dsimp [t7],hi,fun _=>by omega⟩
  have hget:(ks.map (V.int .i64))[i]? = some (.int .i64 ks[i]):=by simp [hlt]
  have wi:IntKind.wrap .i64 ((i:Int)+1)=((i+1:Nat):Int):=by rw [w64 (by omega) (by omega)]; omega
  have hmu1:ks.length-(i+1)<ks.length-i:=by omega
  rcases kinds3_at hk hlt with hv | hv | hv 
  ·simp -dsimp [t5,t6,t7,hlt,hv,wi,hmu1]
   exact ⟨i+1,by simp -dsimp [t0],by simp -dsimp [t5],by simp -dsimp [t6],by simp -dsimp,by omega,by simp⟩
  ·simp -dsimp [t5,t6,t7,hlt,hv,wi,hmu1]
   exact ⟨i+1,by simp -dsimp [t0],by simp -dsimp [t5],by simp -dsimp [t6],by simp -dsimp,by omega,by simp⟩
  ·simp -dsimp [t5,t6,t7,hlt,hv,wi,hmu1]
   exact ⟨i+1,by simp -dsimp [t0],by simp -dsimp [t5],by simp -dsimp [t6],by simp -dsimp,by omega,by simp⟩
 ·rintro s ⟨i,t0,t5,t6,t7,hi,hend⟩
  simp -dsimp [t0]
  refine cl hpo ?_
  simp -dsimp
def Iwk (ks:List Int) (e:Nat) (s:S):Prop:=∃ i:Nat,s.tm 9=.v (.sl (ks.map (V.int .i64)))∧s.tm 10=.v (.int .i64 ks.length)∧s.tm 11=.v (.int .i64 i)∧s.tm 3=.v (.int .i64 (tabN i fun i=>decide (ks[i]? = some 1)))∧i≤ks.length∧(e=1→i=ks.length)
theorem worldOfKinds_fn (ks:List Int) (hk:kinds3 ks) (h1:1≤ks.length) (h4:ks.length≤4):FnZ Tryz.prog 215 [numsV ks] (.int .i64 (worldK ks)):=by
 have hok:=kindsOk_fn ks hk h1 h4
 refine FZ (rs:=[.tmp 2]) false Tryz.func215 ?_
 simp -dsimp [numsV]
 refine call_ hok (by simp -dsimp [numsV]) ?_
 simp -dsimp
 refine twp_loopC (Iwk ks 0) (fun s=>ks.length-natOf (s.tm 11)) (Iwk ks 1) ?_ ?_ ?_
 ·exact ⟨0,by simp -dsimp,by simp -dsimp,by simp -dsimp,by simp -dsimp [tabN],by omega,by simp⟩
 ·rintro s ⟨i,t9,t10,t11,t3,hi,hend⟩
  by_cases hlt:i<ks.length
  case neg =>
   simp -dsimp [t10,t11,hlt]
   exact ⟨i,by simp -dsimp [t9],by simp -dsimp [t10],by simp -dsimp [t11],by simp -dsimp [t3],hi,fun _=>by omega⟩
  have hget:(ks.map (V.int .i64))[i]? = some (.int .i64 ks[i]):=by simp [hlt]
  have hg2:ks[i]? = some ks[i]:=List.getElem?_eq_getElem hlt
  have wi:IntKind.wrap .i64 ((i:Int)+1)=((i+1:Nat):Int):=by rw [w64 (by omega) (by omega)]; omega
  have hmu1:ks.length-(i+1)<ks.length-i:=by omega
  have z1:¬(i:Int)<0:=by omega
  have hb:=tabN_lt (fun i=>decide (ks[i]? = some 1)) i
  have hp:2 ^ i≤2 ^ 16:=Nat.pow_le_pow_right (by omega) (by omega)
  have h2:(2:Nat) ^ i<4611686018427387904:=by omega
  have wsh:IntKind.wrap .i64 (2 ^ min i IntKind.i64.bits)=((2 ^ i:Nat):Int):=by rw [shl_fact (by omega)]; simp
  have hor:=or_ni (a:=tabN i fun i=>decide (ks[i]? = some 1)) (b:=2 ^ i) (x:=(2:Int) ^ i) (by simp) (by omega) h2
  have hsucc:tabN (i+1) (fun i=>decide (ks[i]? = some 1))=if decide (ks[i]? = some 1)=true then tabN i (fun i=>decide (ks[i]? = some 1)) ||| 2 ^ i else tabN i (fun i=>decide (ks[i]? = some 1)):=rfl
  obtain ⟨A,hA⟩:∃ A,tabN i (fun i=>decide (ks[i]? = some 1))=A:=⟨_,rfl⟩
  rw [hA] at t3 hor hsucc
  by_cases hv:ks[i]=1
  ·rw [hg2,hv,if_pos (by simp)] at hsucc
   simp -dsimp [t3,t9,t10,t11,hlt,hv,wi,hmu1,wsh,hor,z1]
   exact ⟨i+1,by simp -dsimp [t9],by simp -dsimp [t10],by simp -dsimp,by simp -dsimp [hsucc],by omega,by simp⟩
  ·rw [hg2,if_neg (by simp [hv])] at hsucc
   simp -dsimp [t3,t9,t10,t11,hlt,wi,hmu1,wsh,hor,z1,hv]
   exact ⟨i+1,by simp -dsimp [t9],by simp -dsimp [t10],by simp -dsimp,by simp -dsimp [t3,hsucc],by omega,by simp⟩
 ·rintro s ⟨i,t9,t10,t11,t3,hi,hend⟩
  have:=hend rfl
  subst this
  have e:tabN ks.length (fun i=>decide (ks[i]? = some 1))=worldK ks:=rfl
  rw [e] at t3
  simp -dsimp [t3]
theorem worldK_lt {ks:List Int} (h4:ks.length≤4):worldK ks<16:=by
 have h1:=tabN_lt (fun i=>decide (ks[i]? = some 1)) ks.length
 have h2:=pow_small h4
 have e:tabN ks.length (fun i=>decide (ks[i]? = some 1))=worldK ks:=rfl
 omega
theorem spySays_fn (ks:List Int) (c:Claim) (hk:kinds3 ks) (h:claimOk (ks.length:Nat) c=true):FnZ Tryz.prog 195 [numsV ks,c.v] (.bool (saysB ks c)):=by
 obtain ⟨hp1,hp4,h0,h1,ht,hl,hr⟩:=claim_facts h
 have hok:=kindsOk_fn ks hk (by omega) (by omega)
 have hck:=claimOk_fn (ks.length:Nat) c
 rw [h] at hck
 have hwk:=worldOfKinds_fn ks hk (by omega) (by omega)
 have hms:=maySay_fn _ c h (worldK ks) (worldK_lt (by omega))
 obtain ⟨k,hk0⟩:=Int.eq_ofNat_of_zero_le h0
 have hkl:k<ks.length:=by omega
 have e:saysB ks c=(decide (ks[k]=2) || mayB c (worldK ks)):=by
  unfold saysB
  rw [hk0,Int.toNat_natCast,List.getElem?_eq_getElem hkl]; simp
 have hget:(ks.map (V.int .i64))[k]? = some (.int .i64 ks[k]):=by simp [hkl]
 rw [e]
 obtain ⟨B,hB⟩:∃ B,mayB c (worldK ks)=B:=⟨_,rfl⟩
 rw [hB] at hms ⊢
 obtain ⟨who,says⟩:=c
 simp only at hk0
 subst hk0
 have z1:¬(k:Int)<0:=by omega
 by_cases hv:ks[k]=2
 ·rw [hv]
  refine FZ (rs:=[.tmp 4]) false Tryz.func195 ?_
  simp -dsimp [numsV]
  refine call_ hok (by simp -dsimp [numsV]) ?_
  simp -dsimp
  refine cl hck ?_
  simp -dsimp
  refine twd (List.range 13) [0] (List.replicate 13 [0]) (List.replicate 13 [0]) ?_
  simp -dsimp [List.range_succ,hkl,hv,z1]
 ·refine FZ (rs:=[.tmp 4]) false Tryz.func195 ?_
  simp -dsimp [numsV]
  refine call_ hok (by simp -dsimp [numsV]) ?_
  simp -dsimp
  refine cl hck ?_
  simp -dsimp
  refine twd (List.range 13) [0] (List.replicate 13 [0]) (List.replicate 13 [0]) ?_
  simp -dsimp [List.range_succ,hkl,z1,hv]
  refine call_ hwk (by simp -dsimp [numsV]) ?_
  simp -dsimp [hkl,z1,hv]
  refine cl hms ?_
  simp -dsimp [hv]
def Iss (ks:List Int) (l:List Claim) (e:Nat) (s:S):Prop:=∃ i:Nat,s.tm 0=.v (.sl (ks.map (V.int .i64)))∧s.tm 17=.v (.sl (l.map Claim.v))∧s.tm 18=.v (.int .i64 l.length)∧s.tm 19=.v (.int .i64 i)∧i≤l.length∧(l.take i).all (saysB ks)=true∧(e=1→i=l.length)
theorem spyStory_fn (ks:List Int) (l:List Claim) (hk:kinds3 ks) (h:storyOk (ks.length:Nat) l=true):FnZ Tryz.prog 161 [numsV ks,storyV l] (.bool (spyOk l ks)):=by
 obtain ⟨h1,h4,hc,h6⟩:=allOk_of h
 have hok:=kindsOk_fn ks hk (by omega) (by omega)
 have hst:=storyOk_fn (ks.length:Nat) l (by omega)
 rw [h] at hst
 refine FZ (rs:=[.tmp 4]) false Tryz.func161 ?_
 simp -dsimp [numsV]
 refine call_ hok (by simp -dsimp [numsV]) ?_
 simp -dsimp
 refine cl hst ?_
 simp -dsimp
 refine twp_loopC (Iss ks l 0) (fun s=>l.length-natOf (s.tm 19)) (Iss ks l 1) ?_ ?_ ?_
 ·exact ⟨0,by simp -dsimp,by simp -dsimp,by simp -dsimp,by simp -dsimp,by omega,by simp,by simp⟩
 ·rintro s ⟨i,t0,t17,t18,t19,hi,hall,hend⟩
  by_cases hlt:i<l.length
  case neg =>
   simp -dsimp [t18,t19,hlt]
   exact ⟨i,by simp -dsimp [t0],by simp -dsimp [t17],by simp -dsimp [t18],by simp -dsimp [t19],hi,hall,fun _=>by omega⟩
  have hget:(l.map Claim.v)[i]? = some (l[i].v):=by simp [hlt]
  have wi:IntKind.wrap .i64 ((i:Int)+1)=((i+1:Nat):Int):=by rw [w64 (by omega) (by omega)]; omega
  have hmu1:l.length-(i+1)<l.length-i:=by omega
  have hss:=spySays_fn ks l[i] hk (hc _ (List.getElem_mem hlt))
  have hnx:(l.take (i+1)).all (saysB ks)=((l.take i).all (saysB ks) && saysB ks l[i]):=by
   rw [List.take_succ_eq_append_getElem hlt,List.all_append]; simp
  have hwhole:saysB ks l[i]=false→spyOk l ks=false:=fun hf=>by
   unfold spyOk
   cases hq:l.all (saysB ks) with
   | false=>rfl
   | true=>rw [List.all_eq_true.1 hq _ (List.getElem_mem hlt)] at hf; cases hf
  simp -dsimp [t0,t17,t18,t19,hlt,hget,claim_cellsE]
  refine call_ hss (by simp -dsimp [numsV]) ?_
  have hb:=ft (saysB ks l[i])
  rcases hb with hb | hb
  ·have hw:=hwhole hb
   simp -dsimp [hb,hw]
  ·rw [hall,hb] at hnx
   simp -dsimp [hb,t19,wi,hmu1]
   exact ⟨i+1,by simp -dsimp [t0],by simp -dsimp [t17],by simp -dsimp [t18],by simp -dsimp,by omega,by rw [hnx]; rfl,by simp⟩
 ·rintro s ⟨i,t0,t17,t18,t19,hi,hall,hend⟩
  have:=hend rfl
  subst this
  rw [List.take_length] at hall
  have e:spyOk l ks=true:=hall
  simp -dsimp [e]
end TL

namespace TL
open Go Go.Proofs
theorem mapZ_ii:mapZ Tryz.prog 130=some (.int .i64 0):=by kernel_rfl
attribute [local simp] mapZ_ii
/-- A loop in its block at the end of another block, with a cut behind it. -/
theorem twp_loopB {P:Program} {c:Code} {i:Nat} {Q:TExit→S→Prop} {s:S} (I:S→Prop) (μ:S→Nat) (J:S→Prop) (hi:I s)
  (hs:∀ s,I s→twp P c (fun e s1=>thenP (fun s'=>I s'∧μ s'<μ s) (fun e s=>blockP i (fun e s1=>thenP J Q e s1) e s) e s1) s)
  (hj:∀ s,J s→Q .normal s):twp P (.loop c) (fun e s=>blockP i Q e s) s:=by
 refine twp_mono (.loop c) (fun e s g => ?_) (twp_loopC (A:=fun s=>Q .normal s) (Q:=Q) (i:=i) I μ J hi hs hj)
 have key:∀ e s,thenP (fun s=>Q .normal s) Q e s→Q e s:=fun e s g=>by
  cases e with
  | normal=>exact g
  | exit j=>exact g
  | ret=>exact g
 cases e with
 | normal=>exact key .normal s g
 | ret=>exact key .ret s g
 | exit j =>
  by_cases hj:j=i
  ·simp only [blockP,hj,if_true] at g ⊢; exact key _ _ g
  ·simp only [blockP,hj,if_false] at g ⊢; exact key _ _ g
theorem mget_mset (k j:Int) (v:V):∀ es:List (Int × V),mget k (mset j v es)=if k=j then some v else mget k es
 | []=>by
  simp only [mset,mget]
  by_cases h:j=k
  ·simp [h]
  ·simp [h,Ne.symm h]
 | (a,u) :: es=>by
  have ih:=mget_mset k j v es
  by_cases h:a=j
  ·subst h
   simp only [mset,if_true,mget]
   by_cases h2:a=k
   ·simp [h2]
   ·simp [h2,Ne.symm h2]
  ·simp only [mset,if_neg h,mget]
   by_cases h2:a=k
   ·subst h2; simp [h]
   ·simp only [if_neg h2,ih]
def GoodM (p:Nat) (es:List (Int × V)):Prop:=∀ (T:Nat) (v:V),mget (T:Int) es=some v→v=.int .i64 (lv p p T)
theorem GoodM.set {p T:Nat} {es:List (Int × V)} (h:GoodM p es):GoodM p (mset (T:Int) (.int .i64 (lv p p T)) es):=fun U v hv=>by
 rw [mget_mset] at hv
 split at hv
 ·rename_i he
  have:U=T:=by omega
  subst this
  cases hv; rfl
 ·exact h U v hv
theorem split_lt {p T i j:Nat} (hT:InT p T) (h:splits p T i j=true):askY p T i j<T∧askN p T i j<T:=by
 obtain ⟨h1,h2⟩:=splits_iff.1 h
 have l1:askY p T i j≤T:=Nat.and_le_left
 have l2:askN p T i j≤T:=Nat.and_le_left
 obtain ⟨u,hu⟩:=ne_zero_iff.1 h1
 obtain ⟨v,hv⟩:=ne_zero_iff.1 h2
 rw [bit_askY hT,Bool.and_eq_true] at hu
 rw [bit_askN hT,Bool.and_eq_true] at hv
 refine ⟨Nat.lt_of_le_of_ne l1 fun e => ?_,Nat.lt_of_le_of_ne l2 fun e => ?_⟩
 ·have:=bit_askY (i:=i) (j:=j) (w:=v) hT
  rw [e,hv.1] at this
  have q:=hv.2
  rw [show (v.testBit i == v.testBit j)=true by simpa using this.symm] at q
  cases q
 ·have:=bit_askN (i:=i) (j:=j) (w:=u) hT
  rw [e,hu.1,hu.2] at this
  simp at this
theorem andnot_ask {p T i j:Nat} (h4:p≤4) (hT:InT p T):IntKind.i64.wrap ((T % 2 ^ IntKind.i64.bits &&& 2 ^ IntKind.i64.bits-1-askY p T i j % 2 ^ IntKind.i64.bits:Nat):Int)=((askN p T i j:Nat):Int):=by
 have hs:T<65536:=table_small h4 hT
 have l1:askY p T i j≤T:=Nat.and_le_left
 have l2:askN p T i j≤T:=Nat.and_le_left
 have e:(T % 2 ^ IntKind.i64.bits &&& 2 ^ IntKind.i64.bits-1-askY p T i j % 2 ^ IntKind.i64.bits)=askN p T i j:=by
  have hb:IntKind.i64.bits=64:=rfl
  rw [hb]
  have e1:T % 2 ^ 64=T:=Nat.mod_eq_of_lt (by omega)
  have e2:askY p T i j % 2 ^ 64=askY p T i j:=Nat.mod_eq_of_lt (by omega)
  rw [e1,e2,show 2 ^ 64-1-askY p T i j=2 ^ 64-(askY p T i j+1) by omega]
  apply Nat.eq_of_testBit_eq; intro w
  rw [Nat.testBit_and,Nat.testBit_two_pow_sub_succ (by omega),bit_askY hT,bit_askN hT]
  cases hw:T.testBit w
  ·rfl
  ·have hw16:=hT.bit hw
   have hN:2 ^ p≤2 ^ 4:=Nat.pow_le_pow_right (by omega) h4
   have:w<64:=by omega
   simp [this]
 rw [e,w64 (by omega) (by omega)]
theorem asked_ask {p T i j:Nat} (h1:1≤p) (h4:p≤4) (hT:InT p T) (hi:i<p) (hj:j<p):asked p T i j true=((askY p T i j:Nat):Int):=by
 unfold asked
 rw [if_pos ⟨tab_ok h1 h4 hT,by omega,by omega,by omega,by omega⟩]; rfl
theorem lv_ge (p m T:Nat) : -1≤lv p m T:=by
 rcases lv_is p m T with ⟨h1,_⟩ | ⟨d,_,h2,_⟩ <;> omega
theorem updM_two (m:Mem) (i:Nat) (a b:Option Blk):updM (updM m i a) i b=updM m i b:=by
 funext x; by_cases h:x=i <;> simp [h]
def Ilo (p T id:Nat) (m0:Mem) (n0:Nat) (e:Nat) (s:S):Prop:=∃ (i:Nat) (best:Int) (es:List (Int × V)),s.tm 0=.v (.int .i64 p)∧s.tm 1=.v (.int .i64 T)∧s.tm 2=.mp id∧s.tm 9=.v (.int .i64 best)∧s.tm 32=.v (.int .i64 p)∧s.tm 33=.v (.int .i64 i)∧i≤p ∧
 InvB p T (lv p p) (fun a b=>a<i∧b<a) best∧n0≤s.n∧GoodM p es∧s.m=updM m0 id (some (.mp es))∧(e=1→i=p)
def Ili (p T id i:Nat) (m0:Mem) (n0:Nat) (e:Nat) (s:S):Prop:=∃ (j:Nat) (best:Int) (es:List (Int × V)),s.tm 0=.v (.int .i64 p)∧s.tm 1=.v (.int .i64 T)∧s.tm 2=.mp id∧s.tm 9=.v (.int .i64 best)∧s.tm 10=.v (.int .i64 i)∧s.tm 32=.v (.int .i64 p)∧s.tm 33=.v (.int .i64 i)∧s.tm 36=.v (.int .i64 i)∧s.tm 37=.v (.int .i64 j)∧j≤i ∧
 InvB p T (lv p p) (fun a b=>(a<i∧b<a)∨(a=i∧b<j)) best∧n0≤s.n∧GoodM p es∧s.m=updM m0 id (some (.mp es))∧(e=1→j=i)
theorem leastAsks_s (p:Nat) (h1:1≤p) (h4:p≤4):∀ T,InT p T→∀ (m:Mem) (n id:Nat) (es:List (Int × V)),id<n→m id=some (.mp es)→GoodM p es →
  FnS Tryz.prog 110 m n [.v (.int .i64 p),.v (.int .i64 T),.mp id] (fun t m' n'=>t=.v (.int .i64 (lv p p T))∧n≤n'∧∃ es',GoodM p es'∧m'=updM m id (some (.mp es'))):=by
 intro T
 induction T using Nat.strongRecOn with
 | _ T ih =>
 intro hT m n id es hid hm hg
 have hkt:=knownTeller_fn p T h1 h4 hT
 have hdn:=kt_done (p:=p) (T:=T)
 have hself:m=updM m id (some (.mp es)):=(updM_self hm).symm
 by_cases h0:T=0
 ·have e:lv p p T=0:=lv_done (hdn.1 (.inr h0))
  refine FS (rs:=[.tmp 6]) false Tryz.func110 ?_
  simp -dsimp [h0]
  exact ⟨by rw [← h0,e],es,hg,hself⟩
 by_cases hk:0≤kt p T
 ·have e:lv p p T=0:=lv_done (hdn.1 (.inl hk))
  generalize kt p T=q at *
  refine FS (rs:=[.tmp 6]) false Tryz.func110 ?_
  simp -dsimp [h0]
  refine cl hkt ?_
  simp -dsimp [h0,hk]
  exact ⟨by rw [e],es,hg,hself⟩
 have hd:doneT p T=false:=by
  cases hq:doneT p T
  ·rfl
  ·rcases hdn.2 hq with h | h
   ·exact absurd h hk
   ·exact absurd h h0
 generalize kt p T=q at *
 cases hme:mget (T:Int) es with
 | some v =>
  have hv:=hg T v hme
  subst hv
  refine FS (rs:=[.tmp 6]) false Tryz.func110 ?_
  simp -dsimp [h0]
  refine cl hkt ?_
  simp -dsimp [h0,hk,hm,hme]
  exact ⟨es,hg,hself⟩
 | none =>
  refine FS (rs:=[.tmp 6]) false Tryz.func110 ?_
  simp -dsimp [h0]
  refine cl hkt ?_
  simp -dsimp [h0,hk,hm,hme]
  refine twp_loopC (Ilo p T id m n 0) (fun s=>p-natOf (s.tm 33)) (Ilo p T id m n 1) ?_ ?_ ?_
  ·exact ⟨0, -1,es,by simp -dsimp,by simp -dsimp,by simp -dsimp,by simp -dsimp,by simp -dsimp,by simp -dsimp,by omega,.inl ⟨rfl,fun a b hab=>by omega⟩,by simp -dsimp,hg,by simpa -dsimp using hself,by simp⟩
  ·rintro s ⟨i,best,es1,t0,t1,t2,t9,t32,t33,hi,hinv,hn,hg1,hmm,hend⟩
   by_cases hlt:i<p
   case neg =>
    simp -dsimp [t32,t33,hlt]
    exact ⟨i,best,es1,by simp -dsimp [t0],by simp -dsimp [t1],by simp -dsimp [t2],by simp -dsimp [t9],by simp -dsimp [t32],by simp -dsimp [t33],hi,hinv,by simp -dsimp [hn],hg1,by simp -dsimp [hmm],fun _=>by omega⟩
   have wi:IntKind.wrap .i64 ((i:Int)+1)=((i+1:Nat):Int):=by rw [w64 (by omega) (by omega)]; omega
   have hmu:p-(i+1)<p-i:=by omega
   simp -dsimp [t32,t33,hlt]
   refine twp_loopB (Ili p T id i m n 0) (fun s=>i-natOf (s.tm 37)) (Ili p T id i m n 1) ?_ ?_ ?_
   ·exact ⟨0,best,es1,by simp -dsimp [t0],by simp -dsimp [t1],by simp -dsimp [t2],by simp -dsimp [t9],by simp -dsimp,by simp -dsimp [t32],by simp -dsimp [t33],by simp -dsimp,by simp -dsimp,by omega,hinv.same (fun a b=>by omega),by simp -dsimp [hn],hg1,by simp -dsimp [hmm],by simp⟩
   ·rintro s2 ⟨j,best,es2,u0,u1,u2,u9,u10,u32,u33,u36,u37,hj,hinv2,hn2,hg2,hmm2,hend2⟩
    by_cases hlt2:j<i
    case neg =>
     simp -dsimp [u36,u37,hlt2]
     exact ⟨j,best,es2,by simp -dsimp [u0],by simp -dsimp [u1],by simp -dsimp [u2],by simp -dsimp [u9],by simp -dsimp [u10],by simp -dsimp [u32],by simp -dsimp [u33],by simp -dsimp [u36],by simp -dsimp [u37],hj,hinv2,by simp -dsimp [hn2],hg2,by simp -dsimp [hmm2],fun _=>by omega⟩
    have wj:IntKind.wrap .i64 ((j:Int)+1)=((j+1:Nat):Int):=by rw [w64 (by omega) (by omega)]; omega
    have hmu2:i-(j+1)<i-j:=by omega
    have hask:=asked_fn p T i j true
    rw [asked_ask h1 h4 hT hlt (show j<p by omega)] at hask
    have hnot:=andnot_ask (i:=i) (j:=j) h4 hT
    have hstep:=hinv2.step (S':=fun a b=>(a<i∧b<a)∨(a=i∧b<j+1)) (a:=i) (c:=j) (fun a b=>by omega)
    obtain ⟨y,hY⟩:∃ y,askY p T i j=y:=⟨_,rfl⟩
    obtain ⟨z,hZ⟩:∃ z,askN p T i j=z:=⟨_,rfl⟩
    have hyT:=hT.askY (i:=i) (j:=j)
    have hzT:=hT.askN (i:=i) (j:=j)
    have hlts:=fun h=>split_lt (i:=i) (j:=j) hT h
    have hcd:candB p T (lv p p) i j=if splits p T i j=true∧0≤lv p p y∧0≤lv p p z then some (1+max (lv p p y) (lv p p z)) else none:=by rw [← hY,← hZ]; rfl
    have hspi:=splits_iff (p:=p) (T:=T) (i:=i) (j:=j)
    rw [hY] at hask hnot hyT hlts hspi
    rw [hZ] at hnot hzT hlts hspi
    cases hsp:splits p T i j with
    | false =>
     rw [hsp] at hcd hspi
     rw [hcd,if_neg (by simp)] at hstep
     simp only [stepB] at hstep
     by_cases hy0:y=0
     ·simp -dsimp [u0,u1,u2,u9,u10,u36,u37,hlt2,hnot]
      refine cl hask ?_
      simp -dsimp [u0,u1,u2,u9,u10,u36,u37,hlt2,hnot,hy0,wj,hmu2]
      exact ⟨j+1,best,es2,by simp -dsimp [u0],by simp -dsimp [u1],by simp -dsimp [u2],by simp -dsimp [u9],by simp -dsimp [u10],by simp -dsimp [u32],by simp -dsimp [u33],by simp -dsimp [u36],by simp -dsimp,by omega,hstep,by simp -dsimp; omega,hg2,by simp -dsimp [hmm2],by simp⟩
     ·have hz0:z=0:=by
       refine Classical.byContradiction fun hz => ?_
       have:=hspi.2 ⟨hy0,hz⟩
       cases this
      simp -dsimp [u0,u1,u2,u9,u10,u36,u37,hlt2,hnot]
      refine cl hask ?_
      simp -dsimp [u0,u1,u2,u9,u10,u36,u37,hlt2,hnot,hy0,hz0,wj,hmu2]
      exact ⟨j+1,best,es2,by simp -dsimp [u0],by simp -dsimp [u1],by simp -dsimp [u2],by simp -dsimp [u9],by simp -dsimp [u10],by simp -dsimp [u32],by simp -dsimp [u33],by simp -dsimp [u36],by simp -dsimp,by omega,hstep,by simp -dsimp; omega,hg2,by simp -dsimp [hmm2],by simp⟩
    | true =>
     rw [hsp] at hspi hcd
     obtain ⟨hy0,hz0⟩:=hspi.1 rfl
     obtain ⟨l1,l2⟩:=hlts hsp
     have ihy:=ih y l1 hyT
     have ihz:=ih z l2 hzT
     have a1:=lv_ge p p y
     have a2:=lv_lt (m:=p) h1 hyT
     have b1:=lv_ge p p z
     have b2:=lv_lt (m:=p) h1 hzT
     obtain ⟨a,ha⟩:∃ a,lv p p y=a:=⟨_,rfl⟩
     obtain ⟨b,hb⟩:∃ b,lv p p z=b:=⟨_,rfl⟩
     simp only [ha,hb] at ihy ihz a1 a2 b1 b2 hcd
     have wab:IntKind.wrap .i64 (1+max a b)=1+max a b:=w64 (by omega) (by omega)
     simp -dsimp [u0,u1,u2,u9,u10,u36,u37,hlt2,hnot]
     refine cl hask ?_
     simp -dsimp [u0,u1,u2,u9,u10,u36,u37,hlt2,hnot,hy0,hz0]
     refine callS_ (ihy s2.m s2.n id es2 (by omega) (by rw [hmm2]; simp) hg2) ?_
     rintro t m3 n3 ⟨rfl,hn3,es3,hg3,rfl⟩
     simp -dsimp [u0,u1,u2,u9,u10,u36,u37,hlt2,hnot,hy0,hz0]
     refine callS_ (ihz _ n3 id es3 (by omega) (by simp) hg3) ?_
     rintro t m4 n4 ⟨rfl,hn4,es4,hg4,rfl⟩
     by_cases ca:0≤a
     case neg =>
      rw [hcd,if_neg (by omega)] at hstep
      simp only [stepB] at hstep
      simp -dsimp [u0,u1,u2,u9,u10,u36,u37,hlt2,hnot,ca,wj,hmu2]
      exact ⟨j+1,best,es4,by simp -dsimp [u0],by simp -dsimp [u1],by simp -dsimp [u2],by simp -dsimp [u9],by simp -dsimp [u10],by simp -dsimp [u32],by simp -dsimp [u33],by simp -dsimp [u36],by simp -dsimp,by omega,hstep,by simp -dsimp; omega,hg4,by simp -dsimp [hmm2,updM_two],by simp⟩
     by_cases cb:0≤b
     case neg =>
      rw [hcd,if_neg (by omega)] at hstep
      simp only [stepB] at hstep
      simp -dsimp [u0,u1,u2,u9,u10,u36,u37,hlt2,hnot,ca,cb,wj,hmu2]
      exact ⟨j+1,best,es4,by simp -dsimp [u0],by simp -dsimp [u1],by simp -dsimp [u2],by simp -dsimp [u9],by simp -dsimp [u10],by simp -dsimp [u32],by simp -dsimp [u33],by simp -dsimp [u36],by simp -dsimp,by omega,hstep,by simp -dsimp; omega,hg4,by simp -dsimp [hmm2,updM_two],by simp⟩
     rw [hcd,if_pos (by simp [ca,cb])] at hstep
     simp only [stepB] at hstep
     by_cases cc:best<0
     ·rw [if_pos (.inl cc)] at hstep
      simp -dsimp [u0,u1,u2,u9,u10,u36,u37,hlt2,hnot,ca,cb,cc,wab,wj,hmu2]
      exact ⟨j+1,1+max a b,es4,by simp -dsimp [u0],by simp -dsimp [u1],by simp -dsimp [u2],by simp -dsimp [u9],by simp -dsimp [u10],by simp -dsimp [u32],by simp -dsimp [u33],by simp -dsimp [u36],by simp -dsimp,by omega,hstep,by simp -dsimp; omega,hg4,by simp -dsimp [hmm2,updM_two],by simp⟩
     by_cases cd:1+max a b<best
     ·rw [if_pos (.inr cd)] at hstep
      simp -dsimp [u0,u1,u2,u9,u10,u36,u37,hlt2,hnot,ca,cb,cc,cd,wab,wj,hmu2]
      exact ⟨j+1,1+max a b,es4,by simp -dsimp [u0],by simp -dsimp [u1],by simp -dsimp [u2],by simp -dsimp [u9],by simp -dsimp [u10],by simp -dsimp [u32],by simp -dsimp [u33],by simp -dsimp [u36],by simp -dsimp,by omega,hstep,by simp -dsimp; omega,hg4,by simp -dsimp [hmm2,updM_two],by simp⟩
     ·rw [if_neg (by omega)] at hstep
      simp -dsimp [u0,u1,u2,u9,u10,u36,u37,hlt2,hnot,ca,cb,cc,cd,wab,wj,hmu2]
      exact ⟨j+1,best,es4,by simp -dsimp [u0],by simp -dsimp [u1],by simp -dsimp [u2],by simp -dsimp [u9],by simp -dsimp [u10],by simp -dsimp [u32],by simp -dsimp [u33],by simp -dsimp [u36],by simp -dsimp,by omega,hstep,by simp -dsimp; omega,hg4,by simp -dsimp [hmm2,updM_two],by simp⟩
   ·rintro s2 ⟨j,best,es2,u0,u1,u2,u9,u10,u32,u33,u36,u37,hj,hinv2,hn2,hg2,hmm2,hend2⟩
    have:=hend2 rfl
    subst this
    simp -dsimp [u0,u33,wi,hmu,t33]
    exact ⟨j+1,best,es2,by simp -dsimp [u0],by simp -dsimp [u1],by simp -dsimp [u2],by simp -dsimp [u9],by simp -dsimp [u32],by simp -dsimp,by omega,hinv2.same (fun a b=>by omega),by simp -dsimp [hn2],hg2,by simp -dsimp [hmm2],by simp⟩
  ·rintro s ⟨i,best,es1,t0,t1,t2,t9,t32,t33,hi,hinv,hn,hg1,hmm,hend⟩
   have:=hend rfl
   subst this
   have hlv:=(hinv.lv hT hd (fun a b hab=>by omega) (fun a b ha hb=>.inl ⟨ha,hb⟩)).down h1 (by omega) hT
   have e:best=lv i i T:=IsLv.uniq hlv (lv_is i i T)
   subst e
   simp -dsimp [t1,t2,t9,hmm,V.flat]
   exact ⟨by omega,_,hg1.set (T:=T),rfl⟩
end TL
