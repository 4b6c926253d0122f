/- TL: parts Fns9, FnsX, FnsR3, TlRow, Fns12, FnsD, Fns15, FnsR4, FnsR6, FnsE1, FnsL1, TlOpen, FnsE2, FnsE4, FnsE7, FnsL2, FnsE8, FnsE9, FnsE10. -/
import Derived.Test.YtnimfdpinpggdabGreatDoorGd
import Derived.Test.YtnimfdpinpggdabGreatDoorGc
import Derived.Lib.ItoaNum
import Derived.Test.YtnimfdpinpggdabGreatDoorShelfA
import Derived.Shelf.Strings.OnBuilder
import Derived.Shelf.Strconv.Itoa3
import Derived.ChangeArms
import Derived.WideShapes
import Derived.Lib.Split
import Derived.Lib.SplitLaws
import Derived.Test.YtnimfdpinpggdabGreatDoorShelfB
import Derived.KernelRfl
set_option linter.unusedSimpArgs false
set_option linter.unusedVariables false
set_option maxRecDepth 100000
set_option maxHeartbeats 4000000
set_option pp.maxSteps 1500
namespace TL
open Go Go.Proofs
attribute [local simp] marksV storyV codeV Claim.v Place.v
theorem peopleOk_at (p:Int):FnZ Tryz.prog 88 [.int .i64 p] (.bool (peopleOk p)):=peopleOk_fn p
def claimOk (people:Int) (c:Claim):Bool:=peopleOk people && decide (0≤c.who) && decide (c.who<people) && termOk people c.says && decide (c.says.length≤13)
def storyOk (people:Int) (story:List Claim):Bool:=story.all (claimOk people) && peopleOk people && decide (story.length≤6)
def placeOk (p:Place):Bool:=storyOk p.people p.story
/-- Rows that fit into a machine. -/
def Claim.fine (c:Claim):Prop:=fits c.says∧c.says.length<1000000000000
def Place.fine (p:Place):Prop:=p.story.length<1000000000000∧∀ c ∈ p.story,c.fine
theorem claimOk_fn (people:Int) (c:Claim):FnZ Tryz.prog 139 [.int .i64 people,c.v] (.bool (claimOk people c)):=by
 refine FZ (rs:=[.tmp 4]) false Tryz.func139 ?_
 have hk:=ft (peopleOk people)
 rcases hk with hk | hk
 ·simp -dsimp
  refine cl (peopleOk_at people) ?_
  simp -dsimp [hk,claimOk]
 ·by_cases h1:0≤c.who
  case neg =>
   simp -dsimp
   refine cl (peopleOk_at people) ?_
   simp -dsimp [hk,claimOk,h1]
  by_cases h2:c.who<people
  case neg =>
   simp -dsimp
   refine cl (peopleOk_at people) ?_
   simp -dsimp [hk,claimOk,h1,h2]
  simp -dsimp
  refine cl (peopleOk_at people) ?_
  simp -dsimp [hk,h1,h2]
  refine cl (termOk_fn people c.says) ?_
  have ht:=ft (termOk people c.says)
  rcases ht with ht | ht
  ·simp -dsimp [hk,claimOk,h1,h2,ht]
  ·simp -dsimp [hk,claimOk,h1,h2,ht]
   omega
theorem claimOk_eq (people:Int) (c:Claim):claimOk people c=(decide (0≤c.who) && decide (c.who<people) && termOk people c.says && decide (c.says.length≤13)):=by
 unfold claimOk termOk
 cases peopleOk people <;> simp
theorem claimOkS_fn (people:Int) (c:Claim) (hc:c.fine):FnZ Tryz.prog 138 [.int .i64 people,c.v] (.bool (claimOk people c)):=by
 rw [claimOk_eq]
 refine FZ (rs:=[.tmp 4]) false Tryz.func138 ?_
 by_cases h1:0≤c.who
 case neg=>simp -dsimp [h1]
 by_cases h2:c.who<people
 case neg=>simp -dsimp [h1,h2]
 simp -dsimp [h1,h2]
 refine cl (termOkS_fn people c.says hc.1 hc.2) ?_
 have ht:=ft (termOk people c.says)
 rcases ht with ht | ht
 ·simp -dsimp [h1,h2,ht]
 ·simp -dsimp [h1,h2,ht]
  omega
def SOI (people:Int) (l:List Claim) (a b c:Nat) (e:Nat) (s:S):Prop:=∃ i:Nat,s.tm 0=.v (.int .i64 people)∧s.tm a=.v (.sl (l.map Claim.v))∧(c=0∨s.tm c=.v (.int .i64 l.length))∧s.tm 1=.v (.sl (l.map Claim.v))∧s.tm b=.v (.int .i64 i)∧i≤l.length∧(l.take i).all (claimOk people)=true∧(e=1→i=l.length)
theorem all_take_succ {α:Type} {l:List α} {f:α→Bool} {i:Nat} (h:i<l.length):(l.take (i+1)).all f=((l.take i).all f && f l[i]):=by
 rw [List.take_succ_eq_append_getElem h]; simp only [List.all_append,List.all_cons,List.all_nil,Bool.and_true]
theorem all_bad {α:Type} {l:List α} {f:α→Bool} {i:Nat} (h:i<l.length) (hf:f l[i]=false):l.all f=false:=by
 rw [List.all_eq_false]; exact ⟨l[i],List.getElem_mem _,by simp [hf]⟩
theorem storyOk_fn (people:Int) (l:List Claim) (hl:l.length<1000000000000):FnZ Tryz.prog 89 [.int .i64 people,storyV l] (.bool (storyOk people l)):=by
 refine FZ (rs:=[.tmp 4]) false Tryz.func89 ?_
 simp -dsimp
 refine twp_loopC (SOI people l 7 9 8 0) (fun s=>l.length-natOf (s.tm 9)) (SOI people l 7 9 8 1) ?_ ?_ ?_
 ·exact ⟨0,by simp -dsimp,by simp -dsimp,.inr (by simp -dsimp),by simp -dsimp,by simp -dsimp,by simp,by simp,by simp⟩
 ·rintro s ⟨i,h0,h7,h8,h1,h9,hi,hall,hend⟩
  have h8:=h8.resolve_left (by decide)
  by_cases hlt:i<l.length
  case neg =>
   simp -dsimp [h9,h8,hlt]
   exact ⟨i,by simp -dsimp [h0],by simp -dsimp [h7],.inr (by simp -dsimp [h8]),by simp -dsimp [h1],by simp -dsimp [h9],hi,hall,fun _=>by omega⟩
  have hget:(l.map Claim.v)[i]? = some l[i].v:=by simp [hlt]
  have hcl:l[i].v=.agg [.int .i64 l[i].who,.sl (l[i].says.map Mark.v)]:=rfl
  have hall':=all_take_succ (f:=claimOk people) hlt
  have wi:IntKind.wrap .i64 ((i:Int)+1)=((i+1:Nat):Int):=by rw [w64 (by omega) (by omega)]; omega
  have hmu:l.length-(i+1)<l.length-i:=by omega
  have hbad:=all_bad (f:=claimOk people) hlt
  simp -dsimp [h9,h8,h7,h0,hlt,hget]
  refine cl (claimOk_fn people l[i]) ?_
  have hc:=ft (claimOk people l[i])
  rcases hc with hc | hc
  ·simp -dsimp [hc,storyOk,hbad hc]
  ·simp -dsimp [hc,h9,wi,hmu]
   exact ⟨i+1,by simp -dsimp [h0],by simp -dsimp [h7],.inr (by simp -dsimp [h8]),by simp -dsimp [h1],by simp -dsimp,by omega,by rw [hall',hall,hc]; rfl,by simp⟩
 ·rintro s ⟨i,h0,h7,h8,h1,h9,hi,hall,hend⟩
  have:=hend rfl
  subst this
  rw [List.take_length] at hall
  simp -dsimp [h0]
  refine cl (peopleOk_at people) ?_
  have hk:=ft (peopleOk people)
  rcases hk with hk | hk
  ·simp -dsimp [storyOk,hk]
  ·simp -dsimp [h1,storyOk,hk,hall]
   omega
theorem storyOkS_fn (people:Int) (l:List Claim) (hl:l.length<1000000000000) (hf:∀ c ∈ l,c.fine):FnZ Tryz.prog 87 [.int .i64 people,storyV l] (.bool (storyOk people l)):=by
 refine FZ (rs:=[.tmp 4]) false Tryz.func87 ?_
 simp -dsimp
 refine twp_loopC (SOI people l 1 5 0 0) (fun s=>l.length-natOf (s.tm 5)) (SOI people l 1 5 0 1) ?_ ?_ ?_
 ·exact ⟨0,by simp -dsimp,by simp -dsimp,.inl rfl,by simp -dsimp,by simp -dsimp,by simp,by simp,by simp⟩
 ·rintro s ⟨i,h0,h7,_,h1,h9,hi,hall,hend⟩
  by_cases hlt:i<l.length
  case neg =>
   simp -dsimp [h9,h1,hlt]
   exact ⟨i,by simp -dsimp [h0],by simp -dsimp [h7],.inl rfl,by simp -dsimp [h1],by simp -dsimp [h9],hi,hall,fun _=>by omega⟩
  have hget:(l.map Claim.v)[i]? = some l[i].v:=by simp [hlt]
  have hcl:l[i].v=.agg [.int .i64 l[i].who,.sl (l[i].says.map Mark.v)]:=rfl
  have hall':=all_take_succ (f:=claimOk people) hlt
  have wi:IntKind.wrap .i64 ((i:Int)+1)=((i+1:Nat):Int):=by rw [w64 (by omega) (by omega)]; omega
  have hmu:l.length-(i+1)<l.length-i:=by omega
  have hbad:=all_bad (f:=claimOk people) hlt
  simp -dsimp [h9,h1,h0,hlt,hget]
  refine cl (claimOkS_fn people l[i] (hf _ (List.getElem_mem _))) ?_
  have hc:=ft (claimOk people l[i])
  rcases hc with hc | hc
  ·simp -dsimp [hc,storyOk,hbad hc]
  ·simp -dsimp [hc,h9,wi,hmu]
   exact ⟨i+1,by simp -dsimp [h0],by simp -dsimp [h7],.inl rfl,by simp -dsimp [h1],by simp -dsimp,by omega,by rw [hall',hall,hc]; rfl,by simp⟩
 ·rintro s ⟨i,h0,h7,h8,h1,h9,hi,hall,hend⟩
  have:=hend rfl
  subst this
  rw [List.take_length] at hall
  simp -dsimp [h0]
  refine cl (l1In_fn people 1 4) ?_
  have hpk:inR people 1 4=peopleOk people:=rfl
  have hk:=ft (peopleOk people)
  rcases hk with hk | hk
  ·simp -dsimp [storyOk,hk,hpk]
  ·simp -dsimp [h1,storyOk,hk,hall,hpk]
   omega
theorem placeOk_fn (p:Place) (hl:p.story.length<1000000000000):FnZ Tryz.prog 32 [p.v] (.bool (placeOk p)):=by
 refine FZ (rs:=[.tmp 2]) false Tryz.func32 ?_
 simp -dsimp
 refine cl (storyOk_fn p.people p.story hl) ?_
 simp -dsimp [placeOk]
theorem placeOkS_fn (p:Place) (hp:p.fine):FnZ Tryz.prog 30 [p.v] (.bool (placeOk p)):=by
 refine FZ (rs:=[.tmp 2]) false Tryz.func30 ?_
 simp -dsimp
 refine cl (storyOkS_fn p.people p.story hp.1 hp.2) ?_
 simp -dsimp [placeOk]
end TL

namespace TL
open Go Go.Proofs
attribute [local simp] marksV storyV codeV Claim.v Place.v
theorem claimOk_who {people:Int} {c:Claim} (h:claimOk people c=true):0≤c.who∧c.who<4∧termOk people c.says=true∧c.says.length≤13:=by
 simp only [claimOk,peopleOk,Bool.and_eq_true,decide_eq_true_eq] at h
 exact ⟨by omega,by omega,h.1.2,h.2⟩
/-- The text of a claim whose term is a tree. -/
def claimText (c:Claim) (T:Tm):List UInt8:=UInt8.ofNat (97+c.who.toNat) :: 58 :: T.text
theorem claimText_no (people:Int) (c:Claim) (h:claimOk people c=false):FnZ Tryz.prog 92 [.int .i64 people,c.v] (.str []):=by
 refine FZ (rs:=[.tmp 4]) false Tryz.func92 ?_
 simp -dsimp
 refine cl (claimOk_fn people c) ?_
 simp -dsimp [h]
theorem claimTextS_no (people:Int) (c:Claim) (hf:c.fine) (h:claimOk people c=false):FnZ Tryz.prog 96 [.int .i64 people,c.v] (.str []):=by
 refine FZ (rs:=[.tmp 4]) false Tryz.func96 ?_
 simp -dsimp
 refine cl (claimOkS_fn people c hf) ?_
 simp -dsimp [h]
theorem claimText_fn (people:Int) (c:Claim) (h:claimOk people c=true) (T:Tm) (hT:T.ok) (hm:T.marks=c.says):FnZ Tryz.prog 92 [.int .i64 people,c.v] (.str (claimText c T)):=by
 obtain ⟨h0,h4,ht,hl⟩:=claimOk_who h
 have htx:=textOf_fn T hT (by rw [hm]; omega)
 rw [hm] at htx
 have hlen:=T.text_len
 rw [hm] at hlen
 have w1:IntKind.wrap .i64 (97+c.who)=97+c.who:=w64 (by omega) (by omega)
 have w2:IntKind.wrap .u8 (97+c.who)=97+c.who:=by rw [IntKind.wrap_u8]; omega
 have w3:(97+c.who).toNat=97+c.who.toNat:=by omega
 have c1:(1:Int)+1+T.text.length≤9223372036854775807:=by omega
 have c2:(2:Int)+T.text.length≤9223372036854775807:=by omega
 unfold claimText
 generalize T.text=s at *
 refine FZ (rs:=[.tmp 4]) false Tryz.func92 ?_
 simp -dsimp
 refine cl (claimOk_fn people c) ?_
 simp -dsimp [h]
 refine twd [0,1,2,3,7,8,1009,4,5,6,10,11] [0,1] [[0],[0],[0],[0],[0],[0,1],[0],[0],[0],[0],[0],[0]] (List.replicate 4 [0,1]++[[0]]++List.replicate 7 [0,1]) ?_
 simp -dsimp [List.range_succ,w1,w2,w3]
 refine pure_ htx (by simp -dsimp) ?_
 simp -dsimp [List.range_succ,w1,w2,w3,c1,c2]
theorem claimTextS_fn (people:Int) (c:Claim) (hf:c.fine) (h:claimOk people c=true) (T:Tm) (hT:T.ok) (hm:T.marks=c.says):FnZ Tryz.prog 96 [.int .i64 people,c.v] (.str (claimText c T)):=by
 obtain ⟨h0,h4,ht,hl⟩:=claimOk_who h
 have htx:=l2Text_fn T hT (by rw [hm]; omega)
 rw [hm] at htx
 have hlen:=T.text_len
 rw [hm] at hlen
 have c1:(1:Int)+1+T.text.length≤9223372036854775807:=by omega
 have c2:(2:Int)+T.text.length≤9223372036854775807:=by omega
 have hw:c.who=0∨c.who=1∨c.who=2∨c.who=3:=by omega
 have hok:=claimOkS_fn people c hf
 rw [h] at hok
 unfold claimText
 generalize T.text=s at *
 obtain ⟨who,says⟩:=c
 simp only at hw
 rcases hw with rfl | rfl | rfl | rfl
 all_goals
  refine FZ (rs:=[.tmp 4]) false Tryz.func96 ?_
  simp -dsimp
  refine cl hok ?_
  simp -dsimp
  refine twd (List.range 12) [0] (List.replicate 12 [0]) (List.replicate 12 [0]) ?_
  simp -dsimp [List.range_succ,show IntKind.wrap .i64 1=1 from rfl,show IntKind.wrap .i64 2=2 from rfl,show IntKind.wrap .i64 3=3 from rfl,show IntKind.wrap .i64 4=4 from rfl]
  refine cl htx ?_
  simp -dsimp [List.range_succ,c1,c2]
end TL

namespace TL
def Tm.bins:Tm→Nat
 | .tells _=>0
 | .count _=>0
 | .not a=>a.bins
 | .bin _ a b=>a.bins+b.bins+1
theorem Tm.bins_le:∀ T:Tm,2 * T.bins+1≤T.marks.length
 | .tells _=>by simp [bins,marks]
 | .count _=>by simp [bins,marks]
 | .not a=>by have:=a.bins_le; simp [bins,marks]; omega
 | .bin k a b=>by have:=a.bins_le; have:=b.bins_le; simp [bins,marks]; omega
theorem par_len2 (q:Bool) (T:Tm) (hq:q=true→3≤T.kind) (h:T.text.length+(if 3≤T.kind then 2 else 0)≤T.marks.length+2 * T.bins):(par q T.text).length≤T.marks.length+2 * T.bins:=by
 cases q with
 | false=>simp only [par,Bool.false_eq_true,if_false]; omega
 | true =>
  have:=hq rfl
  rw [if_pos this] at h
  simp [par]; omega
theorem Tm.text_len2:∀ T:Tm,T.text.length+(if 3≤T.kind then 2 else 0)≤T.marks.length+2 * T.bins
 | .tells _=>by simp [text,marks,kind,bins]
 | .count _=>by simp [text,marks,kind,bins]
 | .not a=>by
  have:=par_len2 (decide (3≤a.kind)) a (by simp) a.text_len2
  rw [if_neg (by simp [kind])]
  simp only [text,marks,bins,List.length_append,List.length_cons,List.length_nil]; omega
 | .bin k a b=>by
  have h1:=par_len2 (decide (3+k<a.kind)) a (by simp; omega) a.text_len2
  have h2:=par_len2 (decide (3+k≤b.kind)) b (by simp; omega) b.text_len2
  rw [if_pos (by simp [kind])]
  simp only [text,marks,bins,List.length_append,List.length_cons,List.length_nil]; omega
theorem Tm.text_short (T:Tm):T.text.length+1≤2 * T.marks.length:=by
 have:=T.text_len2; have:=T.bins_le
 have h:T.text.length≤T.marks.length+2 * T.bins:=by omega
 omega
theorem termText_len {people:Int} {t:List Mark} (h:termOk people t=true):(termText people t).length+1≤2 * t.length:=by
 obtain ⟨T,_,h2,h3⟩:=termText_tree h
 rw [← h3,← h2]; exact T.text_short
theorem termOk_len {people:Int} {t:List Mark} (h:termOk people t=true):1≤t.length∧t.length≤15∧1≤people∧people≤4:=by
 simp only [termOk,peopleOk,Bool.and_eq_true,decide_eq_true_eq] at h
 omega
/-- No blank, no newline, no comma, no dot, no colon. -/
def plain (c:UInt8):Prop:=c ≠ 32∧c ≠ 10∧c ≠ 44∧c ≠ 46∧c ≠ 58
theorem par_plain {q:Bool} {s:List UInt8} (h:∀ c ∈ s,plain c):∀ c ∈ par q s,plain c:=by
 cases q with
 | false=>exact h
 | true =>
  intro c hc
  simp only [par,if_true,List.mem_cons,List.mem_append,List.mem_nil_iff,or_false] at hc
  rcases hc with rfl | hc | rfl
  ·exact ⟨by decide,by decide,by decide,by decide,by decide⟩
  ·exact h c hc
  ·exact ⟨by decide,by decide,by decide,by decide,by decide⟩
theorem Tm.text_plain:∀ T:Tm,T.ok→∀ c ∈ T.text,plain c
 | .tells i,h,c,hc=>by
  have hi:i<4:=h
  cases List.mem_singleton.1 hc
  rcases (by omega:i=0∨i=1∨i=2∨i=3) with rfl | rfl | rfl | rfl <;> exact ⟨by decide,by decide,by decide,by decide,by decide⟩
 | .count i,h,c,hc=>by
  have hi:i<6:=h
  cases List.mem_singleton.1 hc
  rcases (by omega:i=0∨i=1∨i=2∨i=3∨i=4∨i=5) with rfl | rfl | rfl | rfl | rfl | rfl <;> exact ⟨by decide,by decide,by decide,by decide,by decide⟩
 | .not a,h,c,hc=>by
  rcases List.mem_cons.1 hc with rfl | hc
  ·exact ⟨by decide,by decide,by decide,by decide,by decide⟩
  ·exact par_plain (a.text_plain h) c hc
 | .bin k a b,h,c,hc=>by
  rcases List.mem_append.1 hc with hc | hc
  ·exact par_plain (a.text_plain h.2.1) c hc
  rcases List.mem_cons.1 hc with rfl | hc
  ·have hk:=h.1
   rcases (by omega:k=0∨k=1∨k=2) with rfl | rfl | rfl <;> exact ⟨by decide,by decide,by decide,by decide,by decide⟩
  ·exact par_plain (b.text_plain h.2.2) c hc
theorem termText_plain {people:Int} {t:List Mark} (h:termOk people t=true):∀ c ∈ termText people t,plain c:=by
 obtain ⟨T,h1,_,h3⟩:=termText_tree h
 rw [← h3]; exact T.text_plain h1
/-- The text of a claim. -/
noncomputable def claimTx (people:Int) (c:Claim):List UInt8:=if claimOk people c=true then UInt8.ofNat (97+c.who.toNat) :: 58 :: termText people c.says else []
theorem claimOk_all {people:Int} {c:Claim} (h:claimOk people c=true):1≤people∧people≤4∧0≤c.who∧c.who<people∧termOk people c.says=true∧c.says.length≤13:=by
 simp only [claimOk,peopleOk,Bool.and_eq_true,decide_eq_true_eq] at h
 exact ⟨by omega,by omega,by omega,by omega,h.1.2,h.2⟩
theorem claimTx_fn (people:Int) (c:Claim):FnZ Go.Proofs.Tryz.prog 92 [.int .i64 people,c.v] (.str (claimTx people c)):=by
 have hk:=ft (claimOk people c)
 rcases hk with hk | hk
 ·have:=claimText_no people c hk
  unfold claimTx; rw [if_neg (by simp [hk])]; exact this
 ·obtain ⟨T,h1,h2,h3⟩:=termText_tree (claimOk_all hk).2.2.2.2.1
  have:=claimText_fn people c hk T h1 h2
  unfold claimTx; rw [if_pos hk,← h3]; exact this
theorem claimTxS_fn (people:Int) (c:Claim) (hf:c.fine):FnZ Go.Proofs.Tryz.prog 96 [.int .i64 people,c.v] (.str (claimTx people c)):=by
 have hk:=ft (claimOk people c)
 rcases hk with hk | hk
 ·have:=claimTextS_no people c hf hk
  unfold claimTx; rw [if_neg (by simp [hk])]; exact this
 ·obtain ⟨T,h1,h2,h3⟩:=termText_tree (claimOk_all hk).2.2.2.2.1
  have:=claimTextS_fn people c hf hk T h1 h2
  unfold claimTx; rw [if_pos hk,← h3]; exact this
theorem letter_back {w:Int} (h0:0≤w) (h4:w<4):((UInt8.ofNat (97+w.toNat)).toNat:Int)-97=w:=by
 rw [UInt8.toNat_ofNat']; omega
theorem letter_fwd (a:UInt8) (w:Int) (h:w=(a.toNat:Int)-97) (h0:0≤w):UInt8.ofNat (97+w.toNat)=a:=by
 have:=UInt8.toNat_lt a
 apply UInt8.toNat.inj
 rw [UInt8.toNat_ofNat']; omega
theorem claimTx_len {people:Int} {c:Claim} (h:claimOk people c=true):3≤(claimTx people c).length∧(claimTx people c).length≤27∧(termText people c.says).length≤25∧1≤(termText people c.says).length:=by
 obtain ⟨h1,h2,h3,h4,h5,h6⟩:=claimOk_all h
 have:=termText_len h5
 have hp:=List.length_pos_iff.2 (termText_pos h5)
 unfold claimTx; rw [if_pos h]; simp; omega
/-- What ReadClaim finds. -/
noncomputable def readC (people:Int) (s:List UInt8):Option Claim:=match s with
 | a :: b :: rest=>if b=58 then (readT people rest).bind fun t=>if claimOk people ⟨(a.toNat:Int)-97,t⟩=true then some ⟨(a.toNat:Int)-97,t⟩ else none else none
 | _=>none
theorem readC_text {people:Int} {c:Claim} (h:claimOk people c=true):readC people (claimTx people c)=some c:=by
 obtain ⟨h1,h2,h3,h4,h5,h6⟩:=claimOk_all h
 have hl:=(claimTx_len h).2.2.1
 unfold claimTx; rw [if_pos h]
 unfold readC
 simp only [if_true]
 rw [readT_some (by omega) h5 rfl]
 simp only [Option.bind_some]
 rw [letter_back h3 (by omega)]
 exact if_pos h
theorem readC_is {people:Int} {s:List UInt8} {c:Claim} (h:readC people s=some c):claimOk people c=true∧claimTx people c=s:=by
 unfold readC at h
 split at h
 ·rename_i a b rest
  split at h
  ·rename_i hb
   cases e:readT people rest with
   | none=>rw [e] at h; cases h
   | some t =>
    rw [e,Option.bind_some] at h
    split at h
    ·rename_i hk
     cases h
     obtain ⟨_,h2,h3⟩:=readT_is e
     refine ⟨hk, ?_⟩
     obtain ⟨_,_,g3,_,_,_⟩:=claimOk_all hk
     unfold claimTx
     rw [if_pos hk,letter_fwd a _ rfl g3,hb,h3]
    ·cases h
  ·cases h
 ·cases h
end TL

namespace TL
open Go
/-- The cells of an element. -/
def cellsT (x:V):List T:=x.cells.map .v
/-- A row of which the first i are filled. -/
def filled {α:Type} (v:α→V) (zs:List T) (l:List α) (i:Nat):List (List T):=(l.take i).map (fun a=>cellsT (v a))++List.replicate (l.length-i) zs
/-- Elements of k cells. -/
def ElemOk {α:Type} (v:α→V) (k:Nat):Prop:=∀ a,(v a).cells.length=k∧(∀ c ∈ (v a).cells,c.cell=true)∧(if k=1 then (v a).cells=[v a] else v a=.agg (v a).cells)
theorem chunk_elems {α:Type} {v:α→V} {k:Nat} (hv:ElemOk v k):∀ l:List α,chunk k l.length (l.flatMap fun a=>(v a).cells)=l.map v
 | []=>rfl
 | a :: l=>by
  obtain ⟨h1,h2,h3⟩:=hv a
  simp only [List.length_cons,chunk,List.flatMap_cons,List.map_cons]
  rw [List.drop_append_of_le_length (by omega),List.drop_eq_nil_of_le (by omega),List.nil_append,chunk_elems hv l]
  congr 1
  by_cases hk:k=1
  ·rw [if_pos hk] at h3 ⊢; rw [h3]; rfl
  ·rw [if_neg hk] at h3 ⊢
   rw [List.take_append_of_le_length (by omega),List.take_of_length_le (by omega),← h3]
end TL

namespace TL
open Go Go.Proofs
attribute [local simp] marksV storyV codeV Claim.v Place.v
theorem elemOk_place:ElemOk Place.v 2:=fun a=>⟨rfl,by simp,by simp⟩
def Claim.small (c:Claim):Prop:=c.says.length≤1048576
def Place.small (p:Place):Prop:=p.story.length≤1048576∧∀ c ∈ p.story,c.small
theorem take_eq_succ {α:Type} {a b:List α} {i:Nat} (ha:i<a.length) (hb:i<b.length) (h:a.take i=b.take i) (he:a[i]=b[i]):a.take (i+1)=b.take (i+1):=by
 rw [List.take_succ_eq_append_getElem ha,List.take_succ_eq_append_getElem hb,h,he]
end TL

namespace TL
open Go Go.Proofs
attribute [local simp] marksV storyV codeV Claim.v Place.v
structure Desk where
 now:Place
 past:List Place
 deriving DecidableEq
def Desk.v (d:Desk):V:=.agg [.int .i64 d.now.people,storyV d.now.story,.sl (d.past.map Place.v)]
def Desk.small (d:Desk):Prop:=d.now.small∧d.past.length≤1048576∧∀ p ∈ d.past,p.small
attribute [local simp] Desk.v
def deskOk (d:Desk):Bool:=d.past.all placeOk && placeOk d.now && decide (d.past.length≤8)
def IdeskOk (d:Desk) (e:Nat) (s:S):Prop:=∃ i:Nat,s.tm 1=.ptr 0 0∧s.m 0=some (.box 28 3 [.v (.int .i64 d.now.people),.v (storyV d.now.story),.v (.sl (d.past.map Place.v))])∧1≤s.n∧s.tm 6=.v (.sl (d.past.map Place.v))∧s.tm 7=.v (.int .i64 d.past.length)∧s.tm 8=.v (.int .i64 i) ∧
 i≤d.past.length∧(d.past.take i).all placeOk=true∧(e=1→i=d.past.length)
theorem deskOk_fn (d:Desk) (hl:d.past.length≤1000000000000) (hn:d.now.story.length<1000000000000) (hs:∀ p ∈ d.past,p.story.length<1000000000000):FnZ Tryz.prog 12 [d.v] (.bool (deskOk d)):=by
 refine FZ (rs:=[.tmp 2]) false Tryz.func12 ?_
 simp -dsimp
 refine twp_loopC (IdeskOk d 0) (fun s=>d.past.length-natOf (s.tm 8)) (IdeskOk d 1) ?_ ?_ ?_
 ·exact ⟨0,by simp -dsimp,by simp -dsimp,by simp -dsimp,by simp -dsimp,by simp -dsimp,by simp -dsimp,by omega,by simp,by simp⟩
 ·rintro s ⟨i,t1,m0,h1,t6,t7,t8,hi,hall,hend⟩
  by_cases hlt:i<d.past.length
  case neg =>
   simp -dsimp [t7,t8,hlt]
   exact ⟨i,by simp -dsimp [t1],by simp -dsimp [m0],by simp -dsimp; omega,by simp -dsimp [t6],by simp -dsimp [t7],by simp -dsimp [t8],hi,hall,fun _=>by omega⟩
  have hget:(d.past.map Place.v)[i]? = some (d.past[i].v):=by simp [hlt]
  have hall':=all_take_succ (f:=placeOk) hlt
  have wi:IntKind.wrap .i64 ((i:Int)+1)=((i+1:Nat):Int):=by rw [w64 (by omega) (by omega)]; omega
  have hmu:d.past.length-(i+1)<d.past.length-i:=by omega
  have hbad:=all_bad (f:=placeOk) hlt
  have f0:=far (show 0<s.n by omega)
  simp -dsimp [t6,t7,t8,hlt,hget,f0,nes]
  refine cl (placeOk_fn d.past[i] (hs _ (List.getElem_mem _))) ?_
  have hc:=ft (placeOk d.past[i])
  rcases hc with hc | hc
  ·simp -dsimp [hc,deskOk,hbad hc]
  ·simp -dsimp [hc,t8,wi,hmu]
   exact ⟨i+1,by simp -dsimp [t1],by simp -dsimp [m0,f0],by simp -dsimp,by simp -dsimp [t6],by simp -dsimp [t7],by simp -dsimp,by omega,by rw [hall',hall,hc]; rfl,by simp⟩
 ·rintro s ⟨i,t1,m0,h1,t6,t7,t8,hi,hall,hend⟩
  have:=hend rfl
  subst this
  rw [List.take_length] at hall
  simp -dsimp [t1,m0]
  refine cl (placeOk_fn d.now hn) ?_
  have hk:=ft (placeOk d.now)
  rcases hk with hk | hk
  ·simp -dsimp [deskOk,hk]
  ·simp -dsimp [t1,m0,deskOk,hk,hall]
   omega
end TL

namespace TL
open Go Go.Proofs
attribute [local simp] marksV storyV codeV Claim.v Place.v
attribute [local simp] Desk.v
def IsameMarks (a b:List Mark) (e:Nat) (s:S):Prop:=∃ i:Nat,s.tm 0=.v (.sl (a.map Mark.v))∧s.tm 1=.v (.sl (b.map Mark.v))∧s.tm 5=.v (.int .i64 i)∧i≤a.length∧a.take i=b.take i∧(e=1→i=a.length)
theorem sameMarks_fn (a b:List Mark) (hl:a.length≤1048576):FnZ Tryz.prog 148 [.sl (a.map Mark.v),.sl (b.map Mark.v)] (.bool (decide (a=b))):=by
 refine FZ (rs:=[.tmp 4]) false Tryz.func148 ?_
 by_cases hn:a.length=b.length
 case neg =>
  have e:decide (a=b)=false:=by simp; rintro rfl; exact hn rfl
  have hn':¬(a.length:Int)=b.length:=by omega
  simp -dsimp [hn,hn',e]
 simp -dsimp [hn]
 refine twp_loopC (IsameMarks a b 0) (fun s=>a.length-natOf (s.tm 5)) (IsameMarks a b 1) ?_ ?_ ?_
 ·exact ⟨0,by simp -dsimp,by simp -dsimp,by simp -dsimp,by omega,by simp,by simp⟩
 ·rintro s ⟨i,h0,h1,h5,hi,htk,hend⟩
  by_cases hlt:i<a.length
  case neg =>
   have hlt2:¬i<b.length:=by omega
   simp -dsimp [h0,h5,hlt,hlt2,hn]
   exact ⟨i,by simp -dsimp [h0],by simp -dsimp [h1],by simp -dsimp [h5],hi,htk,fun _=>by omega⟩
  have hlt2:i<b.length:=by omega
  have hgeta:(a.map Mark.v)[i]? = some (a[i].v):=by simp [hlt]
  have hgetb:(b.map Mark.v)[i]? = some (b[i].v):=by simp [hlt2]
  have wi:IntKind.wrap .i64 ((i:Int)+1)=((i+1:Nat):Int):=by rw [w64 (by omega) (by omega)]; omega
  have hmu:a.length-(i+1)<a.length-i:=by omega
  simp -dsimp [h0,h5,hlt,hlt2,hn]
  refine twd (List.range 9) [] (List.replicate 9 []) (List.replicate 9 []) ?_
  have va:a[i].v=.agg [.int .i64 a[i].kind,.int .i64 a[i].num]:=rfl
  have vb:b[i].v=.agg [.int .i64 b[i].kind,.int .i64 b[i].num]:=rfl
  by_cases k1:a[i].kind=b[i].kind
  case neg =>
   have e:decide (a=b)=false:=by simp; rintro rfl; exact k1 rfl
   simp -dsimp [List.range_succ,h0,h1,h5,hlt,hlt2,hgeta,hgetb,va,vb,k1,e]
  by_cases k2:a[i].num=b[i].num
  case neg =>
   have e:decide (a=b)=false:=by simp; rintro rfl; exact k2 rfl
   simp -dsimp [List.range_succ,h0,h1,h5,hlt,hlt2,hgeta,hgetb,va,vb,k1,k2,e]
  have hq':a[i]=b[i]:=by
   cases ea:a[i]; cases eb:b[i]; rw [ea,eb] at k1 k2; simp_all
  have htk2:=take_eq_succ hlt hlt2 htk hq'
  have hmu2:b.length-(i+1)<b.length-i:=by omega
  simp -dsimp [List.range_succ,h0,h1,h5,hlt,hlt2,hgeta,hgetb,va,vb,k1,k2,wi,hmu,hmu2]
  exact ⟨i+1,by simp -dsimp [h0],by simp -dsimp [h1],by simp -dsimp,by omega,htk2,by simp⟩
 ·rintro s ⟨i,h0,h1,h5,hi,htk,hend⟩
  have:=hend rfl
  subst this
  rw [List.take_length,hn,List.take_length] at htk
  have e:decide (a=b)=true:=by simpa using htk
  simp -dsimp [e]
theorem sameClaim_fn (a b:Claim) (ha:a.small):FnZ Tryz.prog 94 [a.v,b.v] (.bool (decide (a=b))):=by
 refine FZ (rs:=[.tmp 4]) false Tryz.func94 ?_
 by_cases h0:a.who=b.who
 case neg =>
  have e:decide (a=b)=false:=by cases a; cases b; simp_all
  simp -dsimp [Mark.v,h0,e]
 simp -dsimp [h0]
 refine cl (sameMarks_fn a.says b.says ha) ?_
 have h1:=ft (decide (a.says=b.says))
 rcases h1 with h1 | h1
 ·have e:decide (a=b)=false:=by cases a; cases b; simp_all
  simp -dsimp [h1,e]
 ·have e:decide (a=b)=true:=by cases a; cases b; simp_all
  simp -dsimp [h1,e]
def IsameStory (a b:List Claim) (e:Nat) (s:S):Prop:=∃ i:Nat,s.tm 0=.v (.sl (a.map Claim.v))∧s.tm 1=.v (.sl (b.map Claim.v))∧s.tm 5=.v (.int .i64 i)∧i≤a.length∧a.take i=b.take i∧(e=1→i=a.length)
theorem sameStory_fn (a b:List Claim) (hl:a.length≤1048576) (hs:∀ x ∈ a,x.small):FnZ Tryz.prog 38 [.sl (a.map Claim.v),.sl (b.map Claim.v)] (.bool (decide (a=b))):=by
 refine FZ (rs:=[.tmp 4]) false Tryz.func38 ?_
 by_cases hn:a.length=b.length
 case neg =>
  have e:decide (a=b)=false:=by simp; rintro rfl; exact hn rfl
  have hn':¬(a.length:Int)=b.length:=by omega
  simp -dsimp [hn,hn',e]
 simp -dsimp [hn]
 refine twp_loopC (IsameStory a b 0) (fun s=>a.length-natOf (s.tm 5)) (IsameStory a b 1) ?_ ?_ ?_
 ·exact ⟨0,by simp -dsimp,by simp -dsimp,by simp -dsimp,by omega,by simp,by simp⟩
 ·rintro s ⟨i,h0,h1,h5,hi,htk,hend⟩
  by_cases hlt:i<a.length
  case neg =>
   have hlt2:¬i<b.length:=by omega
   simp -dsimp [h0,h5,hlt,hlt2,hn]
   exact ⟨i,by simp -dsimp [h0],by simp -dsimp [h1],by simp -dsimp [h5],hi,htk,fun _=>by omega⟩
  have hlt2:i<b.length:=by omega
  have hgeta:(a.map Claim.v)[i]? = some (a[i].v):=by simp [hlt]
  have hgetb:(b.map Claim.v)[i]? = some (b[i].v):=by simp [hlt2]
  have wi:IntKind.wrap .i64 ((i:Int)+1)=((i+1:Nat):Int):=by rw [w64 (by omega) (by omega)]; omega
  have hmu:a.length-(i+1)<a.length-i:=by omega
  simp -dsimp [h0,h5,hlt,hlt2,hn]
  refine twd (List.range 10) [] (List.replicate 10 []) (List.replicate 10 []) ?_
  simp -dsimp [List.range_succ,h0,h1,h5,hlt,hlt2,hgeta,hgetb]
  refine call_ (sameClaim_fn a[i] b[i] (hs _ (List.getElem_mem _))) (by simp -dsimp [Mark.v]) ?_
  have hq:=ft (decide (a[i]=b[i]))
  rcases hq with hq | hq
  ·have e:decide (a=b)=false:=by
    simp at hq ⊢; rintro rfl; exact hq rfl
   simp -dsimp [List.range_succ,hq,e]
  ·have hq':a[i]=b[i]:=by simpa using hq
   have htk2:=take_eq_succ hlt hlt2 htk hq'
   have hmu2:b.length-(i+1)<b.length-i:=by omega
   simp -dsimp [List.range_succ,hq,h5,wi,hmu,hmu2]
   exact ⟨i+1,by simp -dsimp [h0],by simp -dsimp [h1],by simp -dsimp,by omega,htk2,by simp⟩
 ·rintro s ⟨i,h0,h1,h5,hi,htk,hend⟩
  have:=hend rfl
  subst this
  rw [List.take_length,hn,List.take_length] at htk
  have e:decide (a=b)=true:=by simpa using htk
  simp -dsimp [e]
theorem samePlace_fn (a b:Place) (ha:a.small):FnZ Tryz.prog 18 [a.v,b.v] (.bool (decide (a=b))):=by
 refine FZ (rs:=[.tmp 4]) false Tryz.func18 ?_
 by_cases h0:a.people=b.people
 case neg =>
  have e:decide (a=b)=false:=by cases a; cases b; simp_all
  simp -dsimp [Mark.v,h0,e]
 simp -dsimp [h0]
 refine cl (sameStory_fn a.story b.story ha.1 ha.2) ?_
 have h1:=ft (decide (a.story=b.story))
 rcases h1 with h1 | h1
 ·have e:decide (a=b)=false:=by cases a; cases b; simp_all
  simp -dsimp [h1,e]
 ·have e:decide (a=b)=true:=by cases a; cases b; simp_all
  simp -dsimp [h1,e]
def IsameDesk (a b:Desk) (e:Nat) (s:S):Prop:=∃ i:Nat,s.tm 2=.ptr 0 0∧s.tm 3=.ptr 1 0∧s.m 0=some (.box 28 3 [.v (.int .i64 a.now.people),.v (storyV a.now.story),.v (.sl (a.past.map Place.v))]) ∧
 s.m 1=some (.box 28 3 [.v (.int .i64 b.now.people),.v (storyV b.now.story),.v (.sl (b.past.map Place.v))])∧s.tm 5=.v (.int .i64 i)∧i≤a.past.length∧a.past.take i=b.past.take i∧(e=1→i=a.past.length)
theorem sameDesk_fn (a b:Desk) (ha:a.small):FnZ Tryz.prog 8 [a.v,b.v] (.bool (decide (a=b))):=by
 refine FZ (rs:=[.tmp 4]) false Tryz.func8 ?_
 have hl:=ha.2.1
 simp -dsimp
 refine cl (samePlace_fn a.now b.now ha.1) ?_
 have h1:=ft (decide (a.now=b.now))
 rcases h1 with h1 | h1
 ·have e:decide (a=b)=false:=by cases a; cases b; simp_all
  simp -dsimp [h1,e]
 by_cases hn:a.past.length=b.past.length
 case neg =>
  have e:decide (a=b)=false:=by simp; rintro rfl; exact hn rfl
  have hn':¬(a.past.length:Int)=b.past.length:=by omega
  simp -dsimp [h1,hn,hn',e]
 simp -dsimp [h1,hn]
 refine twp_loopC (IsameDesk a b 0) (fun s=>a.past.length-natOf (s.tm 5)) (IsameDesk a b 1) ?_ ?_ ?_
 ·exact ⟨0,by simp -dsimp,by simp -dsimp,by simp -dsimp,by simp -dsimp,by simp -dsimp,by omega,by simp,by simp⟩
 ·rintro s ⟨i,t2,t3,m0,m1,h5,hi,htk,hend⟩
  by_cases hlt:i<a.past.length
  case neg =>
   have hlt2:¬i<b.past.length:=by omega
   simp -dsimp [t2,m0,h5,hlt,hlt2,hn]
   exact ⟨i,by simp -dsimp [t2],by simp -dsimp [t3],by simp -dsimp [m0],by simp -dsimp [m1],by simp -dsimp [h5],hi,htk,fun _=>by omega⟩
  have hlt2:i<b.past.length:=by omega
  have hgeta:(a.past.map Place.v)[i]? = some (a.past[i].v):=by simp [hlt]
  have hgetb:(b.past.map Place.v)[i]? = some (b.past[i].v):=by simp [hlt2]
  have wi:IntKind.wrap .i64 ((i:Int)+1)=((i+1:Nat):Int):=by rw [w64 (by omega) (by omega)]; omega
  have hmu:a.past.length-(i+1)<a.past.length-i:=by omega
  simp -dsimp [t2,m0,h5,hlt,hlt2,hn]
  refine twd (List.range 12) [0,1] (List.replicate 12 [0,1]) (List.replicate 12 [0,1]) ?_
  simp -dsimp [List.range_succ,t2,t3,m0,m1,h5,hlt,hlt2,hgeta,hgetb]
  refine cl (samePlace_fn a.past[i] b.past[i] (ha.2.2 _ (List.getElem_mem _))) ?_
  have hq:=ft (decide (a.past[i]=b.past[i]))
  rcases hq with hq | hq
  ·have e:decide (a=b)=false:=by
    simp at hq ⊢; rintro rfl; exact hq rfl
   simp -dsimp [List.range_succ,hq,e]
  ·have hq':a.past[i]=b.past[i]:=by simpa using hq
   have htk2:=take_eq_succ hlt hlt2 htk hq'
   have hmu2:b.past.length-(i+1)<b.past.length-i:=by omega
   simp -dsimp [List.range_succ,hq,h5,wi,hmu,hmu2]
   exact ⟨i+1,by simp -dsimp [t2],by simp -dsimp [t3],by simp -dsimp [m0],by simp -dsimp [m1],by simp -dsimp,by omega,htk2,by simp⟩
 ·rintro s ⟨i,t2,t3,m0,m1,h5,hi,htk,hend⟩
  have:=hend rfl
  subst this
  rw [List.take_length,hn,List.take_length] at htk
  have e:decide (a=b)=true:=by cases a; cases b; simp_all
  simp -dsimp [e]
def noDeskV:Desk:=⟨⟨0,[]⟩,[]⟩
theorem noDesk_fn (a:Desk) (ha:a.small):FnZ Tryz.prog 10 [a.v] (.bool (decide (a=noDeskV))):=by
 refine FZ (rs:=[.tmp 2]) false Tryz.func10 ?_
 simp -dsimp
 refine call_ (sameDesk_fn a noDeskV ha) (by simp -dsimp [noDeskV]) ?_
 simp -dsimp
/-- Copies. -/
theorem cloneMarks_fn (l:List Mark) (hl:l.length≤1048576):FnZ Tryz.prog 143 [marksV l] (marksV l):=by
 have b1:l.length * 16≤140737488355328:=by omega
 refine FZ (rs:=[.tmp 2]) false Tryz.func143 ?_
 simp -dsimp [b1]
def IcopyStory (l:List Claim) (e:Nat) (s:S):Prop:=∃ i id:Nat,s.tm 7=.v (.sl (l.map Claim.v))∧s.tm 8=.v (.int .i64 l.length)∧s.tm 9=.v (.int .i64 i)∧s.mu=false∧i≤l.length∧s.tm 3=.loc id∧id<s.n∧s.m id=some (.arr 63 ((l.take i).map Claim.v))∧(e=1→i=l.length)
theorem copyStory_fn (l:List Claim) (hl:l.length≤1048576) (hs:∀ c ∈ l,c.small):FnZ Tryz.prog 105 [storyV l] (storyV l):=by
 refine FZ (rs:=[.tmp 2]) false Tryz.func105 ?_
 simp -dsimp
 refine twp_loopC (IcopyStory l 0) (fun s=>l.length-natOf (s.tm 9)) (IcopyStory l 1) ?_ ?_ ?_
 ·exact ⟨0,0,by simp -dsimp,by simp -dsimp,by simp -dsimp,by simp -dsimp,by omega,by simp -dsimp,by simp -dsimp,by simp -dsimp,by simp⟩
 ·rintro s ⟨i,id,t7,t8,t9,hmu,hi,t3,hid,hm,hend⟩
  by_cases hlt:i<l.length
  case neg =>
   simp -dsimp [t8,t9,hlt]
   exact ⟨i,id,by simp -dsimp [t7],by simp -dsimp [t8],by simp -dsimp [t9],by simp -dsimp [hmu],hi,by simp -dsimp [t3],by simp -dsimp [hid],by simp -dsimp [hm],fun _=>by omega⟩
  have hget:(l.map Claim.v)[i]? = some (l[i].v):=by simp [hlt]
  have wi:IntKind.wrap .i64 ((i:Int)+1)=((i+1:Nat):Int):=by rw [w64 (by omega) (by omega)]; omega
  have hmu1:l.length-(i+1)<l.length-i:=by omega
  have f1:=far hid
  have b1:(min i l.length+1) * 32≤140737488355328:=by omega
  simp -dsimp [t7,t8,t9,hlt,hget]
  refine twd (List.range 10) [s.n] (List.replicate 10 [0]) (List.replicate 10 [0]) ?_
  simp -dsimp [List.range_succ,t3]
  refine cl (cloneMarks_fn l[i].says (hs _ (List.getElem_mem _))) ?_
  simp -dsimp [List.range_succ,t3,t9,hmu,f1,hm,b1,wi,hmu1,nes]
  refine ⟨i+1,s.n+1+1+1,by simp -dsimp [t7],by simp -dsimp [t8],by simp -dsimp,by simp -dsimp [hmu],by omega,by simp -dsimp,by simp -dsimp, ?_,by simp⟩
  have:(l.take (i+1)).map Claim.v=(l.take i).map Claim.v++[l[i].v]:=by rw [List.take_succ_eq_append_getElem hlt,List.map_append]; rfl
  rw [this]; simp -dsimp
 ·rintro s ⟨i,id,t7,t8,t9,hmu,hi,t3,hid,hm,hend⟩
  have:=hend rfl
  subst this
  rw [List.take_length] at hm
  simp -dsimp [t3,hm]
theorem copyPlace_fn (p:Place) (hp:p.small):FnZ Tryz.prog 51 [p.v] p.v:=by
 refine FZ (rs:=[.cell 2 25]) false Tryz.func51 ?_
 simp -dsimp
 refine twd (List.range 7) [0] (List.replicate 7 [0]) (List.replicate 7 [0]) ?_
 simp -dsimp [List.range_succ]
 refine cl (copyStory_fn p.story hp.1 hp.2) ?_
 simp -dsimp [List.range_succ]
end TL

namespace TL
open Go Go.Proofs
attribute [local simp] marksV storyV codeV Claim.v Place.v
theorem termText_fn (people:Int) (t:List Mark):FnZ Tryz.prog 112 [.int .i64 people,marksV t] (.str (termText people t)):=by
 have hk:=ft (termOk people t)
 rcases hk with hk | hk
 ·rw [termText_no hk]
  refine FZ (rs:=[.tmp 4]) false Tryz.func112 ?_
  simp -dsimp
  refine cl (termOk_fn people t) ?_
  simp -dsimp [hk]
 ·obtain ⟨T,h1,h2,h3⟩:=termText_tree hk
  have hl:=(termOk_len hk).2.1
  have ht:=textOf_fn T h1 (by rw [h2]; omega)
  rw [h2,h3] at ht
  generalize termText people t=s at *
  refine FZ (rs:=[.tmp 4]) false Tryz.func112 ?_
  simp -dsimp
  refine cl (termOk_fn people t) ?_
  simp -dsimp [hk]
  refine cl ht ?_
  simp -dsimp
def optV (o:Option (List Mark)):V:=.tup [marksV (o.getD []),.bool o.isSome]
theorem readT_long {people:Int} {s:List UInt8} (h:60<s.length):readT people s=none:=readT_none fun t hl _ _=>by omega
theorem readT_people {people:Int} {s:List UInt8} (h:peopleOk people=false):readT people s=none:=readT_none fun t _ ht _=>by
 simp only [termOk,Bool.and_eq_true] at ht; rw [h] at ht; simp at ht
theorem peopleOk_fn' (p:Int):FnZ Tryz.prog 88 [.int .i64 p] (.bool (peopleOk p)):=peopleOk_fn p
theorem readTerm_no (people:Int) (s:List UInt8) (hl:s.length≤2000000000) (h:peopleOk people=false∨60<s.length):FnZ Tryz.prog 61 [.int .i64 people,.str s] (.tup [.sl [],.bool false]):=by
 have hp:=ft (peopleOk people)
 rcases hp with hp | hp
 ·refine FZ (rs:=[.tmp 4,.tmp 5]) false Tryz.func61 ?_
  simp -dsimp
  refine cl (peopleOk_fn' people) ?_
  simp -dsimp [hp]
 ·have hl2:(60:Int)<s.length:=by have:=h.resolve_left (by simp [hp]); omega
  refine FZ (rs:=[.tmp 4,.tmp 5]) false Tryz.func61 ?_
  simp -dsimp
  refine cl (peopleOk_fn' people) ?_
  simp -dsimp [hp,hl2]
theorem readTerm_fn (people:Int) (s:List UInt8) (hl:s.length≤2000000000):FnZ Tryz.prog 61 [.int .i64 people,.str s] (optV (readT people s)):=by
 by_cases h60:s.length≤60
 case neg =>
  have h:60<s.length:=by omega
  rw [readT_long h]
  exact readTerm_no people s hl (.inr h)
 have hp:=ft (peopleOk people)
 rcases hp with hp | hp
 ·rw [readT_people hp]
  exact readTerm_no people s hl (.inl hp)
 rw [readT_code atomI_ok h60]
 have hS:=readSame_all s.length (by omega) s (Nat.le_refl _)
 have hT:=termText_fn people (rSame atomI s.length s).ms
 have hne:(rSame atomI s.length s).ok=true→s ≠ []:=by
  rintro h rfl; rw [rSame_nil] at h; cases h
 have hl60:¬(60:Int)<s.length:=by omega
 generalize rSame atomI s.length s=r at *
 obtain ⟨ms,rest,ok⟩:=r
 simp only at hT hne ⊢
 have htt:termText people ms=s→ok=true→termOk people ms=true:=fun h1 h2=>by
  have hk:=ft (termOk people ms)
  rcases hk with hk | hk
  ·rw [termText_no hk] at h1; exact absurd h1.symm (hne h2)
  ·exact hk
 refine FZ (rs:=[.tmp 4,.tmp 5]) false Tryz.func61 ?_
 simp -dsimp
 refine cl (peopleOk_fn' people) ?_
 simp -dsimp [hp,hl60]
 refine callS_ (hS _ _) ?_
 rintro t m2 n2 ⟨hle2,hout2,st2,rfl,hrow2,hnil2⟩
 simp only at hrow2 hnil2 ⊢
 cases ok with
 | false =>
  simp -dsimp [optV]
 | true =>
  by_cases hr:rest=[]
  case neg=>simp -dsimp [optV,hr]
  subst hr
  rcases hrow2 with ⟨rfl,_⟩ | ⟨i2,rfl,hj0,hj1,hmj⟩
  ·exact absurd rfl (hnil2 rfl)
  simp -dsimp
  refine call_ hT (by simp -dsimp [hmj]) ?_
  by_cases he:termText people ms=s
  ·have hk:=htt he rfl
   simp -dsimp [he,hk,hmj,optV]
  ·simp -dsimp [he,optV]
theorem claimBy_fn (people who:Int) (t:List Mark) (hl:t.length≤1048576):FnZ Tryz.prog 91 [.int .i64 people,.int .i64 who,marksV t] (.tup [(if claimOk people ⟨who,t⟩=true then (⟨who,t⟩:Claim) else ⟨0,[]⟩).v,.bool (claimOk people ⟨who,t⟩)]):=by
 have hc:=claimOk_fn people ⟨who,t⟩
 have hk:=ft (claimOk people ⟨who,t⟩)
 refine FZ (rs:=[.cell 6 63,.tmp 7]) false Tryz.func91 ?_
 simp -dsimp
 refine cl (cloneMarks_fn t hl) ?_
 simp -dsimp
 refine cl hc ?_
 rcases hk with hk | hk
 ·simp -dsimp [hk]
 ·simp -dsimp [hk]
def optC (o:Option Claim):V:=.tup [(o.getD ⟨0,[]⟩).v,.bool o.isSome]
theorem readClaim_fn (people:Int) (s:List UInt8) (hl:s.length≤2000000000):FnZ Tryz.prog 36 [.int .i64 people,.str s] (optC (readC people s)):=by
 have zero:∀ (x:List UInt8),s.length<3→readC people s=none:=fun _ h=>by
  cases e:readC people s with
  | none=>rfl
  | some c=>have:=readC_is e; have:=(claimTx_len this.1).1; rw [(readC_is e).2] at this; omega
 by_cases h3:s.length<3
 ·have h3':(s.length:Int)<3:=by omega
  rw [zero [] h3]
  refine FZ (rs:=[.cell 4 63,.tmp 5]) false Tryz.func36 ?_
  simp -dsimp [h3,h3',optC]
 clear zero
 match s,h3,hl with
 | [],h3,hl=>simp at h3
 | [a],h3,hl=>simp at h3
 | a :: b :: s,h3,hl =>
  have h3':¬((s.length:Int)+1+1<3):=by simp at h3; omega
  have hls:s.length≤2000000000:=by simp at hl; omega
  have l2:(2:Int)≤(s.length:Int)+1+1:=by omega
  have l3:((s.length:Int)+1+1).toNat=s.length+1+1:=by omega
  by_cases hb:b=58
  case neg =>
   have e:readC people (a :: b :: s)=none:=if_neg hb
   have hb':¬(b.toNat:Int)=58:=fun h=>hb (UInt8.toNat.inj (by show b.toNat=58; omega))
   rw [e]
   refine FZ (rs:=[.cell 4 63,.tmp 5]) false Tryz.func36 ?_
   simp -dsimp [h3',hb',optC]
  subst hb
  have e:readC people (a :: 58 :: s)=(readT people s).bind fun t=>if claimOk people ⟨(a.toNat:Int)-97,t⟩=true then some ⟨(a.toNat:Int)-97,t⟩ else none:=rfl
  rw [e]
  have ht:=readTerm_fn people s hls
  have hlt:=UInt8.toNat_lt a
  have w1:IntKind.wrap .i64 ((a.toNat:Int)-97)=(a.toNat:Int)-97:=w64 (by omega) (by omega)
  have w2:IntKind.wrap .i64 (a.toNat:Int)=(a.toNat:Int):=w64 (by omega) (by omega)
  have hle:∀ t,readT people s=some t→t.length≤1048576:=fun t h=>by
   have:=(termOk_len (readT_is h).2.1).2.1; omega
  generalize readT people s=o at *
  cases o with
  | none =>
   refine FZ (rs:=[.cell 4 63,.tmp 5]) false Tryz.func36 ?_
   simp -dsimp [h3',l2,l3,optC]
   refine cl ht ?_
   simp -dsimp [optV,optC]
  | some t =>
   have hcb:=claimBy_fn people ((a.toNat:Int)-97) t (hle t rfl)
   have hk:=ft (claimOk people ⟨(a.toNat:Int)-97,t⟩)
   refine FZ (rs:=[.cell 4 63,.tmp 5]) false Tryz.func36 ?_
   simp -dsimp [h3',l2,l3,optC]
   refine cl ht ?_
   simp -dsimp [optV,w1,w2]
   refine cl hcb ?_
   rcases hk with hk | hk
   ·simp -dsimp [hk,optC]
   ·simp -dsimp [hk,optC]
end TL

namespace TL
open Go Go.Proofs
attribute [local simp] marksV storyV codeV Claim.v Place.v
theorem good_fits {ms:List Mark} (h:∀ m ∈ ms,0≤m.kind∧m.kind≤5∧0≤m.num∧m.num≤1000):fits ms:=fun m hm=>by
 obtain ⟨h1,h2,h3,h4⟩:=h m hm
 exact ⟨⟨by omega,by omega⟩,⟨by omega,by omega⟩⟩
theorem rSame_good {A:UInt8→Option Mark} (hA:∀ c m,A c=some m→0≤m.kind∧m.kind≤5∧0≤m.num∧m.num≤1000) (F:Nat):good (rSame A F) :=
 rRow_good (rRow_good (rRow_good (rPart_good hA F) (sg:=38) (k:=3) (by omega) (by omega) F) (sg:=124) (k:=4) (by omega) (by omega) F) (sg:=61) (k:=5) (by omega) (by omega) F
theorem Tm.nums:∀ T:Tm,T.ok→∀ m ∈ T.marks,0≤m.num∧m.num≤5
 | .tells i,h,m,hm=>by simp [marks] at hm; subst hm; simp; have:i<4:=h; omega
 | .count n,h,m,hm=>by simp [marks] at hm; subst hm; simp; have:n<6:=h; omega
 | .not a,h,m,hm=>by
  simp only [marks,List.mem_append,List.mem_singleton] at hm
  rcases hm with hm | rfl
  ·exact a.nums h m hm
  ·simp
 | .bin k a b,h,m,hm=>by
  simp only [marks,List.mem_append,List.mem_singleton] at hm
  rcases hm with (hm | hm) | rfl
  ·exact a.nums h.2.1 m hm
  ·exact b.nums h.2.2 m hm
  ·simp
theorem termOk_fits {people:Int} {t:List Mark} (h:termOk people t=true):fits t:=by
 obtain ⟨T,h1,h2,_⟩:=termText_tree h
 subst h2
 intro m hm
 obtain ⟨a1,a2⟩:=T.kinds h1 m hm
 obtain ⟨b1,b2⟩:=T.nums h1 m hm
 exact ⟨⟨by omega,by omega⟩,⟨by omega,by omega⟩⟩
theorem readTermS_fn (people:Int) (s:List UInt8):FnZ Tryz.prog 81 [.int .i64 people,.str s] (optV (readT people s)):=by
 by_cases h60:s.length≤60
 case neg =>
  have h:60<s.length:=by omega
  have h':(60:Int)<s.length:=by omega
  rw [readT_long h]
  refine FZ (rs:=[.tmp 4,.tmp 5]) false Tryz.func81 ?_
  simp -dsimp [h',optV]
 rw [readT_code atomS_ok h60]
 have hS:=l2Level_all s (by omega) s.length (l2Atom_fn s (by omega) s.length) 0 (by omega) (by omega)
 have hgood:=rSame_good atomS_good s.length s
 rw [List.drop_zero] at hS
 have hl60:¬(60:Int)<s.length:=by omega
 generalize rSame atomS s.length s=r at *
 obtain ⟨ms,rest,ok⟩:=r
 simp only at hgood
 have hmsl:ms.length≤60:=by have:=hgood.1; omega
 have htS:=termOkS_fn people ms (good_fits hgood.2) (by omega)
 have hl0:s.length-0=s.length:=rfl
 rw [hl0] at hS
 cases ok with
 | false =>
  have hne:¬(-1:Int)=(s.length:Int):=by omega
  refine FZ (rs:=[.tmp 4,.tmp 5]) false Tryz.func81 ?_
  simp -dsimp [hl60]
  refine callS_ (hS _ _) ?_
  rintro t m2 n2 ⟨hle2,hout2,i2,xs,next2,rfl,hj0,hj1,hmj,hyl,hok2,hno2⟩
  have e1:=hno2 rfl
  simp -dsimp [e1,hne,optV]
 | true =>
  by_cases hr:rest=[]
  case neg =>
   refine FZ (rs:=[.tmp 4,.tmp 5]) false Tryz.func81 ?_
   simp -dsimp [hl60]
   refine callS_ (hS _ _) ?_
   rintro t m2 n2 ⟨hle2,hout2,i2,xs,next2,rfl,hj0,hj1,hmj,hyl,hok2,hno2⟩
   refine (hok2 rfl).2.elim fun q3 hq => ?_
   have e1:=hq.1
   have e2:s.drop q3=rest:=hq.2.1
   have hne0:¬q3=s.length:=by intro h; rw [h,List.drop_length] at e2; exact hr e2.symm
   have hne:¬(q3:Int)=(s.length:Int):=by omega
   simp -dsimp [e1,hne,hr,optV]
  subst hr
  have hk:=ft (termOk people ms)
  rcases hk with hk | hk
  ·refine FZ (rs:=[.tmp 4,.tmp 5]) false Tryz.func81 ?_
   simp -dsimp [hl60]
   refine callS_ (hS _ _) ?_
   rintro t m2 n2 ⟨hle2,hout2,i2,xs,next2,rfl,hj0,hj1,hmj,hyl,hok2,hno2⟩
   refine (hok2 rfl).2.elim fun q3 hq => ?_
   have e0:xs=ms:=(hok2 rfl).1
   have e1:=hq.1
   have e2:s.drop q3=[]:=hq.2.1
   have e3:=hq.2.2
   have hq3:q3=s.length:=by have:=congrArg List.length e2; rw [List.length_drop] at this; simp at this; omega
   simp -dsimp [e1,hq3]
   refine call_ htS (by simp -dsimp [hmj,e0]) ?_
   simp -dsimp [hk,optV]
  ·obtain ⟨T,h1,h2,h3⟩:=termText_tree hk
   have hT:=l2Text_fn T h1 (by rw [h2]; omega)
   rw [h2,h3] at hT
   by_cases he:termText people ms=s
   ·refine FZ (rs:=[.tmp 4,.tmp 5]) false Tryz.func81 ?_
    simp -dsimp [hl60]
    refine callS_ (hS _ _) ?_
    rintro t m2 n2 ⟨hle2,hout2,i2,xs,next2,rfl,hj0,hj1,hmj,hyl,hok2,hno2⟩
    refine (hok2 rfl).2.elim fun q3 hq => ?_
    have e0:xs=ms:=(hok2 rfl).1
    have e1:=hq.1
    have e2:s.drop q3=[]:=hq.2.1
    have e3:=hq.2.2
    have hq3:q3=s.length:=by have:=congrArg List.length e2; rw [List.length_drop] at this; simp at this; omega
    simp -dsimp [e1,hq3]
    refine call_ htS (by simp -dsimp [hmj,e0]) ?_
    simp -dsimp [hk]
    refine call_ hT (by simp -dsimp [hmj,e0]) ?_
    simp -dsimp [he,hk,hmj,e0,optV]
   ·refine FZ (rs:=[.tmp 4,.tmp 5]) false Tryz.func81 ?_
    simp -dsimp [hl60]
    refine callS_ (hS _ _) ?_
    rintro t m2 n2 ⟨hle2,hout2,i2,xs,next2,rfl,hj0,hj1,hmj,hyl,hok2,hno2⟩
    refine (hok2 rfl).2.elim fun q3 hq => ?_
    have e0:xs=ms:=(hok2 rfl).1
    have e1:=hq.1
    have e2:s.drop q3=[]:=hq.2.1
    have e3:=hq.2.2
    have hq3:q3=s.length:=by have:=congrArg List.length e2; rw [List.length_drop] at this; simp at this; omega
    simp -dsimp [e1,hq3]
    refine call_ htS (by simp -dsimp [hmj,e0]) ?_
    simp -dsimp [hk]
    refine call_ hT (by simp -dsimp [hmj,e0]) ?_
    simp -dsimp [he,hk,optV]
theorem readClaimS_fn (people:Int) (s:List UInt8) (hl:s.length≤2000000000):FnZ Tryz.prog 100 [.int .i64 people,.str s] (optC (readC people s)):=by
 by_cases h3:s.length<3
 ·have zero:readC people s=none:=by
   cases e:readC people s with
   | none=>rfl
   | some c=>have:=readC_is e; have:=(claimTx_len this.1).1; rw [(readC_is e).2] at this; omega
  have h3':(s.length:Int)<3:=by omega
  rw [zero]
  refine FZ (rs:=[.cell 4 63,.tmp 5]) false Tryz.func100 ?_
  simp -dsimp [h3',optC]
 match s,h3,hl with
 | [],h3,hl=>simp at h3
 | [a],h3,hl=>simp at h3
 | a :: b :: s,h3,hl =>
  have h3':¬((s.length:Int)+1+1<3):=by simp at h3; omega
  have l2:(2:Int)≤(s.length:Int)+1+1:=by omega
  have l3:((s.length:Int)+1+1).toNat=s.length+1+1:=by omega
  have hlt:=UInt8.toNat_lt a
  have w1:IntKind.wrap .i64 ((a.toNat:Int)-97)=(a.toNat:Int)-97:=w64 (by omega) (by omega)
  have w2:IntKind.wrap .i64 (a.toNat:Int)=(a.toNat:Int):=w64 (by omega) (by omega)
  have ht:=readTermS_fn people s
  have e:readC people (a :: b :: s)=if b=58 then (readT people s).bind fun t=>if claimOk people ⟨(a.toNat:Int)-97,t⟩=true then some ⟨(a.toNat:Int)-97,t⟩ else none else none:=rfl
  have his:∀ t,readT people s=some t→s.length≤60∧termOk people t=true∧termText people t=s:=fun t h=>readT_is h
  rw [e]
  generalize readT people s=o at *
  cases o with
  | none =>
   have e2:(if b=58 then (none:Option (List Mark)).bind (fun t=>if claimOk people ⟨(a.toNat:Int)-97,t⟩=true then some (⟨(a.toNat:Int)-97,t⟩:Claim) else none) else none)=none:=by split <;> rfl
   rw [e2]
   refine FZ (rs:=[.cell 4 63,.tmp 5]) false Tryz.func100 ?_
   simp -dsimp [h3',l2,l3]
   refine cl ht ?_
   simp -dsimp [optV,w1,w2,optC]
  | some t =>
   obtain ⟨g1,g2,g3⟩:=his t rfl
   have gl:=(termOk_len g2).2.1
   rw [Option.bind_some]
   have hfine:(⟨(a.toNat:Int)-97,t⟩:Claim).fine:=by
    exact ⟨termOk_fits g2,by simp only; omega⟩
   have hct:=claimTxS_fn people ⟨(a.toNat:Int)-97,t⟩ hfine
   have hk:=ft (claimOk people ⟨(a.toNat:Int)-97,t⟩)
   rcases hk with hk | hk
   ·have e2:(if b=58 then (if claimOk people ⟨(a.toNat:Int)-97,t⟩=true then some (⟨(a.toNat:Int)-97,t⟩:Claim) else none) else none)=none:=by split <;> simp [hk]
    have e3:claimTx people ⟨(a.toNat:Int)-97,t⟩=[]:=by unfold claimTx; rw [if_neg (by simp [hk])]
    rw [e3] at hct
    rw [e2]
    refine FZ (rs:=[.cell 4 63,.tmp 5]) false Tryz.func100 ?_
    simp -dsimp [h3',l2,l3]
    refine cl ht ?_
    simp -dsimp [optV,w1,w2]
    refine cl hct ?_
    simp -dsimp [optC]
   ·have hwho:=(claimOk_all hk).2.2.1
    have e3:claimTx people ⟨(a.toNat:Int)-97,t⟩=a :: 58 :: s:=by
     unfold claimTx; rw [if_pos hk,letter_fwd a _ rfl hwho,g3]
    rw [e3] at hct
    by_cases hb:b=58
    ·subst hb
     rw [if_pos rfl,if_pos hk]
     refine FZ (rs:=[.cell 4 63,.tmp 5]) false Tryz.func100 ?_
     simp -dsimp [h3',l2,l3]
     refine cl ht ?_
     simp -dsimp [optV,w1,w2]
     refine cl hct ?_
     simp -dsimp [optC]
    ·have hb':¬58=b:=fun h=>hb h.symm
     rw [if_neg hb]
     refine FZ (rs:=[.cell 4 63,.tmp 5]) false Tryz.func100 ?_
     simp -dsimp [h3',l2,l3]
     refine cl ht ?_
     simp -dsimp [optV,w1,w2]
     refine cl hct ?_
     simp -dsimp [hb,hb',optC]
end TL

namespace TL
open Go Go.Proofs
structure Deed where
 kind:Int
 num:Int
 words:List UInt8
 deriving DecidableEq
def Deed.v (a:Deed):V:=.agg [.int .i64 a.kind,.int .i64 a.num,.str a.words]
attribute [local simp] marksV storyV codeV Claim.v Place.v Deed.v
/-- The decimal text of a small number. -/
def dec (n:Int):List UInt8:=Go.Lib.decDigits n.toNat
theorem dec_len {n:Int} (h0:0≤n) (h:n≤99):(dec n).length≤2:=by
 unfold dec
 by_cases h1:n.toNat<10
 ·rw [Go.Lib.decDigits_one h1]; simp
 ·rw [Go.Lib.decDigits_two h1 (by omega)]; simp
def txSay:List UInt8:=[115,97,121,32]
def txDrop:List UInt8:=[100,114,111,112,32]
def txPeople:List UInt8:=[112,101,111,112,108,101,32]
def txLeast:List UInt8:=[108,101,97,115,116]
def txBack:List UInt8:=[98,97,99,107]
noncomputable def deedTx (a:Deed):List UInt8 :=
 if a.kind=0∧a.num=0∧(readC 4 a.words).isSome=true then txSay++a.words
 else if a.words ≠ []∨a.num<0∨99<a.num then []
 else if a.kind=1 then txDrop++dec a.num
 else if a.kind=2 then txPeople++dec a.num
 else if a.kind=3∧a.num=0 then txLeast
 else if a.kind=4∧a.num=0 then txBack
 else []
theorem readC_len {people:Int} {s:List UInt8} {c:Claim} (h:readC people s=some c):3≤s.length∧s.length≤27:=by
 obtain ⟨h1,h2⟩:=readC_is h
 rw [← h2]; exact ⟨(claimTx_len h1).1,(claimTx_len h1).2.1⟩
theorem readC_nil (people:Int):readC people []=none:=rfl
theorem deedTx_len (a:Deed):(deedTx a).length≤40:=by
 unfold deedTx
 split
 ·rename_i h
  cases e:readC 4 a.words with
  | none=>rw [e] at h; simp at h
  | some c=>have:=readC_len e; simp [txSay]; omega
 split
 ·simp
 rename_i h
 have h0:0≤a.num∧a.num≤99:=by
  constructor
  ·rcases Int.lt_or_le a.num 0 with h1 | h1
   ·exact absurd (.inr (.inl h1)) h
   ·exact h1
  ·rcases Int.lt_or_le 99 a.num with h1 | h1
   ·exact absurd (.inr (.inr h1)) h
   ·exact h1
 have:=dec_len h0.1 h0.2
 split
 ·simp [txDrop]; omega
 split
 ·simp [txPeople]; omega
 split
 ·simp [txLeast]
 split
 ·simp [txBack]
 ·simp
/-- Numbers of the reference. -/
theorem l1Number2_fn (n:Int) (h0:0≤n) (hn:n≤99):FnZ Tryz.prog 76 [.int .i64 n] (.str (dec n)):=by
 by_cases h:n<10
 ·have h1:=l1Number_fn n.toNat (by omega)
  have e:((n.toNat:Nat):Int)=n:=by omega
  rw [e] at h1
  unfold dec
  rw [Go.Lib.decDigits_one (by omega)]; exact h1
 ·have h1:=l1Number_fn (n.toNat / 10) (by omega)
  have e:((n.toNat / 10:Nat):Int)=n / 10:=by omega
  rw [e] at h1
  have q1:n.tdiv 10=n / 10:=Int.tdiv_eq_ediv_of_nonneg h0
  have q2:n.tmod 10=n % 10:=Int.tmod_eq_emod_of_nonneg h0
  have w0:IntKind.wrap .i64 (n / 10)=n / 10:=w64 (by omega) (by omega)
  have w1:IntKind.wrap .i64 (48+n % 10)=48+n % 10:=w64 (by omega) (by omega)
  have w2:IntKind.wrap .u8 (48+n % 10)=48+n % 10:=by rw [IntKind.wrap_u8]; omega
  have w3:(48+n % 10).toNat=48+n.toNat % 10:=by omega
  unfold dec
  rw [Go.Lib.decDigits_two (by omega) (by omega)]
  refine FZ (rs:=[.tmp 2]) false Tryz.func76 ?_
  simp -dsimp [h]
  refine twd [0,1,1002,3,4,5,6,7,8,9,10] [0] (List.replicate 8 []++[[0],[],[]]) (List.replicate 7 [0]++[[],[0],[0],[0]]) ?_
  simp -dsimp [List.range_succ,q1,q2,w0,w1,w2,w3]
  refine pure_ h1 (by simp -dsimp) ?_
  simp -dsimp [List.range_succ,q1,q2,w0,w1,w2,w3]
theorem l1In_z (n a b:Int):FnZ Tryz.prog 99 [.int .i64 n,.int .i64 a,.int .i64 b] (.bool (decide (a≤n) && decide (n≤b))):=l1In_fn n a b
theorem deedTx_out {a:Deed} (h:a.num<0∨99<a.num):deedTx a=[]:=by
 unfold deedTx; rw [if_neg (by omega),if_pos (.inr h)]
theorem deedTx_say {a:Deed} (h:a.kind=0∧a.num=0∧(readC 4 a.words).isSome=true):deedTx a=txSay++a.words:=by
 unfold deedTx; rw [if_pos h]
theorem deedTx_words {a:Deed} (h:¬(a.kind=0∧a.num=0∧(readC 4 a.words).isSome=true)) (hw:a.words ≠ []):deedTx a=[]:=by
 unfold deedTx; rw [if_neg h,if_pos (.inl hw)]
theorem deedTx_none {a:Deed} (h0:0≤a.num) (h1:a.num≤99) (hw:a.words=[]):deedTx a=if a.kind=1 then txDrop++dec a.num else if a.kind=2 then txPeople++dec a.num else if a.kind=3∧a.num=0 then txLeast else if a.kind=4∧a.num=0 then txBack else []:=by
 unfold deedTx
 rw [if_neg (by rw [hw,readC_nil]; simp),if_neg (by rw [hw]; simp; omega)]
/-- The five ways of a deed. -/
theorem deed_ways (a:Deed):(a.num<0∨99<a.num)∨(0≤a.num∧a.num≤99∧((a.words ≠ [])∨(a.words=[]∧(a.kind=1∨a.kind=2∨(a.kind=3∧a.num=0)∨(a.kind=4∧a.num=0)∨(¬a.kind=1∧¬a.kind=2∧(¬a.kind=3∨¬a.num=0)∧(¬a.kind=4∨¬a.num=0)))))):=by
 by_cases h:a.num<0∨99<a.num
 ·exact .inl h
 ·refine .inr ⟨by omega,by omega, ?_⟩
  by_cases hw:a.words=[]
  ·refine .inr ⟨hw,by omega⟩
  ·exact .inl hw
theorem deedTextS_fn (a:Deed) (hl:a.words.length≤2000000000):FnZ Tryz.prog 44 [a.v] (.str (deedTx a)):=by
 have hr:=readClaimS_fn 4 a.words hl
 have hin:=l1In_z a.num 0 99
 obtain ⟨kind,num,words⟩:=a
 simp only at hr hin hl
 have len5:∀ x:List UInt8,x.length≤2→(5:Int)+x.length≤9223372036854775807∧(7:Int)+x.length≤9223372036854775807:=fun x h=>⟨by omega,by omega⟩
 have len4:(4:Int)+words.length≤9223372036854775807:=by omega
 rcases deed_ways ⟨kind,num,words⟩ with h | ⟨h0,h1,h⟩
 ·rw [deedTx_out h]
  have hb:(decide (0≤num) && decide (num≤99))=false:=by simp at h ⊢; omega
  refine FZ (rs:=[.tmp 2]) false Tryz.func44 ?_
  simp -dsimp
  refine cl hin ?_
  simp -dsimp [hb]
 simp only at h0 h1 h
 have hb:(decide (0≤num) && decide (num≤99))=true:=by simp; omega
 have hd:=dec_len h0 h1
 have hnum:=l1Number2_fn num h0 h1
 obtain ⟨l5,l7⟩:=len5 _ hd
 rcases h with hw | ⟨hw,h⟩
 ·by_cases hs:kind=0∧num=0∧(readC 4 words).isSome=true
  ·rw [deedTx_say (a:=⟨kind,num,words⟩) hs]
   obtain ⟨rfl,rfl,h3⟩:=hs
   refine FZ (rs:=[.tmp 2]) false Tryz.func44 ?_
   simp -dsimp
   refine cl hin ?_
   simp -dsimp [hw]
   refine cl hr ?_
   simp -dsimp [optC,h3,len4,txSay]
  ·rw [deedTx_words (a:=⟨kind,num,words⟩) hs hw]
   have hx:((readC 4 words).isSome && (decide (kind=0) && decide (num=0)))=false:=by
    rw [Bool.eq_false_iff]; intro h; simp at h; exact hs ⟨h.2.1,h.2.2,h.1⟩
   refine FZ (rs:=[.tmp 2]) false Tryz.func44 ?_
   simp -dsimp
   refine cl hin ?_
   simp -dsimp [hb,hw]
   refine cl hr ?_
   have hq:=ft (readC 4 words).isSome
   rcases hq with hq | hq
   ·simp -dsimp [optC,hq]
   ·have hx2:¬(kind=0∧num=0):=fun h=>hs ⟨h.1,h.2,hq⟩
    by_cases hk:kind=0
    ·have hn:¬num=0:=fun h=>hx2 ⟨hk,h⟩
     simp -dsimp [optC,hq,hk,hn]
    ·simp -dsimp [optC,hq,hk]
 ·subst hw
  rw [deedTx_none (a:=⟨kind,num,[]⟩) h0 h1 rfl]
  simp only
  rcases h with rfl | rfl | ⟨rfl,rfl⟩ | ⟨rfl,rfl⟩ | ⟨k1,k2,k3,k4⟩
  ·refine FZ (rs:=[.tmp 2]) false Tryz.func44 ?_
   simp -dsimp
   refine cl hin ?_
   simp -dsimp [hb]
   refine cl hnum ?_
   simp -dsimp [l5,txDrop]
  ·refine FZ (rs:=[.tmp 2]) false Tryz.func44 ?_
   simp -dsimp
   refine cl hin ?_
   simp -dsimp [hb]
   refine cl hnum ?_
   simp -dsimp [l7,txPeople]
  ·refine FZ (rs:=[.tmp 2]) false Tryz.func44 ?_
   simp -dsimp
   refine cl hin ?_
   simp -dsimp [hb,txLeast]
  ·refine FZ (rs:=[.tmp 2]) false Tryz.func44 ?_
   simp -dsimp
   refine cl hin ?_
   simp -dsimp [hb,txBack]
  ·have e:(if kind=1 then txDrop++dec num else if kind=2 then txPeople++dec num else if kind=3∧num=0 then txLeast else if kind=4∧num=0 then txBack else [])=[]:=by
    rw [if_neg k1,if_neg k2,if_neg (by omega),if_neg (by omega)]
   rw [e]
   rw [readC_nil] at hr
   by_cases hn:num=0
   ·have k3':¬kind=3:=by omega
    have k4':¬kind=4:=by omega
    refine FZ (rs:=[.tmp 2]) false Tryz.func44 ?_
    simp -dsimp
    refine cl hin ?_
    simp -dsimp [hb,k1,k2,k3',k4']
    refine cl hr ?_
    simp -dsimp [optC]
   ·refine FZ (rs:=[.tmp 2]) false Tryz.func44 ?_
    simp -dsimp
    refine cl hin ?_
    simp -dsimp [hb,k1,k2,hn]
    refine cl hr ?_
    simp -dsimp [optC]
end TL

namespace TL
open Go Go.Proofs Go.RowKit
section
variable {P:Program}
theorem FnZ_calls {f : Nat} {args : List V} {r : V} (hf : ∃ fn,P.funcs[f]? = some fn ∧ (fn.name == "runtime.NumGoroutine") = false ∧ fn.body.isNone = false)
  (h:∀ (Z:Zs) (w:World) (vs:List Value),ZOk P Z w→RepVs Z w args vs→Calls P f vs.toArray w fun e w'=>∃ v,e=.returned v∧Below w.heap.size w w'∧RepV (freshZ Z w.heap.size w'.heap.size) w' r v):FnZ P f args r:=⟨hf,h⟩
theorem calls_mono {f:Nat} {args:Array Value} {w:World} {R R':Ending→World→Prop} (h:Calls P f args w R) (hR:∀ e w',R e w'→R' e w'):Calls P f args w R':=h.mono hR
/-- Rows of texts. -/
theorem strs_rep {Z:Zs} {w:World} {z:Nat} : ∀ (xs:List (List UInt8)) (us:List Value),RepEs Z w z (xs.map V.str) us→∃ bs:List ByteArray,us=bs.map Value.string∧bs.map (·.data.toList)=xs
 | [],us,h=>by cases h; exact ⟨[],rfl,rfl⟩
 | x :: xs,us,h=>by
  cases h with
  | one hc h t =>
   cases h with
   | str hb =>
    obtain ⟨bs,h1,h2⟩:=strs_rep xs _ t
    exact ⟨_ :: bs,by rw [h1]; rfl,by simp [hb,h2]⟩
theorem strs_row {Z:Zs} {w:World} {xs:List (List UInt8)} {u:Value} (h:RepV Z w (.sl (xs.map V.str)) u):(xs=[]∧∃ A c,u=.slice A 0 c) ∨
  ∃ k o c,∃ bs:List ByteArray,u=.slice (some ⟨k,o,none⟩) bs.length c∧bs.map (·.data.toList)=xs∧bs.length≤c∧bs ≠ []∧(∀ (j:Nat) x,bs[j]? = some x→w.cell? ⟨k,o+j,none⟩=some (.string x))∧k<w.heap.size:=by
 generalize hv:V.sl (xs.map V.str)=v at h
 cases h with
 | nil A c=>left; injection hv with hv; exact ⟨by simpa using hv,A,c,rfl⟩
 | @sl z ys us ad n c h hn hc hm hz =>
  injection hv with hv
  subst hv
  obtain ⟨bs,rfl,h2⟩:=strs_rep xs us h
  have hlen:bs.length=n:=by rw [← hn,← h2]; simp
  cases bs with
  | nil=>left; exact ⟨by simpa using h2.symm,some ad,c,by rw [← hlen]; rfl⟩
  | cons b bs =>
   right
   have h0:=(hz 0 (.string b) rfl).1
   obtain ⟨k,o,sp⟩:=ad
   obtain rfl:sp=none:=spot_of_cell h0
   refine ⟨k,o,c,b :: bs,by rw [hlen],h2,by omega,by simp,fun j x hx => ?_, ?_⟩
   ·have:=(hz j (.string x) (by rw [List.getElem?_map,hx]; rfl)).1
    rw [add_lit] at this; exact this
   ·unfold World.cell? at h0
    split at h0
    ·rename_i hb; exact (Array.getElem?_eq_some_iff.1 hb).1
    ·cases h0
 | _=>cases hv
theorem join_FnZ {ρ : Go.Shelf.Ren} (L : Go.Proofs.Lays.n156 P ρ) (X : Go.Proofs.Builder.Extra P ρ) (hf : ∃ fn,P.funcs[ρ.f 156]? = some fn ∧ (fn.name == "runtime.NumGoroutine") = false ∧ fn.body.isNone = false) (xs : List (List UInt8)) (sep : List UInt8)
  (hN:xs.length≤140737488355328) (hlen:(Go.Lib.join xs sep).length≤140737488355328):FnZ P (ρ.f 156) [.sl (xs.map V.str),.str sep] (.str (Go.Lib.join xs sep)):=by
 refine FnZ_calls hf fun Z w vs hz hv => ?_
 cases hv with | cons h1 hv=>cases hv with | cons h2 hv=>cases hv with | nil =>
  cases h2 with
  | @str _ bsep hb =>
   rcases strs_row h1 with ⟨rfl,A,c,rfl⟩ | ⟨k,o,c,bs,rfl,h2,h3,h4,h5,h6⟩
   ·refine calls_mono (Any.strings_Join_none L X A c bsep w) ?_
    rintro e w' ⟨rfl,rfl⟩
    exact ⟨_,rfl,Below.refl _ _,.str rfl⟩
   ·have e:bs.map (fun x=>x.data.toList)=xs:=h2
    refine calls_mono (Any.strings_Join L X k o c bs bsep w h5 h6 (by rw [← e] at hN; simpa using hN) h3 (by rw [e,hb]; exact hlen)) ?_
    rintro e' w' ⟨rfl,hw⟩
    refine ⟨_,rfl,hw,.str ?_⟩
    rw [e,hb]
theorem itoa_FnZ {ρ : Go.Shelf.Ren} (L : Go.Proofs.Lays.n171 P ρ) (hf : ∃ fn,P.funcs[ρ.f 171]? = some fn ∧ (fn.name == "runtime.NumGoroutine") = false ∧ fn.body.isNone = false) (i : Nat) (hi : i < 100) : FnZ P (ρ.f 171) [.int .i64 i] (.str (Go.Lib.decDigits i)) := by
 refine FnZ_calls hf fun Z w vs hz hv => ?_
 cases hv with | cons h1 hv=>cases hv with | nil =>
  cases h1
  refine calls_mono (Any.strconv_Itoa_small L i hi w) ?_
  rintro e w' ⟨rfl,rfl⟩
  exact ⟨_,rfl,Below.refl _ _,.str rfl⟩
end
theorem itoa_fn (n:Int) (h0:0≤n) (h:n≤99):FnZ Tryz.prog 65 [.int .i64 n] (.str (dec n)):=by
 have:=itoa_FnZ Tryz.lays171 ⟨_,Tryz.func65,rfl,rfl⟩ n.toNat (by omega)
 have e:((n.toNat:Nat):Int)=n:=by omega
 rw [e] at this
 exact this
theorem join_fn (xs:List (List UInt8)) (sep:List UInt8) (hN:xs.length≤140737488355328) (hlen:(Go.Lib.join xs sep).length≤140737488355328):FnZ Tryz.prog 93 [.sl (xs.map V.str),.str sep] (.str (Go.Lib.join xs sep)) :=
 join_FnZ Tryz.lays156 Tryz.Builder_Extra_156 ⟨_,Tryz.func93,rfl,rfl⟩ xs sep hN hlen
end TL

namespace TL
open Go Go.RowKit
/-- All that lies in memory. -/
def ZA (w:World):Zs:=fun k _=>k<w.heap.size
/-- Whatever is read at a type is a row of pure cells of a kind. -/
def Opens (P:Program) (w:World) (t:TypeId) (R:List V→Prop):Prop :=
 ∀ (H:Type) (enc:TypeId × Value→H) (base:Nat) (sp:Nat→Bool) (held:Bool) (fuel:Nat) (cs:List Value) (x:DataW H × List MemPlace),DataW.trod enc P w base sp held fuel t cs=some x→∃ vs,RepCs (ZA w) w vs cs∧R vs
section
variable {P:Program} {w:World} {t:TypeId}
theorem RepCs.append {Z:Zs} {a b:List V} {us vs:List Value} (h:RepCs Z w a us) (g:RepCs Z w b vs):RepCs Z w (a++b) (us++vs):=by
 induction a generalizing us with
 | nil=>cases h; exact g
 | cons x xs ih=>cases h with | cons hc h t=>exact .cons hc h (ih t)
theorem Opens.mono {R R':List V→Prop} (h:Opens P w t R) (hr:∀ vs,R vs→R' vs):Opens P w t R':=fun H enc base sp held fuel cs x hx=>by
 obtain ⟨vs,h1,h2⟩:=h H enc base sp held fuel cs x hx
 exact ⟨vs,h1,hr vs h2⟩
theorem opens_int {k:IntKind} (ht:P.underlying t=some (.int k)):Opens P w t fun vs=>∃ n,vs=[.int k n]∧(Lit.int k n).wf=true:=fun H enc base sp held fuel cs x hx=>by
 obtain ⟨n,rfl,_,hw⟩:=DataW.trod_int ht hx
 exact ⟨_,.cons rfl (.int _ _) .nil,n,rfl,hw⟩
theorem opens_slice {e:TypeId} {z:Nat} {α:Type} {v:α→V} {Q:α→Prop} (ht:P.underlying t=some (.slice e)) (hc:P.cellsOf e=z) (hz:0<z)
  (ho:Opens P w e fun vs=>∃ a,Q a∧(v a=.agg vs∨(z=1∧vs=[v a]))):Opens P w t fun vs=>∃ l:List α,vs=[.sl (l.map v)]∧l.length≤maxLen∧∀ a ∈ l,Q a:=fun H enc base sp held fuel cs x hx=>by
 rcases DataW.trod_slice ht hx with ⟨rfl,_⟩ | ⟨a,len,cap,elems,rest,n,_,rfl,rfl,hb,hl,hm,hlen,hel,_⟩
 ·exact ⟨_,.cons rfl (.nil _ _) .nil,[],rfl,by simp,by simp⟩
 ·have key:∀ m k,k+m=len→∃ (l:List α) (us:List Value),l.length=m∧RepEs (ZA w) w z (l.map v) us∧(∀ a ∈ l,Q a)∧∀ i u,us[i]? = some u→w.cell? (a.add (k * z+i))=some u:=by
   intro m
   induction m with
   | zero=>intro k _; exact ⟨[],[],rfl,.nil z,by simp,by simp⟩
   | succ m ih =>
    intro k hk
    obtain ⟨l,us,h1,h2,h3,h4⟩:=ih (k+1) (by omega)
    have he:=hel k (by omega)
    have:k<elems.length:=by omega
    rw [List.getElem?_eq_getElem this,Option.bind_eq_some_iff] at he
    obtain ⟨ci,hci,htr⟩:=he
    obtain ⟨_,hcl,hcell⟩:=World.cells?_some hci
    obtain ⟨vs,hrep,y,hQ,hv⟩:=ho H enc base sp held n ci _ htr
    have hlz:ci.length=z:=by rw [hcl,hc]
    refine ⟨y :: l,ci++us,by simp [h1], ?_, ?_, ?_⟩
    ·rcases hv with hv | ⟨rfl,rfl⟩
     ·show RepEs (ZA w) w z (v y :: l.map v) (ci++us)
      rw [hv]; exact .agg hrep hlz h2
     ·cases hrep with | cons hcc hx' t=>cases t; exact .one hcc hx' h2
    ·intro b hb; rcases List.mem_cons.1 hb with rfl | hb
     ·exact hQ
     ·exact h3 b hb
    ·intro i u hu
     by_cases hi:i<z
     ·rw [List.getElem?_append_left (by omega)] at hu
      have:=hcell i (by omega)
      rw [hc,add_add,hu] at this
      exact this
     ·rw [List.getElem?_append_right (by omega)] at hu
      have:=h4 _ u hu
      rw [hlz,show (k+1) * z+(i-z)=k * z+i by rw [Nat.succ_mul]; omega] at this
      exact this
  obtain ⟨l,us,h1,h2,h3,h4⟩:=key len 0 (by omega)
  refine ⟨_,.cons rfl (.sl h2 (by simp [h1]) hl hm fun i u hu => ?_) .nil,l,rfl,by omega,h3⟩
  have:=h4 i u hu
  rw [Nat.zero_mul,Nat.zero_add] at this
  exact ⟨this,World.block_lt_of_cell? w _ this⟩
theorem rep_one {R:List V→Prop} {H:Type} {enc:TypeId × Value→H} {base:Nat} {sp:Nat→Bool} {held:Bool} {v:Value} {d:DataW H} {p:List MemPlace} (ho:Opens P w t R) (h:DataW.Trod enc P w base sp held t v d p) (hv:v.cells = #[v]):∃ x,RepV (ZA w) w x v∧R [x]:=by
 obtain ⟨fuel,h⟩:=h
 obtain ⟨vs,h1,h2⟩:=ho H enc base sp held fuel _ _ h
 rw [hv] at h1
 cases h1 with | cons hc hx t=>cases t; exact ⟨_,hx,h2⟩
/-- A law's contract over pure values, for the machine. -/
theorem law_walk {f:Nat} {args:List V} {us:List Value} (law:FnZ P f args (.bool true)) (hgl:Gl P (ZA w) w) (hr:RepVs (ZA w) w args us) :
  Calls P f us.toArray w fun e w'=>e=.returned (.bool true)∧Below w.heap.size w w':=by
 have hc:=law.2 (ZA w) w us ⟨fun _ _ h=>h,hgl⟩ hr
 intro c
 obtain ⟨e,w',fr,h1,h2⟩:=hc c
 refine ⟨e,w',fr, ?_,h2⟩
 obtain ⟨v,rfl,hb,hv⟩:=h1
 cases hv
 exact ⟨rfl,hb⟩
end
end TL

namespace TL
open Go Go.Proofs
attribute [local simp] marksV storyV codeV Claim.v Place.v Deed.v
theorem deedText_fn (a:Deed) (hl:a.words.length≤2000000000):FnZ Tryz.prog 47 [a.v] (.str (deedTx a)):=by
 have hr:=readClaim_fn 4 a.words hl
 obtain ⟨kind,num,words⟩:=a
 simp only at hr hl
 have len5:∀ x:List UInt8,x.length≤2→(5:Int)+x.length≤9223372036854775807∧(7:Int)+x.length≤9223372036854775807:=fun x h=>⟨by omega,by omega⟩
 have len4:(4:Int)+words.length≤9223372036854775807:=by omega
 by_cases hs:kind=0∧num=0∧(readC 4 words).isSome=true
 ·rw [deedTx_say (a:=⟨kind,num,words⟩) hs]
  obtain ⟨rfl,rfl,h3⟩:=hs
  refine FZ (rs:=[.tmp 2]) false Tryz.func47 ?_
  simp -dsimp
  refine cl hr ?_
  simp -dsimp [optC,h3,len4,txSay]
 have first:∀ (X:Prop),(kind=0→num=0→(readC 4 words).isSome=false→X)→(kind=0→¬num=0→X)→(¬kind=0→X)→X:=fun X h1 h2 h3=>by
  by_cases hk:kind=0
  ·by_cases hn:num=0
   ·refine h1 hk hn ?_
    have hq:=ft (readC 4 words).isSome
    rcases hq with hq | hq
    ·exact hq
    ·exact absurd ⟨hk,hn,hq⟩ hs
   ·exact h2 hk hn
  ·exact h3 hk
 -- what comes when it is not said
 have core:(words ≠ []∨num<0∨99<num)∨(words=[]∧0≤num∧num≤99):=by
  by_cases hw:words=[]
  ·by_cases hn:num<0∨99<num
   ·exact .inl (.inr hn)
   ·exact .inr ⟨hw,by omega,by omega⟩
  ·exact .inl (.inl hw)
 rcases core with hc | ⟨rfl,h0,h1⟩
 ·have e:deedTx ⟨kind,num,words⟩=[]:=by unfold deedTx; rw [if_neg hs,if_pos hc]
  rw [e]
  have cases3:(¬words=[])∨(words=[]∧num<0)∨(words=[]∧¬num<0∧99<num):=by
   by_cases hw:words=[]
   ·rcases hc with h | h | h
    ·exact absurd hw h
    ·exact .inr (.inl ⟨hw,h⟩)
    ·exact .inr (.inr ⟨hw,by omega,h⟩)
   ·exact .inl hw
  refine first _ (fun hk hn hq => ?_) (fun hk hn => ?_) (fun hk => ?_)
  ·subst hk; subst hn
   rcases cases3 with h | ⟨_,h⟩ | ⟨_,_,h⟩
   ·refine FZ (rs:=[.tmp 2]) false Tryz.func47 ?_
    simp -dsimp
    refine cl hr ?_
    simp -dsimp [optC,hq,h]
   ·omega
   ·omega
  ·rcases cases3 with h | ⟨hw,h⟩ | ⟨hw,h,h2⟩
   ·refine FZ (rs:=[.tmp 2]) false Tryz.func47 ?_
    simp -dsimp
    refine cl hr ?_
    simp -dsimp [optC,hk,hn,h]
   ·refine FZ (rs:=[.tmp 2]) false Tryz.func47 ?_
    simp -dsimp
    refine cl hr ?_
    simp -dsimp [optC,hk,hn,hw,h]
   ·refine FZ (rs:=[.tmp 2]) false Tryz.func47 ?_
    simp -dsimp
    refine cl hr ?_
    simp -dsimp [optC,hk,hn,hw,h,h2]
  ·rcases cases3 with h | ⟨hw,h⟩ | ⟨hw,h,h2⟩
   ·refine FZ (rs:=[.tmp 2]) false Tryz.func47 ?_
    simp -dsimp
    refine cl hr ?_
    simp -dsimp [optC,hk,h]
   ·refine FZ (rs:=[.tmp 2]) false Tryz.func47 ?_
    simp -dsimp
    refine cl hr ?_
    simp -dsimp [optC,hk,hw,h]
   ·refine FZ (rs:=[.tmp 2]) false Tryz.func47 ?_
    simp -dsimp
    refine cl hr ?_
    simp -dsimp [optC,hk,hw,h,h2]
 ·rw [deedTx_none (a:=⟨kind,num,[]⟩) h0 h1 rfl]
  have hd:=dec_len h0 h1
  have hnum:=itoa_fn num h0 h1
  obtain ⟨l5,l7⟩:=len5 _ hd
  have n0:¬num<0:=by omega
  have n1:¬99<num:=by omega
  rw [readC_nil] at hr
  simp only
  have ways:kind=1∨kind=2∨(kind=3∧num=0)∨(kind=4∧num=0)∨(¬kind=1∧¬kind=2∧(¬kind=3∨¬num=0)∧(¬kind=4∨¬num=0)):=by omega
  rcases ways with rfl | rfl | ⟨rfl,rfl⟩ | ⟨rfl,rfl⟩ | ⟨k1,k2,k3,k4⟩
  ·refine FZ (rs:=[.tmp 2]) false Tryz.func47 ?_
   simp -dsimp
   refine cl hr ?_
   simp -dsimp [optC,n0,n1]
   refine cl hnum ?_
   simp -dsimp [l5,txDrop]
  ·refine FZ (rs:=[.tmp 2]) false Tryz.func47 ?_
   simp -dsimp
   refine cl hr ?_
   simp -dsimp [optC,n0,n1]
   refine cl hnum ?_
   simp -dsimp [l7,txPeople]
  ·refine FZ (rs:=[.tmp 2]) false Tryz.func47 ?_
   simp -dsimp
   refine cl hr ?_
   simp -dsimp [optC,txLeast]
  ·refine FZ (rs:=[.tmp 2]) false Tryz.func47 ?_
   simp -dsimp
   refine cl hr ?_
   simp -dsimp [optC,txBack]
  ·have e:(if kind=1 then txDrop++dec num else if kind=2 then txPeople++dec num else if kind=3∧num=0 then txLeast else if kind=4∧num=0 then txBack else [])=[]:=by
    rw [if_neg k1,if_neg k2,if_neg (by omega),if_neg (by omega)]
   rw [e]
   by_cases hn:num=0
   ·have k3':¬kind=3:=by omega
    have k4':¬kind=4:=by omega
    by_cases hk:kind=0
    ·refine FZ (rs:=[.tmp 2]) false Tryz.func47 ?_
     simp -dsimp
     refine cl hr ?_
     simp -dsimp [optC,hn,hk]
    ·refine FZ (rs:=[.tmp 2]) false Tryz.func47 ?_
     simp -dsimp
     refine cl hr ?_
     simp -dsimp [optC,hn,hk,k1,k2,k3',k4']
   ·by_cases hk:kind=0
    ·refine FZ (rs:=[.tmp 2]) false Tryz.func47 ?_
     simp -dsimp
     refine cl hr ?_
     simp -dsimp [optC,hn,hk,n0,n1]
    ·by_cases h3:kind=3
     ·refine FZ (rs:=[.tmp 2]) false Tryz.func47 ?_
      simp -dsimp
      refine cl hr ?_
      simp -dsimp [optC,hn,h3,n0,n1]
     ·by_cases h4:kind=4
      ·refine FZ (rs:=[.tmp 2]) false Tryz.func47 ?_
       simp -dsimp
       refine cl hr ?_
       simp -dsimp [optC,hn,h4,n0,n1]
      ·refine FZ (rs:=[.tmp 2]) false Tryz.func47 ?_
       simp -dsimp
       refine cl hr ?_
       simp -dsimp [optC,hn,hk,h3,h4,k1,k2,n0,n1]
end TL

namespace TL
open Go Go.Proofs
attribute [local simp] marksV storyV codeV Claim.v Place.v Deed.v
/-- The texts of claims with commas between them. -/
noncomputable def storyTx (people:Int) (l:List Claim):List UInt8:=Go.Lib.join (l.map (claimTx people)) [44]
noncomputable def placeTx (p:Place):List UInt8:=if placeOk p=true then dec p.people++32 :: (if p.story=[] then [46] else storyTx p.people p.story) else []
theorem claim_cellsE (c:Claim):c.v.cells=[.int .i64 c.who,marksV c.says]:=rfl
theorem claimTx_short (people:Int) (c:Claim):(claimTx people c).length≤27:=by
 have hk:=ft (claimOk people c)
 rcases hk with hk | hk
 ·unfold claimTx; rw [if_neg (by simp [hk])]; simp
 ·exact (claimTx_len hk).2.1
theorem joinTail_len (xs:List (List UInt8)) (h:∀ x ∈ xs,x.length≤27):(Go.Lib.joinTail [44] xs).length≤28 * xs.length:=by
 induction xs with
 | nil=>simp [Go.Lib.joinTail]
 | cons x xs ih =>
  have h1:=h x (List.mem_cons_self ..)
  have h2:=ih fun y hy=>h y (List.mem_cons_of_mem _ hy)
  simp only [Go.Lib.joinTail,List.map_cons,List.flatten_cons,List.length_append,List.length_cons,List.length_nil] at h2 ⊢
  omega
theorem join_len (xs:List (List UInt8)) (h:∀ x ∈ xs,x.length≤27):(Go.Lib.join xs [44]).length≤28 * xs.length+27:=by
 cases xs with
 | nil=>simp [Go.Lib.join_nil]
 | cons x xs =>
  rw [Go.Lib.join_cons]
  have h1:=h x (List.mem_cons_self ..)
  have h2:=joinTail_len xs fun y hy=>h y (List.mem_cons_of_mem _ hy)
  simp only [List.length_append,List.length_cons]; omega
theorem storyTx_len (people:Int) (l:List Claim):(storyTx people l).length≤28 * l.length+27:=by
 have:=join_len (l.map (claimTx people)) (fun x hx=>by obtain ⟨c,_,rfl⟩:=List.mem_map.1 hx; exact claimTx_short people c)
 simpa [storyTx] using this
theorem placeOk_all {p:Place} (h:placeOk p=true):1≤p.people∧p.people≤4∧p.story.length≤6∧∀ c ∈ p.story,claimOk p.people c=true:=by
 simp only [placeOk,storyOk,peopleOk,Bool.and_eq_true,decide_eq_true_eq,List.all_eq_true] at h
 exact ⟨by omega,by omega,by omega,h.1.1⟩
theorem placeTx_no {p:Place} (h:placeOk p=false):placeTx p=[]:=by unfold placeTx; rw [if_neg (by simp [h])]
/-- The program. -/
def Ipt (p:Place) (e:Nat) (s:S):Prop:=∃ i id:Nat,s.tm 1=.ptr 0 0∧s.m 0=some (.box 25 2 [.v (.int .i64 p.people),.v (storyV p.story)])∧s.tm 3=.loc id∧0<id∧id<s.n∧s.m id=some (.arr 9 (((p.story.take i).map (claimTx p.people)).map V.str)) ∧
 s.tm 11=.v (.sl (p.story.map Claim.v))∧s.tm 12=.v (.int .i64 p.story.length)∧s.tm 13=.v (.int .i64 i)∧s.mu=false∧i≤p.story.length∧(e=1→i=p.story.length)
theorem placeText_fn (p:Place) (hl:p.story.length<1000000000000):FnZ Tryz.prog 37 [p.v] (.str (placeTx p)):=by
 have hok:=placeOk_fn p hl
 have hk:=ft (placeOk p)
 rcases hk with hk | hk
 ·rw [placeTx_no hk]
  refine FZ (rs:=[.tmp 2]) false Tryz.func37 ?_
  simp -dsimp
  refine cl hok ?_
  simp -dsimp [hk]
 obtain ⟨hp1,hp4,hl6,hcl⟩:=placeOk_all hk
 have hit:=itoa_fn p.people (by omega) (by omega)
 have hdl:=dec_len (n:=p.people) (by omega) (by omega)
 have hst:=storyTx_len p.people p.story
 have e0:placeTx p=dec p.people++32 :: (if p.story=[] then [46] else storyTx p.people p.story):=by unfold placeTx; rw [if_pos hk]
 rw [e0]
 refine FZ (rs:=[.tmp 2]) false Tryz.func37 ?_
 simp -dsimp
 refine cl hok ?_
 simp -dsimp [hk]
 refine twp_loopC (Ipt p 0) (fun s=>p.story.length-natOf (s.tm 13)) (Ipt p 1) ?_ ?_ ?_
 ·exact ⟨0,1,by simp -dsimp,by simp -dsimp,by simp -dsimp,by omega,by simp -dsimp,by simp -dsimp,by simp -dsimp,by simp -dsimp,by simp -dsimp,by simp -dsimp,by omega,by simp⟩
 ·rintro s ⟨i,id,t1,m0,t3,hid0,hid,hm,t11,t12,t13,hmu,hi,hend⟩
  by_cases hlt:i<p.story.length
  case neg =>
   simp -dsimp [t12,t13,hlt]
   exact ⟨i,id,by simp -dsimp [t1],by simp -dsimp [m0],by simp -dsimp [t3],hid0,by simp -dsimp [hid],by simp -dsimp [hm],by simp -dsimp [t11],by simp -dsimp [t12],by simp -dsimp [t13],by simp -dsimp [hmu],hi,fun _=>by omega⟩
  have hget:(p.story.map Claim.v)[i]? = some (p.story[i].v):=by simp [hlt]
  have wi:IntKind.wrap .i64 ((i:Int)+1)=((i+1:Nat):Int):=by rw [w64 (by omega) (by omega)]; omega
  have hmu1:p.story.length-(i+1)<p.story.length-i:=by omega
  have f1:=far hid
  have f0:=far (show 0<s.n by omega)
  have g0:¬id=0:=by omega
  have b1:(min i p.story.length+1) * 16≤140737488355328:=by omega
  have hct:=claimTx_fn p.people p.story[i]
  have hnx:((p.story.take (i+1)).map (claimTx p.people)).map V.str=((p.story.take i).map (claimTx p.people)).map V.str++[.str (claimTx p.people p.story[i])]:=by
   rw [List.take_succ_eq_append_getElem hlt,List.map_append,List.map_append]; rfl
  simp -dsimp [t1,t3,t11,t12,t13,hlt,hget,m0,hmu,f0,f1,claim_cellsE]
  refine cl hct ?_
  simp -dsimp [t1,t3,t11,t12,t13,m0,hm,hmu,f0,f1,b1,wi,hmu1,nes,g0,Ne.symm g0]
  refine st_out fun s' ht hm' hn' hu' => ?_
  have a1:=ht 1
  have a3:=ht 3
  have a11:=ht 11
  have a12:=ht 12
  have a13:=ht 13
  simp -dsimp [t1,t11,t12] at a1 a3 a11 a12 a13 hm' hn' hu'
  clear ht
  refine ⟨i+1,_,a1,by simp [hm',f0,g0,Ne.symm g0,m0],a3,by omega,by omega, ?_,a11,a12,a13,by rw [hu',hmu],by omega,by simp⟩
  rw [hnx]; simp [hm',nes]
 ·rintro s ⟨i,id,t1,m0,t3,hid0,hid,hm,t11,t12,t13,hmu,hi,hend⟩
  have hil:=hend rfl
  rw [hil,List.take_length] at hm
  have f1:=far hid
  have f0:=far (show 0<s.n by omega)
  have g0:¬id=0:=by omega
  by_cases hs:p.story=[]
  ·have hm2:s.m id=some (.arr 9 []):=by rw [hm,hs]; rfl
   have hj:=join_fn [[46]] [44] (by simp) (by rw [Go.Lib.join_one]; simp)
   rw [Go.Lib.join_one] at hj
   have e1:(if p.story=[] then [46] else storyTx p.people p.story)=([46]:List UInt8):=if_pos hs
   have b1:((dec p.people).length:Int)+1≤9223372036854775807:=by omega
   have b2:((dec p.people).length:Int)+1+1≤9223372036854775807:=by omega
   have b3:((dec p.people).length:Int)+(1+1)≤9223372036854775807:=by omega
   rw [e1]
   generalize dec p.people=d at *
   simp -dsimp [t1,t3,m0,hm2,hmu,f0,f1,nes,g0,Ne.symm g0]
   refine cl hit ?_
   simp -dsimp [t1,t3,m0,hm2,hmu,f0,f1,nes,g0,Ne.symm g0,b1]
   refine call_ hj (by simp -dsimp [f0,f1,nes,g0]) ?_
   simp -dsimp [b1,b2,b3]
  ·have hlen:¬((p.story.map (claimTx p.people)).map V.str)=[]:=by simpa using hs
   have hlen2:¬(((p.story.map (claimTx p.people)).map V.str).length:Int)=0:=fun h=>hlen (List.length_eq_zero_iff.1 (by omega))
   have hj:=join_fn (p.story.map (claimTx p.people)) [44] (by simp; omega) (Nat.le_trans hst (by omega))
   have hj:FnZ Tryz.prog 93 [.sl ((p.story.map (claimTx p.people)).map V.str),.str [44]] (.str (storyTx p.people p.story)):=hj
   have e1:(if p.story=[] then [46] else storyTx p.people p.story)=storyTx p.people p.story:=if_neg hs
   have b1:((dec p.people).length:Int)+1≤9223372036854775807:=by omega
   have b2:((dec p.people).length:Int)+1+(storyTx p.people p.story).length≤9223372036854775807:=by omega
   have b3:((dec p.people).length:Int)+(1+(storyTx p.people p.story).length)≤9223372036854775807:=by omega
   rw [e1]
   generalize dec p.people=d at *
   generalize storyTx p.people p.story=st at *
   generalize (p.story.map (claimTx p.people)).map V.str=row at *
   simp -dsimp [t1,t3,m0,hm,hmu,f0,f1,nes,g0,Ne.symm g0,hlen,hlen2]
   refine cl hit ?_
   simp -dsimp [t1,t3,m0,hm,hmu,f0,f1,nes,g0,Ne.symm g0,b1]
   refine call_ hj (by simp -dsimp [hm]) ?_
   simp -dsimp [b1,b2,b3]
/-- The reference. -/
def Ispt (p:Place) (e:Nat) (s:S):Prop:=∃ i:Nat,s.tm 1=.ptr 0 0∧s.m 0=some (.box 25 2 [.v (.int .i64 p.people),.v (storyV p.story)])∧s.tm 3=.v (.str (storyTx p.people (p.story.take i))) ∧
 s.tm 4=.v (.int .i64 i)∧s.mu=false∧i≤p.story.length∧(e=1→i=p.story.length)
@[simp] theorem storyTx_nil (people:Int):storyTx people []=[]:=rfl
theorem storyTx_zero (people:Int) (l:List Claim):storyTx people (l.take 0)=[]:=rfl
theorem storyTx_first (people:Int) (l:List Claim) (h:0<l.length):storyTx people (l.take 1)=claimTx people l[0]:=by
 cases l with
 | nil=>simp at h
 | cons c l=>simp [storyTx,Go.Lib.join_one]
theorem join_snoc (x:List UInt8) (xs:List (List UInt8)) (y:List UInt8):Go.Lib.join ((x :: xs)++[y]) [44]=Go.Lib.join (x :: xs) [44]++[44]++y:=by
 rw [List.cons_append,Go.Lib.join_cons,Go.Lib.join_cons]
 simp [Go.Lib.joinTail]
theorem storyTx_next (people:Int) (l:List Claim) (i:Nat) (h0:0<i) (h:i<l.length):storyTx people (l.take (i+1))=storyTx people (l.take i)++[44]++claimTx people l[i]:=by
 unfold storyTx
 rw [List.take_succ_eq_append_getElem h,List.map_append]
 cases l with
 | nil=>simp at h
 | cons c l =>
  cases i with
  | zero=>omega
  | succ i=>simp only [List.take_succ_cons,List.map_cons,List.map_nil]; exact join_snoc _ _ _
theorem placeTextS_fn (p:Place) (hf:p.fine):FnZ Tryz.prog 71 [p.v] (.str (placeTx p)):=by
 have hok:=placeOkS_fn p hf
 have hk:=ft (placeOk p)
 rcases hk with hk | hk
 ·rw [placeTx_no hk]
  refine FZ (rs:=[.tmp 2]) false Tryz.func71 ?_
  simp -dsimp
  refine cl hok ?_
  simp -dsimp [hk]
 obtain ⟨hp1,hp4,hl6,hcl⟩:=placeOk_all hk
 have hit:=l1Number2_fn p.people (by omega) (by omega)
 have hdl:=dec_len (n:=p.people) (by omega) (by omega)
 have hst:=storyTx_len p.people p.story
 have e0:placeTx p=dec p.people++32 :: (if p.story=[] then [46] else storyTx p.people p.story):=by unfold placeTx; rw [if_pos hk]
 rw [e0]
 refine FZ (rs:=[.tmp 2]) false Tryz.func71 ?_
 simp -dsimp
 refine cl hok ?_
 simp -dsimp [hk]
 refine twp_loopC (Ispt p 0) (fun s=>p.story.length-natOf (s.tm 4)) (Ispt p 1) ?_ ?_ ?_
 ·exact ⟨0,by simp -dsimp,by simp -dsimp,by simp -dsimp [storyTx_zero],by simp -dsimp,by simp -dsimp,by omega,by simp⟩
 ·rintro s ⟨i,t1,m0,t3,t4,hmu,hi,hend⟩
  by_cases hlt:i<p.story.length
  case neg =>
   simp -dsimp [t1,t4,m0,hlt]
   exact ⟨i,by simp -dsimp [t1],by simp -dsimp [m0],by simp -dsimp [t3],by simp -dsimp [t4],by simp -dsimp [hmu],hi,fun _=>by omega⟩
  have hget:(p.story.map Claim.v)[i]? = some (p.story[i].v):=by simp [hlt]
  have wi:IntKind.wrap .i64 ((i:Int)+1)=((i+1:Nat):Int):=by rw [w64 (by omega) (by omega)]; omega
  have hmu1:p.story.length-(i+1)<p.story.length-i:=by omega
  have hct:=claimTxS_fn p.people p.story[i] (hf.2 _ (List.getElem_mem _))
  have hcl2:=claimTx_short p.people p.story[i]
  have hst2:=storyTx_len p.people (p.story.take i)
  rw [List.length_take] at hst2
  by_cases hi0:i=0
  ·have hnx:storyTx p.people (p.story.take (i+1))=claimTx p.people p.story[i]:=by
    subst hi0; exact storyTx_first p.people p.story hlt
   have t3':s.tm 3=.v (.str []):=by rw [t3,hi0]; rfl
   have hi1:¬0<i:=by omega
   have hi1':¬(0:Int)<(i:Int):=by omega
   have b2:((claimTx p.people p.story[i]).length:Int)≤9223372036854775807:=by omega
   simp -dsimp [t1,t3',t4,m0,hlt,hi1,hi1']
   refine twd (List.range 11) [0] (List.replicate 11 [0]) (List.replicate 11 [0]) ?_
   simp -dsimp [List.range_succ,t1,t3',t4,m0,hget,hlt,claim_cellsE]
   refine cl hct ?_
   simp -dsimp [List.range_succ,t1,t3',t4,m0,hget,b2,wi,hmu1]
   exact ⟨i+1,by simp -dsimp [t1],by simp -dsimp [m0],by simp -dsimp [hnx],by simp -dsimp,by simp -dsimp [hmu],by omega,by simp⟩
  ·have hi1:0<i:=by omega
   have hi1':(0:Int)<(i:Int):=by omega
   have hnx:=storyTx_next p.people p.story i hi1 hlt
   generalize hX:storyTx p.people (p.story.take i)=X at *
   have b0:(X.length:Int)+1≤9223372036854775807:=by omega
   have b1:(X.length:Int)+1+(claimTx p.people p.story[i]).length≤9223372036854775807:=by omega
   have b2:(X.length:Int)+(1+(claimTx p.people p.story[i]).length)≤9223372036854775807:=by omega
   simp -dsimp [t1,t3,t4,m0,hlt,hi1,hi1',b0]
   refine twd (List.range 11) [0] (List.replicate 11 [0]) (List.replicate 11 [0]) ?_
   simp -dsimp [List.range_succ,t1,t3,t4,m0,hget,hlt,claim_cellsE,b0]
   refine cl hct ?_
   simp -dsimp [List.range_succ,t1,t3,t4,m0,hget,b0,b1,b2,wi,hmu1]
   exact ⟨i+1,by simp -dsimp [t1],by simp -dsimp [m0],by simp -dsimp [hnx],by simp -dsimp,by simp -dsimp [hmu],by omega,by simp⟩
 ·rintro s ⟨i,t1,m0,t3,t4,hmu,hi,hend⟩
  have hil:=hend rfl
  rw [hil,List.take_length] at t3
  by_cases hs:p.story=[]
  ·have e1:(if p.story=[] then [46] else storyTx p.people p.story)=([46]:List UInt8):=if_pos hs
   have b1:((dec p.people).length:Int)+1≤9223372036854775807:=by omega
   have b2:((dec p.people).length:Int)+1+1≤9223372036854775807:=by omega
   have b3:((dec p.people).length:Int)+(1+1)≤9223372036854775807:=by omega
   have hl0:(p.story.length:Int)=0:=by rw [hs]; rfl
   rw [e1]
   generalize dec p.people=d at *
   simp -dsimp [t1,t3,m0,hs,hl0]
   refine cl hit ?_
   simp -dsimp [b1,b2,b3]
  ·have e1:(if p.story=[] then [46] else storyTx p.people p.story)=storyTx p.people p.story:=if_neg hs
   have b1:((dec p.people).length:Int)+1≤9223372036854775807:=by omega
   have b2:((dec p.people).length:Int)+1+(storyTx p.people p.story).length≤9223372036854775807:=by omega
   have b3:((dec p.people).length:Int)+(1+(storyTx p.people p.story).length)≤9223372036854775807:=by omega
   rw [e1]
   generalize dec p.people=d at *
   generalize storyTx p.people p.story=st at *
   simp -dsimp [t1,t3,m0,hs]
   refine cl hit ?_
   simp -dsimp [t1,t3,m0,b1,b2,b3]
end TL

namespace TL
/-- Cut at every such sign. -/
def cutGo (c:UInt8):List UInt8→List UInt8→List (List UInt8)
 | acc,[]=>[acc]
 | acc,x :: xs=>if x=c then acc :: cutGo c [] xs else cutGo c (acc++[x]) xs
def cutAt (c:UInt8) (s:List UInt8):List (List UInt8):=cutGo c [] s
theorem cutGo_clean {c:UInt8} : ∀ (x acc r:List UInt8),(∀ y ∈ x,y ≠ c)→cutGo c acc (x++r)=cutGo c (acc++x) r
 | [],acc,r,_=>by simp
 | y :: x,acc,r,h=>by
  have h1:y ≠ c:=h y (List.mem_cons_self ..)
  rw [List.cons_append]
  show (if y=c then _ else _)=_
  rw [if_neg h1,cutGo_clean x _ r fun z hz=>h z (List.mem_cons_of_mem _ hz)]
  simp
theorem cutAt_app {c:UInt8} {x r:List UInt8} (h:∀ y ∈ x,y ≠ c):cutAt c (x++c :: r)=x :: cutAt c r:=by
 unfold cutAt
 rw [cutGo_clean x [] _ h]
 show (if c=c then _ else _)=_
 rw [if_pos rfl]; rfl
theorem cutAt_none {c:UInt8} {x:List UInt8} (h:∀ y ∈ x,y ≠ c):cutAt c x=[x]:=by
 have:=cutGo_clean x [] [] h
 rw [List.append_nil] at this
 unfold cutAt; rw [this]; rfl
theorem cut_first (c:UInt8):∀ s:List UInt8,(∀ y ∈ s,y ≠ c)∨∃ x r,s=x++c :: r∧∀ y ∈ x,y ≠ c
 | []=>.inl (by simp)
 | y :: s=>by
  by_cases h:y=c
  ·exact .inr ⟨[],s,by rw [h]; rfl,by simp⟩
  ·rcases cut_first c s with h1 | ⟨x,r,h1,h2⟩
   ·exact .inl fun z hz=>by
     rcases List.mem_cons.1 hz with rfl | hz
     ·exact h
     ·exact h1 z hz
   ·exact .inr ⟨y :: x,r,by rw [h1]; rfl,fun z hz=>by
     rcases List.mem_cons.1 hz with rfl | hz
     ·exact h
     ·exact h2 z hz⟩
theorem cutGo_len (c:UInt8):∀ s acc,(cutGo c acc s).length≤s.length+1
 | [],acc=>by simp [cutGo]
 | x :: s,acc=>by
  show (if x=c then acc :: cutGo c [] s else cutGo c (acc++[x]) s).length≤_
  have h1:=cutGo_len c s []
  have h2:=cutGo_len c s (acc++[x])
  split
  ·simp only [List.length_cons]; omega
  ·simp only [List.length_cons]; omega
theorem cutAt_len (c:UInt8) (s:List UInt8):(cutAt c s).length≤s.length+1:=cutGo_len c s []
theorem cutGo_piece (c:UInt8):∀ s acc,∀ x ∈ cutGo c acc s,x.length≤acc.length+s.length
 | [],acc,x,h=>by
  cases List.mem_singleton.1 h; simp
 | y :: s,acc,x,h=>by
  have h:x ∈ (if y=c then acc :: cutGo c [] s else cutGo c (acc++[y]) s):=h
  split at h
  ·rcases List.mem_cons.1 h with rfl | h
   ·simp
   ·have:=cutGo_piece c s [] x h; simp at this ⊢; omega
  ·have:=cutGo_piece c s _ x h; simp at this ⊢; omega
theorem cutAt_piece {c:UInt8} {s x:List UInt8} (h:x ∈ cutAt c s):x.length≤s.length:=by
 have:=cutGo_piece c s [] x h; simpa using this
theorem occ_head {c:UInt8} {s:List UInt8} {j:Nat} : Go.Lib.occAt s [c] j=(s[j]? == some c):=by
 unfold Go.Lib.occAt
 have e:(s.drop j).head? = s[j]? := by simp
 cases h:s.drop j with
 | nil=>rw [h] at e; rw [← e]; rfl
 | cons y r =>
  rw [h] at e; rw [← e]
  simp only [List.isPrefixOf,List.head?_cons,Bool.and_true]
  by_cases hy:c=y
  ·simp [hy]
  ·have hy2:¬y=c:=fun h=>hy h.symm
   have e1:(c == y)=false:=by simp [hy]
   rw [e1]; simp [hy2]
theorem index_clean {c:UInt8} {s:List UInt8} (h:∀ y ∈ s,y ≠ c):Go.Lib.index s [c] = -1:=by
 refine Go.Lib.index_none fun j _ => ?_
 rw [occ_head]
 cases e:s[j]? with
 | none=>rfl
 | some y=>have:=h y (List.mem_of_getElem? e); simpa using this
theorem index_at {c:UInt8} {x r:List UInt8} (h:∀ y ∈ x,y ≠ c):Go.Lib.index (x++c :: r) [c]=(x.length:Nat):=by
 refine Go.Lib.index_first (by simp) ?_ fun j hj => ?_
 ·rw [occ_head]; simp
 ·rw [occ_head,List.getElem?_append_left hj]
  have:=h x[j] (List.getElem_mem hj)
  simpa [hj] using this
theorem splitK_cut (c:UInt8):∀ (n:Nat) (s:List UInt8),s.length≤n→Go.Lib.splitK [c] 0 (Go.Lib.count s [c]) s=cutAt c s
 | n,s,hn=>by
  rcases cut_first c s with h | ⟨x,r,rfl,h⟩
  ·rw [cutAt_none h,Go.Lib.count_miss (index_clean h)]; rfl
  ·have hi:=index_at (r:=r) h
   have hne:([c]:List UInt8) ≠ []:=by simp
   have hd:(x++c :: r).drop (x.length+[c].length)=r:=by
    rw [List.drop_append,List.drop_of_length_le (by simp)]; simp
   rw [cutAt_app h,Go.Lib.count_hit hne hi,hd,Nat.add_comm,Go.Lib.splitK,hi]
   rw [if_neg (by simp)]
   have e1:((x.length:Nat):Int).toNat=x.length:=by omega
   rw [e1,hd,Nat.add_zero]
   cases n with
   | zero=>simp at hn
   | succ n =>
    rw [splitK_cut c n r (by simp at hn; omega)]
    congr 1
    rw [List.take_append_of_le_length (Nat.le_refl _),List.take_length]
theorem split_is_cut (c:UInt8) (s:List UInt8):Go.Lib.splitK [c] 0 (Go.Lib.count s [c]) s=cutAt c s:=splitK_cut c s.length s (Nat.le_refl _)
theorem cut_join {c:UInt8} : ∀ (xs:List (List UInt8)) (x:List UInt8),(∀ y ∈ x,y ≠ c)→(∀ z ∈ xs,∀ y ∈ z,y ≠ c)→cutAt c (Go.Lib.join (x :: xs) [c])=x :: xs
 | [],x,h,_=>by rw [Go.Lib.join_one]; exact cutAt_none h
 | z :: xs,x,h,hs=>by
  have e:Go.Lib.join (x :: z :: xs) [c]=x++c :: Go.Lib.join (z :: xs) [c]:=by
   rw [Go.Lib.join_cons,Go.Lib.join_cons]
   simp [Go.Lib.joinTail]
  rw [e,cutAt_app h,cut_join xs z (hs z (List.mem_cons_self ..)) fun w hw=>hs w (List.mem_cons_of_mem _ hw)]
/-! Claims' texts. -/
theorem ofNat_plain {w:Int} (h0:0≤w) (h4:w<4):plain (UInt8.ofNat (97+w.toNat)):=by
 rcases (by omega:w=0∨w=1∨w=2∨w=3) with rfl | rfl | rfl | rfl <;> exact ⟨by decide,by decide,by decide,by decide,by decide⟩
theorem claimTx_clean {people:Int} {c:Claim} (h:claimOk people c=true):∀ y ∈ claimTx people c,y ≠ 44∧y ≠ 32∧y ≠ 10∧y ≠ 46:=by
 obtain ⟨h1,h2,h3,h4,h5,h6⟩:=claimOk_all h
 intro y hy
 unfold claimTx at hy
 rw [if_pos h] at hy
 rcases List.mem_cons.1 hy with rfl | hy
 ·have:=ofNat_plain h3 (by omega); exact ⟨this.2.2.1,this.1,this.2.1,this.2.2.2.1⟩
 rcases List.mem_cons.1 hy with rfl | hy
 ·exact ⟨by decide,by decide,by decide,by decide⟩
 ·have:=termText_plain h5 y hy; exact ⟨this.2.2.1,this.1,this.2.1,this.2.2.2.1⟩
theorem story_cut {people:Int} {l:List Claim} (hl:l ≠ []) (h:∀ c ∈ l,claimOk people c=true):cutAt 44 (storyTx people l)=l.map (claimTx people):=by
 cases l with
 | nil=>exact absurd rfl hl
 | cons c l =>
  unfold storyTx
  rw [List.map_cons]
  refine cut_join _ _ (fun y hy=>(claimTx_clean (h c (List.mem_cons_self ..)) y hy).1) fun z hz y hy => ?_
  obtain ⟨d,hd,rfl⟩:=List.mem_map.1 hz
  exact (claimTx_clean (h d (List.mem_cons_of_mem _ hd)) y hy).1
theorem story_reads {people:Int} {l:List Claim} (hl:l ≠ []) (h:∀ c ∈ l,claimOk people c=true):(cutAt 44 (storyTx people l)).map (readC people)=l.map some:=by
 rw [story_cut hl h,List.map_map]
 exact List.map_congr_left fun c hc=>readC_text (h c hc)
/-- What stands behind the blank. -/
noncomputable def restTx (p:Place):List UInt8:=if p.story=[] then [46] else storyTx p.people p.story
theorem dec_digit {n:Int} (h0:1≤n) (h4:n≤4):dec n=[UInt8.ofNat (48+n.toNat)]:=by
 unfold dec Go.Lib.decDigits; rcases (by omega:n=1∨n=2∨n=3∨n=4) with rfl | rfl | rfl | rfl <;> rfl
theorem placeTx_shape {p:Place} (h:placeOk p=true):placeTx p=UInt8.ofNat (48+p.people.toNat) :: 32 :: restTx p:=by
 obtain ⟨h1,h2,_,_⟩:=placeOk_all h
 unfold placeTx restTx
 rw [if_pos h,dec_digit h1 h2]; rfl
theorem story_pos {p:Place} (h:placeOk p=true) (hs:p.story ≠ []):3≤(storyTx p.people p.story).length:=by
 obtain ⟨h1,h2,_,h4⟩:=placeOk_all h
 obtain ⟨people,story⟩:=p
 cases story with
 | nil=>exact absurd rfl hs
 | cons c l =>
  have:=(claimTx_len (h4 c (List.mem_cons_self ..))).1
  unfold storyTx
  rw [List.map_cons,Go.Lib.join_cons]
  simp only [List.length_append]; simp only at this ⊢; omega
theorem restTx_dot {p:Place} (h:placeOk p=true):restTx p=[46]↔p.story=[]:=by
 unfold restTx
 constructor
 ·intro e
  by_cases hs:p.story=[]
  ·exact hs
  ·rw [if_neg hs] at e
   have:=story_pos h hs; rw [e] at this; simp at this
 ·intro e; rw [if_pos e]
theorem restTx_pos {p:Place} (h:placeOk p=true):restTx p ≠ []:=by
 unfold restTx
 split
 ·simp
 ·rename_i hs; intro e; have:=story_pos h hs; rw [e] at this; simp at this
theorem rest_reads {p:Place} (h:placeOk p=true) (hd:restTx p ≠ [46]):(cutAt 44 (restTx p)).map (readC p.people)=p.story.map some:=by
 obtain ⟨_,_,_,h4⟩:=placeOk_all h
 have hs:p.story ≠ []:=fun e=>hd ((restTx_dot h).2 e)
 unfold restTx
 rw [if_neg hs]
 exact story_reads hs h4
theorem digit_inj {a b:Int} (ha:1≤a) (ha4:a≤4) (hb:1≤b) (hb4:b≤4) (h:UInt8.ofNat (48+a.toNat)=UInt8.ofNat (48+b.toNat)):a=b:=by
 have:=congrArg UInt8.toNat h
 rw [UInt8.toNat_ofNat',UInt8.toNat_ofNat'] at this; omega
theorem map_some_inj {l m:List Claim} (h:l.map some=m.map some):l=m:=by
 have:=congrArg (List.filterMap id) h
 simpa [List.filterMap_map] using this
theorem placeTx_inj {p q:Place} (hp:placeOk p=true) (hq:placeOk q=true) (h:placeTx p=placeTx q):p=q:=by
 rw [placeTx_shape hp,placeTx_shape hq] at h
 obtain ⟨a1,a2,_,_⟩:=placeOk_all hp
 obtain ⟨b1,b2,_,_⟩:=placeOk_all hq
 have h1:=(List.cons.inj h).1
 have h2:=(List.cons.inj (List.cons.inj h).2).2
 have e1:=digit_inj a1 a2 b1 b2 h1
 have e2:p.story=q.story:=by
  by_cases hd:restTx p=[46]
  ·rw [(restTx_dot hp).1 hd,(restTx_dot hq).1 (by rw [← h2]; exact hd)]
  ·have r1:=rest_reads hp hd
   have r2:=rest_reads hq (by rw [← h2]; exact hd)
   rw [← h2,← e1,r1] at r2
   exact map_some_inj r2
 obtain ⟨pp,ps⟩:=p
 obtain ⟨qp,qs⟩:=q
 simp only at e1 e2
 rw [e1,e2]
theorem placeTx_ok {p:Place} (h:placeTx p ≠ []):placeOk p=true:=by
 have hk:=ft (placeOk p)
 rcases hk with hk | hk
 ·exact absurd (placeTx_no hk) h
 ·exact hk
/-- What ReadPlace finds. -/
noncomputable def readP (s:List UInt8):Option Place:=by
 classical exact if h:∃ p,placeOk p=true∧placeTx p=s then some (Classical.choose h) else none
theorem readP_some {s:List UInt8} {p:Place} (h:placeOk p=true) (hs:placeTx p=s):readP s=some p:=by
 have hx:∃ p,placeOk p=true∧placeTx p=s:=⟨p,h,hs⟩
 unfold readP; rw [dif_pos hx]
 have:=Classical.choose_spec hx
 exact congrArg some (placeTx_inj this.1 h (by rw [this.2,hs]))
theorem readP_none {s:List UInt8} (h:∀ p,placeOk p=true→placeTx p ≠ s):readP s=none:=by
 unfold readP; rw [dif_neg]; rintro ⟨p,h1,h2⟩; exact h p h1 h2
/-- How a text falls apart. -/
def parts (s:List UInt8) (D:Int) (rest:List UInt8):Prop:=s ≠ []∧∀ p,placeOk p=true→placeTx p=s→D=p.people∧rest=restTx p
theorem readP_piece {s rest:List UInt8} {D:Int} (h:parts s D rest) (hd:rest ≠ [46]) (x:List UInt8) (hx:x ∈ cutAt 44 rest) (hn:readC D x=none):readP s=none:=by
 refine readP_none fun p hp hs => ?_
 obtain ⟨rfl,rfl⟩:=h.2 p hp hs
 have:=rest_reads hp hd
 have hm:readC p.people x ∈ (cutAt 44 (restTx p)).map (readC p.people):=List.mem_map_of_mem hx
 rw [this,hn] at hm
 simp at hm
theorem readP_end {s rest:List UInt8} {D:Int} {l:List Claim} (h:parts s D rest) (hl:rest=[46]∧l=[]∨rest ≠ [46]∧(cutAt 44 rest).map (readC D)=l.map some) :
  readP s=if placeTx ⟨D,l⟩=s then some ⟨D,l⟩ else none:=by
 split
 ·rename_i hs
  exact readP_some (placeTx_ok (by rw [hs]; exact h.1)) hs
 ·rename_i hne
  refine readP_none fun p hp hs=>hne ?_
  obtain ⟨rfl,rfl⟩:=h.2 p hp hs
  have e:p.story=l:=by
   rcases hl with ⟨h1,h2⟩ | ⟨h1,h2⟩
   ·rw [h2]; exact (restTx_dot hp).1 h1
   ·rw [rest_reads hp h1] at h2; exact map_some_inj h2
  rw [← e]; exact hs
theorem parts_one {a:UInt8} {rest:List UInt8} : parts (a :: 32 :: rest) ((a.toNat:Int)-48) rest:=⟨by simp,fun p hp hs=>by
 obtain ⟨h1,h2,_,_⟩:=placeOk_all hp
 rw [placeTx_shape hp] at hs
 have e1:=(List.cons.inj hs).1
 have e2:=(List.cons.inj (List.cons.inj hs).2).2
 refine ⟨?_,e2.symm⟩
 have:=congrArg UInt8.toNat e1
 rw [UInt8.toNat_ofNat'] at this; omega⟩
end TL

namespace TL
open Go Go.Proofs Go.RowKit
section
variable {P:Program}
theorem strs_new {Z:Zs} {w:World} : ∀ (bs:List ByteArray),RepEs Z w 1 ((bs.map (·.data.toList)).map V.str) (bs.map Value.string)
 | []=>.nil 1
 | b :: bs=>.one rfl (.str rfl) (strs_new bs)
theorem strs_alloc {Z:Zs} {w:World} (bs:List ByteArray) (t:TypeId) (hl:bs.length≤maxLen) :
  RepV (freshZ Z w.heap.size (w.alloc (.cells (bs.map Value.string).toArray t)).heap.size) (w.alloc (.cells (bs.map Value.string).toArray t)) (.sl ((bs.map (·.data.toList)).map V.str)) (.slice (some ⟨w.heap.size,0,none⟩) bs.length bs.length):=by
 refine .sl (strs_new bs) (by simp) (Nat.le_refl _) hl fun i u hu => ?_
 rw [add_lit]
 refine ⟨?_,.inr ⟨Nat.le_refl _, ?_⟩⟩
 ·rw [World.cell?_alloc_new]
  simpa using hu
 ·show w.heap.size<(w.heap.push _).size
  simp
theorem split_FnZ {ρ : Go.Shelf.Ren} (L : Go.Proofs.Lays.n146 P ρ) (hi9 : (P.info? (ρ.t 9)).map (fun i => (i.zero,i.size,i.bytes)) = some (some (.string ByteArray.empty),1,16)) (hf : ∃ fn,P.funcs[ρ.f 146]? = some fn ∧ (fn.name == "runtime.NumGoroutine") = false ∧ fn.body.isNone = false)
  (hg : P.globalNamed "internal/bytealg.MaxLen" = some (ρ.g 1)) (s : List UInt8) (c : UInt8) (hs : s.length < 4294967281) : FnZ P (ρ.f 146) [.str s,.str [c]] (.sl ((cutAt c s).map V.str)) := by
 refine FnZ_calls hf fun Z w vs hz hv => ?_
 cases hv with | cons h1 hv=>cases hv with | cons h2 hv=>cases hv with | nil =>
  cases h1 with
  | @str _ b hb =>
   cases h2 with
   | @str _ bsep hb2 =>
    have hq:GQ P (ρ.g 1) (fun v=>∃ m,v=.int .i64 m):=GQ.maxLen hg
    obtain ⟨_,v,hc,m,rfl⟩:=hz.gl _ _ hq
    have hsz:b.size=s.length:=by rw [← hb]; rfl
    have hsz2:bsep.size=1:=by have:=congrArg List.length hb2; simpa using this
    have e1:(Go.Lib.splitB bsep 0 (Go.Lib.countB b bsep) b).map (·.data.toList)=cutAt c s:=by
     rw [Go.Lib.splitB_data]
     show Go.Lib.splitK bsep.data.toList 0 (Go.Lib.count b.data.toList bsep.data.toList) b.data.toList=_
     rw [hb,hb2]; exact split_is_cut c s
    have hlen:=Go.Lib.splitB_all bsep (by omega) 0 _ b rfl
    have hle:=cutAt_len c s
    have hlen2:(Go.Lib.splitB bsep 0 (Go.Lib.countB b bsep) b).length=(cutAt c s).length:=by rw [← e1,List.length_map]
    refine calls_mono (Any.strings_Split L hi9 b bsep m w (by omega) hc (by omega)) ?_
    rintro e w' ⟨rfl,rfl⟩
    refine ⟨_,rfl,(Below.refl _ _).alloc (Nat.le_refl _) _, ?_⟩
    rw [← hlen,← e1]
    exact strs_alloc _ _ (by rw [hlen2]; simp only [maxLen]; omega)
end
theorem split_fn (s:List UInt8) (c:UInt8) (hs:s.length<4294967281):FnZ Tryz.prog 35 [.str s,.str [c]] (.sl ((cutAt c s).map V.str)) :=
 split_FnZ Tryz.lays146 (by kernel_rfl) ⟨_,Tryz.func35,rfl,rfl⟩ (by kernel_rfl) s c hs
end TL

namespace TL
open Go Go.Proofs
attribute [local simp] marksV storyV codeV Claim.v Place.v
def optP (o:Option Place):V:=.tup [(o.getD ⟨0,[]⟩).v,.bool o.isSome]
theorem readP_short {s:List UInt8} (h:s.length<3):readP s=none:=readP_none fun p hp hs=>by
 rw [placeTx_shape hp] at hs
 have:=restTx_pos hp
 have h1:=List.length_pos_iff.2 this
 rw [← hs] at h; simp only [List.length_cons] at h; omega
theorem readP_blank {a b:UInt8} {s:List UInt8} (h:b ≠ 32):readP (a :: b :: s)=none:=readP_none fun p hp hs=>by
 rw [placeTx_shape hp] at hs
 exact h (List.cons.inj (List.cons.inj hs).2).1.symm
theorem reads_next {D:Int} {ps:List (List UInt8)} {i:Nat} {l:List Claim} {c:Claim} (hi:i<ps.length) (h:(ps.take i).map (readC D)=l.map some) (hc:readC D ps[i]=some c):(ps.take (i+1)).map (readC D)=(l++[c]).map some:=by
 rw [List.take_succ_eq_append_getElem hi,List.map_append,List.map_append,h]
 simp [hc]
theorem reads_len {D:Int} {ps:List (List UInt8)} {i:Nat} {l:List Claim} (h:(ps.take i).map (readC D)=l.map some):l.length≤i:=by
 have:=congrArg List.length h
 rw [List.length_map,List.length_map,List.length_take] at this; omega
def Irp (s rest:List UInt8) (D:Int) (e:Nat) (x:S):Prop:=∃ (i:Nat) (l:List Claim) (row:T),x.tm 0=.v (.str s)∧x.tm 2=.ptr 0 0∧x.m 0=some (.box 25 2 [.v (.int .i64 0),.nil])∧x.tm 4=.ptr 1 0 ∧
 x.m 1=some (.box 25 2 [.v (.int .i64 D),row])∧(row=.nil∧l=[]∨∃ id,row=.loc id∧1<id∧id<x.n∧x.m id=some (.arr 63 (l.map Claim.v))) ∧
 x.tm 28=.v (.sl ((cutAt 44 rest).map V.str))∧x.tm 29=.v (.int .i64 (cutAt 44 rest).length)∧x.tm 30=.v (.int .i64 i)∧x.mu=false∧1<x.n∧i≤(cutAt 44 rest).length∧((cutAt 44 rest).take i).map (readC D)=l.map some∧(e=1→i=(cutAt 44 rest).length)
theorem readPlace_fn (s:List UInt8) (hl:s.length≤2000000000):FnZ Tryz.prog 17 [.str s] (optP (readP s)):=by
 by_cases h3:s.length<3
 ·have h3':(s.length:Int)<3:=by omega
  rw [readP_short h3]
  refine FZ (rs:=[.cell 2 25,.tmp 3]) false Tryz.func17 ?_
  simp -dsimp [h3,h3',optP]
 match s,h3,hl with
 | [],h3,hl=>simp at h3
 | [a],h3,hl=>simp at h3
 | a :: b :: rest,h3,hl =>
  have h3':¬((rest.length:Int)+1+1<3):=by simp at h3; omega
  have hls:rest.length≤2000000000:=by simp at hl; omega
  have l2:(2:Int)≤(rest.length:Int)+1+1:=by omega
  have l3:((rest.length:Int)+1+1).toNat=rest.length+1+1:=by omega
  have l4:(0:Int)<(rest.length:Int)+1+1:=by omega
  have l5:(1:Int)<(rest.length:Int)+1+1:=by omega
  by_cases hb:b=32
  case neg =>
   have hb':¬(b.toNat:Int)=32:=fun h=>hb (UInt8.toNat.inj (by show b.toNat=32; omega))
   rw [readP_blank hb]
   refine FZ (rs:=[.cell 2 25,.tmp 3]) false Tryz.func17 ?_
   simp -dsimp [h3',l4,l5,hb',optP]
  subst hb
  have hlt:=UInt8.toNat_lt a
  have w1:IntKind.wrap .i64 ((a.toNat:Int)-48)=(a.toNat:Int)-48:=w64 (by omega) (by omega)
  have w2:IntKind.wrap .i64 (a.toNat:Int)=(a.toNat:Int):=w64 (by omega) (by omega)
  have hpt:=parts_one (a:=a) (rest:=rest)
  have hsl:(a :: 32 :: rest).length=rest.length+1+1:=rfl
  generalize hD:(a.toNat:Int)-48=D at *
  by_cases hd:rest=[46]
  ·have he:=readP_end (l:=[]) hpt (.inl ⟨hd,rfl⟩)
   have hT:=placeText_fn ⟨D,[]⟩ (by simp)
   rw [he]
   subst hd
   clear he hpt
   generalize placeTx ⟨D,[]⟩=tx at *
   refine FZ (rs:=[.cell 2 25,.tmp 3]) false Tryz.func17 ?_
   by_cases hx:tx=[a,32,46]
   ·simp -dsimp [w1,w2,hD]
    refine cl hT ?_
    simp -dsimp [hx,optP]
   ·simp -dsimp [w1,w2,hD]
    refine cl hT ?_
    simp -dsimp [hx,optP]
  have hsp:=split_fn rest 44 (by omega)
  refine FZ (rs:=[.cell 2 25,.tmp 3]) false Tryz.func17 ?_
  simp -dsimp [h3',l2,l3,l4,l5,w1,w2,hD,hd]
  refine cl hsp ?_
  simp -dsimp [h3',l2,l3,l4,l5,w1,w2,hD,hd]
  refine twp_loopC (Irp (a :: 32 :: rest) rest D 0) (fun x=>(cutAt 44 rest).length-natOf (x.tm 30)) (Irp (a :: 32 :: rest) rest D 1) ?_ ?_ ?_
  ·exact ⟨0,[],.nil,by simp -dsimp,by simp -dsimp,by simp -dsimp,by simp -dsimp,by simp -dsimp,.inl ⟨rfl,rfl⟩,by simp -dsimp,by simp -dsimp,by simp -dsimp,by simp -dsimp,by simp -dsimp,by omega,by simp,by simp⟩
  ·rintro x ⟨i,l,row,t0,t2,m0,t4,m1,hrow,t28,t29,t30,hmu,hn,hi,hrd,hend⟩
   by_cases hlt:i<(cutAt 44 rest).length
   case neg =>
    simp -dsimp [t29,t30,hlt]
    exact ⟨i,l,row,by simp -dsimp [t0],by simp -dsimp [t2],by simp -dsimp [m0],by simp -dsimp [t4],by simp -dsimp [m1],by simpa -dsimp using hrow,by simp -dsimp [t28],by simp -dsimp [t29],by simp -dsimp [t30],by simp -dsimp [hmu],by simp -dsimp [hn],hi,hrd,fun _=>by omega⟩
   have hget:((cutAt 44 rest).map V.str)[i]? = some (.str (cutAt 44 rest)[i]):=by simp [hlt]
   have wi:IntKind.wrap .i64 ((i:Int)+1)=((i+1:Nat):Int):=by
    have:=cutAt_len 44 rest
    rw [w64 (by omega) (by omega)]; omega
   have hmu1:(cutAt 44 rest).length-(i+1)<(cutAt 44 rest).length-i:=by omega
   have hpl:=cutAt_piece (List.getElem_mem hlt)
   have hrc:=readClaim_fn D (cutAt 44 rest)[i] (by omega)
   have hmem:=List.getElem_mem hlt
   have hnx:∀ c,readC D (cutAt 44 rest)[i]=some c→_:=fun c=>reads_next (c:=c) hlt hrd
   have hno:=readP_piece hpt hd _ hmem
   have hll:=reads_len hrd
   have hcl:=cutAt_len 44 rest
   have f0:=far (show 0<x.n by omega)
   have f1:=far hn
   generalize readC D (cutAt 44 rest)[i]=o at *
   cases o with
   | none =>
    rw [hno rfl]
    simp -dsimp [t28,t29,t30,t4,m1,hlt,hget,f1]
    refine cl hrc ?_
    simp -dsimp [optC,optP,t2,m0,f0,f1]
   | some c =>
    have hn1:=hnx c rfl
    clear hnx hno
    rcases hrow with ⟨rfl,rfl⟩ | ⟨id,rfl,hid1,hid,hm⟩
    ·simp -dsimp [t28,t29,t30,t4,m1,hlt,hget,f1]
     refine cl hrc ?_
     simp -dsimp [optC,optP,t2,t4,t30,m0,m1,hmu,f0,f1,wi,hmu1,nes]
     refine st_out fun s' ht hm' hn' hu' => ?_
     have a0:=ht 0
     have a2:=ht 2
     have a4:=ht 4
     have a28:=ht 28
     have a29:=ht 29
     have a30:=ht 30
     simp -dsimp [t0,t2,t4,t28,t29,wi] at a0 a2 a4 a28 a29 a30 hm' hn' hu'
     clear ht
     refine ⟨i+1,_,.loc (x.n+1+1+1),a0,a2,by simp [hm',f0,nes,m0],a4,by simp [hm',f1,nes,m1],.inr ⟨_,rfl,by omega,by omega, ?_⟩,a28,a29,a30,by rw [hu',hmu],by omega,by omega,hn1,by simp⟩
     simp [hm',nes]
    ·have f2:=far hid
     have g0:¬id=0:=by omega
     have g1:¬id=1:=by omega
     have b1:(l.length+1) * 32≤140737488355328:=by omega
     simp -dsimp [t28,t29,t30,t4,m1,hlt,hget,f1]
     refine cl hrc ?_
     simp -dsimp [optC,optP,t2,t4,t30,m0,m1,hm,hmu,f0,f1,f2,b1,wi,hmu1,nes,g0,g1,Ne.symm g0,Ne.symm g1]
     refine st_out fun s' ht hm' hn' hu' => ?_
     have a0:=ht 0
     have a2:=ht 2
     have a4:=ht 4
     have a28:=ht 28
     have a29:=ht 29
     have a30:=ht 30
     simp -dsimp [t0,t2,t4,t28,t29,wi] at a0 a2 a4 a28 a29 a30 hm' hn' hu'
     clear ht
     refine ⟨i+1,_,.loc (x.n+1+1+1),a0,a2,by simp [hm',f0,nes,Ne.symm g0,Ne.symm g1,f0,m0],a4,by simp [hm',f1,nes,Ne.symm g1,f1,m1],.inr ⟨_,rfl,by omega,by omega, ?_⟩,a28,a29,a30,by rw [hu',hmu],by omega,by omega,hn1,by simp⟩
     simp [hm',nes]
  ·rintro x ⟨i,l,row,t0,t2,m0,t4,m1,hrow,t28,t29,t30,hmu,hn,hi,hrd,hend⟩
   have hil:=hend rfl
   have hll:=reads_len hrd
   have hcl:=cutAt_len 44 rest
   rw [hil,List.take_length] at hrd
   have he:=readP_end hpt (.inr ⟨hd,hrd⟩)
   have hT:=placeText_fn ⟨D,l⟩ (by simp only; omega)
   rw [he]
   clear he hpt
   generalize placeTx ⟨D,l⟩=tx at *
   have f0:=far (show 0<x.n by omega)
   have f1:=far hn
   rcases hrow with ⟨rfl,rfl⟩ | ⟨id,rfl,hid1,hid,hm⟩
   ·by_cases hx:tx=a :: 32 :: rest
    ·simp -dsimp [t4,m1,f1]
     refine cl hT ?_
     simp -dsimp [t0,t2,t4,m0,m1,hx,optP]
    ·simp -dsimp [t4,m1,f1]
     refine cl hT ?_
     simp -dsimp [t0,t2,t4,m0,m1,hx,optP]
   ·have f2:=far hid
    have g0:¬id=0:=by omega
    have g1:¬id=1:=by omega
    by_cases hx:tx=a :: 32 :: rest
    ·simp -dsimp [t4,m1,f1]
     refine call_ hT (by simp -dsimp [hm]) ?_
     simp -dsimp [t0,t2,t4,m0,m1,hm,hx,optP,g0,g1,f0,f1,f2]
    ·simp -dsimp [t4,m1,f1]
     refine call_ hT (by simp -dsimp [hm]) ?_
     simp -dsimp [t0,t2,t4,m0,m1,hm,hx,optP,g0,g1,f0,f1,f2]
end TL

namespace TL
open Go Go.Proofs
attribute [local simp] marksV storyV codeV Claim.v Place.v
/-! Cutting. -/
def Icut (c:UInt8) (w:List UInt8) (e:Nat) (s:S):Prop:=∃ (i f id:Nat) (ps:List (List UInt8)),s.tm 0=.v (.str w)∧s.tm 1=.v (.int .u8 c.toNat)∧s.tm 5=.loc id∧id<s.n∧s.m id=some (.arr 9 (ps.map V.str)) ∧
 s.tm 6=.v (.int .i64 f)∧s.tm 7=.v (.int .i64 i)∧s.mu=false∧f≤i∧i≤w.length∧ps.length≤i∧ps++cutGo c ((w.take i).drop f) (w.drop i)=cutAt c w∧(e=1→i=w.length)
theorem l1Cut_fn (w:List UInt8) (c:UInt8) (hl:w.length≤2000000000):FnZ Tryz.prog 68 [.str w,.int .u8 c.toNat] (.sl ((cutAt c w).map V.str)):=by
 refine FZ (rs:=[.tmp 4]) false Tryz.func68 ?_
 simp -dsimp
 refine twp_loopC (Icut c w 0) (fun s=>w.length-natOf (s.tm 7)) (Icut c w 1) ?_ ?_ ?_
 ·exact ⟨0,0,0,[],by simp -dsimp,by simp -dsimp,by simp -dsimp,by simp -dsimp,by simp -dsimp,by simp -dsimp,by simp -dsimp,by simp -dsimp,by omega,by omega,by simp,by simp [cutAt],by simp⟩
 ·rintro s ⟨i,f,id,ps,t0,t1,t5,hid,hm,t6,t7,hmu,hf,hi,hps,hcut,hend⟩
  by_cases hlt:i<w.length
  case neg =>
   simp -dsimp [t0,t7,hlt]
   exact ⟨i,f,id,ps,by simp -dsimp [t0],by simp -dsimp [t1],by simp -dsimp [t5],by simp -dsimp [hid],by simp -dsimp [hm],by simp -dsimp [t6],by simp -dsimp [t7],by simp -dsimp [hmu],hf,hi,hps,hcut,fun _=>by omega⟩
  have hget:w[i]? = some w[i]:=by simp [hlt]
  have wi:IntKind.wrap .i64 ((i:Int)+1)=((i+1:Nat):Int):=by rw [w64 (by omega) (by omega)]; omega
  have hmu1:w.length-(i+1)<w.length-i:=by omega
  have f1:=far hid
  have b1:(ps.length+1) * 16≤140737488355328:=by omega
  have b2:(f:Int)≤i:=by omega
  have b3:(i:Int)≤w.length:=by omega
  rw [List.drop_eq_getElem_cons hlt] at hcut
  by_cases hc:w[i]=c
  ·have hn:(ps++[(w.take i).drop f])++cutGo c ((w.take (i+1)).drop (i+1)) (w.drop (i+1))=cutAt c w:=by
    rw [← hcut]
    have e1:cutGo c ((w.take i).drop f) (w[i] :: w.drop (i+1))=(w.take i).drop f :: cutGo c [] (w.drop (i+1)):=by
     show (if w[i]=c then _ else _)=_
     rw [if_pos hc]
    have e2:(w.take (i+1)).drop (i+1)=[]:=List.drop_eq_nil_of_le (by rw [List.length_take]; omega)
    rw [e1,e2]; simp
   have f0:¬id=s.n+1:=by omega
   simp -dsimp [t0,t1,t5,t6,t7,hlt,hget,hc,hf,hi,hm,hmu,b1,wi,hmu1,f1,nes]
   refine st_out fun s' ht hm' hn' hu' => ?_
   have a0:=ht 0
   have a1:=ht 1
   have a5:=ht 5
   have a6:=ht 6
   have a7:=ht 7
   simp -dsimp [t0,t1,t5,t7,wi,hc] at a0 a1 a5 a6 a7 hm' hn' hu'
   clear ht
   refine ⟨i+1,i+1,_,ps++[(w.take i).drop f],a0,a1,a5,by omega, ?_,a6,a7,by rw [hu',hmu],by omega,by omega,by simp; omega,hn,by simp⟩
   simp [hm',nes]
  ·have hc':¬(w[i].toNat:Int)=c.toNat:=fun h=>hc (UInt8.toNat.inj (by omega))
   have hn:ps++cutGo c ((w.take (i+1)).drop f) (w.drop (i+1))=cutAt c w:=by
    rw [← hcut]
    have e1:cutGo c ((w.take i).drop f) (w[i] :: w.drop (i+1))=cutGo c ((w.take i).drop f++[w[i]]) (w.drop (i+1)):=by
     show (if w[i]=c then _ else _)=_
     rw [if_neg hc]
    have e2:(w.take (i+1)).drop f=(w.take i).drop f++[w[i]]:=by
     rw [List.take_succ_eq_append_getElem hlt,List.drop_append_of_le_length (by rw [List.length_take]; omega)]
    rw [e1,e2]
   simp -dsimp [t0,t1,t5,t6,t7,hlt,hget,hc,hc',wi,hmu1]
   exact ⟨i+1,f,id,ps,by simp -dsimp [t0],by simp -dsimp [t1],by simp -dsimp [t5],by simp -dsimp [hid],by simp -dsimp [hm],by simp -dsimp [t6],by simp -dsimp,by simp -dsimp [hmu],by omega,by omega,by omega,hn,by simp⟩
 ·rintro s ⟨i,f,id,ps,t0,t1,t5,hid,hm,t6,t7,hmu,hf,hi,hps,hcut,hend⟩
  have hil:=hend rfl
  subst hil
  have f1:=far hid
  have b1:(ps.length+1) * 16≤140737488355328:=by omega
  have b2:(f:Int)≤w.length:=by omega
  rw [List.take_length,List.drop_length] at hcut
  have hcut:ps++[w.drop f]=cutAt c w:=hcut
  rw [← hcut]
  simp -dsimp [t0,t5,t6,b1,b2,hm,hmu,f1,nes]
end TL

namespace TL
open Go Go.Proofs
attribute [local simp] marksV storyV codeV Claim.v Place.v
/-! Numbers. -/
def digGo:Nat→List UInt8→Int
 | acc,[]=>acc
 | acc,c :: r=>if c.toNat<48∨57<c.toNat then -1 else digGo (10 * acc+(c.toNat-48)) r
def digS (s:List UInt8):Int:=if (1≤s.length∧s.length≤6)∧¬(1<s.length∧s.head? = some 48) then digGo 0 s else -1
def Idig (w:List UInt8) (e:Nat) (s:S):Prop:=∃ i acc:Nat,s.tm 0=.v (.str w)∧s.tm 3=.v (.int .i64 acc)∧s.tm 4=.v (.int .i64 i)∧i≤w.length∧acc<10 ^ i∧digGo acc (w.drop i)=digGo 0 w∧(e=1→i=w.length)
theorem l1Digits_fn (w:List UInt8) (hl:w.length≤2000000000):FnZ Tryz.prog 69 [.str w] (.int .i64 (digS w)):=by
 have hin:=l1In_z w.length 1 6
 by_cases h1:1≤w.length∧w.length≤6
 case neg =>
  have e:digS w = -1:=by unfold digS; rw [if_neg fun h=>h1 h.1]
  have e2:(decide ((1:Int)≤w.length) && decide ((w.length:Int)≤6))=false:=by
   rw [Bool.and_eq_false_iff]; simp only [decide_eq_false_iff_not]; omega
  rw [e2] at hin
  rw [e]
  refine FZ (rs:=[.tmp 2]) false Tryz.func69 ?_
  simp -dsimp
  refine cl hin ?_
  simp -dsimp
 have e2:(decide ((1:Int)≤w.length) && decide ((w.length:Int)≤6))=true:=by
  rw [Bool.and_eq_true,decide_eq_true_eq,decide_eq_true_eq]; omega
 rw [e2] at hin
 by_cases h2:1<w.length∧w.head? = some 48
 ·have e:digS w = -1:=by unfold digS; rw [if_neg fun h=>h.2 h2]
  match w,h2 with
  | c :: r,h2 =>
   have hc:c=48:=by simpa using h2.2
   subst hc
   have l1:(1:Int)<(r.length:Int)+1:=by have:=h2.1; simp only [List.length_cons] at this; omega
   have l2:0<r.length:=by omega
   rw [e]
   refine FZ (rs:=[.tmp 2]) false Tryz.func69 ?_
   simp -dsimp
   refine cl hin ?_
   simp -dsimp [l1,l2]
 have e:digS w=digGo 0 w:=by unfold digS; rw [if_pos ⟨h1,h2⟩]
 rw [e]
 have h6:w.length≤6:=h1.2
 refine FZ (rs:=[.tmp 2]) false Tryz.func69 ?_
 simp -dsimp
 refine cl hin ?_
 by_cases hl1:1<w.length
 case' pos =>
  have l1:(1:Int)<w.length:=by omega
  have l0:0<w.length:=by omega
  have hc:¬w[0]=48:=fun h=>h2 ⟨hl1,by rw [List.head?_eq_getElem?,List.getElem?_eq_getElem l0,h]⟩
  have hc2:¬(w[0].toNat:Int)=48:=fun h=>hc (UInt8.toNat.inj (by show w[0].toNat=48; omega))
  simp -dsimp [l1,l0,hc2,hl1]
 case' neg =>
  have l1:¬(1:Int)<w.length:=by omega
  simp -dsimp [l1,hl1]
 all_goals
   clear l1 h1 h2 hin hl hl1 e e2
   refine twp_loopC (Idig w 0) (fun s=>w.length-natOf (s.tm 4)) (Idig w 1) ?_ ?_ ?_
   ·exact ⟨0,0,by simp -dsimp,by simp -dsimp,by simp -dsimp,by omega,by simp,by simp,by simp⟩
   ·rintro s ⟨i,acc,t0,t3,t4,hi,hac,hd,hend⟩
    by_cases hlt:i<w.length
    case neg =>
     simp -dsimp [t0,t4,hlt]
     exact ⟨i,acc,by simp -dsimp [t0],by simp -dsimp [t3],by simp -dsimp [t4],hi,hac,hd,fun _=>by omega⟩
    have hget:w[i]? = some w[i]:=by simp [hlt]
    have wi:IntKind.wrap .i64 ((i:Int)+1)=((i+1:Nat):Int):=by rw [w64 (by omega) (by omega)]; omega
    have hmu1:w.length-(i+1)<w.length-i:=by omega
    have hp:10 ^ i≤10 ^ 6:=Nat.pow_le_pow_right (by omega) (by omega)
    have hp6:(10:Nat) ^ 6=1000000:=rfl
    have hps:10 ^ (i+1)=10 * 10 ^ i:=by rw [Nat.pow_succ]; omega
    have hb:=UInt8.toNat_lt w[i]
    rw [List.drop_eq_getElem_cons hlt] at hd
    have hd:(if w[i].toNat<48∨57<w[i].toNat then -1 else digGo (10 * acc+(w[i].toNat-48)) (w.drop (i+1)))=digGo 0 w:=hd
    by_cases hlo:w[i].toNat<48
    ·have hlo':(w[i].toNat:Int)<48:=by omega
     rw [if_pos (.inl hlo)] at hd
     rw [← hd]
     simp -dsimp [t0,t4,hlt,hget,hlo,hlo']
    by_cases hhi:57<w[i].toNat
    ·have hlo':¬(w[i].toNat:Int)<48:=by omega
     have hhi':(57:Int)<(w[i].toNat:Int):=by omega
     rw [if_pos (.inr hhi)] at hd
     rw [← hd]
     simp -dsimp [t0,t4,hlt,hget,hlo,hlo',hhi,hhi']
    ·have hlo':¬(w[i].toNat:Int)<48:=by omega
     have hhi':¬(57:Int)<(w[i].toNat:Int):=by omega
     rw [if_neg (by omega)] at hd
     have w1:IntKind.wrap .i64 (10 * (acc:Int))=10 * (acc:Int):=w64 (by omega) (by omega)
     have w2:IntKind.wrap .u8 ((w[i].toNat:Int)-48)=(w[i].toNat:Int)-48:=by rw [IntKind.wrap_u8]; omega
     have w3:IntKind.wrap .i64 ((w[i].toNat:Int)-48)=(w[i].toNat:Int)-48:=w64 (by omega) (by omega)
     have w4:IntKind.wrap .i64 (10 * (acc:Int)+((w[i].toNat:Int)-48))=((10 * acc+(w[i].toNat-48):Nat):Int):=by rw [w64 (by omega) (by omega)]; omega
     simp -dsimp [t0,t3,t4,hlt,hget,hlo,hlo',hhi,hhi',w1,w2,w3,w4,wi,hmu1]
     exact ⟨i+1,10 * acc+(w[i].toNat-48),by simp -dsimp [t0],by simp -dsimp,by simp -dsimp,by omega,by omega,hd,by simp⟩
   ·rintro s ⟨i,acc,t0,t3,t4,hi,hac,hd,hend⟩
    have hil:=hend rfl
    rw [hil,List.drop_length] at hd
    rw [← hd]
    simp -dsimp [t3,digGo]
end TL
