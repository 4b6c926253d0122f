/- TL: parts FnsE14, Fns3, Fns4, Fns5, Fns6, Fns10, FnsB1, FnsB2, FnsB3, FnsB4, FnsB5, Fns16, FnsP1, FnsO1, FnsO2, FnsO3. -/
import Derived.Test.YtnimfdpinpggdabGreatDoorGe
import Derived.Lib.ItoaNum
import Derived.Lib.AtoiAll
import Derived.Test.YtnimfdpinpggdabGreatDoorGc
set_option linter.unusedSimpArgs false
set_option linter.unusedVariables false
set_option maxRecDepth 100000
namespace TL
open Go Go.Proofs
/-! Small numbers in figures. -/
open Go.Lib in
def atoiV (s:List UInt8):Int:=match atoiAll s with
 | .ok v=>v
 | .range=>atoiSat s
 | _=>0
def goodDec (n:Nat) (l:List UInt8):Bool:=decide (digS l=(n:Int)) && decide (Go.Lib.atoiAll l=.ok (n:Int)) && l.all fun y=>decide (y ≠ 32) && decide (y ≠ 10)
theorem good_one:∀ n:Fin 10,goodDec n.val [UInt8.ofNat (48+n.val)]=true:=by decide +kernel
theorem good_two:∀ n:Fin 100,¬n.val<10→goodDec n.val [UInt8.ofNat (48+n.val / 10),UInt8.ofNat (48+n.val % 10)]=true:=by decide +kernel
theorem good_dec {n:Int} (h0:0≤n) (h:n≤99):digS (dec n)=n∧Go.Lib.atoiAll (dec n)=.ok n∧∀ y ∈ dec n,y ≠ 32∧y ≠ 10:=by
 have e:((n.toNat:Nat):Int)=n:=by omega
 have hg:goodDec n.toNat (dec n)=true:=by
  unfold dec
  by_cases h1:n.toNat<10
  ·rw [Go.Lib.decDigits_one h1]; exact good_one ⟨n.toNat,h1⟩
  ·rw [Go.Lib.decDigits_two h1 (by omega)]; exact good_two ⟨n.toNat,by omega⟩ h1
 simp only [goodDec,Bool.and_eq_true,decide_eq_true_eq,List.all_eq_true,e] at hg
 exact ⟨hg.1.1,hg.1.2,hg.2⟩
theorem atoiV_dec {n:Int} (h0:0≤n) (h:n≤99):atoiV (dec n)=n:=by
 unfold atoiV; rw [(good_dec h0 h).2.1]
/-! What deeds have a text. -/
theorem deed_cases {a:Deed} (h:deedTx a ≠ []) :
  (∃ w,a=⟨0,0,w⟩∧(∃ c,readC 4 w=some c)∧deedTx a=txSay++w)∨(∃ n,0≤n∧n≤99∧a=⟨1,n,[]⟩∧deedTx a=txDrop++dec n)∨(∃ n,0≤n∧n≤99∧a=⟨2,n,[]⟩∧deedTx a=txPeople++dec n) ∨
  (a=⟨3,0,[]⟩∧deedTx a=txLeast)∨(a=⟨4,0,[]⟩∧deedTx a=txBack):=by
 obtain ⟨k,n,w⟩:=a
 unfold deedTx at h ⊢
 simp only at h ⊢
 split at h
 ·rename_i h1
  obtain ⟨rfl,rfl,h3⟩:=h1
  refine .inl ⟨w,rfl, ?_,by rw [if_pos ⟨rfl,rfl,h3⟩]⟩
  cases e:readC 4 w with
  | none=>rw [e] at h3; cases h3
  | some c=>exact ⟨c,rfl⟩
 rename_i h1
 rw [if_neg h1]
 split at h
 ·exact absurd rfl h
 rename_i h2
 rw [if_neg h2]
 have hw:w=[]:=by
  cases w with
  | nil=>rfl
  | cons x w=>exact absurd (.inl (by simp)) h2
 have h0:0≤n:=by
  rcases Int.lt_or_le n 0 with h | h
  ·exact absurd (.inr (.inl h)) h2
  ·exact h
 have h9:n≤99:=by
  rcases Int.lt_or_le 99 n with h | h
  ·exact absurd (.inr (.inr h)) h2
  ·exact h
 subst hw
 split at h
 ·rename_i h3; subst h3; exact .inr (.inl ⟨n,h0,h9,rfl,if_pos rfl⟩)
 rename_i h3
 split at h
 ·rename_i h4; subst h4; exact .inr (.inr (.inl ⟨n,h0,h9,rfl,by rw [if_neg h3,if_pos rfl]⟩))
 rename_i h4
 split at h
 ·rename_i h5; obtain ⟨rfl,rfl⟩:=h5; exact .inr (.inr (.inr (.inl ⟨rfl,by rw [if_neg h3,if_neg h4,if_pos ⟨rfl,rfl⟩]⟩)))
 rename_i h5
 split at h
 ·rename_i h6; obtain ⟨rfl,rfl⟩:=h6; exact .inr (.inr (.inr (.inr ⟨rfl,by rw [if_neg h3,if_neg h4,if_neg h5,if_pos ⟨rfl,rfl⟩]⟩)))
 ·exact absurd rfl h
theorem readC_clean {people:Int} {w:List UInt8} {c:Claim} (h:readC people w=some c):∀ y ∈ w,y ≠ 32∧y ≠ 10:=by
 obtain ⟨h1,h2⟩:=readC_is h
 intro y hy
 rw [← h2] at hy
 have:=claimTx_clean h1 y hy
 exact ⟨this.2.1,this.2.2.1⟩
/-! A text's first word, and what stands behind it. -/
theorem cut_clean {c:UInt8} {s:List UInt8} (h:∀ y ∈ s,y ≠ c):Go.Lib.cut s [c]=(s,[],false):=by
 unfold Go.Lib.cut; rw [index_clean h]; rfl
theorem cut_at {c:UInt8} {x r:List UInt8} (h:∀ y ∈ x,y ≠ c):Go.Lib.cut (x++c :: r) [c]=(x,r,true):=by
 unfold Go.Lib.cut
 rw [index_at h,if_pos (by omega)]
 have e1:((x.length:Nat):Int).toNat=x.length:=by omega
 rw [e1,List.take_left]
 congr 2
 rw [List.drop_append,List.drop_of_length_le (by simp)]; simp
def deedW (w r:List UInt8):Option Deed :=
 if w=[115,97,121] then some ⟨0,0,r⟩ else if w=[100,114,111,112] then some ⟨1,atoiV r,[]⟩ else if w=[112,101,111,112,108,101] then some ⟨2,atoiV r,[]⟩
 else if w=[108,101,97,115,116] then some ⟨3,0,[]⟩ else if w=[98,97,99,107] then some ⟨4,0,[]⟩ else none
def deedI (s:List UInt8):Option Deed:=deedW (Go.Lib.cut s [32]).1 (Go.Lib.cut s [32]).2.1
theorem deedI_of {a:Deed} (h:deedTx a ≠ []):deedI (deedTx a)=some a:=by
 unfold deedI
 rcases deed_cases h with ⟨w,rfl,⟨c,hc⟩,e⟩ | ⟨n,h0,h9,rfl,e⟩ | ⟨n,h0,h9,rfl,e⟩ | ⟨rfl,e⟩ | ⟨rfl,e⟩
 ·have:=cut_at (c:=32) (x:=[115,97,121]) (r:=w) (by decide)
  rw [e]
  show deedW (Go.Lib.cut ([115,97,121]++32 :: w) [32]).1 _=_
  have e2:txSay++w=[115,97,121]++32 :: w:=rfl
  rw [e2,this]; rfl
 ·have:=cut_at (c:=32) (x:=[100,114,111,112]) (r:=dec n) (by decide)
  have e2:txDrop++dec n=[100,114,111,112]++32 :: dec n:=rfl
  rw [e,e2,this]
  show some (⟨1,atoiV (dec n),[]⟩:Deed)=_
  rw [atoiV_dec h0 h9]
 ·have:=cut_at (c:=32) (x:=[112,101,111,112,108,101]) (r:=dec n) (by decide)
  have e2:txPeople++dec n=[112,101,111,112,108,101]++32 :: dec n:=rfl
  rw [e,e2,this]
  show some (⟨2,atoiV (dec n),[]⟩:Deed)=_
  rw [atoiV_dec h0 h9]
 ·rw [e,cut_clean (by decide)]; rfl
 ·rw [e,cut_clean (by decide)]; rfl
theorem deedTx_inj {a b:Deed} (h:deedTx a ≠ []) (e:deedTx a=deedTx b):a=b:=by
 have h1:=deedI_of h
 rw [e,deedI_of (by rw [← e]; exact h)] at h1
 exact (Option.some.inj h1).symm
/-- What ReadDeed finds. -/
noncomputable def readD (s:List UInt8):Option Deed:=by
 classical exact if h:∃ a,s ≠ []∧deedTx a=s then some (Classical.choose h) else none
theorem readD_some {s:List UInt8} {a:Deed} (h:s ≠ []) (e:deedTx a=s):readD s=some a:=by
 have hx:∃ a,s ≠ []∧deedTx a=s:=⟨a,h,e⟩
 unfold readD; rw [dif_pos hx]
 have:=Classical.choose_spec hx
 exact congrArg some (deedTx_inj (by rw [this.2]; exact h) (by rw [this.2,e]))
theorem readD_is {s:List UInt8} {a:Deed} (h:readD s=some a):s ≠ []∧deedTx a=s:=by
 unfold readD at h
 split at h
 ·rename_i hx; cases h; exact Classical.choose_spec hx
 ·cases h
theorem readD_none {s:List UInt8} (h:∀ a,s ≠ []→deedTx a ≠ s):readD s=none:=by
 unfold readD; rw [dif_neg]; rintro ⟨a,h1,h2⟩; exact h a h1 h2
theorem readD_off {s:List UInt8} (h:deedI s=none):readD s=none:=readD_none fun a h1 h2=>by
 have:=deedI_of (a:=a) (by rw [h2]; exact h1)
 rw [h2,h] at this; cases this
theorem readD_on {s:List UInt8} {a:Deed} (h:deedI s=some a) (hs:s ≠ []):readD s=if deedTx a=s then some a else none:=by
 split
 ·rename_i h1; exact readD_some hs h1
 ·rename_i h1
  refine readD_none fun b h2 h3=>h1 ?_
  have:=deedI_of (a:=b) (by rw [h3]; exact h2)
  rw [h3,h] at this
  rw [Option.some.inj this]; exact h3
/-! The reference's candidates. -/
def deedS (s:List UInt8):List Deed:=[⟨3,0,[]⟩,⟨4,0,[]⟩]++match cutAt 32 s with
 | [_,r]=>[⟨0,0,r⟩,⟨1,digS r,[]⟩,⟨2,digS r,[]⟩]
 | _=>[]
theorem cut_word {x r:List UInt8} (hx:∀ y ∈ x,y ≠ (32:UInt8)) (hr:∀ y ∈ r,y ≠ (32:UInt8)):cutAt 32 (x++32 :: r)=[x,r]:=by
 rw [cutAt_app hx,cutAt_none hr]
theorem deedS_of {a:Deed} (h:deedTx a ≠ []):a ∈ deedS (deedTx a):=by
 unfold deedS
 rcases deed_cases h with ⟨w,rfl,⟨c,hc⟩,e⟩ | ⟨n,h0,h9,rfl,e⟩ | ⟨n,h0,h9,rfl,e⟩ | ⟨rfl,e⟩ | ⟨rfl,e⟩
 ·have e2:txSay++w=[115,97,121]++32 :: w:=rfl
  rw [e,e2,cut_word (by decide) fun y hy=>(readC_clean hc y hy).1]; simp
 ·have e2:txDrop++dec n=[100,114,111,112]++32 :: dec n:=rfl
  rw [e,e2,cut_word (by decide) fun y hy=>((good_dec h0 h9).2.2 y hy).1]; simp [(good_dec h0 h9).1]
 ·have e2:txPeople++dec n=[112,101,111,112,108,101]++32 :: dec n:=rfl
  rw [e,e2,cut_word (by decide) fun y hy=>((good_dec h0 h9).2.2 y hy).1]; simp [(good_dec h0 h9).1]
 ·simp
 ·simp
theorem readD_none' {s:List UInt8} (h:∀ a ∈ deedS s,s ≠ []→deedTx a ≠ s):readD s=none:=readD_none fun a h1 h2=>by
 have:=deedS_of (a:=a) (by rw [h2]; exact h1)
 rw [h2] at this
 exact h a this h1 h2
theorem cutR_len (s:List UInt8) (c:List UInt8):(Go.Lib.cut s c).2.1.length≤s.length:=by
 unfold Go.Lib.cut
 split
 ·simp
 ·simp
theorem cutW_nil {s:List UInt8} (h:(Go.Lib.cut s [32]).1 ≠ []):s ≠ []:=fun e=>by
 rw [e,cut_clean (by simp)] at h; exact h rfl
end TL

set_option maxHeartbeats 4000000
set_option pp.maxSteps 1500
namespace TL
open Go Go.Proofs
/-- Marks as cells. -/
def mkT:List Mark→List T
 | []=>[]
 | m :: ms=>.v (.int .i64 m.kind) :: .v (.int .i64 m.num) :: mkT ms
@[simp] theorem mkT_nil:mkT []=[]:=rfl
theorem mkT_append (a b:List Mark):mkT (a++b)=mkT a++mkT b:=by
 induction a with
 | nil=>rfl
 | cons x xs ih=>simp [mkT,ih]
@[simp] theorem mkT_length (a:List Mark):(mkT a).length=a.length * 2:=by
 induction a with
 | nil=>rfl
 | cons x xs ih=>simp [mkT,ih]; omega
@[simp] theorem mkT_take (a:List Mark):(mkT a).take (a.length * 2)=mkT a:=List.take_of_length_le (by simp)
@[simp] theorem mkT_cells (a:List Mark):allC (mkT a):=by
 induction a with
 | nil=>simp
 | cons x xs ih=>simp [mkT]; exact ih
/-- Parts as cells of a row. -/
def partsT (l:List (Nat × List Mark)):List T:=l.map fun q=>.sv q.1 0 q.2.length
@[simp] theorem partsT_length (a:List (Nat × List Mark)):(partsT a).length=a.length:=by simp [partsT]
@[simp] theorem partsT_take (a:List (Nat × List Mark)):(partsT a).take a.length=partsT a:=List.take_of_length_le (by simp)
@[simp] theorem partsT_cells (a:List (Nat × List Mark)):allC (partsT a):=by
 intro x hx; simp only [partsT,List.mem_map] at hx; obtain ⟨q,_,rfl⟩:=hx; rfl
@[simp] theorem partsT_cells_take (a:List (Nat × List Mark)) (k:Nat):allC ((partsT a).take k):=allC_take (partsT_cells a) k
@[simp] theorem partsT_cells_drop (a:List (Nat × List Mark)) (k:Nat):allC ((partsT a).drop k):=allC_drop (partsT_cells a) k
structure TEnv (m0:Mem) (n0 rid:Nat) (bs:List UInt8) (s:S) (pid:Nat) (parts:List (Nat × List Mark)) (p:Nat):Prop where
 mu:s.mu=true
 n:n0≤s.n
 pid0:n0≤pid
 pid1:pid<s.n
 row:s.m pid=some (.box 61 1 (partsT parts))
 each:∀ q ∈ parts,n0≤q.1∧q.1<s.n∧q.1 ≠ pid∧s.m q.1=some (.box 119 2 (mkT q.2))∧1≤q.2.length∧fits q.2
 rd:s.m rid=some (rdB bs p)
 out:∀ j,j<n0→j ≠ rid→s.m j=m0 j
theorem TEnv.push {m0:Mem} {n0 rid:Nat} {bs:List UInt8} {s s':S} {pid p q n1:Nat} {parts:List (Nat × List Mark)} (h:TEnv m0 n0 rid bs s pid parts p) (hn:s.n≤n1) (hr:rid<n0) (mk:Mark) (hmk:mk.fit) (x:Option Blk)
  (hmu:s'.mu=true) (hn':s'.n=n1+1+1+1) (hm:∀ j,s'.m j=if j=n1+1+1 then some (.box 61 1 (partsT parts++[.sv n1 0 1])) else if j=pid then none else if j=n1+1 then x else if j=n1 then some (.box 119 2 [.v (.int .i64 mk.kind),.v (.int .i64 mk.num)])
   else if j=rid then some (rdB bs q) else s.m j):TEnv m0 n0 rid bs s' (n1+1+1) (parts++[(n1,[mk])]) q:=by
 have hp0:=h.pid0
 have hp1:=h.pid1
 have hnn:=h.n
 refine ⟨hmu,by omega,by omega,by omega, ?_, ?_, ?_, ?_⟩
 ·rw [hm,if_pos rfl]; simp [partsT]
 ·intro y hy
  rcases List.mem_append.1 hy with hy | hy
  ·obtain ⟨e1,e2,e3,e4,e5⟩:=h.each y hy
   refine ⟨e1,by omega,by omega, ?_,e5⟩
   rw [hm,if_neg (by omega),if_neg e3,if_neg (by omega),if_neg (by omega),if_neg (by omega),e4]
  ·cases List.mem_singleton.1 hy
   refine ⟨by omega,by omega,by omega, ?_,by simpa using hmk⟩
   rw [hm,if_neg (by omega),if_neg (by omega),if_neg (by omega),if_pos rfl]; rfl
 ·rw [hm,if_neg (by omega),if_neg (by omega),if_neg (by omega),if_neg (by omega),if_pos rfl]
 ·intro j h1 h2
  rw [hm,if_neg (by omega),if_neg (by omega),if_neg (by omega),if_neg (by omega),if_neg (by omega),h.out j h1 h2]
theorem TEnv.read {m0:Mem} {n0 rid:Nat} {bs:List UInt8} {s s':S} {pid p q:Nat} {parts:List (Nat × List Mark)} (h:TEnv m0 n0 rid bs s pid parts p) (hr:rid<n0)
  (hmu:s'.mu=true) (hn:s.n≤s'.n) (hm:s'.m=updM s.m rid (some (rdB bs q))):TEnv m0 n0 rid bs s' pid parts q:=by
 have hp0:=h.pid0
 have hp1:=h.pid1
 have hnn:=h.n
 refine ⟨hmu,by omega,by omega,by omega, ?_, ?_, ?_, ?_⟩
 ·rw [hm,updM_ne _ _ (by omega),h.row]
 ·intro y hy
  obtain ⟨e1,e2,e3,e4,e5⟩:=h.each y hy
  exact ⟨e1,by omega,e3,by rw [hm,updM_ne _ _ (by omega),e4],e5⟩
 ·rw [hm,updM_same]
 ·intro j h1 h2
  rw [hm,updM_ne _ _ h2,h.out j h1 h2]
theorem TEnv.next {m0:Mem} {n0 rid:Nat} {bs:List UInt8} {s s':S} {pid pid' p q n1:Nat} {parts parts':List (Nat × List Mark)} (h:TEnv m0 n0 rid bs s pid parts p) (hr:rid<n0)
  (hmu:s'.mu=true) (hn1:s.n≤n1) (hn:n1≤s'.n) (hpid:pid'=pid∨n1≤pid') (hpl:pid'<s'.n) (hrow:s'.m pid'=some (.box 61 1 (partsT parts'))) (hrd:s'.m rid=some (rdB bs q))
  (hout:∀ j,j<n1→j ≠ rid→j ≠ pid→s'.m j=s.m j)
  (hall:∀ y ∈ parts',y ∈ parts∨(n1≤y.1∧y.1<s'.n∧y.1 ≠ pid'∧s'.m y.1=some (.box 119 2 (mkT y.2))∧1≤y.2.length∧fits y.2)):TEnv m0 n0 rid bs s' pid' parts' q:=by
 have hp0:=h.pid0
 have hp1:=h.pid1
 have hnn:=h.n
 refine ⟨hmu,by omega,by omega,hpl,hrow, ?_,hrd, ?_⟩
 ·intro y hy
  rcases hall y hy with hy | ⟨e1,e2,e3,e4,e5⟩
  ·obtain ⟨e1,e2,e3,e4,e5⟩:=h.each y hy
   exact ⟨e1,by omega,by omega,by rw [hout _ (by omega) (by omega) e3,e4],e5⟩
  ·exact ⟨by omega,e2,e3,e4,e5⟩
 ·intro j h1 h2
  rw [hout j (by omega) h2 (by omega),h.out j h1 h2]
def TI1 (m0:Mem) (n0 rid:Nat) (bs:List UInt8) (p:Nat) (people k:Int) (s:S):Prop:=∃ (parts:List (Nat × List Mark)) (pid c p':Nat),
 s.tm 0=.ptr rid 0∧s.tm 1=.v (.int .i64 people)∧s.tm 2=.v (.int .i64 k)∧s.tm 7=.sv pid 0 parts.length∧s.tm 8=.v (.int .i64 c)∧parts.length+c≤4∧1≤parts.length+c∧p≤p'∧p'+2 * c≤p+9 ∧
 TEnv m0 n0 rid bs s pid parts p'∧∀ q ∈ parts,q.2.length=1
def TI2 (m0:Mem) (n0 rid:Nat) (bs:List UInt8) (p:Nat) (people k:Int) (s:S):Prop:=∃ (parts:List (Nat × List Mark)) (pid p':Nat),
 s.tm 0=.ptr rid 0∧s.tm 1=.v (.int .i64 people)∧s.tm 2=.v (.int .i64 k)∧s.tm 7=.sv pid 0 parts.length∧1≤parts.length∧parts.length≤4∧p≤p'∧p'≤p+9 ∧
 TEnv m0 n0 rid bs s pid parts p'∧∀ q ∈ parts,q.2.length=1
def sumLen (l:List (Nat × List Mark)):Nat:=(l.map fun q=>q.2.length).sum
theorem sumLen_one {l:List (Nat × List Mark)} (h:∀ q ∈ l,q.2.length=1):sumLen l=l.length:=by
 induction l with
 | nil=>rfl
 | cons x xs ih =>
  have:=ih fun q hq=>h q (List.mem_cons_of_mem _ hq)
  have h1:=h x (List.mem_cons_self ..)
  simp only [sumLen,List.map_cons,List.sum_cons,List.length_cons] at this ⊢; omega
theorem sumLen_append (a b:List (Nat × List Mark)):sumLen (a++b)=sumLen a+sumLen b:=by simp [sumLen]
theorem sumLen_set {l:List (Nat × List Mark)} {i:Nat} {q x:Nat × List Mark} (h:l[i]? = some q):sumLen (l.set i x)+q.2.length=sumLen l+x.2.length:=by
 induction l generalizing i with
 | nil=>cases h
 | cons y ys ih =>
  cases i with
  | zero=>cases h; simp [sumLen]; omega
  | succ i=>have:=ih (i:=i) (by simpa using h); simp only [sumLen,List.set_cons_succ,List.map_cons,List.sum_cons] at this ⊢; omega
theorem two_split {α:Type} {l:List α} {i:Nat} (h:i+1<l.length):∃ a b,l[i]? = some a∧l[i+1]? = some b∧l=l.take i++[a,b]++l.drop (i+2):=by
 refine ⟨l[i],l[i+1],List.getElem?_eq_getElem _,List.getElem?_eq_getElem _, ?_⟩
 have h1:l.drop i=l[i] :: l.drop (i+1):=List.drop_eq_getElem_cons (by omega)
 have h2:l.drop (i+1)=l[i+1] :: l.drop (i+2):=List.drop_eq_getElem_cons (by omega)
 rw [List.append_assoc]
 conv=>lhs; rw [← List.take_append_drop i l,h1,h2]
 rfl
theorem sumLen_mem {l:List (Nat × List Mark)} {q:Nat × List Mark} (h:q ∈ l):q.2.length≤sumLen l:=by
 induction l with
 | nil=>cases h
 | cons y ys ih =>
  rcases List.mem_cons.1 h with rfl | h
  ·simp [sumLen]
  ·have:=ih h; simp only [sumLen,List.map_cons,List.sum_cons] at this ⊢; omega
def TI3 (m0:Mem) (n0 rid:Nat) (bs:List UInt8) (p:Nat) (k:Int) (s:S):Prop:=∃ (parts:List (Nat × List Mark)) (pid left p':Nat),
 s.tm 0=.ptr rid 0∧s.tm 2=.v (.int .i64 k)∧s.tm 7=.sv pid 0 parts.length∧s.tm 9=.v (.int .i64 left)∧1≤parts.length∧sumLen parts+left+parts.length≤11∧p≤p'∧p'+3 * (left+parts.length)≤p+30 ∧
 TEnv m0 n0 rid bs s pid parts p'
def TIC (m0:Mem) (n0 rid:Nat) (bs:List UInt8) (p:Nat) (k:Int) (c M:Nat) (s:S):Prop:=∃ (parts:List (Nat × List Mark)) (pid left ap p':Nat),
 s.tm 0=.ptr rid 0∧s.tm 2=.v (.int .i64 k)∧s.tm 7=.sv pid 0 parts.length∧s.tm 9=.v (.int .i64 left)∧s.tm 10=.v (.int .i64 ap)∧ap+1<parts.length∧left+parts.length=M∧sumLen parts+left+parts.length≤11∧p≤p'∧p'+3 * (left+parts.length)≤p+30+c ∧
 TEnv m0 n0 rid bs s pid parts p'
def TI4 (m0:Mem) (n0 rid:Nat) (bs:List UInt8) (p:Nat) (k:Int) (s:S):Prop:=∃ (x:Nat × List Mark) (pid p':Nat),
 s.tm 0=.ptr rid 0∧s.tm 2=.v (.int .i64 k)∧s.tm 7=.sv pid 0 1∧x.2.length≤10∧p≤p'∧p'≤p+30 ∧
 TEnv m0 n0 rid bs s pid [x] p'
def TI5 (m0:Mem) (n0 rid:Nat) (bs:List UInt8) (p:Nat) (k:Int) (c:Nat) (s:S):Prop:=∃ (i:Nat) (ms:List Mark) (p':Nat),
 s.tm 0=.ptr rid 0∧s.tm 2=.v (.int .i64 k)∧s.tm 13=.sv i 0 ms.length∧fits ms∧1≤ms.length∧ms.length≤10+c∧p≤p'∧p'≤p+31∧s.mu=true∧n0≤i∧i<s.n∧n0≤s.n ∧
 s.m i=some (.box 119 2 (mkT ms))∧s.m rid=some (rdB bs p')∧(∀ j,j<n0→j ≠ rid→s.m j=m0 j)
def TermPost (m0 : Mem) (n0 rid : Nat) (bs : List UInt8) (p : Nat) (t : T) (m' : Mem) (n' : Nat) : Prop := n0 ≤ n' ∧ ∃ i ms,t = .sv i 0 ms.length ∧ n0 ≤ i ∧ i < n' ∧ m' i = some (.box 119 2 (mkT ms)) ∧ ms.length ≤ 20 ∧ fits ms ∧
      (∀ j,j < n0 → j ≠ rid → m' j = m0 j) ∧ ∃ p',p ≤ p' ∧ p' ≤ p + 40 ∧ m' rid = some (rdB bs p')
theorem term_at (bs:List UInt8) (p:Nat) (hp:p<900000000) (people k:Int) (hk:k<1000000) (m:Mem) (n rid:Nat) (hr:rid<n) (hm:m rid=some (rdB bs p)) :
  FnS Tryz.prog 43 m n [.ptr rid 0,.v (.int .i64 people),.v (.int .i64 k)] (TermPost m n rid bs p):=by
 refine FnS_fresh ⟨_,Tryz.func43,rfl,rfl⟩ fun hfr => ?_
 refine FS (rs:=[.tmp 6]) true Tryz.func43 ?_
 simp -dsimp
 refine callS_ (pick_at bs p (by omega) _ _ _ rid (by simp [hm]; omega)) ?_
 rintro t m' n' ⟨hn',⟨r,rfl,hr0,hr1⟩,rfl⟩
 simp -dsimp
 refine twp_loopC (TI1 m n rid bs p (min (max people 1) 4) k) (fun s=>natOf (s.tm 8)) (TI2 m n rid bs p (min (max people 1) 4) k) ?_ ?_ ?_
 ·refine ⟨[],n,(1+r).toNat,p+1,by simp,by simp,by simp,by simp, ?_,by simp; omega,by simp; omega,by omega,by omega,⟨by simp,by simp; omega,by simp,by simp; omega, ?_,by simp, ?_, ?_⟩,by simp⟩
  ·simp; rw [w64 (by omega) (by omega)]; omega
  ·have a1:¬n=rid:=by omega
   simp [a1,partsT]
  ·simp
  ·intro j j1 j2
   have j3:¬j=n:=by omega
   simp [j2,j3]
 ·rintro s ⟨parts,pid,c,p',h0,h1,h2,h7,h8,hc,hpc,hp0,hpp,h,hone⟩
  have hrow:=h.row
  have hrd:=h.rd
  have hmu:=h.mu
  have hpid:=h.pid1
  have hnn:=h.n
  by_cases hc0:c=0
  ·subst hc0
   simp -dsimp [h8]
   exact ⟨parts,pid,p',by simp [h0],by simp [h1],by simp [h2],by simp [h7],by omega,by omega,by omega,by omega,⟨h.mu,h.n,h.pid0,h.pid1,h.row,h.each,h.rd,h.out⟩,hone⟩
  ·have hc1:0<c:=by omega
   simp -dsimp [h0,h1,h2,h7,h8,hc1]
   refine callS_ (pick_at bs p' (by omega) _ _ _ rid hrd) ?_
   rintro t m' n' ⟨hn',⟨r,rfl,hr0,hr1⟩,rfl⟩
   simp -dsimp [h0,h1,h2,h7,h8,hc1]
   have a5:¬pid=rid:=by have:=h.pid0; omega
   have a6:¬rid=pid:=by have:=h.pid0; omega
   have hpw:IntKind.wrap .i64 (min (max people 1) 4+2)=min (max people 1) 4+2:=w64 (by omega) (by omega)
   have wc:IntKind.wrap .i64 ((c:Int)-1)=((c-1:Nat):Int):=by rw [w64 (by omega) (by omega)]; omega
   have f3:(parts.length+1) * 24≤140737488355328:=by omega
   have f4:c-1<c:=by omega
   refine iteP_intro (fun hb => ?_) (fun hb => ?_)
   ·simp -dsimp [h0,h1,h2,h7,h8,hc1]
    refine callS_ (pick_at bs (p'+1) (by omega) _ _ _ rid (by simp)) ?_
    rintro t m'' n'' ⟨hn'',⟨r2,rfl,hr2,hr3⟩,rfl⟩
    rw [hpw] at hr3
    have f1:=far (show pid<n'' by omega)
    have f2:=far (show rid<n'' by omega)
    simp -dsimp [h0,h1,h2,h7,h8,hc1,hmu,hrow,f1,f2,f3,a5,wc,f4]
    refine ⟨parts++[(n'',[⟨1,r2⟩])],n''+1+1,c-1,p'+1+1,by simp [h0],by simp [h1],by simp [h2],by simp,by simp,by simp; omega,by simp; omega,by omega,by omega, ?_, ?_⟩
    ·exact h.push (by omega) hr ⟨1,r2⟩ (fit_mk (by omega) (by omega) hr2 (by omega)) _ (by simp [hmu]) (by simp) (fun j=>by simp; rfl)
    ·intro q hq; rcases List.mem_append.1 hq with hq | hq
     ·exact hone q hq
     ·cases List.mem_singleton.1 hq; rfl
   ·simp -dsimp [h0,h1,h2,h7,h8,hc1]
    refine callS_ (pick_at bs (p'+1) (by omega) _ _ _ rid (by simp)) ?_
    rintro t m'' n'' ⟨hn'',⟨r2,rfl,hr2,hr3⟩,rfl⟩
    have f1:=far (show pid<n'' by omega)
    have f2:=far (show rid<n'' by omega)
    simp -dsimp [h0,h1,h2,h7,h8,hc1,hmu,hrow,f1,f2,f3,a5,wc,f4]
    refine ⟨parts++[(n'',[⟨0,r2⟩])],n''+1+1,c-1,p'+1+1,by simp [h0],by simp [h1],by simp [h2],by simp,by simp,by simp; omega,by simp; omega,by omega,by omega, ?_, ?_⟩
    ·exact h.push (by omega) hr ⟨0,r2⟩ (fit_mk (by omega) (by omega) hr2 (by omega)) _ (by simp [hmu]) (by simp) (fun j=>by simp; rfl)
    ·intro q hq; rcases List.mem_append.1 hq with hq | hq
     ·exact hone q hq
     ·cases List.mem_singleton.1 hq; rfl
 ·rintro s ⟨parts,pid,p',h0,h1,h2,h7,hc,hpc,hp0,hpp,h,hone⟩
  simp -dsimp
  refine twp_loopC (TI3 m n rid bs p k) (fun s=>natOf (s.tm 9)+natOf (s.tm 7)) (TI4 m n rid bs p k) ?_ ?_ ?_
  ·refine ⟨parts,pid,3,p',by simp [h0],by simp [h2],by simp [h7],by simp,by omega, ?_,by omega,by omega,⟨h.mu,h.n,h.pid0,h.pid1,h.row,h.each,h.rd,h.out⟩⟩
   rw [sumLen_one hone]; omega
  ·rintro s ⟨parts,pid,left,p',h0,h2,h7,h9,hl,hs,hp0,hpp,h⟩
   have hrow:=h.row
   have hrd:=h.rd
   have hmu:=h.mu
   have hpid:=h.pid1
   have hnn:=h.n
   by_cases hl1:parts.length=1
   ·simp -dsimp [h7,hl1]
    obtain ⟨x,rfl⟩:=List.length_eq_one_iff.1 hl1
    have:sumLen [x]=x.2.length:=by simp [sumLen]
    exact ⟨x,pid,p',by simp [h0],by simp [h2],by simp [h7],by omega,by omega,by omega,⟨h.mu,h.n,h.pid0,h.pid1,h.row,h.each,h.rd,h.out⟩⟩
   ·have hl2:1<parts.length:=by omega
    have hl3:(1:Int)<parts.length:=by omega
    have wl:IntKind.wrap .i64 ((parts.length:Int)-1)=((parts.length-1:Nat):Int):=by rw [w64 (by omega) (by omega)]; omega
    simp -dsimp [h0,h7,hl3,wl]
    refine callS_ (pick_at bs p' (by omega) _ _ _ rid hrd) ?_
    rintro t m' n' ⟨hn',⟨r,rfl,hr0,hr1⟩,rfl⟩
    obtain ⟨r,rfl⟩:=Int.eq_ofNat_of_zero_le hr0
    have hμ:natOf (s.tm 9)+natOf (s.tm 7)=left+parts.length:=by simp [h7,h9]
    refine opsP_mono (Q:=TIC m n rid bs p k 1 (left+parts.length)) ?_ _ _ ?_
    ·intro s5 hs5
     simp only [thenP_normal]
     refine twp_cut (TIC m n rid bs p k 2 (left+parts.length)) ?_ ?_
     ·obtain ⟨parts,pid,left,ap,p',h0,h2,h7,h9,h10,hat,hM,hs,hp0,hpp,h⟩:=hs5
      have hrow:=h.row
      have hrd:=h.rd
      have hmu:=h.mu
      have hpid:=h.pid1
      have hpid0:=h.pid0
      have hnn:=h.n
      by_cases hl0:left=0
      ·subst hl0
       simp -dsimp [h9]
       exact ⟨parts,pid,0,ap,p',by simp [h0],by simp [h2],by simp [h7],by simp [h9],by simp [h10],by omega,by omega,by omega,by omega,by omega,⟨h.mu,h.n,h.pid0,h.pid1,h.row,h.each,h.rd,h.out⟩⟩
      ·have hl1:0<left:=by omega
       simp -dsimp [h0,h9,hl1]
       refine callS_ (pick_at bs p' (by omega) _ _ _ rid hrd) ?_
       rintro t m' n1 ⟨hn1,⟨r,rfl,hr0,hr1⟩,rfl⟩
       by_cases hr2:r=0
       ·obtain ⟨q,hq⟩:∃ q,parts[ap]? = some q:=⟨parts[ap],List.getElem?_eq_getElem _⟩
        have hg:(partsT parts)[ap]? = some (.sv q.1 0 q.2.length):=by simp [partsT,hq]
        have hg2:(partsT parts)[ap]'(by simp; omega)=.sv q.1 0 q.2.length:=Option.some_inj.1 ((List.getElem?_eq_getElem _).symm.trans hg)
        obtain ⟨e1,e2,e3,e4,e5⟩:=h.each q (List.mem_of_getElem? hq)
        have hsum:=sumLen_set (x:=(n1+1+1+1,q.2++[⟨2,0⟩])) hq
        have hqs:q.2.length≤sumLen parts:=sumLen_mem (List.mem_of_getElem? hq)
        have f1:=far (show pid<n1 by omega)
        have f2:=far (show rid<n1 by omega)
        have f3:=far (show q.1<n1 by omega)
        have a1:¬pid=rid:=by omega
        have a2:¬q.1=rid:=by omega
        have wl:IntKind.wrap .i64 ((left:Int)-1)=((left-1:Nat):Int):=by rw [w64 (by omega) (by omega)]; omega
        have b1:(q.2.length) * 16≤140737488355328:=by omega
        have b2:(q.2.length+1) * 16≤140737488355328:=by omega
        have hat1:ap<parts.length:=by omega
        have hat2:ap+1≤parts.length:=by omega
        simp -dsimp [h0,h7,h9,h10,hr2,hl1,hmu,hrow,hg,hg2,e4,f1,f2,f3,a1,a2,e3,wl,b1,b2,hat,hat1,hat2]
        refine ⟨?_,by omega⟩
        refine st_out fun s' ht hm' hn' hu' => ?_
        have t0:=ht 0
        have t2:=ht 2
        have t7:=ht 7
        have t9:=ht 9
        simp -dsimp [h0,h2,h7] at t0 t2 t7 t9 hm' hn' hu'
        clear ht
        refine ⟨parts.set ap (n1+1+1+1,q.2++[⟨2,0⟩]),pid,left-1,p'+1,t0,t2,by simp [t7],t9,by simp; omega,by simp at hsum ⊢; omega,by omega,by simp; omega, ?_⟩
        refine h.next hr (by rw [hu',hmu]) hn1 (by omega) (.inl rfl) (by omega) ?_ ?_ ?_ ?_
        ·simp [hm',partsT,List.map_set]
        ·simp [hm',f1,f2,a1,Ne.symm a1]
        ·intro j j1 j2 j3
         simp [hm',far j1,j2,j3]
        ·intro y hy
         rcases List.mem_or_eq_of_mem_set hy with hy | rfl
         ·exact .inl hy
         ·right; have:=fit_mk (k:=2) (a:=0) (by omega) (by omega) (by omega) (by omega); simp [hm',f1,mkT_append,mkT,e5.2,this]; omega
       ·simp -dsimp [hr2]
        exact ⟨parts,pid,left,ap,p'+1,by simp [h0],by simp [h2],by simp [h7],by simp [h9],by simp [h10],by omega,by omega,by omega,by omega,by omega,h.read hr (by simp [hmu]) (by simp; omega) (by simp)⟩
     ·rintro s6 ⟨parts,pid,left,ap,p',h0,h2,h7,h9,h10,hat,hM,hs,hp0,hpp,h⟩
      have hrow:=h.row
      have hrd:=h.rd
      have hmu:=h.mu
      have hpid:=h.pid1
      have hpid0:=h.pid0
      have hnn:=h.n
      obtain ⟨q1,q2,hq1,hq2,hsplit⟩:=two_split hat
      have hg1:(partsT parts)[ap]? = some (.sv q1.1 0 q1.2.length):=by simp [partsT,hq1]
      have hg1':(partsT parts)[ap]'(by simp; omega)=.sv q1.1 0 q1.2.length:=Option.some_inj.1 ((List.getElem?_eq_getElem _).symm.trans hg1)
      have hg2:(partsT parts)[ap+1]? = some (.sv q2.1 0 q2.2.length):=by simp [partsT,hq2]
      have hg2':(partsT parts)[ap+1]'(by simp; omega)=.sv q2.1 0 q2.2.length:=Option.some_inj.1 ((List.getElem?_eq_getElem _).symm.trans hg2)
      obtain ⟨e1,e2,e3,e4,e5⟩:=h.each q1 (List.mem_of_getElem? hq1)
      obtain ⟨d1,d2,d3,d4,d5⟩:=h.each q2 (List.mem_of_getElem? hq2)
      have hsum:sumLen (parts.take ap)+(q1.2.length+q2.2.length)+sumLen (parts.drop (ap+2))=sumLen parts:=by
       conv=>rhs; rw [hsplit]
       simp [sumLen]; omega
      have f1:=far hpid
      have f2:=far (show rid<s6.n by omega)
      have f3:=far e2
      have f4:=far d2
      have a1:¬pid=rid:=by omega
      have a2:¬q1.1=rid:=by omega
      have a3:¬q2.1=rid:=by omega
      have w1:IntKind.wrap .i64 ((ap:Int)+1)=((ap+1:Nat):Int):=by rw [w64 (by omega) (by omega)]; omega
      have w2:(0:Int)≤(ap:Int)+1:=by omega
      have w3:(ap:Int)+1<parts.length:=by omega
      have w4:((ap:Int)+1).toNat=ap+1:=by omega
      have b1:(q1.2.length) * 16≤140737488355328:=by omega
      have b2:(q1.2.length+q2.2.length) * 16≤140737488355328:=by omega
      have hat1:ap<parts.length:=by omega
      have hat2:ap+1≤parts.length:=by omega
      have hat3:ap+1+1≤parts.length:=by omega
      simp only [twp_seq]
      refine twd [1,2,3,4,6,7,8,9,10,12,0,5,11,13,14,15,16,17,18] [pid] (List.replicate 19 [0]) (List.replicate 19 [0]) ?_
      simp -dsimp [List.range_succ,h0,h7,h10,hmu,hrow,hg1,hg1',hg2,hg2',e4,d4,f1,f2,f3,f4,a1,a2,a3,e3,d3,w1,w2,w3,w4,b1,b2,hat,hat1,hat2,hat3]
      refine callS_ (pick_at bs p' (by omega) _ _ _ rid (by simp [f1,f2,hrd])) ?_
      rintro t m' n1 ⟨hn1,⟨r,rfl,hr0,hr1⟩,rfl⟩
      have g1:=far (show pid<n1 by omega)
      have g2:=far (show rid<n1 by omega)
      have g5:=far (show s6.n+1+1<n1 by omega)
      have hr9:=hr1 (by omega)
      have w9:IntKind.wrap .i64 (3+r)=3+r:=w64 (by omega) (by omega)
      have c1:(q1.2.length+q2.2.length) * 2≤q1.2.length * 2+q2.2.length * 2:=by omega
      have c2:(q1.2.length+q2.2.length+1) * 16≤140737488355328:=by omega
      have c3:List.take ((q1.2.length+q2.2.length) * 2) (mkT q1.2++mkT q2.2)=mkT q1.2++mkT q2.2:=List.take_of_length_le (by simp; omega)
      have c4:ap * 24≤140737488355328:=by omega
      have c5:(ap+1) * 24≤140737488355328:=by omega
      have c6:(ap+1+(parts.length-(ap+2))) * 24≤140737488355328:=by omega
      have c7:ap≤parts.length:=by omega
      have c8:(0:Int)≤ap:=by omega
      have c9:(ap:Int)≤parts.length:=by omega
      have w5:IntKind.wrap .i64 ((ap:Int)+2)=((ap+2:Nat):Int):=by rw [w64 (by omega) (by omega)]; omega
      have w6:(0:Int)≤(ap:Int)+2:=by omega
      have w7:(ap:Int)+2≤parts.length:=by omega
      have w8:((ap:Int)+2).toNat=ap+2:=by omega
      have c10:ap+2+(parts.length-(ap+2))≤parts.length:=by omega
      have c11:List.take (parts.length-(ap+2)) (List.drop (ap+2) (partsT parts))=List.drop (ap+2) (partsT parts):=List.take_of_length_le (by simp)
      simp -dsimp [List.range_succ,h0,h7,h10,hmu,hrow,f1,f2,f3,f4,g1,g2,g5,a1,c11,c1,c2,c3,c4,c5,c6,c7,c8,c9,c10,w5,w6,w7,w8]
      refine ⟨?_,by first | omega | (simp [h9]; omega)⟩
      refine st_out fun s' ht hm' hn' hu' => ?_
      have t0:=ht 0
      have t2:=ht 2
      have t7:=ht 7
      have t9:=ht 9
      simp -dsimp [h0,h2,h9] at t0 t2 t7 t9 hm' hn' hu'
      clear ht
      have hlen:(parts.take ap++[(n1+1,q1.2++q2.2++[(⟨IntKind.wrap .i64 (3+r),0⟩:Mark)])]++parts.drop (ap+2)).length=ap+1+(parts.length-(ap+2)):=by
       simp; omega
      refine ⟨parts.take ap++[(n1+1,q1.2++q2.2++[(⟨IntKind.wrap .i64 (3+r),0⟩:Mark)])]++parts.drop (ap+2),n1+1+1+1+1+1+1,left,p'+1,t0,t2,by rw [t7,hlen],t9,by omega, ?_,by omega,by omega, ?_⟩
      ·have:sumLen [(n1+1,q1.2++q2.2++[(⟨IntKind.wrap .i64 (3+r),0⟩:Mark)])]=q1.2.length+q2.2.length+1:=by simp [sumLen]; omega
       rw [hlen,sumLen_append,sumLen_append,this]; omega
      refine h.next hr (by rw [hu',hmu]) (Nat.le_refl _) (by omega) (.inr (by omega)) (by omega) ?_ ?_ ?_ ?_
      ·have e1:List.take (ap+1) (List.take ap (List.take ap (partsT parts))++[T.sv (n1+1) 0 (q1.2.length+q2.2.length+1)])=List.take ap (partsT parts)++[T.sv (n1+1) 0 (q1.2.length+q2.2.length+1)]:=by
        rw [List.take_take,Nat.min_self]; exact List.take_of_length_le (by simp; omega)
       have e2:partsT (parts.take ap++[(n1+1,q1.2++q2.2++[⟨IntKind.wrap .i64 (3+r),0⟩])]++parts.drop (ap+2))=List.take ap (partsT parts)++[T.sv (n1+1) 0 (q1.2.length+q2.2.length+1)]++List.drop (ap+2) (partsT parts):=by
        simp [partsT,List.map_take,List.map_drop]; omega
       rw [e2,hm']; simp [e1]
      ·simp [hm',f2,g2,Ne.symm a1]
      ·intro j j1 j2 j3
       have j4:=far (show j<n1 by omega)
       simp [hm',far j1,j2,j3,j4]
      ·intro y hy
       rcases List.mem_append.1 hy with hy | hy
       ·rcases List.mem_append.1 hy with hy | hy
        ·exact .inl (List.mem_of_mem_take hy)
        ·cases List.mem_singleton.1 hy
         right; have:=fit_mk (k:=IntKind.wrap .i64 (3+r)) (a:=0) (by rw [w9]; omega) (by rw [w9]; omega) (by omega) (by omega); simp [hm',f1,g1,mkT_append,mkT,e5.2,d5.2,this]; omega
       ·exact .inl (List.mem_of_mem_drop hy)
    ·simp -dsimp
     exact ⟨parts,pid,left,r,p'+1,by simp [h0],by simp [h2],by simp [h7],by simp [h9],by simp,by omega,rfl,by omega,by omega,by omega,h.read hr (by simp [hmu]) (by simp; omega) (by simp)⟩
  ·rintro s ⟨x,pid,p',h0,h2,h7,hx,hp0,hpp,h⟩
   have hrow:=h.row
   have hrd:=h.rd
   have hmu:=h.mu
   have hpid:=h.pid1
   have hpid0:=h.pid0
   have hnn:=h.n
   obtain ⟨e1,e2,e3,e4,e5⟩:=h.each x (List.mem_singleton.2 rfl)
   simp -dsimp [h0,h7,hrow,partsT]
   refine callS_ (pick_at bs p' (by omega) _ _ _ rid hrd) ?_
   rintro t m' n1 ⟨hn1,⟨r,rfl,hr0,hr1⟩,rfl⟩
   refine opsP_mono (Q:=fun s=>(∃ b:Bool,s.tm 112=.v (.bool b))∧TI5 m n rid bs p k 0 s) ?_ _ _ ?_
   ·rintro s7 ⟨⟨b,h112⟩,hs7⟩
    simp only [thenP_normal]
    refine twp_cutQ (TI5 m n rid bs p k 1) ?_ ?_
    ·obtain ⟨i,ms,p',h0,h2,h13,hfit,hl1,hl2,hp0,hpp,hmu,hi0,hi,hnn,hrow,hrd,hout⟩:=hs7
     cases b with
     | false =>
      simp -dsimp [h112]
      exact ⟨i,ms,p',h0,h2,h13,hfit,hl1,by omega,hp0,hpp,hmu,hi0,hi,hnn,hrow,hrd,hout⟩
     | true =>
      have f1:=far hi
      have f2:=far (show rid<s7.n by omega)
      have b1:(ms.length+1) * 16≤140737488355328:=by omega
      simp -dsimp [h112,h13,hmu,hrow,f1,f2,b1]
      refine st_out fun s' ht hm' hn' hu' => ?_
      have t0:=ht 0
      have t2:=ht 2
      have t13:=ht 13
      simp -dsimp [h0,h2] at t0 t2 t13 hm' hn' hu'
      clear ht
      refine ⟨s7.n+1,ms++[⟨2,0⟩],p',t0,t2,by simp [t13],by simp [hfit]; exact fit_mk (by omega) (by omega) (by omega) (by omega),by simp,by simp; omega,hp0,hpp,by rw [hu',hmu],by omega,by omega,by omega, ?_, ?_, ?_⟩
      ·simp [hm',mkT_append,mkT]
      ·simp [hm',f2,hrd]; omega
      ·intro j j1 j2
       have j4:=far (show j<s7.n by omega)
       simp [hm',j4,hout j j1 j2]; omega
    ·clear hs7 h112
     rintro s8 ⟨i,ms,p',h0,h2,h13,hfit,hl1,hl2,hp0,hpp,hmu,hi0,hi,hnn,hrow,hrd,hout⟩
     simp -dsimp [h0,h2]
     refine callS_ (odd_at bs p' (by omega) k hk _ _ rid hrd) ?_
     rintro t m' n2 ⟨hn2,⟨b,rfl,hb0⟩,p2,hp1,hp2,rfl⟩
     cases b with
     | false =>
      simp -dsimp [h13]
      have a1:¬i=rid:=by omega
      refine ⟨by omega,i,ms,rfl,hi0,by omega,by simp [a1,hrow],by omega,hfit,fun j j1 j2=>by simp [j2,hout j j1 j2],p2,by omega,by omega,by simp⟩
     | true =>
      simp -dsimp [h0,h13]
      refine callS_ (pick_at bs p2 (by omega) _ _ _ rid (by simp)) ?_
      rintro t m' n3 ⟨hn3,⟨r,rfl,hr0,hr1⟩,rfl⟩
      by_cases hr00:r=0
      ·have f2:=far (show rid<n3 by omega)
       simp -dsimp [hr00,hmu]
       refine ⟨by omega,n3,[],rfl,by omega,by omega,by simp,by simp,by simp,fun j j1 j2 => ?_,p2+1,by omega,by omega,by simp [f2]⟩
       have j4:=far (show j<n3 by omega)
       simp [j2,j4,hout j j1 j2]
      ·by_cases hr01:r=1
       ·have f1:=far (show i<n3 by omega)
        have f2:=far (show rid<n3 by omega)
        have b1:(ms.length+1) * 16≤140737488355328:=by omega
        have a1:¬i=rid:=by omega
        have a2:¬rid=i:=by omega
        simp -dsimp [hr01,hmu,h13,hrow,f1,f2,a1,b1]
        refine ⟨by omega,n3+1,ms++[⟨5,0⟩],by simp,by omega,by omega,by simp [mkT_append,mkT],by simp; omega,by simp [hfit]; exact fit_mk (by omega) (by omega) (by omega) (by omega),fun j j1 j2 => ?_,p2+1,by omega,by omega,by simp [f2,a2]⟩
        have j4:=far (show j<n3 by omega)
        have j5:¬j=i:=by omega
        simp [j2,j4,j5,hout j j1 j2]
       ·have a1:¬i=rid:=by omega
        have b1:0<ms.length:=by omega
        have b2:2≤ms.length * 2:=by omega
        simp -dsimp [hr00,hr01,h13,h0,hrow,a1,b1]
        refine callS_ (pick_at bs (p2+1) (by omega) _ _ _ rid (by simp)) ?_
        rintro t m' n4 ⟨hn4,⟨r2,rfl,hr2,hr3⟩,rfl⟩
        have f1:=far (show i<n4 by omega)
        have f2:=far (show rid<n4 by omega)
        simp -dsimp [hmu,h13,hrow,f1,f2,a1,b1,b2]
        obtain ⟨x0,rest,rfl⟩:∃ x0 rest,ms=x0 :: rest:=by
         cases ms with
         | nil=>simp at hl1
         | cons a b=>exact ⟨a,b,rfl⟩
        refine ⟨by omega,i,⟨r2,6⟩ :: rest,rfl,hi0,by omega,by simp [mkT],by simp at hl2 ⊢; omega,by simp at hfit ⊢; exact ⟨fit_mk hr2 (by have:=hr3 (by omega); omega) (by omega) (by omega),hfit.2⟩,fun j j1 j2 => ?_,p2+1+1,by omega,by omega,by simp [f2]; omega⟩
        have j5:¬j=i:=by omega
        simp [j2,j5,hout j j1 j2]
   ·simp -dsimp
    refine ⟨x.1,x.2,p'+1,by simp [h0],by simp [h2],by simp,e5.2,e5.1,by omega,by omega,by omega,by simp [hmu],by omega,by simp; omega,by simp; omega, ?_,by simp, ?_⟩
    ·have a1:¬x.1=rid:=by omega
     simp [a1,e4]
    ·intro j j1 j2
     simp [j2,h.out j j1 j2]
end TL

namespace TL
open Go Go.Proofs
theorem mapO_mkT (k:Bool) (m:Mem) (d:Nat) (l:List Mark):mapO (bor k m d) (mkT l)=some (l.flatMap fun x=>[V.int .i64 x.kind,V.int .i64 x.num]):=by
 induction l with
 | nil=>rfl
 | cons x xs ih=>simp [mkT,mapO,ih]
theorem chunk_marks (l:List Mark):chunk 2 l.length (l.flatMap fun x=>[V.int .i64 x.kind,V.int .i64 x.num])=l.map Mark.v:=by
 induction l with
 | nil=>rfl
 | cons x xs ih=>simp [chunk,ih,Mark.v]
theorem bor_marks {m:Mem} {i e:Nat} {ms:List Mark} (d:Nat) (h:m i=some (.box e 2 (mkT ms))):bor true m (d+1) (.sv i 0 ms.length)=some (marksV ms):=by
 unfold bor
 simp -dsimp [h,mapO_mkT,marksV,chunk_marks]
 rw [tst_pos]
 ·rw [chunk_marks]
 ·intro x hx
  obtain ⟨y,_,hy⟩:=List.mem_flatMap.1 hx
  simp at hy; rcases hy with rfl | rfl <;> rfl
/-- What a drawing function leaves. -/
def DrawPost (R:V→Prop) (K:Nat) (m0:Mem) (n0 rid:Nat) (bs:List UInt8) (p:Nat) (t:T) (m':Mem) (n':Nat):Prop:=n0≤n'∧(∃ x,bor true (upper n0 m') 4 t=some x∧R x) ∧
 (∀ j,j<n0→j ≠ rid→m' j=m0 j)∧∃ p',p≤p'∧p'≤p+K∧m' rid=some (rdB bs p')
/-- A drawing function's contract: some value of a kind. -/
def Draws (R:V→Prop) (K:Nat) (m:Mem) (n rid:Nat) (bs:List UInt8) (p:Nat) (t:T) (m':Mem) (n':Nat):Prop:=n≤n'∧(∃ x,R x∧t=.v x)∧RdTo K m rid bs p m'
theorem Draws_of {f : Nat} {args : List T} {R : V → Prop} {K : Nat} {m : Mem} {n rid : Nat} {bs : List UInt8} {p : Nat} (hr : rid < n) (hf : ∃ fn,Tryz.prog.funcs[f]? = some fn ∧ (fn.name == "runtime.NumGoroutine") = false ∧ fn.body.isNone = false)
  (h:(∀ j,n≤j→m j=none)→FnS Tryz.prog f m n args (DrawPost R K m n rid bs p)):FnS Tryz.prog f m n args (Draws R K m n rid bs p):=by
 refine FnS_fresh hf fun hfr => ?_
 refine (h hfr).frz ?_
 rintro t m' n' ⟨hn,⟨x,hx,hR⟩,hout,p',hp1,hp2,hrd⟩
 refine ⟨x,updM m rid (some (rdB bs p')),upper n m', ?_, ?_, ?_,hx,hn,⟨x,hR,rfl⟩,p',hp1,hp2,rfl⟩
 ·intro j b hb
  by_cases hj:j=rid
  ·subst hj; simp at hb; rw [hrd,hb]
  ·rw [updM_ne _ _ hj] at hb
   have:j<n:=by
    by_cases h:j<n
    ·exact h
    ·rw [hfr j (by omega)] at hb; cases hb
   rw [hout j this hj,hb]
 ·intro j b hb
  by_cases h:n≤j
  ·simpa [h] using hb
  ·simp [h] at hb
 ·intro j
  by_cases h:n≤j
  ·left; rw [updM_ne _ _ (by omega),hfr j h]
  ·right; simp [h]
/-- A drawn term: pure. -/
def SomeTerm (x:V):Prop:=∃ ms:List Mark,ms.length≤20∧fits ms∧x=marksV ms
theorem term_z (bs:List UInt8) (p:Nat) (hp:p<900000000) (people k:Int) (hk:k<1000000) (m:Mem) (n rid:Nat) (hr:rid<n) (hm:m rid=some (rdB bs p)) :
  FnS Tryz.prog 43 m n [.ptr rid 0,.v (.int .i64 people),.v (.int .i64 k)] (Draws SomeTerm 40 m n rid bs p):=by
 refine Draws_of hr ⟨_,Tryz.func43,rfl,rfl⟩ fun hfr=>(term_at bs p hp people k hk m n rid hr hm).weak ?_
 rintro t m' n' ⟨hn,i,ms,rfl,hi,hi',hrow,hl,hfit,hout,p',hp1,hp2,hrd⟩
 exact ⟨hn,⟨marksV ms,bor_marks (e:=119) 3 (by simp [hi,hrow]),ms,hl,hfit,rfl⟩,hout,p',hp1,hp2,hrd⟩
/-- A drawn claim. -/
def SomeClaim (x:V):Prop:=∃ c:Claim,c.says.length≤20∧c.fit∧x=c.v
theorem claim_z (bs:List UInt8) (p:Nat) (hp:p<800000000) (people k:Int) (hpe:people<1000000) (hk0:0≤k) (hk:k<100000) (m:Mem) (n rid:Nat) (hr:rid<n) (hm:m rid=some (rdB bs p)) :
  FnS Tryz.prog 95 m n [.ptr rid 0,.v (.int .i64 people),.v (.int .i64 k)] (Draws SomeClaim 50 m n rid bs p):=by
 refine Draws_of hr ⟨_,Tryz.func95,rfl,rfl⟩ fun hfr => ?_
 refine FS (rs:=[.cell 6 63]) false Tryz.func95 ?_
 have f1:=far hr
 have wk:IntKind.wrap .i64 (k * 2)=k * 2:=w64 (by omega) (by omega)
 simp -dsimp [wk]
 refine callS_ (pick_at bs p (by omega) _ _ _ rid (by simp [hm]; omega)) ?_
 rintro t m1 n1 ⟨hn1,⟨r,rfl,hr0,hr1⟩,rfl⟩
 have hr1:=hr1 (by omega)
 simp -dsimp [wk]
 refine callS_ (term_z bs (p+1) (by omega) _ _ (by omega) _ _ rid (by omega) (by simp)) ?_
 rintro t m2 n2 ⟨hn2,⟨x,⟨ms,hl,hfit,rfl⟩,rfl⟩,p2,hp1,hp2,rfl⟩
 have f2:=far (show rid<n2 by omega)
 have f3:=far (show n<n2 by omega)
 simp -dsimp [f1,f2,f3,marksV]
 refine callS_ (odd_at bs p2 (by omega) k (by omega) _ _ rid (by simp [f1,f2,f3])) ?_
 rintro t m3 n3 ⟨hn3,⟨b,rfl,hb0⟩,p3,hp3,hp4,rfl⟩
 cases b with
 | false =>
  simp -dsimp [f1,f2,f3]
  refine ⟨by omega,⟨_,by simp; rfl,⟨r,ms⟩,hl,⟨⟨by simp only; omega,by simp only; omega⟩,hfit⟩,rfl⟩,fun j j1 j2 => ?_,p3,by omega,by omega,by simp [f1]⟩
  simp [far j1,far (show j<n2 by omega),j2]
 | true => 
  have f4:=far (show n2<n3 by omega)
  have f5:=far (show n<n3 by omega)
  have f6:=far (show rid<n3 by omega)
  simp -dsimp [f1,f2,f3,f4,f5,f6]
  refine callS_ (pick_at bs p3 (by omega) _ _ _ rid (by simp [f1,f2,f3,f4,f5,f6])) ?_
  rintro t m4 n4 ⟨hn4,⟨r2,rfl,hr2,hr3⟩,rfl⟩
  have f7:=far (show n3<n4 by omega)
  have hr4:r2=0∨r2=1:=by have:=hr3 (by decide); omega
  rcases hr4 with rfl | rfl
  ·simp -dsimp [f1,f2,f3,f4,f5,f6,f7]
   refine ⟨by omega,⟨_,by simp; rfl,⟨-1,ms⟩,hl,⟨⟨by simp,by simp⟩,hfit⟩,rfl⟩,fun j j1 j2 => ?_,p3+1,by omega,by omega,by simp [f1,f2,f3,f4,f5,f6]⟩
   simp [far j1,far (show j<n2 by omega),far (show j<n3 by omega),j2]
  ·simp -dsimp [f1,f2,f3,f4,f5,f6,f7]
   refine ⟨by omega,⟨_,by simp; rfl,⟨4,ms⟩,hl,⟨⟨by simp,by simp⟩,hfit⟩,rfl⟩,fun j j1 j2 => ?_,p3+1,by omega,by omega,by simp [f1,f2,f3,f4,f5,f6]⟩
   simp [far j1,far (show j<n2 by omega),far (show j<n3 by omega),j2]
end TL

namespace TL
open Go Go.Proofs
def SomePlace (x:V):Prop:=∃ q:Place,q.story.length≤10∧(∀ c ∈ q.story,c.says.length≤20)∧q.fit∧x=q.v
def PI1 (m0:Mem) (n0 rid:Nat) (bs:List UInt8) (p:Nat) (k:Int) (a:Nat) (s:S):Prop:=∃ (people:Int) (story:List Claim) (st:T) (pid c p':Nat),
 s.tm 0=.ptr rid 0∧s.tm 1=.v (.int .i64 k)∧s.tm 4=.ptr n0 0∧s.tm 5=.ptr pid 0∧(a=1→s.tm 6=.v (.int .i64 c))∧s.mu=false∧n0<pid∧pid<s.n∧(∃ z,s.m n0=some (.box 25 2 [.v (.int .i64 0),z])) ∧
 s.m pid=some (.box 25 2 [.v (.int .i64 people),st])∧IsRow s.m (n0+1) s.n 63 st (story.map Claim.v)∧st ≠ .loc pid∧story.length+c≤3∧p≤p'∧p'+50 * c≤p+160∧(∀ x ∈ story,x.says.length≤20)∧1≤people∧people≤4∧(∀ x ∈ story,x.fit) ∧
 s.m rid=some (rdB bs p')∧(∀ j,j<n0→j ≠ rid→s.m j=m0 j)
theorem fitBad:Claim.fit ⟨4,[⟨0,0⟩]⟩:=⟨⟨by simp,by simp⟩,by simp [fits]; exact fit_mk (by omega) (by omega) (by omega) (by omega)⟩
theorem claim_cells (c:Claim):c.v.cells=[.int .i64 c.who,marksV c.says]:=rfl
theorem place_z (bs:List UInt8) (p:Nat) (hp:p<700000000) (k:Int) (hk0:0≤k) (hk:k<100000) (m:Mem) (n rid:Nat) (hr:rid<n) (hm:m rid=some (rdB bs p)) :
  FnS Tryz.prog 40 m n [.ptr rid 0,.v (.int .i64 k)] (Draws SomePlace 200 m n rid bs p):=by
 refine Draws_of hr ⟨_,Tryz.func40,rfl,rfl⟩ fun hfr => ?_
 refine FS (rs:=[.cell 4 25]) false Tryz.func40 ?_
 have f1:=far hr
 simp -dsimp
 refine callS_ (pick_at bs p (by omega) _ _ _ rid (by simp [hm]; omega)) ?_
 rintro t m1 n1 ⟨hn1,⟨r,rfl,hr0,hr1⟩,rfl⟩
 have hr1:=hr1 (by decide)
 have w1:IntKind.wrap .i64 (1+r)=1+r:=w64 (by omega) (by omega)
 have f2:=far (show n<n1 by omega)
 have f3:=far (show rid<n1 by omega)
 simp -dsimp [f1,f2,f3]
 refine callS_ (pick_at bs (p+1) (by omega) _ _ _ rid (by simp [f3])) ?_
 rintro t m2 n2 ⟨hn2,⟨c,rfl,hc0,hc1⟩,rfl⟩
 simp -dsimp
 refine twp_loopC (PI1 m n rid bs p k 1) (fun s=>natOf (s.tm 6)) (PI1 m n rid bs p k 0) ?_ ?_ ?_
 ·obtain ⟨c,rfl⟩:=Int.eq_ofNat_of_zero_le hc0
  have:=hc1 (by decide)
  refine ⟨1+r,[],.nil,n1,c,p+1+1,by simp,by simp,by simp,by simp,by simp,by simp,by omega,by simp; omega,⟨.nil, ?_⟩,by simp [f3,w1],.inl ⟨rfl,rfl⟩,by simp,by simp; omega,by omega,by omega,by simp,by omega,by omega,by simp,by simp,fun j j1 j2 => ?_⟩
  ·simp [f1,f2,f3]
  ·simp [far j1,far (show j<n1 by omega),j2]
 ·rintro s ⟨people,story,st,pid,c,p',h0,h1,h4,h5,h6,hmu,hp0,hp1,⟨z,hz⟩,hrow,hst,hne,hl,hpa,hpb,hsays,hpe0,hpe1,hfit,hrd,hout⟩
  have h6:=h6 rfl
  by_cases hc:c=0
  ·subst hc
   simp -dsimp [h6]
   exact ⟨people,story,st,pid,0,p',h0,h1,h4,h5,fun h=>by simp at h,hmu,hp0,hp1,⟨z,hz⟩,hrow,hst,hne,hl,hpa,hpb,hsays,hpe0,hpe1,hfit,hrd,hout⟩
  ·have hc1:0<c:=by omega
   have wc:IntKind.wrap .i64 ((c:Int)-1)=((c-1:Nat):Int):=by rw [w64 (by omega) (by omega)]; omega
   have a1:¬pid=rid:=by omega
   simp -dsimp [h6,hc1]
   refine twd (List.range 10) [pid] (List.replicate 10 [0]) (List.replicate 9 [0]++[[]]) ?_
   simp -dsimp [List.range_succ,h0,h5,hrow]
   refine callS_ (claim_z bs p' (by omega) _ _ (by omega) (by omega) (by omega) _ _ rid (by omega) hrd) ?_
   rintro t m3 n3 ⟨hn3,⟨x,⟨cl,hcl,hcf,rfl⟩,rfl⟩,p2,hp2,hp3,rfl⟩
   have f4:=far (show pid<n3 by omega)
   have f5:=far (show rid<n3 by omega)
   rcases hst with ⟨rfl,hs0⟩ | ⟨i,rfl,hi0,hi1,hi⟩
   ·simp -dsimp [List.range_succ,h0,h5,hrow,a1,f4,f5,hmu,claim_cells,marksV,wc,hc1,h6]
    refine ⟨?_,by omega⟩
    refine st_out fun s' ht hm' hn' hu' => ?_
    have t0:=ht 0
    have t1:=ht 1
    have t4:=ht 4
    have t5:=ht 5
    have t6:=ht 6
    simp -dsimp [h0,h1,h4,h5] at t0 t1 t4 t5 t6 hm' hn' hu'
    clear ht
    have hs1:story=[]:=List.map_eq_nil_iff.1 hs0
    subst hs1
    refine ⟨people,[cl],.loc (n3+1),pid,c-1,p2,t0,t1,t4,t5,fun _=>t6,by rw [hu',hmu],hp0,by omega,⟨z, ?_⟩,by simp [hm'],.inr ⟨n3+1,rfl,by omega,by omega,by simp [hm',f4]⟩,by simp; omega,by simp at hl ⊢; omega,by omega,by omega,by simpa using hcl,hpe0,hpe1,by simpa using hcf,by simp [hm',f5]; omega,fun j j1 j2 => ?_⟩
    ·have b2:¬n=pid:=by omega
     have b3:¬n=rid:=by omega
     simp [hm',far (show n<n3 by omega),b2,b3,hz]
    ·have b2:¬j=pid:=by omega
     simp [hm',far (show j<n3 by omega),b2,j2,hout j j1 j2]
   ·have f6:=far (show i<n3 by omega)
    have a2:¬i=rid:=by omega
    have a3:¬pid=i:=by rintro rfl; exact hne rfl
    have b1:(story.length+1) * 32≤140737488355328:=by omega
    simp -dsimp [List.range_succ,h0,h5,hrow,a1,a2,a3,f4,f5,f6,hi,hmu,claim_cells,marksV,wc,hc1,b1,h6]
    refine ⟨?_,by omega⟩
    refine st_out fun s' ht hm' hn' hu' => ?_
    have t0:=ht 0
    have t1:=ht 1
    have t4:=ht 4
    have t5:=ht 5
    have t6:=ht 6
    simp -dsimp [h0,h1,h4,h5] at t0 t1 t4 t5 t6 hm' hn' hu'
    clear ht
    refine ⟨people,story++[cl],.loc (n3+1),pid,c-1,p2,t0,t1,t4,t5,fun _=>t6,by rw [hu',hmu],hp0,by omega,⟨z, ?_⟩,by simp [hm'],.inr ⟨n3+1,rfl,by omega,by omega,by simp [hm',f4,f6]⟩,by simp; omega,by simp; omega,by omega,by omega, ?_,hpe0,hpe1, ?_,by simp [hm',f5,Ne.symm a2]; omega,fun j j1 j2 => ?_⟩
    ·have b2:¬n=pid:=by omega
     have b3:¬n=rid:=by omega
     have b4:¬n=i:=by omega
     simp [hm',far (show n<n3 by omega),b2,b3,b4,hz]
    ·intro y hy
     rcases List.mem_append.1 hy with hy | hy
     ·exact hsays y hy
     ·cases List.mem_singleton.1 hy; exact hcl
    ·intro y hy
     rcases List.mem_append.1 hy with hy | hy
     ·exact hfit y hy
     ·cases List.mem_singleton.1 hy; exact hcf
    ·have b2:¬j=pid:=by omega
     have b4:¬j=i:=by omega
     simp [hm',far (show j<n3 by omega),b2,b4,j2,hout j j1 j2]
 ·rintro s ⟨people,story,st,pid,c,p',h0,h1,h4,h5,h6,hmu,hp0,hp1,⟨z,hz⟩,hrow,hst,hne,hl,hpa,hpb,hsays,hpe0,hpe1,hfit,hrd,hout⟩
  simp -dsimp [h0,h1]
  refine callS_ (odd_at bs p' (by omega) k (by omega) _ _ rid hrd) ?_
  rintro t m3 n3 ⟨hn3,⟨b,rfl,hb0⟩,p2,hp2,hp3,rfl⟩
  have hcell:=hst.cell
  have a1:¬pid=rid:=by omega
  have a2:¬n=pid:=by omega
  have a3:¬n=rid:=by omega
  have f4:=far (show pid<n3 by omega)
  have f5:=far (show rid<n3 by omega)
  have f6:=far (show n<n3 by omega)
  cases b with
  | false =>
   simp -dsimp [h4,h5,hrow,a1,a2,a3,hz,hcell]
   refine ⟨by omega,⟨_, ?_,⟨people,story⟩,by simp; omega,hsays,⟨⟨by simp only; omega,by simp only; omega⟩,hfit⟩,rfl⟩,fun j j1 j2 => ?_,p2,by omega,by omega,by simp [f1]⟩
   ·rw [bor_agg]
    simp -dsimp only [mapO,bor_v,hst.bor (n0:=n) (m':=updM (updM s.m rid (some (rdB bs p2))) n (some (Blk.box 25 2 [T.v (V.int IntKind.i64 people),st]))) (by omega) (fun i _ i1 i2=>by rw [updM_ne _ _ (by omega),updM_ne _ _ (by omega)])]
    rfl
   ·simp [far j1,j2,hout j j1 j2]
  | true =>
   simp -dsimp [h0]
   refine callS_ (pick_at bs p2 (by omega) _ _ _ rid (by simp)) ?_
   rintro t m4 n4 ⟨hn4,⟨r2,rfl,hr2,hr3⟩,rfl⟩
   have hr4:r2=0∨r2=1∨r2=2:=by have:=hr3 (by decide); omega
   rcases hr4 with rfl | rfl | rfl
   ·rcases hst with ⟨rfl,hs0⟩ | ⟨i,rfl,hi0,hi1,hi⟩
    ·simp -dsimp [h4,h5,hrow,a1,a2,a3,hz,hmu,far (show pid<n4 by omega),far (show n<n4 by omega)]
     refine ⟨by omega,⟨_,by simp [far (show pid<n4 by omega),far (show n<n4 by omega),show n≤n4+1+1 by omega]; rfl,⟨people,[⟨4,[⟨0,0⟩]⟩]⟩,by simp,by simp,⟨⟨by simp only; omega,by simp only; omega⟩,by simpa using fitBad⟩,rfl⟩,fun j j1 j2 => ?_,p2+1,by omega,by omega,by simp [f1,Ne.symm a1,far (show rid<n4 by omega)]⟩
     have b2:¬j=pid:=by omega
     simp [far j1,far (show j<n4 by omega),j2,b2,hout j j1 j2]
    ·have b1:(story.length+1) * 32≤140737488355328:=by omega
     have b2:¬i=rid:=by omega
     have b3:¬pid=i:=by rintro rfl; exact hne rfl
     have b4:¬n=i:=by omega
     simp -dsimp [h4,h5,hrow,a1,a2,a3,hz,hmu,b1,b2,b3,b4,hi,far (show pid<n4 by omega),far (show n<n4 by omega),far (show i<n4 by omega),claim_cells,marksV]
     refine ⟨by omega,⟨(⟨people,story++[⟨4,[⟨0,0⟩]⟩]⟩:Place).v,by simp [show n≤n4+1+1 by omega,far (show pid<n4 by omega),far (show n<n4 by omega),far (show i<n4 by omega),Place.v,storyV,Claim.v,marksV,Mark.v],⟨people,story++[⟨4,[⟨0,0⟩]⟩]⟩,by simp; omega, ?_,⟨⟨by simp only; omega,by simp only; omega⟩, ?_⟩,rfl⟩,fun j j1 j2 => ?_,p2+1,by omega,by omega,by simp [f1,Ne.symm a1,Ne.symm b2,far (show rid<n4 by omega)]⟩
     ·intro y hy
      rcases List.mem_append.1 hy with hy | hy
      ·exact hsays y hy
      ·cases List.mem_singleton.1 hy; simp
     ·intro y hy
      rcases List.mem_append.1 hy with hy | hy
      ·exact hfit y hy
      ·cases List.mem_singleton.1 hy; exact fitBad
     ·have c2:¬j=pid:=by omega
      have c3:¬j=i:=by omega
      simp [far j1,far (show j<n4 by omega),j2,c2,c3,hout j j1 j2]
   ·simp -dsimp [h4,h5,hrow,a1,a2,a3,hz,hcell]
    refine ⟨by omega,⟨_, ?_,⟨5,story⟩,by simp; omega,hsays,⟨⟨by simp,by simp⟩,hfit⟩,rfl⟩,fun j j1 j2 => ?_,p2+1,by omega,by omega,by simp [f1,Ne.symm a1]⟩
    ·rw [bor_agg]
     simp -dsimp only [mapO,bor_v,hst.bor (n0:=n) (m':=updM (updM (updM s.m rid (some (rdB bs (p2+1)))) pid (some (Blk.box 25 2 [T.v (V.int IntKind.i64 5),st]))) n (some (Blk.box 25 2 [T.v (V.int IntKind.i64 5),st]))) (by omega) (fun i hi i1 i2=>by rw [updM_ne _ _ (by omega),updM_ne _ _ (by rintro rfl; exact hne hi),updM_ne _ _ (by omega)])]
     rfl
    ·have b2:¬j=pid:=by omega
     simp [far j1,j2,b2,hout j j1 j2]
   ·simp -dsimp [h4,h5,hrow,a1,a2,a3,hz]
    refine ⟨by omega,⟨_,by simp; rfl,⟨0,[]⟩,by simp,by simp,⟨⟨by simp,by simp⟩,by simp⟩,rfl⟩,fun j j1 j2 => ?_,p2+1,by omega,by omega,by simp [f1]⟩
    simp [far j1,j2,hout j j1 j2]
end TL

namespace TL
open Go Go.Proofs
/-- What a function that draws from a code leaves: some value of a kind. -/
def Drawn (R:V→Prop) (m:Mem) (n:Nat) (t:T) (m':Mem) (n':Nat):Prop:=n≤n'∧(∃ x,R x∧t=.v x)∧m'=m
def DrawnPost (R:V→Prop) (m0:Mem) (n0:Nat) (t:T) (m':Mem) (n':Nat):Prop:=n0≤n'∧(∃ x,bor true (upper n0 m') 4 t=some x∧R x)∧∀ j,j<n0→m' j=m0 j
theorem Drawn_of {f : Nat} {args : List T} {R : V → Prop} {m : Mem} {n : Nat} (hf : ∃ fn,Tryz.prog.funcs[f]? = some fn ∧ (fn.name == "runtime.NumGoroutine") = false ∧ fn.body.isNone = false)
  (h:(∀ j,n≤j→m j=none)→FnS Tryz.prog f m n args (DrawnPost R m n)):FnS Tryz.prog f m n args (Drawn R m n):=by
 refine FnS_fresh hf fun hfr => ?_
 refine (h hfr).frz ?_
 rintro t m' n' ⟨hn,⟨x,hx,hR⟩,hout⟩
 refine ⟨x,m,upper n m', ?_, ?_, ?_,hx,hn,⟨x,hR,rfl⟩,rfl⟩
 ·intro j b hb
  by_cases h:j<n
  ·rw [hout j h,hb]
  ·rw [hfr j (by omega)] at hb; cases hb
 ·intro j b hb
  by_cases h:n≤j
  ·simpa [h] using hb
  ·simp [h] at hb
 ·intro j
  by_cases h:n≤j
  ·left; exact hfr j h
  ·right; simp [h]
theorem open_at (bs:List UInt8) (m:Mem) (n:Nat):FnS Tryz.prog 19 m n [.v (codeV bs)] (fun t m' n'=>t=.ptr n 0∧n'=n+1∧m'=updM m n (some (rdB (bs.take 2000) 0))):=open_fn bs m n
end TL

namespace TL
open Go Go.Proofs
attribute [local simp] marksV storyV codeV Claim.v Place.v
def worldOk (people w:Int):Bool:=peopleOk people && decide (0≤w) && decide (w<2 ^ people.toNat)
theorem worldOk_fn (people w:Int):FnZ Tryz.prog 31 [.int .i64 people,.int .i64 w] (.bool (worldOk people w)):=by
 have hk:=ft (peopleOk people)
 rcases hk with hk | hk
 ·refine FZ (rs:=[.tmp 4]) false Tryz.func31 ?_
  simp -dsimp
  refine cl (peopleOk_at people) ?_
  simp -dsimp [hk,worldOk]
 ·by_cases h1:0≤w
  ·have h2:people=1∨people=2∨people=3∨people=4:=by simp [peopleOk] at hk; omega
   rcases h2 with rfl | rfl | rfl | rfl
   all_goals
    refine FZ (rs:=[.tmp 4]) false Tryz.func31 ?_
    simp -dsimp
    refine call_ (peopleOk_at _) (by simp -dsimp <;> rfl) ?_
    simp -dsimp [hk,worldOk,h1]
    rfl
  ·refine FZ (rs:=[.tmp 4]) false Tryz.func31 ?_
   simp -dsimp
   refine cl (peopleOk_at people) ?_
   simp -dsimp [hk,worldOk,h1]
theorem alive_fn:FnZ Tryz.prog 11 [] (.bool true):=by
 refine FZ (rs:=[.tmp 0]) false Tryz.func11 ?_
 have e1:worldOk 1 1=true:=by decide
 have e2:worldOk 1 2=false:=by decide
 simp -dsimp
 refine cl (worldOk_fn 1 1) ?_
 simp -dsimp [e1]
 refine cl (worldOk_fn 1 2) ?_
 simp -dsimp [e2]
end TL

namespace TL
open Go Go.Proofs
attribute [local simp] marksV storyV codeV Claim.v Place.v
/-- The table of all worlds below n for which something holds. -/
def tabN:Nat→(Nat→Bool)→Nat
 | 0,_=>0
 | n+1,f=>if f n then tabN n f ||| 2 ^ n else tabN n f
theorem tabN_lt (f:Nat→Bool):∀ n,tabN n f<2 ^ n
 | 0=>by simp [tabN]
 | n+1=>by
  have h:=tabN_lt f n
  have h2:2 ^ n<2 ^ (n+1):=Nat.pow_lt_pow_right (by omega) (by omega)
  unfold tabN; split
  ·exact Nat.or_lt_two_pow (by omega) h2
  ·omega
theorem testBit_tabN (f:Nat→Bool) (i:Nat):∀ n,(tabN n f).testBit i=(decide (i<n) && f i)
 | 0=>by simp [tabN]
 | n+1=>by
  have ih:=testBit_tabN f i n
  unfold tabN
  split
  ·rename_i hf
   rw [Nat.testBit_or,ih,Nat.testBit_two_pow]
   by_cases h:n=i
   ·subst h; simp [hf]
   ·have:(i<n+1)↔(i<n):=by omega
    simp [h,this]
  ·rename_i hf
   rw [ih]
   by_cases h:n=i
   ·subst h; simp [hf]
   ·have:(i<n+1)↔(i<n):=by omega
    simp [this]
theorem and_nn {a b:Nat} (ha:a<4611686018427387904) (hb:b<4611686018427387904):IntKind.wrap .i64 ((a % 2 ^ IntKind.i64.bits &&& b % 2 ^ IntKind.i64.bits:Nat):Int)=((a &&& b:Nat):Int):=by
 have e1:a % 2 ^ IntKind.i64.bits=a:=Nat.mod_eq_of_lt (by simp only [IntKind.bits]; omega)
 have e2:b % 2 ^ IntKind.i64.bits=b:=Nat.mod_eq_of_lt (by simp only [IntKind.bits]; omega)
 rw [e1,e2,w64 (by omega) (by have:a &&& b≤a:=Nat.and_le_left; omega)]
theorem and_ni {a b:Nat} {x:Int} (hx:x=b) (ha:a<4611686018427387904) (hb:b<4611686018427387904):IntKind.wrap .i64 ((a % 2 ^ IntKind.i64.bits &&& (x % 2 ^ IntKind.i64.bits).toNat:Nat):Int)=((a &&& b:Nat):Int):=by
 subst hx
 have e2:((b:Int) % 2 ^ IntKind.i64.bits).toNat=b % 2 ^ IntKind.i64.bits:=by simp only [IntKind.bits]; omega
 rw [e2,and_nn ha hb]
theorem or_nn {a b:Nat} (ha:a<4611686018427387904) (hb:b<4611686018427387904):IntKind.wrap .i64 ((a % 2 ^ IntKind.i64.bits ||| b % 2 ^ IntKind.i64.bits:Nat):Int)=((a ||| b:Nat):Int):=by
 have e1:a % 2 ^ IntKind.i64.bits=a:=Nat.mod_eq_of_lt (by simp only [IntKind.bits]; omega)
 have e2:b % 2 ^ IntKind.i64.bits=b:=Nat.mod_eq_of_lt (by simp only [IntKind.bits]; omega)
 rw [e1,e2,w64 (by omega) (by have:a ||| b<2 ^ 62:=Nat.or_lt_two_pow (by omega) (by omega); omega)]
theorem or_ni {a b:Nat} {x:Int} (hx:x=b) (ha:a<4611686018427387904) (hb:b<4611686018427387904):IntKind.wrap .i64 ((a % 2 ^ IntKind.i64.bits ||| (x % 2 ^ IntKind.i64.bits).toNat:Nat):Int)=((a ||| b:Nat):Int):=by
 subst hx
 have e2:((b:Int) % 2 ^ IntKind.i64.bits).toNat=b % 2 ^ IntKind.i64.bits:=by simp only [IntKind.bits]; omega
 rw [e2,or_nn ha hb]
def tableOk (people t:Int):Bool:=peopleOk people && decide (0≤t) && decide (t<2 ^ (2 ^ people.toNat))
theorem tableOk_fn (people t:Int):FnZ Tryz.prog 107 [.int .i64 people,.int .i64 t] (.bool (tableOk people t)):=by
 have hk:=ft (peopleOk people)
 rcases hk with hk | hk
 ·refine FZ (rs:=[.tmp 4]) false Tryz.func107 ?_
  simp -dsimp
  refine cl (peopleOk_at people) ?_
  simp -dsimp [hk,tableOk]
 ·by_cases h1:0≤t
  ·have h2:people=1∨people=2∨people=3∨people=4:=by simp [peopleOk] at hk; omega
   rcases h2 with rfl | rfl | rfl | rfl
   all_goals
    refine FZ (rs:=[.tmp 4]) false Tryz.func107 ?_
    simp -dsimp
    refine call_ (peopleOk_at _) (by simp -dsimp <;> rfl) ?_
    simp -dsimp [hk,tableOk,h1,show IntKind.wrap .u64 (2 ^ min 1 IntKind.u64.bits)=2 from rfl,show IntKind.wrap .u64 (2 ^ min 2 IntKind.u64.bits)=4 from rfl,show IntKind.wrap .u64 (2 ^ min 3 IntKind.u64.bits)=8 from rfl,show IntKind.wrap .u64 (2 ^ min 4 IntKind.u64.bits)=16 from rfl,show IntKind.wrap .i64 (2 ^ min 2 IntKind.i64.bits)=4 from rfl,show IntKind.wrap .i64 (2 ^ min 4 IntKind.i64.bits)=16 from rfl,show IntKind.wrap .i64 (2 ^ min 8 IntKind.i64.bits)=256 from rfl,show IntKind.wrap .i64 (2 ^ min 16 IntKind.i64.bits)=65536 from rfl]
  ·refine FZ (rs:=[.tmp 4]) false Tryz.func107 ?_
   simp -dsimp
   refine cl (peopleOk_at people) ?_
   simp -dsimp [hk,tableOk,h1]
def Itb (N:Nat) (f:Nat) (cap:List V) (g:Nat→Bool) (e:Nat) (s:S):Prop:=∃ w:Nat,s.tm 1=.v (.fn f cap)∧s.tm 8=.v (.int .i64 N)∧s.tm 9=.v (.int .i64 w)∧s.tm 5=.v (.int .i64 (tabN w g))∧w≤N∧(e=1→w=N)
theorem tableBy_fn (p:Nat) (hp1:1≤p) (hp4:p≤4) (f:Nat) (cap:List V) (g:Nat→Bool) (hg:∀ w:Nat,w<2 ^ p→FnZ Tryz.prog f (.int .i64 (w:Int) :: cap) (.bool (g w))):FnZ Tryz.prog 119 [.int .i64 p,.fn f cap] (.int .i64 (tabN (2 ^ p) g)):=by
 have hN:2 ^ p≤16:=by
  have:p=1∨p=2∨p=3∨p=4:=by omega
  rcases this with rfl | rfl | rfl | rfl <;> simp
 have ws:IntKind.wrap .i64 (2 ^ min p IntKind.i64.bits)=((2 ^ p:Nat):Int):=by
  have:p=1∨p=2∨p=3∨p=4:=by omega
  rcases this with rfl | rfl | rfl | rfl <;> rfl
 generalize hNN:2 ^ p=N at *
 refine FZ (rs:=[.tmp 4]) false Tryz.func119 ?_
 have hp0:¬(p:Int)<0:=by omega
 simp -dsimp [ws,hp0]
 refine twp_loopC (Itb N f cap g 0) (fun s=>N-natOf (s.tm 9)) (Itb N f cap g 1) ?_ ?_ ?_
 ·exact ⟨0,by simp -dsimp,by simp -dsimp,by simp -dsimp,by simp -dsimp [tabN],by omega,by simp⟩
 ·rintro s ⟨w,t1,t8,t9,t5,hw,hend⟩
  by_cases hlt:w<N
  case neg =>
   simp -dsimp [t8,t9,hlt]
   exact ⟨w,by simp -dsimp [t1],by simp -dsimp [t8],by simp -dsimp [t9],by simp -dsimp [t5],hw,fun _=>by omega⟩
  have wi:IntKind.wrap .i64 ((w:Int)+1)=((w+1:Nat):Int):=by rw [w64 (by omega) (by omega)]; omega
  have hmu:N-(w+1)<N-w:=by omega
  have hb:=tabN_lt g w
  have hp:2 ^ w≤2 ^ 16:=Nat.pow_le_pow_right (by omega) (by omega)
  have h2:(2:Nat) ^ w<4611686018427387904:=by omega
  have wsh:IntKind.wrap .i64 (2 ^ min w IntKind.i64.bits)=((2 ^ w:Nat):Int):=by
   rw [Nat.min_eq_left (by simp [IntKind.bits]; omega),w64]
   ·simp
   ·have:(0:Int)≤2 ^ w:=Int.pow_nonneg (by omega)
    omega
   ·have:((2 ^ w:Nat):Int)=(2:Int) ^ w:=by simp
    omega
  have hor:=or_ni (a:=tabN w g) (b:=2 ^ w) (x:=(2:Int) ^ w) (by simp) (by omega) h2
  simp -dsimp [t1,t8,t9,hlt]
  refine call_ (hg w hlt) (by simpa using mapO_pure _ _ (.int .i64 w :: cap)) ?_
  have hgw:=ft (g w)
  rcases hgw with hgw | hgw
  ·have ht:tabN (w+1) g=tabN w g:=by simp [tabN,hgw]
   simp -dsimp [hgw,t5,t9,wi,hmu]
   exact ⟨w+1,by simp -dsimp [t1],by simp -dsimp [t8],by simp -dsimp,by simp -dsimp [t5,ht],by omega,by simp⟩
  ·have ht:tabN (w+1) g=tabN w g ||| 2 ^ w:=by simp [tabN,hgw]
   simp -dsimp [hgw,t5,t9,wi,hmu,wsh,hor,show ¬(w:Int)<0 by omega]
   exact ⟨w+1,by simp -dsimp [t1],by simp -dsimp [t8],by simp -dsimp,by simp -dsimp [ht],by omega,by simp⟩
 ·rintro s ⟨w,t1,t8,t9,t5,hw,hend⟩
  have:=hend rfl
  subst this
  simp -dsimp [t5]
end TL

namespace TL
open Go Go.Proofs
attribute [local simp] marksV storyV codeV Claim.v Place.v
def sameKind (who whom:Nat) (yes:Bool) (w:Nat):Bool:=(w.testBit who == w.testBit whom) == yes
@[simp] theorem bor_ptr (m:Mem) (d id:Nat):bor true m (d+1) (.ptr id 0)=match m id with
  | some (.box _ _ cs)=>obind (mapO (bor true m d) cs) fun xs=>tst (∀ x ∈ xs,x.cell=true) (some (.ref xs))
  | _=>none:=by
 conv=>lhs; unfold bor
 simp only [if_true]
 cases m id with
 | none=>rfl
 | some b=>cases b <;> rfl
theorem shr_nat (w i:Nat) (hi:i<60):(w:Int).fdiv (2 ^ min i IntKind.i64.bits)=((w / 2 ^ i:Nat):Int):=by
 have e:min i IntKind.i64.bits=i:=Nat.min_eq_left (by simp [IntKind.bits]; omega)
 have e2:((2 ^ i:Nat):Int)=(2:Int) ^ i:=by simp
 rw [e,← e2,Int.fdiv_eq_ediv_of_nonneg _ (Int.natCast_nonneg _)]
 rfl
theorem div_bit (w i:Nat):w / 2 ^ i % 2=if w.testBit i then 1 else 0:=by
 rw [Nat.testBit_eq_decide_div_mod_eq]
 have:=Nat.mod_two_eq_zero_or_one (w / 2 ^ i)
 rcases this with h | h <;> simp [h]
theorem bit1 (w i:Nat) (hw:w<4611686018427387904) (hi:i<60):IntKind.wrap .i64 ((((w:Int).fdiv (2 ^ min i IntKind.i64.bits) % 2 ^ IntKind.i64.bits).toNat &&& 1 % 2 ^ IntKind.i64.bits:Nat):Int)=if w.testBit i then 1 else 0:=by
 rw [shr_nat w i hi]
 have h1:w / 2 ^ i≤w:=Nat.div_le_self _ _
 have e1:(((w / 2 ^ i:Nat):Int) % 2 ^ IntKind.i64.bits).toNat=w / 2 ^ i:=by
  generalize w / 2 ^ i=q at *
  simp only [IntKind.bits]; omega
 have e2:1 % 2 ^ IntKind.i64.bits=1:=by rfl
 rw [e1,e2,Nat.and_one_is_mod,div_bit]
 split <;> rfl
theorem bit2 (w i:Nat) (hi:i<60):((w:Int).fdiv (2 ^ min i IntKind.i64.bits)).tmod 2=if w.testBit i then 1 else 0:=by
 rw [shr_nat w i hi,Int.tmod_eq_emod_of_nonneg (Int.natCast_nonneg _)]
 have:((w / 2 ^ i:Nat):Int) % 2=((w / 2 ^ i % 2:Nat):Int):=by omega
 rw [this,div_bit]
 split <;> rfl
theorem asked1_fn (w who whom:Nat) (yes:Bool) (hw:w<16) (h1:who<4) (h2:whom<4):FnZ Tryz.prog 196 [.int .i64 w,.ref [.int .i64 who],.ref [.int .i64 whom],.ref [.bool yes]] (.bool (sameKind who whom yes w)):=by
 have z1:¬(who:Int)<0:=by omega
 have z2:¬(whom:Int)<0:=by omega
 refine FZ (rs:=[.tmp 5]) false Tryz.func196 ?_
 simp -dsimp
 refine twd (List.range 12) [] (List.replicate 12 []) (List.replicate 12 []) ?_
 simp -dsimp [List.range_succ,z1,z2]
 rw [bit1 w who (by omega) (by omega),bit1 w whom (by omega) (by omega)]
 unfold sameKind
 cases w.testBit who <;> cases w.testBit whom <;> simp
/-- The table of the worlds in which one says of another one so. -/
def askMask (p who whom:Nat) (yes:Bool):Nat:=tabN (2 ^ p) (sameKind who whom yes)
def asked (people t who whom:Int) (yes:Bool):Int :=
 if tableOk people t=true∧0≤who∧who<people∧0≤whom∧whom<people then ((t.toNat &&& askMask people.toNat who.toNat whom.toNat yes:Nat):Int) else -1
theorem tableOk_spec {people t:Int} (h:tableOk people t=true):∃ p n:Nat,people=p∧t=n∧1≤p∧p≤4∧n<2 ^ 2 ^ p:=by
 simp only [tableOk,peopleOk,Bool.and_eq_true,decide_eq_true_eq] at h
 obtain ⟨⟨⟨h1,h2⟩,h3⟩,h4⟩:=h
 refine ⟨people.toNat,t.toNat,by omega,by omega,by omega,by omega, ?_⟩
 generalize people.toNat=p at *
 have e:((2 ^ 2 ^ p:Nat):Int)=(2:Int) ^ 2 ^ p:=by simp
 rw [← e] at h4; omega
theorem table_small {p n:Nat} (hp:p≤4) (h:n<2 ^ 2 ^ p):n<65536:=by
 have:2 ^ p≤2 ^ 4:=Nat.pow_le_pow_right (by omega) hp
 have:2 ^ 2 ^ p≤2 ^ 2 ^ 4:=Nat.pow_le_pow_right (by omega) this
 have:(2:Nat) ^ 2 ^ 4=65536:=by decide
 omega
theorem asked_fn (people t who whom:Int) (yes:Bool):FnZ Tryz.prog 163 [.int .i64 people,.int .i64 t,.int .i64 who,.int .i64 whom,.bool yes] (.int .i64 (asked people t who whom yes)):=by
 have hk:=ft (tableOk people t)
 rcases hk with hk | hk
 ·have e:asked people t who whom yes = -1:=by unfold asked; rw [if_neg (by simp [hk])]
  refine FZ (rs:=[.tmp 10]) false Tryz.func163 ?_
  simp -dsimp
  refine cl (tableOk_fn people t) ?_
  simp -dsimp [hk,e]
 by_cases c1:0≤who
 case neg =>
  have e:asked people t who whom yes = -1:=by unfold asked; rw [if_neg (by omega)]
  have c1':who<0:=by omega
  refine FZ (rs:=[.tmp 10]) false Tryz.func163 ?_
  simp -dsimp
  refine cl (tableOk_fn people t) ?_
  simp -dsimp [hk,e,c1']
 have c1':¬who<0:=by omega
 by_cases c2:who<people
 case neg =>
  have e:asked people t who whom yes = -1:=by unfold asked; rw [if_neg (by omega)]
  have c2':people≤who:=by omega
  refine FZ (rs:=[.tmp 10]) false Tryz.func163 ?_
  simp -dsimp
  refine cl (tableOk_fn people t) ?_
  simp -dsimp [hk,e,c1',c2']
 have c2':¬people≤who:=by omega
 by_cases c3:0≤whom
 case neg =>
  have e:asked people t who whom yes = -1:=by unfold asked; rw [if_neg (by omega)]
  have c3':whom<0:=by omega
  refine FZ (rs:=[.tmp 10]) false Tryz.func163 ?_
  simp -dsimp
  refine cl (tableOk_fn people t) ?_
  simp -dsimp [hk,e,c1',c2',c3']
 have c3':¬whom<0:=by omega
 by_cases c4:whom<people
 case neg =>
  have e:asked people t who whom yes = -1:=by unfold asked; rw [if_neg (by omega)]
  have c4':people≤whom:=by omega
  refine FZ (rs:=[.tmp 10]) false Tryz.func163 ?_
  simp -dsimp
  refine cl (tableOk_fn people t) ?_
  simp -dsimp [hk,e,c1',c2',c3',c4']
 have c4':¬people≤whom:=by omega
 obtain ⟨p,n,rfl,rfl,hp1,hp4,hn⟩:=tableOk_spec hk
 obtain ⟨a,rfl⟩:=Int.eq_ofNat_of_zero_le c1
 obtain ⟨b,rfl⟩:=Int.eq_ofNat_of_zero_le c3
 have hN:2 ^ p≤2 ^ 4:=Nat.pow_le_pow_right (by omega) hp4
 have e:asked p n a b yes=((n &&& askMask p a b yes:Nat):Int):=by unfold asked; rw [if_pos (by exact ⟨hk,by omega,by omega,by omega,by omega⟩)]; rfl
 have hm:askMask p a b yes<65536:=table_small hp4 (tabN_lt _ _)
 have hn':=table_small hp4 hn
 have hand:=and_nn (a:=n) (b:=askMask p a b yes) (by omega) (by omega)
 unfold askMask at hand e
 refine FZ (rs:=[.tmp 10]) false Tryz.func163 ?_
 simp -dsimp
 refine cl (tableOk_fn p n) ?_
 simp -dsimp [hk,c1',c2',c3',c4']
 refine callM_ (tableBy_fn p hp1 hp4 196 [.ref [.int .i64 a],.ref [.int .i64 b],.ref [.bool yes]] (sameKind a b yes) fun w hw=>asked1_fn w a b yes (by omega) (by omega) (by omega)) (by simp -dsimp) rfl ?_
 simp -dsimp [hand,e]
end TL

namespace TL
open Go Go.Proofs
attribute [local simp] marksV storyV codeV Claim.v Place.v
theorem tableOkS_fn (people t:Int):FnZ Tryz.prog 125 [.int .i64 people,.int .i64 t] (.bool (tableOk people t)):=by
 have hpk:inR people 1 4=peopleOk people:=rfl
 have hk:=ft (peopleOk people)
 rcases hk with hk | hk
 ·refine FZ (rs:=[.tmp 4]) false Tryz.func125 ?_
  simp -dsimp
  refine cl (l1In_fn people 1 4) ?_
  simp -dsimp [hk,hpk,tableOk]
 ·have h2:people=1∨people=2∨people=3∨people=4:=by simp [peopleOk] at hk; omega
  rcases h2 with rfl | rfl | rfl | rfl
  ·have e:inR t 0 3=tableOk 1 t:=by rw [Bool.eq_iff_iff,inR_true]; simp [tableOk,hk]; omega
   refine FZ (rs:=[.tmp 4]) false Tryz.func125 ?_
   simp -dsimp
   refine cl (l1In_fn 1 1 4) ?_
   simp -dsimp [hk,hpk,show IntKind.wrap .u64 (2 ^ min 1 IntKind.u64.bits)=2 from rfl,show IntKind.wrap .u64 (2 ^ min 2 IntKind.u64.bits)=4 from rfl,show IntKind.wrap .u64 (2 ^ min 3 IntKind.u64.bits)=8 from rfl,show IntKind.wrap .u64 (2 ^ min 4 IntKind.u64.bits)=16 from rfl,show IntKind.wrap .i64 (2 ^ min 2 IntKind.i64.bits)=4 from rfl,show IntKind.wrap .i64 (2 ^ min 4 IntKind.i64.bits)=16 from rfl,show IntKind.wrap .i64 (2 ^ min 8 IntKind.i64.bits)=256 from rfl,show IntKind.wrap .i64 (2 ^ min 16 IntKind.i64.bits)=65536 from rfl,show IntKind.wrap .i64 3=3 from rfl]
   refine cl (l1In_fn t 0 3) ?_
   simp -dsimp [e]
  ·have e:inR t 0 15=tableOk 2 t:=by rw [Bool.eq_iff_iff,inR_true]; simp [tableOk,hk]; omega
   refine FZ (rs:=[.tmp 4]) false Tryz.func125 ?_
   simp -dsimp
   refine cl (l1In_fn 2 1 4) ?_
   simp -dsimp [hk,hpk,show IntKind.wrap .u64 (2 ^ min 1 IntKind.u64.bits)=2 from rfl,show IntKind.wrap .u64 (2 ^ min 2 IntKind.u64.bits)=4 from rfl,show IntKind.wrap .u64 (2 ^ min 3 IntKind.u64.bits)=8 from rfl,show IntKind.wrap .u64 (2 ^ min 4 IntKind.u64.bits)=16 from rfl,show IntKind.wrap .i64 (2 ^ min 2 IntKind.i64.bits)=4 from rfl,show IntKind.wrap .i64 (2 ^ min 4 IntKind.i64.bits)=16 from rfl,show IntKind.wrap .i64 (2 ^ min 8 IntKind.i64.bits)=256 from rfl,show IntKind.wrap .i64 (2 ^ min 16 IntKind.i64.bits)=65536 from rfl,show IntKind.wrap .i64 15=15 from rfl]
   refine cl (l1In_fn t 0 15) ?_
   simp -dsimp [e]
  ·have e:inR t 0 255=tableOk 3 t:=by rw [Bool.eq_iff_iff,inR_true]; simp [tableOk,hk]; omega
   refine FZ (rs:=[.tmp 4]) false Tryz.func125 ?_
   simp -dsimp
   refine cl (l1In_fn 3 1 4) ?_
   simp -dsimp [hk,hpk,show IntKind.wrap .u64 (2 ^ min 1 IntKind.u64.bits)=2 from rfl,show IntKind.wrap .u64 (2 ^ min 2 IntKind.u64.bits)=4 from rfl,show IntKind.wrap .u64 (2 ^ min 3 IntKind.u64.bits)=8 from rfl,show IntKind.wrap .u64 (2 ^ min 4 IntKind.u64.bits)=16 from rfl,show IntKind.wrap .i64 (2 ^ min 2 IntKind.i64.bits)=4 from rfl,show IntKind.wrap .i64 (2 ^ min 4 IntKind.i64.bits)=16 from rfl,show IntKind.wrap .i64 (2 ^ min 8 IntKind.i64.bits)=256 from rfl,show IntKind.wrap .i64 (2 ^ min 16 IntKind.i64.bits)=65536 from rfl,show IntKind.wrap .i64 255=255 from rfl]
   refine cl (l1In_fn t 0 255) ?_
   simp -dsimp [e]
  ·have e:inR t 0 65535=tableOk 4 t:=by rw [Bool.eq_iff_iff,inR_true]; simp [tableOk,hk]; omega
   refine FZ (rs:=[.tmp 4]) false Tryz.func125 ?_
   simp -dsimp
   refine cl (l1In_fn 4 1 4) ?_
   simp -dsimp [hk,hpk,show IntKind.wrap .u64 (2 ^ min 1 IntKind.u64.bits)=2 from rfl,show IntKind.wrap .u64 (2 ^ min 2 IntKind.u64.bits)=4 from rfl,show IntKind.wrap .u64 (2 ^ min 3 IntKind.u64.bits)=8 from rfl,show IntKind.wrap .u64 (2 ^ min 4 IntKind.u64.bits)=16 from rfl,show IntKind.wrap .i64 (2 ^ min 2 IntKind.i64.bits)=4 from rfl,show IntKind.wrap .i64 (2 ^ min 4 IntKind.i64.bits)=16 from rfl,show IntKind.wrap .i64 (2 ^ min 8 IntKind.i64.bits)=256 from rfl,show IntKind.wrap .i64 (2 ^ min 16 IntKind.i64.bits)=65536 from rfl,show IntKind.wrap .i64 65535=65535 from rfl]
   refine cl (l1In_fn t 0 65535) ?_
   simp -dsimp [e]
def Ia13 (N n who whom:Nat) (people:Int) (yes:Bool) (g:Nat→Bool) (e:Nat) (s:S):Prop:=∃ w:Nat,s.tm 0=.v (.int .i64 people)∧s.tm 1=.v (.int .i64 n)∧s.tm 2=.v (.int .i64 who)∧s.tm 3=.v (.int .i64 whom)∧s.tm 4=.v (.bool yes)∧s.tm 12=.v (.int .i64 w)∧s.tm 11=.v (.int .i64 (tabN w g))∧w≤N∧(e=1→w=N)
theorem shl_fact {w:Nat} (h:w<60):IntKind.wrap .i64 (2 ^ min w IntKind.i64.bits)=(2:Int) ^ w:=by
 have h1:(2:Nat) ^ w≤2 ^ 59:=Nat.pow_le_pow_right (by omega) (by omega)
 have e:((2 ^ w:Nat):Int)=(2:Int) ^ w:=by simp
 have h3:=Int.natCast_nonneg (2 ^ w)
 have h4:((2 ^ w:Nat):Int)≤((2 ^ 59:Nat):Int):=Int.ofNat_le.mpr h1
 rw [Nat.min_eq_left (by simp [IntKind.bits]; omega),← e]
 generalize ((2 ^ w:Nat):Int)=q at *
 rw [w64 (by omega) (by omega)]
theorem l13Asked_fn (p n who whom:Nat) (yes:Bool) (hp1:1≤p) (hp4:p≤4) (hn:n<65536) (h1:who<4) (h2:whom<4) :
  FnZ Tryz.prog 175 [.int .i64 p,.int .i64 n,.int .i64 who,.int .i64 whom,.bool yes] (.int .i64 (tabN (2 ^ p) fun w=>n.testBit w && sameKind who whom yes w)):=by
 have hN:2 ^ p≤16:=by
  have:p=1∨p=2∨p=3∨p=4:=by omega
  rcases this with rfl | rfl | rfl | rfl <;> simp
 have ws:IntKind.wrap .i64 (2 ^ min p IntKind.i64.bits)=((2 ^ p:Nat):Int):=by rw [shl_fact (by omega)]; simp
 generalize hg:(fun w=>n.testBit w && sameKind who whom yes w)=g
 generalize hNN:2 ^ p=N at *
 have hp0:¬(p:Int)<0:=by omega
 have z1:¬(who:Int)<0:=by omega
 have z2:¬(whom:Int)<0:=by omega
 refine FZ (rs:=[.tmp 10]) false Tryz.func175 ?_
 simp -dsimp
 refine twp_loopC (Ia13 N n who whom p yes g 0) (fun s=>N-natOf (s.tm 12)) (Ia13 N n who whom p yes g 1) ?_ ?_ ?_
 ·exact ⟨0,by simp -dsimp,by simp -dsimp,by simp -dsimp,by simp -dsimp,by simp -dsimp,by simp -dsimp,by simp -dsimp [tabN],by omega,by simp⟩
 ·rintro s ⟨w,t0,t1,t2,t3,t4,t12,t11,hw,hend⟩
  by_cases hlt:w<N
  case neg =>
   simp -dsimp [t0,t12,hp0,ws,hlt]
   exact ⟨w,by simp -dsimp [t0],by simp -dsimp [t1],by simp -dsimp [t2],by simp -dsimp [t3],by simp -dsimp [t4],by simp -dsimp [t12],by simp -dsimp [t11],hw,fun _=>by omega⟩
  have wi:IntKind.wrap .i64 ((w:Int)+1)=((w+1:Nat):Int):=by rw [w64 (by omega) (by omega)]; omega
  have hmu:N-(w+1)<N-w:=by omega
  have z3:¬(w:Int)<0:=by omega
  have b0:=bit2 n w (by omega)
  have b1:=bit2 w who (by omega)
  have b2:=bit2 w whom (by omega)
  have hb:=tabN_lt g w
  have hp:2 ^ w≤2 ^ 16:=Nat.pow_le_pow_right (by omega) (by omega)
  have h2':(2:Nat) ^ w<4611686018427387904:=by omega
  have wsh:=shl_fact (w:=w) (by omega)
  have hor:=or_ni (a:=tabN w g) (b:=2 ^ w) (x:=(2:Int) ^ w) (by simp) (by omega) h2'
  have hgw:g w=(n.testBit w && sameKind who whom yes w):=by rw [← hg]
  have fin:∀ s':S,s'.tm 0=.v (.int .i64 p)→s'.tm 1=.v (.int .i64 n)→s'.tm 2=.v (.int .i64 who)→s'.tm 3=.v (.int .i64 whom)→s'.tm 4=.v (.bool yes)→s'.tm 12=.v (.int .i64 (w+1:Nat))→s'.tm 11=.v (.int .i64 (tabN (w+1) g))→Ia13 N n who whom p yes g 0 s':=fun s' a b c d e f h=>⟨w+1,a,b,c,d,e,f,h,by omega,by simp⟩
  have hno:g w=false→tabN (w+1) g=tabN w g:=fun h=>by simp [tabN,h]
  have hyes:g w=true→tabN (w+1) g=tabN w g ||| 2 ^ w:=fun h=>by simp [tabN,h]
  simp -dsimp [t0,t12,hp0,ws,hlt]
  refine twd (List.range 18) [] (List.replicate 18 []) (List.replicate 18 []) ?_
  have c0:=ft (n.testBit w)
  rcases c0 with c0 | c0
  ·rw [c0] at b0 hgw
   have hno:=hno (by rw [hgw]; rfl)
   simp -dsimp [List.range_succ,t0,t1,t2,t3,t4,t12,z1,z2,z3,b0,wi,hmu]
   exact fin _ (by simp -dsimp [t0]) (by simp -dsimp [t1]) (by simp -dsimp [t2]) (by simp -dsimp [t3]) (by simp -dsimp [t4]) (by simp -dsimp) (by simp -dsimp [t11,hno])
  ·rw [c0] at b0 hgw
   have hsk:sameKind who whom yes w=((decide ((if w.testBit who=true then (1:Int) else 0)=if w.testBit whom=true then 1 else 0)) == yes):=by
    unfold sameKind; cases w.testBit who <;> cases w.testBit whom <;> simp
   have c1:=ft (sameKind who whom yes w)
   rcases c1 with c1 | c1
   ·have hno:=hno (by rw [hgw,c1]; rfl)
    rw [hsk] at c1
    simp -dsimp [List.range_succ,t0,t1,t2,t3,t4,t12,z1,z2,z3,b0,b1,b2,c1,wi,hmu]
    exact fin _ (by simp -dsimp [t0]) (by simp -dsimp [t1]) (by simp -dsimp [t2]) (by simp -dsimp [t3]) (by simp -dsimp [t4]) (by simp -dsimp) (by simp -dsimp [t11,hno])
   ·have hyes:=hyes (by rw [hgw,c1]; rfl)
    rw [hsk] at c1
    simp -dsimp [List.range_succ,t0,t1,t2,t3,t4,t11,t12,z1,z2,z3,b0,b1,b2,c1,wi,hmu,wsh,hor]
    exact fin _ (by simp -dsimp [t0]) (by simp -dsimp [t1]) (by simp -dsimp [t2]) (by simp -dsimp [t3]) (by simp -dsimp [t4]) (by simp -dsimp) (by simp -dsimp [hyes])
 ·rintro s ⟨w,t0,t1,t2,t3,t4,t12,t11,hw,hend⟩
  have:=hend rfl
  subst this
  simp -dsimp [t11]
end TL

namespace TL
open Go Go.Proofs
attribute [local simp] marksV storyV codeV Claim.v Place.v
/-- How many bits are set. -/
def cnt (n:Nat):Nat:=if h:n=0 then 0 else n % 2+cnt (n / 2)
theorem cnt_step {n:Nat} (h:0<n):cnt n=n % 2+cnt (n / 2):=by rw [cnt,dif_neg (by omega)]
theorem cnt_zero:cnt 0=0:=by rw [cnt]; rfl
def Ihd (w:Nat) (e:Nat) (s:S):Prop:=∃ x q:Nat,s.tm 0=.v (.int .i64 x)∧s.tm 3=.v (.int .i64 q)∧q+cnt x=cnt w∧q+x≤w∧(e=1→x=0)
theorem l1Heads_fn (w:Nat) (hw:w<4611686018427387904):FnZ Tryz.prog 85 [.int .i64 w] (.int .i64 (cnt w)):=by
 refine FZ (rs:=[.tmp 2]) false Tryz.func85 ?_
 simp -dsimp
 refine twp_loopC (Ihd w 0) (fun s=>natOf (s.tm 0)) (Ihd w 1) ?_ ?_ ?_
 ·exact ⟨w,0,by simp -dsimp,by simp -dsimp,by omega,by omega,by simp⟩
 ·rintro s ⟨x,q,t0,t3,hq,hx,hend⟩
  by_cases h0:0<x
  case neg =>
   simp -dsimp [t0,h0]
   exact ⟨x,q,by simp -dsimp [t0],by simp -dsimp [t3],hq,hx,fun _=>by omega⟩
  have e1:(x:Int).tmod 2=((x % 2:Nat):Int):=by rw [Int.tmod_eq_emod_of_nonneg (by omega)]; omega
  have e2:(x:Int).tdiv 2=((x / 2:Nat):Int):=by rw [Int.tdiv_eq_ediv_of_nonneg (by omega)]; omega
  have hs:=cnt_step h0
  generalize hr:x % 2=r at *
  generalize hy:x / 2=y at *
  have w1:IntKind.wrap .i64 ((q:Int)+r)=((q+r:Nat):Int):=by rw [w64 (by omega) (by omega)]; omega
  have w2:IntKind.wrap .i64 (y:Int)=(y:Int):=by rw [w64 (by omega) (by omega)]
  have hmu:y<x:=by omega
  simp -dsimp [t0,t3,h0,e1,e2,w1,w2,hmu]
  exact ⟨y,q+r,by simp -dsimp,by simp -dsimp,by omega,by omega,by simp⟩
 ·rintro s ⟨x,q,t0,t3,hq,hx,hend⟩
  have:=hend rfl
  subst this
  rw [cnt_zero] at hq
  have:q=cnt w:=by omega
  subst this
  simp -dsimp [t3]
/-- The table in which everybody is the other way. -/
def turned (p n:Nat):Nat:=tabN (2 ^ p) fun j=>n.testBit (2 ^ p-1-j)
end TL

namespace TL
open Go Go.Proofs
attribute [local simp] marksV storyV codeV Claim.v Place.v
theorem cnt_vals:cnt 0=0∧cnt 1=1∧cnt 2=1∧cnt 3=2∧cnt 4=1∧cnt 5=2∧cnt 6=2∧cnt 7=3∧cnt 8=1∧cnt 9=2∧cnt 10=2∧cnt 11=3∧cnt 12=2∧cnt 13=3∧cnt 14=3∧cnt 15=4:=by simp [cnt]
theorem onesCount64_fn (w:Nat) (hw:w<16):FnZ Tryz.prog 205 [.int .u64 w] (.int .i64 (cnt w)):=by
 have h:w=0∨w=1∨w=2∨w=3∨w=4∨w=5∨w=6∨w=7∨w=8∨w=9∨w=10∨w=11∨w=12∨w=13∨w=14∨w=15:=by omega
 rcases h with rfl | rfl | rfl | rfl | rfl | rfl | rfl | rfl | rfl | rfl | rfl | rfl | rfl | rfl | rfl | rfl
 all_goals
  simp only [cnt_vals]
  refine FZ (rs:=[.tmp 2]) false Tryz.func205 ?_
  simp -dsimp
  rfl
theorem onesCount_fn (w:Nat) (hw:w<16):FnZ Tryz.prog 170 [.int .u64 w] (.int .i64 (cnt w)):=by
 have e:IntKind.wrap .u64 (w:Int)=w:=by simp only [IntKind.wrap,IntKind.bits,IntKind.signed]; simp; omega
 refine FZ (rs:=[.tmp 2]) false Tryz.func170 ?_
 simp -dsimp
 refine cl (onesCount64_fn w hw) ?_
 simp -dsimp
/-- What a term's last part is, the parts' answers last one first. -/
def runStep (w:Nat) (m:Mark) (r:List Bool):List Bool :=
 if m.kind=0 then w.testBit m.num.toNat :: r
 else if m.kind=1 then decide (m.num≤cnt w) :: r
 else if m.kind=2 then match r with
  | b :: r=>(!b) :: r
  | []=>[]
 else match r with
  | b :: a :: r=>(if m.kind=3 then a && b else if m.kind=4 then a || b else a == b) :: r
  | _=>[]
def runR (w:Nat) (r:List Bool) (t:List Mark):List Bool:=t.foldl (fun r m=>runStep w m r) r
def truth (t:List Mark) (w:Nat):Bool:=(runR w [] t).headD false
def stkT (l:List Bool):List T:=l.map fun b=>.v (.bool b)
theorem runStep_length {people:Int} {w:Nat} {m:Mark} {r:List Bool} {q:Nat} (h:markStep people r.length m=some q):(runStep w m r).length=q:=by
 unfold markStep at h; unfold runStep
 by_cases k0:m.kind=0
 ·rw [if_pos k0] at h ⊢
  split at h
  ·cases h; simp
  ·cases h
 by_cases k1:m.kind=1
 ·rw [if_neg k0,if_pos k1] at h ⊢
  split at h
  ·cases h; simp
  ·cases h
 by_cases k2:m.kind=2
 ·rw [if_neg k0,if_neg k1,if_pos k2] at h ⊢
  split at h
  ·cases h
   cases r with
   | nil=>simp at *
   | cons b r=>simp
  ·cases h
 rw [if_neg k0,if_neg k1,if_neg k2] at h ⊢
 split at h
 ·split at h
  ·cases h
   match r with
   | []=>simp at *
   | [b]=>simp at *
   | b :: a :: r=>simp
  ·cases h
 ·cases h
/-- The row of answers on the way. -/
def Ihs (people:Int) (w:Nat) (t:List Mark) (e:Nat) (s:S):Prop:=∃ (i id:Nat) (r:List Bool) (cs ex:List T),s.tm 1=.v (.int .i64 w)∧s.tm 12=.v (.sl (t.map Mark.v))∧s.tm 13=.v (.int .i64 t.length)∧s.tm 14=.v (.int .i64 i)∧s.tm 5=.sv id 0 r.length∧s.mu=true ∧
 id<s.n∧s.m id=some (.box 4 1 cs)∧cs=stkT r.reverse++ex∧i≤t.length∧r.length≤i∧marksRun people r.length (t.drop i)=some 1∧runR w r (t.drop i)=runR w [] t∧(e=1→i=t.length)
theorem holds_fn (people:Int) (hp4:people≤4) (t:List Mark) (ht:marksRun people 0 t=some 1) (hl:t.length≤100) (w:Nat) (hw:w<16):FnZ Tryz.prog 121 [marksV t,.int .i64 w] (.bool (truth t w)):=by
 refine FZ (rs:=[.tmp 4]) true Tryz.func121 ?_
 simp -dsimp
 refine twp_loopC (Ihs people w t 0) (fun s=>t.length-natOf (s.tm 14)) (Ihs people w t 1) ?_ ?_ ?_
 ·exact ⟨0,0,[],[],[],by simp -dsimp,by simp -dsimp,by simp -dsimp,by simp -dsimp,by simp -dsimp,by simp -dsimp,by simp -dsimp,by simp -dsimp,by simp [stkT],by omega,by simp,by simpa using ht,by simp,by simp⟩
 ·rintro s ⟨i,id,r,cs,ex,t1,t12,t13,t14,t5,hmu,hid,hm,hcs,hi,hri,hrun,hrr,hend⟩
  by_cases hlt:i<t.length
  case neg =>
   simp -dsimp [t13,t14,hlt]
   exact ⟨i,id,r,cs,ex,by simp -dsimp [t1],by simp -dsimp [t12],by simp -dsimp [t13],by simp -dsimp [t14],by simp -dsimp [t5],by simp -dsimp [hmu],by simp -dsimp; omega,by simp -dsimp [hm],hcs,hi,hri,hrun,hrr,fun _=>by omega⟩
  have hget:(t.map Mark.v)[i]? = some (t[i].v):=by simp [hlt]
  have hdrop:=drop_cons hlt
  rw [hdrop] at hrun hrr
  have wi:IntKind.wrap .i64 ((i:Int)+1)=((i+1:Nat):Int):=by rw [w64 (by omega) (by omega)]; omega
  have hmu1:t.length-(i+1)<t.length-i:=by omega
  simp only [marksRun] at hrun
  have hsl:∀ q,markStep people r.length t[i]=some q→(runStep w t[i] r).length=q:=fun q h=>runStep_length h
  have hrr2:runR w (runStep w t[i] r) (t.drop (i+1))=runR w [] t:=hrr
  have f1:=far hid
  have fin:∀ (s':S) (q id':Nat) (ex':List T),markStep people r.length t[i]=some q→s'.tm 1=.v (.int .i64 w)→s'.tm 12=.v (.sl (t.map Mark.v))→s'.tm 13=.v (.int .i64 t.length)→s'.tm 14=.v (.int .i64 (i+1:Nat))→s'.tm 5=.sv id' 0 q→s'.mu=true →
    id'<s'.n→s'.m id'=some (.box 4 1 (stkT (runStep w t[i] r).reverse++ex'))→Ihs people w t 0 s':=by
   intro s' q id' ex' hq a1 a12 a13 a14 a5 amu aid am
   have:=hsl q hq
   refine ⟨i+1,id',runStep w t[i] r,_,ex',a1,a12,a13,a14,by rw [this]; exact a5,amu,aid,am,rfl,by omega, ?_, ?_,hrr2,by simp⟩
   ·have:=markStep_le hq; omega
   ·rw [this]; rw [hq] at hrun; exact hrun
  have wl:IntKind.wrap .i64 ((r.length:Int)-1)=(r.length:Int)-1:=w64 (by omega) (by omega)
  have b1:r.length+1≤140737488355328:=by omega
  by_cases k0:t[i].kind=0
  ·have hk:markStep people r.length t[i]=some (r.length+1):=by
    unfold markStep at hrun ⊢
    rw [if_pos k0] at hrun ⊢
    split at hrun
    ·rename_i h; rw [if_pos h]
    ·cases hrun
   have hnum:0≤t[i].num∧t[i].num<people:=by
    unfold markStep at hrun
    rw [if_pos k0] at hrun
    split at hrun
    ·assumption
    ·cases hrun
   obtain ⟨a,ha⟩:=Int.eq_ofNat_of_zero_le hnum.1
   have hbit:=bit1 w a (by omega) (by omega)
   have hstep:runStep w t[i] r=w.testBit a :: r:=by simp [runStep,k0,ha]
   have htake:cs.take r.length=stkT r.reverse:=by rw [hcs,List.take_left' (by simp [stkT])]
   have hll:r.length≤cs.length:=by rw [hcs]; simp [stkT]
   simp -dsimp [t5,t12,t13,t14,hlt,hget,hmu,hm,f1,wl,k0,ha,t1,hbit,htake,hll,b1,wi,hmu1,show ¬(a:Int)<0 by omega]
   refine st_out fun s' ht' hm' hn' hu' => ?_
   have q1:=ht' 1
   have q5:=ht' 5
   have q12:=ht' 12
   have q13:=ht' 13
   have q14:=ht' 14
   simp -dsimp [t1,t12,t13] at q1 q5 q12 q13 q14 hm' hn' hu'
   clear ht'
   refine fin s' (r.length+1) _ [] hk q1 q12 q13 q14 q5 (by rw [hu',hmu]) (by omega) ?_
   rw [hstep]; simp [hm',stkT]
  by_cases k1:t[i].kind=1
  ·have hk:markStep people r.length t[i]=some (r.length+1):=by
    unfold markStep at hrun ⊢
    rw [if_neg k0,if_pos k1] at hrun ⊢
    split at hrun
    ·rename_i h; rw [if_pos h]
    ·cases hrun
   have hstep:runStep w t[i] r=decide (t[i].num≤cnt w) :: r:=by simp [runStep,k1]
   have htake:cs.take r.length=stkT r.reverse:=by rw [hcs,List.take_left' (by simp [stkT])]
   have hll:r.length≤cs.length:=by rw [hcs]; simp [stkT]
   have wu:IntKind.wrap .u64 (w:Int)=w:=by simp only [IntKind.wrap,IntKind.bits,IntKind.signed]; simp; omega
   have hc:=onesCount_fn w hw
   simp -dsimp [t5,t12,t13,t14,hlt,hget,hmu,hm,f1,wl,k0,k1,t1]
   refine twd [0,1,2,4,5,3,6,7,8,9] [s.n] (List.replicate 10 [0]) (List.replicate 10 [0]) ?_
   simp -dsimp [List.range_succ,t5,t12,t13,t14,hlt,hget,hmu,hm,f1,wl,k0,k1,t1,wu]
   refine cl hc ?_
   simp -dsimp [t5,t12,t13,t14,hmu,hm,f1,htake,hll,b1,wi,hmu1,nes]
   refine st_out fun s' ht' hm' hn' hu' => ?_
   have q1:=ht' 1
   have q5:=ht' 5
   have q12:=ht' 12
   have q13:=ht' 13
   have q14:=ht' 14
   simp -dsimp [t1,t5,t12,t13] at q1 q5 q12 q13 q14 hm' hn' hu'
   clear ht'
   refine fin s' (r.length+1) _ [] hk q1 q12 q13 q14 q5 (by rw [hu',hmu]) (by omega) ?_
   rw [hstep]; simp [hm',stkT]
  by_cases k2:t[i].kind=2
  ·have hk:markStep people r.length t[i]=some r.length∧1≤r.length:=by
    unfold markStep at hrun ⊢
    rw [if_neg k0,if_neg k1,if_pos k2] at hrun ⊢
    split at hrun
    ·rename_i h; rw [if_pos h]; exact ⟨rfl,h.2⟩
    ·cases hrun
   obtain ⟨hk,h1⟩:=hk
   obtain ⟨b,r0,hr⟩:∃ b r0,r=b :: r0:=by
    cases r with
    | nil=>simp at h1
    | cons b r0=>exact ⟨b,r0,rfl⟩
   obtain ⟨K1,hK1⟩:∃ K1,K1=r0.length:=⟨_,rfl⟩
   have hKr:r.length=K1+1:=by rw [hr,hK1]; rfl
   have hstep:runStep w t[i] r=(!b) :: r0:=by rw [hr]; simp [runStep,k2]
   have g1:cs[K1]? = some (.v (.bool b)):=by rw [hcs,hr,hK1]; simp [stkT]
   have hset:cs.set K1 (.v (.bool !b))=stkT (runStep w t[i] r).reverse++ex:=by
    rw [hstep,hcs,hr,hK1]; simp [stkT]
   have hlc:K1+1≤cs.length:=by rw [hcs,hr,hK1]; simp [stkT]
   have wl:IntKind.wrap .i64 ((r.length:Int)-1)=(K1:Int):=by rw [w64 (by omega) (by omega)]; omega
   have i1:(K1:Int)<r.length:=by omega
   generalize r.length=K at *
   simp -dsimp [t5,t12,t13,t14,hlt,hget,hmu,hm,f1,wl,k0,k1,k2,t1,g1,i1,hset,hlc,wi,hmu1]
   refine st_out fun s' ht' hm' hn' hu' => ?_
   have q1:=ht' 1
   have q5:=ht' 5
   have q12:=ht' 12
   have q13:=ht' 13
   have q14:=ht' 14
   simp -dsimp [t1,t5,t12,t13] at q1 q5 q12 q13 q14 hm' hn' hu'
   clear ht'
   refine fin s' K _ ex hk q1 q12 q13 q14 q5 (by rw [hu',hmu]) (by omega) ?_
   simp [hm']
  have hk:(t[i].kind=3∨t[i].kind=4∨t[i].kind=5)∧markStep people r.length t[i]=some (r.length-1)∧2≤r.length:=by
   unfold markStep at hrun ⊢
   rw [if_neg k0,if_neg k1,if_neg k2] at hrun ⊢
   split at hrun
   ·rename_i hkk
    rw [if_pos hkk]
    split at hrun
    ·rename_i h; rw [if_pos h]; exact ⟨hkk,rfl,h.2⟩
    ·cases hrun
   ·cases hrun
  obtain ⟨hkk,hk,h1⟩:=hk
  obtain ⟨b,a,r0,hr⟩:∃ b a r0,r=b :: a :: r0:=by
   match r,h1 with
   | b :: a :: r0,_=>exact ⟨b,a,r0,rfl⟩
  obtain ⟨K2,hK2⟩:∃ K2,K2=r0.length:=⟨_,rfl⟩
  obtain ⟨K1,hK1⟩:∃ K1,K1=K2+1:=⟨_,rfl⟩
  have hKr:r.length=K1+1:=by rw [hr,hK1,hK2]; rfl
  have hstep:runStep w t[i] r=(if t[i].kind=3 then a && b else if t[i].kind=4 then a || b else a == b) :: r0:=by rw [hr]; simp [runStep,k0,k1,k2]
  have g1:cs[K1]? = some (.v (.bool b)):=by rw [hcs,hr,hK1,hK2]; simp [stkT]
  have g2:cs[K2]? = some (.v (.bool a)):=by rw [hcs,hr,hK2]; simp [stkT]
  have hset:∀ x,(if t[i].kind=3 then a && b else if t[i].kind=4 then a || b else a == b)=x→cs.set K2 (.v (.bool x))=stkT (runStep w t[i] r).reverse++(.v (.bool b) :: ex):=by
   intro x hx
   rw [hstep,hcs,hr,hK2,hx]; simp [stkT]
  have hlc:K2+1≤cs.length:=by rw [hcs,hr,hK2]; simp [stkT]
  have wl:IntKind.wrap .i64 ((r.length:Int)-1)=(K1:Int):=by rw [w64 (by omega) (by omega)]; omega
  have wl2:IntKind.wrap .i64 ((K1:Int)-1)=(K2:Int):=by rw [w64 (by omega) (by omega)]; omega
  have i1:(K1:Int)<r.length:=by omega
  have i2:(K2:Int)<r.length:=by omega
  have i3:(K1:Int)≤r.length:=by omega
  have i4:(K2:Int)<K1:=by omega
  generalize r.length=K at *
  have hk:markStep people K t[i]=some K1:=by rw [hk]; congr 1; omega
  by_cases k3:t[i].kind=3
  ·have ha:=ft a
   rcases ha with ha | ha
   ·have hset:=hset (false) (by rw [if_pos k3,ha]; rfl)
    simp -dsimp [t5,t12,t13,t14,hlt,hget,hmu,hm,f1,wl,wl2,k0,k1,k2,k3,ha,t1]
    refine twd (List.range 11) [id] (List.replicate 11 [0]) (List.replicate 11 [0]) ?_
    simp -dsimp [List.range_succ,t5,t12,t13,t14,hlt,hget,hmu,hm,f1,wl,wl2,k0,k1,k2,k3,ha,t1,g1,g2,i1,i2,i3,i4,hset,hlc,wi,hmu1]
    refine st_out fun s' ht' hm' hn' hu' => ?_
    have q1:=ht' 1
    have q5:=ht' 5
    have q12:=ht' 12
    have q13:=ht' 13
    have q14:=ht' 14
    simp -dsimp [t1,t5,t12,t13] at q1 q5 q12 q13 q14 hm' hn' hu'
    clear ht'
    refine fin s' K1 _ (.v (.bool b) :: ex) hk q1 q12 q13 q14 q5 (by rw [hu',hmu]) (by omega) ?_
    simp [hm']
   ·have hset:=hset (b) (by rw [if_pos k3,ha]; simp)
    simp -dsimp [t5,t12,t13,t14,hlt,hget,hmu,hm,f1,wl,wl2,k0,k1,k2,k3,ha,t1]
    refine twd (List.range 11) [id] (List.replicate 11 [0]) (List.replicate 11 [0]) ?_
    simp -dsimp [List.range_succ,t5,t12,t13,t14,hlt,hget,hmu,hm,f1,wl,wl2,k0,k1,k2,k3,ha,t1,g1,g2,i1,i2,i3,i4,hset,hlc,wi,hmu1]
    refine st_out fun s' ht' hm' hn' hu' => ?_
    have q1:=ht' 1
    have q5:=ht' 5
    have q12:=ht' 12
    have q13:=ht' 13
    have q14:=ht' 14
    simp -dsimp [t1,t5,t12,t13] at q1 q5 q12 q13 q14 hm' hn' hu'
    clear ht'
    refine fin s' K1 _ (.v (.bool b) :: ex) hk q1 q12 q13 q14 q5 (by rw [hu',hmu]) (by omega) ?_
    simp [hm']
  by_cases k4:t[i].kind=4
  ·have ha:=ft a
   rcases ha with ha | ha
   ·have hset:=hset (b) (by rw [if_neg k3,if_pos k4,ha]; simp)
    simp -dsimp [t5,t12,t13,t14,hlt,hget,hmu,hm,f1,wl,wl2,k0,k1,k2,k3,k4,ha,t1]
    refine twd (List.range 11) [id] (List.replicate 11 [0]) (List.replicate 11 [0]) ?_
    simp -dsimp [List.range_succ,t5,t12,t13,t14,hlt,hget,hmu,hm,f1,wl,wl2,k0,k1,k2,k3,k4,ha,t1,g1,g2,i1,i2,i3,i4,hset,hlc,wi,hmu1]
    refine st_out fun s' ht' hm' hn' hu' => ?_
    have q1:=ht' 1
    have q5:=ht' 5
    have q12:=ht' 12
    have q13:=ht' 13
    have q14:=ht' 14
    simp -dsimp [t1,t5,t12,t13] at q1 q5 q12 q13 q14 hm' hn' hu'
    clear ht'
    refine fin s' K1 _ (.v (.bool b) :: ex) hk q1 q12 q13 q14 q5 (by rw [hu',hmu]) (by omega) ?_
    simp [hm']
   ·have hset:=hset (true) (by rw [if_neg k3,if_pos k4,ha]; simp)
    simp -dsimp [t5,t12,t13,t14,hlt,hget,hmu,hm,f1,wl,wl2,k0,k1,k2,k3,k4,ha,t1]
    refine twd (List.range 11) [id] (List.replicate 11 [0]) (List.replicate 11 [0]) ?_
    simp -dsimp [List.range_succ,t5,t12,t13,t14,hlt,hget,hmu,hm,f1,wl,wl2,k0,k1,k2,k3,k4,ha,t1,g1,g2,i1,i2,i3,i4,hset,hlc,wi,hmu1]
    refine st_out fun s' ht' hm' hn' hu' => ?_
    have q1:=ht' 1
    have q5:=ht' 5
    have q12:=ht' 12
    have q13:=ht' 13
    have q14:=ht' 14
    simp -dsimp [t1,t5,t12,t13] at q1 q5 q12 q13 q14 hm' hn' hu'
    clear ht'
    refine fin s' K1 _ (.v (.bool b) :: ex) hk q1 q12 q13 q14 q5 (by rw [hu',hmu]) (by omega) ?_
    simp [hm']
  have hset:=hset (a == b) (by rw [if_neg k3,if_neg k4])
  simp -dsimp [t5,t12,t13,t14,hlt,hget,hmu,hm,f1,wl,wl2,k0,k1,k2,k3,k4,t1]
  refine twd (List.range 11) [id] (List.replicate 11 [0]) (List.replicate 11 [0]) ?_
  simp -dsimp [List.range_succ,t5,t12,t13,t14,hlt,hget,hmu,hm,f1,wl,wl2,k0,k1,k2,k3,k4,t1,g1,g2,i1,i2,i3,i4,hset,hlc,wi,hmu1]
  refine st_out fun s' ht' hm' hn' hu' => ?_
  have q1:=ht' 1
  have q5:=ht' 5
  have q12:=ht' 12
  have q13:=ht' 13
  have q14:=ht' 14
  simp -dsimp [t1,t5,t12,t13] at q1 q5 q12 q13 q14 hm' hn' hu'
  clear ht'
  refine fin s' K1 _ (.v (.bool b) :: ex) hk q1 q12 q13 q14 q5 (by rw [hu',hmu]) (by omega) ?_
  simp [hm']
 ·rintro s ⟨i,id,r,cs,ex,t1,t12,t13,t14,t5,hmu,hid,hm,hcs,hi,hri,hrun,hrr,hend⟩
  have:=hend rfl
  subst this
  rw [List.drop_length] at hrun hrr
  simp only [marksRun,Option.some.injEq] at hrun
  obtain ⟨b,rfl⟩:∃ b,r=[b]:=by
   match r,hrun with
   | [b],_=>exact ⟨b,rfl⟩
  have hb:truth t w=b:=by unfold truth; rw [← hrr]; rfl
  rw [hb]
  simp -dsimp [t5,hm,hcs,stkT]
end TL

namespace TL
open Go Go.Proofs
attribute [local simp] marksV storyV codeV Claim.v Place.v Desk.v
def Il15 (p:Place) (e:Nat) (s:S):Prop:=∃ (i:Nat) (st:T) (z:List T),s.tm 1=.ptr 0 0∧s.tm 2=.ptr 1 0∧s.tm 3=.ptr 2 0∧s.tm 4=.v (.int .i64 i)∧s.mu=false∧i≤p.story.length∧3≤s.n ∧
 s.m 0=some (.box 25 2 [.v (.int .i64 p.people),.v (storyV p.story)])∧s.m 1=some (.box 25 2 z)∧z.length=2∧s.m 2=some (.box 25 2 [.v (.int .i64 p.people),st])∧IsRow s.m 3 s.n 63 st ((p.story.take i).map Claim.v)∧(e=1→i=p.story.length)
theorem l15Place_fn (p:Place) (hp:p.small):FnZ Tryz.prog 67 [p.v] p.v:=by
 have hl:=hp.1
 refine FZ (rs:=[.cell 2 25]) false Tryz.func67 ?_
 simp -dsimp
 refine twp_loopC (Il15 p 0) (fun s=>p.story.length-natOf (s.tm 4)) (Il15 p 1) ?_ ?_ ?_
 ·exact ⟨0,.nil,[.v (.int .i64 0),.nil],by simp -dsimp,by simp -dsimp,by simp -dsimp,by simp -dsimp,by simp -dsimp,by omega,by simp -dsimp,by simp -dsimp,by simp -dsimp,rfl,by simp -dsimp,.inl ⟨rfl,by simp⟩,by simp⟩
 ·rintro s ⟨i,st,z,t1,t2,t3,t4,hmu,hi,hn,m0,m1,hz,m2,hst,hend⟩
  by_cases hlt:i<p.story.length
  case neg =>
   simp -dsimp [t1,t4,m0,hlt]
   exact ⟨i,st,z,by simp -dsimp [t1],by simp -dsimp [t2],by simp -dsimp [t3],by simp -dsimp [t4],by simp -dsimp [hmu],hi,by simp -dsimp; omega,by simp -dsimp [m0],by simp -dsimp [m1],hz,by simp -dsimp [m2],hst,fun _=>by omega⟩
  have hget:(p.story.map Claim.v)[i]? = some (p.story[i].v):=by simp [hlt]
  have wi:IntKind.wrap .i64 ((i:Int)+1)=((i+1:Nat):Int):=by rw [w64 (by omega) (by omega)]; omega
  have hmu1:p.story.length-(i+1)<p.story.length-i:=by omega
  have f0:=far (show 0<s.n by omega)
  have f1:=far (show 1<s.n by omega)
  have f2:=far (show 2<s.n by omega)
  have hsm:=hp.2 p.story[i] (List.getElem_mem _)
  unfold Claim.small at hsm
  have b0:p.story[i].says.length * 16≤140737488355328:=by omega
  have b1:(min i p.story.length+1) * 32≤140737488355328:=by omega
  have htk:(p.story.take (i+1)).map Claim.v=(p.story.take i).map Claim.v++[p.story[i].v]:=by rw [List.take_succ_eq_append_getElem hlt,List.map_append]; rfl
  simp -dsimp [t1,t4,m0,hlt]
  refine twd [0,1,2,3,4,5,6,7,9,10,11,12,13,14,8,15,16,17,18,19,20] [0,2] (List.replicate 21 [0,1]) (List.replicate 20 [0,1]++[[0]]) ?_
  rcases hst with ⟨rfl,hs0⟩ | ⟨id,rfl,hi0,hi1,him⟩
  ·simp -dsimp [t1,t3,t4,m0,m2,hlt,hget,hmu,nes,f0,f1,f2,b0,wi,hmu1]
   have hi00:i=0:=by
    simp at hs0; rcases hs0 with h | h
    ·exact h
    ·rw [h] at hlt; simp at hlt
   subst hi00
   refine st_out fun s' ht hm' hn' hu' => ?_
   have q1:=ht 1
   have q2:=ht 2
   have q3:=ht 3
   have q4:=ht 4
   simp -dsimp [t1,t2,t3] at q1 q2 q3 q4 hm' hn' hu'
   clear ht
   have hn0:¬s.n=0:=by omega
   have hn1:¬s.n=1:=by omega
   refine ⟨1,.loc (s.n+1+1+1),z,q1,q2,q3,q4,by rw [hu',hmu],by omega,by omega,by simp [hm',hn0,hn1,f0,m0],by simp [hm',hn0,hn1,f1,m1],hz,by simp [hm',hn0,hn1],.inr ⟨s.n+1+1+1,rfl,by omega,by omega, ?_⟩,by simp⟩
   rw [htk]; simp [hm',hn0,hn1,f2]
  ·have g1:=far hi1
   have g2:¬id=2:=by omega
   have g0:¬id=0:=by omega
   have g3:¬id=1:=by omega
   simp -dsimp [t1,t3,t4,m0,m2,hlt,hget,hmu,nes,f0,f1,f2,b0,b1,g1,g2,g0,g3,Ne.symm g0,Ne.symm g2,Ne.symm g3,him,wi,hmu1]
   refine st_out fun s' ht hm' hn' hu' => ?_
   have q1:=ht 1
   have q2:=ht 2
   have q3:=ht 3
   have q4:=ht 4
   simp -dsimp [t1,t2,t3] at q1 q2 q3 q4 hm' hn' hu'
   clear ht
   have hn0:¬s.n=0:=by omega
   have hn1:¬s.n=1:=by omega
   refine ⟨i+1,.loc (s.n+1+1+1),z,q1,q2,q3,q4,by rw [hu',hmu],by omega,by omega,by simp [hm',hn0,hn1,f0,m0,Ne.symm g0],by simp [hm',hn0,hn1,f1,m1,Ne.symm g3],hz,by simp [hm',hn0,hn1],.inr ⟨s.n+1+1+1,rfl,by omega,by omega, ?_⟩,by simp⟩
   rw [htk]; simp [hm',hn0,hn1,f2,nes]
 ·rintro s ⟨i,st,z,t1,t2,t3,t4,hmu,hi,hn,m0,m1,hz,m2,hst,hend⟩
  have:=hend rfl
  subst this
  rw [List.take_length] at hst
  obtain ⟨z0,z1,rfl⟩:∃ a b,z=[a,b]:=by
   match z,hz with
   | [a,b],_=>exact ⟨a,b,rfl⟩
  rcases hst with ⟨rfl,hs0⟩ | ⟨id,rfl,hi0,hi1,him⟩
  ·simp -dsimp [t2,t3,m1,m2,hs0]
  ·have g3:¬id=1:=by omega
   simp -dsimp [t2,t3,m1,m2,him,g3]
def deskNew (p:Place):Desk:=if placeOk p then ⟨p,[]⟩ else noDeskV
end TL

namespace TL
open Go Go.Proofs
/-- Whether a claim may be made in a world. -/
def mayB (c:Claim) (w:Nat):Bool:=truth c.says w == w.testBit c.who.toNat
def claimTab (p:Nat) (c:Claim):Nat:=tabN (2 ^ p) (mayB c)
def storyTab (p:Nat) (l:List Claim):Nat:=l.foldl (fun t c=>t &&& claimTab p c) (2 ^ 2 ^ p-1)
theorem testBit_fold (p i:Nat):∀ (l:List Claim) (t:Nat),(l.foldl (fun t c=>t &&& claimTab p c) t).testBit i=(t.testBit i && l.all fun c=>(claimTab p c).testBit i)
 | [],t=>by simp
 | c :: l,t=>by
  rw [List.foldl_cons,testBit_fold p i l,Nat.testBit_and,List.all_cons,Bool.and_assoc]
theorem testBit_story (p i:Nat) (l:List Claim):(storyTab p l).testBit i=(decide (i<2 ^ p) && l.all fun c=>mayB c i):=by
 unfold storyTab claimTab
 have h:=testBit_fold p i l (2 ^ 2 ^ p-1)
 unfold claimTab at h
 rw [h,Nat.testBit_two_pow_sub_one]
 by_cases hi:i<2 ^ p
 ·simp only [testBit_tabN,hi,decide_true,Bool.true_and]
 ·simp [hi]
theorem storyTab_le (p:Nat) (l:List Claim):storyTab p l<2 ^ 2 ^ p:=Nat.lt_pow_two_of_testBit _ fun i hi=>by
 rw [testBit_story]
 have:¬i<2 ^ p:=by omega
 simp [this]
/-- What is left of a story if each claim is left out that is not needed. -/
def leastGo (p:Nat):Nat→Nat→List Claim→List Claim
 | 0,_,l=>l
 | f+1,i,l=>if i<l.length then (if storyTab p (l.eraseIdx i)=storyTab p l then leastGo p f i (l.eraseIdx i) else leastGo p f (i+1) l) else l
def least (p:Nat) (l:List Claim):List Claim:=leastGo p l.length 0 l
theorem leastGo_sub (p:Nat):∀ f i l,(leastGo p f i l).Sublist l
 | 0,_,_=>List.Sublist.refl _
 | f+1,i,l=>by
  unfold leastGo
  split
  ·split
   ·exact (leastGo_sub p f _ _).trans (List.eraseIdx_sublist _ _)
   ·exact leastGo_sub p f _ _
  ·exact List.Sublist.refl _
theorem least_sub (p:Nat) (l:List Claim):(least p l).Sublist l:=leastGo_sub ..
theorem leastGo_end {p f i:Nat} {l:List Claim} (hf:f=l.length-i) (h:¬i<l.length):leastGo p f i l=l:=by
 have:f=0:=by omega
 subst this; rfl
theorem leastGo_out {p i:Nat} {l:List Claim} (h:i<l.length) (he:storyTab p (l.eraseIdx i)=storyTab p l):leastGo p (l.length-i) i l=leastGo p ((l.eraseIdx i).length-i) i (l.eraseIdx i):=by
 have e1:(l.eraseIdx i).length=l.length-1:=by rw [List.length_eraseIdx]; simp [h]
 obtain ⟨f,hf⟩:∃ f,l.length-i=f+1:=⟨l.length-i-1,by omega⟩
 rw [hf,show (l.eraseIdx i).length-i=f by omega,leastGo,if_pos h,if_pos he]
theorem leastGo_keep {p i:Nat} {l:List Claim} (h:i<l.length) (he:storyTab p (l.eraseIdx i) ≠ storyTab p l):leastGo p (l.length-i) i l=leastGo p (l.length-(i+1)) (i+1) l:=by
 obtain ⟨f,hf⟩:∃ f,l.length-i=f+1:=⟨l.length-i-1,by omega⟩
 rw [hf,show l.length-(i+1)=f by omega,leastGo,if_pos h,if_neg he]
theorem storyOk_sub {people:Int} {l k:List Claim} (h:storyOk people l=true) (hs:k.Sublist l):storyOk people k=true:=by
 simp only [storyOk,Bool.and_eq_true,decide_eq_true_eq,List.all_eq_true] at h ⊢
 exact ⟨⟨fun c hc=>h.1.1 c (hs.subset hc),h.1.2⟩,Nat.le_trans hs.length_le h.2⟩
/-- What a deed makes of a place. -/
noncomputable def made (p:Place) (a:Deed):Place :=
 if a.kind=0∧a.num=0 then (match readC p.people a.words with
  | some c=>⟨p.people,p.story++[c]⟩
  | none=>⟨0,[]⟩)
 else if a.kind=1∧a.words=[]∧0≤a.num∧a.num<p.story.length then ⟨p.people,p.story.eraseIdx a.num.toNat⟩
 else if a.kind=2∧a.words=[] then ⟨a.num,p.story⟩
 else if a.kind=3∧a.num=0∧a.words=[] then ⟨p.people,least p.people.toNat p.story⟩
 else ⟨0,[]⟩
def keep8 (l:List Place):List Place:=if 8<l.length then l.drop 1 else l
def isBack (a:Deed):Bool:=decide (a=⟨4,0,[]⟩)
noncomputable def goodDo (d:Desk) (a:Deed):Bool:=placeOk (made d.now a) && !decide (placeTx (made d.now a)=placeTx d.now)
noncomputable def deskDo (d:Desk) (a:Deed):Desk × Bool :=
 if deskOk d=true then
  if isBack a=true∧d.past ≠ [] then (⟨d.past.getLast?.getD d.now,d.past.dropLast⟩,true)
  else if goodDo d a=true then (⟨made d.now a,keep8 (d.past++[d.now])⟩,true) else (d,false)
 else (noDeskV,false)
theorem zero_no:placeOk ⟨0,[]⟩=false:=by decide
theorem deskOk_iff {d:Desk} : deskOk d=true↔(∀ p ∈ d.past,placeOk p=true)∧placeOk d.now=true∧d.past.length≤8:=by
 simp only [deskOk,Bool.and_eq_true,decide_eq_true_eq,List.all_eq_true,and_assoc]
theorem keep8_len (l:List Place) (h:l.length≤9):(keep8 l).length≤8:=by
 unfold keep8; split
 ·simp; omega
 ·omega
theorem keep8_mem {l:List Place} {p:Place} (h:p ∈ keep8 l):p ∈ l:=by
 unfold keep8 at h; split at h
 ·exact List.mem_of_mem_drop h
 ·exact h
theorem deskDo_no {d:Desk} (h:deskOk d=false) (a:Deed):deskDo d a=(noDeskV,false):=by unfold deskDo; rw [if_neg (by simp [h])]
theorem deskDo_back {d:Desk} (h:deskOk d=true) {a:Deed} (ha:isBack a=true) (hp:d.past ≠ []):deskDo d a=(⟨d.past.getLast?.getD d.now,d.past.dropLast⟩,true):=by
 unfold deskDo; rw [if_pos h,if_pos ⟨ha,hp⟩]
theorem deskDo_good {d:Desk} (h:deskOk d=true) {a:Deed} (ha:goodDo d a=true) (hb:¬(isBack a=true∧d.past ≠ [])):deskDo d a=(⟨made d.now a,keep8 (d.past++[d.now])⟩,true):=by
 unfold deskDo; rw [if_pos h,if_neg hb,if_pos ha]
theorem deskDo_bad {d:Desk} (h:deskOk d=true) {a:Deed} (ha:goodDo d a=false) (hb:¬(isBack a=true∧d.past ≠ [])):deskDo d a=(d,false):=by
 unfold deskDo; rw [if_pos h,if_neg hb,if_neg (by simp [ha])]
theorem made_back {p:Place} {a:Deed} (h:isBack a=true):made p a=⟨0,[]⟩:=by
 simp only [isBack,decide_eq_true_eq] at h
 subst h; simp [made]
theorem good_back {d:Desk} {a:Deed} (h:isBack a=true):goodDo d a=false:=by
 unfold goodDo; rw [made_back h,zero_no]; rfl
theorem deskDo_ways (d:Desk) (a:Deed):(deskOk d=false∧deskDo d a=(noDeskV,false))∨(deskOk d=true∧isBack a=true∧d.past ≠ []∧deskDo d a=(⟨d.past.getLast?.getD d.now,d.past.dropLast⟩,true)) ∨
  (deskOk d=true∧isBack a=false∧goodDo d a=true∧deskDo d a=(⟨made d.now a,keep8 (d.past++[d.now])⟩,true))∨(deskOk d=true∧goodDo d a=false∧deskDo d a=(d,false)):=by
 cases h:deskOk d
 ·exact .inl ⟨rfl,deskDo_no h a⟩
 ·by_cases hb:isBack a=true∧d.past ≠ []
  ·exact .inr (.inl ⟨rfl,hb.1,hb.2,deskDo_back h hb.1 hb.2⟩)
  ·cases hg:goodDo d a
   ·exact .inr (.inr (.inr ⟨rfl,rfl,deskDo_bad h hg hb⟩))
   ·refine .inr (.inr (.inl ⟨rfl, ?_,rfl,deskDo_good h hg hb⟩))
    cases hx:isBack a
    ·rfl
    ·rw [good_back hx] at hg; cases hg
theorem deskDo_ok (d:Desk) (a:Deed) (h:deskOk d=true):deskOk (deskDo d a).1=true:=by
 have h0:=deskOk_iff.1 h
 rcases deskDo_ways d a with ⟨h1,_⟩ | ⟨_,_,hp,e⟩ | ⟨_,_,hg,e⟩ | ⟨_,_,e⟩
 ·rw [h] at h1; cases h1
 ·rw [e]
  refine deskOk_iff.2 ⟨fun p hp=>h0.1 p (List.dropLast_subset _ hp), ?_,by simp; omega⟩
  rw [List.getLast?_eq_some_getLast hp]
  exact h0.1 _ (List.getLast_mem hp)
 ·rw [e]
  have hg':placeOk (made d.now a)=true:=by
   simp only [goodDo,Bool.and_eq_true] at hg; exact hg.1
  refine deskOk_iff.2 ⟨fun p hp => ?_,hg',keep8_len _ (by simp; omega)⟩
  rcases List.mem_append.1 (keep8_mem hp) with h1 | h1
  ·exact h0.1 p h1
  ·rw [List.mem_singleton.1 h1]; exact h0.2.1
 ·rw [e]; exact h
theorem deskDo_same {d:Desk} {a:Deed} (h:(deskDo d a).2=false):deskOk d=false∨(deskDo d a).1=d:=by
 rcases deskDo_ways d a with ⟨h1,e⟩ | ⟨_,hb,hp,e⟩ | ⟨h1,_,hg,e⟩ | ⟨_,_,e⟩
 ·exact .inl h1
 ·rw [e] at h; cases h
 ·rw [e] at h; cases h
 ·exact .inr (by rw [e])
/-- Deeds, one after the other. -/
noncomputable def doStep (x:Desk × Nat) (a:Deed):Desk × Nat:=if (deskDo x.1 a).2=true then ((deskDo x.1 a).1,x.2+1) else x
noncomputable def doAll (d:Desk) (l:List Deed):Desk × Nat:=l.foldl doStep (d,0)
end TL

namespace TL
open Go Go.Proofs
attribute [local simp] marksV storyV codeV Claim.v Place.v Desk.v
/-- A place whose row of claims is the caller's own. -/
def OwnPlace (p:Place) (m:Mem) (n:Nat) (t:T) (m':Mem) (n':Nat):Prop:=n≤n'∧(∀ j,j<n→m' j=m j)∧∃ st,t=.agg [.v (.int .i64 p.people),st]∧IsRow m' n n' 63 st (p.story.map Claim.v)
def Io15 (p:Place) (m:Mem) (n:Nat) (e:Nat) (s:S):Prop:=∃ (i:Nat) (st:T) (z:List T),s.tm 1=.ptr n 0∧s.tm 2=.ptr (n+1) 0∧s.tm 3=.ptr (n+2) 0∧s.tm 4=.v (.int .i64 i)∧s.mu=false∧i≤p.story.length∧n+3≤s.n ∧
 s.m n=some (.box 25 2 [.v (.int .i64 p.people),.v (storyV p.story)])∧s.m (n+1)=some (.box 25 2 z)∧z.length=2∧s.m (n+2)=some (.box 25 2 [.v (.int .i64 p.people),st])∧IsRow s.m (n+3) s.n 63 st ((p.story.take i).map Claim.v)∧(∀ j,j<n→s.m j=m j)∧(e=1→i=p.story.length)
theorem l15Place_own (p:Place) (hp:p.small) (m:Mem) (n:Nat):FnS Tryz.prog 67 m n [.v p.v] (OwnPlace p m n):=by
 have hl:=hp.1
 refine FS (rs:=[.cell 2 25]) false Tryz.func67 ?_
 have e0:¬n=n+1:=by omega
 have e1:¬n=n+2:=by omega
 have e2:¬n+1=n+2:=by omega
 have e3:¬n+2=n:=by omega
 have e4:¬n+2=n+1:=by omega
 have e5:¬n+1=n:=by omega
 simp -dsimp
 refine twp_loopC (Io15 p m n 0) (fun s=>p.story.length-natOf (s.tm 4)) (Io15 p m n 1) ?_ ?_ ?_
 ·refine ⟨0,.nil,[.v (.int .i64 0),.nil],by simp -dsimp,by simp -dsimp,by simp -dsimp,by simp -dsimp,by simp -dsimp,by omega,by simp -dsimp,by simp -dsimp [nes],by simp -dsimp [nes],rfl,by simp -dsimp,.inl ⟨rfl,by simp⟩,fun j j1 => ?_,by simp⟩
  simp -dsimp [far j1]
 ·rintro s ⟨i,st,z,t1,t2,t3,t4,hmu,hi,hn,m0,m1,hz,m2,hst,hout,hend⟩
  by_cases hlt:i<p.story.length
  case neg =>
   simp -dsimp [t1,t4,m0,hlt]
   exact ⟨i,st,z,by simp -dsimp [t1],by simp -dsimp [t2],by simp -dsimp [t3],by simp -dsimp [t4],by simp -dsimp [hmu],hi,by simp -dsimp; omega,by simp -dsimp [m0],by simp -dsimp [m1],hz,by simp -dsimp [m2],hst,fun j j1=>by simp -dsimp [hout j j1],fun _=>by omega⟩
  have hget:(p.story.map Claim.v)[i]? = some (p.story[i].v):=by simp [hlt]
  have wi:IntKind.wrap .i64 ((i:Int)+1)=((i+1:Nat):Int):=by rw [w64 (by omega) (by omega)]; omega
  have hmu1:p.story.length-(i+1)<p.story.length-i:=by omega
  have f0:=far (show n<s.n by omega)
  have f1:=far (show n+1<s.n by omega)
  have f2:=far (show n+2<s.n by omega)
  have hsm:=hp.2 p.story[i] (List.getElem_mem _)
  unfold Claim.small at hsm
  have b0:p.story[i].says.length * 16≤140737488355328:=by omega
  have b1:(min i p.story.length+1) * 32≤140737488355328:=by omega
  have htk:(p.story.take (i+1)).map Claim.v=(p.story.take i).map Claim.v++[p.story[i].v]:=by rw [List.take_succ_eq_append_getElem hlt,List.map_append]; rfl
  simp -dsimp [t1,t4,m0,hlt]
  refine twd [0,1,2,3,4,5,6,7,9,10,11,12,13,14,8,15,16,17,18,19,20] [n,n+2] (List.replicate 21 [0,1]) (List.replicate 20 [0,1]++[[0]]) ?_
  rcases hst with ⟨rfl,hs0⟩ | ⟨id,rfl,hi0,hi1,him⟩
  ·simp -dsimp [t1,t3,t4,m0,m2,hlt,hget,hmu,nes,f0,f1,f2,e0,e1,e2,e3,e4,e5,b0,wi,hmu1]
   have hi00:i=0:=by
    simp at hs0; rcases hs0 with h | h
    ·exact h
    ·rw [h] at hlt; simp at hlt
   subst hi00
   refine st_out fun s' ht hm' hn' hu' => ?_
   have q1:=ht 1
   have q2:=ht 2
   have q3:=ht 3
   have q4:=ht 4
   simp -dsimp [t1,t2,t3] at q1 q2 q3 q4 hm' hn' hu'
   clear ht
   refine ⟨1,.loc (s.n+1+1+1),z,q1,q2,q3,q4,by rw [hu',hmu],by omega,by omega,by simp [hm',nes,e0,e1,f0,m0],by simp [hm',nes,e2,f0,f1,m1],hz,by simp [hm',nes,f2],.inr ⟨s.n+1+1+1,rfl,by omega,by omega, ?_⟩,fun j j1 => ?_,by simp⟩
   ·rw [htk]; simp [hm',nes,f0,f2]
   ·simp [hm',far (show j<s.n by omega),show ¬j=n+2 by omega,hout j j1]
  ·have g1:=far hi1
   have g2:¬id=n+2:=by omega
   have g0:¬id=n:=by omega
   have g3:¬id=n+1:=by omega
   simp -dsimp [t1,t3,t4,m0,m2,hlt,hget,hmu,nes,f0,f1,f2,e0,e1,e2,e3,e4,e5,b0,b1,g1,g2,g0,g3,Ne.symm g0,Ne.symm g2,Ne.symm g3,him,wi,hmu1]
   refine st_out fun s' ht hm' hn' hu' => ?_
   have q1:=ht 1
   have q2:=ht 2
   have q3:=ht 3
   have q4:=ht 4
   simp -dsimp [t1,t2,t3] at q1 q2 q3 q4 hm' hn' hu'
   clear ht
   refine ⟨i+1,.loc (s.n+1+1+1),z,q1,q2,q3,q4,by rw [hu',hmu],by omega,by omega,by simp [hm',nes,e0,e1,f0,m0,Ne.symm g0],by simp [hm',nes,e2,f0,f1,m1,Ne.symm g3],hz,by simp [hm',nes,f2],.inr ⟨s.n+1+1+1,rfl,by omega,by omega, ?_⟩,fun j j1 => ?_,by simp⟩
   ·rw [htk]; simp [hm',f0,f2,nes]
   ·simp [hm',far (show j<s.n by omega),show ¬j=n+2 by omega,show ¬j=id by omega,hout j j1]
 ·rintro s ⟨i,st,z,t1,t2,t3,t4,hmu,hi,hn,m0,m1,hz,m2,hst,hout,hend⟩
  have:=hend rfl
  subst this
  rw [List.take_length] at hst
  have f1:=far (show n+1<s.n by omega)
  obtain ⟨z0,z1,rfl⟩:∃ a b,z=[a,b]:=by
   match z,hz with
   | [a,b],_=>exact ⟨a,b,rfl⟩
  rcases hst with ⟨rfl,hs0⟩ | ⟨id,rfl,hi0,hi1,him⟩
  ·simp -dsimp [t2,t3,m1,m2,e2,e4]
   exact ⟨by omega,fun j j1=>by simp [show ¬j=n+1 by omega,hout j j1],.nil,rfl,.inl ⟨rfl,hs0⟩⟩
  ·have g3:¬id=n+1:=by omega
   simp -dsimp [t2,t3,m1,m2,e2,e4]
   exact ⟨by omega,fun j j1=>by simp [show ¬j=n+1 by omega,hout j j1],.loc id,rfl,.inr ⟨id,rfl,by omega,by omega,by simp [g3,him]⟩⟩
end TL

namespace TL
open Go Go.Proofs
attribute [local simp] marksV storyV codeV Claim.v Place.v Desk.v
def OwnDesk (d:Desk) (m:Mem) (n:Nat) (t:T) (m':Mem) (n':Nat):Prop:=n≤n'∧(∀ j,j<n→m' j=m j)∧∃ st,t=.agg [.v (.int .i64 d.now.people),.v (storyV d.now.story),st]∧IsRow m' n n' 25 st (d.past.map Place.v)
def Iod (d:Desk) (m:Mem) (n:Nat) (e:Nat) (s:S):Prop:=∃ (i:Nat) (st:T),s.tm 1=.ptr n 0∧s.tm 2=.ptr (n+1) 0∧s.tm 3=.ptr (n+2) 0∧s.tm 4=.v (.int .i64 i)∧s.mu=false∧i≤d.past.length∧n+3≤s.n ∧
 s.m n=some (.box 28 3 [.v (.int .i64 d.now.people),.v (storyV d.now.story),.v (.sl (d.past.map Place.v))])∧s.m (n+1)=some (.box 28 3 [.v (.int .i64 0),.nil,.nil]) ∧
 s.m (n+2)=some (.box 28 3 [.v (.int .i64 d.now.people),.v (storyV d.now.story),st])∧IsRow s.m (n+3) s.n 25 st ((d.past.take i).map Place.v)∧(∀ j,j<n→s.m j=m j)∧(e=1→i=d.past.length)
theorem l15Copy_own (d:Desk) (hd:d.small) (m:Mem) (n:Nat):FnS Tryz.prog 26 m n [.v d.v] (OwnDesk d m n):=by
 have hl:=hd.2.1
 refine FS (rs:=[.cell 2 28]) false Tryz.func26 ?_
 have e0:¬n=n+1:=by omega
 have e1:¬n=n+2:=by omega
 have e2:¬n+1=n+2:=by omega
 have e3:¬n+2=n:=by omega
 have e4:¬n+2=n+1:=by omega
 have e5:¬n+1=n:=by omega
 simp -dsimp
 refine cl (l15Place_fn d.now hd.1) ?_
 simp -dsimp [e0,e1,e2,e3,e4,e5,nes]
 refine twp_loopC (Iod d m n 0) (fun s=>d.past.length-natOf (s.tm 4)) (Iod d m n 1) ?_ ?_ ?_
 ·refine ⟨0,.nil,by simp -dsimp,by simp -dsimp,by simp -dsimp,by simp -dsimp,by simp -dsimp,by omega,by simp -dsimp,by simp -dsimp [nes],by simp -dsimp [nes],by simp -dsimp,.inl ⟨rfl,by simp⟩,fun j j1 => ?_,by simp⟩
  simp -dsimp [far j1]
 ·rintro s ⟨i,st,t1,t2,t3,t4,hmu,hi,hn,m0,m1,m2,hst,hout,hend⟩
  by_cases hlt:i<d.past.length
  case neg =>
   simp -dsimp [t1,t4,m0,hlt]
   exact ⟨i,st,by simp -dsimp [t1],by simp -dsimp [t2],by simp -dsimp [t3],by simp -dsimp [t4],by simp -dsimp [hmu],hi,by simp -dsimp; omega,by simp -dsimp [m0],by simp -dsimp [m1],by simp -dsimp [m2],hst,fun j j1=>by simp -dsimp [hout j j1],fun _=>by omega⟩
  have hget:(d.past.map Place.v)[i]? = some (d.past[i].v):=by simp [hlt]
  have wi:IntKind.wrap .i64 ((i:Int)+1)=((i+1:Nat):Int):=by rw [w64 (by omega) (by omega)]; omega
  have hmu1:d.past.length-(i+1)<d.past.length-i:=by omega
  have f0:=far (show n<s.n by omega)
  have f1:=far (show n+1<s.n by omega)
  have f2:=far (show n+2<s.n by omega)
  have hsm:=hd.2.2 d.past[i] (List.getElem_mem _)
  have hpl:=l15Place_fn d.past[i] hsm
  have b1:(min i d.past.length+1) * 32≤140737488355328:=by omega
  have htk:(d.past.take (i+1)).map Place.v=(d.past.take i).map Place.v++[d.past[i].v]:=by rw [List.take_succ_eq_append_getElem hlt,List.map_append]; rfl
  simp -dsimp [t1,t4,m0,hlt]
  refine twd (List.range 12) [n,n+2] (List.replicate 12 [0,1]) (List.replicate 11 [0,1]++[[0]]) ?_
  rcases hst with ⟨rfl,hs0⟩ | ⟨id,rfl,hi0,hi1,him⟩
  ·simp -dsimp [List.range_succ,t1,t3,t4,m0,m2,hlt,hget,nes,f0,f1,f2,e0,e1,e2,e3,e4,e5]
   refine cl hpl ?_
   simp -dsimp [List.range_succ,t1,t3,t4,m0,m2,hlt,hget,hmu,nes,f0,f1,f2,e0,e1,e2,e3,e4,e5,wi,hmu1]
   have hi00:i=0:=by
    simp at hs0; rcases hs0 with h | h
    ·exact h
    ·rw [h] at hlt; simp at hlt
   subst hi00
   refine st_out fun s' ht hm' hn' hu' => ?_
   have q1:=ht 1
   have q2:=ht 2
   have q3:=ht 3
   have q4:=ht 4
   simp -dsimp [t1,t2,t3] at q1 q2 q3 q4 hm' hn' hu'
   clear ht
   refine ⟨1,.loc (s.n+1),q1,q2,q3,q4,by rw [hu',hmu],by omega,by omega,by simp [hm',nes,e0,e1,f0,m0],by simp [hm',nes,e2,f0,f1,m1],by simp [hm',nes,f2],.inr ⟨s.n+1,rfl,by omega,by omega, ?_⟩,fun j j1 => ?_,by simp⟩
   ·rw [htk]; simp [hm',nes,f0,f1,f2]
   ·simp [hm',far (show j<s.n by omega),show ¬j=n+2 by omega,hout j j1]
  ·have g1:=far hi1
   have g2:¬id=n+2:=by omega
   have g0:¬id=n:=by omega
   have g3:¬id=n+1:=by omega
   simp -dsimp [List.range_succ,t1,t3,t4,m0,m2,hlt,hget,nes,f0,f1,f2,e0,e1,e2,e3,e4,e5]
   refine cl hpl ?_
   simp -dsimp [List.range_succ,t1,t3,t4,m0,m2,hlt,hget,hmu,nes,f0,f1,f2,e0,e1,e2,e3,e4,e5,b1,g1,g2,g0,g3,Ne.symm g0,Ne.symm g2,Ne.symm g3,him,wi,hmu1]
   refine st_out fun s' ht hm' hn' hu' => ?_
   have q1:=ht 1
   have q2:=ht 2
   have q3:=ht 3
   have q4:=ht 4
   simp -dsimp [t1,t2,t3] at q1 q2 q3 q4 hm' hn' hu'
   clear ht
   refine ⟨i+1,.loc (s.n+1),q1,q2,q3,q4,by rw [hu',hmu],by omega,by omega,by simp [hm',nes,e0,e1,f0,m0,Ne.symm g0],by simp [hm',nes,e2,f0,f1,m1,Ne.symm g3],by simp [hm',nes,f2],.inr ⟨s.n+1,rfl,by omega,by omega, ?_⟩,fun j j1 => ?_,by simp⟩
   ·rw [htk]; simp [hm',f0,f1,f2,nes]
   ·simp [hm',far (show j<s.n by omega),show ¬j=n+2 by omega,show ¬j=id by omega,hout j j1]
 ·rintro s ⟨i,st,t1,t2,t3,t4,hmu,hi,hn,m0,m1,m2,hst,hout,hend⟩
  have:=hend rfl
  subst this
  rw [List.take_length] at hst
  have f1:=far (show n+1<s.n by omega)
  rcases hst with ⟨rfl,hs0⟩ | ⟨id,rfl,hi0,hi1,him⟩
  ·simp -dsimp [t2,t3,m1,m2,e2,e4]
   exact ⟨by omega,fun j j1=>by simp [show ¬j=n+1 by omega,hout j j1],.nil,rfl,.inl ⟨rfl,hs0⟩⟩
  ·have g3:¬id=n+1:=by omega
   simp -dsimp [t2,t3,m1,m2,e2,e4]
   exact ⟨by omega,fun j j1=>by simp [show ¬j=n+1 by omega,hout j j1],.loc id,rfl,.inr ⟨id,rfl,by omega,by omega,by simp [g3,him]⟩⟩
end TL

namespace TL
open Go Go.Proofs
attribute [local simp] marksV storyV codeV Claim.v Place.v Desk.v
theorem allZ_claims (l:List Claim):allZ 2 (l.map Claim.v):=fun x hx=>by
 obtain ⟨c,_,rfl⟩:=List.mem_map.1 hx
 exact ⟨by simp,by simp⟩
theorem l5Without_fn (l:List Claim) (k:Nat) (hk:k<l.length) (hl:l.length≤1048576):FnZ Tryz.prog 122 [storyV l,.int .i64 k] (storyV (l.eraseIdx k)):=by
 have e:l.eraseIdx k=l.take k++l.drop (k+1):=List.eraseIdx_eq_take_drop_succ ..
 have h1:(k:Int)≤l.length:=by omega
 have h2:k≤l.length:=by omega
 have h3:k+1≤l.length:=by omega
 have h4:(k:Int)+1≤l.length:=by omega
 have w1:IntKind.wrap .i64 ((k:Int)+1)=(k:Int)+1:=w64 (by omega) (by omega)
 have b1:min k l.length * 32≤140737488355328:=by omega
 have b2:(min k l.length+(l.length-(k+1))) * 32≤140737488355328:=by omega
 have h5:((k:Int)+1).toNat=k+1:=by omega
 have h6:(0:Int)≤(k:Int)+1:=by omega
 have z1:allZ 2 (List.take k (List.map Claim.v l)):=by rw [← List.map_take]; exact allZ_claims _
 have z2:allZ 2 (List.drop (k+1) (List.map Claim.v l)):=by rw [← List.map_drop]; exact allZ_claims _
 have tk:List.take l.length (List.map Claim.v l)=List.map Claim.v l:=List.take_of_length_le (by simp)
 have b3:k * 32≤140737488355328:=by omega
 have b4:(k+(l.length-(k+1))) * 32≤140737488355328:=by omega
 rw [e]
 refine FZ (rs:=[.tmp 4]) false Tryz.func122 ?_
 simp -dsimp [h1,h2,h3,h4,h5,h6,w1,b1,b2,b3,b4,z1,z2,tk,nes]
end TL
