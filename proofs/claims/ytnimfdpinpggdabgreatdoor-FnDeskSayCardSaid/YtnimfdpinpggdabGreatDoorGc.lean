/- TL: parts TlDraw, TlWp2, TlFn, TlFrz, TlRun, TlCut, TlFacts, Fns1, Fns2. -/
import Derived.Test.YtnimfdpinpggdabGreatDoorGb
import Derived.Test.YtnimfdpinpggdabGreatDoorChecked
set_option linter.unusedVariables false
set_option linter.unusedSimpArgs false
namespace TL
open Go Go.RowKit

section
variable {P:Program} {ops:Array Oper} {L K:List (List Nat)}

theorem opF_val {mu:Bool} {ρ:Operand→T} {m:Mem} {n:Nat} {op:Op} {E:Eff} (hv:isVal op=true) (h:opF P mu ρ m n op=some E):E.us=[]:=by
 have one:∀ {α:Type} {o:Option α} {f:α→T},(obind o fun x=>some (⟨f x,[]⟩:Eff))=some E→E.us=[]:=by
  intro α o f h
  obtain ⟨x,_,h⟩:=obind_eq h
  cases h; rfl
 have tone:∀ {c:Prop} {d:Decidable c} {x:T},tst c (some (⟨x,[]⟩:Eff))=some E→E.us=[]:=by
  intro c d x h
  obtain ⟨_,h⟩:=tst_eq h
  cases h; rfl
 cases op with
 | move x=>simp only [opF] at h; cases h; rfl
 | assign x=>simp only [opF] at h; cases h; rfl
 | unOp o t x=>cases o <;> simp only [opF] at h <;> first | (cases h; done) | exact one h
 | makeFunc f first cap=>cases f <;> simp only [opF] at h <;> first | (cases h; done) | exact tone h
 | slice t x lo hi mx =>
  cases mx with
  | none=>simp only [opF] at h; exact one h
  | some q=>simp [isVal] at hv
 | call c =>
  obtain ⟨callee,args,ats⟩:=c
  cases callee with
  | builtin b =>
   simp only [opF] at h
   unfold evBuiltin at h
   split at h
   ·split at h
    ·unfold evLen at h
     split at h
     ·exact tone h
     ·obtain ⟨_,_,h⟩:=obind_eq h; exact one h
    ·cases h
   ·simp [isVal] at hv
   ·cases h; rfl
   ·cases h; rfl
   ·cases h
  | _=>cases h
 | pick c a b=>simp only [opF] at h; exact one h
 | build t parts=>simp only [opF] at h; exact one h
 | load t a=>simp only [opF] at h; exact one h
 | nilCheck x=>simp only [opF] at h; exact one h
 | binOp o t x y q=>simp only [opF] at h; exact one h
 | convert s d x=>simp only [opF] at h; exact one h
 | fieldAddr t x f=>simp only [opF] at h; exact one h
 | field t x f=>simp only [opF] at h; exact one h
 | indexAddr t x i=>simp only [opF] at h; exact one h
 | index t x i=>simp only [opF] at h; exact one h
 | extract x i=>simp only [opF] at h; exact one h
 | alloc t=>simp [isVal] at hv
 | box t x=>simp [isVal] at hv
 | buildSlice t l p=>simp [isVal] at hv
 | makeSlice t l c=>simp [isVal] at hv
 | store t a x=>simp [isVal] at hv
 | lookup t x i ok=>simp only [opF] at h; exact one h
 | makeMap t r=>simp [isVal] at hv
 | mapUpdate t x i y=>simp [isVal] at hv
 | insert t x i y=>simp [isVal] at hv
 | _=>simp only [opF] at h; cases h

theorem opP_val {s:S} {o:Oper} {k:S→Prop} (hv:isVal o.op=true):opP P s o k↔∃ E,opF P s.mu s.ev s.m s.n o.op=some E∧k (s.app o.dst E):=by
 unfold opP
 split
 ·rename_i g args ts hop
  rw [hop] at hv
  simp [isVal] at hv
 ·rename_i t x ty hop
  rw [hop] at hv
  simp [isVal] at hv
 ·rename_i t x ty hop
  rw [hop] at hv
  simp [isVal] at hv
 ·exact Iff.rfl

theorem opF_congr {mu:Bool} {ρ ρ':Operand→T} {m:Mem} {n:Nat} (op:Op) (h:∀ x ∈ op.operands,ρ x=ρ' x):opF P mu ρ m n op=opF P mu ρ' m n op:=by
 have pairs:∀ ps:Array (Nat × Operand),(∀ x ∈ ps.toList.map (·.2),ρ x=ρ' x)→(ps.toList.map fun p=>(p.1,ρ p.2))=ps.toList.map fun p=>(p.1,ρ' p.2):=fun ps hp =>
  List.map_congr_left fun p hm=>by rw [hp p.2 (List.mem_map.2 ⟨p,hm,rfl⟩)]
 have arr:∀ ps:Array Operand,(∀ x ∈ ps,ρ x=ρ' x)→ps.toList.map ρ=ps.toList.map ρ':=fun ps hp=>List.map_congr_left fun p hm=>hp p (by simpa using hm)
 cases op with
 | build t ps=>simp only [opF]; rw [pairs ps fun x hx=>h x (by simpa [Op.operands] using hx)]
 | buildSlice t l ps=>simp only [opF]; rw [pairs ps fun x hx=>h x (by simpa [Op.operands] using hx)]
 | makeFunc f first cap =>
  cases f <;> simp only [opF]
  rw [arr cap fun x hx=>h x (by simp [Op.operands,hx])]
 | unOp o t x=>cases o <;> simp only [opF] <;> rw [h x (by simp [Op.operands])]
 | slice t x lo hi mx =>
  have hl:lo.map ρ=lo.map ρ':=by
   cases lo with
   | none=>rfl
   | some q=>simp only [Option.map_some]; rw [h q (by simp [Op.operands])]
  have hh:hi.map ρ=hi.map ρ':=by
   cases hi with
   | none=>rfl
   | some q=>simp only [Option.map_some]; rw [h q (by simp [Op.operands])]
  cases mx with
  | none=>simp only [opF]; rw [hl,hh,h x (by simp [Op.operands])]
  | some q=>simp only [opF]; rw [hl,hh,h x (by simp [Op.operands]),h q (by simp [Op.operands])]
 | call c =>
  obtain ⟨callee,args,ats⟩:=c
  cases callee with
  | builtin b=>simp only [opF]; rw [arr args fun x hx=>h x (by simp [Op.operands,Call.operands,hx])]
  | _=>rfl
 | move x=>simp only [opF]; rw [h x (by simp [Op.operands])]
 | assign x=>simp only [opF]; rw [h x (by simp [Op.operands])]
 | pick c a b=>simp only [opF]; rw [h c (by simp [Op.operands]),h a (by simp [Op.operands]),h b (by simp [Op.operands])]
 | box t x=>simp only [opF]; rw [h x (by simp [Op.operands])]
 | load t x=>simp only [opF]; rw [h x (by simp [Op.operands])]
 | store t a x=>simp only [opF]; rw [h x (by simp [Op.operands]),h a (by simp [Op.operands])]
 | nilCheck x=>simp only [opF]; rw [h x (by simp [Op.operands])]
 | binOp o t x y q=>simp only [opF]; rw [h x (by simp [Op.operands]),h y (by simp [Op.operands])]
 | convert s d x=>simp only [opF]; rw [h x (by simp [Op.operands])]
 | makeSlice t x y=>simp only [opF]; rw [h x (by simp [Op.operands]),h y (by simp [Op.operands])]
 | fieldAddr t x f=>simp only [opF]; rw [h x (by simp [Op.operands])]
 | field t x f=>simp only [opF]; rw [h x (by simp [Op.operands])]
 | indexAddr t x y=>simp only [opF]; rw [h x (by simp [Op.operands]),h y (by simp [Op.operands])]
 | index t x y=>simp only [opF]; rw [h x (by simp [Op.operands]),h y (by simp [Op.operands])]
 | extract x i=>simp only [opF]; rw [h x (by simp [Op.operands])]
 | lookup t x i ok=>simp only [opF]; rw [h x (by simp [Op.operands]),h i (by simp [Op.operands])]
 | mapUpdate t x i y=>simp only [opF]; rw [h x (by simp [Op.operands]),h i (by simp [Op.operands]),h y (by simp [Op.operands])]
 | insert t x i y=>simp only [opF]; rw [h x (by simp [Op.operands]),h i (by simp [Op.operands]),h y (by simp [Op.operands])]
 | makeMap t r=>cases r <;> rfl
 | _=>rfl

theorem callP_mono {f:Nat} {m:Mem} {n:Nat} {args:List T} {k k':T→Mem→Nat→Prop} (h:∀ t m n,k t m n→k' t m n) (hc:callP P f m n args k):callP P f m n args k':=by
 rcases hc with ⟨vs,r,h1,h2,h3⟩ | ⟨post,h1,h2⟩
 ·exact .inl ⟨vs,r,h1,h2,h _ _ _ h3⟩
 ·exact .inr ⟨post,h1,fun t m n hp=>h _ _ _ (h2 t m n hp)⟩
theorem opP_congr {s1 s2:S} {o:Oper} {k1 k2:S→Prop} (hev:∀ x ∈ o.op.operands,s1.ev x=s2.ev x) (hm:s1.m=s2.m) (hn:s1.n=s2.n) (hmu:s1.mu=s2.mu)
  (hk:∀ (x:T) (m:Mem) (n:Nat),k1 (s1.aft o.dst x m n)→k2 (s2.aft o.dst x m n)) (h:opP P s1 o k1):opP P s2 o k2:=by
 unfold opP at h ⊢
 split at h
 ·rename_i g args ts hop
  rw [hop] at hev
  have hg:s1.ev g=s2.ev g:=hev g (by simp [Op.operands,Call.operands])
  have ha:args.toList.map s1.ev=args.toList.map s2.ev:=List.map_congr_left fun p hp=>hev p (by simp [Op.operands,Call.operands,(show p ∈ args by simpa using hp)])
  rw [← hg,← ha,← hm,← hn]
  split at h
  ·exact callP_mono (fun t m n hk1=>hk t m n hk1) h
  ·exact callP_mono (fun t m n hk1=>hk t m n hk1) h
  ·exact h
 ·rename_i t x ty hop
  rw [hop] at hev
  have hx:s1.ev x=s2.ev x:=hev x (by simp [Op.operands])
  rw [← hx]
  refine ⟨h.1, ?_⟩
  have h2:=h.2
  split at h2
  ·intro b hb
   have:=hk (.v (.bool b)) s1.m s1.n (h2 b hb)
   rw [hm,hn] at this; exact this
  ·have:=hk (.v (.bool true)) s1.m s1.n h2
   rw [hm,hn] at this; exact this
  ·exact h2
 ·rename_i t x ty hop
  rw [hop] at hev
  have hx:s1.ev x=s2.ev x:=hev x (by simp [Op.operands])
  rw [← hx]
  refine ⟨h.1, ?_⟩
  have h2:=h.2
  split at h2
  ·intro b hb
   have:=hk (.v (.bool !b)) s1.m s1.n (h2 b hb)
   rw [hm,hn] at this; exact this
  ·have:=hk (.v (.bool !true)) s1.m s1.n h2
   rw [hm,hn] at this; exact this
  ·exact h2
 ·rename_i hne _ _
  obtain ⟨E,hE,hk1⟩:=h
  have hE2:opF P s2.mu s2.ev s2.m s2.n o.op=some E:=by rw [← opF_congr (P:=P) o.op hev,← hm,← hn,← hmu]; exact hE
  have hk2:k2 (s2.app o.dst E):=by
   have:=hk E.val (applyUs s1.m E.us) (bump s1.n E.us) hk1
   rw [hm,hn] at this; exact this
  exact ⟨E,hE2,hk2⟩
theorem opP_mono {s:S} {o:Oper} {k1 k2:S→Prop} (hk:∀ s,k1 s→k2 s) (h:opP P s o k1):opP P s o k2 :=
 opP_congr (fun _ _=>rfl) rfl rfl rfl (fun x m n=>hk _) h

/-- A row of pure values, made and never written. -/
def BldOf (P:Program) (s:S) (o:Oper) (t:T):Prop:=∃ (ty:TypeId) (len:Nat) (parts:Array (Nat × Operand)) (ps:List (Nat × V)) (e:TypeId) (vs:List V),o.op=.buildSlice ty len parts ∧
 (parts.toList.map fun p=>(p.1,s.ev p.2))=ps.map (fun q=>(q.1,T.v q.2))∧evBuildSlice P false ty (fun _=>none) 0 len (ps.map fun q=>(q.1,T.v q.2))=some ⟨.loc 0,[(0,some (.arr e vs))]⟩∧t=.v (.sl vs)
theorem BldOf.congr {s s':S} {o:Oper} {t:T} (hev:∀ x ∈ o.op.operands,s.ev x=s'.ev x) (h:BldOf P s o t):BldOf P s' o t:=by
 obtain ⟨ty,len,parts,ps,e,vs,hop,h1,h2,h3⟩:=h
 refine ⟨ty,len,parts,ps,e,vs,hop, ?_,h2,h3⟩
 rw [← h1]
 refine List.map_congr_left fun p hp => ?_
 rw [hev p.2 (by rw [hop]; simp only [Op.operands]; simp only [Array.mem_def,List.mem_toArray,Array.toList_map]; exact List.mem_map.2 ⟨p,hp,rfl⟩)]
/-- One operation of the region. -/
def stepP (P:Program) (ops:Array Oper) (i:Nat) (k:S→Prop) (s:S):Prop :=
 match ops[i]? with
 | none=>k s
 | some o=>∃ g,guardB ops.toList s o.guard=some g∧(if g=true then (opP P s o k∨∃ t,BldOf P s o t∧k (s.put o.dst t)) else k (s.put o.dst und))
theorem stepP_mono {i:Nat} {k k':S→Prop} {s:S} (hk:∀ s,k s→k' s) (h:stepP P ops i k s):stepP P ops i k' s:=by
 unfold stepP at h ⊢
 split at h
 ·exact hk _ h
 ·obtain ⟨g,hg,h⟩:=h
  refine ⟨g,hg, ?_⟩
  cases g
  ·exact hk _ h
  ·exact h.imp (opP_mono hk) fun ⟨t,h1,h2⟩=>⟨t,h1,hk _ h2⟩
def anyJ (P:Program) (ops:Array Oper) (K:Nat→List Nat) (Q:S→Prop):Nat→Array Bool→S→Prop
 | 0,listed,s=>Region.ready .any ops listed=[]∧Q s
 | fuel+1,listed,s=>(Region.ready .any ops listed=[]→Q s) ∧
   ∀ i ∈ Region.ready .any ops listed,stepP P ops i (fun s'=>keepP (K i) s.m s'.m∧anyJ P ops K Q fuel (listed.setIfInBounds i true) s') s

theorem ev_put {s:S} {d:Option Nat} {t:T} {x:Operand} (h:∀ q,d=some q→x ≠ .tmp q):(s.put d t).ev x=s.ev x:=by
 cases x with
 | tmp q =>
  cases d with
  | none=>rfl
  | some d =>
   show (if q=d then t else s.tm q)=s.tm q
   exact if_neg fun e=>h d rfl (by rw [e])
 | _=>rfl
theorem guard_put {s:S} {d:Option Nat} {t:T} {o:Oper} (h:∀ q,d=some q→q ∉ o.looksAt ops):guardB ops.toList (s.put d t) o.guard=guardB ops.toList s o.guard:=by
 cases hg:o.guard with
 | none=>rfl
 | some p =>
  obtain ⟨j,b⟩:=p
  simp only [guardB,dstOf,Array.getElem?_toList]
  cases hd:(ops[j]?).bind (·.dst) with
  | none=>rfl
  | some q =>
   simp only [obind_some]
   have:(s.put d t).tm q=s.tm q:=by
    cases d with
    | none=>rfl
    | some d=>exact if_neg fun e=>h d rfl (by rw [← e]; simp [Oper.looksAt,hg,hd])
   rw [this]
theorem looks_op {o:Oper} {q:Nat} (h:q ∉ o.looksAt ops):∀ x ∈ o.op.operands,x ≠ .tmp q:=by
 intro x hx e
 subst e
 exact h (List.mem_append_left _ (List.mem_filterMap.2 ⟨.tmp q,by simpa using hx,rfl⟩))
theorem aft_put {s:S} {d e:Option Nat} {t x:T} {m:Mem} {n:Nat} (h:∀ q,d=some q→e ≠ some q):(s.put d t).aft e x m n=(s.aft e x m n).put d t:=by
 cases d with
 | none=>rfl
 | some d =>
  cases e with
  | none=>rfl
  | some e =>
   have hne:e ≠ d:=fun q=>h d rfl (by rw [q])
   simp only [S.put,S.aft]
   congr 1
   funext q
   simp only [updT]
   by_cases h1:q=e
   ·subst h1; simp [hne]
   ·simp [h1]
theorem put_put {s:S} {d e:Option Nat} {t x:T} (h:∀ q,d=some q→e ≠ some q):(s.put d t).put e x=(s.put e x).put d t :=
 aft_put (m:=s.m) (n:=s.n) h

def SameBut (d:Option Nat) (s s':S):Prop:=s'.mu=s.mu∧∀ q,d ≠ some q→s'.tm q=s.tm q
theorem same_aft {s:S} {d:Option Nat} {x:T} {m:Mem} {n:Nat} : SameBut d s (s.aft d x m n):=by
 refine ⟨rfl,fun q hq => ?_⟩
 cases d with
 | none=>rfl
 | some d=>exact if_neg fun e=>hq (by rw [e])

theorem stepP_put {j:Nat} {oi oj:Oper} {t:T} {s:S} {k:S→Prop} (hj:ops[j]? = some oj) (hap:oi.apart ops oj=true) (h:stepP P ops j k (s.put oi.dst t)) :
  stepP P ops j (fun s'=>k (s'.put oi.dst t)∧SameBut oj.dst s s') s:=by
 obtain ⟨h1,h2,h3⟩:=Oper.apart_spec hap
 unfold stepP at h ⊢
 simp only [hj] at h ⊢
 obtain ⟨g,hg,h⟩:=h
 rw [guard_put h1] at hg
 refine ⟨g,hg, ?_⟩
 cases g
 ·rw [if_neg (by simp)] at h ⊢
  rw [put_put h2] at h
  exact ⟨h,same_aft (m:=s.m) (n:=s.n)⟩
 ·rw [if_pos rfl] at h ⊢
  rcases h with h | ⟨x,hb,hk⟩
  ·left
   refine opP_congr (fun x hx=>ev_put fun q hq=>looks_op (h1 q hq) x hx) rfl rfl rfl (fun x m n hk => ?_) h
   rw [aft_put h2] at hk
   exact ⟨hk,same_aft⟩
  ·right
   rw [put_put h2] at hk
   exact ⟨x,hb.congr fun y hy=>ev_put fun q hq=>looks_op (h1 q hq) y hy,hk,same_aft (m:=s.m) (n:=s.n)⟩

/-- What an operation yields, whatever the rest of memory holds. -/
def YieldsT (P:Program) (ops:Array Oper) (l:List Nat) (oi:Oper) (t:T) (s:S):Prop :=
 (guardB ops.toList s oi.guard=some true∧isVal oi.op=true∧∃ n,opF P s.mu s.ev (rst s.m l) n oi.op=some ⟨t,[]⟩)∨(guardB ops.toList s oi.guard=some false∧t=und) ∨
 (guardB ops.toList s oi.guard=some true∧∃ f args ts vs r,oi.op=.call { callee:=.value (.func f),args:=args,argTypes:=ts } ∧ FnZ P f vs r∧args.toList.map s.ev=vs.map .v∧t=.v r)∨(guardB ops.toList s oi.guard=some true∧BldOf P s oi t)
theorem mapO_pure (m:Mem) (d:Nat):∀ vs:List V,mapO (bor false m d) (vs.map .v)=some vs
 | []=>rfl
 | v :: vs=>by
  have e:bor false m d (.v v)=some v:=by cases d <;> rfl
  simp only [List.map_cons,mapO,e,mapO_pure m d vs,Option.bind_some,Option.map_some]
theorem rst_le (m:Mem) (l:List Nat):LeM (rst m l) m:=fun i b h=>by
 unfold rst at h; split at h
 ·exact h
 ·cases h
theorem YieldsT.step {l:List Nat} {i:Nat} {oi:Oper} {t:T} {s:S} {k:S→Prop} (hi:ops[i]? = some oi) (hy:YieldsT P ops l oi t s) (h:k (s.put oi.dst t)):stepP P ops i k s:=by
 unfold stepP
 simp only [hi]
 rcases hy with ⟨hg,hv,n,hE⟩ | ⟨hg,rfl⟩ | ⟨hg,f,args,ts,vs,r,hop,hf,ha,rfl⟩ | ⟨hg,hb⟩
 rotate_left 3
 ·refine ⟨true,hg, ?_⟩
  rw [if_pos rfl]
  exact .inr ⟨t,hb,h⟩
 rotate_left 2
 ·refine ⟨true,hg, ?_⟩
  rw [if_pos rfl]
  left
  unfold opP
  rw [hop]
  show callP P f s.m s.n (args.toList.map s.ev++[]) _
  rw [List.append_nil,ha]
  exact .inl ⟨vs,r,hf,.inl (mapO_pure _ _ _),h⟩
 ·refine ⟨true,hg, ?_⟩
  rw [if_pos rfl,opP_val hv]
  exact .inl ⟨_,opF_mono (rst_le _ _) hE rfl,h⟩
 ·exact ⟨false,hg,by rw [if_neg (by simp)]; exact h⟩
theorem guard_same {s s':S} {d:Option Nat} {o:Oper} (hs:SameBut d s s') (h:∀ q,d=some q→q ∉ o.looksAt ops):guardB ops.toList s' o.guard=guardB ops.toList s o.guard:=by
 cases hg:o.guard with
 | none=>rfl
 | some p =>
  obtain ⟨j,b⟩:=p
  simp only [guardB,dstOf,Array.getElem?_toList]
  cases hd:(ops[j]?).bind (·.dst) with
  | none=>rfl
  | some q =>
   simp only [obind_some]
   rw [hs.2 q fun e=>h q e (by simp [Oper.looksAt,hg,hd])]
theorem YieldsT.same {l:List Nat} {oi:Oper} {t:T} {s s':S} {d:Option Nat} (hy:YieldsT P ops l oi t s) (hs:SameBut d s s') (h:∀ q,d=some q→q ∉ oi.looksAt ops) (hm:∀ x ∈ l,s'.m x=s.m x):YieldsT P ops l oi t s':=by
 unfold YieldsT at *
 rw [guard_same hs h]
 have hr:rst s'.m l=rst s.m l:=by
  funext i
  unfold rst
  split
  ·exact hm i ‹_›
  ·rfl
 have hev:∀ x ∈ oi.op.operands,s.ev x=s'.ev x:=fun x hx=>by
  cases x with
  | tmp q=>exact (hs.2 q fun e=>looks_op (h q e) _ hx rfl).symm
  | _=>rfl
 rcases hy with ⟨hg,hv,n,hE⟩ | hy | ⟨hg,f,args,ts,vs,r,hop,hf,ha,ht⟩ | ⟨hg,hb⟩
 rotate_left 3
 ·exact .inr (.inr (.inr ⟨hg,hb.congr hev⟩))
 rotate_left 2
 ·refine .inr (.inr (.inl ⟨hg,f,args,ts,vs,r,hop,hf, ?_,ht⟩))
  rw [← ha]
  refine (List.map_congr_left fun p hp=>hev p ?_).symm
  rw [hop]; simp [Op.operands,Call.operands,(show p ∈ args by simpa using hp)]
 ·refine .inl ⟨hg,hv,n, ?_⟩
  rw [hr,hs.1,← opF_congr oi.op hev]; exact hE
 ·exact .inr (.inl hy)

theorem anyJ_first {i:Nat} {oi:Oper} {t:T} {Q:S→Prop} {l:List Nat} {K:Nat→List Nat} (hi:ops[i]? = some oi) :
  ∀ (fuel:Nat) (listed:Array Bool) (s:S),
   (∀ j oj,ops[j]? = some oj→j ≠ i→listed.getD j true=false→(∀ e ∈ oj.after,Region.binds .any e=true→e.on ≠ i)→oi.apart ops oj=true∧∀ x ∈ l,x ∈ K j) →
   i ∈ Region.ready .any ops listed→YieldsT P ops l oi t s →
   anyJ P ops K Q fuel (listed.setIfInBounds i true) (s.put oi.dst t)→anyJ P ops K Q (fuel+1) listed s:=by
 intro fuel
 induction fuel with
 | zero =>
  intro listed s _ hr hy H
  refine ⟨fun h=>(by rw [h] at hr; cases hr),fun j hj => ?_⟩
  by_cases hji:j=i
  ·subst hji; exact hy.step hi ⟨fun _ _=>rfl,H⟩
  ·have:=ready_mono hj hji
   rw [H.1] at this
   cases this
 | succ fuel ih =>
  intro listed s hfree hr hy H
  refine ⟨fun h=>(by rw [h] at hr; cases hr),fun j hj => ?_⟩
  by_cases hji:j=i
  ·subst hji; exact hy.step hi ⟨fun _ _=>rfl,H⟩
  ·have h1:=H.2 j (ready_mono hj hji)
   obtain ⟨hjun,oj,hoj,hall⟩:=mem_ready.1 hj
   have hnot:∀ e ∈ oj.after,Region.binds .any e=true→e.on ≠ i:=fun e he hb heq=>by
    have h1:=hall e he hb
    have h0:=(mem_ready.1 hr).1
    rw [heq] at h1
    rcases Nat.lt_or_ge i listed.size with h' | h'
    ·simp [h'] at h0 h1; rw [h0] at h1; cases h1
    ·simp [Array.getElem?_eq_none h'] at h1
   obtain ⟨hap,hids⟩:=hfree j oj hoj hji hjun hnot
   have h2:=stepP_put hoj hap h1
   have hfree':∀ k ok,ops[k]? = some ok→k ≠ i→(listed.setIfInBounds j true).getD k true=false →
     (∀ e ∈ ok.after,Region.binds .any e=true→e.on ≠ i)→oi.apart ops ok=true∧∀ x ∈ l,x ∈ K k:=fun k ok hk hki hun hno=>by
    refine hfree k ok hk hki ?_ hno
    by_cases hjk:j=k
    ·subst hjk; exact hjun
    ·rw [getD_set_ne true hjk] at hun; exact hun
   refine stepP_mono (fun s' h3 => ?_) h2
   obtain ⟨⟨hkeep,hany⟩,hsame⟩:=h3
   refine ⟨hkeep,ih (listed.setIfInBounds j true) s' hfree' (ready_mono hr (Ne.symm hji)) (hy.same hsame (Oper.apart_spec hap).2.2 fun x hx=>hkeep x (hids x hx)) ?_⟩
   rw [Array.setIfInBounds_comm _ _ hji]
   exact hany

theorem freeK_spec {i:Nat} {oi:Oper} {listed:Array Bool} (hi:ops[i]? = some oi) (h:freeK ops L K listed i=true) (j:Nat) (oj:Oper) (hj:ops[j]? = some oj) (hne:j ≠ i) (hun:listed.getD j true=false)
  (hno:∀ e ∈ oj.after,Region.binds .any e=true→e.on ≠ i):oi.apart ops oj=true∧∀ x ∈ L.getD i [],x ∈ K.getD j []:=by
 unfold freeK at h
 rw [Bool.and_eq_true] at h
 refine ⟨Region.free_spec hi h.1 j oj hj hne hun hno,fun x hx => ?_⟩
 have h1:=List.all_eq_true.1 h.2 j (List.mem_range.2 (Array.getElem?_eq_some_iff.1 hj).1)
 simp only [hj,Bool.or_eq_true,beq_iff_eq,hne,false_or,hun,Bool.false_eq_true] at h1
 rcases h1 with h1 | h1
 ·obtain ⟨e,he,hb⟩:=Array.any_eq_true'.1 h1
  simp only [Bool.and_eq_true,beq_iff_eq] at hb
  exact absurd hb.2 (hno e he hb.1)
 ·simpa using List.all_eq_true.1 h1 x hx

theorem ordP_any {Q:S→Prop} {ids:List Nat} : ∀ (ord:List Nat) (listed:Array Bool) (s:S),ordOk ops L K ord listed=true→ordP P ops.toList ids L K Q ord s→anyJ P ops (idsAt ids K) Q ord.length listed s
 | [],listed,s,hk,h=>⟨by simpa [ordOk] using hk,h⟩
 | i :: rest,listed,s,hk,h=>by
  unfold ordOk at hk
  unfold ordP at h
  by_cases hbig:1000≤i
  ·rw [if_pos hbig] at hk
   rw [decide_eq_true hbig,iteP_true] at h
   generalize hj:i-1000=j at hk h
   obtain ⟨o,ho,g,hg,h⟩:=h
   have hi:ops[j]? = some o:=by rw [← Array.getElem?_toList]; exact ho
   simp only [hi,Bool.and_eq_true] at hk
   obtain ⟨hk,hrest⟩:=hk
   have hr:j ∈ Region.ready .any ops listed:=by simpa using hk.1
   have hfree:∀ q oq,ops[q]? = some oq→q ≠ j→listed.getD q true=false→(∀ e ∈ oq.after,Region.binds .any e=true→e.on ≠ j)→o.apart ops oq=true∧∀ x ∈ ([]:List Nat),x ∈ idsAt ids K q:=fun q oq hq hne hun hno =>
    ⟨(freeK_spec (L:=[]) hi hk.2 q oq hq hne hun hno).1,by simp⟩
   cases g with
   | false=>exact anyJ_first hi _ _ _ hfree hr (.inr (.inl ⟨hg,rfl⟩)) (ordP_any rest _ _ hrest h)
   | true =>
    have h:pureC P s o fun d x=>ordP P ops.toList ids L K Q rest (s.put d x):=h
    unfold pureC at h
    split at h
    ·rename_i f args ts hop
     obtain ⟨vs,r,hf,ha,h⟩:=h
     exact anyJ_first hi _ _ _ hfree hr (.inr (.inr (.inl ⟨hg,f,args,ts,vs,r,hop,hf,ha,rfl⟩))) (ordP_any rest _ _ hrest h)
    ·rename_i ty len parts hop
     obtain ⟨ps,e,vs,h1,h2,h⟩:=h
     exact anyJ_first hi _ _ _ hfree hr (.inr (.inr (.inr ⟨hg,ty,len,parts,ps,e,vs,hop,h1,h2,rfl⟩))) (ordP_any rest _ _ hrest h)
    ·exact h.elim
  rw [if_neg hbig] at hk
  rw [decide_eq_false hbig,iteP_false] at h
  obtain ⟨o,ho,g,hg,h⟩:=h
  have hi:ops[i]? = some o:=by rw [← Array.getElem?_toList]; exact ho
  simp only [hi,Bool.and_eq_true] at hk
  obtain ⟨hk,hrest⟩:=hk
  cases hv:isVal o.op with
  | true =>
   rw [hv,if_pos rfl,Bool.and_eq_true] at hk
   have hr:i ∈ Region.ready .any ops listed:=by simpa using hk.1
   have hfree:∀ j oj,ops[j]? = some oj→j ≠ i→listed.getD j true=false→(∀ e ∈ oj.after,Region.binds .any e=true→e.on ≠ i)→o.apart ops oj=true∧∀ x ∈ idsAt ids L i,x ∈ idsAt ids K j:=fun j oj hj hne hun hno=>by
    obtain ⟨h1,h2⟩:=freeK_spec hi hk.2 j oj hj hne hun hno
    refine ⟨h1,fun x hx => ?_⟩
    obtain ⟨y,hy,rfl⟩:=List.mem_map.1 hx
    exact List.mem_map.2 ⟨y,h2 y hy,rfl⟩
   cases g with
   | false =>
    exact anyJ_first hi _ _ _ hfree hr (.inr (.inl ⟨hg,rfl⟩)) (ordP_any rest _ _ hrest h)
   | true =>
    rw [hv] at h
    have h:opP P (s.rs (idsAt ids L i)) o fun s'=>ordP P ops.toList ids L K Q rest (s'.wm s.m s.n):=h
    rw [opP_val hv] at h
    obtain ⟨⟨t,us⟩,hE,h⟩:=h
    obtain rfl:us=[]:=opF_val hv hE
    exact anyJ_first hi _ _ _ hfree hr (.inl ⟨hg,hv,_,hE⟩) (ordP_any rest _ _ hrest h)
  | false =>
   rw [hv,if_neg (by simp)] at hk
   have hr:Region.ready .any ops listed=[i]:=by simpa using hk
   refine ⟨fun h0=>(by rw [hr] at h0; cases h0),fun j hj => ?_⟩
   rw [hr,List.mem_singleton] at hj
   subst hj
   unfold stepP
   simp only [hi]
   refine ⟨g,hg, ?_⟩
   cases g with
   | false =>
    rw [if_neg (by simp)]
    exact ⟨fun _ _=>rfl,ordP_any rest _ _ hrest h⟩
   | true =>
    rw [if_pos rfl]
    rw [hv] at h
    have h:opP P s o fun s'=>keepP (idsAt ids K j) s.m s'.m∧ordP P ops.toList ids L K Q rest s':=h
    exact .inl (opP_mono (fun s' hs=>⟨hs.1,ordP_any rest _ _ hrest hs.2⟩) h)
theorem ordP_run {Q Q':S→Prop} {ids:List Nat} {fuel:Nat} : ∀ (ord:List Nat) (listed:Array Bool) (s:S),preOk ops L K ord listed=true→(∀ s,Q' s→anyJ P ops (idsAt ids K) Q fuel (aftL ord listed) s)→ordP P ops.toList ids L K Q' ord s→anyJ P ops (idsAt ids K) Q (ord.length+fuel) listed s
 | [],listed,s,hk,hQ,h=>by
  rw [List.length_nil,Nat.zero_add]; exact hQ s h
 | i :: rest,listed,s,hk,hQ,h=>by
  have e:(i :: rest).length+fuel=(rest.length+fuel)+1:=by simp only [List.length_cons]; omega
  rw [e]
  unfold preOk at hk
  rw [Bool.and_eq_true] at hk
  obtain ⟨hk,hrest⟩:=hk
  have hQ:∀ s,Q' s→anyJ P ops (idsAt ids K) Q fuel (aftL rest (nextL i listed)) s:=hQ
  unfold stepOk at hk
  unfold nextL at hrest hQ
  unfold ordP at h
  by_cases hbig:1000≤i
  ·rw [if_pos hbig] at hk hrest hQ
   rw [decide_eq_true hbig,iteP_true] at h
   generalize hj:i-1000=j at hk h hrest hQ
   obtain ⟨o,ho,g,hg,h⟩:=h
   have hi:ops[j]? = some o:=by rw [← Array.getElem?_toList]; exact ho
   simp only [hi,Bool.and_eq_true] at hk
   have hr:j ∈ Region.ready .any ops listed:=by simpa using hk.1
   have hfree:∀ q oq,ops[q]? = some oq→q ≠ j→listed.getD q true=false→(∀ e ∈ oq.after,Region.binds .any e=true→e.on ≠ j)→o.apart ops oq=true∧∀ x ∈ ([]:List Nat),x ∈ idsAt ids K q:=fun q oq hq hne hun hno =>
    ⟨(freeK_spec (L:=[]) hi hk.2 q oq hq hne hun hno).1,by simp⟩
   cases g with
   | false=>exact anyJ_first hi _ _ _ hfree hr (.inr (.inl ⟨hg,rfl⟩)) (ordP_run rest _ _ hrest hQ h)
   | true =>
    have h:pureC P s o fun d x=>ordP P ops.toList ids L K Q' rest (s.put d x):=h
    unfold pureC at h
    split at h
    ·rename_i f args ts hop
     obtain ⟨vs,r,hf,ha,h⟩:=h
     exact anyJ_first hi _ _ _ hfree hr (.inr (.inr (.inl ⟨hg,f,args,ts,vs,r,hop,hf,ha,rfl⟩))) (ordP_run rest _ _ hrest hQ h)
    ·rename_i ty len parts hop
     obtain ⟨ps,e,vs,h1,h2,h⟩:=h
     exact anyJ_first hi _ _ _ hfree hr (.inr (.inr (.inr ⟨hg,ty,len,parts,ps,e,vs,hop,h1,h2,rfl⟩))) (ordP_run rest _ _ hrest hQ h)
    ·exact h.elim
  rw [if_neg hbig] at hk hrest hQ
  rw [decide_eq_false hbig,iteP_false] at h
  obtain ⟨o,ho,g,hg,h⟩:=h
  have hi:ops[i]? = some o:=by rw [← Array.getElem?_toList]; exact ho
  simp only [hi] at hk
  cases hv:isVal o.op with
  | true =>
   rw [hv,if_pos rfl,Bool.and_eq_true] at hk
   have hr:i ∈ Region.ready .any ops listed:=by simpa using hk.1
   have hfree:∀ j oj,ops[j]? = some oj→j ≠ i→listed.getD j true=false→(∀ e ∈ oj.after,Region.binds .any e=true→e.on ≠ i)→o.apart ops oj=true∧∀ x ∈ idsAt ids L i,x ∈ idsAt ids K j:=fun j oj hj hne hun hno=>by
    obtain ⟨h1,h2⟩:=freeK_spec hi hk.2 j oj hj hne hun hno
    refine ⟨h1,fun x hx => ?_⟩
    obtain ⟨y,hy,rfl⟩:=List.mem_map.1 hx
    exact List.mem_map.2 ⟨y,h2 y hy,rfl⟩
   cases g with
   | false =>
    exact anyJ_first hi _ _ _ hfree hr (.inr (.inl ⟨hg,rfl⟩)) (ordP_run rest _ _ hrest hQ h)
   | true =>
    rw [hv] at h
    have h:opP P (s.rs (idsAt ids L i)) o fun s'=>ordP P ops.toList ids L K Q' rest (s'.wm s.m s.n):=h
    rw [opP_val hv] at h
    obtain ⟨⟨t,us⟩,hE,h⟩:=h
    obtain rfl:us=[]:=opF_val hv hE
    exact anyJ_first hi _ _ _ hfree hr (.inl ⟨hg,hv,_,hE⟩) (ordP_run rest _ _ hrest hQ h)
  | false =>
   rw [hv,if_neg (by simp)] at hk
   have hr:Region.ready .any ops listed=[i]:=by simpa using hk
   refine ⟨fun h0=>(by rw [hr] at h0; cases h0),fun j hj => ?_⟩
   rw [hr,List.mem_singleton] at hj
   subst hj
   unfold stepP
   simp only [hi]
   refine ⟨g,hg, ?_⟩
   cases g with
   | false =>
    rw [if_neg (by simp)]
    exact ⟨fun _ _=>rfl,ordP_run rest _ _ hrest hQ h⟩
   | true =>
    rw [if_pos rfl]
    rw [hv] at h
    have h:opP P s o fun s'=>keepP (idsAt ids K j) s.m s'.m∧ordP P ops.toList ids L K Q' rest s':=h
    exact .inl (opP_mono (fun s' hs=>⟨hs.1,ordP_run rest _ _ hrest hQ hs.2⟩) h)
theorem ot_any {Q:S→Prop} {ids:List Nat} : ∀ (t:OT) (listed:Array Bool) (s:S),(otOk ops L K t false listed=true→ordT P ops.toList ids L K Q t s→anyJ P ops (idsAt ids K) Q t.size listed s) ∧
  (otOk ops L K t true listed=true→ordT P ops.toList ids L K Q t s→∀ j ∈ t.heads,∃ f,t.size=f+1∧stepP P ops j (fun s'=>keepP (idsAt ids K j) s.m s'.m∧anyJ P ops (idsAt ids K) Q f (listed.setIfInBounds j true) s') s)
 | .done,listed,s=>⟨fun hk h=>⟨by simpa [otOk] using hk,h⟩,fun hk=>by simp [otOk] at hk⟩
 | .run l r,listed,s=>by
  constructor
  ·intro hk h
   simp only [otOk,Bool.and_eq_true] at hk
   exact ordP_run l listed s hk.1 (fun s hq=>(ot_any r _ s).1 hk.2 hq) h
  ·intro hk h j hj
   cases l with
   | nil=>simp [otOk] at hk
   | cons i l =>
    simp only [OT.heads,List.mem_singleton] at hj
    subst hj
    simp only [otOk,Bool.and_eq_true] at hk
    obtain ⟨⟨he,hl⟩,hr⟩:=hk
    refine ⟨l.length+r.size,by simp only [OT.size,List.length_cons]; omega, ?_⟩
    unfold effOk at he
    rw [Bool.and_eq_true,decide_eq_true_eq] at he
    have h:ordP P ops.toList ids L K (fun s=>ordT P ops.toList ids L K Q r s) (j :: l) s:=h
    unfold ordP at h
    have hbig:¬1000≤j:=by omega
    rw [decide_eq_false hbig,iteP_false] at h
    obtain ⟨o,ho,g,hg,h⟩:=h
    have hi:ops[j]? = some o:=by rw [← Array.getElem?_toList]; exact ho
    have hv:isVal o.op=false:=by have:=he.2; simp only [hi] at this; simpa using this
    have next:∀ s,ordP P ops.toList ids L K (fun s=>ordT P ops.toList ids L K Q r s) l s→anyJ P ops (idsAt ids K) Q (l.length+r.size) (listed.setIfInBounds j true) s:=fun s hs =>
     ordP_run l _ s hl (fun s hq=>(ot_any r _ s).1 hr hq) hs
    unfold stepP
    simp only [hi]
    refine ⟨g,hg, ?_⟩
    cases g with
    | false =>
     rw [if_neg (by simp)]
     exact ⟨fun _ _=>rfl,next _ h⟩
    | true =>
     rw [if_pos rfl]
     rw [hv] at h
     have h:opP P s o fun s'=>keepP (idsAt ids K j) s.m s'.m∧ordP P ops.toList ids L K (fun s=>ordT P ops.toList ids L K Q r s) l s':=h
     exact .inl (opP_mono (fun s' hs=>⟨hs.1,next _ hs.2⟩) h)
 | .alt a b,listed,s=>by
  constructor
  ·intro hk h
   simp only [otOk,Bool.and_eq_true,beq_iff_eq,List.all_eq_true] at hk
   obtain ⟨⟨⟨⟨hall,hne⟩,hsz⟩,ha⟩,hb⟩:=hk
   have h:ordT P ops.toList ids L K Q a s∧ordT P ops.toList ids L K Q b s:=h
   have step:∀ j ∈ Region.ready .any ops listed,∃ f,a.size=f+1∧stepP P ops j (fun s'=>keepP (idsAt ids K j) s.m s'.m∧anyJ P ops (idsAt ids K) Q f (listed.setIfInBounds j true) s') s:=fun j hj=>by
    have:=hall j hj
    rcases List.mem_append.1 (by simpa using this:j ∈ a.heads++b.heads) with h1 | h1
    ·exact (ot_any a listed s).2 ha h.1 j h1
    ·rw [hsz]; exact (ot_any b listed s).2 hb h.2 j h1
   have hsome:∃ j,j ∈ Region.ready .any ops listed:=by
    cases e:Region.ready .any ops listed with
    | nil=>rw [e] at hne; simp at hne
    | cons x xs=>exact ⟨x,List.mem_cons_self ..⟩
   obtain ⟨j0,hj0⟩:=hsome
   obtain ⟨f,hf,_⟩:=step j0 hj0
   show anyJ P ops (idsAt ids K) Q a.size listed s
   rw [hf]
   refine ⟨fun h0=>(by rw [h0] at hj0; cases hj0),fun j hj => ?_⟩
   obtain ⟨f',hf',hs⟩:=step j hj
   obtain rfl:f'=f:=by omega
   exact hs
  ·intro hk h j hj
   simp only [otOk,Bool.and_eq_true,beq_iff_eq] at hk
   obtain ⟨⟨hsz,ha⟩,hb⟩:=hk
   have h:ordT P ops.toList ids L K Q a s∧ordT P ops.toList ids L K Q b s:=h
   show ∃ f,a.size=f+1∧_
   rcases List.mem_append.1 (show j ∈ a.heads++b.heads from hj) with h1 | h1
   ·exact (ot_any a listed s).2 ha h.1 j h1
   ·rw [hsz]; exact (ot_any b listed s).2 hb h.2 j h1
end

section
variable {P:Program} {N:Nat} {φ1:Phi} {m1:Mem} {Z0:Zs} {w0:World} {ops:Array Oper} {K:Nat→List Nat}
theorem bld_sound {s:S} {a:Act} {w:World} {o:Oper} {t:T} {k:S→Prop} {next:Act→World→Prop} {Q:Exit→Act→World→Prop} (h:RelF P N φ1 m1 Z0 w0 s a w) (ho:dstOk N o=true) (hb:BldOf P s o t) (hc:k (s.put o.dst t))
  (hk:∀ s' a' w',RelF P N φ1 m1 Z0 w0 s' a' w'→k s'→next a' w'):o.wp P a w next Q:=by
 obtain ⟨φ,Z,hm,htm,hsz,hdf,hst⟩:=h
 obtain ⟨ty,len,parts,ps,e,vs,hop,h1,h2,rfl⟩:=hb
 let ρ':Operand→T:=fun x=>match s.ev x with
  | .v q=>.v q
  | _=>.v .any
 have hρ:∀ x,RepT φ0 Z w (ρ' x) (a.eval x):=fun x=>by
  have:=eval_rep htm x
  show RepT φ0 Z w (match s.ev x with
   | .v q=>.v q
   | _=>.v .any) (a.eval x)
  split
  ·rename_i q hq
   rw [hq] at this
   generalize a.eval x=u at this ⊢
   cases this with | v h=>exact .v h
  ·exact .v (.any _)
 have hm0:RelM P φ0 Z m0 0 w:=⟨fun i u h=>(by cases h),fun _ _=>rfl,fun i b h=>(by cases h),fun i j a b u v k h=>(by cases h),hm.zlt⟩
 have hparts:(parts.toList.map fun p=>(p.1,ρ' p.2))=ps.map fun q=>(q.1,T.v q.2):=by
  rw [← h1]
  refine List.map_congr_left fun p hp => ?_
  have hmem:(p.1,s.ev p.2) ∈ ps.map fun q=>(q.1,T.v q.2):=by rw [← h1]; exact List.mem_map.2 ⟨p,hp,rfl⟩
  obtain ⟨q,_,hq⟩:=List.mem_map.1 hmem
  have hq2:s.ev p.2=.v q.2:=(congrArg Prod.snd hq).symm
  show (p.1,(match s.ev p.2 with
   | .v q=>T.v q
   | _=>.v .any))=_
  rw [hq2]
 have hx:opF P false ρ' m0 0 o.op=some ⟨.loc 0,[(0,some (.arr e vs))]⟩:=by
  rw [hop]
  show evBuildSlice P false ty m0 0 len (parts.toList.map fun p=>(p.1,ρ' p.2))=_
  rw [hparts]; exact h2
 obtain ⟨v,w',φ',Z',hr,q1,q2,q3⟩:=opF_sound hm0 hρ o hx
 have no:∀ g,¬Owned φ0 m0 g:=fun g ⟨i,b,v,h1,_⟩=>by cases h1
 have hbel:Below w.heap.size w w':=⟨q3.os,q3.tape,q3.output,q3.size,fun g hg=>q3.out g hg (no g)⟩
 obtain ⟨g1,g2⟩:=after_call hm hbel
 have hsub:SubZ Z' (freshZ Z w.heap.size w'.heap.size):=fun g o hz'=>by
  rcases q3.znew g o hz' with h1 | h1 | h1
  ·exact .inl h1
  ·exact .inr ⟨h1,q1.zlt.lt g o hz'⟩
  ·exact absurd h1 (no g)
 have hown:∀ g,Owned φ' (applyUs m0 [(0,some (.arr e vs))]) g→∀ o,freshZ Z w.heap.size w'.heap.size g o:=fun g hg o=>by
  refine .inr ⟨?_,q1.owned_lt hg⟩
  rcases Nat.lt_or_ge g w.heap.size with h1 | h1
  ·exact absurd (q3.own g h1 hg) (no g)
  ·exact h1
 have hrep:=bor_sound q1 (k:=true) hsub (fun _=>hown) 4 (.loc 0) v (.sl vs) q2 (by simp [bor,applyUs])
 have htm':=RepTs.mono' g2.sub g2.keep htm g2.ext
 obtain ⟨t1,t2,t3⟩:=tm_put_rel htm' (RepT.v hrep) (dst:=o.dst) (fun d hd=>by rw [hsz]; exact dst_lt ho d hd)
 have hnext:=hk (s.put o.dst (.v (.sl vs))) _ _ ⟨φ,_,g1,t1,by rw [t2,hsz],by rw [t3,hdf],hst.trans g2⟩ hc
 unfold Oper.wp
 rcases hr with hr | ⟨hr,rfl⟩
 ·rw [hr,Oper.upon_value]; exact hnext
 ·rw [hr,Oper.upon_skip]; exact hnext
theorem stepP_sound {s:S} {a:Act} {w:World} {i:Nat} {k:S→Prop} {next:Act→World→Prop} {Q:Exit→Act→World→Prop} (h:RelF P N φ1 m1 Z0 w0 s a w) (hall:ops.toList.all (dstOk N)=true) (hc:stepP P ops i k s)
  (hk:∀ s' a' w',RelF P N φ1 m1 Z0 w0 s' a' w'→k s'→next a' w'):wpOp P ops Q i next a w:=by
 unfold stepP at hc
 unfold wpOp
 cases hi:ops[i]? with
 | none=>rw [hi] at hc; exact hk _ _ _ h hc
 | some o =>
  rw [hi] at hc
  obtain ⟨g,hg,hc⟩:=hc
  have ho:dstOk N o=true:=List.all_eq_true.1 hall o (by rw [Array.mem_toList_iff]; exact Array.mem_of_getElem? hi)
  simp only [guard_sound h hall hg]
  cases g
  ·rw [if_neg (by simp)] at hc ⊢
   exact hk _ _ _ (put_any h ho) hc
  ·rw [if_pos rfl] at hc ⊢
   rcases hc with hc | ⟨t,hb,hc⟩
   ·exact .inl (opP_sound h ho hc hk)
   ·exact .inl (bld_sound h ho hb hc hk)
theorem anyJ_sound {Q:TExit→S→Prop} (hall:ops.toList.all (dstOk N)=true):∀ (fuel:Nat) (listed:Array Bool) (s:S) (a:Act) (w:World),RelF P N φ1 m1 Z0 w0 s a w→anyJ P ops K (Q .normal) fuel listed s →
  wpAny P .any ops (QC P N φ1 m1 Z0 w0 Q) fuel listed a w
 | 0,listed,s,a,w,h,hc=>⟨hc.1,s,h,hc.2⟩
 | fuel+1,listed,s,a,w,h,hc=>⟨fun h0=>⟨s,h,hc.1 h0⟩,fun i hi=>stepP_sound h hall (hc.2 i hi) fun s' a' w' hr hk=>anyJ_sound hall fuel _ s' a' w' hr hk.2⟩

theorem RelF.drew {s:S} {a:Act} {w:World} (h:RelF P N φ1 m1 Z0 w0 s a w):RelF P N φ1 m1 Z0 w0 s a w.drew:=by
 obtain ⟨φ,Z,hm,htm,hsz,hdf,hst⟩:=h
 exact ⟨φ,Z,hm.drew,RepTs.mono' (Z:=Z) (Z':=Z) (w:=w) (w':=w.drew) (fun _ _ h=>h) (fun _ _ _=>rfl) htm (fun _ _ h=>h),hsz,hdf,hst.trans (Step.drew _ _ _ _)⟩
theorem drawP_sound {Q:TExit→S→Prop} {s:S} {a:Act} {w:World} {id:Nat} (hall:ops.toList.all (dstOk N)=true) (h:RelF P N φ1 m1 Z0 w0 s a w) (hc:drawP P ops (Q .normal) s):(Code.region id ops true).wp P (QC P N φ1 m1 Z0 w0 Q) a w:=by
 obtain ⟨hf,⟨ord,ids,L,K,hn,hl,hk,hc⟩ | ⟨t,ids,L,K,hn,hl,hk,hc⟩⟩:=hc
 ·refine wp_region_any hf ?_
  have:=anyJ_sound (Q:=Q) hall _ _ s a _ h.drew (ordP_any ord _ s hk hc)
  rw [hl] at this
  exact this
 ·refine wp_region_any hf ?_
  have:=anyJ_sound (Q:=Q) hall _ _ s a _ h.drew ((ot_any t _ s).1 hk hc)
  rw [hl] at this
  exact this
end
end TL

namespace TL
open Go Go.RowKit

section
variable {P:Program} {N:Nat} {φ1:Phi} {m1:Mem} {Z0:Zs} {w0:World}

theorem twp_sound:∀ (c:Code),dstsOk N c=true→∀ (Q:TExit→S→Prop) (s:S) (a:Act) (w:World),RelF P N φ1 m1 Z0 w0 s a w→twp P c Q s→c.wp P (QC P N φ1 m1 Z0 w0 Q) a w:=by
 intro c
 induction c with
 | skip=>intro _ Q s a w h hc; exact wp_skip ⟨s,h,by unfold twp at hc; exact hc⟩
 | ret=>intro _ Q s a w h hc; exact wp_ret ⟨s,h,by unfold twp at hc; exact hc⟩
 | exit i=>intro _ Q s a w h hc; exact wp_exit ⟨s,h,by unfold twp at hc; exact hc⟩
 | seq x y ihx ihy =>
  intro hd Q s a w h hc
  simp only [dstsOk,Bool.and_eq_true] at hd
  unfold twp at hc
  refine wp_seq (wp_mono (ihx hd.1 _ s a w h hc) ?_)
  intro e a' w' hq
  cases e with
  | normal=>obtain ⟨s',h',hc'⟩:=hq; exact ihy hd.2 Q s' a' w' h' hc'
  | exit i=>exact hq
  | ret=>exact hq
  | _=>exact hq.elim
 | cond q x y ihx ihy =>
  intro hd Q s a w h hc
  simp only [dstsOk,Bool.and_eq_true] at hd
  unfold twp at hc
  obtain ⟨b,hb,hc⟩:=hc
  have hb':a.eval q=.bool b:=by
   obtain ⟨φ,Z,hm,htm,_⟩:=h
   exact boolOf_rep (eval_rep htm q) hb
  refine wp_cond hb' ?_
  cases b
  ·exact ihy hd.2 Q s a w h hc
  ·exact ihx hd.1 Q s a w h hc
 | block i x ih =>
  intro hd Q s a w h hc
  unfold twp at hc
  refine wp_block (wp_mono (ih hd _ s a w h hc) ?_)
  intro e a' w' hq
  cases e with
  | normal=>exact hq
  | exit j =>
   obtain ⟨s',h',hc'⟩:=hq
   simp only [blockP] at hc'
   simp only [Exit.inBlock]
   split
   ·rename_i hj; rw [if_pos hj] at hc'; exact ⟨s',h',hc'⟩
   ·rename_i hj; rw [if_neg hj] at hc'; exact ⟨s',h',hc'⟩
  | ret=>exact hq
  | _=>exact hq.elim
 | loop x ih =>
  intro hd Q s a w h hc
  unfold twp at hc
  obtain ⟨I,μ,hI,hround⟩:=hc
  refine wp_loop_ghost (fun k a w=>∃ s,RelF P N φ1 m1 Z0 w0 s a w∧I s∧μ s=k) (μ s) ⟨s,h,hI,rfl⟩ ?_
  rintro k a w ⟨s,h,hI,rfl⟩
  refine wp_mono (ih hd _ s a w h (hround s hI)) ?_
  intro e a' w' hq
  cases e with
  | normal=>obtain ⟨s',h',hc'⟩:=hq; exact ⟨μ s',hc'.2,s',h',hc'.1,rfl⟩
  | exit i=>exact hq
  | ret=>exact hq
  | _=>exact hq.elim
 | region i ops draw =>
  intro hd Q s a w h hc
  unfold twp at hc
  cases draw
  ·rw [if_neg (by simp)] at hc
   exact wp_region_list (opsP_sound hd _ hd s a w h hc)
  ·rw [if_pos rfl] at hc; exact drawP_sound hd h hc
 | _=>intro _ Q s a w h hc; unfold twp at hc; exact hc.elim
end
end TL

namespace TL
open Go Go.RowKit

section
variable {P:Program}

def resOf (tmps:Array Value):ResultVar→Sem Value
 | .tmp t=>pure (tmps.getD t undef)
 | .cell a t=>do loadVar t (← asAddr (tmps.getD a undef))

def resV:List Value→Value
 | [u]=>u
 | us=>.tuple us.toArray
theorem loadAt_asAddr {t:Nat} {u v:Value} {w:World} (h:(Instr.loadAt t u).run P w=.ok v w):(do loadVar t (← asAddr u)).run P w=.ok v w:=by
 unfold Instr.loadAt Instr.sureAddr at h
 unfold asAddr
 cases u with
 | pointer p =>
  cases p with
  | none=>simp at h
  | some ad=>simpa using h
 | _=>simp at h
theorem outs_sound {φ:Phi} {Z Zb:Zs} {w:World} {s:S} {tmps:Array Value} (hm:RelM P φ Z s.m s.n w) (htm:∀ t,RepT φ Z w (s.tm t) (tmps.getD t undef)) (hs:SubZ Z Zb) (ho:∀ g,Owned φ s.m g→∀ o,Zb g o) :
  ∀ (rs:List ResultVar) (vs:List V),outs P s rs=some vs→∃ us,(rs.mapM (resOf tmps)).run P w=.ok us w∧RepVs Zb w vs us
 | [],vs,h=>by cases h; exact ⟨[],by simp,.nil⟩
 | .tmp t :: rs,vs,h=>by
  simp only [outs] at h
  obtain ⟨x,hx,h⟩:=obind_eq h
  obtain ⟨xs,hxs,h⟩:=obind_eq h
  cases h
  obtain ⟨us,h1,h2⟩:=outs_sound hm htm hs ho rs xs hxs
  exact ⟨_ :: us,by simp [List.mapM_cons,resOf,h1],.cons (bor_sound hm (k:=true) hs (fun _=>ho) 4 _ _ _ (htm t) hx) h2⟩
 | .cell a t :: rs,vs,h=>by
  simp only [outs] at h
  obtain ⟨y,hy,h⟩:=obind_eq h
  obtain ⟨x,hx,h⟩:=obind_eq h
  obtain ⟨xs,hxs,h⟩:=obind_eq h
  cases h
  obtain ⟨us,h1,h2⟩:=outs_sound hm htm hs ho rs xs hxs
  obtain ⟨v,h3,h4⟩:=evLoad_sound hm (htm a) hy
  have h5:(resOf tmps (.cell a t)).run P w=.ok v w:=loadAt_asAddr h3
  exact ⟨v :: us,by simp [List.mapM_cons,h5,h1],.cons (bor_sound hm (k:=true) hs (fun _=>ho) 4 _ _ _ h4 hx) h2⟩

theorem results_outs {fn:Func} {tmps:Array Value} {w:World} {us:List Value} (h:(fn.results.toList.mapM (resOf tmps)).run P w=.ok us w):(results fn tmps).run P w=.ok (resV us) w:=by
 have e:fn.results.mapM (resOf tmps)=List.toArray <$> fn.results.toList.mapM (resOf tmps):=by
  rw [← List.mapM_toArray]
 have e2:(fn.results.mapM (resOf tmps)).run P w=.ok us.toArray w:=by rw [e]; simp [h]
 have e3:results fn tmps=(do let vs ← fn.results.mapM (resOf tmps); pure (if h:vs.size=1 then vs[0] else .tuple vs)):=by
  unfold results
  congr 1
 rw [e3,Sem.run_bind,e2]
 rcases us with _ | ⟨u,_ | ⟨v,us⟩⟩ <;> simp [resV]

theorem rep_outV {Z:Zs} {w:World} {vs:List V} {us:List Value} (h:RepVs Z w vs us):RepV Z w (outV vs) (resV us):=by
 cases h with
 | nil=>exact .tup .nil
 | cons h t =>
  cases t with
  | nil=>exact h
  | cons g t=>exact .tup (.cons h (.cons g t))

/-- The start of a call. -/
def start (mu:Bool) (args:List V):S:=⟨fun t=>(args.map T.v).getD t (.v .any),fun _=>none,0,mu⟩

theorem start_rel {mu:Bool} {args:List V} {vs:List Value} {Z:Zs} {w:World} {N:Nat} (hz:ZOk P Z w) (h:RepVs Z w args vs) (hN:args.length≤N) :
  RelF P N φ0 m0 Z w (start mu args) { tmps:=vs.toArray++Array.replicate (N-vs.toArray.size) undef,defers:=[] } w:=by
 have hl:=h.length
 refine ⟨φ0,Z,⟨fun i u h=>(by simp at h),fun _ _=>rfl,fun i b h=>(by simp [start] at h),fun i j a b u v k h=>(by simp [start] at h),hz⟩,fun t => ?_, ?_,rfl,Step.refl _ _ _ _⟩
 ·have hT:=h.toTs (φ:=φ0)
  simp only [start]
  rw [Array.getD_eq_getD_getElem?,List.getD_eq_getElem?_getD]
  by_cases ht:t<vs.length
  ·obtain ⟨u,hu,hr⟩:=hT.get t ((args.map T.v)[t]'(by simp; omega)) (List.getElem?_eq_getElem _)
   rw [List.getElem?_eq_getElem (by simp; omega),Array.getElem?_append_left (by simpa using ht),List.getElem?_toArray,hu]
   exact hr
  ·rw [List.getElem?_eq_none (by simp; omega),Array.getElem?_append_right (by simp; omega)]
   refine .v ?_
   exact .any _
 ·simp; omega

theorem FnZ_of {f : Nat} {fn : Func} {c : Code} {rs : List ResultVar} {args : List V} {r : V} (mu : Bool) (hf : P.funcs[f]? = some fn) (hb : fn.body = some c) (hr : fn.results.toList = rs) (hn : (fn.name == "runtime.NumGoroutine") = false)
  (hd:dstsOk fn.ntmps c=true) (ha:args.length≤fn.ntmps) (h:twp P c (fun e s=>retP P rs (fun v=>v=r) e s) (start mu args)):FnZ P f args r:=by
 refine ⟨⟨fn,hf,hn,by rw [hb]; rfl⟩,fun Z w vs hz hv => ?_⟩
 refine calls_of_wp hf hb (wp_mono (twp_sound c hd _ _ _ _ (start_rel (N:=fn.ntmps) (mu:=mu) hz hv ha) h) ?_)
 have fin:∀ s a w',RelF P fn.ntmps φ0 m0 Z w s a w'→bindP (outs P s rs) (fun vs=>outV vs=r)→a.defers=[]∧∃ v,(results fn a.tmps).run P w'=.ok v w' ∧
   ∃ v',Ending.returned v=.returned v'∧Below w.heap.size w w'∧RepV (freshZ Z w.heap.size w'.heap.size) w' r v':=by
  rintro s a w' ⟨φ,Z',hm,htm,hsz,hdf,hst⟩ ⟨xs,hxs,rfl⟩
  have no:∀ k,¬Owned φ0 m0 k:=fun k ⟨i,b,v,h1,_⟩=>by cases h1
  have hsub:SubZ Z' (freshZ Z w.heap.size w'.heap.size):=fun k o hz'=>by
   rcases hst.znew k o hz' with h1 | h1 | h1
   ·exact .inl h1
   ·exact .inr ⟨h1,hm.zlt.lt k o hz'⟩
   ·exact absurd h1 (no k)
  have hown:∀ g,Owned φ s.m g→∀ o,freshZ Z w.heap.size w'.heap.size g o:=fun g hg o=>by
   refine .inr ⟨?_,hm.owned_lt hg⟩
   rcases Nat.lt_or_ge g w.heap.size with h1 | h1
   ·exact absurd (hst.own g h1 hg) (no g)
   ·exact h1
  obtain ⟨us,h1,h2⟩:=outs_sound hm htm hsub hown rs xs hxs
  rw [← hr] at h1
  exact ⟨hdf,_,results_outs h1,_,rfl,⟨hst.os,hst.tape,hst.output,hst.size,fun k hk=>hst.out k hk (no k)⟩,rep_outV h2⟩
 intro e a w' hq
 cases e with
 | normal=>obtain ⟨s,h1,h2⟩:=hq; exact fin s a w' h1 h2
 | ret=>obtain ⟨s,h1,h2⟩:=hq; exact fin s a w' h1 h2
 | exit i=>obtain ⟨s,h1,h2⟩:=hq; exact h2.elim
 | _=>exact hq.elim

@[simp] theorem retP_normal {rs:List ResultVar} {R:V→Prop} {s:S} : retP P rs R .normal s=bindP (outs P s rs) fun vs=>R (outV vs):=nrfl
@[simp] theorem retP_ret {rs:List ResultVar} {R:V→Prop} {s:S} : retP P rs R .ret s=bindP (outs P s rs) fun vs=>R (outV vs):=nrfl
@[simp] theorem retP_exit {rs:List ResultVar} {R:V→Prop} {s:S} {i:Nat} : retP P rs R (.exit i) s=False:=nrfl
@[simp] theorem outs_nil {s:S} : outs P s []=some []:=rfl
@[simp] theorem outs_tmp {s:S} {t:Nat} {rs:List ResultVar} : outs P s (.tmp t :: rs)=obind (bor true s.m 4 (s.tm t)) fun x=>obind (outs P s rs) fun xs=>some (x :: xs):=rfl
@[simp] theorem outs_cell {s:S} {a t:Nat} {rs:List ResultVar} : outs P s (.cell a t :: rs)=obind (evLoad P t s.m (s.tm a)) fun y=>obind (bor true s.m 4 y) fun x=>obind (outs P s rs) fun xs=>some (x :: xs):=rfl
@[simp] theorem outV_one {x:V} : outV [x]=x:=rfl
@[simp] theorem outV_none:outV []=.tup []:=rfl
@[simp] theorem outV_two {x y:V} {xs:List V} : outV (x :: y :: xs)=.tup (x :: y :: xs):=rfl
@[simp] theorem start_tm {mu:Bool} {args:List V} {t:Nat} : (start mu args).tm t=(args.map T.v).getD t (.v .any):=rfl
@[simp] theorem start_m {mu:Bool} {args:List V} : (start mu args).m=fun _=>none:=rfl
@[simp] theorem start_n {mu:Bool} {args:List V} : (start mu args).n=0:=rfl
@[simp] theorem start_mu {mu:Bool} {args:List V} : (start mu args).mu=mu:=rfl

/-- Calls. -/
theorem call_ {f:Nat} {m:Mem} {n:Nat} {args:List T} {k:T→Mem→Nat→Prop} {vs:List V} {r:V} (h:FnZ P f vs r) (ha:mapO (bor false m 4) args=some vs) (hk:k (.v r) m n):callP P f m n args k:=.inl ⟨vs,r,h,.inl ha,hk⟩
theorem callM_ {f:Nat} {m:Mem} {n:Nat} {args:List T} {k:T→Mem→Nat→Prop} {vs:List V} {r:V} (h:FnZ P f vs r) (ha:mapO (bor true m 4) args=some vs) (hp:r.flat=true) (hk:k (.v r) m n):callP P f m n args k:=.inl ⟨vs,r,h,.inr ⟨ha,hp⟩,hk⟩
theorem callS_ {f:Nat} {m:Mem} {n:Nat} {args:List T} {k:T→Mem→Nat→Prop} {post:T→Mem→Nat→Prop} (h:FnS P f m n args post) (hk:∀ t m' n',post t m' n'→k t m' n'):callP P f m n args k:=.inr ⟨post,h,hk⟩

/-- What a function's results are to its caller. -/
def outT (P:Program) (s:S):List ResultVar→Option (List T)
 | []=>some []
 | .tmp t :: rs=>obind (outT P s rs) fun xs=>some (s.tm t :: xs)
 | .cell a t :: rs=>obind (evLoad P t s.m (s.tm a)) fun y=>obind (outT P s rs) fun xs=>some (y :: xs)
def outTV:List T→T
 | [x]=>x
 | xs=>.tup xs
@[simp] theorem outT_nil {s:S} : outT P s []=some []:=rfl
@[simp] theorem outT_tmp {s:S} {t:Nat} {rs:List ResultVar} : outT P s (.tmp t :: rs)=obind (outT P s rs) fun xs=>some (s.tm t :: xs):=rfl
@[simp] theorem outT_cell {s:S} {a t:Nat} {rs:List ResultVar} : outT P s (.cell a t :: rs)=obind (evLoad P t s.m (s.tm a)) fun y=>obind (outT P s rs) fun xs=>some (y :: xs):=rfl
@[simp] theorem outTV_one {x:T} : outTV [x]=x:=rfl
@[simp] theorem outTV_none:outTV []=.tup []:=rfl
@[simp] theorem outTV_two {x y:T} {xs:List T} : outTV (x :: y :: xs)=.tup (x :: y :: xs):=rfl
/-- The end of a function with memory. -/
def retS (P:Program) (rs:List ResultVar) (R:T→Mem→Nat→Prop) (e:TExit) (s:S) [Hd R] [Hd s]:Prop :=
 match e with
 | .exit _=>False
 | _=>bindP (outT P s rs) fun ts=>R (outTV ts) s.m s.n
@[simp] theorem retS_normal {rs:List ResultVar} {R:T→Mem→Nat→Prop} {s:S} : retS P rs R .normal s=bindP (outT P s rs) fun vs=>R (outTV vs) s.m s.n:=nrfl
@[simp] theorem retS_ret {rs:List ResultVar} {R:T→Mem→Nat→Prop} {s:S} : retS P rs R .ret s=bindP (outT P s rs) fun vs=>R (outTV vs) s.m s.n:=nrfl
@[simp] theorem retS_exit {rs:List ResultVar} {R:T→Mem→Nat→Prop} {s:S} {i:Nat} : retS P rs R (.exit i) s=False:=nrfl

theorem outT_sound {φ:Phi} {Z:Zs} {w:World} {s:S} {tmps:Array Value} (hm:RelM P φ Z s.m s.n w) (htm:∀ t,RepT φ Z w (s.tm t) (tmps.getD t undef)) :
  ∀ (rs:List ResultVar) (vs:List T),outT P s rs=some vs→∃ us,(rs.mapM (resOf tmps)).run P w=.ok us w∧RepTs φ Z w vs us
 | [],vs,h=>by cases h; exact ⟨[],by simp,.nil⟩
 | .tmp t :: rs,vs,h=>by
  simp only [outT] at h
  obtain ⟨xs,hxs,h⟩:=obind_eq h
  cases h
  obtain ⟨us,h1,h2⟩:=outT_sound hm htm rs xs hxs
  exact ⟨_ :: us,by simp [List.mapM_cons,resOf,h1],.cons (htm t) h2⟩
 | .cell a t :: rs,vs,h=>by
  simp only [outT] at h
  obtain ⟨y,hy,h⟩:=obind_eq h
  obtain ⟨xs,hxs,h⟩:=obind_eq h
  cases h
  obtain ⟨us,h1,h2⟩:=outT_sound hm htm rs xs hxs
  obtain ⟨v,h3,h4⟩:=evLoad_sound hm (htm a) hy
  have h5:(resOf tmps (.cell a t)).run P w=.ok v w:=loadAt_asAddr h3
  exact ⟨v :: us,by simp [List.mapM_cons,h5,h1],.cons h4 h2⟩
theorem rep_outTV {φ:Phi} {Z:Zs} {w:World} {vs:List T} {us:List Value} (h:RepTs φ Z w vs us):RepT φ Z w (outTV vs) (resV us):=by
 cases h with
 | nil=>exact RepT.tup (us:=[]) .nil
 | cons h t =>
  cases t with
  | nil=>exact h
  | cons g t=>exact .tup (.cons h (.cons g t))

/-- The start of a call with memory. -/
def startS (mu:Bool) (m:Mem) (n:Nat) (args:List T):S:=⟨fun t=>args.getD t (.v .any),m,n,mu⟩
@[simp] theorem startS_tm {mu:Bool} {m:Mem} {n:Nat} {args:List T} {t:Nat} : (startS mu m n args).tm t=args.getD t (.v .any):=rfl
@[simp] theorem startS_m {mu:Bool} {m:Mem} {n:Nat} {args:List T} : (startS mu m n args).m=m:=rfl
@[simp] theorem startS_n {mu:Bool} {m:Mem} {n:Nat} {args:List T} : (startS mu m n args).n=n:=rfl
@[simp] theorem startS_mu {mu:Bool} {m:Mem} {n:Nat} {args:List T} : (startS mu m n args).mu=mu:=rfl
theorem startS_rel {mu:Bool} {m:Mem} {n:Nat} {args:List T} {vs:List Value} {φ:Phi} {Z:Zs} {w:World} {N:Nat} (hm:RelM P φ Z m n w) (h:RepTs φ Z w args vs) (hN:args.length≤N) :
  RelF P N φ m Z w (startS mu m n args) { tmps:=vs.toArray++Array.replicate (N-vs.toArray.size) undef,defers:=[] } w:=by
 have hl:=h.length
 refine ⟨φ,Z,hm,fun t => ?_, ?_,rfl,Step.refl _ _ _ _⟩
 ·simp only [startS]
  rw [Array.getD_eq_getD_getElem?,List.getD_eq_getElem?_getD]
  by_cases ht:t<vs.length
  ·obtain ⟨u,hu,hr⟩:=h.get t (args[t]'(by omega)) (List.getElem?_eq_getElem _)
   rw [List.getElem?_eq_getElem (by omega),Array.getElem?_append_left (by simpa using ht),List.getElem?_toArray,hu]
   exact hr
  ·rw [List.getElem?_eq_none (by omega),Array.getElem?_append_right (by simp; omega)]
   refine .v ?_
   exact .any _
 ·simp; omega

theorem FnS_of {f : Nat} {fn : Func} {c : Code} {rs : List ResultVar} {m : Mem} {n : Nat} {args : List T} {post : T → Mem → Nat → Prop} (mu : Bool) (hf : P.funcs[f]? = some fn) (hb : fn.body = some c) (hr : fn.results.toList = rs) (hn : (fn.name == "runtime.NumGoroutine") = false)
  (hd:dstsOk fn.ntmps c=true) (ha:args.length≤fn.ntmps) (h:twp P c (fun e s=>retS P rs post e s) (startS mu m n args)):FnS P f m n args post:=by
 refine ⟨⟨fn,hf,hn,by rw [hb]; rfl⟩,fun φ Z w vs hm hv => ?_⟩
 refine calls_of_wp hf hb (wp_mono (twp_sound c hd _ _ _ _ (startS_rel (N:=fn.ntmps) (mu:=mu) hm hv ha) h) ?_)
 have fin:∀ s a w',RelF P fn.ntmps φ m Z w s a w'→bindP (outT P s rs) (fun vs=>post (outTV vs) s.m s.n)→a.defers=[]∧∃ v,(results fn a.tmps).run P w'=.ok v w' ∧
   ∃ v' φ' Z' m' n' t,Ending.returned v=.returned v'∧RelM P φ' Z' m' n' w'∧RepT φ' Z' w' t v'∧Step φ Z m w φ' Z' m' w'∧post t m' n':=by
  rintro s a w' ⟨φ',Z',hm',htm,hsz,hdf,hst⟩ ⟨xs,hxs,hp⟩
  obtain ⟨us,h1,h2⟩:=outT_sound hm' htm rs xs hxs
  rw [← hr] at h1
  exact ⟨hdf,_,results_outs h1,_,φ',Z',s.m,s.n,_,rfl,hm',rep_outTV h2,hst,hp⟩
 intro e a w' hq
 cases e with
 | normal=>obtain ⟨s,h1,h2⟩:=hq; exact fin s a w' h1 h2
 | ret=>obtain ⟨s,h1,h2⟩:=hq; exact fin s a w' h1 h2
 | exit i=>obtain ⟨s,h1,h2⟩:=hq; exact h2.elim
 | _=>exact hq.elim
end
end TL

namespace TL
open Go Go.RowKit
variable {P:Program}

theorem RelM.frz {φ:Phi} {Z:Zs} {m m2 dm:Mem} {n:Nat} {w:World} (hm:RelM P φ Z m n w) (h2:LeM m2 m) (hd:LeM dm m) (hx:∀ i,m2 i=none∨dm i=none) :
  RelM P φ (fun k o=>Z k o∨Owned φ dm k) m2 n w:=by
 refine ⟨hm.ok,hm.fresh,fun i b hb => ?_,fun i j a b u v k ha hb=>hm.ne i j a b u v k (h2 _ _ ha) (h2 _ _ hb),⟨fun k o h => ?_,hm.zlt.gl.keep (fun _ _ h=>.inl h) fun _ _ _=>rfl⟩⟩
 ·obtain ⟨v,hv,hr⟩:=hm.blk i b (h2 i b hb)
  refine ⟨v,hv,hr.keep (fun _ _ h=>h) (fun _ _ h=>.inl h) (fun _ _ _=>rfl) fun hro k hk=>⟨rfl,fun o ho=>ho.resolve_right ?_⟩⟩
  rintro ⟨j,c,u,hc,hcr,hu,huk⟩
  have he:=hm.ne i j b c v u k (h2 _ _ hb) (hd _ _ hc) hv hu hk huk hro hcr
  subst he
  rcases hx i with h | h
  ·rw [h] at hb; cases hb
  ·rw [h] at hc; cases hc
 ·rcases h with h | ⟨i,b,v,h1,h3,h4,h5⟩
  ·exact hm.zlt.lt k o h
  ·exact hm.owned_lt ⟨i,b,v,hd _ _ h1,h3,h4,h5⟩

theorem RelM.le {φ:Phi} {Z:Zs} {m m2:Mem} {n:Nat} {w:World} (hm:RelM P φ Z m n w) (h2:LeM m2 m):RelM P φ Z m2 n w :=
 ⟨hm.ok,hm.fresh,fun i b hb=>hm.blk i b (h2 i b hb),fun i j a b u v k ha hb=>hm.ne i j a b u v k (h2 _ _ ha) (h2 _ _ hb),hm.zlt⟩

/-- A result whose memory is given away: what it names is read from then on, by whomever. -/
theorem FnS.frz {f:Nat} {m:Mem} {n:Nat} {args:List T} {post post':T→Mem→Nat→Prop} (h:FnS P f m n args post)
  (hp:∀ t m' n',post t m' n'→∃ x m2 dm,LeM m2 m'∧LeM dm m'∧(∀ i,m2 i=none∨dm i=none)∧bor true dm 4 t=some x∧post' (.v x) m2 n'):FnS P f m n args post':=by
 refine ⟨h.1,fun φ Z w us hm hr c => ?_⟩
 obtain ⟨e,w',fr,hh,h5⟩:=h.2 φ Z w us hm hr c
 refine ⟨e,w',fr, ?_,h5⟩
 obtain ⟨v,φ',Z',m',n',t,rfl,h1,h2,h3,h4⟩:=hh
 obtain ⟨x,m2,dm,l2,ld,hx,hb,hq⟩:=hp t m' n' h4
 have hz:=h1.frz l2 ld hx
 refine ⟨v,φ',_,m2,n',.v x,rfl,hz,.v (bor_sound (h1.le ld) (k:=true) (fun k o h=>.inl h) (fun _ g hg o=>.inr hg) 4 _ _ _ h2 hb), ?_,hq⟩
 have own:∀ k,k<w.heap.size→Owned φ' m' k→Owned φ m k:=h3.own
 have ownd:∀ k,Owned φ' dm k→Owned φ' m' k:=fun k ⟨i,b,v,a1,a2⟩=>⟨i,b,v,ld _ _ a1,a2⟩
 refine ⟨h3.ext,fun k o hz=>.inl (h3.sub k o hz),h3.keep,h3.os,h3.tape,h3.output,h3.size,h3.out,fun k hk ⟨i,b,v,a1,a2⟩=>h3.own k hk ⟨i,b,v,l2 _ _ a1,a2⟩,fun k o hzn => ?_⟩
 rcases hzn with hzn | hzn
 ·exact h3.znew k o hzn
 ·by_cases hk:k<w.heap.size
  ·exact .inr (.inr (own k hk (ownd k hzn)))
  ·exact .inr (.inl (by omega))
/-- The same contract with less said. -/
theorem FnS.weak {f:Nat} {m:Mem} {n:Nat} {args:List T} {post post':T→Mem→Nat→Prop} (h:FnS P f m n args post) (hp:∀ t m' n',post t m' n'→post' t m' n'):FnS P f m n args post':=by
 refine ⟨h.1,fun φ Z w us hm hr c => ?_⟩
 obtain ⟨e,w',fr,hh,h5⟩:=h.2 φ Z w us hm hr c
 refine ⟨e,w',fr, ?_,h5⟩
 obtain ⟨v,φ',Z',m',n',t,rfl,h1,h2,h3,h4⟩:=hh
 exact ⟨v,φ',Z',m',n',t,rfl,h1,h2,h3,hp _ _ _ h4⟩
end TL

namespace TL
open Go

section
variable {P:Program} {Q:TExit→S→Prop} {s:S}
@[simp] theorem twp_skip:twp P .skip Q s=Q .normal s:=by simp [twp]
@[simp] theorem twp_seq (a b:Code):twp P (.seq a b) Q s=twp P a (fun e s=>thenP (fun s=>twp P b Q s) Q e s) s:=by simp [twp]
@[simp] theorem twp_cond (c:Operand) (a b:Code):twp P (.cond c a b) Q s=bindP (boolOf (s.ev c)) fun q=>iteP q (twp P a Q s) (twp P b Q s):=by simp [twp]
@[simp] theorem twp_block (i:Nat) (c:Code):twp P (.block i c) Q s=twp P c (fun e s=>blockP i Q e s) s:=by simp [twp]
@[simp] theorem twp_exit (i:Nat):twp P (.exit i) Q s=Q (.exit i) s:=by simp [twp]
@[simp] theorem twp_ret:twp P .ret Q s=Q .ret s:=by simp [twp]
@[simp] theorem twp_region (i:Nat) (l:List Oper):twp P (.region i l.toArray false) Q s=opsP P l l (fun s=>Q .normal s) s:=by simp [twp]
@[simp] theorem thenP_normal (A:S→Prop):thenP A Q .normal s=A s:=nrfl
@[simp] theorem thenP_exit (A:S→Prop) (i:Nat):thenP A Q (.exit i) s=Q (.exit i) s:=nrfl
@[simp] theorem thenP_ret (A:S→Prop):thenP A Q .ret s=Q .ret s:=nrfl
@[simp] theorem blockP_normal (i:Nat):blockP i Q .normal s=Q .normal s:=nrfl
@[simp] theorem blockP_exit_same (i:Nat):blockP i Q (.exit i) s=Q .normal s:=if_pos rfl
@[simp] theorem blockP_exit (i j:Nat):blockP i Q (.exit j) s=iteP (decide (j=i)) (Q .normal s) (Q (.exit j) s):=by simp [blockP,iteP]
@[simp] theorem blockP_ret (i:Nat):blockP i Q .ret s=Q .ret s:=nrfl
theorem twp_draw {i:Nat} {l:List Oper} (ord ids:List Nat) (L K:List (List Nat)) (hf:P.follows .mixedOrders=true) (hn:Region.noSelect l.toArray=true) (hl:ord.length=l.toArray.size) (hk:ordOk l.toArray L K ord (Array.replicate l.toArray.size false)=true) (h:ordP P l ids L K (fun s=>Q .normal s) ord s):twp P (.region i l.toArray true) Q s:=by
 unfold twp; rw [if_pos rfl]; exact ⟨hf,.inl ⟨ord,ids,L,K,hn,hl,hk,h⟩⟩
theorem twp_drawT {i:Nat} {l:List Oper} (t:OT) (ids:List Nat) (L K:List (List Nat)) (hf:P.follows .mixedOrders=true) (hn:Region.noSelect l.toArray=true) (hl:t.size=l.toArray.size) (hk:otOk l.toArray L K t false (Array.replicate l.toArray.size false)=true) (h:ordT P l ids L K (fun s=>Q .normal s) t s):twp P (.region i l.toArray true) Q s:=by
 unfold twp; rw [if_pos rfl]; exact ⟨hf,.inr ⟨t,ids,L,K,hn,hl,hk,h⟩⟩
@[simp] theorem ordT_done (all:List Oper) (ids:List Nat) (L K:List (List Nat)) (Q:S→Prop):ordT P all ids L K Q .done s=Q s:=nrfl
@[simp] theorem ordT_run (all:List Oper) (ids:List Nat) (L K:List (List Nat)) (Q:S→Prop) (l:List Nat) (r:OT):ordT P all ids L K Q (.run l r) s=ordP P all ids L K (fun s=>ordT P all ids L K Q r s) l s:=nrfl
theorem ordT_both {all:List Oper} {ids:List Nat} {L K:List (List Nat)} {Q:S→Prop} {a b:OT} (h:ordT P all ids L K Q a s) (g:ordT P all ids L K Q b s):ordT P all ids L K Q (.alt a b) s:=⟨h,g⟩
theorem twp_loop {c:Code} (I:S→Prop) (μ:S→Nat) (h:I s) (hs:∀ s,I s→twp P c (fun e s1=>thenP (fun s'=>I s'∧μ s'<μ s) Q e s1) s):twp P (.loop c) Q s:=by
 unfold twp; exact ⟨I,μ,h,hs⟩
end

section
variable {P:Program} {s:S}
@[simp] theorem opsP_nil (all:List Oper) (Q:S→Prop):opsP P all [] Q s=Q s:=nrfl
@[simp] theorem opsP_cons (all rest:List Oper) (o:Oper) (Q:S→Prop):opsP P all (o :: rest) Q s=bindP (guardB all s o.guard) fun g=>iteP g (opP P s o fun s'=>opsP P all rest Q s') (opsP P all rest Q (s.put o.dst und)):=nrfl
@[simp] theorem opsP_cons_g (all rest:List Oper) (d:Option Nat) (op:Op) (ty:TypeId) (pos:String) (af:Array Edge) (Q:S→Prop):opsP P all (⟨d,op,ty,pos,af,none⟩ :: rest) Q s=opP P s ⟨d,op,ty,pos,af,none⟩ fun s'=>opsP P all rest Q s':=by simp [guardB]
@[simp] theorem guardB_none (all:List Oper):guardB all s none=some true:=rfl
@[simp] theorem guardB_some (all:List Oper) (j:Nat) (b:Bool):guardB all s (some (j,b))=obind (dstOf all j) fun d=>guardOf b (s.tm d):=rfl
@[simp] theorem dstOf_zero (o:Oper) (all:List Oper):dstOf (o :: all) 0=o.dst:=by simp [dstOf]
@[simp] theorem dstOf_succ (o:Oper) (all:List Oper) (j:Nat):dstOf (o :: all) (j+1)=dstOf all j:=by simp [dstOf]
@[simp] theorem opAt_zero (o:Oper) (all:List Oper):opAt (o :: all) 0=some o:=by simp [opAt]
@[simp] theorem opAt_succ (o:Oper) (all:List Oper) (j:Nat):opAt (o :: all) (j+1)=opAt all j:=by simp [opAt]
@[simp] theorem ordP_nil (all:List Oper) (ids:List Nat) (L K:List (List Nat)) (Q:S→Prop):ordP P all ids L K Q [] s=Q s:=nrfl
theorem ordP_cons (all : List Oper) (ids : List Nat) (L K : List (List Nat)) (Q : S → Prop) (i : Nat) (rest : List Nat) : ordP P all ids L K Q (i :: rest) s = iteP (decide (1000 ≤ i)) (bindP (opAt all (i - 1000)) fun o => bindP (guardB all s o.guard) fun g => iteP g (pureC P s o fun d x => ordP P all ids L K Q rest (s.put d x)) (ordP P all ids L K Q rest (s.put o.dst und)))
      (bindP (opAt all i) fun o => bindP (guardB all s o.guard) fun g => iteP g
      (iteP (isVal o.op) (opP P (s.rs (idsAt ids L i)) o fun s' => ordP P all ids L K Q rest (s'.wm s.m s.n)) (opP P s o fun s' => keepP (idsAt ids K i) s.m s'.m ∧ ordP P all ids L K Q rest s'))
      (ordP P all ids L K Q rest (s.put o.dst und))) := nrfl
attribute [simp] isVal idsAt
@[simp] theorem keepP_nil (m m':Mem):keepP [] m m'=True:=by simp [keepP]
@[simp] theorem keepP_cons (m m':Mem) (i:Nat) (l:List Nat):keepP (i :: l) m m'=(m' i=m i∧keepP l m m'):=by simp [keepP]
@[simp] theorem rst_nil (m:Mem) (i:Nat):rst m [] i=none:=by simp [rst]
@[simp] theorem rst_cons (m:Mem) (i j:Nat) (l:List Nat):rst m (j :: l) i=if i=j then m i else rst m l i:=by
 by_cases h:i=j <;> simp [rst,h]
@[simp] theorem tm_rs (l:List Nat):(s.rs l).tm=s.tm:=rfl
@[simp] theorem m_rs (l:List Nat):(s.rs l).m=rst s.m l:=rfl
@[simp] theorem n_rs (l:List Nat):(s.rs l).n=s.n:=rfl
@[simp] theorem mu_rs (l:List Nat):(s.rs l).mu=s.mu:=rfl
@[simp] theorem tm_wm (m:Mem) (n:Nat):(s.wm m n).tm=s.tm:=rfl
@[simp] theorem m_wm (m:Mem) (n:Nat):(s.wm m n).m=m:=rfl
@[simp] theorem n_wm (m:Mem) (n:Nat):(s.wm m n).n=n:=rfl
@[simp] theorem mu_wm (m:Mem) (n:Nat):(s.wm m n).mu=s.mu:=rfl
@[simp] theorem boolOf_bool (b:Bool):boolOf (.v (.bool b))=some b:=rfl
@[simp] theorem ev_tmp (t:Nat):s.ev (.tmp t)=s.tm t:=rfl
@[simp] theorem ev_const (v:Value):s.ev (.const v)=const v:=rfl
@[simp] theorem ev_func (f:Nat):s.ev (.func f)=.fn f []:=rfl
@[simp] theorem const_bool (b:Bool):const (.bool b)=.v (.bool b):=rfl
@[simp] theorem const_int (k:IntKind) (n:Int):const (.int k n)=.v (.int k n):=rfl
@[simp] theorem const_str (b:ByteArray):const (.string b)=.v (.str b.data.toList):=rfl
@[simp] theorem const_nil:const (.slice none 0 0)=.nil:=rfl
@[simp] theorem const_agg (l:List Value):const (.agg l.toArray)=.agg (l.map constCell):=by simp [const]
@[simp] theorem constCell_bool (b:Bool):constCell (.bool b)=.v (.bool b):=rfl
@[simp] theorem constCell_int (k:IntKind) (n:Int):constCell (.int k n)=.v (.int k n):=rfl
@[simp] theorem constCell_str (b:ByteArray):constCell (.string b)=.v (.str b.data.toList):=rfl
@[simp] theorem constCell_nil:constCell (.slice none 0 0)=.nil:=rfl
@[simp] theorem constCell_nf:constCell .nilFunc=.nf:=rfl
@[simp] theorem tm_app (d:Nat) (E:Eff) (t:Nat):(s.app (some d) E).tm t=if t=d then E.val else s.tm t:=rfl
@[simp] theorem tm_app_none (E:Eff):(s.app none E).tm=s.tm:=rfl
@[simp] theorem m_app (d:Option Nat) (E:Eff):(s.app d E).m=applyUs s.m E.us:=rfl
@[simp] theorem n_app (d:Option Nat) (E:Eff):(s.app d E).n=bump s.n E.us:=rfl
@[simp] theorem bump_nil (n:Nat):bump n []=n:=rfl
@[simp] theorem bump_cons (n:Nat) (x:Nat × Option Blk) (xs:List (Nat × Option Blk)):bump n (x :: xs)=n+1:=rfl
@[simp] theorem const_ptr:const (.pointer none)=.v .any:=rfl
@[simp] theorem mu_app (d:Option Nat) (E:Eff):(s.app d E).mu=s.mu:=rfl
@[simp] theorem tm_aft (d:Nat) (x:T) (m:Mem) (n:Nat) (t:Nat):(s.aft (some d) x m n).tm t=if t=d then x else s.tm t:=rfl
@[simp] theorem tm_aft_none (x:T) (m:Mem) (n:Nat):(s.aft none x m n).tm=s.tm:=rfl
@[simp] theorem m_aft (d:Option Nat) (x:T) (m:Mem) (n:Nat):(s.aft d x m n).m=m:=rfl
@[simp] theorem n_aft (d:Option Nat) (x:T) (m:Mem) (n:Nat):(s.aft d x m n).n=n:=rfl
@[simp] theorem mu_aft (d:Option Nat) (x:T) (m:Mem) (n:Nat):(s.aft d x m n).mu=s.mu:=rfl
@[simp] theorem tm_put (d:Nat) (x:T) (t:Nat):(s.put (some d) x).tm t=if t=d then x else s.tm t:=rfl
@[simp] theorem tm_put_none (x:T):(s.put none x).tm=s.tm:=rfl
@[simp] theorem m_put (d:Option Nat) (x:T):(s.put d x).m=s.m:=rfl
@[simp] theorem n_put (d:Option Nat) (x:T):(s.put d x).n=s.n:=rfl
@[simp] theorem mu_put (d:Option Nat) (x:T):(s.put d x).mu=s.mu:=rfl
@[simp] theorem applyUs_nil (m:Mem):applyUs m []=m:=rfl
@[simp] theorem applyUs_cons (m:Mem) (i:Nat) (b:Option Blk) (us:List (Nat × Option Blk)):applyUs m ((i,b) :: us)=applyUs (updM m i b) us:=rfl
end

section
variable {P:Program} {s:S} {d:Option Nat} {ty:TypeId} {pos:String} {af:Array Edge} {gd:Option (Nat × Bool)} {K:S→Prop}
def callV (P:Program) (s:S) (args:List T) (d:Option Nat) (K:S→Prop) [Hd s] [Hd args] [Hd K]:T→Prop
 | .fn f cap=>callP P f s.m s.n (args++cap) fun t m n=>K (s.aft d t m n)
 | .v (.fn f cap)=>callP P f s.m s.n (args++cap.map .v) fun t m n=>K (s.aft d t m n)
 | _=>False
@[simp] theorem callV_fn (args cap:List T) (f:Nat):callV P s args d K (.fn f cap)=callP P f s.m s.n (args++cap) fun t m n=>K (s.aft d t m n):=nrfl
@[simp] theorem callV_vfn (args:List T) (cap:List V) (f:Nat):callV P s args d K (.v (.fn f cap))=callP P f s.m s.n (args++cap.map .v) fun t m n=>K (s.aft d t m n):=nrfl
@[simp] theorem opP_call (g:Operand) (args:Array Operand) (ts:Array TypeId):opP P s ⟨d,.call ⟨.value g,args,ts⟩,ty,pos,af,gd⟩ K=callV P s (args.toList.map s.ev) d K (s.ev g):=by
 unfold opP callV; simp only; split <;> simp_all
@[simp] theorem opP_builtin (b:Builtin) (args:Array Operand) (ts:Array TypeId):opP P s ⟨d,.call ⟨.builtin b,args,ts⟩,ty,pos,af,gd⟩ K=bindP (evBuiltin P s.mu b ts.toList s.m s.n (args.toList.map s.ev)) fun E=>K (s.app d E):=nrfl
@[simp] theorem opP_move (x:Operand):opP P s ⟨d,.move x,ty,pos,af,gd⟩ K=bindP (some (s.ev x)) fun x=>K (s.app d ⟨x,[]⟩):=by simp [opP,opF]
@[simp] theorem opP_assign (x:Operand):opP P s ⟨d,.assign x,ty,pos,af,gd⟩ K=bindP (some (s.ev x)) fun x=>K (s.app d ⟨x,[]⟩):=by simp [opP,opF]
@[simp] theorem opP_pick (c a b:Operand):opP P s ⟨d,.pick c a b,ty,pos,af,gd⟩ K=bindP (obind (boolOf (s.ev c)) fun q=>some (evPick q (s.ev a) (s.ev b))) fun x=>K (s.app d ⟨x,[]⟩):=by
 simp only [opP,opF]; cases boolOf (s.ev c) <;> simp
@[simp] theorem opP_not (t:TypeId) (x:Operand):opP P s ⟨d,.unOp .not t x,ty,pos,af,gd⟩ K=bindP (boolOf (s.ev x)) fun b=>K (s.app d ⟨.v (.bool !b),[]⟩):=by
 simp only [opP,opF]; cases boolOf (s.ev x) <;> simp
@[simp] theorem opP_alloc (t:TypeId):opP P s ⟨d,.alloc t,ty,pos,af,gd⟩ K=bindP (evAlloc P t s.n) fun E=>K (s.app d E):=nrfl
@[simp] theorem opP_box (t:TypeId) (x:Operand):opP P s ⟨d,.box t x,ty,pos,af,gd⟩ K=bindP (evBox P t s.n (s.ev x)) fun E=>K (s.app d E):=nrfl
@[simp] theorem opP_buildSlice (t:TypeId) (len:Nat) (l:List (Nat × Operand)):opP P s ⟨d,.buildSlice t len l.toArray,ty,pos,af,gd⟩ K=bindP (evBuildSlice P s.mu t s.m s.n len (l.map fun p=>(p.1,s.ev p.2))) fun E=>K (s.app d E):=nrfl
@[simp] theorem opP_makeFunc (f:Nat) (cap:List Operand):opP P s ⟨d,.makeFunc (.func f) #[] cap.toArray,ty,pos,af,gd⟩ K=bindP (some (T.fn f (cap.map s.ev))) fun x=>K (s.app d ⟨x,[]⟩):=by simp [opP,opF]
@[simp] theorem opP_makeSlice (t:TypeId) (x y:Operand):opP P s ⟨d,.makeSlice t x y,ty,pos,af,gd⟩ K=bindP (evMake P t s.n (s.ev x) (s.ev y)) fun E=>K (s.app d E):=nrfl
@[simp] theorem opP_store (t:TypeId) (a x:Operand):opP P s ⟨d,.store t a x,ty,pos,af,gd⟩ K=bindP (evStore P t s.m (s.ev x) (s.ev a)) fun u=>K (s.app d ⟨.v .any,[u]⟩):=by
 simp only [opP,opF]; cases evStore P t s.m (s.ev x) (s.ev a) <;> simp
@[simp] theorem opP_makeMap (t:TypeId):opP P s ⟨d,.makeMap t none,ty,pos,af,gd⟩ K=bindP (evMakeMap P t s.n) fun E=>K (s.app d E):=nrfl
@[simp] theorem opP_mapUpdate (t:TypeId) (a i x:Operand):opP P s ⟨d,.mapUpdate t a i x,ty,pos,af,gd⟩ K=bindP (evMapSet P t s.m (s.ev a) (s.ev i) (s.ev x)) fun u=>K (s.app d ⟨.v .any,[u]⟩):=by
 simp only [opP,opF]; cases evMapSet P t s.m (s.ev a) (s.ev i) (s.ev x) <;> simp
@[simp] theorem opP_insert (t:TypeId) (a i x:Operand):opP P s ⟨d,.insert t a i x,ty,pos,af,gd⟩ K=bindP (evMapSet P t s.m (s.ev a) (s.ev i) (s.ev x)) fun u=>K (s.app d ⟨.v .any,[u]⟩):=by
 simp only [opP,opF]; cases evMapSet P t s.m (s.ev a) (s.ev i) (s.ev x) <;> simp
@[simp] theorem opP_build (t:TypeId) (l:List (Nat × Operand)):opP P s ⟨d,.build t l.toArray,ty,pos,af,gd⟩ K=bindP (evBuild P t (l.map fun p=>(p.1,s.ev p.2))) fun x=>K (s.app d ⟨x,[]⟩):=by
 simp only [opP,opF]; cases evBuild P t (l.map fun p=>(p.1,s.ev p.2)) <;> simp
@[simp] theorem opP_load (t:TypeId) (a:Operand):opP P s ⟨d,.load t a,ty,pos,af,gd⟩ K=bindP (evLoad P t s.m (s.ev a)) fun x=>K (s.app d ⟨x,[]⟩):=by
 simp only [opP,opF]; cases evLoad P t s.m (s.ev a) <;> simp
@[simp] theorem opP_lookup (t:TypeId) (x i:Operand) (ok:Bool):opP P s ⟨d,.lookup t x i ok,ty,pos,af,gd⟩ K=bindP (evLookup P t s.m ok (s.ev x) (s.ev i)) fun x=>K (s.app d ⟨x,[]⟩):=by
 simp only [opP,opF]; cases evLookup P t s.m ok (s.ev x) (s.ev i) <;> simp
@[simp] theorem opP_nilCheck (x:Operand):opP P s ⟨d,.nilCheck x,ty,pos,af,gd⟩ K=bindP (evNilCheck (s.ev x)) fun x=>K (s.app d ⟨x,[]⟩):=by
 simp only [opP,opF]; cases evNilCheck (s.ev x) <;> simp
@[simp] theorem opP_binOp_tmp (op:BinOp) (t t':TypeId) (x:Operand) (j:Nat):opP P s ⟨d,.binOp op t x (.tmp j) t',ty,pos,af,gd⟩ K=bindP (evBin P s.m op t (s.ev x) (s.ev (.tmp j))) fun x=>K (s.app d ⟨x,[]⟩):=by
 have e:opP P s ⟨d,.binOp op t x (.tmp j) t',ty,pos,af,gd⟩ K=bindP (obind (evBin P s.m op t (s.ev x) (s.ev (.tmp j))) fun x=>some ⟨x,[]⟩) fun E=>K (s.app d E):=by cases op <;> rfl
 rw [e]; cases evBin P s.m op t (s.ev x) (s.ev (.tmp j)) <;> simp
@[simp] theorem opP_binOp_int (op:BinOp) (t t':TypeId) (x:Operand) (k:IntKind) (n:Int):opP P s ⟨d,.binOp op t x (.const (.int k n)) t',ty,pos,af,gd⟩ K=bindP (evBin P s.m op t (s.ev x) (s.ev (.const (.int k n)))) fun x=>K (s.app d ⟨x,[]⟩):=by
 have e:opP P s ⟨d,.binOp op t x (.const (.int k n)) t',ty,pos,af,gd⟩ K=bindP (obind (evBin P s.m op t (s.ev x) (s.ev (.const (.int k n)))) fun x=>some ⟨x,[]⟩) fun E=>K (s.app d E):=by cases op <;> rfl
 rw [e]; cases evBin P s.m op t (s.ev x) (s.ev (.const (.int k n))) <;> simp
@[simp] theorem opP_binOp_bool (op:BinOp) (t t':TypeId) (x:Operand) (b:Bool):opP P s ⟨d,.binOp op t x (.const (.bool b)) t',ty,pos,af,gd⟩ K=bindP (evBin P s.m op t (s.ev x) (s.ev (.const (.bool b)))) fun x=>K (s.app d ⟨x,[]⟩):=by
 have e:opP P s ⟨d,.binOp op t x (.const (.bool b)) t',ty,pos,af,gd⟩ K=bindP (obind (evBin P s.m op t (s.ev x) (s.ev (.const (.bool b)))) fun x=>some ⟨x,[]⟩) fun E=>K (s.app d E):=by cases op <;> rfl
 rw [e]; cases evBin P s.m op t (s.ev x) (s.ev (.const (.bool b))) <;> simp
@[simp] theorem opP_binOp_str (op:BinOp) (t t':TypeId) (x:Operand) (b:ByteArray):opP P s ⟨d,.binOp op t x (.const (.string b)) t',ty,pos,af,gd⟩ K=bindP (evBin P s.m op t (s.ev x) (s.ev (.const (.string b)))) fun x=>K (s.app d ⟨x,[]⟩):=by
 have e:opP P s ⟨d,.binOp op t x (.const (.string b)) t',ty,pos,af,gd⟩ K=bindP (obind (evBin P s.m op t (s.ev x) (s.ev (.const (.string b)))) fun x=>some ⟨x,[]⟩) fun E=>K (s.app d E):=by cases op <;> rfl
 rw [e]; cases evBin P s.m op t (s.ev x) (s.ev (.const (.string b))) <;> simp
@[simp] theorem opP_binOp_agg (op:BinOp) (t t':TypeId) (x:Operand) (b:Array Value):opP P s ⟨d,.binOp op t x (.const (.agg b)) t',ty,pos,af,gd⟩ K=bindP (evBin P s.m op t (s.ev x) (s.ev (.const (.agg b)))) fun x=>K (s.app d ⟨x,[]⟩):=by
 have e:opP P s ⟨d,.binOp op t x (.const (.agg b)) t',ty,pos,af,gd⟩ K=bindP (obind (evBin P s.m op t (s.ev x) (s.ev (.const (.agg b)))) fun x=>some ⟨x,[]⟩) fun E=>K (s.app d E):=by cases op <;> rfl
 rw [e]; cases evBin P s.m op t (s.ev x) (s.ev (.const (.agg b))) <;> simp
@[simp] theorem opP_eqNil (t t':TypeId) (x:Operand):opP P s ⟨d,.binOp .eql t x (.const (.slice none 0 0)) t',ty,pos,af,gd⟩ K=nilP P t (s.ev x) fun b=>K (s.app d ⟨.v (.bool b),[]⟩):=nrfl
@[simp] theorem opP_neNil (t t':TypeId) (x:Operand):opP P s ⟨d,.binOp .neq t x (.const (.slice none 0 0)) t',ty,pos,af,gd⟩ K=nilP P t (s.ev x) fun b=>K (s.app d ⟨.v (.bool !b),[]⟩):=nrfl
@[simp] theorem nilP_sl (t:TypeId) (xs:List V) (k:Bool→Prop):nilP P t (.v (.sl xs)) k=((elT P t).isSome=true∧∀ b:Bool,(b=true→xs=[])→k b):=nrfl
@[simp] theorem nilP_nil (t:TypeId) (k:Bool→Prop):nilP P t .nil k=((elT P t).isSome=true∧k true):=nrfl
@[simp] theorem opP_neg (t:TypeId) (x:Operand):opP P s ⟨d,.unOp .neg t x,ty,pos,af,gd⟩ K=bindP (evNeg (s.ev x)) fun x=>K (s.app d ⟨x,[]⟩):=by
 simp only [opP,opF]; cases evNeg (s.ev x) <;> simp
@[simp] theorem opP_convert (t t':TypeId) (x:Operand):opP P s ⟨d,.convert t t' x,ty,pos,af,gd⟩ K=bindP (evConvert P t t' s.m (s.ev x)) fun x=>K (s.app d ⟨x,[]⟩):=by
 simp only [opP,opF]; cases evConvert P t t' s.m (s.ev x) <;> simp
@[simp] theorem opP_slice (t:TypeId) (x:Operand) (lo hi:Option Operand):opP P s ⟨d,.slice t x lo hi none,ty,pos,af,gd⟩ K=bindP (evSlice P t s.m (lo.map s.ev) (hi.map s.ev) (s.ev x)) fun x=>K (s.app d ⟨x,[]⟩):=by
 simp only [opP,opF]; cases evSlice P t s.m (lo.map s.ev) (hi.map s.ev) (s.ev x) <;> simp
@[simp] theorem opP_clip (t:TypeId) (x mx:Operand) (lo hi:Option Operand):opP P s ⟨d,.slice t x lo hi (some mx),ty,pos,af,gd⟩ K=bindP (evClipM P t s.m s.n (lo.map s.ev) (hi.map s.ev) (s.ev mx) (s.ev x)) fun E=>K (s.app d E):=nrfl
@[simp] theorem opP_fieldAddr (t:TypeId) (x:Operand) (f:Nat):opP P s ⟨d,.fieldAddr t x f,ty,pos,af,gd⟩ K=bindP (evFieldAddr P t f (s.ev x)) fun x=>K (s.app d ⟨x,[]⟩):=by
 simp only [opP,opF]; cases evFieldAddr P t f (s.ev x) <;> simp
@[simp] theorem opP_indexAddr (t:TypeId) (x i:Operand):opP P s ⟨d,.indexAddr t x i,ty,pos,af,gd⟩ K=bindP (evIndexAddr P t s.m (s.ev x) (s.ev i)) fun x=>K (s.app d ⟨x,[]⟩):=by
 simp only [opP,opF]; cases evIndexAddr P t s.m (s.ev x) (s.ev i) <;> simp
@[simp] theorem opP_index (t:TypeId) (x i:Operand):opP P s ⟨d,.index t x i,ty,pos,af,gd⟩ K=bindP (evIndex P t (s.ev i) (s.ev x)) fun x=>K (s.app d ⟨x,[]⟩):=by
 simp only [opP,opF]; cases evIndex P t (s.ev i) (s.ev x) <;> simp
@[simp] theorem opP_extract (x:Operand) (i:Nat):opP P s ⟨d,.extract x i,ty,pos,af,gd⟩ K=bindP (evExtract i (s.ev x)) fun x=>K (s.app d ⟨x,[]⟩):=by
 simp only [opP,opF]; cases evExtract i (s.ev x) <;> simp
end

/-! evaluation -/
@[simp] theorem cells_agg (cs:List T):(T.agg cs).cells=cs:=rfl
@[simp] theorem cells_vagg (cs:List V):(T.v (.agg cs)).cells=cs.map .v:=rfl
@[simp] theorem vcells_int (k:IntKind) (n:Int):(V.int k n).cells=[.int k n]:=rfl
@[simp] theorem cells_vint (k:IntKind) (n:Int):(T.v (.int k n)).cells=[.v (.int k n)]:=rfl
@[simp] theorem vcells_bool (b:Bool):(V.bool b).cells=[.bool b]:=rfl
@[simp] theorem cells_vbool (b:Bool):(T.v (.bool b)).cells=[.v (.bool b)]:=rfl
@[simp] theorem vcells_str (b:List UInt8):(V.str b).cells=[.str b]:=rfl
@[simp] theorem cells_vstr (b:List UInt8):(T.v (.str b)).cells=[.v (.str b)]:=rfl
@[simp] theorem vcells_sl (b:List V):(V.sl b).cells=[.sl b]:=rfl
@[simp] theorem cells_vsl (b:List V):(T.v (.sl b)).cells=[.v (.sl b)]:=rfl
@[simp] theorem vcells_ref (b:List V):(V.ref b).cells=[.ref b]:=rfl
@[simp] theorem cells_vref (b:List V):(T.v (.ref b)).cells=[.v (.ref b)]:=rfl
@[simp] theorem vcells_fn (f:Nat) (b:List V):(V.fn f b).cells=[.fn f b]:=rfl
@[simp] theorem cells_vfn (f:Nat) (b:List V):(T.v (.fn f b)).cells=[.v (.fn f b)]:=rfl
@[simp] theorem vcells_agg (cs:List V):(V.agg cs).cells=cs:=rfl
@[simp] theorem cells_loc (i:Nat):(T.loc i).cells=[.loc i]:=rfl
@[simp] theorem cells_nil  : (T.nil).cells=[.nil]:=rfl
@[simp] theorem cells_sv (i j k:Nat):(T.sv i j k).cells=[.sv i j k]:=rfl
@[simp] theorem cells_ptr (i j:Nat):(T.ptr i j).cells=[.ptr i j]:=rfl
@[simp] theorem cells_fptr (c:List V) (i:Nat):(T.fptr c i).cells=[.fptr c i]:=rfl
@[simp] theorem cells_fn (f:Nat) (c:List T):(T.fn f c).cells=[.fn f c]:=rfl
@[simp] theorem vcell_bool (b:Bool):(V.bool b).cell=true:=rfl
@[simp] theorem vcell_int (k:IntKind) (n:Int):(V.int k n).cell=true:=rfl
@[simp] theorem vcell_str (b:List UInt8):(V.str b).cell=true:=rfl
@[simp] theorem vcell_sl (b:List V):(V.sl b).cell=true:=rfl
@[simp] theorem vcell_ref (b:List V):(V.ref b).cell=true:=rfl
@[simp] theorem vcell_fn (f:Nat) (b:List V):(V.fn f b).cell=true:=rfl
@[simp] theorem vcell_agg (b:List V):(V.agg b).cell=false:=rfl
@[simp] theorem vcell_tup (b:List V):(V.tup b).cell=false:=rfl
@[simp] theorem vcell_any:V.any.cell=false:=rfl
@[simp] theorem tcell_v (x:V):(T.v x).cell=x.cell:=rfl
@[simp] theorem tcell_nil:T.nil.cell=true:=rfl
@[simp] theorem tcell_loc (i:Nat):(T.loc i).cell=true:=rfl
@[simp] theorem tcell_sv (i j k:Nat):(T.sv i j k).cell=true:=rfl
@[simp] theorem tcell_ptr (i j:Nat):(T.ptr i j).cell=true:=rfl
@[simp] theorem tcell_fptr (c:List V) (i:Nat):(T.fptr c i).cell=true:=rfl
@[simp] theorem tcell_fn (f:Nat) (c:List T):(T.fn f c).cell=true:=rfl
@[simp] theorem tcell_agg (c:List T):(T.agg c).cell=false:=rfl
@[simp] theorem tcell_tup (c:List T):(T.tup c).cell=false:=rfl
@[simp] theorem allC_nil:allC []↔True:=by simp [allC]
@[simp] theorem allC_cons (x:T) (xs:List T):allC (x :: xs)↔x.cell=true∧allC xs:=by simp [allC]
@[simp] theorem allC_append (a b:List T):allC (a++b)↔allC a∧allC b:=by simp [allC,or_imp,forall_and]
@[simp] theorem allC_map {α:Type} (f:α→T) (l:List α):allC (l.map f)↔∀ a ∈ l,(f a).cell=true:=by simp [allC]
@[simp] theorem allZ_nil (k:Nat):allZ k []↔True:=by simp [allZ]
@[simp] theorem allZ_cons (k:Nat) (x:V) (xs:List V):allZ k (x :: xs)↔(x.cells.length=k∧∀ c ∈ x.cells,c.cell=true)∧allZ k xs:=by simp [allZ]
@[simp] theorem allZ_append (k:Nat) (a b:List V):allZ k (a++b)↔allZ k a∧allZ k b:=⟨fun h=>⟨fun x hx=>h x (List.mem_append_left _ hx),fun x hx=>h x (List.mem_append_right _ hx)⟩,fun h x hx=>(List.mem_append.1 hx).elim (h.1 x) (h.2 x)⟩
@[simp] theorem allZ_map {α:Type} (k:Nat) (f:α→V) (l:List α):allZ k (l.map f)↔∀ a ∈ l,(f a).cells.length=k∧∀ c ∈ (f a).cells,c.cell=true:=by simp [allZ]
theorem allC_take {l:List T} (h:allC l) (n:Nat):allC (l.take n):=fun x hx=>h x (List.mem_of_mem_take hx)
theorem allC_drop {l:List T} (h:allC l) (n:Nat):allC (l.drop n):=fun x hx=>h x (List.mem_of_mem_drop hx)
attribute [simp] V.flat flatL mapO evNilCheck evMakeMap evLookup evMapSet lkT evFieldAddr evField evIndex evExtract evNeg evBuild evAlloc evBox evBuildSlice evLoad cutV cutT evStore fpAt evIndexAddr evSlice bnd slRange placeC inOrder newRow appMut appArr appNil appNilMut evAppend evMake toBytes evConvert evLen evBuiltin structEq evBin elems slLen ecells setAt bin intBin cellsEq evPick
@[simp] theorem bor_v (k:Bool) (m:Mem) (d:Nat) (x:V):bor k m d (.v x)=some x:=by cases d <;> rfl
@[simp] theorem bor_nil (k:Bool) (m:Mem) (d:Nat):bor k m d .nil=some (.sl []):=by cases d <;> rfl
@[simp] theorem bor_loc (k:Bool) (m:Mem) (d:Nat) (id:Nat):bor k m d (.loc id)=match m id with
  | some (.arr _ xs)=>some (.sl xs)
  | some (.ro xs)=>some (.sl xs)
  | _=>none:=by
 cases d <;> (unfold bor; split <;> simp_all)
@[simp] theorem bor_agg (k:Bool) (m:Mem) (d:Nat) (cs:List T):bor k m (d+1) (.agg cs)=obind (mapO (bor k m d) cs) fun xs=>tst (∀ x ∈ xs,x.cell=true) (some (.agg xs)):=by simp [bor]
@[simp] theorem bor_tup (k:Bool) (m:Mem) (d:Nat) (cs:List T):bor k m (d+1) (.tup cs)=(mapO (bor k m d) cs).map .tup:=by simp [bor]
@[simp] theorem bor_fn (k:Bool) (m:Mem) (d:Nat) (f:Nat) (cs:List T):bor k m (d+1) (.fn f cs)=(mapO (bor k m d) cs).map (.fn f):=by simp [bor]
@[simp] theorem bor_fptr (k:Bool) (m:Mem) (d:Nat) (cs:List V):bor k m d (.fptr cs 0)=some (.ref cs):=by cases d <;> rfl

end TL

namespace TL
open Go Go.RowKit
variable {P:Program}

theorem bindP_mono {α:Type} {o:Option α} {k k':α→Prop} (h:∀ x,k x→k' x) (g:bindP o k):bindP o k':=by
 obtain ⟨x,h1,h2⟩:=g; exact ⟨x,h1,h x h2⟩
theorem iteP_mono {c:Bool} {A B A' B':Prop} (h:A→A') (g:B→B') (i:iteP c A B):iteP c A' B':=by
 cases c
 ·exact g i
 ·exact h i
theorem opsP_mono {all:List Oper} {Q Q':S→Prop} (h:∀ s,Q s→Q' s):∀ (l:List Oper) (s:S),opsP P all l Q s→opsP P all l Q' s
 | [],s,g=>h s g
 | o :: rest,s,g=>by
  unfold opsP at g ⊢
  exact bindP_mono (fun b=>iteP_mono (opP_mono fun s'=>opsP_mono h rest s') (opsP_mono h rest _)) g
theorem pureC_mono {s:S} {o:Oper} {k k':Option Nat→T→Prop} (h:∀ d x,k d x→k' d x) (g:pureC P s o k):pureC P s o k':=by
 unfold pureC at g ⊢
 split at g
 ·obtain ⟨vs,r,h1,h2,h3⟩:=g; exact ⟨vs,r,h1,h2,h _ _ h3⟩
 ·obtain ⟨ps,e,vs,h1,h2,h3⟩:=g; exact ⟨ps,e,vs,h1,h2,h _ _ h3⟩
 ·exact g
theorem ordP_mono {all:List Oper} {ids:List Nat} {L K:List (List Nat)} {Q Q':S→Prop} (h:∀ s,Q s→Q' s):∀ (l:List Nat) (s:S),ordP P all ids L K Q l s→ordP P all ids L K Q' l s
 | [],s,g=>h s g
 | i :: rest,s,g=>by
  unfold ordP at g ⊢
  exact iteP_mono (bindP_mono fun o=>bindP_mono fun b=>iteP_mono (pureC_mono fun d x=>ordP_mono h rest _) (ordP_mono h rest _)) (bindP_mono fun o=>bindP_mono fun b=>iteP_mono (iteP_mono (opP_mono fun s'=>ordP_mono h rest _) (opP_mono fun s'=>fun ⟨a,b⟩=>⟨a,ordP_mono h rest _ b⟩)) (ordP_mono h rest _)) g
theorem ordT_mono {all:List Oper} {ids:List Nat} {L K:List (List Nat)} {Q Q':S→Prop} (h:∀ s,Q s→Q' s):∀ (t:OT) (s:S),ordT P all ids L K Q t s→ordT P all ids L K Q' t s
 | .done,s,g=>h s g
 | .run l r,s,g=>by
  unfold ordT at g ⊢
  exact ordP_mono (fun s=>ordT_mono h r s) l s g
 | .alt a b,s,g=>by
  unfold ordT at g ⊢
  exact ⟨ordT_mono h a s g.1,ordT_mono h b s g.2⟩
theorem twp_mono:∀ (c:Code) {Q Q':TExit→S→Prop} {s:S},(∀ e s,Q e s→Q' e s)→twp P c Q s→twp P c Q' s
 | .skip,Q,Q',s,h,g=>by simp only [twp] at g ⊢; exact h _ _ g
 | .seq a b,Q,Q',s,h,g=>by
  simp only [twp] at g ⊢
  refine twp_mono a (fun e s g => ?_) g
  cases e with
  | normal=>exact twp_mono b h g
  | exit i=>exact h _ _ g
  | ret=>exact h _ _ g
 | .cond c x y,Q,Q',s,h,g=>by
  simp only [twp] at g ⊢
  exact bindP_mono (fun b=>iteP_mono (twp_mono x h) (twp_mono y h)) g
 | .block i c,Q,Q',s,h,g=>by
  simp only [twp] at g ⊢
  refine twp_mono c (fun e s g => ?_) g
  cases e with
  | normal=>exact h _ _ g
  | ret=>exact h _ _ g
  | exit j =>
   by_cases hj:j=i
   ·simp only [blockP,hj,if_true] at g ⊢; exact h _ _ g
   ·simp only [blockP,hj,if_false] at g ⊢; exact h _ _ g
 | .loop c,Q,Q',s,h,g=>by
  simp only [twp] at g ⊢
  obtain ⟨I,μ,h1,h2⟩:=g
  refine ⟨I,μ,h1,fun s hs=>twp_mono c (fun e s1 g => ?_) (h2 s hs)⟩
  cases e with
  | normal=>exact g
  | exit i=>exact h _ _ g
  | ret=>exact h _ _ g
 | .exit i,Q,Q',s,h,g=>by simp only [twp] at g ⊢; exact h _ _ g
 | .ret,Q,Q',s,h,g=>by simp only [twp] at g ⊢; exact h _ _ g
 | .region i ops d,Q,Q',s,h,g=>by
  simp only [twp] at g ⊢
  cases d with
  | true =>
   obtain ⟨h0,⟨ord,ids,L,K,h1,h2,h3,h4⟩ | ⟨t,ids,L,K,h1,h2,h3,h4⟩⟩:=g
   ·exact ⟨h0,.inl ⟨ord,ids,L,K,h1,h2,h3,ordP_mono (fun s=>h _ s) _ _ h4⟩⟩
   ·exact ⟨h0,.inr ⟨t,ids,L,K,h1,h2,h3,ordT_mono (fun s=>h _ s) _ _ h4⟩⟩
  | false=>exact opsP_mono (fun s=>h _ s) _ _ g
 | .rangeFunc ..,Q,Q',s,h,g=>by simp [twp] at g
 | .scope ..,Q,Q',s,h,g=>by simp [twp] at g
 | .label ..,Q,Q',s,h,g=>by simp [twp] at g
 | .goto ..,Q,Q',s,h,g=>by simp [twp] at g

theorem bindP_congr {α:Type} {o:Option α} {k k':α→Prop} (h:∀ x,k x=k' x):bindP o k=bindP o k':=by
 have e:k=k':=funext h
 subst e; rfl
theorem iteP_congr {c:Bool} {A B A' B':Prop} (h:A=A') (g:B=B'):iteP c A B=iteP c A' B':=by subst h; subst g; rfl
theorem iteP_congr' {c:Bool} {A B A':Prop} (h:c=true→A=A'):iteP c A B=iteP c A' B:=by
 cases c
 ·rfl
 ·rw [h rfl]
/-- The value of an operation that makes and changes nothing. -/
def opW (P:Program) (mu:Bool) (ρ:Operand→T) (m:Mem) (n:Nat) (op:Op):Option T:=(opF P mu ρ m n op).bind fun E=>some E.val
def opV (P:Program) (s:S) (l:List Nat) (o:Oper) (k:Option Nat→T→Prop) [Hd s] [Hd o] [Hd k]:Prop:=bindP (opW P s.mu s.ev (rst s.m l) s.n o.op) fun x=>k o.dst x
@[simp] theorem opV_mk {s:S} {l:List Nat} {d:Option Nat} {op:Op} {ty:TypeId} {pos:String} {af:Array Edge} {gd:Option (Nat × Bool)} {k:Option Nat→T→Prop} :
  opV P s l ⟨d,op,ty,pos,af,gd⟩ k=bindP (opW P s.mu s.ev (rst s.m l) s.n op) fun x=>k d x:=nrfl
section
variable {mu:Bool} {ρ:Operand→T} {m:Mem} {n:Nat}
@[simp] theorem opW_move (x:Operand):opW P mu ρ m n (.move x)=some (ρ x):=rfl
@[simp] theorem opW_assign (x:Operand):opW P mu ρ m n (.assign x)=some (ρ x):=rfl
@[simp] theorem opW_pick (c a b:Operand):opW P mu ρ m n (.pick c a b)=obind (boolOf (ρ c)) fun q=>some (evPick q (ρ a) (ρ b)):=by simp only [opW,opF]; cases boolOf (ρ c) <;> rfl
@[simp] theorem opW_not (t:TypeId) (x:Operand):opW P mu ρ m n (.unOp .not t x)=obind (boolOf (ρ x)) fun b=>some (.v (.bool !b)):=by simp only [opW,opF]; cases boolOf (ρ x) <;> rfl
@[simp] theorem opW_neg (t:TypeId) (x:Operand):opW P mu ρ m n (.unOp .neg t x)=evNeg (ρ x):=by simp only [opW,opF]; cases evNeg (ρ x) <;> rfl
@[simp] theorem opW_load (t:TypeId) (a:Operand):opW P mu ρ m n (.load t a)=evLoad P t m (ρ a):=by simp only [opW,opF]; cases evLoad P t m (ρ a) <;> rfl
@[simp] theorem opW_nilCheck (x:Operand):opW P mu ρ m n (.nilCheck x)=evNilCheck (ρ x):=by simp only [opW,opF]; cases evNilCheck (ρ x) <;> rfl
@[simp] theorem opW_binOp (op:BinOp) (t t':TypeId) (x y:Operand):opW P mu ρ m n (.binOp op t x y t')=evBin P m op t (ρ x) (ρ y):=by simp only [opW,opF]; cases evBin P m op t (ρ x) (ρ y) <;> rfl
@[simp] theorem opW_convert (t t':TypeId) (x:Operand):opW P mu ρ m n (.convert t t' x)=evConvert P t t' m (ρ x):=by simp only [opW,opF]; cases evConvert P t t' m (ρ x) <;> rfl
@[simp] theorem opW_slice (t:TypeId) (x:Operand) (lo hi:Option Operand):opW P mu ρ m n (.slice t x lo hi none)=evSlice P t m (lo.map ρ) (hi.map ρ) (ρ x):=by simp only [opW,opF]; cases evSlice P t m (lo.map ρ) (hi.map ρ) (ρ x) <;> rfl
@[simp] theorem opW_fieldAddr (t:TypeId) (x:Operand) (f:Nat):opW P mu ρ m n (.fieldAddr t x f)=evFieldAddr P t f (ρ x):=by simp only [opW,opF]; cases evFieldAddr P t f (ρ x) <;> rfl
@[simp] theorem opW_indexAddr (t:TypeId) (x i:Operand):opW P mu ρ m n (.indexAddr t x i)=evIndexAddr P t m (ρ x) (ρ i):=by simp only [opW,opF]; cases evIndexAddr P t m (ρ x) (ρ i) <;> rfl
@[simp] theorem opW_index (t:TypeId) (x i:Operand):opW P mu ρ m n (.index t x i)=evIndex P t (ρ i) (ρ x):=by simp only [opW,opF]; cases evIndex P t (ρ i) (ρ x) <;> rfl
@[simp] theorem opW_field (t:TypeId) (x:Operand) (f:Nat):opW P mu ρ m n (.field t x f)=evField P t f (ρ x):=by simp only [opW,opF]; cases evField P t f (ρ x) <;> rfl
@[simp] theorem opW_lookup (t:TypeId) (x i:Operand) (ok:Bool):opW P mu ρ m n (.lookup t x i ok)=evLookup P t m ok (ρ x) (ρ i):=by simp only [opW,opF]; cases evLookup P t m ok (ρ x) (ρ i) <;> rfl
@[simp] theorem opW_extract (x:Operand) (i:Nat):opW P mu ρ m n (.extract x i)=evExtract i (ρ x):=by simp only [opW,opF]; cases evExtract i (ρ x) <;> rfl
@[simp] theorem opW_build (t:TypeId) (l:List (Nat × Operand)):opW P mu ρ m n (.build t l.toArray)=evBuild P t (l.map fun p=>(p.1,ρ p.2)):=by simp only [opW,opF]; cases evBuild P t (l.map fun p=>(p.1,ρ p.2)) <;> rfl
@[simp] theorem opW_makeFunc (f:Nat) (cap:List Operand):opW P mu ρ m n (.makeFunc (.func f) #[] cap.toArray)=some (.fn f (cap.map ρ)):=by simp [opW,opF]
@[simp] theorem opW_builtin (b:Builtin) (args:Array Operand) (ts:Array TypeId):opW P mu ρ m n (.call ⟨.builtin b,args,ts⟩)=obind (evBuiltin P mu b ts.toList m n (args.toList.map ρ)) fun E=>some E.val:=rfl
end
@[simp] theorem ordP_cons' {s : S} (all : List Oper) (ids : List Nat) (L K : List (List Nat)) (Q : S → Prop) (i : Nat) (rest : List Nat) : ordP P all ids L K Q (i :: rest) s = iteP (decide (1000 ≤ i)) (bindP (opAt all (i - 1000)) fun o => bindP (guardB all s o.guard) fun g => iteP g (pureC P s o fun d x => ordP P all ids L K Q rest (s.put d x)) (ordP P all ids L K Q rest (s.put o.dst und)))
      (bindP (opAt all i) fun o => bindP (guardB all s o.guard) fun g => iteP g
      (iteP (isVal o.op) (opV P s (idsAt ids L i) o fun d x => ordP P all ids L K Q rest (s.put d x)) (opP P s o fun s' => keepP (idsAt ids K i) s.m s'.m ∧ ordP P all ids L K Q rest s'))
      (ordP P all ids L K Q rest (s.put o.dst und))) := by
  rw [ordP_cons]
  have key : ∀ o : Oper,isVal o.op = true → (opP P (s.rs (idsAt ids L i)) o fun s' => ordP P all ids L K Q rest (s'.wm s.m s.n)) = (opV P s (idsAt ids L i) o fun d x => ordP P all ids L K Q rest (s.put d x)) := by
    intro o ho
    refine propext ⟨fun h => ?_,fun h => ?_⟩
    · obtain ⟨E,h1,h2⟩ := (opP_val ho).1 h
      exact ⟨E.val,by unfold opW; rw [show opF P s.mu s.ev (rst s.m (idsAt ids L i)) s.n o.op = some E from h1]; rfl,h2⟩
    · obtain ⟨x,h1,h2⟩ := h
      unfold opW at h1
      cases e : opF P s.mu s.ev (rst s.m (idsAt ids L i)) s.n o.op with
      | none => rw [e] at h1; cases h1
      | some E =>
        rw [e] at h1; cases h1
        exact (opP_val ho).2 ⟨E,e,h2⟩
  refine iteP_congr rfl (bindP_congr fun o => bindP_congr fun g => iteP_congr (iteP_congr' fun hv => key o hv) rfl)
@[simp] theorem pureC_bld {s:S} {d:Option Nat} {t:TypeId} {len:Nat} {parts:Array (Nat × Operand)} {ty:TypeId} {pos:String} {af:Array Edge} {gd:Option (Nat × Bool)} {k:Option Nat→T→Prop} :
  pureC P s ⟨d,.buildSlice t len parts,ty,pos,af,gd⟩ k=bldQ P t len (parts.toList.map fun p=>(p.1,s.ev p.2)) fun vs=>k d (.v (.sl vs)):=nrfl
theorem bld_ {t:TypeId} {len:Nat} {xs:List (Nat × T)} {k:List V→Prop} (ps:List (Nat × V)) (e:TypeId) (vs:List V) (h1:xs=ps.map (fun q=>(q.1,T.v q.2))) (h2:evBuildSlice P false t (fun _=>none) 0 len (ps.map fun q=>(q.1,T.v q.2))=some ⟨.loc 0,[(0,some (.arr e vs))]⟩) (h3:k vs):bldQ P t len xs k:=⟨ps,e,vs,h1,h2,h3⟩
@[simp] theorem pureC_mk {s:S} {d:Option Nat} {f:Nat} {args:Array Operand} {ts:Array TypeId} {ty:TypeId} {pos:String} {af:Array Edge} {gd:Option (Nat × Bool)} {k:Option Nat→T→Prop} :
  pureC P s ⟨d,.call ⟨.value (.func f),args,ts⟩,ty,pos,af,gd⟩ k=pureQ P f (args.toList.map s.ev) fun r=>k d (.v r):=nrfl
theorem pure_ {f:Nat} {args:List T} {k:V→Prop} {vs:List V} {r:V} (h:FnZ P f vs r) (ha:args=vs.map .v) (hk:k r):pureQ P f args k:=⟨vs,r,h,ha,hk⟩
/-- A cut behind a part. -/
theorem twp_cut {a b:Code} {Q:TExit→S→Prop} {s:S} (I:S→Prop) (h:twp P a (fun e s1=>thenP I Q e s1) s) (g:∀ s,I s→twp P b Q s):twp P (.seq a b) Q s:=by
 simp only [twp_seq]
 refine twp_mono a (fun e s g' => ?_) h
 cases e with
 | normal=>exact g s g'
 | exit i=>exact g'
 | ret=>exact g'
theorem twp_cutQ {a:Code} {A:S→Prop} {Q:TExit→S→Prop} {s:S} (I:S→Prop) (h:twp P a (fun e s1=>thenP I Q e s1) s) (g:∀ s,I s→A s):twp P a (fun e s1=>thenP A Q e s1) s:=by
 refine twp_mono a (fun e s g' => ?_) h
 cases e with
 | normal=>exact g s g'
 | exit i=>exact g'
 | ret=>exact g'
/-- A loop in its block, with a cut behind it. -/
theorem twp_loopC {c:Code} {i:Nat} {A:S→Prop} {Q:TExit→S→Prop} {s:S} (I:S→Prop) (μ:S→Nat) (J:S→Prop) (hi:I s)
  (hs:∀ s,I s→twp P c (fun e s1=>thenP (fun s'=>I s'∧μ s'<μ s) (fun e s=>blockP i (fun e s1=>thenP J Q e s1) e s) e s1) s)
  (hj:∀ s,J s→A s):twp P (.loop c) (fun e s=>blockP i (fun e s1=>thenP A Q e s1) e s) s:=by
 refine twp_mono (.loop c) (fun e s g' => ?_) (twp_loop I μ hi hs)
 have key:∀ e s,thenP J Q e s→thenP A Q e s:=fun e s g=>by
  cases e with
  | normal=>exact hj s g
  | exit i=>exact g
  | ret=>exact g
 cases e with
 | normal=>exact key .normal s g'
 | ret=>exact key .ret s g'
 | exit j =>
  by_cases hj:j=i
  ·simp only [blockP,hj,if_true] at g' ⊢; exact key _ _ g'
  ·simp only [blockP,hj,if_false] at g' ⊢; exact key _ _ g'
/-- The state is put away: what is known of it is told first. -/
theorem st_out {I:S→Prop} {s:S} (h:∀ s':S,(∀ t,s'.tm t=s.tm t)→s'.m=s.m→s'.n=s.n→s'.mu=s.mu→I s'):I s:=h s (fun _=>rfl) rfl rfl rfl
/-- Memory holds nothing beyond its end. -/
theorem FnS_fresh {f : Nat} {m : Mem} {n : Nat} {args : List T} {post : T → Mem → Nat → Prop} (hf : ∃ fn,P.funcs[f]? = some fn ∧ (fn.name == "runtime.NumGoroutine") = false ∧ fn.body.isNone = false) (h : (∀ j,n ≤ j → m j = none) → FnS P f m n args post) : FnS P f m n args post := by
 refine ⟨hf,fun φ Z w us hm hr=>(h fun j hj => ?_).2 φ Z w us hm hr⟩
 cases e:m j with
 | none=>rfl
 | some b =>
  obtain ⟨v,hv,_⟩:=hm.blk j b e
  rw [hm.fresh j hj] at hv; cases hv
/-! Short forms. -/
theorem FZ {P:Program} {f:Nat} {fn:Func} {c:Code} {rs:List ResultVar} {args:List V} {r:V} (mu:Bool) (hf:P.funcs[f]? = some fn) (h:twp P c (fun e s=>retP P rs (fun v=>v=r) e s) (start mu args))
  (hb : fn.body = some c := by exact rfl) (hr : fn.results.toList = rs := by exact rfl) (hn : (fn.name == "runtime.NumGoroutine") = false := by exact rfl) (hd : dstsOk fn.ntmps c = true := by exact rfl) (ha : args.length ≤ fn.ntmps := by exact Nat.le_of_ble_eq_true rfl) : FnZ P f args r := FnZ_of mu hf hb hr hn hd ha h
theorem twd {P:Program} {Q:TExit→S→Prop} {s:S} {i:Nat} {l:List Oper} (ord ids:List Nat) (L K:List (List Nat)) (h:ordP P l ids L K (fun s=>Q .normal s) ord s) (hf:P.follows .mixedOrders=true:=by kernel_rfl) (hn:Region.noSelect l.toArray=true:=by kernel_rfl) (hl:ord.length=l.toArray.size:=by kernel_rfl) (hk:ordOk l.toArray L K ord (Array.replicate l.toArray.size false)=true:=by kernel_rfl):twp P (.region i l.toArray true) Q s:=twp_draw ord ids L K hf hn hl hk h
theorem cl {P:Program} {f:Nat} {m:Mem} {n:Nat} {args:List T} {k:T→Mem→Nat→Prop} {vs:List V} {r:V} (h:FnZ P f vs r) (hk:k (.v r) m n) (ha:mapO (bor false m 4) args=some vs:=by simp -dsimp):callP P f m n args k:=call_ h ha hk
theorem FS {P:Program} {f:Nat} {fn:Func} {c:Code} {rs:List ResultVar} {m:Mem} {n:Nat} {args:List T} {post:T→Mem→Nat→Prop} (mu:Bool) (hf:P.funcs[f]? = some fn) (h:twp P c (fun e s=>retS P rs post e s) (startS mu m n args))
  (hb : fn.body = some c := by exact rfl) (hr : fn.results.toList = rs := by exact rfl) (hn : (fn.name == "runtime.NumGoroutine") = false := by exact rfl) (hd : dstsOk fn.ntmps c = true := by exact rfl) (ha : args.length ≤ fn.ntmps := by exact Nat.le_of_ble_eq_true rfl) : FnS P f m n args post := FnS_of mu hf hb hr hn hd ha h
end TL

namespace TL
open Go Go.Proofs
@[simp] theorem sz_3:sz Tryz.prog 3=some 1:=by kernel_rfl
@[simp] theorem bytes_3:bytes Tryz.prog 3=some 8:=by kernel_rfl
@[simp] theorem szz_3:szz Tryz.prog 3=some 1:=by kernel_rfl
@[simp] theorem isAg_3:isAg Tryz.prog 3=some false:=by kernel_rfl
@[simp] theorem intK_3:intK Tryz.prog 3=some .i64:=by kernel_rfl
@[simp] theorem zeroC_3:zeroC Tryz.prog 3=some [.v (.int .i64 0)]:=by kernel_rfl
@[simp] theorem sz_4:sz Tryz.prog 4=some 1:=by kernel_rfl
@[simp] theorem bytes_4:bytes Tryz.prog 4=some 1:=by kernel_rfl
@[simp] theorem szz_4:szz Tryz.prog 4=some 1:=by kernel_rfl
@[simp] theorem isAg_4:isAg Tryz.prog 4=some false:=by kernel_rfl
@[simp] theorem isBool_4:isBool Tryz.prog 4=some true:=by kernel_rfl
@[simp] theorem zeroC_4:zeroC Tryz.prog 4=some [.v (.bool false)]:=by kernel_rfl
@[simp] theorem sz_5:sz Tryz.prog 5=some 1:=by kernel_rfl
@[simp] theorem bytes_5:bytes Tryz.prog 5=some 1:=by kernel_rfl
@[simp] theorem szz_5:szz Tryz.prog 5=some 1:=by kernel_rfl
@[simp] theorem isAg_5:isAg Tryz.prog 5=some false:=by kernel_rfl
@[simp] theorem intK_5:intK Tryz.prog 5=some .u8:=by kernel_rfl
@[simp] theorem zeroC_5:zeroC Tryz.prog 5=some [.v (.int .u8 0)]:=by kernel_rfl
@[simp] theorem sz_9:sz Tryz.prog 9=some 1:=by kernel_rfl
@[simp] theorem bytes_9:bytes Tryz.prog 9=some 16:=by kernel_rfl
@[simp] theorem szz_9:szz Tryz.prog 9=some 1:=by kernel_rfl
@[simp] theorem isAg_9:isAg Tryz.prog 9=some false:=by kernel_rfl
@[simp] theorem isStr_9:isStr Tryz.prog 9=some true:=by kernel_rfl
@[simp] theorem zeroC_9:zeroC Tryz.prog 9=some [.v (.str [])]:=by kernel_rfl
@[simp] theorem sz_22:sz Tryz.prog 22=some 1:=by kernel_rfl
@[simp] theorem bytes_22:bytes Tryz.prog 22=some 24:=by kernel_rfl
@[simp] theorem szz_22:szz Tryz.prog 22=some 1:=by kernel_rfl
@[simp] theorem isAg_22:isAg Tryz.prog 22=some false:=by kernel_rfl
@[simp] theorem elT_22:elT Tryz.prog 22=some 5:=by kernel_rfl
@[simp] theorem isStr_22:isStr Tryz.prog 22=some false:=by kernel_rfl
@[simp] theorem zeroC_22:zeroC Tryz.prog 22=some [.nil]:=by kernel_rfl
@[simp] theorem sz_23:sz Tryz.prog 23=some 1:=by kernel_rfl
@[simp] theorem bytes_23:bytes Tryz.prog 23=some 24:=by kernel_rfl
@[simp] theorem szz_23:szz Tryz.prog 23=some 1:=by kernel_rfl
@[simp] theorem isAg_23:isAg Tryz.prog 23=some false:=by kernel_rfl
@[simp] theorem elT_23:elT Tryz.prog 23=some 63:=by kernel_rfl
@[simp] theorem isStr_23:isStr Tryz.prog 23=some false:=by kernel_rfl
@[simp] theorem zeroC_23:zeroC Tryz.prog 23=some [.nil]:=by kernel_rfl
@[simp] theorem sz_25:sz Tryz.prog 25=some 2:=by kernel_rfl
@[simp] theorem bytes_25:bytes Tryz.prog 25=some 32:=by kernel_rfl
@[simp] theorem szz_25:szz Tryz.prog 25=some 2:=by kernel_rfl
@[simp] theorem isAg_25:isAg Tryz.prog 25=some true:=by kernel_rfl
@[simp] theorem zeroC_25:zeroC Tryz.prog 25=some [.v (.int .i64 0),.nil]:=by kernel_rfl
@[simp] theorem fieldsOk_25:fieldsOk Tryz.prog 25=true:=by kernel_rfl
@[simp] theorem fo_25_0:fo Tryz.prog 25 0=some 0:=by kernel_rfl
@[simp] theorem fld_25_0:fld Tryz.prog 25 0=some (3,0):=by kernel_rfl
@[simp] theorem fsz_25_0:fsz Tryz.prog 25 0=some 1:=by kernel_rfl
@[simp] theorem fo_25_1:fo Tryz.prog 25 1=some 1:=by kernel_rfl
@[simp] theorem fld_25_1:fld Tryz.prog 25 1=some (23,1):=by kernel_rfl
@[simp] theorem fsz_25_1:fsz Tryz.prog 25 1=some 1:=by kernel_rfl
@[simp] theorem sz_26:sz Tryz.prog 26=some 1:=by kernel_rfl
@[simp] theorem bytes_26:bytes Tryz.prog 26=some 24:=by kernel_rfl
@[simp] theorem szz_26:szz Tryz.prog 26=some 1:=by kernel_rfl
@[simp] theorem isAg_26:isAg Tryz.prog 26=some false:=by kernel_rfl
@[simp] theorem elT_26:elT Tryz.prog 26=some 25:=by kernel_rfl
@[simp] theorem isStr_26:isStr Tryz.prog 26=some false:=by kernel_rfl
@[simp] theorem zeroC_26:zeroC Tryz.prog 26=some [.nil]:=by kernel_rfl
@[simp] theorem sz_28:sz Tryz.prog 28=some 3:=by kernel_rfl
@[simp] theorem bytes_28:bytes Tryz.prog 28=some 56:=by kernel_rfl
@[simp] theorem szz_28:szz Tryz.prog 28=some 3:=by kernel_rfl
@[simp] theorem isAg_28:isAg Tryz.prog 28=some true:=by kernel_rfl
@[simp] theorem zeroC_28:zeroC Tryz.prog 28=some [.v (.int .i64 0),.nil,.nil]:=by kernel_rfl
@[simp] theorem fieldsOk_28:fieldsOk Tryz.prog 28=true:=by kernel_rfl
@[simp] theorem fo_28_0:fo Tryz.prog 28 0=some 0:=by kernel_rfl
@[simp] theorem fld_28_0:fld Tryz.prog 28 0=some (25,0):=by kernel_rfl
@[simp] theorem fsz_28_0:fsz Tryz.prog 28 0=some 2:=by kernel_rfl
@[simp] theorem fo_28_1:fo Tryz.prog 28 1=some 2:=by kernel_rfl
@[simp] theorem fld_28_1:fld Tryz.prog 28 1=some (26,2):=by kernel_rfl
@[simp] theorem fsz_28_1:fsz Tryz.prog 28 1=some 1:=by kernel_rfl
@[simp] theorem sz_36:sz Tryz.prog 36=some 1:=by kernel_rfl
@[simp] theorem bytes_36:bytes Tryz.prog 36=some 24:=by kernel_rfl
@[simp] theorem szz_36:szz Tryz.prog 36=some 1:=by kernel_rfl
@[simp] theorem isAg_36:isAg Tryz.prog 36=some false:=by kernel_rfl
@[simp] theorem elT_36:elT Tryz.prog 36=some 9:=by kernel_rfl
@[simp] theorem isStr_36:isStr Tryz.prog 36=some false:=by kernel_rfl
@[simp] theorem zeroC_36:zeroC Tryz.prog 36=some [.nil]:=by kernel_rfl
@[simp] theorem sz_49:sz Tryz.prog 49=some 3:=by kernel_rfl
@[simp] theorem bytes_49:bytes Tryz.prog 49=some 32:=by kernel_rfl
@[simp] theorem szz_49:szz Tryz.prog 49=some 3:=by kernel_rfl
@[simp] theorem isAg_49:isAg Tryz.prog 49=some true:=by kernel_rfl
@[simp] theorem zeroC_49:zeroC Tryz.prog 49=some [.v (.int .i64 0),.v (.int .i64 0),.v (.str [])]:=by kernel_rfl
@[simp] theorem fieldsOk_49:fieldsOk Tryz.prog 49=true:=by kernel_rfl
@[simp] theorem eqKinds_49:eqKinds Tryz.prog 49=some [1,1,2]:=by kernel_rfl
@[simp] theorem fo_49_0:fo Tryz.prog 49 0=some 0:=by kernel_rfl
@[simp] theorem fld_49_0:fld Tryz.prog 49 0=some (3,0):=by kernel_rfl
@[simp] theorem fsz_49_0:fsz Tryz.prog 49 0=some 1:=by kernel_rfl
@[simp] theorem fo_49_1:fo Tryz.prog 49 1=some 1:=by kernel_rfl
@[simp] theorem fld_49_1:fld Tryz.prog 49 1=some (3,1):=by kernel_rfl
@[simp] theorem fsz_49_1:fsz Tryz.prog 49 1=some 1:=by kernel_rfl
@[simp] theorem fo_49_2:fo Tryz.prog 49 2=some 2:=by kernel_rfl
@[simp] theorem fld_49_2:fld Tryz.prog 49 2=some (9,2):=by kernel_rfl
@[simp] theorem fsz_49_2:fsz Tryz.prog 49 2=some 1:=by kernel_rfl
@[simp] theorem sz_61:sz Tryz.prog 61=some 1:=by kernel_rfl
@[simp] theorem bytes_61:bytes Tryz.prog 61=some 24:=by kernel_rfl
@[simp] theorem szz_61:szz Tryz.prog 61=some 1:=by kernel_rfl
@[simp] theorem isAg_61:isAg Tryz.prog 61=some false:=by kernel_rfl
@[simp] theorem elT_61:elT Tryz.prog 61=some 119:=by kernel_rfl
@[simp] theorem isStr_61:isStr Tryz.prog 61=some false:=by kernel_rfl
@[simp] theorem zeroC_61:zeroC Tryz.prog 61=some [.nil]:=by kernel_rfl
@[simp] theorem sz_63:sz Tryz.prog 63=some 2:=by kernel_rfl
@[simp] theorem bytes_63:bytes Tryz.prog 63=some 32:=by kernel_rfl
@[simp] theorem szz_63:szz Tryz.prog 63=some 2:=by kernel_rfl
@[simp] theorem isAg_63:isAg Tryz.prog 63=some true:=by kernel_rfl
@[simp] theorem zeroC_63:zeroC Tryz.prog 63=some [.v (.int .i64 0),.nil]:=by kernel_rfl
@[simp] theorem fieldsOk_63:fieldsOk Tryz.prog 63=true:=by kernel_rfl
@[simp] theorem fo_63_0:fo Tryz.prog 63 0=some 0:=by kernel_rfl
@[simp] theorem fld_63_0:fld Tryz.prog 63 0=some (3,0):=by kernel_rfl
@[simp] theorem fsz_63_0:fsz Tryz.prog 63 0=some 1:=by kernel_rfl
@[simp] theorem fo_63_1:fo Tryz.prog 63 1=some 1:=by kernel_rfl
@[simp] theorem fld_63_1:fld Tryz.prog 63 1=some (61,1):=by kernel_rfl
@[simp] theorem fsz_63_1:fsz Tryz.prog 63 1=some 1:=by kernel_rfl
@[simp] theorem sz_69:sz Tryz.prog 69=some 2:=by kernel_rfl
@[simp] theorem bytes_69:bytes Tryz.prog 69=some 32:=by kernel_rfl
@[simp] theorem szz_69:szz Tryz.prog 69=some 2:=by kernel_rfl
@[simp] theorem isAg_69:isAg Tryz.prog 69=some true:=by kernel_rfl
@[simp] theorem zeroC_69:zeroC Tryz.prog 69=some [.nil,.v (.int .i64 0)]:=by kernel_rfl
@[simp] theorem fieldsOk_69:fieldsOk Tryz.prog 69=true:=by kernel_rfl
@[simp] theorem fo_69_0:fo Tryz.prog 69 0=some 0:=by kernel_rfl
@[simp] theorem fld_69_0:fld Tryz.prog 69 0=some (22,0):=by kernel_rfl
@[simp] theorem fsz_69_0:fsz Tryz.prog 69 0=some 1:=by kernel_rfl
@[simp] theorem fo_69_1:fo Tryz.prog 69 1=some 1:=by kernel_rfl
@[simp] theorem fld_69_1:fld Tryz.prog 69 1=some (3,1):=by kernel_rfl
@[simp] theorem fsz_69_1:fsz Tryz.prog 69 1=some 1:=by kernel_rfl
@[simp] theorem sz_90:sz Tryz.prog 90=some 1:=by kernel_rfl
@[simp] theorem bytes_90:bytes Tryz.prog 90=some 24:=by kernel_rfl
@[simp] theorem szz_90:szz Tryz.prog 90=some 1:=by kernel_rfl
@[simp] theorem isAg_90:isAg Tryz.prog 90=some false:=by kernel_rfl
@[simp] theorem elT_90:elT Tryz.prog 90=some 3:=by kernel_rfl
@[simp] theorem isStr_90:isStr Tryz.prog 90=some false:=by kernel_rfl
@[simp] theorem zeroC_90:zeroC Tryz.prog 90=some [.nil]:=by kernel_rfl
@[simp] theorem sz_100:sz Tryz.prog 100=some 1:=by kernel_rfl
@[simp] theorem bytes_100:bytes Tryz.prog 100=some 24:=by kernel_rfl
@[simp] theorem szz_100:szz Tryz.prog 100=some 1:=by kernel_rfl
@[simp] theorem isAg_100:isAg Tryz.prog 100=some false:=by kernel_rfl
@[simp] theorem elT_100:elT Tryz.prog 100=some 137:=by kernel_rfl
@[simp] theorem isStr_100:isStr Tryz.prog 100=some false:=by kernel_rfl
@[simp] theorem zeroC_100:zeroC Tryz.prog 100=some [.nil]:=by kernel_rfl
@[simp] theorem sz_102:sz Tryz.prog 102=some 2:=by kernel_rfl
@[simp] theorem bytes_102:bytes Tryz.prog 102=some 32:=by kernel_rfl
@[simp] theorem szz_102:szz Tryz.prog 102=some 2:=by kernel_rfl
@[simp] theorem isAg_102:isAg Tryz.prog 102=some true:=by kernel_rfl
@[simp] theorem zeroC_102:zeroC Tryz.prog 102=some [.v (.int .i64 0),.nil]:=by kernel_rfl
@[simp] theorem fieldsOk_102:fieldsOk Tryz.prog 102=true:=by kernel_rfl
@[simp] theorem fo_102_0:fo Tryz.prog 102 0=some 0:=by kernel_rfl
@[simp] theorem fld_102_0:fld Tryz.prog 102 0=some (3,0):=by kernel_rfl
@[simp] theorem fsz_102_0:fsz Tryz.prog 102 0=some 1:=by kernel_rfl
@[simp] theorem fo_102_1:fo Tryz.prog 102 1=some 1:=by kernel_rfl
@[simp] theorem fld_102_1:fld Tryz.prog 102 1=some (100,1):=by kernel_rfl
@[simp] theorem fsz_102_1:fsz Tryz.prog 102 1=some 1:=by kernel_rfl
@[simp] theorem sz_108:sz Tryz.prog 108=some 1:=by kernel_rfl
@[simp] theorem bytes_108:bytes Tryz.prog 108=some 24:=by kernel_rfl
@[simp] theorem szz_108:szz Tryz.prog 108=some 1:=by kernel_rfl
@[simp] theorem isAg_108:isAg Tryz.prog 108=some false:=by kernel_rfl
@[simp] theorem elT_108:elT Tryz.prog 108=some 49:=by kernel_rfl
@[simp] theorem isStr_108:isStr Tryz.prog 108=some false:=by kernel_rfl
@[simp] theorem zeroC_108:zeroC Tryz.prog 108=some [.nil]:=by kernel_rfl
@[simp] theorem sz_119:sz Tryz.prog 119=some 2:=by kernel_rfl
@[simp] theorem bytes_119:bytes Tryz.prog 119=some 16:=by kernel_rfl
@[simp] theorem szz_119:szz Tryz.prog 119=some 2:=by kernel_rfl
@[simp] theorem isAg_119:isAg Tryz.prog 119=some true:=by kernel_rfl
@[simp] theorem zeroC_119:zeroC Tryz.prog 119=some [.v (.int .i64 0),.v (.int .i64 0)]:=by kernel_rfl
@[simp] theorem fieldsOk_119:fieldsOk Tryz.prog 119=true:=by kernel_rfl
@[simp] theorem eqKinds_119:eqKinds Tryz.prog 119=some [1,1]:=by kernel_rfl
@[simp] theorem fo_119_0:fo Tryz.prog 119 0=some 0:=by kernel_rfl
@[simp] theorem fld_119_0:fld Tryz.prog 119 0=some (3,0):=by kernel_rfl
@[simp] theorem fsz_119_0:fsz Tryz.prog 119 0=some 1:=by kernel_rfl
@[simp] theorem fo_119_1:fo Tryz.prog 119 1=some 1:=by kernel_rfl
@[simp] theorem fld_119_1:fld Tryz.prog 119 1=some (3,1):=by kernel_rfl
@[simp] theorem fsz_119_1:fsz Tryz.prog 119 1=some 1:=by kernel_rfl
@[simp] theorem sz_122:sz Tryz.prog 122=some 1:=by kernel_rfl
@[simp] theorem bytes_122:bytes Tryz.prog 122=some 24:=by kernel_rfl
@[simp] theorem szz_122:szz Tryz.prog 122=some 1:=by kernel_rfl
@[simp] theorem isAg_122:isAg Tryz.prog 122=some false:=by kernel_rfl
@[simp] theorem elT_122:elT Tryz.prog 122=some 61:=by kernel_rfl
@[simp] theorem isStr_122:isStr Tryz.prog 122=some false:=by kernel_rfl
@[simp] theorem zeroC_122:zeroC Tryz.prog 122=some [.nil]:=by kernel_rfl
@[simp] theorem sz_126:sz Tryz.prog 126=some 1:=by kernel_rfl
@[simp] theorem bytes_126:bytes Tryz.prog 126=some 8:=by kernel_rfl
@[simp] theorem szz_126:szz Tryz.prog 126=some 1:=by kernel_rfl
@[simp] theorem isAg_126:isAg Tryz.prog 126=some false:=by kernel_rfl
@[simp] theorem intK_126:intK Tryz.prog 126=some .u64:=by kernel_rfl
@[simp] theorem zeroC_126:zeroC Tryz.prog 126=some [.v (.int .u64 0)]:=by kernel_rfl
@[simp] theorem sz_130:sz Tryz.prog 130=some 1:=by kernel_rfl
@[simp] theorem bytes_130:bytes Tryz.prog 130=some 8:=by kernel_rfl
@[simp] theorem szz_130:szz Tryz.prog 130=some 1:=by kernel_rfl
@[simp] theorem isAg_130:isAg Tryz.prog 130=some false:=by kernel_rfl
@[simp] theorem mapZ_130:mapZ Tryz.prog 130=some (.int .i64 0):=by kernel_rfl
@[simp] theorem sz_133:sz Tryz.prog 133=some 1:=by kernel_rfl
@[simp] theorem bytes_133:bytes Tryz.prog 133=some 8:=by kernel_rfl
@[simp] theorem szz_133:szz Tryz.prog 133=some 1:=by kernel_rfl
@[simp] theorem isAg_133:isAg Tryz.prog 133=some false:=by kernel_rfl
@[simp] theorem zeroC_133:zeroC Tryz.prog 133=some [.nf]:=by kernel_rfl
@[simp] theorem sz_134:sz Tryz.prog 134=some 1:=by kernel_rfl
@[simp] theorem bytes_134:bytes Tryz.prog 134=some 8:=by kernel_rfl
@[simp] theorem szz_134:szz Tryz.prog 134=some 1:=by kernel_rfl
@[simp] theorem isAg_134:isAg Tryz.prog 134=some false:=by kernel_rfl
@[simp] theorem mapZ_134:mapZ Tryz.prog 134=some (.bool false):=by kernel_rfl
@[simp] theorem sz_137:sz Tryz.prog 137=some 3:=by kernel_rfl
@[simp] theorem bytes_137:bytes Tryz.prog 137=some 24:=by kernel_rfl
@[simp] theorem szz_137:szz Tryz.prog 137=some 3:=by kernel_rfl
@[simp] theorem isAg_137:isAg Tryz.prog 137=some true:=by kernel_rfl
@[simp] theorem zeroC_137:zeroC Tryz.prog 137=some [.v (.int .i64 0),.v (.int .i64 0),.v (.int .i64 0)]:=by kernel_rfl
@[simp] theorem fieldsOk_137:fieldsOk Tryz.prog 137=true:=by kernel_rfl
@[simp] theorem eqKinds_137:eqKinds Tryz.prog 137=some [1,1,1]:=by kernel_rfl
@[simp] theorem fo_137_0:fo Tryz.prog 137 0=some 0:=by kernel_rfl
@[simp] theorem fld_137_0:fld Tryz.prog 137 0=some (3,0):=by kernel_rfl
@[simp] theorem fsz_137_0:fsz Tryz.prog 137 0=some 1:=by kernel_rfl
@[simp] theorem fo_137_1:fo Tryz.prog 137 1=some 1:=by kernel_rfl
@[simp] theorem fld_137_1:fld Tryz.prog 137 1=some (3,1):=by kernel_rfl
@[simp] theorem fsz_137_1:fsz Tryz.prog 137 1=some 1:=by kernel_rfl
@[simp] theorem fo_137_2:fo Tryz.prog 137 2=some 2:=by kernel_rfl
@[simp] theorem fld_137_2:fld Tryz.prog 137 2=some (3,2):=by kernel_rfl
@[simp] theorem fsz_137_2:fsz Tryz.prog 137 2=some 1:=by kernel_rfl
@[simp] theorem sz_170:sz Tryz.prog 170=some 1:=by kernel_rfl
@[simp] theorem bytes_170:bytes Tryz.prog 170=some 8:=by kernel_rfl
@[simp] theorem szz_170:szz Tryz.prog 170=some 1:=by kernel_rfl
@[simp] theorem isAg_170:isAg Tryz.prog 170=some false:=by kernel_rfl
@[simp] theorem zeroC_170:zeroC Tryz.prog 170=some [.nf]:=by kernel_rfl
@[simp] theorem sz_173:sz Tryz.prog 173=some 1:=by kernel_rfl
@[simp] theorem bytes_173:bytes Tryz.prog 173=some 24:=by kernel_rfl
@[simp] theorem szz_173:szz Tryz.prog 173=some 1:=by kernel_rfl
@[simp] theorem isAg_173:isAg Tryz.prog 173=some false:=by kernel_rfl
@[simp] theorem elT_173:elT Tryz.prog 173=some 4:=by kernel_rfl
@[simp] theorem isStr_173:isStr Tryz.prog 173=some false:=by kernel_rfl
@[simp] theorem zeroC_173:zeroC Tryz.prog 173=some [.nil]:=by kernel_rfl
@[simp] theorem sz_174:sz Tryz.prog 174=some 1:=by kernel_rfl
@[simp] theorem bytes_174:bytes Tryz.prog 174=some 8:=by kernel_rfl
@[simp] theorem szz_174:szz Tryz.prog 174=some 1:=by kernel_rfl
@[simp] theorem isAg_174:isAg Tryz.prog 174=some false:=by kernel_rfl
@[simp] theorem zeroC_174:zeroC Tryz.prog 174=some [.nf]:=by kernel_rfl
@[simp] theorem sz_189:sz Tryz.prog 189=some 1:=by kernel_rfl
@[simp] theorem bytes_189:bytes Tryz.prog 189=some 8:=by kernel_rfl
@[simp] theorem szz_189:szz Tryz.prog 189=some 1:=by kernel_rfl
@[simp] theorem isAg_189:isAg Tryz.prog 189=some false:=by kernel_rfl
@[simp] theorem intK_189:intK Tryz.prog 189=some .u64:=by kernel_rfl
@[simp] theorem zeroC_189:zeroC Tryz.prog 189=some [.v (.int .u64 0)]:=by kernel_rfl
end TL

set_option maxRecDepth 100000
namespace TL
open Go Go.Proofs
theorem peopleOk_fn (p:Int):FnZ Tryz.prog 88 [.int .i64 p] (.bool (decide (1≤p) && decide (p≤4))):=by
 refine FZ (rs:=[.tmp 2]) false Tryz.func88 ?_
 simp -dsimp
 refine iteP_intro (fun h => ?_) (fun h => ?_) <;> simp -dsimp [h]
theorem w64 {x:Int} (h1 : -9223372036854775808≤x) (h2:x≤9223372036854775807):IntKind.wrap .i64 x=x:=by rw [IntKind.wrap_i64]; omega
def codeV (bs:List UInt8):V:=.sl (bs.map fun b=>.int .u8 b.toNat)
/-- The reader of codes. -/
theorem open_fn (bs:List UInt8) (m:Mem) (n:Nat):FnS Tryz.prog 19 m n [.v (.sl (bs.map fun b=>.int .u8 b.toNat))] (fun t m' n'=>t=.ptr n 0∧n'=n+1∧m'=updM m n (some (.box 69 2 [.v (.sl ((bs.take 2000).map fun b=>.int .u8 b.toNat)),.v (.int .i64 0)]))):=by
 refine FS (rs:=[.tmp 2]) false Tryz.func19 ?_
 simp -dsimp
 refine iteP_intro (fun h => ?_) (fun h => ?_)
 ·simp -dsimp at h
  have h':(2000:Int)≤bs.length:=by omega
  simp -dsimp [h']
 ·simp -dsimp at h
  have:bs.take 2000=bs:=List.take_of_length_le (by omega)
  simp -dsimp [this]
theorem tmod_range (a k:Int) (h0:0≤a) (hk:1≤k):0≤a.tmod k∧(1≤k→a.tmod k<k):=by
 rw [Int.tmod_eq_emod_of_nonneg h0]
 exact ⟨Int.emod_nonneg _ (by omega),fun _=>Int.emod_lt_of_pos _ (by omega)⟩
theorem tmod_nat (a b:Nat) (hb:0<b):∃ q:Nat,q<b∧(a:Int).tmod b=q:=⟨a % b,Nat.mod_lt _ hb,by rw [Int.tmod_eq_emod_of_nonneg (by omega)]; rfl⟩
theorem tdiv_nat (a b:Nat):∃ q:Nat,q≤a∧(a:Int).tdiv b=q:=⟨a / b,Nat.div_le_self _ _,by rw [Int.tdiv_eq_ediv_of_nonneg (by omega)]; rfl⟩
theorem xor64 (a b k:Int) (ha:0≤a) (ha':a<4611686018427387904) (hb:0≤b) (hb':b<4611686018427387904) (hk:1≤k) :
  0≤(IntKind.wrap .i64 (((a % 2 ^ IntKind.i64.bits).toNat ^^^ (b % 2 ^ IntKind.i64.bits).toNat:Nat):Int)).tmod k∧(1≤k→(IntKind.wrap .i64 (((a % 2 ^ IntKind.i64.bits).toNat ^^^ (b % 2 ^ IntKind.i64.bits).toNat:Nat):Int)).tmod k<k):=by
 obtain ⟨a,rfl⟩:=Int.eq_ofNat_of_zero_le ha
 obtain ⟨b,rfl⟩:=Int.eq_ofNat_of_zero_le hb
 have h1:a<2 ^ 62:=by omega
 have h2:b<2 ^ 62:=by omega
 have h3:=Nat.xor_lt_two_pow h1 h2
 have e1:((a:Int) % 2 ^ IntKind.i64.bits).toNat=a:=by simp only [IntKind.bits]; omega
 have e2:((b:Int) % 2 ^ IntKind.i64.bits).toNat=b:=by simp only [IntKind.bits]; omega
 rw [e1,e2,w64 (by omega) (by omega)]
 exact tmod_range _ _ (by omega) hk
theorem pick_facts (p c1 c2 q3:Nat) (hp:p<1000000000) (h1:c1<256) (h2:c2<256) (h3:q3≤p) :
  (IntKind.wrap .i64 ((p:Int) * 7)=p * 7) ∧
  (IntKind.wrap .i64 ((p:Int) * 7+3)=p * 7+3) ∧
  (IntKind.wrap .i64 (c1:Int)=c1) ∧
  (IntKind.wrap .i64 ((c1:Int) * 131)=c1 * 131) ∧
  (IntKind.wrap .i64 (c2:Int)=c2) ∧
  (IntKind.wrap .i64 ((c2:Int) * 1117)=c2 * 1117) ∧
  (IntKind.wrap .i64 ((c1:Int) * 131+c2 * 1117)=c1 * 131+c2 * 1117) ∧
  (IntKind.wrap .i64 ((p:Int) * 29)=p * 29) ∧
  (IntKind.wrap .i64 ((c1:Int) * 131+c2 * 1117+p * 29)=c1 * 131+c2 * 1117+p * 29) ∧
  (IntKind.wrap .i64 (q3:Int)=q3) ∧
  (IntKind.wrap .i64 ((q3:Int) * 53)=q3 * 53) ∧
  (IntKind.wrap .i64 ((c1:Int) * 131+c2 * 1117+p * 29+q3 * 53)=c1 * 131+c2 * 1117+p * 29+q3 * 53):=by
 refine ⟨w64 ?_ ?_,w64 ?_ ?_,w64 ?_ ?_,w64 ?_ ?_,w64 ?_ ?_,w64 ?_ ?_,w64 ?_ ?_,w64 ?_ ?_,w64 ?_ ?_,w64 ?_ ?_,w64 ?_ ?_,w64 ?_ ?_⟩ <;> omega
theorem pick_fn (bs:List UInt8) (p:Nat) (hp:p<1000000000) (k:Int) (m:Mem) (n rid:Nat) (hm:m rid=some (.box 69 2 [.v (.sl (bs.map fun b=>.int .u8 b.toNat)),.v (.int .i64 p)])) :
  FnS Tryz.prog 33 m n [.ptr rid 0,.v (.int .i64 k)] (fun t m' n'=>n≤n'∧(∃ r:Int,t=.v (.int .i64 r)∧0≤r∧(1≤k→r<k))∧m'=updM m rid (some (.box 69 2 [.v (.sl (bs.map fun b=>.int .u8 b.toNat)),.v (.int .i64 (p+1))]))):=by
 have w1:IntKind.wrap .i64 ((p:Int)+1)=p+1:=by rw [IntKind.wrap_i64]; omega
 have w2:IntKind.wrap .i64 (p:Int)=p:=by rw [IntKind.wrap_i64]; omega
 by_cases hk:k<1
 ·refine FS (rs:=[.tmp 4]) false Tryz.func33 ?_
  simp -dsimp [hm,w1,w2,hk]
  omega
 have k0:¬k=0:=by omega
 by_cases hb:bs=[]
 ·refine FS (rs:=[.tmp 4]) false Tryz.func33 ?_
  simp -dsimp [hm,w1,w2,hk,hb]
  omega
 have hpos:0<bs.length:=List.length_pos_iff.2 hb
 by_cases hq:(p:Int)<bs.length
 ·have hlt:p<bs.length:=by omega
  have hget:bs[p]? = some bs[p]:=List.getElem?_eq_getElem hlt
  have w3:IntKind.wrap .i64 (bs[p].toNat:Int)=bs[p].toNat:=by have:=UInt8.toNat_lt bs[p]; rw [IntKind.wrap_i64]; omega
  have hp0:(0:Int)≤p:=by omega
  refine FS (rs:=[.tmp 4]) false Tryz.func33 ?_
  simp -dsimp [hm,w1,w2,hk,hb,hq,hget,w3,k0,hlt]
  exact tmod_range _ _ (by omega) (by omega)
 have hlt:¬p<bs.length:=by omega
 have b0:¬(bs.length:Int)=0:=by omega
 obtain ⟨q1,l1,hr⟩:=tmod_nat p bs.length hpos
 obtain ⟨q2,l2,hr2⟩:=tmod_nat (p * 7+3) bs.length hpos
 obtain ⟨q3,l3,hr3⟩:=tdiv_nat p bs.length
 have e7:((p * 7+3:Nat):Int)=(p:Int) * 7+3:=by omega
 have hr2':((p:Int) * 7+3).tmod bs.length=q2:=by rw [← e7]; exact hr2
 have g1:bs[q1]? = some bs[q1]:=List.getElem?_eq_getElem l1
 have g2:bs[q2]? = some bs[q2]:=List.getElem?_eq_getElem l2
 have u1:=UInt8.toNat_lt bs[q1]
 have u2:=UInt8.toNat_lt bs[q2]
 obtain ⟨v1,v2,v3,v4,v5,v6,v7,v8,v9,v10,v11,v12⟩:=pick_facts p _ _ q3 hp u1 u2 l3
 refine FS (rs:=[.tmp 4]) false Tryz.func33 ?_
 simp -dsimp [hm,w1,w2,hk,hb,hq,hlt]
 refine twd (List.range 46) [rid] (List.replicate 46 [0]) (List.replicate 46 [0]) ?_
 simp -dsimp [hm,w1,w2,hk,hb,hq,hlt,k0,b0,hr,hr2',hr3,g1,g2,List.range_succ,l1,l2,v1,v2,v3,v4,v5,v6,v7,v8,v9,v10,v11,v12]
 have q64:0≤((bs[q1].toNat:Int) * 131+bs[q2].toNat * 1117+p * 29+q3 * 53).tdiv 64∧((bs[q1].toNat:Int) * 131+bs[q2].toNat * 1117+p * 29+q3 * 53).tdiv 64<4611686018427387904:=by
  rw [Int.tdiv_eq_ediv_of_nonneg (by omega)]; omega
 rw [w64 (x:=Int.tdiv _ 64) (by omega) (by omega)]
 exact xor64 _ _ k (by omega) (by omega) q64.1 q64.2 (by omega)
end TL

set_option maxHeartbeats 4000000
namespace TL
open Go Go.Proofs
structure Mark where
 kind:Int
 num:Int
 deriving DecidableEq
structure Claim where
 who:Int
 says:List Mark
 deriving DecidableEq
structure Place where
 people:Int
 story:List Claim
 deriving DecidableEq
/-- Numbers of the machine. -/
def fit (x:Int):Prop := -9223372036854775808≤x∧x<9223372036854775808
def Mark.fit (m:Mark):Prop:=TL.fit m.kind∧TL.fit m.num
def fits (l:List Mark):Prop:=∀ x ∈ l,x.fit
def Claim.fit (c:Claim):Prop:=TL.fit c.who∧fits c.says
def Place.fit (p:Place):Prop:=TL.fit p.people∧∀ c ∈ p.story,c.fit
@[simp] theorem fits_nil:fits []:=by simp [fits]
@[simp] theorem fits_cons (x:Mark) (l:List Mark):fits (x :: l)↔x.fit∧fits l:=by simp [fits]
@[simp] theorem fits_append (a b:List Mark):fits (a++b)↔fits a∧fits b:=by simp [fits,or_imp,forall_and]
theorem fit_mk {k a:Int} (hk:0≤k) (hk':k<1000) (ha:0≤a) (ha':a<1000):Mark.fit ⟨k,a⟩:=by
 refine ⟨⟨?_, ?_⟩,⟨?_, ?_⟩⟩ <;> simp only <;> omega
def Mark.v (m:Mark):V:=.agg [.int .i64 m.kind,.int .i64 m.num]
@[simp] theorem mark_cells (m:Mark):m.v.cells=[.int .i64 m.kind,.int .i64 m.num]:=rfl
theorem drop_cons {α:Type} {l:List α} {i:Nat} (h:i<l.length):l.drop i=l[i] :: l.drop (i+1):=List.drop_eq_getElem_cons h
def marksV (l:List Mark):V:=.sl (l.map Mark.v)
def Claim.v (c:Claim):V:=.agg [.int .i64 c.who,marksV c.says]
def storyV (l:List Claim):V:=.sl (l.map Claim.v)
def Place.v (p:Place):V:=.agg [.int .i64 p.people,storyV p.story]
@[simp] theorem updM_idem (m:Mem) (d:Nat) (x y:Option Blk):updM (updM m d x) d y=updM m d y:=by
 funext t; simp only [updM_lit]; split <;> rfl
theorem updM_self {m:Mem} {d:Nat} {x:Option Blk} (h:m d=x):updM m d x=m:=by
 funext t; simp only [updM_lit]; split
 ·rename_i e; rw [e,h]
 ·rfl
/-- What a reader of codes is in memory. -/
abbrev rdB (bs:List UInt8) (p:Nat):Blk:=.box 69 2 [.v (.sl (bs.map fun b=>.int .u8 b.toNat)),.v (.int .i64 p)]
/-- Behind at most K reads. -/
def RdTo (K:Nat) (m:Mem) (rid:Nat) (bs:List UInt8) (p:Nat) (m':Mem):Prop:=∃ p',p≤p'∧p'≤p+K∧m'=updM m rid (some (rdB bs p'))
theorem pick_at (bs:List UInt8) (p:Nat) (hp:p<1000000000) (k:Int) (m:Mem) (n rid:Nat) (hm:m rid=some (rdB bs p)) :
  FnS Tryz.prog 33 m n [.ptr rid 0,.v (.int .i64 k)] (fun t m' n'=>n≤n'∧(∃ r:Int,t=.v (.int .i64 r)∧0≤r∧(1≤k→r<k))∧m'=updM m rid (some (rdB bs (p+1)))) :=
 pick_fn bs p hp k m n rid hm
theorem odd_at (bs:List UInt8) (p:Nat) (hp:p<1000000000) (k:Int) (hk:k<1000000) (m:Mem) (n rid:Nat) (hm:m rid=some (rdB bs p)) :
  FnS Tryz.prog 34 m n [.ptr rid 0,.v (.int .i64 k)] (fun t m' n'=>n≤n'∧(∃ b:Bool,t=.v (.bool b)∧(k≤0→b=false))∧RdTo 1 m rid bs p m'):=by
 by_cases h:0<k
 ·have hn:¬k≤0:=by omega
  refine FS (rs:=[.tmp 4]) false Tryz.func34 ?_
  simp -dsimp [h]
  refine callS_ (pick_at bs p hp k m n rid hm) ?_
  rintro t m' n' ⟨hn',⟨r,rfl,_,_⟩,rfl⟩
  simp -dsimp [h,hn]
  exact ⟨hn',p+1,by omega,by omega,rfl⟩
 ·have hn:k≤0:=by omega
  refine FS (rs:=[.tmp 4]) false Tryz.func34 ?_
  simp -dsimp [h,hn]
  exact ⟨p,by omega,by omega,(updM_self hm).symm⟩
def natOf:T→Nat
 | .v (.int _ k)=>k.toNat
 | .sv _ _ n=>n
 | _=>0
@[simp] theorem natOf_int (k:IntKind) (x:Int):natOf (.v (.int k x))=x.toNat:=rfl
@[simp] theorem natOf_sv (i c n:Nat):natOf (.sv i c n)=n:=rfl
/-- What lies from n on. -/
def upper (n:Nat) (m:Mem):Mem:=fun j=>if n≤j then m j else none
@[simp] theorem upper_def (n j:Nat) (m:Mem):upper n m j=if n≤j then m j else none:=rfl
/-- A row in the frame's memory, or none yet. -/
def IsRow (m:Mem) (lo hi:Nat) (e:Nat) (st:T) (xs:List V):Prop:=(st=.nil∧xs=[])∨∃ i,st=.loc i∧lo≤i∧i<hi∧m i=some (.arr e xs)
theorem IsRow.cell {m:Mem} {lo hi e:Nat} {st:T} {xs:List V} (h:IsRow m lo hi e st xs):st.cell=true:=by
 rcases h with ⟨rfl,_⟩ | ⟨i,rfl,_⟩ <;> rfl
theorem IsRow.bor {m m':Mem} {lo hi e n0:Nat} {st:T} {xs:List V} (h:IsRow m lo hi e st xs) (hn:n0≤lo) (hm:∀ i,st=.loc i→lo≤i→i<hi→m' i=m i) (d:Nat):bor true (upper n0 m') d st=some (.sl xs):=by
 rcases h with ⟨rfl,rfl⟩ | ⟨i,rfl,h1,h2,h3⟩
 ·simp
 ·have:n0≤i:=by omega
  simp [hm i rfl h1 h2,h3,this]
theorem nes (n:Nat):(¬n=n+1)∧(¬n=n+1+1)∧(¬n=n+1+1+1)∧(¬n=n+1+1+1+1)∧(¬n=n+1+1+1+1+1)∧(¬n=n+1+1+1+1+1+1)∧(¬n=n+1+1+1+1+1+1+1)∧(¬n+1=n)∧(¬n+1=n+1+1)∧(¬n+1=n+1+1+1)∧(¬n+1=n+1+1+1+1)∧(¬n+1=n+1+1+1+1+1)∧(¬n+1=n+1+1+1+1+1+1)∧(¬n+1=n+1+1+1+1+1+1+1)∧(¬n+1+1=n)∧(¬n+1+1=n+1)∧(¬n+1+1=n+1+1+1)∧(¬n+1+1=n+1+1+1+1)∧(¬n+1+1=n+1+1+1+1+1)∧(¬n+1+1=n+1+1+1+1+1+1)∧(¬n+1+1=n+1+1+1+1+1+1+1)∧(¬n+1+1+1=n)∧(¬n+1+1+1=n+1)∧(¬n+1+1+1=n+1+1)∧(¬n+1+1+1=n+1+1+1+1)∧(¬n+1+1+1=n+1+1+1+1+1)∧(¬n+1+1+1=n+1+1+1+1+1+1)∧(¬n+1+1+1=n+1+1+1+1+1+1+1)∧(¬n+1+1+1+1=n)∧(¬n+1+1+1+1=n+1)∧(¬n+1+1+1+1=n+1+1)∧(¬n+1+1+1+1=n+1+1+1)∧(¬n+1+1+1+1=n+1+1+1+1+1)∧(¬n+1+1+1+1=n+1+1+1+1+1+1)∧(¬n+1+1+1+1=n+1+1+1+1+1+1+1)∧(¬n+1+1+1+1+1=n)∧(¬n+1+1+1+1+1=n+1)∧(¬n+1+1+1+1+1=n+1+1)∧(¬n+1+1+1+1+1=n+1+1+1)∧(¬n+1+1+1+1+1=n+1+1+1+1)∧(¬n+1+1+1+1+1=n+1+1+1+1+1+1)∧(¬n+1+1+1+1+1=n+1+1+1+1+1+1+1)∧(¬n+1+1+1+1+1+1=n)∧(¬n+1+1+1+1+1+1=n+1)∧(¬n+1+1+1+1+1+1=n+1+1)∧(¬n+1+1+1+1+1+1=n+1+1+1)∧(¬n+1+1+1+1+1+1=n+1+1+1+1)∧(¬n+1+1+1+1+1+1=n+1+1+1+1+1)∧(¬n+1+1+1+1+1+1=n+1+1+1+1+1+1+1)∧(¬n+1+1+1+1+1+1+1=n)∧(¬n+1+1+1+1+1+1+1=n+1)∧(¬n+1+1+1+1+1+1+1=n+1+1)∧(¬n+1+1+1+1+1+1+1=n+1+1+1)∧(¬n+1+1+1+1+1+1+1=n+1+1+1+1)∧(¬n+1+1+1+1+1+1+1=n+1+1+1+1+1)∧(¬n+1+1+1+1+1+1+1=n+1+1+1+1+1+1):=by
 refine ⟨?_, ?_, ?_, ?_, ?_, ?_, ?_, ?_, ?_, ?_, ?_, ?_, ?_, ?_, ?_, ?_, ?_, ?_, ?_, ?_, ?_, ?_, ?_, ?_, ?_, ?_, ?_, ?_, ?_, ?_, ?_, ?_, ?_, ?_, ?_, ?_, ?_, ?_, ?_, ?_, ?_, ?_, ?_, ?_, ?_, ?_, ?_, ?_, ?_, ?_, ?_, ?_, ?_, ?_, ?_, ?_⟩ <;> omega
theorem ft (b:Bool):b=false∨b=true:=by cases b <;> simp
theorem far {a n:Nat} (lt:a<n):(¬a=n)∧(¬n=a)∧(∀ x0,¬a=n+x0)∧(∀ x0,¬n+x0=a)∧(∀ x0 x1,¬a=n+x0+x1)∧(∀ x0 x1,¬n+x0+x1=a)∧(∀ x0 x1 x2,¬a=n+x0+x1+x2)∧(∀ x0 x1 x2,¬n+x0+x1+x2=a)∧(∀ x0 x1 x2 x3,¬a=n+x0+x1+x2+x3)∧(∀ x0 x1 x2 x3,¬n+x0+x1+x2+x3=a)∧(∀ x0 x1 x2 x3 x4,¬a=n+x0+x1+x2+x3+x4)∧(∀ x0 x1 x2 x3 x4,¬n+x0+x1+x2+x3+x4=a)∧(∀ x0 x1 x2 x3 x4 x5,¬a=n+x0+x1+x2+x3+x4+x5)∧(∀ x0 x1 x2 x3 x4 x5,¬n+x0+x1+x2+x3+x4+x5=a)∧(∀ x0 x1 x2 x3 x4 x5 x6,¬a=n+x0+x1+x2+x3+x4+x5+x6)∧(∀ x0 x1 x2 x3 x4 x5 x6,¬n+x0+x1+x2+x3+x4+x5+x6=a)∧(∀ x0 x1 x2 x3 x4 x5 x6 x7,¬a=n+x0+x1+x2+x3+x4+x5+x6+x7)∧(∀ x0 x1 x2 x3 x4 x5 x6 x7,¬n+x0+x1+x2+x3+x4+x5+x6+x7=a)∧(∀ x0 x1 x2 x3 x4 x5 x6 x7 x8,¬a=n+x0+x1+x2+x3+x4+x5+x6+x7+x8)∧(∀ x0 x1 x2 x3 x4 x5 x6 x7 x8,¬n+x0+x1+x2+x3+x4+x5+x6+x7+x8=a)∧(∀ x0 x1 x2 x3 x4 x5 x6 x7 x8 x9,¬a=n+x0+x1+x2+x3+x4+x5+x6+x7+x8+x9)∧(∀ x0 x1 x2 x3 x4 x5 x6 x7 x8 x9,¬n+x0+x1+x2+x3+x4+x5+x6+x7+x8+x9=a) :=
 ⟨by omega,by omega,fun _=>by omega,fun _=>by omega,fun _ _=>by omega,fun _ _=>by omega,fun _ _ _=>by omega,fun _ _ _=>by omega,fun _ _ _ _=>by omega,fun _ _ _ _=>by omega,fun _ _ _ _ _=>by omega,fun _ _ _ _ _=>by omega,fun _ _ _ _ _ _=>by omega,fun _ _ _ _ _ _=>by omega,fun _ _ _ _ _ _ _=>by omega,fun _ _ _ _ _ _ _=>by omega,fun _ _ _ _ _ _ _ _=>by omega,fun _ _ _ _ _ _ _ _=>by omega,fun _ _ _ _ _ _ _ _ _=>by omega,fun _ _ _ _ _ _ _ _ _=>by omega,fun _ _ _ _ _ _ _ _ _ _=>by omega,fun _ _ _ _ _ _ _ _ _ _=>by omega⟩
end TL
