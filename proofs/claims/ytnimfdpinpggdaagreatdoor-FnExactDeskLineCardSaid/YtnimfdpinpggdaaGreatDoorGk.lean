/- TL: parts TlOwn, FnsJ8, FnsJB, FnsJC, FnsJ9, TlUp, FnsJD, FnsJE, FnsJF, FnsJGa, FnsJGb. -/
import Derived.Test.YtnimfdpinpggdaaGreatDoorGc
import Derived.Test.YtnimfdpinpggdaaGreatDoorGj
import Derived.Test.YtnimfdpinpggdaaGreatDoorGe
import Derived.Test.YtnimfdpinpggdaaGreatDoorGf
import Derived.Test.YtnimfdpinpggdaaGreatDoorGi
set_option linter.unusedVariables false
set_option linter.unusedSimpArgs false
namespace TL
open Go Go.RowKit
variable {P : Program}
mutual
/-- Values of a frame that name nothing but its own memory. -/
def T.fl : T → Bool
 | .v x => x.flat
 | .nil => true
 | .sv _ _ _ => true
 | .ptr _ _ => true
 | .agg cs => flT cs
 | .tup cs => flT cs
 | _ => false
def flT : List T → Bool
 | [] => true
 | x :: xs => x.fl && flT xs
end
@[simp] theorem flT_nil : flT [] = true := rfl
@[simp] theorem flT_cons (x : T) (xs : List T) : flT (x :: xs) = (x.fl && flT xs) := rfl
@[simp] theorem fl_v (x : V) : (T.v x).fl = x.flat := rfl
@[simp] theorem fl_nil : T.nil.fl = true := rfl
@[simp] theorem fl_sv (i j k : Nat) : (T.sv i j k).fl = true := rfl
@[simp] theorem fl_ptr (i j : Nat) : (T.ptr i j).fl = true := rfl
@[simp] theorem fl_agg (cs : List T) : (T.agg cs).fl = flT cs := rfl
@[simp] theorem fl_tup (cs : List T) : (T.tup cs).fl = flT cs := rfl
theorem flT_append (a b : List T) : flT (a ++ b) = (flT a && flT b) := by
 induction a with
 | nil => simp
 | cons x xs ih => simp [ih,Bool.and_assoc]
def Blk.fl : Blk → Bool
 | .box _ _ cs => flT cs
 | _ => false
section
variable {φ : Phi} {Z Z' : Zs} {w w' : World}
mutual
theorem fl_rep {x : T} {u : Value} (h : x.fl = true) : RepT φ Z w x u → RepT φ Z' w' x u
 | .v g => .v (flat_rep h g)
 | .nil => .nil
 | .sv g hl hm ha h0 => .sv g hl hm ha h0
 | .ptr g => .ptr g
 | .ptrs g => .ptrs g
 | .agg g => .agg (flT_rep (by simpa using h) g)
 | .tup g => .tup (flT_rep (by simpa using h) g)
theorem flT_rep {x : List T} {u : List Value} (h : flT x = true) : RepTs φ Z w x u → RepTs φ Z' w' x u
 | .nil => .nil
 | .cons g t => .cons (fl_rep (by simp at h; exact h.1) g) (flT_rep (by simp at h; exact h.2) t)
end
end
def joinM (n : Nat) (m m' : Mem) : Mem := fun i => if i < n then m i else m' i
theorem FnS.own {f : Nat} {m : Mem} {n : Nat} {args : List T} {vs : List V} {post Q : T → Mem → Nat → Prop} (h : FnS P f (fun _ => none) n (vs.map .v) post) (ha : mapO (bor true m 4) args = some vs)
  (hp : ∀ t m' n',post t m' n' → ∃ m2,LeM m2 m' ∧ t.fl = true ∧ n ≤ n' ∧ (∀ i b,m2 i = some b → n ≤ i ∧ b.fl = true) ∧ Q t m2 n') :
  FnS P f m n args (fun t mm n' => ∃ m',Q t m' n' ∧ mm = joinM n m m') := by
 refine ⟨h.1,fun φ Z w us hm hr => ?_⟩
 let Zb : Zs := fun k o => Z k o ∨ Owned φ m k
 have hZ : SubZ Z Zb := fun k o h => .inl h
 have hvs := bors_sound hm (k := true) (Zb := Zb) hZ (fun _ g hg o => .inr hg) args us vs hr ha
 have no : ∀ k,¬ Owned φ (fun _ => none) k := fun k ⟨i,b,v,h1,_⟩ => by cases h1
 have hm0 : RelM P φ Zb (fun _ => none) n w := by
  refine ⟨hm.ok,hm.fresh,fun i b hb => (by cases hb),fun i j a b u v k h1 => (by cases h1),⟨fun k o hz => ?_,hm.zlt.gl.keep hZ fun _ _ _ => rfl⟩⟩
  rcases hz with hz | hz
  ·exact hm.zlt.lt k o hz
  ·exact hm.owned_lt hz
 refine (h.2 φ Zb w us hm0 hvs.toTs).mono fun e w' hh => ?_
 obtain ⟨v,φ',Z',m1,n',t,rfl,h1,h2,h3,h4⟩ := hh
 obtain ⟨m',hle,ht,hn,hb,h4⟩ := hp t m1 n' h4
 have h1 := h1.le hle
 have lift : ∀ k,Owned φ' m' k → Owned φ' m1 k := fun k ⟨i,b,v,c1,c2⟩ => ⟨i,b,v,hle _ _ c1,c2⟩
 have old : ∀ (i : Nat) (b : Blk) (v : Value),m i = some b → φ' i = some v → φ i = some v := fun i b v h5 h6 => by
  obtain ⟨u,h7,_⟩ := hm.blk i b h5
  rw [h3.ext i u h7] at h6; cases h6; exact h7
 have lt : ∀ (i : Nat) (b : Blk) (v : Value),m i = some b → i < n := fun i b v h5 => by
  obtain ⟨u,h7,_⟩ := hm.blk i b h5
  rcases Nat.lt_or_ge i n with h | h
  ·exact h
  ·rw [hm.fresh i h] at h7; cases h7
 have new : ∀ (i : Nat) (b : Blk) (v : Value) (k : Nat),m' i = some b → isRo b = false → φ' i = some v → blkOf v = some k → w.heap.size ≤ k := fun i b v k h5 h6 h7 h8 => by
  rcases Nat.lt_or_ge k w.heap.size with h | h
  ·exact absurd (h3.own k h (lift k ⟨i,b,v,h5,h6,h7,h8⟩)) (no k)
  ·exact h
 have kz : KeepZ Z w w' := fun k o hz => h3.keep k o (.inl hz)
 refine ⟨v,φ',Z,joinM n m m',n',t,rfl,⟨h1.ok,h1.fresh,fun i b hi => ?_,fun i j a b u v k hi hj hu hv hku hkv ra rb => ?_,⟨fun k o hz => Nat.lt_of_lt_of_le (hm.zlt.lt k o hz) h3.size,hm.zlt.gl.keep (fun _ _ h => h) kz⟩⟩,fl_rep ht h2,
  ⟨h3.ext,fun k o hz => hz,kz,h3.os,h3.tape,h3.output,h3.size,fun k hk ho => h3.out k hk (no k),fun k hk ho => ?_,fun k o hz => .inl hz⟩,m',h4,rfl⟩
 ·unfold joinM at hi
  split at hi
  ·obtain ⟨v,h5,h6⟩ := hm.blk i b hi
   refine ⟨v,h3.ext _ _ h5,h6.keep h3.ext (fun _ _ h => h) kz fun hro k hk => ⟨h3.out k (h6.lt hro hk) (no k),fun o ho => ho⟩⟩
  ·obtain ⟨v,h5,h6⟩ := h1.blk i b hi
   refine ⟨v,h5, ?_⟩
   have hf := (hb i b hi).2
   cases b with
   | ro xs => cases hf
   | arr e xs => cases hf
   | mp es => cases hf
   | box e z cs =>
    obtain ⟨a1,a2,k,cur,a3,a4,a5,a6,a7,a8,a9⟩ := h6
    exact ⟨a1,a2,k,cur,a3,a4,a5,flT_rep hf a6,a7,fun o ho => a8 o (h3.sub k o (.inl ho)),a9⟩
 ·unfold joinM at hi hj
  split at hi <;> split at hj
  ·exact hm.ne i j a b u v k hi hj (old _ _ _ hi hu) (old _ _ _ hj hv) hku hkv ra rb
  ·have l1 := hm.owned_lt ⟨i,a,u,hi,ra,old _ _ _ hi hu,hku⟩
   have l2 := new j b v k hj rb hv hkv
   omega
  ·have l1 := hm.owned_lt ⟨j,b,v,hj,rb,old _ _ _ hj hv,hkv⟩
   have l2 := new i a u k hi ra hu hku
   omega
  ·exact h1.ne i j a b u v k hi hj hu hv hku hkv ra rb
 ·obtain ⟨i,b,v,h5,h6,h7,h8⟩ := ho
  unfold joinM at h5
  split at h5
  ·exact ⟨i,b,v,h5,h6,old _ _ _ h5 h7,h8⟩
  ·have := new i b v k h5 h6 h7 h8
   omega
end TL

set_option maxRecDepth 100000
set_option maxHeartbeats 4000000
set_option pp.maxSteps 1500
namespace TL
open Go Go.Proofs
attribute [local simp] marksV storyV codeV Claim.v Place.v Desk.v
theorem marks_filled (l : List Mark) : (filled Mark.v [T.v (.int .i64 0),T.v (.int .i64 0)] l l.length).flatten = mkT l := by
 rw [filled_end]
 induction l with
 | nil => rfl
 | cons x xs ih => rw [List.map_cons,List.flatten_cons,ih]; rfl
def ItmO (l : List Mark) (m : Mem) (n : Nat) (a : Nat) (s : S) : Prop := ∃ i : Nat,s.tm 0 = .v (.sl (l.map Mark.v)) ∧ s.tm 3 = .sv n 0 l.length ∧ s.tm 4 = .v (.int .i64 i) ∧ i ≤ l.length ∧ n < s.n ∧ s.m n = some (.box 165 2 (filled Mark.v [T.v (.int .i64 0),T.v (.int .i64 0)] l i).flatten) ∧ (∀ j,j < n → s.m j = m j) ∧ (a = 1 → i = l.length)
theorem toMarkS_own (l : List Mark) (hl : l.length ≤ 1048576) (m : Mem) (n : Nat) : FnS Tryz.prog 159 m n [.v (.sl (l.map Mark.v))] (fun t m' n' => n ≤ n' ∧ (∀ j,j < n → m' j = m j) ∧ OwnRow m' n n' t l) := by
 have b1 : (16 : Int) * l.length ≤ 281474976710656 := by omega
 have b2 : (l.length : Int) ≤ 9223372036854775807 := by omega
 have b3 : (0 : Int) ≤ l.length := by omega
 refine FnS_of (rs := [.tmp 2]) true Tryz.func159 rfl rfl rfl rfl (Nat.le_of_ble_eq_true rfl) ?_
 simp -dsimp [b1,b2,b3]
 refine twp_loopC (ItmO l m n 0) (fun s => l.length - natOf (s.tm 4)) (ItmO l m n 1) ?_ ?_ ?_
 ·exact ⟨0,by simp -dsimp,by simp -dsimp,by simp -dsimp,by omega,by simp -dsimp <;> omega,by rw [filled_zero]; simp -dsimp,fun j j1 => by simp -dsimp [far j1],by simp⟩
 ·rintro s ⟨i,h0,h3,h4,hi,hn,hm,hout,hend⟩
  by_cases hlt : i < l.length
  case neg =>
   simp -dsimp [h0,h4,hlt]
   exact ⟨i,by simp -dsimp [h0],by simp -dsimp [h3],by simp -dsimp [h4],hi,by simp -dsimp; omega,by simp -dsimp [hm],fun j j1 => by simp -dsimp [hout j j1],fun _ => by omega⟩
  have hget : (l.map Mark.v)[i]? = some (l[i].v) := by simp [hlt]
  have wi : IntKind.wrap .i64 ((i : Int) + 1) = ((i + 1 : Nat) : Int) := by rw [w64 (by omega) (by omega)]; omega
  have hmu : l.length - (i + 1) < l.length - i := by omega
  have hfl : (filled Mark.v [T.v (.int .i64 0),T.v (.int .i64 0)] l i).flatten.length = l.length * 2 := filled_flat_len (k := 2) elemOk_mark rfl hi
  have hst := filled_set (v := Mark.v) (zs := [T.v (.int .i64 0),T.v (.int .i64 0)]) (k := 2) elemOk_mark rfl hlt
  have hoff : i * 2 + 2 ≤ l.length * 2 := by omega
  have hlt' : (i : Int) < l.length := by omega
  rw [cellsT_mark] at hst
  simp -dsimp [h0,h3,h4,hlt,hget]
  refine call_ (toMark_fn l[i]) (by simp -dsimp [Mark.v]) ?_
  simp -dsimp [Mark.v,h0,h3,h4,hlt,hlt',hm,hfl,hoff,hst,wi,hmu,filled_len]
  exact ⟨i + 1,by simp -dsimp [h0],by simp -dsimp [h3],by simp -dsimp,by omega,by simp -dsimp; omega,by simp -dsimp,fun j j1 => by simp -dsimp [show ¬ j = n by omega,hout j j1],by simp⟩
 ·rintro s ⟨i,h0,h3,h4,hi,hn,hm,hout,hend⟩
  have := hend rfl
  subst this
  rw [marks_filled] at hm
  simp -dsimp [h3]
  exact ⟨by omega,hout,n,rfl,Nat.le_refl _,by omega,hm⟩
theorem toClaim_own (c : Claim) (hc : c.small) (m : Mem) (n : Nat) : FnS Tryz.prog 115 m n [.v c.v] (fun t m' n' => n ≤ n' ∧ (∀ j,j < n → m' j = m j) ∧ ∃ st,t = .agg [.v (.int .i64 c.who),st] ∧ OwnRow m' n n' st c.says) := by
 refine FnS_of (rs := [.cell 2 104]) true Tryz.func115 rfl rfl rfl rfl (Nat.le_of_ble_eq_true rfl) ?_
 have e0 : ¬ n = n + 1 := by omega
 have e5 : ¬ n + 1 = n := by omega
 simp -dsimp [Mark.v,nes,e0,e5]
 refine callS_ (toMarkS_own c.says hc _ _) ?_
 rintro t m1 n1 ⟨hn1,hout,id,rfl,i0,i1,him⟩
 have k0 := hout n (by omega)
 have k1 := hout (n + 1) (by omega)
 have k2 := hout (n + 1 + 1) (by omega)
 simp -dsimp [nes,e0,e5] at k0 k1 k2
 simp -dsimp [nes,e0,e5,k0,k1,k2]
 have ho : ∀ j,j < n → m1 j = m j := fun j j1 => by have hj := hout j (by omega); simp [far j1] at hj; exact hj
 exact ⟨by omega,fun j j1 => by simp [show ¬ j = n + 1 by omega,show ¬ j = n + 1 + 1 by omega,ho j j1],id,rfl,by omega,by omega,by simp [show ¬ id = n + 1 by omega,show ¬ id = n + 1 + 1 by omega,him]⟩
def IcsO (l : List Claim) (m0 : Mem) (n0 : Nat) (e : Nat) (s : S) : Prop := ∃ (i id : Nat) (js : List Nat),s.tm 7 = .v (.sl (l.map Claim.v)) ∧ s.tm 8 = .v (.int .i64 l.length) ∧ s.tm 9 = .v (.int .i64 i) ∧ s.mu = true ∧ i ≤ l.length ∧ s.tm 3 = .sv id 0 i ∧ n0 ≤ id ∧ id < s.n ∧ id ∉ js ∧ s.m id = some (.box 104 2 (clT (l.take i) js)) ∧
 (∀ j ∈ js,n0 ≤ j ∧ j < s.n) ∧ js.Nodup ∧ Says s.m (l.take i) js ∧ (∀ j,j < n0 → s.m j = m0 j) ∧ (e = 1 → i = l.length)
theorem copyStory_deep (l : List Claim) (hl : l.length ≤ 1048576) (hs : ∀ c ∈ l,c.small) (hne : ∀ c ∈ l,c.says ≠ []) (m : Mem) (n : Nat) : FnS Tryz.prog 122 m n [.v (storyV l)] (fun t m' n' => n ≤ n' ∧ (∀ j,j < n → m' j = m j) ∧ ∃ js,OwnRowC m' n n' t l js) := by
 refine FnS_of (rs := [.tmp 2]) true Tryz.func122 rfl rfl rfl rfl (Nat.le_of_ble_eq_true rfl) ?_
 simp -dsimp
 refine twp_loopC (IcsO l m n 0) (fun s => l.length - natOf (s.tm 9)) (IcsO l m n 1) ?_ ?_ ?_
 ·exact ⟨0,n,[],by simp -dsimp,by simp -dsimp,by simp -dsimp,by simp -dsimp,by omega,by simp -dsimp,Nat.le_refl _,by simp -dsimp,by simp,by simp -dsimp,by simp,List.nodup_nil,trivial,fun j j1 => by simp -dsimp [far j1],by simp⟩
 ·rintro s ⟨i,id,js,t7,t8,t9,hmu,hi,t3,hid0,hid,hin,hm,hjs,hnd,hsy,hout,hend⟩
  by_cases hlt : i < l.length
  case neg =>
   simp -dsimp [t8,t9,hlt]
   exact ⟨i,id,js,by simp -dsimp [t7],by simp -dsimp [t8],by simp -dsimp [t9],by simp -dsimp [hmu],hi,by simp -dsimp [t3],hid0,by simp -dsimp [hid],hin,by simp -dsimp [hm],fun j hj => by have := hjs j hj; simp -dsimp; omega,hnd,hsy,fun j j1 => by simp -dsimp [hout j j1],fun _ => by omega⟩
  have hget : (l.map Claim.v)[i]? = some (l[i].v) := by simp [hlt]
  have wi : IntKind.wrap .i64 ((i : Int) + 1) = ((i + 1 : Nat) : Int) := by rw [w64 (by omega) (by omega)]; omega
  have hmu1 : l.length - (i + 1) < l.length - i := by omega
  have f1 := far hid
  have b1 : (i + 1) * 32 ≤ 140737488355328 := by omega
  have htk : l.take (i + 1) = l.take i ++ [l[i]] := List.take_succ_eq_append_getElem hlt
  have htl : (l.take i).length = i := by simp; omega
  have r5 := clT_len (l.take i) js hsy.len
  have r6 := clT_cells (l.take i) js
  have hcm := List.getElem_mem hlt
  have hclone := fun m n => cloneMarks_own l[i].says (hne _ hcm) (hs _ hcm) m n
  rw [htl] at r5
  generalize hc : l[i] = c at *
  obtain ⟨c1,c2⟩ := c
  simp -dsimp [t7,t8,t9,hlt,hget,hc]
  refine twp_draw (List.range 10) [s.n] (List.replicate 10 [0]) (List.replicate 10 [0]) (by kernel_rfl) (by kernel_rfl) (by kernel_rfl) (by kernel_rfl) ?_
  simp -dsimp [List.range_succ,t3]
  refine callS_ (hclone _ _) ?_
  rintro t m2 n2 ⟨hn2,hout2,id2,rfl,i0,i1,him2⟩
  have k0 := hout2 s.n (by omega)
  have k1 := hout2 id (by omega)
  have g0 := far (show s.n < n2 by omega)
  have g1 := far (show id < n2 by omega)
  have g2 := far i1
  simp -dsimp [f1,hm] at k0 k1
  simp -dsimp [List.range_succ,t3,t9,hmu,f1,hm,hc,k0,k1,g0,g1,g2,r5,r6,b1,wi,hmu1,nes]
  refine st_out fun s' ht hm' hn' hu' => ?_
  have a3 := ht 3
  have a7 := ht 7
  have a8 := ht 8
  have a9 := ht 9
  simp -dsimp [t7,t8,wi] at a3 a7 a8 a9 hm' hn' hu'
  clear ht
  have hjk : ∀ j ∈ js,s'.m j = s.m j := fun j hj => by
   have q1 := hjs j hj
   have q2 : ¬ j = id := fun e => hin (e ▸ hj)
   have q3 := hout2 j (by omega)
   simp [far q1.2] at q3
   simp [hm',far (show j < n2 by omega),q2,q3]
  have hsl : (l.take i).length = js.length := hsy.len
  refine ⟨i + 1,n2 + 1,js ++ [id2],a7,a8,a9,by rw [hu',hmu],by omega,a3,by omega,by omega, ?_, ?_,fun j hj => ?_, ?_, ?_,fun j j1 => ?_,by simp⟩
  ·intro hj
   rcases List.mem_append.1 hj with hj | hj
   ·have := hjs _ hj; omega
   ·have := List.mem_singleton.1 hj; omega
  ·rw [htk,clT_app _ _ _ _ hsl]
   simp [hm',nes,List.take_of_length_le (show (clT (l.take i) js).length ≤ i * 2 by omega)]
  ·rcases List.mem_append.1 hj with hj | hj
   ·have := hjs j hj; omega
   ·rw [List.mem_singleton.1 hj]; omega
  ·rw [List.nodup_append]
   refine ⟨hnd,by simp,fun y hy z hz => ?_⟩
   rw [List.mem_singleton.1 hz]
   have := hjs y hy
   omega
  ·rw [htk]
   exact (Says.app hsl).2 ⟨hsy.keep hjk,⟨by simp [hm',g2,show ¬ id2 = id by omega,him2],trivial⟩⟩
  ·have q3 := hout2 j (by omega)
   simp [far (show j < s.n by omega)] at q3
   simp [hm',far (show j < n2 by omega),show ¬ j = id by omega,q3,hout j j1]
 ·rintro s ⟨i,id,js,t7,t8,t9,hmu,hi,t3,hid0,hid,hin,hm,hjs,hnd,hsy,hout,hend⟩
  have := hend rfl
  subst this
  rw [List.take_length] at hm hsy
  simp -dsimp [t3]
  exact ⟨by omega,hout,js,hjs,hnd,hsy,.inr ⟨id,rfl,hid0,hid,hin,hm⟩⟩
/-- A place of the caller's own. -/
def DeepP (p : Place) (m : Mem) (n : Nat) (t : T) (m' : Mem) (n' : Nat) : Prop := n ≤ n' ∧ (∀ j,j < n → m' j = m j) ∧ ∃ st js,t = .agg [.v (.int .i64 p.people),st] ∧ OwnRowC m' n n' st p.story js
theorem OwnRowC.wide {m m' : Mem} {lo hi lo' hi' : Nat} {st : T} {l : List Claim} {js : List Nat} (h : OwnRowC m lo hi st l js) (h1 : lo' ≤ lo) (h2 : hi ≤ hi') (hk : ∀ j,lo ≤ j → j < hi → m' j = m j) : OwnRowC m' lo' hi' st l js := by
 obtain ⟨a1,a2,a3,a4⟩ := h.keep hk
 refine ⟨fun j hj => by have := a1 j hj; omega,a2,a3, ?_⟩
 rcases a4 with a4 | ⟨id,e,i0,i1,i2,i3⟩
 ·exact .inl a4
 ·exact .inr ⟨id,e,by omega,by omega,i2,i3⟩
theorem copyPlace_deep (p : Place) (hp : p.small) (hne : ∀ c ∈ p.story,c.says ≠ []) (m : Mem) (n : Nat) : FnS Tryz.prog 73 m n [.v p.v] (DeepP p m n) := by
 refine FnS_of (rs := [.cell 2 31]) true Tryz.func73 rfl rfl rfl rfl (Nat.le_of_ble_eq_true rfl) ?_
 have e0 : ¬ n = n + 1 := by omega
 have e5 : ¬ n + 1 = n := by omega
 simp -dsimp
 refine twp_draw (List.range 7) [n] (List.replicate 7 [0]) (List.replicate 7 [0]) (by kernel_rfl) (by kernel_rfl) (by kernel_rfl) (by kernel_rfl) ?_
 simp -dsimp [List.range_succ,e0,e5,nes]
 refine callS_ (copyStory_deep p.story hp.1 hp.2 hne _ _) ?_
 rintro t m1 n1 ⟨hn1,hout1,js,hrow⟩
 have k0 := hout1 n (by omega)
 have k1 := hout1 (n + 1) (by omega)
 simp -dsimp [nes,e0,e5] at k0 k1
 have hc := hrow.cell
 have hcs := hrow.cells
 simp -dsimp [List.range_succ,k0,k1,nes,e0,e5,hc,hcs]
 refine ⟨by omega,fun j j1 => ?_,t,js,rfl,hrow.wide (by omega) (by omega) fun j j1 j2 => by simp [show ¬ j = n + 1 by omega]⟩
 have := hout1 j (by omega)
 simp [far j1,show ¬ j = n + 1 by omega] at this ⊢
 exact this
end TL

namespace TL
open Go Go.Proofs
attribute [local simp] marksV storyV codeV Claim.v Place.v Desk.v
/-- Places as cells, their rows of claims told. -/
def pcT : List Place → List T → List T
 | p :: l,st :: ss => .v (.int .i64 p.people) :: st :: pcT l ss
 | _,_ => []
@[simp] theorem pcT_nil (ss : List T) : pcT [] ss = [] := by cases ss <;> rfl
@[simp] theorem pcT_cons (p : Place) (l : List Place) (st : T) (ss : List T) : pcT (p :: l) (st :: ss) = .v (.int .i64 p.people) :: st :: pcT l ss := rfl
/-- Places whose rows are one's own, one after the other from lo to hi. -/
def OwnPl (m : Mem) : Nat → Nat → List Place → List T → Prop
 | lo,hi,[],[] => lo ≤ hi
 | lo,hi,p :: l,st :: ss => ∃ mid js,lo ≤ mid ∧ OwnRowC m lo mid st p.story js ∧ OwnPl m mid hi l ss
 | _,_,_,_ => False
theorem OwnPl.le {m : Mem} : ∀ {l : List Place} {ss : List T} {lo hi : Nat},OwnPl m lo hi l ss → lo ≤ hi
 | [],[],lo,hi,h => h
 | p :: l,st :: ss,lo,hi,⟨mid,js,h1,h2,h3⟩ => Nat.le_trans h1 h3.le
 | [],st :: ss,_,_,h => h.elim
 | p :: l,[],_,_,h => h.elim
theorem OwnPl.len {m : Mem} : ∀ {l : List Place} {ss : List T} {lo hi : Nat},OwnPl m lo hi l ss → l.length = ss.length
 | [],[],lo,hi,h => rfl
 | p :: l,st :: ss,lo,hi,⟨mid,js,h1,h2,h3⟩ => by simp [h3.len]
 | [],st :: ss,_,_,h => h.elim
 | p :: l,[],_,_,h => h.elim
theorem OwnPl.keep {m m' : Mem} : ∀ {l : List Place} {ss : List T} {lo hi : Nat},OwnPl m lo hi l ss → (∀ j,lo ≤ j → j < hi → m' j = m j) → OwnPl m' lo hi l ss
 | [],[],lo,hi,h,_ => h
 | p :: l,st :: ss,lo,hi,⟨mid,js,h1,h2,h3⟩,hk => ⟨mid,js,h1,h2.keep fun j j1 j2 => hk j j1 (Nat.lt_of_lt_of_le j2 h3.le),h3.keep fun j j1 j2 => hk j (Nat.le_trans h1 j1) j2⟩
 | [],st :: ss,_,_,h,_ => h.elim
 | p :: l,[],_,_,h,_ => h.elim
theorem OwnPl.snoc {m : Mem} {p : Place} {st : T} {js : List Nat} {a b : Nat} : ∀ {l : List Place} {ss : List T} {lo hi : Nat},OwnPl m lo hi l ss → hi ≤ a → a ≤ b → OwnRowC m a b st p.story js → OwnPl m lo b (l ++ [p]) (ss ++ [st])
 | [],[],lo,hi,h,h1,h2,h3 => ⟨b,js,by have : lo ≤ hi := h; omega,h3.wide (by have : lo ≤ hi := h; omega) (Nat.le_refl _) (fun _ _ _ => rfl),Nat.le_refl _⟩
 | q :: l,s :: ss,lo,hi,⟨mid,k,g1,g2,g3⟩,h1,h2,h3 => ⟨mid,k,g1,g2,g3.snoc h1 h2 h3⟩
 | [],st :: ss,_,_,h,_,_,_ => h.elim
 | p :: l,[],_,_,h,_,_,_ => h.elim
theorem pcT_app : ∀ (A B : List Place) (sa sb : List T),A.length = sa.length → pcT (A ++ B) (sa ++ sb) = pcT A sa ++ pcT B sb
 | [],B,[],sb,h => rfl
 | c :: A,B,j :: sa,sb,h => by simp [pcT_app A B sa sb (by simpa using h)]
 | [],B,j :: sa,sb,h => by simp at h
 | c :: A,B,[],sb,h => by simp at h
theorem pcT_len : ∀ (A : List Place) (sa : List T),A.length = sa.length → (pcT A sa).length = A.length * 2
 | [],[],h => rfl
 | c :: A,j :: sa,h => by simp [pcT_len A sa (by simpa using h)]; omega
 | [],j :: sa,h => by simp at h
 | c :: A,[],h => by simp at h
theorem OwnPl.cells {m : Mem} : ∀ {l : List Place} {ss : List T} {lo hi : Nat},OwnPl m lo hi l ss → allC (pcT l ss)
 | [],[],lo,hi,h => by simp
 | p :: l,st :: ss,lo,hi,⟨mid,js,h1,h2,h3⟩ => by
  intro x hx
  simp only [pcT_cons,List.mem_cons] at hx
  rcases hx with rfl | rfl | hx
  ·rfl
  ·exact h2.cell
  ·exact h3.cells x hx
 | [],st :: ss,_,_,h => h.elim
 | p :: l,[],_,_,h => h.elim
end TL

namespace TL
open Go Go.Proofs
attribute [local simp] marksV storyV codeV Claim.v Place.v Desk.v
/-- A row of places of one's own; ex: what lies behind it in its block. -/
def PastO (m : Mem) (b hi : Nat) (P : T) (l : List Place) (ss : List T) : Prop := (P = .nil ∧ l = [] ∧ ss = []) ∨ ∃ id ex,P = .sv id 0 l.length ∧ b ≤ id ∧ id < hi ∧ flT ex = true ∧ m id = some (.box 31 2 (pcT l ss ++ ex))
theorem PastO.cell {m : Mem} {b hi : Nat} {P : T} {l : List Place} {ss : List T} (h : PastO m b hi P l ss) : P.cell = true := by
 rcases h with ⟨rfl,_⟩ | ⟨id,ex,rfl,_⟩ <;> rfl
theorem PastO.cells {m : Mem} {b hi : Nat} {P : T} {l : List Place} {ss : List T} (h : PastO m b hi P l ss) : P.cells = [P] := by
 rcases h with ⟨rfl,_⟩ | ⟨id,ex,rfl,_⟩ <;> rfl
/-- A desk of one's own: the claims of its place lie from n to a, those of its places of before from a to b, the row of these from b on. -/
def DeepD (d : Desk) (m : Mem) (n : Nat) (t : T) (m' : Mem) (n' : Nat) : Prop := n ≤ n' ∧ (∀ j,j < n → m' j = m j) ∧ ∃ (sn P : T) (jn : List Nat) (ss : List T) (a b : Nat),t = .agg [.v (.int .i64 d.now.people),sn,P] ∧ OwnRowC m' n a sn d.now.story jn ∧ n ≤ a ∧ OwnPl m' a b d.past ss ∧ b ≤ n' ∧ PastO m' b n' P d.past ss
def IcdO (d : Desk) (m0 : Mem) (n0 q : Nat) (sn : T) (jn : List Nat) (e : Nat) (s : S) : Prop := ∃ (i b : Nat) (P : T) (ss : List T),s.tm 2 = .ptr (n0 + 1) 0 ∧ s.tm 3 = .ptr q 0 ∧ s.tm 11 = .v (.sl (d.past.map Place.v)) ∧ s.tm 12 = .v (.int .i64 d.past.length) ∧ s.tm 13 = .v (.int .i64 i) ∧ s.mu = true ∧ i ≤ d.past.length ∧ q < s.n ∧
 s.m (n0 + 1) = some (.box 34 3 [.v (.int .i64 0),.nil,.nil]) ∧ s.m q = some (.box 34 3 [.v (.int .i64 d.now.people),sn,P]) ∧ OwnRowC s.m (n0 + 1 + 1) q sn d.now.story jn ∧ OwnPl s.m (q + 1) b (d.past.take i) ss ∧ b ≤ s.n ∧ PastO s.m b s.n P (d.past.take i) ss ∧ (∀ j,j < n0 → s.m j = m0 j) ∧ (e = 1 → i = d.past.length)
theorem copyDesk_deep (d : Desk) (hd : d.small) (hn0 : ∀ c ∈ d.now.story,c.says ≠ []) (hp0 : ∀ p ∈ d.past,∀ c ∈ p.story,c.says ≠ []) (m : Mem) (n : Nat) : FnS Tryz.prog 31 m n [.v d.v] (DeepD d m n) := by
 have hl := hd.2.1
 refine FnS_of (rs := [.cell 2 34]) true Tryz.func31 rfl rfl rfl rfl (Nat.le_of_ble_eq_true rfl) ?_
 have e0 : ¬ n = n + 1 := by omega
 have e5 : ¬ n + 1 = n := by omega
 simp -dsimp [e0,e5,nes]
 refine callL_ (vs := [d.now.v]) (copyPlace_deep d.now hd.1 hn0 _ _) (by simp -dsimp) ?_
 rintro t m1 n1 ⟨hn1,hout1,sn,jn,rfl,hrow⟩
 have k0 := hout1 n (by omega)
 have k1 := hout1 (n + 1) (by omega)
 simp -dsimp [nes,e0,e5] at k0 k1
 have g0 := far (show n < n1 by omega)
 have g1 := far (show n + 1 < n1 by omega)
 have hc := hrow.cell
 have hcs := hrow.cells
 simp -dsimp [k0,k1,nes,g0,g1,hc,hcs,e0,e5]
 refine twp_loopC (IcdO d m n n1 sn jn 0) (fun s => d.past.length - natOf (s.tm 13)) (IcdO d m n n1 sn jn 1) ?_ ?_ ?_
 ·refine ⟨0,n1 + 1,.nil,[],by simp -dsimp,by simp -dsimp,by simp -dsimp,by simp -dsimp,by simp -dsimp,by simp -dsimp,by omega,(by simp -dsimp <;> omega),by simp -dsimp [g1,k1],by simp -dsimp,hrow.keep (fun j j1 j2 => by simp -dsimp [far j2]),Nat.le_refl _,(by simp -dsimp <;> omega),.inl ⟨rfl,rfl,rfl⟩,fun j j1 => ?_,by simp⟩
  have := hout1 j (by omega)
  simp -dsimp [far j1] at this
  simp -dsimp [far (show j < n1 by omega),this]
 ·rintro s ⟨i,b,P,ss,t2,t3,t11,t12,t13,hmu,hi,hq,m1',mq,hnow,hpl,hbn,hst,hout,hend⟩
  by_cases hlt : i < d.past.length
  case neg =>
   simp -dsimp [t12,t13,hlt]
   exact ⟨i,b,P,ss,by simp -dsimp [t2],by simp -dsimp [t3],by simp -dsimp [t11],by simp -dsimp [t12],by simp -dsimp [t13],by simp -dsimp [hmu],hi,by simp -dsimp; omega,by simp -dsimp [m1'],by simp -dsimp [mq],hnow,hpl,by simp -dsimp; omega,hst,fun j j1 => by simp -dsimp [hout j j1],fun _ => by omega⟩
  have hget : (d.past.map Place.v)[i]? = some (d.past[i].v) := by simp [hlt]
  have wi : IntKind.wrap .i64 ((i : Int) + 1) = ((i + 1 : Nat) : Int) := by rw [w64 (by omega) (by omega)]; omega
  have hmu1 : d.past.length - (i + 1) < d.past.length - i := by omega
  have p0 := far (show n1 < s.n by omega)
  have p1 := far (show n + 1 < s.n by omega)
  have p3 := far (show n < s.n by omega)
  have q0 : ¬ n + 1 = n1 := by omega
  have q1 : ¬ n1 = n + 1 := by omega
  have hmem := List.getElem_mem hlt
  have hcp := fun m n => copyPlace_deep d.past[i] (hd.2.2 _ hmem) (hp0 _ hmem) m n
  have b1 : (min i d.past.length + 1) * 32 ≤ 140737488355328 := by omega
  have b2 : (i + 1) * 32 ≤ 140737488355328 := by omega
  have htk : d.past.take (i + 1) = d.past.take i ++ [d.past[i]] := List.take_succ_eq_append_getElem hlt
  have hil : min i d.past.length = i := by omega
  have htl : (d.past.take i).length = i := by simp; omega
  have r5 := pcT_len (d.past.take i) ss hpl.len
  have r6 := hpl.cells
  rw [htl] at r5
  have hcq := hst.cell
  simp -dsimp [t11,t12,t13,hlt,hget]
  refine twp_draw (List.range 8) [s.n,n1] (List.replicate 8 [0,1]) (List.replicate 7 [0,1] ++ [[0]]) (by kernel_rfl) (by kernel_rfl) (by kernel_rfl) (by kernel_rfl) ?_
  simp -dsimp [List.range_succ,t3,mq,p0,p1,nes]
  refine callL_ (vs := [d.past[i].v]) (hcp _ _) (by simp -dsimp) ?_
  rintro t m2 n2 ⟨hn2,hout2,st,js,rfl,hrow2⟩
  have u0 := hout2 n1 (by omega)
  have u1 := hout2 (n + 1) (by omega)
  have u2 := hout2 s.n (by omega)
  have v0 := far (show n1 < n2 by omega)
  have v1 := far (show n + 1 < n2 by omega)
  have v2 := far (show s.n < n2 by omega)
  have hc2 := hrow2.cell
  have hcs2 := hrow2.cells
  simp -dsimp [p0,p1,mq] at u0 u1 u2
  rcases hst with ⟨rfl,hs0,hs1⟩ | ⟨r,ex,rfl,hi0,hi1,hex,him'⟩
  ·have hi00 : i = 0 := by
    simp at hs0; rcases hs0 with h | h
    ·exact h
    ·rw [h] at hlt; simp at hlt
   subst hi00
   simp -dsimp [List.range_succ,t3,t13,mq,u0,u1,u2,v0,v1,v2,hc2,hcs2,p0,p1,nes,hmu,wi,hmu1,q0,q1]
   refine ⟨?_,by rw [w64 (by omega) (by omega)]; omega⟩
   have w1 : IntKind.wrap .i64 (1 : Int) = 1 := by rw [w64 (by omega) (by omega)]
   refine st_out (I := IcdO d m n n1 sn jn 0) fun s' ht hm' hn' hu' => ?_
   have a2 := ht 2
   have a3 := ht 3
   have a11 := ht 11
   have a12 := ht 12
   have a13 := ht 13
   simp -dsimp [t2,t3,t11,t12,wi,w1] at a2 a3 a11 a12 a13 hm' hn' hu'
   clear ht
   have hjk : ∀ j,j < s.n → ¬ j = n1 → s'.m j = s.m j := fun j j1 j2 => by
    have q3 := hout2 j (by omega)
    simp [show ¬ j = s.n by omega] at q3
    simp [hm',show ¬ j = n2 by omega,show ¬ j = n2 + 1 by omega,j2,q3]
   have ht1 : d.past.take 1 = [d.past[0]] := by rw [show (1 : Nat) = 0 + 1 from rfl,htk]; rfl
   rw [hs1] at hpl
   have hle := hpl.le
   refine ⟨1,n2,.sv (n2 + 1) 0 1,[st],a2,a3,a11,a12,a13,by rw [hu',hmu],by omega,by omega, ?_, ?_,hnow.keep fun j j1 j2 => hjk j (by omega) (by omega), ?_,by omega, ?_,fun j j1 => ?_,by simp⟩
   ·rw [hjk _ (by omega) (by omega),m1']
   ·simp [hm']
   ·rw [ht1]
    exact ⟨n2,js,by omega,hrow2.wide (by omega) (Nat.le_refl _) fun j j1 j2 => by simp [hm',show ¬ j = n2 by omega,show ¬ j = n2 + 1 by omega,show ¬ j = n1 by omega],Nat.le_refl _⟩
   ·rw [ht1]
    exact .inr ⟨n2 + 1,[],rfl,by omega,by omega,rfl,by simp [hm',show ¬ n2 + 1 = n1 by omega]⟩
   ·rw [hjk j (by omega) (by omega),hout j j1]
  ·have g1' := far (show r < n2 by omega)
   have g2 : ¬ r = n1 := by have := hpl.le; omega
   have g3 : ¬ r = n + 1 := by have := hpl.le; omega
   have u3 := hout2 r (by omega)
   simp -dsimp [far hi1,him'] at u3
   simp -dsimp [List.range_succ,t3,t13,mq,u0,u1,u2,u3,v0,v1,v2,hc2,hcs2,p0,p1,nes,hmu,wi,hmu1,q0,q1,g1',g2,Ne.symm g2,b1,b2,hil,htl,r5,r6]
   refine ⟨by omega, ?_⟩
   refine st_out (I := IcdO d m n n1 sn jn 0) fun s' ht hm' hn' hu' => ?_
   have a2 := ht 2
   have a3 := ht 3
   have a11 := ht 11
   have a12 := ht 12
   have a13 := ht 13
   simp -dsimp [t2,t3,t11,t12,wi] at a2 a3 a11 a12 a13 hm' hn' hu'
   clear ht
   have hjk : ∀ j,j < s.n → ¬ j = n1 → ¬ j = r → s'.m j = s.m j := fun j j1 j2 j3 => by
    have q3 := hout2 j (by omega)
    simp [show ¬ j = s.n by omega] at q3
    simp [hm',show ¬ j = n2 by omega,show ¬ j = n2 + 1 by omega,j2,j3,q3]
   have hle := hpl.le
   have hsl := hpl.len
   refine ⟨i + 1,n2,.sv (n2 + 1) 0 (i + 1),ss ++ [st],a2,a3,a11,a12,by rw [a13]; simp,by rw [hu',hmu],by omega,by omega, ?_, ?_,hnow.keep fun j j1 j2 => hjk j (by omega) (by omega) (by omega), ?_,by omega, ?_,fun j j1 => ?_,by simp⟩
   ·rw [hjk _ (by omega) (by omega) (by omega),m1']
   ·simp [hm']
   ·rw [htk]
    exact (hpl.keep fun j j1 j2 => hjk j (by omega) (by omega) (by omega)).snoc (a := s.n + 1 + 1) (by omega) (by omega) (hrow2.keep fun j j1 j2 => by simp [hm',show ¬ j = n2 by omega,show ¬ j = n2 + 1 by omega,show ¬ j = n1 by omega,show ¬ j = r by omega])
   ·rw [htk]
    exact .inr ⟨n2 + 1,[],by simp; omega,by omega,by omega,rfl,by rw [pcT_app _ _ _ _ hsl]; simp [hm',show ¬ n2 + 1 = n1 by omega]⟩
   ·rw [hjk j (by omega) (by omega) (by omega),hout j j1]
 ·rintro s ⟨i,b,P,ss,t2,t3,t11,t12,t13,hmu,hi,hq,m1',mq,hnow,hpl,hbn,hst,hout,hend⟩
  have := hend rfl
  subst this
  rw [List.take_length] at hpl hst
  have hcq := hst.cell
  have hcs2 := hst.cells
  simp -dsimp [t2,t3,mq,m1',nes,hc,hcs,hcq,hcs2,e0,e5]
  have hle := hpl.le
  have hk : ∀ j,¬ j = n + 1 → updM s.m (n + 1) (some (.box 34 3 [.v (.int .i64 d.now.people),sn,P])) j = s.m j := fun j j1 => by simp [j1]
  refine ⟨by omega,fun j j1 => by rw [hk j (by omega),hout j j1],sn,P,jn,ss,n1 + 1,b,rfl,hnow.wide (by omega) (by omega) fun j j1 j2 => hk j (by omega),by omega,hpl.keep fun j j1 j2 => hk j (by omega),by omega, ?_⟩
  rcases hst with h | ⟨id,ex,h1,h2,h3,h5,h4⟩
  ·exact .inl h
  ·exact .inr ⟨id,ex,h1,h2,by omega,h5,by rw [hk id (by omega),h4]⟩
end TL

namespace TL
open Go Go.Proofs
attribute [local simp] marksV storyV codeV Claim.v Place.v Desk.v
def zc (k : Nat) : List T := (List.replicate k [T.v (.int .i64 0),T.nil]).flatten
theorem zc_succ (k : Nat) : zc (k + 1) = .v (.int .i64 0) :: .nil :: zc k := rfl
theorem zc_len (k : Nat) : (zc k).length = k * 2 := by
 induction k with
 | zero => rfl
 | succ k ih => rw [zc_succ]; simp [ih]; omega
theorem cell_set2 (A : List T) (x y x' y' : T) (B : List T) (i : Nat) (h : A.length = i) : ((A ++ x :: y :: B).set i x').set (i + 1) y' = A ++ x' :: y' :: B := by
 rw [cell_set A x x' (y :: B) i h]
 have e : A ++ x' :: y :: B = (A ++ [x']) ++ y :: B := by simp
 rw [e,cell_set (A ++ [x']) y y' B (i + 1) (by simp [h])]
 simp
def ItcO (l : List Claim) (m : Mem) (n : Nat) (a : Nat) (s : S) : Prop := ∃ (i : Nat) (js : List Nat),s.tm 0 = .v (.sl (l.map Claim.v)) ∧ s.tm 3 = .sv n 0 l.length ∧ s.tm 4 = .v (.int .i64 i) ∧ i ≤ l.length ∧ n < s.n ∧ s.m n = some (.box 104 2 (clT (l.take i) js ++ zc (l.length - i))) ∧
 (∀ j ∈ js,n < j ∧ j < s.n) ∧ js.Nodup ∧ Says s.m (l.take i) js ∧ (∀ j,j < n → s.m j = m j) ∧ (a = 1 → i = l.length)
theorem toClaimS_own (l : List Claim) (hl : l.length ≤ 1048576) (hs : ∀ a ∈ l,a.small) (m : Mem) (n : Nat) : FnS Tryz.prog 63 m n [.v (.sl (l.map Claim.v))] (fun t m' n' => n ≤ n' ∧ (∀ j,j < n → m' j = m j) ∧ ∃ js,OwnRowC m' n n' t l js) := by
 have b1 : (32 : Int) * l.length ≤ 281474976710656 := by omega
 have b2 : (l.length : Int) ≤ 9223372036854775807 := by omega
 have b3 : (0 : Int) ≤ l.length := by omega
 refine FnS_of (rs := [.tmp 2]) true Tryz.func63 rfl rfl rfl rfl (Nat.le_of_ble_eq_true rfl) ?_
 simp -dsimp [b1,b2,b3]
 refine twp_loopC (ItcO l m n 0) (fun s => l.length - natOf (s.tm 4)) (ItcO l m n 1) ?_ ?_ ?_
 ·exact ⟨0,[],by simp -dsimp,by simp -dsimp,by simp -dsimp,by omega,by simp -dsimp <;> omega,by simp -dsimp [zc],by simp,List.nodup_nil,trivial,fun j j1 => by simp -dsimp [far j1],by simp⟩
 ·rintro s ⟨i,js,h0,h3,h4,hi,hn,hm,hjs,hnd,hsy,hout,hend⟩
  by_cases hlt : i < l.length
  case neg =>
   simp -dsimp [h0,h4,hlt]
   exact ⟨i,js,by simp -dsimp [h0],by simp -dsimp [h3],by simp -dsimp [h4],hi,by simp -dsimp; omega,by simp -dsimp [hm],fun j hj => by have := hjs j hj; simp -dsimp; omega,hnd,hsy,fun j j1 => by simp -dsimp [hout j j1],fun _ => by omega⟩
  have hget : (l.map Claim.v)[i]? = some (l[i].v) := by simp [hlt]
  have wi : IntKind.wrap .i64 ((i : Int) + 1) = ((i + 1 : Nat) : Int) := by rw [w64 (by omega) (by omega)]; omega
  have hmu : l.length - (i + 1) < l.length - i := by omega
  have hlt' : (i : Int) < l.length := by omega
  have htk : l.take (i + 1) = l.take i ++ [l[i]] := List.take_succ_eq_append_getElem hlt
  have htl : (l.take i).length = i := by simp; omega
  have r5 := clT_len (l.take i) js hsy.len
  rw [htl] at r5
  have ezc : l.length - i = (l.length - (i + 1)) + 1 := by omega
  rw [ezc,zc_succ] at hm
  have zl := zc_len (l.length - (i + 1))
  have hown := fun m n => toClaim_own l[i] (hs _ (List.getElem_mem hlt)) m n
  generalize hc : l[i] = c at *
  have hset := fun id2 => cell_set2 (clT (l.take i) js) (.v (.int .i64 0)) .nil (.v (.int .i64 c.who)) (.sv id2 0 c.says.length) (zc (l.length - (i + 1))) (i * 2) r5
  have hll : (clT (l.take i) js ++ T.v (.int .i64 0) :: T.nil :: zc (l.length - (i + 1))).length = l.length * 2 := by simp [r5,zl]; omega
  have hoff : i * 2 + 2 ≤ l.length * 2 := by omega
  have f1 := far hn
  generalize hcells : clT (l.take i) js ++ T.v (.int .i64 0) :: T.nil :: zc (l.length - (i + 1)) = cells at *
  obtain ⟨c1,c2⟩ := c
  simp -dsimp [h0,h3,h4,hlt,hget,hc]
  refine callL_ (vs := [(⟨c1,c2⟩ : Claim).v]) (hown _ _) (by simp -dsimp) ?_
  rintro t m2 n2 ⟨hn2,hout2,st,rfl,id2,rfl,i0,i1,him2⟩
  have k1 := hout2 n (by omega)
  have g1 := far (show n < n2 by omega)
  have hset2 := hset id2
  simp -dsimp [f1,hm] at k1
  simp only at hset2
  simp -dsimp [h0,h3,h4,hlt',k1,hll,hoff,setAt,hset2,wi,hmu,nes]
  refine st_out fun s' ht hm' hn' hu' => ?_
  have a0 := ht 0
  have a3 := ht 3
  have a4 := ht 4
  simp -dsimp [h0,h3,wi] at a0 a3 a4 hm' hn' hu'
  clear ht
  have hjk : ∀ j ∈ js,s'.m j = s.m j := fun j hj => by
   have q1 := hjs j hj
   have q3 := hout2 j (by omega)
   simp [hm',show ¬ j = n by omega,q3]
  have hsl : (l.take i).length = js.length := hsy.len
  refine ⟨i + 1,js ++ [id2],a0,a3,a4,by omega,by omega, ?_,fun j hj => ?_, ?_, ?_,fun j j1 => ?_,by simp⟩
  ·rw [htk,clT_app _ _ _ _ hsl]
   simp [hm']
  ·rcases List.mem_append.1 hj with hj | hj
   ·have := hjs j hj; omega
   ·rw [List.mem_singleton.1 hj]; omega
  ·rw [List.nodup_append]
   refine ⟨hnd,by simp,fun y hy z hz => ?_⟩
   rw [List.mem_singleton.1 hz]
   have := hjs y hy
   omega
  ·rw [htk]
   exact (Says.app hsl).2 ⟨hsy.keep hjk,⟨by simp [hm',show ¬ id2 = n by omega,him2],trivial⟩⟩
  ·have q3 := hout2 j (by omega)
   simp [hm',show ¬ j = n by omega,q3,hout j j1]
 ·rintro s ⟨i,js,h0,h3,h4,hi,hn,hm,hjs,hnd,hsy,hout,hend⟩
  have := hend rfl
  subst this
  rw [Nat.sub_self,List.take_length] at hm
  rw [List.take_length] at hsy
  have e : clT l js ++ zc 0 = clT l js := by simp [zc]
  rw [e] at hm
  simp -dsimp [h3]
  exact ⟨by omega,hout,js,fun j hj => by have := hjs j hj; omega,hnd,hsy,.inr ⟨n,rfl,Nat.le_refl _,by omega,fun hj => by have := hjs n hj; omega,hm⟩⟩
theorem toPlace_own (p : Place) (hp : p.small) (m : Mem) (n : Nat) : FnS Tryz.prog 26 m n [.v p.v] (DeepP p m n) := by
 refine FnS_of (rs := [.cell 2 31]) true Tryz.func26 rfl rfl rfl rfl (Nat.le_of_ble_eq_true rfl) ?_
 have e0 : ¬ n = n + 1 := by omega
 have e5 : ¬ n + 1 = n := by omega
 simp -dsimp [nes,e0,e5]
 refine callS_ (toClaimS_own p.story hp.1 hp.2 _ _) ?_
 rintro t m1 n1 ⟨hn1,hout,js,hrow⟩
 have k0 := hout n (by omega)
 have k1 := hout (n + 1) (by omega)
 have k2 := hout (n + 1 + 1) (by omega)
 simp -dsimp [nes,e0,e5] at k0 k1 k2
 have hc := hrow.cell
 have hcs := hrow.cells
 have ho : ∀ j,j < n → m1 j = m j := fun j j1 => by have hj := hout j (by omega); simp [far j1] at hj; exact hj
 simp -dsimp [nes,e0,e5,k0,k1,k2,hc,hcs]
 refine ⟨by omega,fun j j1 => ?_,t,js,rfl,hrow.wide (by omega) (by omega) fun j j1 j2 => by simp [show ¬ j = n + 1 by omega,show ¬ j = n + 1 + 1 by omega]⟩
 simp [show ¬ j = n + 1 by omega,show ¬ j = n + 1 + 1 by omega,ho j j1]
theorem markPlaceS_nil (m : Mem) (n : Nat) (k : Int) : FnS Tryz.prog 36 m n [.nil,.v (.int .i64 k)] (fun t m' n' => t = .v (.int .i64 k) ∧ n ≤ n' ∧ m' = m) := by
 refine FnS_of (rs := [.tmp 4]) false Tryz.func36 rfl rfl rfl rfl (Nat.le_of_ble_eq_true rfl) ?_
 simp -dsimp
 refine twp_loopC (fun s => s.tm 0 = .nil ∧ s.tm 1 = .v (.int .i64 k) ∧ s.tm 5 = .v (.int .i64 0) ∧ s.m = m ∧ n ≤ s.n) (fun s => 0) (fun s => s.tm 1 = .v (.int .i64 k) ∧ s.m = m ∧ n ≤ s.n) ?_ ?_ ?_
 ·simp -dsimp
 ·rintro s ⟨t0,t1,t5,hm,hn⟩
  simp -dsimp [t0,t1,t5,hm,hn]
 ·rintro s ⟨t1,hm,hn⟩
  simp -dsimp [t1,hm,hn]
/-! What names nothing but its own memory. -/
theorem mkT_fl (l : List Mark) : flT (mkT l) = true := by
 induction l with
 | nil => rfl
 | cons x xs ih => simp [mkT,ih,V.flat]
theorem clT_fl : ∀ (l : List Claim) (js : List Nat),flT (clT l js) = true
 | [],js => by simp
 | c :: l,[] => by simp [clT]
 | c :: l,j :: js => by simp [clT_fl l js,V.flat]
theorem OwnRowC.fl {m : Mem} {lo hi : Nat} {st : T} {l : List Claim} {js : List Nat} (h : OwnRowC m lo hi st l js) : st.fl = true := by
 rcases h.2.2.2 with ⟨rfl,_⟩ | ⟨id,rfl,_⟩ <;> rfl
theorem Says.at {m : Mem} : ∀ {l : List Claim} {js : List Nat},Says m l js → ∀ j ∈ js,∃ x : List Mark,m j = some (.box 165 2 (mkT x))
 | [],[],_,j,hj => by simp at hj
 | c :: l,k :: js,h,j,hj => by
  rcases List.mem_cons.1 hj with rfl | hj
  ·exact ⟨_,h.1⟩
  ·exact h.2.at j hj
 | [],j :: js,h,_,_ => h.elim
 | c :: l,[],h,_,_ => h.elim
/-- The part of memory that a row of claims names. -/
theorem OwnRowC.part {m : Mem} {lo hi : Nat} {st : T} {l : List Claim} {js : List Nat} (h : OwnRowC m lo hi st l js) : ∃ m2 : Mem,LeM m2 m ∧ (∀ i b,m2 i = some b → lo ≤ i ∧ b.fl = true) ∧ OwnRowC m2 lo hi st l js := by
 obtain ⟨h1,h2,h3,h4⟩ := h
 rcases h4 with ⟨rfl,rfl,rfl⟩ | ⟨id,rfl,i0,i1,i2,i3⟩
 ·exact ⟨fun _ => none,fun i b hb => (by cases hb),fun i b hb => (by cases hb),by simp,List.nodup_nil,trivial,.inl ⟨rfl,rfl,rfl⟩⟩
 ·refine ⟨fun j => if j = id ∨ j ∈ js then m j else none,fun i b hb => ?_,fun i b hb => ?_,h1,h2,h3.keep fun j hj => by simp [hj],.inr ⟨id,rfl,i0,i1,i2,by simp [i3]⟩⟩
  ·by_cases hi : i = id ∨ i ∈ js
   ·simp only [if_pos hi] at hb; exact hb
   ·simp only [if_neg hi] at hb; cases hb
  ·by_cases hi : i = id ∨ i ∈ js
   ·simp only [if_pos hi] at hb
    rcases hi with rfl | hi
    ·rw [i3] at hb; cases hb; exact ⟨i0,clT_fl _ _⟩
    ·obtain ⟨x,hx⟩ := h3.at i hi
     rw [hx] at hb; cases hb; exact ⟨(h1 i hi).1,mkT_fl _⟩
   ·simp only [if_neg hi] at hb; cases hb
end TL

namespace TL
open Go Go.RowKit
variable {P : Program}
mutual
/-- The handles of a value, moved up. -/
def T.up (k : Nat) : T → T
 | .sv i co len => .sv (i + k) co len
 | .ptr i j => .ptr (i + k) j
 | .agg cs => .agg (upT k cs)
 | .tup cs => .tup (upT k cs)
 | .v x => .v x
 | .nil => .nil
 | x => x
def upT (k : Nat) : List T → List T
 | [] => []
 | x :: xs => x.up k :: upT k xs
end
@[simp] theorem upT_nil (k : Nat) : upT k [] = [] := rfl
@[simp] theorem upT_cons (k : Nat) (x : T) (xs : List T) : upT k (x :: xs) = x.up k :: upT k xs := rfl
@[simp] theorem up_v (k : Nat) (x : V) : (T.v x).up k = .v x := rfl
@[simp] theorem up_nil (k : Nat) : T.nil.up k = .nil := rfl
@[simp] theorem up_sv (k i j l : Nat) : (T.sv i j l).up k = .sv (i + k) j l := rfl
@[simp] theorem up_ptr (k i j : Nat) : (T.ptr i j).up k = .ptr (i + k) j := rfl
@[simp] theorem up_agg (k : Nat) (cs : List T) : (T.agg cs).up k = .agg (upT k cs) := rfl
@[simp] theorem up_tup (k : Nat) (cs : List T) : (T.tup cs).up k = .tup (upT k cs) := rfl
theorem upT_append (k : Nat) (a b : List T) : upT k (a ++ b) = upT k a ++ upT k b := by
 induction a with
 | nil => rfl
 | cons x xs ih => simp [ih]
@[simp] theorem upT_length (k : Nat) (a : List T) : (upT k a).length = a.length := by
 induction a with
 | nil => rfl
 | cons x xs ih => simp [ih]
def Blk.up (k : Nat) : Blk → Blk
 | .box e z cs => .box e z (upT k cs)
 | b => b
@[simp] theorem up_box (k : Nat) (e : TypeId) (z : Nat) (cs : List T) : (Blk.box e z cs).up k = .box e z (upT k cs) := rfl
theorem up_cell (k : Nat) (x : T) : (x.up k).cell = x.cell := by cases x <;> simp only [T.up,T.cell]
theorem upT_allC (k : Nat) {cs : List T} (h : allC cs) : allC (upT k cs) := by
 induction cs with
 | nil => exact h
 | cons x xs ih =>
  intro y hy
  simp only [upT_cons,List.mem_cons] at hy
  rcases hy with rfl | hy
  ·rw [up_cell]; exact h x (by simp)
  ·exact ih (fun z hz => h z (by simp [hz])) y hy
def catM (n : Nat) (m m' : Mem) : Mem := fun i => if i < n then m i else (m' (i - n)).map (Blk.up n)
theorem catM_lo {n j : Nat} {m m' : Mem} (h : j < n) : catM n m m' j = m j := if_pos h
theorem catM_hi {n j : Nat} {m m' : Mem} {b : Blk} (h : m' j = some b) : catM n m m' (j + n) = some (b.up n) := by
 unfold catM
 rw [if_neg (by omega),Nat.add_sub_cancel,h]; rfl
section
variable {φ φ2 : Phi} {Z Z' : Zs} {w w' : World} {k : Nat}
mutual
theorem fl_up {x : T} {u : Value} (he : ∀ i u,φ i = some u → φ2 (i + k) = some u) (h : x.fl = true) : RepT φ Z w x u → RepT φ2 Z' w' (x.up k) u
 | .v g => .v (flat_rep h g)
 | .nil => .nil
 | .sv g hl hm ha h0 => .sv (he _ _ g) hl hm ha h0
 | .ptr g => .ptr (he _ _ g)
 | .ptrs g => .ptrs (he _ _ g)
 | .agg g => .agg (flT_up he (by simpa using h) g)
 | .tup g => .tup (flT_up he (by simpa using h) g)
theorem flT_up {x : List T} {u : List Value} (he : ∀ i u,φ i = some u → φ2 (i + k) = some u) (h : flT x = true) : RepTs φ Z w x u → RepTs φ2 Z' w' (upT k x) u
 | .nil => .nil
 | .cons g t => .cons (fl_up he (by simp at h; exact h.1) g) (flT_up he (by simp at h; exact h.2) t)
end
end
theorem FnS.ownUp {f : Nat} {m : Mem} {n : Nat} {args : List T} {vs : List V} {post Q : T → Mem → Nat → Prop} (h : FnS P f (fun _ => none) 0 (vs.map .v) post) (ha : mapO (bor true m 4) args = some vs)
  (hp : ∀ t m' n',post t m' n' → ∃ m2,LeM m2 m' ∧ t.fl = true ∧ (∀ i b,m2 i = some b → b.fl = true) ∧ Q t m2 n') :
  FnS P f m n args (fun t mm n' => ∃ t' m' n'',Q t' m' n'' ∧ t = t'.up n ∧ mm = catM n m m' ∧ n' = n + n'') := by
 refine ⟨h.1,fun φ Z w us hm hr => ?_⟩
 let Zb : Zs := fun k o => Z k o ∨ Owned φ m k
 have hZ : SubZ Z Zb := fun k o h => .inl h
 have hvs := bors_sound hm (k := true) (Zb := Zb) hZ (fun _ g hg o => .inr hg) args us vs hr ha
 have no : ∀ k,¬ Owned (fun _ => none) (fun _ => none) k := fun k ⟨i,b,v,h1,_⟩ => by cases h1
 have hm0 : RelM P (fun _ => none) Zb (fun _ => none) 0 w := by
  refine ⟨fun i u h => (by cases h),fun i _ => rfl,fun i b hb => (by cases hb),fun i j a b u v k h1 => (by cases h1),⟨fun k o hz => ?_,hm.zlt.gl.keep hZ fun _ _ _ => rfl⟩⟩
  rcases hz with hz | hz
  ·exact hm.zlt.lt k o hz
  ·exact hm.owned_lt hz
 refine (h.2 (fun _ => none) Zb w us hm0 hvs.toTs).mono fun e w' hh => ?_
 obtain ⟨v,φ',Z',m1,n',t,rfl,h1,h2,h3,h4⟩ := hh
 obtain ⟨m',hle,ht,hb,h4⟩ := hp t m1 n' h4
 have h1 := h1.le hle
 let φ2 : Phi := fun i => if i < n then φ i else φ' (i - n)
 have plo : ∀ i,i < n → φ2 i = φ i := fun i hi => if_pos hi
 have phi : ∀ i,¬ i < n → φ2 i = φ' (i - n) := fun i hi => if_neg hi
 have up : ∀ i u,φ' i = some u → φ2 (i + n) = some u := fun i u hu => by rw [phi _ (by omega),Nat.add_sub_cancel]; exact hu
 have ext : Ext φ φ2 := fun i u hu => by
  rcases Nat.lt_or_ge i n with h | h
  ·rw [plo i h]; exact hu
  ·rw [hm.fresh i h] at hu; cases hu
 have lift : ∀ k,Owned φ' m' k → Owned φ' m1 k := fun k ⟨i,b,v,c1,c2⟩ => ⟨i,b,v,hle _ _ c1,c2⟩
 have new : ∀ (i : Nat) (b : Blk) (v : Value) (k : Nat),m' i = some b → isRo b = false → φ' i = some v → blkOf v = some k → w.heap.size ≤ k := fun i b v k h5 h6 h7 h8 => by
  rcases Nat.lt_or_ge k w.heap.size with h | h
  ·exact absurd (h3.own k h (lift k ⟨i,b,v,h5,h6,h7,h8⟩)) (no k)
  ·exact h
 have kz : KeepZ Z w w' := fun k o hz => h3.keep k o (.inl hz)
 have hro : ∀ b : Blk,isRo (b.up n) = isRo b := fun b => by cases b <;> rfl
 have hcat : ∀ i b,catM n m m' i = some b → (i < n ∧ m i = some b ∧ φ2 i = φ i) ∨ (¬ i < n ∧ φ2 i = φ' (i - n) ∧ ∃ b0,m' (i - n) = some b0 ∧ b = b0.up n) := fun i b hi => by
  unfold catM at hi
  split at hi
  ·rename_i hn; exact .inl ⟨hn,hi,plo i hn⟩
  ·rename_i hn
   cases e : m' (i - n) with
   | none => rw [e] at hi; cases hi
   | some b0 => rw [e] at hi; cases hi; exact .inr ⟨hn,phi i hn,b0,rfl,rfl⟩
 refine ⟨v,φ2,Z,catM n m m',n + n',t.up n,rfl,⟨fun i u hu => ?_,fun i hi => ?_,fun i b hi => ?_,fun i j a b u v k hi hj hu hv hku hkv ra rb => ?_,⟨fun k o hz => Nat.lt_of_lt_of_le (hm.zlt.lt k o hz) h3.size,hm.zlt.gl.keep (fun _ _ h => h) kz⟩⟩,fl_up up ht h2,
  ⟨ext,fun k o hz => hz,kz,h3.os,h3.tape,h3.output,h3.size,fun k hk ho => h3.out k hk (no k),fun k hk ho => ?_,fun k o hz => .inl hz⟩,t,m',n',h4,rfl,rfl,rfl⟩
 ·rcases Nat.lt_or_ge i n with h | h
  ·rw [plo i h] at hu; exact hm.ok i u hu
  ·rw [phi i (by omega)] at hu; exact h1.ok _ u hu
 ·rw [phi i (by omega)]; exact h1.fresh _ (by omega)
 ·rcases hcat i b hi with ⟨c1,c2,c3⟩ | ⟨c1,c2,b0,c3,rfl⟩
  ·obtain ⟨v,h5,h6⟩ := hm.blk i b c2
   refine ⟨v,ext _ _ h5,h6.keep ext (fun _ _ h => h) kz fun hro k hk => ⟨h3.out k (h6.lt hro hk) (no k),fun o ho => ho⟩⟩
  ·obtain ⟨v,h5,h6⟩ := h1.blk _ b0 c3
   refine ⟨v,by rw [c2]; exact h5, ?_⟩
   have hf := hb _ b0 c3
   cases b0 with
   | ro xs => cases hf
   | arr e xs => cases hf
   | mp es => cases hf
   | box e z cs =>
    obtain ⟨a1,a2,k,cur,a3,a4,a5,a6,a7,a8,a9⟩ := h6
    exact ⟨a1,a2,k,cur,a3,a4,by rw [upT_length]; exact a5,by rw [upT_length]; exact flT_up up hf a6,upT_allC n a7,fun o ho => a8 o (h3.sub k o (.inl ho)),a9⟩
 ·rcases hcat i a hi with ⟨c1,c2,c3⟩ | ⟨c1,c2,b0,c3,rfl⟩ <;> rcases hcat j b hj with ⟨d1,d2,d3⟩ | ⟨d1,d2,e0,d3,rfl⟩
  ·rw [c3] at hu; rw [d3] at hv
   exact hm.ne i j a b u v k c2 d2 hu hv hku hkv ra rb
  ·rw [c3] at hu; rw [d2] at hv
   have l1 := hm.owned_lt ⟨i,a,u,c2,ra,hu,hku⟩
   have l2 := new _ e0 v k d3 (by rw [← hro]; exact rb) hv hkv
   omega
  ·rw [c2] at hu; rw [d3] at hv
   have l1 := hm.owned_lt ⟨j,b,v,d2,rb,hv,hkv⟩
   have l2 := new _ b0 u k c3 (by rw [← hro]; exact ra) hu hku
   omega
  ·rw [c2] at hu; rw [d2] at hv
   have := h1.ne _ _ b0 e0 u v k c3 d3 hu hv hku hkv (by rw [← hro]; exact ra) (by rw [← hro]; exact rb)
   omega
 ·obtain ⟨i,b,v,h5,h6,h7,h8⟩ := ho
  rcases hcat i b h5 with ⟨c1,c2,c3⟩ | ⟨c1,c2,b0,c3,rfl⟩
  ·rw [c3] at h7; exact ⟨i,b,v,c2,h6,h7,h8⟩
  ·rw [c2] at h7
   have := new _ b0 v k c3 (by rw [← hro]; exact h6) h7 h8
   omega
theorem callU_ {f : Nat} {m : Mem} {n : Nat} {args : List T} {vs : List V} {k : T → Mem → Nat → Prop} {post Q : T → Mem → Nat → Prop} (h : FnS P f (fun _ => none) 0 (vs.map .v) post) (ha : mapO (bor true m 4) args = some vs)
  (hp : ∀ t m' n',post t m' n' → ∃ m2,LeM m2 m' ∧ t.fl = true ∧ (∀ i b,m2 i = some b → b.fl = true) ∧ Q t m2 n') (hk : ∀ t m' n',Q t m' n' → k (t.up n) (catM n m m') (n + n')) : callP P f m n args k :=
 callS_ (h.ownUp ha hp) fun t mm n' ⟨t',m',n'',h1,h2,h3,h4⟩ => by rw [h2,h3,h4]; exact hk t' m' n'' h1
end TL

namespace TL
open Go Go.Proofs
attribute [local simp] marksV storyV codeV Claim.v Place.v Desk.v
theorem OwnPl.wide {m : Mem} {l : List Place} {ss : List T} {lo hi lo' hi' : Nat} (h : OwnPl m lo hi l ss) (h1 : lo' ≤ lo) (h2 : hi ≤ hi') : OwnPl m lo' hi' l ss := by
 induction l generalizing ss lo lo' with
 | nil =>
  cases ss with
  | nil => have : lo ≤ hi := h; show lo' ≤ hi'; omega
  | cons st ss => exact h.elim
 | cons p l ih =>
  cases ss with
  | nil => exact h.elim
  | cons st ss =>
   obtain ⟨mid,js,g1,g2,g3⟩ := h
   exact ⟨mid,js,by omega,g2.wide h1 (Nat.le_refl _) fun _ _ _ => rfl,ih g3 (Nat.le_refl _)⟩
theorem PastO.keep {m m' : Mem} {b hi b' hi' : Nat} {P : T} {l : List Place} {ss : List T} (h : PastO m b hi P l ss) (h1 : b' ≤ b) (h2 : hi ≤ hi') (hk : ∀ j,b ≤ j → j < hi → m' j = m j) : PastO m' b' hi' P l ss := by
 rcases h with h | ⟨id,ex,e1,e2,e3,e4,e5⟩
 ·exact .inl h
 ·exact .inr ⟨id,ex,e1,by omega,by omega,e4,by rw [hk id e2 e3,e5]⟩
/-- A desk of one's own: three parts of memory, apart from each other. -/
def OwnD (m : Mem) (lo hi : Nat) (sn P : T) (d : Desk) : Prop := ∃ (jn : List Nat) (ss : List T) (a1 b1 a2 b2 a3 b3 : Nat),OwnRowC m a1 b1 sn d.now.story jn ∧ OwnPl m a2 b2 d.past ss ∧ PastO m a3 b3 P d.past ss ∧ lo ≤ a1 ∧ a1 ≤ b1 ∧ b1 ≤ hi ∧ lo ≤ a2 ∧ b2 ≤ hi ∧ lo ≤ a3 ∧ a3 ≤ b3 ∧ b3 ≤ hi ∧ (b1 ≤ a2 ∨ b2 ≤ a1) ∧ (b1 ≤ a3 ∨ b3 ≤ a1) ∧ (b2 ≤ a3 ∨ b3 ≤ a2)
def dT (d : Desk) (sn P : T) : T := .agg [.v (.int .i64 d.now.people),sn,P]
theorem OwnD.keep {m m' : Mem} {lo hi lo' hi' : Nat} {sn P : T} {d : Desk} (h : OwnD m lo hi sn P d) (h1 : lo' ≤ lo) (h2 : hi ≤ hi') (hk : ∀ j,lo ≤ j → j < hi → m' j = m j) : OwnD m' lo' hi' sn P d := by
 obtain ⟨jn,ss,a1,b1,a2,b2,a3,b3,r1,r2,r3,c1,c2,c3,c4,c5,c6,c7,c8,c9,c10,c11⟩ := h
 exact ⟨jn,ss,a1,b1,a2,b2,a3,b3,r1.keep fun j j1 j2 => hk j (by omega) (by omega),r2.keep fun j j1 j2 => hk j (by omega) (by omega),r3.keep (Nat.le_refl _) (Nat.le_refl _) fun j j1 j2 => hk j (by omega) (by omega),by omega,by omega,by omega,by omega,by omega,by omega,by omega,by omega,c9,c10,c11⟩
theorem OwnD.facts {m : Mem} {lo hi : Nat} {sn P : T} {d : Desk} (h : OwnD m lo hi sn P d) : sn.cell = true ∧ sn.cells = [sn] ∧ P.cell = true ∧ P.cells = [P] := by
 obtain ⟨jn,ss,a1,b1,a2,b2,a3,b3,r1,r2,r3,_⟩ := h
 exact ⟨r1.cell,r1.cells,r3.cell,r3.cells⟩
/-! Lent. -/
theorem pcT_bor {m : Mem} (d : Nat) : ∀ {l : List Place} {ss : List T} {lo hi : Nat},OwnPl m lo hi l ss → mapO (bor true m (d + 2)) (pcT l ss) = some (l.flatMap fun p => p.v.cells)
 | [],[],lo,hi,_ => rfl
 | p :: l,st :: ss,lo,hi,⟨mid,js,h1,h2,h3⟩ => by
  have e := h2.bor d
  have e2 := pcT_bor d h3
  simp [mapO,e,e2,V.cells]
 | [],st :: ss,_,_,h => h.elim
 | p :: l,[],_,_,h => h.elim
theorem plV_cell (l : List Place) : ∀ x ∈ (l.flatMap fun p => p.v.cells),x.cell = true := by
 intro x hx
 obtain ⟨p,_,hp⟩ := List.mem_flatMap.1 hx
 simp [V.cells] at hp
 rcases hp with rfl | rfl <;> rfl
theorem plV_chunk (l : List Place) : chunk 2 l.length (l.flatMap fun p => p.v.cells) = l.map Place.v := by
 induction l with
 | nil => rfl
 | cons x xs ih => simp [chunk,V.cells]; simpa [V.cells] using ih
theorem PastO.bor {m : Mem} {lo hi b hh : Nat} {P : T} {l : List Place} {ss : List T} (h : PastO m b hh P l ss) (hp : OwnPl m lo hi l ss) (d : Nat) : TL.bor true m (d + 3) P = some (.sl (l.map Place.v)) := by
 rcases h with ⟨rfl,rfl,rfl⟩ | ⟨i,ex,rfl,_,_,_,h⟩
 ·rfl
 ·have hl := pcT_len l ss hp.len
  have c1 : 0 + l.length * 2 ≤ (pcT l ss ++ ex).length := by simp; omega
  have e1 : List.take (l.length * 2) (List.drop 0 (pcT l ss ++ ex)) = pcT l ss := by rw [List.drop_zero,← hl]; exact List.take_left
  show (match m i with | some (.box _ z cs) => tst (0 + l.length * z ≤ cs.length) (obind (mapO (TL.bor true m (d + 2)) ((cs.drop 0).take (l.length * z))) fun xs => tst (∀ x ∈ xs,x.cell = true) (some (V.sl (chunk z l.length xs)))) | _ => none) = _
  rw [h]
  show tst (0 + l.length * 2 ≤ (pcT l ss ++ ex).length) (obind (mapO (TL.bor true m (d + 2)) (((pcT l ss ++ ex).drop 0).take (l.length * 2))) fun xs => tst (∀ x ∈ xs,x.cell = true) (some (V.sl (chunk 2 l.length xs)))) = _
  rw [tst_pos c1,e1,pcT_bor d hp,obind_some,tst_pos (plV_cell l),plV_chunk]
theorem OwnD.bor {m : Mem} {lo hi : Nat} {sn P : T} {d : Desk} (h : OwnD m lo hi sn P d) : TL.bor true m 3 sn = some (.sl (d.now.story.map Claim.v)) ∧ TL.bor true m 3 P = some (.sl (d.past.map Place.v)) := by
 obtain ⟨jn,ss,a1,b1,a2,b2,a3,b3,r1,r2,r3,_⟩ := h
 exact ⟨r1.bor 1,r3.bor r2 0⟩
/-! The part of memory that names nothing but memory. -/
def flM (m : Mem) : Mem := fun i => match m i with
 | some b => if b.fl = true then some b else none
 | none => none
theorem flM_le (m : Mem) : LeM (flM m) m := fun i b hb => by
 unfold flM at hb
 split at hb
 ·rename_i c hc; split at hb
  ·cases hb; exact hc
  ·cases hb
 ·cases hb
theorem flM_fl (m : Mem) : ∀ i b,flM m i = some b → b.fl = true := fun i b hb => by
 unfold flM at hb
 split at hb
 ·split at hb
  ·cases hb; assumption
  ·cases hb
 ·cases hb
theorem flM_of {m : Mem} {i : Nat} {b : Blk} (h : m i = some b) (hf : b.fl = true) : flM m i = some b := by
 unfold flM; rw [h]; exact if_pos hf
theorem Says.flat {m : Mem} : ∀ {l : List Claim} {js : List Nat},Says m l js → Says (flM m) l js
 | [],[],_ => trivial
 | c :: l,j :: js,h => ⟨flM_of h.1 (mkT_fl _),h.2.flat⟩
 | [],j :: js,h => h.elim
 | c :: l,[],h => h.elim
theorem OwnRowC.flat {m : Mem} {lo hi : Nat} {st : T} {l : List Claim} {js : List Nat} (h : OwnRowC m lo hi st l js) : OwnRowC (flM m) lo hi st l js := by
 obtain ⟨h1,h2,h3,h4⟩ := h
 refine ⟨h1,h2,h3.flat, ?_⟩
 rcases h4 with h4 | ⟨id,e,i0,i1,i2,i3⟩
 ·exact .inl h4
 ·exact .inr ⟨id,e,i0,i1,i2,flM_of i3 (clT_fl _ _)⟩
theorem OwnPl.flat {m : Mem} : ∀ {l : List Place} {ss : List T} {lo hi : Nat},OwnPl m lo hi l ss → OwnPl (flM m) lo hi l ss
 | [],[],lo,hi,h => h
 | p :: l,st :: ss,lo,hi,⟨mid,js,h1,h2,h3⟩ => ⟨mid,js,h1,h2.flat,h3.flat⟩
 | [],st :: ss,_,_,h => h.elim
 | p :: l,[],_,_,h => h.elim
theorem OwnPl.fl {m : Mem} : ∀ {l : List Place} {ss : List T} {lo hi : Nat},OwnPl m lo hi l ss → flT (pcT l ss) = true
 | [],[],lo,hi,h => rfl
 | p :: l,st :: ss,lo,hi,⟨mid,js,h1,h2,h3⟩ => by simp [h2.fl,h3.fl,V.flat]
 | [],st :: ss,_,_,h => h.elim
 | p :: l,[],_,_,h => h.elim
theorem PastO.flat {m : Mem} {lo hi b hh : Nat} {P : T} {l : List Place} {ss : List T} (h : PastO m b hh P l ss) (hp : OwnPl m lo hi l ss) : PastO (flM m) b hh P l ss := by
 rcases h with h | ⟨id,ex,e1,e2,e3,e4,e5⟩
 ·exact .inl h
 ·exact .inr ⟨id,ex,e1,e2,e3,e4,flM_of e5 (by show flT _ = true; rw [flT_append,hp.fl,e4]; rfl)⟩
theorem OwnD.flat {m : Mem} {lo hi : Nat} {sn P : T} {d : Desk} (h : OwnD m lo hi sn P d) : OwnD (flM m) lo hi sn P d ∧ (dT d sn P).fl = true := by
 obtain ⟨jn,ss,a1,b1,a2,b2,a3,b3,r1,r2,r3,c⟩ := h
 refine ⟨⟨jn,ss,a1,b1,a2,b2,a3,b3,r1.flat,r2.flat,r3.flat r2,c⟩, ?_⟩
 have e : P.fl = true := by rcases r3 with ⟨rfl,_⟩ | ⟨_,_,rfl,_⟩ <;> rfl
 simp [dT,r1.fl,e,V.flat]
/-! Moved up. -/
theorem mkT_up (k : Nat) (l : List Mark) : upT k (mkT l) = mkT l := by
 induction l with
 | nil => rfl
 | cons x xs ih => simp [mkT,ih]
theorem clT_up (k : Nat) : ∀ (l : List Claim) (js : List Nat),upT k (clT l js) = clT l (js.map (· + k))
 | [],js => by simp
 | c :: l,[] => by simp [clT]
 | c :: l,j :: js => by simp [clT_up k l js]
theorem Says.up {n : Nat} {m m' : Mem} : ∀ {l : List Claim} {js : List Nat},Says m' l js → Says (catM n m m') l (js.map (· + n))
 | [],[],_ => trivial
 | c :: l,j :: js,h => ⟨by rw [catM_hi h.1,up_box,mkT_up],h.2.up⟩
 | [],j :: js,h => h.elim
 | c :: l,[],h => h.elim
theorem OwnRowC.up {n : Nat} {m m' : Mem} {lo hi : Nat} {st : T} {l : List Claim} {js : List Nat} (h : OwnRowC m' lo hi st l js) : OwnRowC (catM n m m') (lo + n) (hi + n) (st.up n) l (js.map (· + n)) := by
  obtain ⟨h1,h2,h3,h4⟩ := h
  refine ⟨fun j hj => ?_, ?_,h3.up, ?_⟩
  · obtain ⟨i,hi,rfl⟩ := List.mem_map.1 hj
    have := h1 i hi; omega
  · exact List.pairwise_map.2 (List.Pairwise.imp (fun {a b} h e => h (by omega)) h2)
  · rcases h4 with ⟨rfl,rfl,rfl⟩ | ⟨id,rfl,i0,i1,i2,i3⟩
    · exact .inl ⟨rfl,rfl,rfl⟩
    · refine .inr ⟨id + n,rfl,by omega,by omega,fun h => ?_,by rw [catM_hi i3,up_box,clT_up]⟩
      obtain ⟨i,hi,e⟩ := List.mem_map.1 h
      exact i2 (by have : i = id := by omega
                   rw [← this]; exact hi)
theorem pcT_up (k : Nat) : ∀ (l : List Place) (ss : List T),upT k (pcT l ss) = pcT l (upT k ss)
 | [],ss => by simp
 | p :: l,[] => by simp [pcT]
 | p :: l,st :: ss => by simp [pcT_up k l ss]
theorem OwnPl.up {n : Nat} {m m' : Mem} : ∀ {l : List Place} {ss : List T} {lo hi : Nat},OwnPl m' lo hi l ss → OwnPl (catM n m m') (lo + n) (hi + n) l (upT n ss)
 | [],[],lo,hi,h => by have : lo ≤ hi := h; show lo + n ≤ hi + n; omega
 | p :: l,st :: ss,lo,hi,⟨mid,js,h1,h2,h3⟩ => ⟨mid + n,_,by omega,h2.up,h3.up⟩
 | [],st :: ss,_,_,h => h.elim
 | p :: l,[],_,_,h => h.elim
mutual
theorem up_fl (k : Nat) : ∀ (x : T),x.fl = true → (x.up k).fl = true
 | .sv _ _ _,_ => rfl
 | .ptr _ _,_ => rfl
 | .agg cs,h => upT_fl k cs h
 | .tup cs,h => upT_fl k cs h
 | .v _,h => h
 | .nil,_ => rfl
 | .loc _,h => by cases h
 | .fptr _ _,h => by cases h
 | .fn _ _,h => by cases h
theorem upT_fl (k : Nat) : ∀ (cs : List T),flT cs = true → flT (upT k cs) = true
 | [],_ => rfl
 | x :: xs,h => by
  simp only [flT_cons,Bool.and_eq_true] at h
  simp only [upT_cons,flT_cons,Bool.and_eq_true]
  exact ⟨up_fl k x h.1,upT_fl k xs h.2⟩
end
theorem PastO.up {n : Nat} {m m' : Mem} {b hh : Nat} {P : T} {l : List Place} {ss : List T} (h : PastO m' b hh P l ss) : PastO (catM n m m') (b + n) (hh + n) (P.up n) l (upT n ss) := by
 rcases h with ⟨rfl,rfl,rfl⟩ | ⟨id,ex,rfl,e2,e3,e4,e5⟩
 ·exact .inl ⟨rfl,rfl,rfl⟩
 ·exact .inr ⟨id + n,upT n ex,rfl,by omega,by omega,upT_fl n _ e4,by rw [catM_hi e5,up_box,upT_append,pcT_up]⟩
theorem OwnD.up {n : Nat} {m m' : Mem} {lo hi : Nat} {sn P : T} {d : Desk} (h : OwnD m' lo hi sn P d) : OwnD (catM n m m') (lo + n) (hi + n) (sn.up n) (P.up n) d := by
 obtain ⟨jn,ss,a1,b1,a2,b2,a3,b3,r1,r2,r3,c1,c2,c3,c4,c5,c6,c7,c8,c9,c10,c11⟩ := h
 exact ⟨_,_,a1 + n,b1 + n,a2 + n,b2 + n,a3 + n,b3 + n,r1.up,r2.up,r3.up,by omega,by omega,by omega,by omega,by omega,by omega,by omega,by omega,by omega,by omega,by omega⟩
theorem OwnD.none {m : Mem} {lo hi : Nat} : lo ≤ hi → OwnD m lo hi .nil .nil noDeskV := fun h => ⟨[],[],lo,lo,lo,lo,lo,lo,⟨by simp,List.nodup_nil,trivial,.inl ⟨rfl,rfl,rfl⟩⟩,Nat.le_refl _,.inl ⟨rfl,rfl,rfl⟩,by omega,by omega,by omega,by omega,by omega,by omega,by omega,by omega,by omega,by omega,by omega⟩
/-- A copied desk. -/
theorem DeepD.own {d : Desk} {m m' : Mem} {n n' : Nat} {t : T} (h : DeepD d m n t m' n') : n ≤ n' ∧ (∀ j,j < n → m' j = m j) ∧ ∃ sn P,t = dT d sn P ∧ OwnD m' n n' sn P d := by
 obtain ⟨h1,h2,sn,P,jn,ss,a,b,e,r1,c1,r2,c2,r3⟩ := h
 have := r2.le
 refine ⟨h1,h2,sn,P,e,jn,ss,n,a,a,b,b,n',r1,r2,r3, ?_, ?_, ?_, ?_, ?_, ?_, ?_, ?_, ?_, ?_, ?_⟩ <;> omega
end TL

namespace TL
open Go Go.Proofs
attribute [local simp] marksV storyV codeV Claim.v Place.v Desk.v
def mkp (k : Int) : List Place → List Place
 | [] => []
 | p :: l => ⟨k,mkc (k + 1) p.story⟩ :: mkp (mkn (k + 1) p.story) l
def mkpn (k : Int) : List Place → Int
 | [] => k
 | p :: l => mkpn (mkn (k + 1) p.story) l
theorem mkpn_ge : ∀ (l : List Place) (k : Int),k + l.length ≤ mkpn k l
 | [],k => by simp [mkpn]
 | p :: l,k => by have := mkpn_ge l (mkn (k + 1) p.story); have := mkn_ge p.story (k + 1); simp only [mkpn,List.length_cons]; omega
@[simp] theorem mkp_length : ∀ (l : List Place) (k : Int),(mkp k l).length = l.length
 | [],k => rfl
 | p :: l,k => by simp [mkp,mkp_length l]
def mkD (k : Int) (d : Desk) : Desk := ⟨⟨d.now.people,mkc k d.now.story⟩,mkp (mkn k d.now.story) d.past⟩
def mkDn (k : Int) (d : Desk) : Int := mkpn (mkn k d.now.story) d.past
theorem mkn_sum : ∀ (l : List Claim) (k : Int),mkn k l ≤ k + 2 * (l.length + saysSum l)
 | [],k => by simp [mkn,saysSum]
 | c :: l,k => by
  have := mkn_sum l (k + 1 + 2 * c.says.length)
  have e : saysSum (c :: l) = c.says.length + saysSum l := by simp [saysSum]
  simp only [mkn,List.length_cons,e]; omega
theorem mkpn_sum : ∀ (l : List Place) (k : Int),mkpn k l ≤ k + 2 * (l.length + bulkSum l)
 | [],k => by simp [mkpn,bulkSum]
 | p :: l,k => by
  have h1 := mkpn_sum l (mkn (k + 1) p.story)
  have h2 := mkn_sum p.story (k + 1)
  have e : bulkSum (p :: l) = p.bulk + bulkSum l := by simp [bulkSum]
  have e2 : p.bulk = p.story.length + saysSum p.story := rfl
  simp only [mkpn,List.length_cons,e,e2]; omega
theorem mkDn_sum (d : Desk) (k : Int) : mkn k d.now.story ≤ k + 2 * d.bulk ∧ mkDn k d ≤ k + 2 * d.bulk ∧ k ≤ mkn k d.now.story ∧ mkn k d.now.story ≤ mkDn k d := by
 have h1 := mkpn_sum d.past (mkn k d.now.story)
 have h2 := mkn_sum d.now.story k
 have h3 := mkpn_ge d.past (mkn k d.now.story)
 have h4 := mkn_ge d.now.story k
 have e : d.bulk = (d.now.story.length + saysSum d.now.story) + (d.past.length + bulkSum d.past) := rfl
 unfold mkDn
 omega
theorem markClaimS_own (l : List Claim) (k : Int) (hk0 : 0 ≤ k) (hk : mkn k l ≤ 100000000000000) (hl : ∀ c ∈ l,c.says.length ≤ 1000000000) (m : Mem) (lo hi n : Nat) (hlo : hi ≤ n) (st : T) (js : List Nat) (h : OwnRowC m lo hi st l js) :
  FnS Tryz.prog 90 m n [st,.v (.int .i64 k)] (fun t m' n' => t = .v (.int .i64 (mkn k l)) ∧ n ≤ n' ∧ OwnRowC m' lo hi st (mkc k l) js ∧ ∀ j,j < n → j < lo ∨ hi ≤ j → m' j = m j) := by
 obtain ⟨h1,h2,h3,h4⟩ := h
 rcases h4 with ⟨rfl,rfl,rfl⟩ | ⟨id,rfl,i0,i1,i2,i3⟩
 ·refine (markClaimS_nil m n k).weak ?_
  rintro t m' n' ⟨rfl,hn,rfl⟩
  exact ⟨rfl,hn,⟨by simp,List.nodup_nil,trivial,.inl ⟨rfl,rfl,rfl⟩⟩,fun j _ _ => rfl⟩
 ·refine (markClaimS_fn l js k hk0 hk m n id (by omega) (fun j hj => by have := (h1 j hj).2; omega) h2 i2 i3 h3 hl).weak ?_
  rintro t m' n' ⟨rfl,hn,e1,e2,e3⟩
  refine ⟨rfl,hn,⟨h1,h2,e2,.inr ⟨id,by simp,i0,i1,i2,e1⟩⟩,fun j j1 j2 => ?_⟩
  have q1 : j ∉ js := fun hj => by have := h1 j hj; omega
  exact e3 j j1 (by omega) q1
theorem OwnPl.parts {m : Mem} : ∀ {A B : List Place} {sa sb : List T} {lo hi : Nat},A.length = sa.length → (OwnPl m lo hi (A ++ B) (sa ++ sb) ↔ ∃ mid,OwnPl m lo mid A sa ∧ OwnPl m mid hi B sb)
 | [],B,[],sb,lo,hi,_ => ⟨fun h => ⟨lo,Nat.le_refl _,h⟩,fun ⟨mid,h1,h2⟩ => h2.wide h1 (Nat.le_refl _)⟩
 | p :: A,B,st :: sa,sb,lo,hi,h => by
  have ih := fun lo => OwnPl.parts (m := m) (A := A) (B := B) (sa := sa) (sb := sb) (lo := lo) (hi := hi) (by simpa using h)
  constructor
  ·rintro ⟨mid,js,h1,h2,h3⟩
   obtain ⟨mid2,h4,h5⟩ := (ih mid).1 h3
   exact ⟨mid2,⟨mid,js,h1,h2,h4⟩,h5⟩
  ·rintro ⟨mid2,⟨mid,js,h1,h2,h4⟩,h5⟩
   exact ⟨mid,js,h1,h2,(ih mid).2 ⟨mid2,h4,h5⟩⟩
 | [],B,st :: sa,sb,lo,hi,h => by simp at h
 | p :: A,B,[],sb,lo,hi,h => by simp at h
def Imp (id : Nat) (l : List Place) (ss ex : List T) (k : Int) (m0 : Mem) (n0 lo hi : Nat) (e : Nat) (s : S) : Prop := ∃ (i mid : Nat) (A B : List Place) (sa sb : List T) (kk : Int),s.tm 0 = .sv id 0 l.length ∧ s.tm 1 = .v (.int .i64 kk) ∧ s.tm 5 = .v (.int .i64 i) ∧ A.length = i ∧ sa.length = i ∧ i + B.length = l.length ∧ sa ++ sb = ss ∧
 n0 ≤ s.n ∧ s.m id = some (.box 31 2 (pcT (A ++ B) ss ++ ex)) ∧ OwnPl s.m lo mid A sa ∧ OwnPl s.m mid hi B sb ∧ mkp k l = A ++ mkp kk B ∧ mkpn k l = mkpn kk B ∧ 0 ≤ kk ∧ (∀ j,j < n0 → j ≠ id → j < lo ∨ hi ≤ j → s.m j = m0 j) ∧ (∀ p ∈ B,∀ c ∈ p.story,c.says.length ≤ 1000000000) ∧ (e = 1 → B = [])
theorem markPlaceS_own (l : List Place) (ss ex : List T) (k : Int) (hk0 : 0 ≤ k) (hk : mkpn k l ≤ 100000000000000) (m : Mem) (n id lo hi : Nat) (hid : id < n) (hhi : hi ≤ n) (hin : id < lo ∨ hi ≤ id) (hm : m id = some (.box 31 2 (pcT l ss ++ ex))) (hp : OwnPl m lo hi l ss) (hl : ∀ p ∈ l,∀ c ∈ p.story,c.says.length ≤ 1000000000) :
  FnS Tryz.prog 36 m n [.sv id 0 l.length,.v (.int .i64 k)] (fun t m' n' => t = .v (.int .i64 (mkpn k l)) ∧ n ≤ n' ∧ m' id = some (.box 31 2 (pcT (mkp k l) ss ++ ex)) ∧ OwnPl m' lo hi (mkp k l) ss ∧ ∀ j,j < n → j ≠ id → j < lo ∨ hi ≤ j → m' j = m j) := by
 refine FnS_of (rs := [.tmp 4]) false Tryz.func36 rfl rfl rfl rfl (Nat.le_of_ble_eq_true rfl) ?_
 have hge := mkpn_ge l k
 simp -dsimp
 refine twp_loopC (Imp id l ss ex k m n lo hi 0) (fun s => l.length - natOf (s.tm 5)) (Imp id l ss ex k m n lo hi 1) ?_ ?_ ?_
 ·exact ⟨0,lo,[],l,[],ss,k,by simp -dsimp,by simp -dsimp,by simp -dsimp,rfl,rfl,by omega,rfl,by simp -dsimp,by simpa -dsimp using hm,Nat.le_refl _,by simpa -dsimp using hp,rfl,rfl,hk0,fun j _ _ _ => by simp -dsimp,hl,by simp⟩
 ·rintro s ⟨i,mid,A,B,sa,sb,kk,t0,t1,t5,hA,hsa,hB,hss,hn,hmm,hpa,hpb,hmk,hmn,hk1,hout,hbl,hend⟩
  cases B with
  | nil =>
   have hlt : ¬ i < l.length := by simp at hB; omega
   simp -dsimp [t0,t5,hlt]
   exact ⟨i,mid,A,[],sa,sb,kk,by simp -dsimp [t0],by simp -dsimp [t1],by simp -dsimp [t5],hA,hsa,hB,hss,by simp -dsimp [hn],by simp -dsimp [hmm],hpa,hpb,hmk,hmn,hk1,fun j j1 j2 j3 => by simp -dsimp [hout j j1 j2 j3],hbl,fun _ => rfl⟩
  | cons p B =>
   have hlt : i < l.length := by simp at hB; omega
   cases sb with
   | nil => exact hpb.elim
   | cons st sb =>
    subst hss
    obtain ⟨mid2,js,g1,g2,g3⟩ := hpb
    have hAj : A.length = sa.length := by omega
    have hle1 := hpa.le
    have hle2 := g3.le
    have ecl : pcT (A ++ p :: B) (sa ++ st :: sb) ++ ex = pcT A sa ++ .v (.int .i64 p.people) :: st :: (pcT B sb ++ ex) := by rw [pcT_app _ _ _ _ hAj]; simp
    have hAl : (pcT A sa).length = i * 2 := by rw [pcT_len _ _ hAj,hA]
    have hset := cell_set (pcT A sa) (.v (.int .i64 p.people)) (.v (.int .i64 kk)) (st :: (pcT B sb ++ ex)) (i * 2) hAl
    have hll : (pcT A sa ++ T.v (.int .i64 p.people) :: st :: (pcT B sb ++ ex)).length = i * 2 + 2 + (pcT B sb ++ ex).length := by simp [hAl]; omega
    have hg1 : (pcT A sa ++ T.v (.int .i64 kk) :: st :: (pcT B sb ++ ex))[i * 2 + 1]? = some st := by
     rw [List.getElem?_append_right (by omega),hAl]; simp
    have hcl := hbl p (by simp)
    have hmnl := mkpn_ge B (mkn (kk + 1) p.story)
    have hmnk := mkn_ge p.story (kk + 1)
    have hmn2 : mkpn k l = mkpn (mkn (kk + 1) p.story) B := hmn
    rw [hmn2] at hk
    have wi : IntKind.wrap .i64 ((i : Int) + 1) = ((i + 1 : Nat) : Int) := by rw [w64 (by omega) (by omega)]; omega
    have w1 : IntKind.wrap .i64 (kk + 1) = kk + 1 := w64 (by omega) (by omega)
    have hmu : l.length - (i + 1) < l.length - i := by omega
    have hlt' : (i : Int) < (l.length : Int) := by omega
    have f1 := far (show id < s.n by omega)
    rw [ecl] at hmm
    have hmark := fun m n hlo h => markClaimS_own p.story (kk + 1) (by omega) (by omega) hcl m mid mid2 n hlo st js h
    have o1 : i * 2 + 1 ≤ i * 2 + 2 + (pcT B sb ++ ex).length := by omega
    have o2 : i * 2 + 1 + 1 ≤ i * 2 + 2 + (pcT B sb ++ ex).length := by omega
    have o3 : i * 2 < i * 2 + 2 + (pcT B sb ++ ex).length := by omega
    have hc := g2.cell
    have hcs := g2.cells
    generalize hc1 : pcT A sa ++ T.v (.int .i64 p.people) :: st :: (pcT B sb ++ ex) = c1 at *
    generalize hc2 : pcT A sa ++ T.v (.int .i64 kk) :: st :: (pcT B sb ++ ex) = c2 at *
    generalize hll2 : (pcT B sb ++ ex).length = ll at *
    simp -dsimp [t0,t1,t5,hlt,hlt',hmm,hll,setAt,hset,hg1,w1,wi,hmu,o1,o2,o3]
    refine callS_ (hmark _ _ (by omega) (g2.keep fun j j1 j2 => by simp [show ¬ j = id by omega])) ?_
    rintro t m2 n2 ⟨rfl,hn2,e1,e2⟩
    have k1 := e2 id (by omega) (by omega)
    simp -dsimp at k1
    simp -dsimp [t0,t1,t5,wi,hmu]
    refine st_out fun s' ht hm' hn' hu' => ?_
    have a0 := ht 0
    have a1 := ht 1
    have a5 := ht 5
    simp -dsimp [t0,wi] at a0 a1 a5 hm' hn' hu'
    clear ht
    have e0 : A ++ [(⟨kk,mkc (kk + 1) p.story⟩ : Place)] ++ B = A ++ ⟨kk,mkc (kk + 1) p.story⟩ :: B := by simp
    refine ⟨i + 1,mid2,A ++ [⟨kk,mkc (kk + 1) p.story⟩],B,sa ++ [st],sb,mkn (kk + 1) p.story,a0,by rw [a1],a5,by simp [hA],by simp [hsa],by simp at hB ⊢; omega,by simp,by omega, ?_, ?_, ?_, ?_,hmn,by omega,fun j j1 j2 j3 => ?_,fun x hx => hbl x (by simp [hx]),by simp⟩
    ·rw [e0,pcT_app _ _ _ _ hAj,pcT_cons,hm',k1,← hc2]; simp
    ·rw [hm']
     exact (hpa.keep fun j j1 j2 => by rw [e2 j (by omega) (by omega)]; simp [show ¬ j = id by omega]).snoc (Nat.le_refl _) g1 e1
    ·rw [hm']
     exact g3.keep fun j j1 j2 => by rw [e2 j (by omega) (by omega)]; simp [show ¬ j = id by omega]
    ·rw [hmk]; simp [mkp]
    ·rw [hm',e2 j (by omega) (by omega)]; simp [j2,hout j j1 j2 j3]
 ·rintro s ⟨i,mid,A,B,sa,sb,kk,t0,t1,t5,hA,hsa,hB,hss,hn,hmm,hpa,hpb,hmk,hmn,hk1,hout,hbl,hend⟩
  have hb := hend rfl
  subst hb
  have hsb : sb = [] := by
   cases sb with
   | nil => rfl
   | cons st sb => exact hpb.elim
  subst hsb
  rw [List.append_nil] at hmm hss
  subst hss
  have e1 : mkp k l = A := by rw [hmk]; simp [mkp]
  have e2 : mkpn k l = kk := hmn
  rw [e1,e2]
  have : mid ≤ hi := hpb
  simp -dsimp [t1]
  exact ⟨hn,hmm,hpa.wide (Nat.le_refl _) this,hout⟩
theorem markDesk_deep (d : Desk) (k : Int) (hk0 : 0 ≤ k) (hk : mkDn k d ≤ 100000000000000) (hl0 : ∀ c ∈ d.now.story,c.says.length ≤ 1000000000) (hl : ∀ p ∈ d.past,∀ c ∈ p.story,c.says.length ≤ 1000000000) (m : Mem) (lo hi n : Nat) (hlo : hi ≤ n) (sn P : T) (h : OwnD m lo hi sn P d) :
  FnS Tryz.prog 10 m n [dT d sn P,.v (.int .i64 k)] (fun t m' n' => t = .v (.int .i64 (mkDn k d)) ∧ n ≤ n' ∧ OwnD m' lo hi sn P (mkD k d) ∧ ∀ j,j < n → j < lo ∨ hi ≤ j → m' j = m j) := by
 obtain ⟨hc,hcs,hcP,hcsP⟩ := h.facts
 obtain ⟨jn,ss,a1,b1,a2,b2,a3,b3,r1,r2,r3,c1,c2,c3,c4,c5,c6,c7,c8,c9,c10,c11⟩ := h
 have hge1 := mkn_ge d.now.story k
 have hge2 := mkpn_ge d.past (mkn k d.now.story)
 have hle2 := r2.le
 unfold mkDn at hk
 unfold dT
 refine FnS_of (rs := [.tmp 4]) false Tryz.func10 rfl rfl rfl rfl (Nat.le_of_ble_eq_true rfl) ?_
 simp -dsimp [nes,hc,hcs,hcP,hcsP]
 refine callS_ (markPlace_own d.now k hk0 (by omega) hl0 _ a1 b1 _ (by omega) sn jn (r1.keep fun j j1 j2 => by simp [show ¬ j = n by omega])) ?_
 rintro t m1 n1 ⟨rfl,hn1,hrow,hout⟩
 have k0 := hout n (by omega) (.inr (by omega))
 simp -dsimp at k0
 simp -dsimp [nes,hc,hcs,hcP,hcsP,k0]
 have hk1 : ∀ j,a2 ≤ j → j < b2 → m1 j = m j := fun j j1 j2 => by rw [hout j (by omega) (by omega)]; simp [show ¬ j = n by omega]
 have r2' := r2.keep hk1
 rcases r3 with ⟨rfl,e1,rfl⟩ | ⟨id,ex,rfl,i0,i1,i2,i3⟩
 ·refine callS_ (markPlaceS_nil _ _ _) ?_
  rintro t m2 n2 ⟨rfl,hn2,rfl⟩
  simp -dsimp
  refine ⟨by simp [mkDn,e1,mkpn],by omega,⟨jn,[],a1,b1,a2,b2,a3,b3,hrow, ?_,.inl ⟨rfl,by simp [mkD,e1,mkp],rfl⟩,c1,c2,c3,c4,c5,c6,c7,c8,c9,c10,c11⟩,fun j j1 j2 => ?_⟩
  ·simp only [mkD,e1,mkp]; exact hle2
  ·rw [hout j (by omega) (by omega)]; simp [show ¬ j = n by omega]
 ·have hid : m1 id = m id := by rw [hout id (by omega) (by omega)]; simp [show ¬ id = n by omega]
  refine callS_ (markPlaceS_own d.past ss ex _ (by omega) hk _ _ id a2 b2 (by omega) (by omega) (by omega) (by rw [hid,i3]) r2' hl) ?_
  rintro t m2 n2 ⟨rfl,hn2,e1,e2,e3⟩
  simp -dsimp
  refine ⟨rfl,by omega,⟨jn,ss,a1,b1,a2,b2,a3,b3,hrow.keep fun j j1 j2 => e3 j (by omega) (by omega) (by omega),e2,.inr ⟨id,ex,by simp [mkD],i0,i1,i2,e1⟩,c1,c2,c3,c4,c5,c6,c7,c8,c9,c10,c11⟩,fun j j1 j2 => ?_⟩
  rw [e3 j (by omega) (by omega) (by omega),hout j (by omega) (by omega)]; simp [show ¬ j = n by omega]
def Ihp (l : List Place) (k : Int) (e : Nat) (s : S) : Prop := ∃ (i : Nat) (A B : List Place) (kk : Int),s.tm 0 = .v (.sl ((mkp k l).map Place.v)) ∧ s.tm 1 = .v (.int .i64 kk) ∧ s.tm 5 = .v (.int .i64 i) ∧ A.length = i ∧ i + B.length = l.length ∧ mkp k l = A ++ mkp kk B ∧ mkpn k l = mkpn kk B ∧ 0 ≤ kk ∧ (∀ p ∈ B,∀ c ∈ p.story,c.says.length ≤ 1000000000) ∧ (e = 1 → B = [])
theorem heldPlaceS_fn (l : List Place) (k : Int) (hk0 : 0 ≤ k) (hk : mkpn k l ≤ 100000000000000) (hl : ∀ p ∈ l,∀ c ∈ p.story,c.says.length ≤ 1000000000) : FnZ Tryz.prog 38 [.sl ((mkp k l).map Place.v),.int .i64 k] (.int .i64 (mkpn k l)) := by
 refine FnZ_of (rs := [.tmp 4]) false Tryz.func38 rfl rfl rfl rfl (Nat.le_of_ble_eq_true rfl) ?_
 have hge := mkpn_ge l k
 simp -dsimp
 refine twp_loopC (Ihp l k 0) (fun s => l.length - natOf (s.tm 5)) (Ihp l k 1) ?_ ?_ ?_
 ·exact ⟨0,[],l,k,by simp -dsimp,by simp -dsimp,by simp -dsimp,rfl,by omega,rfl,rfl,hk0,hl,by simp⟩
 ·rintro s ⟨i,A,B,kk,t0,t1,t5,hA,hB,hmk,hmn,hk1,hbl,hend⟩
  have hcl : ((mkp k l).map Place.v).length = l.length := by simp
  cases B with
  | nil =>
   have hlt : ¬ i < l.length := by simp at hB; omega
   simp -dsimp [t0,t5,hlt]
   exact ⟨i,A,[],kk,by simp -dsimp [t0],by simp -dsimp [t1],by simp -dsimp [t5],hA,hB,hmk,hmn,hk1,hbl,fun _ => rfl⟩
  | cons p B =>
   have hlt : i < l.length := by simp at hB; omega
   have hget : ((mkp k l).map Place.v)[i]? = some (Place.v ⟨kk,mkc (kk + 1) p.story⟩) := by
    rw [hmk,List.getElem?_map,List.getElem?_append_right (by omega),hA,Nat.sub_self]; rfl
   have hcc := hbl p (by simp)
   have hmnl := mkpn_ge B (mkn (kk + 1) p.story)
   have hmnk := mkn_ge p.story (kk + 1)
   have hmn2 : mkpn k l = mkpn (mkn (kk + 1) p.story) B := hmn
   have hmk2 : mkp k l = (A ++ [⟨kk,mkc (kk + 1) p.story⟩]) ++ mkp (mkn (kk + 1) p.story) B := by rw [hmk]; simp [mkp]
   rw [hmn2] at hk
   have wi : IntKind.wrap .i64 ((i : Int) + 1) = ((i + 1 : Nat) : Int) := by rw [w64 (by omega) (by omega)]; omega
   have w1 : IntKind.wrap .i64 (kk + 1) = kk + 1 := w64 (by omega) (by omega)
   have hmu : l.length - (i + 1) < l.length - i := by omega
   have hneg : ¬ mkn (kk + 1) p.story < 0 := by omega
   have hheld := heldClaimS_fn p.story (kk + 1) (by omega) (by omega) hcc
   generalize hrow : (mkp k l).map Place.v = row at *
   have hlt2 : i < row.length := by omega
   have hget2 : row[i] = Place.v ⟨kk,mkc (kk + 1) p.story⟩ := by rw [List.getElem?_eq_getElem hlt2] at hget; exact Option.some.inj hget
   generalize hM : mkn (kk + 1) p.story = M at *
   simp -dsimp [t0,t1,t5,hlt,hlt2,hcl,hget2,w1,wi,hmu]
   refine call_ hheld (by simp -dsimp) ?_
   simp -dsimp [t0,t1,t5,hlt,hlt2,hcl,hget2,w1,wi,hmu,hneg]
   refine st_out fun s' ht hm' hn' hu' => ?_
   have a0 := ht 0
   have a1 := ht 1
   have a5 := ht 5
   simp -dsimp [t0,wi] at a0 a1 a5 hm' hn' hu'
   clear ht
   exact ⟨i + 1,A ++ [⟨kk,mkc (kk + 1) p.story⟩],B,M,by rw [a0,hrow],by rw [a1],a5,by simp [hA],by simp at hB ⊢; omega,hmk2,hmn2,by omega,fun x hx => hbl x (by simp [hx]),by simp⟩
 ·rintro s ⟨i,A,B,kk,t0,t1,t5,hA,hB,hmk,hmn,hk1,hbl,hend⟩
  have hb := hend rfl
  subst hb
  have e2 : mkpn k l = kk := hmn
  rw [e2]
  simp -dsimp [t1]
theorem heldDesk_deep (d : Desk) (k : Int) (hk0 : 0 ≤ k) (hk : mkDn k d ≤ 100000000000000) (hl0 : ∀ c ∈ d.now.story,c.says.length ≤ 1000000000) (hl : ∀ p ∈ d.past,∀ c ∈ p.story,c.says.length ≤ 1000000000) : FnZ Tryz.prog 11 [(mkD k d).v,.int .i64 k] (.int .i64 (mkDn k d)) := by
 have hge1 := mkn_ge d.now.story k
 have hge2 := mkpn_ge d.past (mkn k d.now.story)
 unfold mkDn at hk
 have h := heldPlace_fn d.now.people d.now.story k hk0 (by omega) hl0
 have h2 := heldPlaceS_fn d.past (mkn k d.now.story) (by omega) hk hl
 have h0 : ¬ mkn k d.now.story < 0 := by omega
 have h02 : ¬ mkpn (mkn k d.now.story) d.past < 0 := by omega
 unfold mkD mkDn
 generalize mkn k d.now.story = y at *
 generalize mkpn y d.past = z at *
 refine FnZ_of (rs := [.tmp 4]) false Tryz.func11 rfl rfl rfl rfl (Nat.le_of_ble_eq_true rfl) ?_
 simp -dsimp
 refine call_ h (by simp -dsimp) ?_
 simp -dsimp [h0]
 refine call_ h2 (by simp -dsimp) ?_
 simp -dsimp [h02]
end TL

namespace TL
open Go Go.Proofs
attribute [local simp] marksV storyV codeV Claim.v Place.v Desk.v
def ItpO (l : List Place) (m : Mem) (n : Nat) (a : Nat) (s : S) : Prop := ∃ (i : Nat) (ss : List T),s.tm 0 = .v (.sl (l.map Place.v)) ∧ s.tm 3 = .sv n 0 l.length ∧ s.tm 4 = .v (.int .i64 i) ∧ i ≤ l.length ∧ n < s.n ∧ s.m n = some (.box 31 2 (pcT (l.take i) ss ++ zc (l.length - i))) ∧
 OwnPl s.m (n + 1) s.n (l.take i) ss ∧ (∀ j,j < n → s.m j = m j) ∧ (a = 1 → i = l.length)
theorem toPlaceS_own (l : List Place) (hl : l.length ≤ 1048576) (hs : ∀ a ∈ l,a.small) (m : Mem) (n : Nat) : FnS Tryz.prog 27 m n [.v (.sl (l.map Place.v))] (fun t m' n' => n < n' ∧ (∀ j,j < n → m' j = m j) ∧ ∃ ss,t = .sv n 0 l.length ∧ m' n = some (.box 31 2 (pcT l ss ++ [])) ∧ OwnPl m' (n + 1) n' l ss) := by
 have b1 : (32 : Int) * l.length ≤ 281474976710656 := by omega
 have b2 : (l.length : Int) ≤ 9223372036854775807 := by omega
 have b3 : (0 : Int) ≤ l.length := by omega
 refine FnS_of (rs := [.tmp 2]) true Tryz.func27 rfl rfl rfl rfl (Nat.le_of_ble_eq_true rfl) ?_
 simp -dsimp [b1,b2,b3]
 refine twp_loopC (ItpO l m n 0) (fun s => l.length - natOf (s.tm 4)) (ItpO l m n 1) ?_ ?_ ?_
 ·exact ⟨0,[],by simp -dsimp,by simp -dsimp,by simp -dsimp,by omega,by simp -dsimp <;> omega,by simp -dsimp [zc],by simp -dsimp [OwnPl] <;> omega,fun j j1 => by simp -dsimp [far j1],by simp⟩
 ·rintro s ⟨i,ss,h0,h3,h4,hi,hn,hm,hpl,hout,hend⟩
  by_cases hlt : i < l.length
  case neg =>
   simp -dsimp [h0,h4,hlt]
   exact ⟨i,ss,by simp -dsimp [h0],by simp -dsimp [h3],by simp -dsimp [h4],hi,by simp -dsimp; omega,by simp -dsimp [hm],hpl,fun j j1 => by simp -dsimp [hout j j1],fun _ => by omega⟩
  have hget : (l.map Place.v)[i]? = some (l[i].v) := by simp [hlt]
  have wi : IntKind.wrap .i64 ((i : Int) + 1) = ((i + 1 : Nat) : Int) := by rw [w64 (by omega) (by omega)]; omega
  have hmu : l.length - (i + 1) < l.length - i := by omega
  have hlt' : (i : Int) < l.length := by omega
  have htk : l.take (i + 1) = l.take i ++ [l[i]] := List.take_succ_eq_append_getElem hlt
  have htl : (l.take i).length = i := by simp; omega
  have r5 := pcT_len (l.take i) ss hpl.len
  rw [htl] at r5
  have ezc : l.length - i = (l.length - (i + 1)) + 1 := by omega
  rw [ezc,zc_succ] at hm
  have zl := zc_len (l.length - (i + 1))
  have hown := fun m n => toPlace_own l[i] (hs _ (List.getElem_mem hlt)) m n
  generalize hc : l[i] = c at *
  have hset := fun st => cell_set2 (pcT (l.take i) ss) (.v (.int .i64 0)) .nil (.v (.int .i64 c.people)) st (zc (l.length - (i + 1))) (i * 2) r5
  have hll : (pcT (l.take i) ss ++ T.v (.int .i64 0) :: T.nil :: zc (l.length - (i + 1))).length = l.length * 2 := by simp [r5,zl]; omega
  have hoff : i * 2 + 2 ≤ l.length * 2 := by omega
  have f1 := far hn
  generalize hcells : pcT (l.take i) ss ++ T.v (.int .i64 0) :: T.nil :: zc (l.length - (i + 1)) = cells at *
  obtain ⟨c1,c2⟩ := c
  simp -dsimp [h0,h3,h4,hlt,hget,hc]
  refine callL_ (vs := [(⟨c1,c2⟩ : Place).v]) (hown _ _) (by simp -dsimp) ?_
  rintro t m2 n2 ⟨hn2,hout2,st,js,rfl,hrow⟩
  have k1 := hout2 n (by omega)
  have g1 := far (show n < n2 by omega)
  have hset2 := hset st
  have hcc := hrow.cell
  have hcs := hrow.cells
  simp -dsimp [f1,hm] at k1
  simp only at hset2
  simp -dsimp [h0,h3,h4,hlt',k1,hll,hoff,setAt,hset2,wi,hmu,nes,hcc,hcs]
  refine st_out fun s' ht hm' hn' hu' => ?_
  have a0 := ht 0
  have a3 := ht 3
  have a4 := ht 4
  simp -dsimp [h0,h3,wi] at a0 a3 a4 hm' hn' hu'
  clear ht
  have hsl : (l.take i).length = ss.length := hpl.len
  refine ⟨i + 1,ss ++ [st],a0,a3,a4,by omega,by omega, ?_, ?_,fun j j1 => ?_,by simp⟩
  ·rw [htk,pcT_app _ _ _ _ hsl]
   simp [hm']
  ·rw [htk]
   have hle := hpl.le
   refine OwnPl.snoc (a := s.n) (hpl.keep fun j j1 j2 => ?_) (Nat.le_refl _) (by omega) (hrow.wide (Nat.le_refl _) (by omega) fun j j1 j2 => by simp [hm',show ¬ j = n by omega])
   have q3 := hout2 j (by omega)
   simp [hm',show ¬ j = n by omega,q3]
  ·have q3 := hout2 j (by omega)
   simp [hm',show ¬ j = n by omega,q3,hout j j1]
 ·rintro s ⟨i,ss,h0,h3,h4,hi,hn,hm,hpl,hout,hend⟩
  have := hend rfl
  subst this
  rw [Nat.sub_self,List.take_length] at hm
  rw [List.take_length] at hpl
  have e : pcT l ss ++ zc 0 = pcT l ss ++ [] := by simp [zc]
  rw [e] at hm
  simp -dsimp [h3]
  exact ⟨by omega,hout,ss,by simpa using hm,hpl⟩
/-- A desk of the caller's own. -/
def DeepK (d : Desk) (m : Mem) (n : Nat) (t : T) (m' : Mem) (n' : Nat) : Prop := n ≤ n' ∧ (∀ j,j < n → m' j = m j) ∧ ∃ sn P,t = dT d sn P ∧ OwnD m' n n' sn P d
theorem toDesk_own (d : Desk) (hd : d.small) (m : Mem) (n : Nat) : FnS Tryz.prog 7 m n [.v d.v] (DeepK d m n) := by
 refine FnS_of (rs := [.cell 2 34]) true Tryz.func7 rfl rfl rfl rfl (Nat.le_of_ble_eq_true rfl) ?_
 have e0 : ¬ n = n + 1 := by omega
 have e5 : ¬ n + 1 = n := by omega
 simp -dsimp [nes,e0,e5]
 refine callL_ (vs := [d.now.v]) (toPlace_own d.now hd.1 _ _) (by simp -dsimp) ?_
 rintro t m1 n1 ⟨hn1,hout,sn,js,rfl,hrow⟩
 have k0 := hout n (by omega)
 have k1 := hout (n + 1) (by omega)
 have k2 := hout (n + 1 + 1) (by omega)
 simp -dsimp [nes,e0,e5] at k0 k1 k2
 have hc := hrow.cell
 have hcs := hrow.cells
 have f0 := far (show n < n1 by omega)
 have f1 := far (show n + 1 < n1 by omega)
 have f2 := far (show n + 1 + 1 < n1 by omega)
 have ho : ∀ j,j < n → m1 j = m j := fun j j1 => by have hj := hout j (by omega); simp [far j1] at hj; exact hj
 simp -dsimp [nes,e0,e5,k0,k1,k2,hc,hcs,f0,f1,f2]
 refine callS_ (toPlaceS_own d.past hd.2.1 hd.2.2 _ _) ?_
 rintro t m2 n2 ⟨hn2,hout2,ss,rfl,him,hpl⟩
 have q0 := hout2 n (by omega)
 have q1 := hout2 (n + 1) (by omega)
 have q2 := hout2 (n + 1 + 1) (by omega)
 simp -dsimp [nes,e0,e5,k0,k1,k2,f0,f1,f2] at q0 q1 q2
 simp -dsimp [nes,e0,e5,q0,q1,q2,hc,hcs]
 have hk : ∀ j,¬ j = n + 1 → ¬ j = n + 1 + 1 → (updM (updM m2 (n + 1 + 1) (some (.box 34 3 [.v (.int .i64 d.now.people),sn,.sv (n1 + 1) 0 d.past.length]))) (n + 1) (some (.box 34 3 [.v (.int .i64 d.now.people),sn,.sv (n1 + 1) 0 d.past.length]))) j = m2 j := fun j j1 j2 => by simp [j1,j2]
 generalize updM (updM m2 (n + 1 + 1) _) (n + 1) _ = mm at *
 have hrow2 : OwnRowC mm n n1 sn d.now.story js := hrow.wide (by omega) (Nat.le_refl _) fun j j1 j2 => by
  rw [hk j (by omega) (by omega),hout2 j (by omega)]; simp [show ¬ j = n1 by omega,show ¬ j = n by omega,show ¬ j = n + 1 by omega,show ¬ j = n + 1 + 1 by omega]
 refine ⟨by omega,fun j j1 => ?_,sn,.sv (n1 + 1) 0 d.past.length,rfl,js,ss,n,n1,n1 + 1 + 1,n2,n1 + 1,n1 + 1 + 1,hrow2,hpl.keep fun j j1 j2 => hk j (by omega) (by omega),.inr ⟨n1 + 1,[],rfl,by omega,by omega,rfl,by rw [hk _ (by omega) (by omega),him]⟩, ?_, ?_, ?_, ?_, ?_, ?_, ?_, ?_, ?_, ?_, ?_⟩
 ·rw [hk j (by omega) (by omega),hout2 j (by omega)]; simp [show ¬ j = n1 by omega,show ¬ j = n + 1 by omega,show ¬ j = n + 1 + 1 by omega,ho j j1]
 all_goals omega
theorem OwnD.form {m : Mem} {lo hi : Nat} {sn P : T} {d : Desk} (hown : OwnD m lo hi sn P d) : sn = .nil ∧ d.now.story.length = 0 ∨ ∃ i,sn = .sv i 0 d.now.story.length := by
 obtain ⟨jn,ss,a1,b1,a2,b2,a3,b3,r1,_⟩ := hown
 rcases r1.2.2.2 with ⟨h1,h2,_⟩ | ⟨i,h1,_⟩
 ·exact .inl ⟨h1,by rw [h2]; rfl⟩
 ·exact .inr ⟨i,h1⟩
theorem OwnD.none_past {m : Mem} {lo hi : Nat} {sn P : T} {d : Desk} (hown : OwnD m lo hi sn P d) (he : d.past = []) : P = .nil ∨ ∃ i,P = .sv i 0 0 := by
 obtain ⟨jn,ss,a1,b1,a2,b2,a3,b3,r1,r2,r3,_⟩ := hown
 rcases r3 with ⟨h1,_⟩ | ⟨i,ex,h1,_⟩
 ·exact .inl h1
 ·exact .inr ⟨i,by rw [h1,he]; rfl⟩
/-- The place of before taken back. -/
theorem OwnD.last {m : Mem} {lo hi : Nat} {sn P : T} {d : Desk} {dd : List Place} {q : Place} (h : OwnD m lo hi sn P d) (hp : d.past = dd ++ [q]) :
  ∃ (r : Nat) (cc : List T) (st : T) (ex : List T),P = .sv r 0 (dd.length + 1) ∧ lo ≤ r ∧ r < hi ∧ m r = some (.box 31 2 cc) ∧ cc.length = dd.length * 2 + 2 + ex.length ∧ cc.drop (dd.length * 2) = .v (.int .i64 q.people) :: st :: ex ∧ st.cell = true ∧ st.cells = [st] ∧
   OwnD m lo hi st (.sv r 0 dd.length) ⟨q,dd⟩ := by
 obtain ⟨jn,ss,a1,b1,a2,b2,a3,b3,r1,r2,r3,c1,c2,c3,c4,c5,c6,c7,c8,c9,c10,c11⟩ := h
 rw [hp] at r2 r3
 rcases r3 with ⟨_,h1,_⟩ | ⟨r,ex,rfl,i0,i1,hex,him⟩
 ·simp at h1
 have hsl := r2.len
 have hss : ss ≠ [] := fun h => by rw [h] at hsl; simp at hsl
 have hslast := List.dropLast_concat_getLast hss
 generalize ss.getLast hss = st at *
 generalize ss.dropLast = sd at *
 subst hslast
 have hdl : dd.length = sd.length := by simpa using hsl
 obtain ⟨mid,r5,mid2,js,g1,g2,g3⟩ := (OwnPl.parts hdl).1 r2
 have hle := r5.le
 have hle3 : mid2 ≤ b2 := g3
 have hpl := pcT_len dd sd hdl
 have ecl : pcT (dd ++ [q]) (sd ++ [st]) ++ ex = pcT dd sd ++ (.v (.int .i64 q.people) :: st :: ex) := by rw [pcT_app _ _ _ _ hdl]; simp
 refine ⟨r,_,st,ex,by simp,by omega,by omega,him,by rw [ecl]; simp [hpl]; omega,by rw [ecl,← hpl]; exact List.drop_left,g2.cell,g2.cells,js,sd,mid,mid2,a2,mid,a3,b3,g2,r5,.inr ⟨r,.v (.int .i64 q.people) :: st :: ex,rfl,i0,i1, ?_,by rw [him,ecl]⟩, ?_, ?_, ?_, ?_, ?_, ?_, ?_, ?_, ?_, ?_, ?_⟩
 ·simp [g2.fl,hex,V.flat]
 all_goals omega
end TL

namespace TL
open Go Go.Proofs
attribute [local simp] marksV storyV codeV Claim.v Place.v Deed.v Desk.v
/-- A desk and a truth of the caller's own. -/
def PostK (R : Desk × Bool) (t : T) (m' : Mem) (n' : Nat) : Prop := ∃ sn P,t = .tup [dT R.1 sn P,.v (.bool R.2)] ∧ OwnD m' 0 n' sn P R.1
theorem desk_says {d : Desk} (hk : deskOk d = true) : (∀ c ∈ d.now.story,c.says ≠ []) ∧ (∀ p ∈ d.past,∀ c ∈ p.story,c.says ≠ []) := by
 obtain ⟨hpast,hnow,_⟩ := deskOk_iff.1 hk
 have h : ∀ p : Place,placeOk p = true → ∀ c ∈ p.story,c.says ≠ [] := fun p hp c hc h0 => by
  have := termOk_pos (claimOk_all ((placeOk_all hp).2.2.2 c hc)).2.2.2.2.1
  rw [h0] at this; simp at this
 exact ⟨h _ hnow,fun p hp => h p (hpast p hp)⟩
theorem copyDesk_k (d : Desk) (hd : d.small) (hk : deskOk d = true) (m : Mem) (n : Nat) : FnS Tryz.prog 31 m n [.v d.v] (DeepK d m n) :=
 (copyDesk_deep d hd (desk_says hk).1 (desk_says hk).2 m n).weak fun _ _ _ h => h.own
theorem clip_own (i l : Nat) (hl : l ≤ 1048576) (m : Mem) (n : Nat) : FnS Tryz.prog 71 m n [.sv i 0 l] (fun t m' n' => t = .sv i 0 l ∧ m' = m ∧ n ≤ n') := by
 refine FnS_of (rs := [.tmp 2]) false Tryz.func71 rfl rfl rfl rfl (Nat.le_of_ble_eq_true rfl) ?_
 simp -dsimp [evClipM]
theorem do_people_k (d : Desk) (num : Int) (hd : d.small) (hk : deskOk d = true) (X : Place) (hXl : X.story.length ≤ 7) (hX : X = ⟨num,d.now.story⟩) :
  FnS Tryz.prog 30 (fun _ => none) 0 [.v d.v,.v (⟨2,num,[]⟩ : Deed).v] (PostK (if (placeOk X && !decide (placeTx X = placeTx d.now)) = true then ((⟨X,keep8 (d.past ++ [d.now])⟩,true) : Desk × Bool) else (d,false))) := by
 have hpo := placeOk_fn X (by omega)
 have hpt := placeText_fn X (by omega)
 have hpn := placeText_fn d.now (by have := hd.1.1; omega)
 have hcn := copyPlace_fn d.now hd.1
 have hok := deskOk_fn d (by have := hd.2.1; omega) (by have := hd.1.1; omega) (fun p hp => by have := (hd.2.2 p hp).1; omega)
 rw [hk] at hok
 obtain ⟨hpast,hnow,hp8⟩ := deskOk_iff.1 hk
 have hcopy := fun m n => copyDesk_own d hd m n
 have hcopyK := fun m n => copyDesk_k d hd hk m n
 have fullb : (d.past.length + 1) * 32 ≤ 140737488355328 := by omega
 have zplaces : allZ 2 (List.map Place.v d.past ++ [d.now.v]) := fun x hx => by
  rcases List.mem_append.1 hx with hx | hx
  ·obtain ⟨p,_,rfl⟩ := List.mem_map.1 hx; exact ⟨by simp,by simp⟩
  ·rw [List.mem_singleton.1 hx]; exact ⟨by simp,by simp⟩
 have hR : placeOk X = true → ∀ l,keep8 (d.past ++ [d.now]) = l → ∀ m n,FnS Tryz.prog 31 m n [.v (⟨X,l⟩ : Desk).v] (DeepK ⟨X,l⟩ m n) := fun hX l hl m n => by
  have ok : deskOk ⟨X,l⟩ = true := deskOk_iff.2 ⟨fun p hp => by
   rw [← hl] at hp
   rcases List.mem_append.1 (keep8_mem hp) with h1 | h1
   ·exact hpast p h1
   ·rw [List.mem_singleton.1 h1]; exact hnow,hX,by rw [← hl]; exact keep8_len _ (by simp; omega)⟩
  exact copyDesk_k ⟨X,l⟩ (desk_fine ok).1 ok m n
 have hkX := ft (placeOk X)
 have htx : placeTx X = placeTx d.now ∨ ¬ placeTx X = placeTx d.now := Classical.em _
 generalize placeTx X = tX at *
 generalize placeTx d.now = tN at *
 generalize placeOk X = okX at *
 subst hX
 refine FnS_of (rs := [.cell 4 34,.tmp 5]) false Tryz.func30 rfl rfl rfl rfl (Nat.le_of_ble_eq_true rfl) ?_
 simp -dsimp
 refine call_ hok (by simp -dsimp) ?_
 simp -dsimp
 refine callL_ (vs := [d.v]) (hcopy _ _) (by simp -dsimp) ?_
 rintro t m1 n1 ⟨hn1,hout,id,st,rfl,hi0,hi1,him,hst,hne⟩
 have k0 := hout 0 (by omega)
 have k1 := hout 1 (by omega)
 have k2 := hout 2 (by omega)
 simp -dsimp at k0 k1 k2
 have f0 := far (show 0 < n1 by omega)
 have f1 := far (show 1 < n1 by omega)
 have f2 := far (show 2 < n1 by omega)
 have z1 : ¬ n1 = 0 := by omega
 have z2 : ¬ n1 = 1 := by omega
 have z3 : ¬ n1 = 2 := by omega
 have g1 := far hi1
 have y0 : ¬ id = 0 := by omega
 have y1 : ¬ id = 1 := by omega
 have y2 : ¬ id = 2 := by omega
 have yn : ¬ id = n1 := by omega
 have hc := hst.cell
 rcases hst with ⟨rfl,hs0⟩ | ⟨r,rfl,hr0,hr1,hrm⟩
 ·have hp0 : d.past = [] := by simpa using hs0
  simp -dsimp [nes8 n1,k0,k1,k2,f0,f1,f2,z1,z2,z3,nes,g1,y0,y1,y2,yn,Ne.symm y0,Ne.symm y1,Ne.symm y2,him,hc]
  refine twp_draw [0,1,2,3,4,5,6,7,8,10,11,9,12,13,14] [0,n1] (List.replicate 15 [0,1]) (List.replicate 15 [0,1]) (by kernel_rfl) (by kernel_rfl) (by kernel_rfl) (by kernel_rfl) ?_
  simp -dsimp [nes8 n1,k0,k1,k2,f0,f1,f2,z1,z2,z3,nes,g1,y0,y1,y2,yn,Ne.symm y0,Ne.symm y1,Ne.symm y2,him,hc,hp0]
  refine call_ hpo (by simp -dsimp [nes8 n1,k0,k1,k2,f0,f1,f2,z1,z2,z3,nes,g1,y0,y1,y2,yn,Ne.symm y0,Ne.symm y1,Ne.symm y2,him,hc,hp0]) ?_
  rcases hkX with rfl | rfl
  ·simp -dsimp [nes8 n1,k0,k1,k2,f0,f1,f2,z1,z2,z3,nes,g1,y0,y1,y2,yn,Ne.symm y0,Ne.symm y1,Ne.symm y2,him,hc,hp0]
   refine callL_ (vs := [d.v]) (hcopyK _ _) (by simp -dsimp [hc,hp0]) ?_
   rintro t m2 n2 ⟨hn2,hout2,sn2,P2,rfl,hown2⟩
   have q2 := hout2 2 (by omega)
   simp -dsimp [nes8 n1,k0,k1,k2,f0,f1,f2,z1,z2,z3,nes,g1,y0,y1,y2,yn,Ne.symm y0,Ne.symm y1,Ne.symm y2,him] at q2
   have hfc := hown2.facts
   have hc2 := hfc.1
   have hcs2 := hfc.2.1
   have hcP2 := hfc.2.2.1
   have hcsP2 := hfc.2.2.2
   clear hfc
   simp -dsimp [dT,q2,hc2,hcs2,hcP2,hcsP2]
   exact ⟨sn2,P2,rfl,hown2.keep (Nat.zero_le _) (by omega) fun j j1 j2 => by simp [show ¬ j = 2 by omega]⟩
  simp -dsimp [nes8 n1,k0,k1,k2,f0,f1,f2,z1,z2,z3,nes,g1,y0,y1,y2,yn,Ne.symm y0,Ne.symm y1,Ne.symm y2,him,hc,hp0]
  refine call_ hpt (by simp -dsimp [nes8 n1,k0,k1,k2,f0,f1,f2,z1,z2,z3,nes,g1,y0,y1,y2,yn,Ne.symm y0,Ne.symm y1,Ne.symm y2,him,hc,hp0]) ?_
  simp -dsimp [nes8 n1,k0,k1,k2,f0,f1,f2,z1,z2,z3,nes,g1,y0,y1,y2,yn,Ne.symm y0,Ne.symm y1,Ne.symm y2,him,hc,hp0]
  refine call_ hpn (by simp -dsimp) ?_
  rcases htx with rfl | htx
  ·simp -dsimp [nes8 n1,k0,k1,k2,f0,f1,f2,z1,z2,z3,nes,g1,y0,y1,y2,yn,Ne.symm y0,Ne.symm y1,Ne.symm y2,him,hc,hp0]
   refine callL_ (vs := [d.v]) (hcopyK _ _) (by simp -dsimp [hc,hp0]) ?_
   rintro t m2 n2 ⟨hn2,hout2,sn2,P2,rfl,hown2⟩
   have q2 := hout2 2 (by omega)
   simp -dsimp [nes8 n1,k0,k1,k2,f0,f1,f2,z1,z2,z3,nes,g1,y0,y1,y2,yn,Ne.symm y0,Ne.symm y1,Ne.symm y2,him] at q2
   have hfc := hown2.facts
   have hc2 := hfc.1
   have hcs2 := hfc.2.1
   have hcP2 := hfc.2.2.1
   have hcsP2 := hfc.2.2.2
   clear hfc
   simp -dsimp [dT,q2,hc2,hcs2,hcP2,hcsP2]
   exact ⟨sn2,P2,rfl,hown2.keep (Nat.zero_le _) (by omega) fun j j1 j2 => by simp [show ¬ j = 2 by omega]⟩
  have hRs := hR rfl
  simp -dsimp [nes8 n1,k0,k1,k2,f0,f1,f2,z1,z2,z3,nes,g1,y0,y1,y2,yn,Ne.symm y0,Ne.symm y1,Ne.symm y2,him,hc,hp0,htx]
  refine twp_draw (List.range 9) [0,n1] (List.replicate 9 [0,1]) (List.replicate 8 [0,1] ++ [[0]]) (by kernel_rfl) (by kernel_rfl) (by kernel_rfl) (by kernel_rfl) ?_
  simp -dsimp [List.range_succ,nes8 n1,k0,k1,k2,f0,f1,f2,z1,z2,z3,nes,g1,y0,y1,y2,yn,Ne.symm y0,Ne.symm y1,Ne.symm y2,him,hc,hp0,htx]
  refine call_ hcn (by simp -dsimp) ?_
  have hR2 := hRs [d.now] (by rw [hp0]; rfl)
  simp -dsimp [List.range_succ,nes8 n1,k0,k1,k2,f0,f1,f2,z1,z2,z3,nes,g1,y0,y1,y2,yn,Ne.symm y0,Ne.symm y1,Ne.symm y2,him,hc,hp0,htx]
  refine callL_ (vs := [(⟨⟨num,d.now.story⟩,[d.now]⟩ : Desk).v]) (hR2 _ _) (by simp -dsimp [nes8 n1,k0,k1,k2,f0,f1,f2,z1,z2,z3,nes,g1,y0,y1,y2,yn,Ne.symm y0,Ne.symm y1,Ne.symm y2,him,hc,hp0]) ?_
  rintro t m2 n2 ⟨hn2,hout2,sn2,P2,rfl,hown2⟩
  have q2 := hout2 2 (by omega)
  simp -dsimp [nes8 n1,k0,k1,k2,f0,f1,f2,z1,z2,z3,nes,g1,y0,y1,y2,yn,Ne.symm y0,Ne.symm y1,Ne.symm y2,him] at q2
  have hfc := hown2.facts
  have hc2 := hfc.1
  have hcs2 := hfc.2.1
  have hcP2 := hfc.2.2.1
  have hcsP2 := hfc.2.2.2
  clear hfc
  simp -dsimp [dT,q2,hc2,hcs2,hcP2,hcsP2,htx,hp0,keep8]
  exact ⟨sn2,P2,rfl,hown2.keep (Nat.zero_le _) (by omega) fun j j1 j2 => by simp [show ¬ j = 2 by omega]⟩
 ·have g2 := far hr1
  have x0 : ¬ r = 0 := by omega
  have x1 : ¬ r = 1 := by omega
  have x2 : ¬ r = 2 := by omega
  have xi : ¬ r = id := fun h => hne (by rw [h])
  simp -dsimp [nes8 n1,k0,k1,k2,f0,f1,f2,z1,z2,z3,nes,g1,y0,y1,y2,yn,Ne.symm y0,Ne.symm y1,Ne.symm y2,him,g2,x0,x1,x2,xi,Ne.symm x0,Ne.symm x1,Ne.symm x2,Ne.symm xi,hrm,hc]
  refine twp_draw [0,1,2,3,4,5,6,7,8,10,11,9,12,13,14] [0,n1] (List.replicate 15 [0,1]) (List.replicate 15 [0,1]) (by kernel_rfl) (by kernel_rfl) (by kernel_rfl) (by kernel_rfl) ?_
  simp -dsimp [nes8 n1,k0,k1,k2,f0,f1,f2,z1,z2,z3,nes,g1,y0,y1,y2,yn,Ne.symm y0,Ne.symm y1,Ne.symm y2,him,g2,x0,x1,x2,xi,Ne.symm x0,Ne.symm x1,Ne.symm x2,Ne.symm xi,hrm,hc]
  refine call_ hpo (by simp -dsimp [nes8 n1,k0,k1,k2,f0,f1,f2,z1,z2,z3,nes,g1,y0,y1,y2,yn,Ne.symm y0,Ne.symm y1,Ne.symm y2,him,g2,x0,x1,x2,xi,Ne.symm x0,Ne.symm x1,Ne.symm x2,Ne.symm xi,hrm,hc]) ?_
  rcases hkX with rfl | rfl
  ·simp -dsimp [nes8 n1,k0,k1,k2,f0,f1,f2,z1,z2,z3,nes,g1,y0,y1,y2,yn,Ne.symm y0,Ne.symm y1,Ne.symm y2,him,g2,x0,x1,x2,xi,Ne.symm x0,Ne.symm x1,Ne.symm x2,Ne.symm xi,hrm,hc]
   refine callL_ (vs := [d.v]) (hcopyK _ _) (by simp -dsimp [hc]) ?_
   rintro t m2 n2 ⟨hn2,hout2,sn2,P2,rfl,hown2⟩
   have q2 := hout2 2 (by omega)
   simp -dsimp [nes8 n1,k0,k1,k2,f0,f1,f2,z1,z2,z3,nes,g1,y0,y1,y2,yn,Ne.symm y0,Ne.symm y1,Ne.symm y2,him,g2,x0,x1,x2,xi,Ne.symm x0,Ne.symm x1,Ne.symm x2,Ne.symm xi,hrm] at q2
   have hfc := hown2.facts
   have hc2 := hfc.1
   have hcs2 := hfc.2.1
   have hcP2 := hfc.2.2.1
   have hcsP2 := hfc.2.2.2
   clear hfc
   simp -dsimp [dT,q2,hc2,hcs2,hcP2,hcsP2]
   exact ⟨sn2,P2,rfl,hown2.keep (Nat.zero_le _) (by omega) fun j j1 j2 => by simp [show ¬ j = 2 by omega]⟩
  simp -dsimp [nes8 n1,k0,k1,k2,f0,f1,f2,z1,z2,z3,nes,g1,y0,y1,y2,yn,Ne.symm y0,Ne.symm y1,Ne.symm y2,him,g2,x0,x1,x2,xi,Ne.symm x0,Ne.symm x1,Ne.symm x2,Ne.symm xi,hrm,hc]
  refine call_ hpt (by simp -dsimp [nes8 n1,k0,k1,k2,f0,f1,f2,z1,z2,z3,nes,g1,y0,y1,y2,yn,Ne.symm y0,Ne.symm y1,Ne.symm y2,him,g2,x0,x1,x2,xi,Ne.symm x0,Ne.symm x1,Ne.symm x2,Ne.symm xi,hrm,hc]) ?_
  simp -dsimp [nes8 n1,k0,k1,k2,f0,f1,f2,z1,z2,z3,nes,g1,y0,y1,y2,yn,Ne.symm y0,Ne.symm y1,Ne.symm y2,him,g2,x0,x1,x2,xi,Ne.symm x0,Ne.symm x1,Ne.symm x2,Ne.symm xi,hrm,hc]
  refine call_ hpn (by simp -dsimp) ?_
  rcases htx with rfl | htx
  ·simp -dsimp [nes8 n1,k0,k1,k2,f0,f1,f2,z1,z2,z3,nes,g1,y0,y1,y2,yn,Ne.symm y0,Ne.symm y1,Ne.symm y2,him,g2,x0,x1,x2,xi,Ne.symm x0,Ne.symm x1,Ne.symm x2,Ne.symm xi,hrm,hc]
   refine callL_ (vs := [d.v]) (hcopyK _ _) (by simp -dsimp [hc]) ?_
   rintro t m2 n2 ⟨hn2,hout2,sn2,P2,rfl,hown2⟩
   have q2 := hout2 2 (by omega)
   simp -dsimp [nes8 n1,k0,k1,k2,f0,f1,f2,z1,z2,z3,nes,g1,y0,y1,y2,yn,Ne.symm y0,Ne.symm y1,Ne.symm y2,him,g2,x0,x1,x2,xi,Ne.symm x0,Ne.symm x1,Ne.symm x2,Ne.symm xi,hrm] at q2
   have hfc := hown2.facts
   have hc2 := hfc.1
   have hcs2 := hfc.2.1
   have hcP2 := hfc.2.2.1
   have hcsP2 := hfc.2.2.2
   clear hfc
   simp -dsimp [dT,q2,hc2,hcs2,hcP2,hcsP2]
   exact ⟨sn2,P2,rfl,hown2.keep (Nat.zero_le _) (by omega) fun j j1 j2 => by simp [show ¬ j = 2 by omega]⟩
  have hRs := hR rfl
  simp -dsimp [nes8 n1,k0,k1,k2,f0,f1,f2,z1,z2,z3,nes,g1,y0,y1,y2,yn,Ne.symm y0,Ne.symm y1,Ne.symm y2,him,g2,x0,x1,x2,xi,Ne.symm x0,Ne.symm x1,Ne.symm x2,Ne.symm xi,hrm,hc,htx]
  refine twp_draw (List.range 9) [0,n1] (List.replicate 9 [0,1]) (List.replicate 8 [0,1] ++ [[0]]) (by kernel_rfl) (by kernel_rfl) (by kernel_rfl) (by kernel_rfl) ?_
  simp -dsimp [List.range_succ,nes8 n1,k0,k1,k2,f0,f1,f2,z1,z2,z3,nes,g1,y0,y1,y2,yn,Ne.symm y0,Ne.symm y1,Ne.symm y2,him,g2,x0,x1,x2,xi,Ne.symm x0,Ne.symm x1,Ne.symm x2,Ne.symm xi,hrm,hc,htx]
  refine call_ hcn (by simp -dsimp) ?_
  by_cases h8 : d.past.length = 8
  ·have e8 : (d.past.length : Int) = 8 := by omega
   have ek : keep8 (d.past ++ [d.now]) = (d.past ++ [d.now]).tail := by unfold keep8; rw [if_pos (by simp [h8])]; simp
   have hR2 := hRs (d.past ++ [d.now]).tail ek
   have tk : List.take 9 (List.map Place.v d.past ++ [d.now.v]) = List.map Place.v d.past ++ [d.now.v] := List.take_of_length_le (by simp [h8])
   have zk : allZ 2 (List.map Place.v d.past ++ [d.now.v]).tail := fun x hx => zplaces x (List.mem_of_mem_tail hx)
   simp only [Place.v,storyV] at tk zk
   simp -dsimp [List.range_succ,nes8 n1,k0,k1,k2,f0,f1,f2,z1,z2,z3,nes,g1,y0,y1,y2,yn,Ne.symm y0,Ne.symm y1,Ne.symm y2,him,g2,x0,x1,x2,xi,Ne.symm x0,Ne.symm x1,Ne.symm x2,Ne.symm xi,hrm,hc,htx,fullb,h8,e8,tk,zk]
   refine callL_ (vs := [(⟨⟨num,d.now.story⟩,(d.past ++ [d.now]).tail⟩ : Desk).v]) (hR2 _ _) (by simp -dsimp [nes8 n1,k0,k1,k2,f0,f1,f2,z1,z2,z3,nes,g1,y0,y1,y2,yn,Ne.symm y0,Ne.symm y1,Ne.symm y2,him,g2,x0,x1,x2,xi,Ne.symm x0,Ne.symm x1,Ne.symm x2,Ne.symm xi,hrm,hc,List.map_tail,List.map_append]) ?_
   rintro t m2 n2 ⟨hn2,hout2,sn2,P2,rfl,hown2⟩
   have q2 := hout2 2 (by omega)
   simp -dsimp [nes8 n1,k0,k1,k2,f0,f1,f2,z1,z2,z3,nes,g1,y0,y1,y2,yn,Ne.symm y0,Ne.symm y1,Ne.symm y2,him,g2,x0,x1,x2,xi,Ne.symm x0,Ne.symm x1,Ne.symm x2,Ne.symm xi,hrm] at q2
   have hfc := hown2.facts
   have hc2 := hfc.1
   have hcs2 := hfc.2.1
   have hcP2 := hfc.2.2.1
   have hcsP2 := hfc.2.2.2
   clear hfc
   simp -dsimp [dT,q2,hc2,hcs2,hcP2,hcsP2,htx,ek]
   exact ⟨sn2,P2,rfl,hown2.keep (Nat.zero_le _) (by omega) fun j j1 j2 => by simp [show ¬ j = 2 by omega]⟩
  ·have e8 : d.past.length < 8 := by omega
   have e8' : ¬ (8 : Int) < (d.past.length : Int) + 1 := by omega
   have e8'' : ¬ 8 < d.past.length + 1 := by omega
   have ek : keep8 (d.past ++ [d.now]) = d.past ++ [d.now] := by unfold keep8; rw [if_neg (by simp; omega)]
   have hR2 := hRs (d.past ++ [d.now]) ek
   simp -dsimp [List.range_succ,nes8 n1,k0,k1,k2,f0,f1,f2,z1,z2,z3,nes,g1,y0,y1,y2,yn,Ne.symm y0,Ne.symm y1,Ne.symm y2,him,g2,x0,x1,x2,xi,Ne.symm x0,Ne.symm x1,Ne.symm x2,Ne.symm xi,hrm,hc,htx,fullb,h8,e8,e8',e8'']
   refine callL_ (vs := [(⟨⟨num,d.now.story⟩,d.past ++ [d.now]⟩ : Desk).v]) (hR2 _ _) (by simp -dsimp [nes8 n1,k0,k1,k2,f0,f1,f2,z1,z2,z3,nes,g1,y0,y1,y2,yn,Ne.symm y0,Ne.symm y1,Ne.symm y2,him,g2,x0,x1,x2,xi,Ne.symm x0,Ne.symm x1,Ne.symm x2,Ne.symm xi,hrm,hc]) ?_
   rintro t m2 n2 ⟨hn2,hout2,sn2,P2,rfl,hown2⟩
   have q2 := hout2 2 (by omega)
   simp -dsimp [nes8 n1,k0,k1,k2,f0,f1,f2,z1,z2,z3,nes,g1,y0,y1,y2,yn,Ne.symm y0,Ne.symm y1,Ne.symm y2,him,g2,x0,x1,x2,xi,Ne.symm x0,Ne.symm x1,Ne.symm x2,Ne.symm xi,hrm] at q2
   have hfc := hown2.facts
   have hc2 := hfc.1
   have hcs2 := hfc.2.1
   have hcP2 := hfc.2.2.1
   have hcsP2 := hfc.2.2.2
   clear hfc
   simp -dsimp [dT,q2,hc2,hcs2,hcP2,hcsP2,htx,ek]
   exact ⟨sn2,P2,rfl,hown2.keep (Nat.zero_le _) (by omega) fun j j1 j2 => by simp [show ¬ j = 2 by omega]⟩
end TL

namespace TL
open Go Go.Proofs
attribute [local simp] marksV storyV codeV Claim.v Place.v Deed.v Desk.v
theorem do_least_k (d : Desk)  (hd : d.small) (hk : deskOk d = true) (X : Place) (hXl : X.story.length ≤ 7) (hX : X = ⟨d.now.people,least d.now.people.toNat d.now.story⟩) :
  FnS Tryz.prog 30 (fun _ => none) 0 [.v d.v,.v (⟨3,0,[]⟩ : Deed).v] (PostK (if (placeOk X && !decide (placeTx X = placeTx d.now)) = true then ((⟨X,keep8 (d.past ++ [d.now])⟩,true) : Desk × Bool) else (d,false))) := by
 have hpo := placeOk_fn X (by omega)
 have hpt := placeText_fn X (by omega)
 have hpn := placeText_fn d.now (by have := hd.1.1; omega)
 have hcn := copyPlace_fn d.now hd.1
 have hok := deskOk_fn d (by have := hd.2.1; omega) (by have := hd.1.1; omega) (fun p hp => by have := (hd.2.2 p hp).1; omega)
 rw [hk] at hok
 obtain ⟨hpast,hnow,hp8⟩ := deskOk_iff.1 hk
 have hcopy := fun m n => copyDesk_own d hd m n
 have hcopyK := fun m n => copyDesk_k d hd hk m n
 have fullb : (d.past.length + 1) * 32 ≤ 140737488355328 := by omega
 have zplaces : allZ 2 (List.map Place.v d.past ++ [d.now.v]) := fun x hx => by
  rcases List.mem_append.1 hx with hx | hx
  ·obtain ⟨p,_,rfl⟩ := List.mem_map.1 hx; exact ⟨by simp,by simp⟩
  ·rw [List.mem_singleton.1 hx]; exact ⟨by simp,by simp⟩
 have hR : placeOk X = true → ∀ l,keep8 (d.past ++ [d.now]) = l → ∀ m n,FnS Tryz.prog 31 m n [.v (⟨X,l⟩ : Desk).v] (DeepK ⟨X,l⟩ m n) := fun hX l hl m n => by
  have ok : deskOk ⟨X,l⟩ = true := deskOk_iff.2 ⟨fun p hp => by
   rw [← hl] at hp
   rcases List.mem_append.1 (keep8_mem hp) with h1 | h1
   ·exact hpast p h1
   ·rw [List.mem_singleton.1 h1]; exact hnow,hX,by rw [← hl]; exact keep8_len _ (by simp; omega)⟩
  exact copyDesk_k ⟨X,l⟩ (desk_fine ok).1 ok m n
 have hls := leastStory_fn d.now.people d.now.story hnow
 have hkX := ft (placeOk X)
 have htx : placeTx X = placeTx d.now ∨ ¬ placeTx X = placeTx d.now := Classical.em _
 generalize placeTx X = tX at *
 generalize placeTx d.now = tN at *
 generalize placeOk X = okX at *
 subst hX
 generalize least d.now.people.toNat d.now.story = R at *
 refine FnS_of (rs := [.cell 4 34,.tmp 5]) false Tryz.func30 rfl rfl rfl rfl (Nat.le_of_ble_eq_true rfl) ?_
 simp -dsimp
 refine call_ hok (by simp -dsimp) ?_
 simp -dsimp
 refine callL_ (vs := [d.v]) (hcopy _ _) (by simp -dsimp) ?_
 rintro t m1 n1 ⟨hn1,hout,id,st,rfl,hi0,hi1,him,hst,hne⟩
 have k0 := hout 0 (by omega)
 have k1 := hout 1 (by omega)
 have k2 := hout 2 (by omega)
 simp -dsimp at k0 k1 k2
 have f0 := far (show 0 < n1 by omega)
 have f1 := far (show 1 < n1 by omega)
 have f2 := far (show 2 < n1 by omega)
 have z1 : ¬ n1 = 0 := by omega
 have z2 : ¬ n1 = 1 := by omega
 have z3 : ¬ n1 = 2 := by omega
 have g1 := far hi1
 have y0 : ¬ id = 0 := by omega
 have y1 : ¬ id = 1 := by omega
 have y2 : ¬ id = 2 := by omega
 have yn : ¬ id = n1 := by omega
 have hc := hst.cell
 rcases hst with ⟨rfl,hs0⟩ | ⟨r,rfl,hr0,hr1,hrm⟩
 ·have hp0 : d.past = [] := by simpa using hs0
  simp -dsimp [nes8 n1,k0,k1,k2,f0,f1,f2,z1,z2,z3,nes,g1,y0,y1,y2,yn,Ne.symm y0,Ne.symm y1,Ne.symm y2,him,hc]
  refine twp_draw (List.range 16) [n1] (List.replicate 12 [0] ++ [[],[],[],[]]) (List.replicate 15 [0] ++ [[]]) (by kernel_rfl) (by kernel_rfl) (by kernel_rfl) (by kernel_rfl) ?_
  simp -dsimp [List.range_succ,nes8 n1,k0,k1,k2,f0,f1,f2,z1,z2,z3,nes,g1,y0,y1,y2,yn,Ne.symm y0,Ne.symm y1,Ne.symm y2,him,hc]
  refine call_ hls (by simp -dsimp [nes8 n1,k0,k1,k2,f0,f1,f2,z1,z2,z3,nes,g1,y0,y1,y2,yn,Ne.symm y0,Ne.symm y1,Ne.symm y2,him,hc]) ?_
  simp -dsimp [List.range_succ,nes8 n1,k0,k1,k2,f0,f1,f2,z1,z2,z3,nes,g1,y0,y1,y2,yn,Ne.symm y0,Ne.symm y1,Ne.symm y2,him,hc]
  refine twp_draw [0,1,2,3,4,5,6,7,8,10,11,9,12,13,14] [0,n1] (List.replicate 15 [0,1]) (List.replicate 15 [0,1]) (by kernel_rfl) (by kernel_rfl) (by kernel_rfl) (by kernel_rfl) ?_
  simp -dsimp [nes8 n1,k0,k1,k2,f0,f1,f2,z1,z2,z3,nes,g1,y0,y1,y2,yn,Ne.symm y0,Ne.symm y1,Ne.symm y2,him,hc,hp0]
  refine call_ hpo (by simp -dsimp [nes8 n1,k0,k1,k2,f0,f1,f2,z1,z2,z3,nes,g1,y0,y1,y2,yn,Ne.symm y0,Ne.symm y1,Ne.symm y2,him,hc,hp0]) ?_
  rcases hkX with rfl | rfl
  ·simp -dsimp [nes8 n1,k0,k1,k2,f0,f1,f2,z1,z2,z3,nes,g1,y0,y1,y2,yn,Ne.symm y0,Ne.symm y1,Ne.symm y2,him,hc,hp0]
   refine callL_ (vs := [d.v]) (hcopyK _ _) (by simp -dsimp [hc,hp0]) ?_
   rintro t m2 n2 ⟨hn2,hout2,sn2,P2,rfl,hown2⟩
   have q2 := hout2 2 (by omega)
   simp -dsimp [nes8 n1,k0,k1,k2,f0,f1,f2,z1,z2,z3,nes,g1,y0,y1,y2,yn,Ne.symm y0,Ne.symm y1,Ne.symm y2,him] at q2
   have hfc := hown2.facts
   have hc2 := hfc.1
   have hcs2 := hfc.2.1
   have hcP2 := hfc.2.2.1
   have hcsP2 := hfc.2.2.2
   clear hfc
   simp -dsimp [dT,q2,hc2,hcs2,hcP2,hcsP2]
   exact ⟨sn2,P2,rfl,hown2.keep (Nat.zero_le _) (by omega) fun j j1 j2 => by simp [show ¬ j = 2 by omega]⟩
  simp -dsimp [nes8 n1,k0,k1,k2,f0,f1,f2,z1,z2,z3,nes,g1,y0,y1,y2,yn,Ne.symm y0,Ne.symm y1,Ne.symm y2,him,hc,hp0]
  refine call_ hpt (by simp -dsimp [nes8 n1,k0,k1,k2,f0,f1,f2,z1,z2,z3,nes,g1,y0,y1,y2,yn,Ne.symm y0,Ne.symm y1,Ne.symm y2,him,hc,hp0]) ?_
  simp -dsimp [nes8 n1,k0,k1,k2,f0,f1,f2,z1,z2,z3,nes,g1,y0,y1,y2,yn,Ne.symm y0,Ne.symm y1,Ne.symm y2,him,hc,hp0]
  refine call_ hpn (by simp -dsimp) ?_
  rcases htx with rfl | htx
  ·simp -dsimp [nes8 n1,k0,k1,k2,f0,f1,f2,z1,z2,z3,nes,g1,y0,y1,y2,yn,Ne.symm y0,Ne.symm y1,Ne.symm y2,him,hc,hp0]
   refine callL_ (vs := [d.v]) (hcopyK _ _) (by simp -dsimp [hc,hp0]) ?_
   rintro t m2 n2 ⟨hn2,hout2,sn2,P2,rfl,hown2⟩
   have q2 := hout2 2 (by omega)
   simp -dsimp [nes8 n1,k0,k1,k2,f0,f1,f2,z1,z2,z3,nes,g1,y0,y1,y2,yn,Ne.symm y0,Ne.symm y1,Ne.symm y2,him] at q2
   have hfc := hown2.facts
   have hc2 := hfc.1
   have hcs2 := hfc.2.1
   have hcP2 := hfc.2.2.1
   have hcsP2 := hfc.2.2.2
   clear hfc
   simp -dsimp [dT,q2,hc2,hcs2,hcP2,hcsP2]
   exact ⟨sn2,P2,rfl,hown2.keep (Nat.zero_le _) (by omega) fun j j1 j2 => by simp [show ¬ j = 2 by omega]⟩
  have hRs := hR rfl
  simp -dsimp [nes8 n1,k0,k1,k2,f0,f1,f2,z1,z2,z3,nes,g1,y0,y1,y2,yn,Ne.symm y0,Ne.symm y1,Ne.symm y2,him,hc,hp0,htx]
  refine twp_draw (List.range 9) [0,n1] (List.replicate 9 [0,1]) (List.replicate 8 [0,1] ++ [[0]]) (by kernel_rfl) (by kernel_rfl) (by kernel_rfl) (by kernel_rfl) ?_
  simp -dsimp [List.range_succ,nes8 n1,k0,k1,k2,f0,f1,f2,z1,z2,z3,nes,g1,y0,y1,y2,yn,Ne.symm y0,Ne.symm y1,Ne.symm y2,him,hc,hp0,htx]
  refine call_ hcn (by simp -dsimp) ?_
  have hR2 := hRs [d.now] (by rw [hp0]; rfl)
  simp -dsimp [List.range_succ,nes8 n1,k0,k1,k2,f0,f1,f2,z1,z2,z3,nes,g1,y0,y1,y2,yn,Ne.symm y0,Ne.symm y1,Ne.symm y2,him,hc,hp0,htx]
  refine callL_ (vs := [(⟨⟨d.now.people,R⟩,[d.now]⟩ : Desk).v]) (hR2 _ _) (by simp -dsimp [nes8 n1,k0,k1,k2,f0,f1,f2,z1,z2,z3,nes,g1,y0,y1,y2,yn,Ne.symm y0,Ne.symm y1,Ne.symm y2,him,hc,hp0]) ?_
  rintro t m2 n2 ⟨hn2,hout2,sn2,P2,rfl,hown2⟩
  have q2 := hout2 2 (by omega)
  simp -dsimp [nes8 n1,k0,k1,k2,f0,f1,f2,z1,z2,z3,nes,g1,y0,y1,y2,yn,Ne.symm y0,Ne.symm y1,Ne.symm y2,him] at q2
  have hfc := hown2.facts
  have hc2 := hfc.1
  have hcs2 := hfc.2.1
  have hcP2 := hfc.2.2.1
  have hcsP2 := hfc.2.2.2
  clear hfc
  simp -dsimp [dT,q2,hc2,hcs2,hcP2,hcsP2,htx,hp0,keep8]
  exact ⟨sn2,P2,rfl,hown2.keep (Nat.zero_le _) (by omega) fun j j1 j2 => by simp [show ¬ j = 2 by omega]⟩
 ·have g2 := far hr1
  have x0 : ¬ r = 0 := by omega
  have x1 : ¬ r = 1 := by omega
  have x2 : ¬ r = 2 := by omega
  have xi : ¬ r = id := fun h => hne (by rw [h])
  simp -dsimp [nes8 n1,k0,k1,k2,f0,f1,f2,z1,z2,z3,nes,g1,y0,y1,y2,yn,Ne.symm y0,Ne.symm y1,Ne.symm y2,him,g2,x0,x1,x2,xi,Ne.symm x0,Ne.symm x1,Ne.symm x2,Ne.symm xi,hrm,hc]
  refine twp_draw (List.range 16) [n1] (List.replicate 12 [0] ++ [[],[],[],[]]) (List.replicate 15 [0] ++ [[]]) (by kernel_rfl) (by kernel_rfl) (by kernel_rfl) (by kernel_rfl) ?_
  simp -dsimp [List.range_succ,nes8 n1,k0,k1,k2,f0,f1,f2,z1,z2,z3,nes,g1,y0,y1,y2,yn,Ne.symm y0,Ne.symm y1,Ne.symm y2,him,g2,x0,x1,x2,xi,Ne.symm x0,Ne.symm x1,Ne.symm x2,Ne.symm xi,hrm,hc]
  refine call_ hls (by simp -dsimp [nes8 n1,k0,k1,k2,f0,f1,f2,z1,z2,z3,nes,g1,y0,y1,y2,yn,Ne.symm y0,Ne.symm y1,Ne.symm y2,him,g2,x0,x1,x2,xi,Ne.symm x0,Ne.symm x1,Ne.symm x2,Ne.symm xi,hrm,hc]) ?_
  simp -dsimp [List.range_succ,nes8 n1,k0,k1,k2,f0,f1,f2,z1,z2,z3,nes,g1,y0,y1,y2,yn,Ne.symm y0,Ne.symm y1,Ne.symm y2,him,g2,x0,x1,x2,xi,Ne.symm x0,Ne.symm x1,Ne.symm x2,Ne.symm xi,hrm,hc]
  refine twp_draw [0,1,2,3,4,5,6,7,8,10,11,9,12,13,14] [0,n1] (List.replicate 15 [0,1]) (List.replicate 15 [0,1]) (by kernel_rfl) (by kernel_rfl) (by kernel_rfl) (by kernel_rfl) ?_
  simp -dsimp [nes8 n1,k0,k1,k2,f0,f1,f2,z1,z2,z3,nes,g1,y0,y1,y2,yn,Ne.symm y0,Ne.symm y1,Ne.symm y2,him,g2,x0,x1,x2,xi,Ne.symm x0,Ne.symm x1,Ne.symm x2,Ne.symm xi,hrm,hc]
  refine call_ hpo (by simp -dsimp [nes8 n1,k0,k1,k2,f0,f1,f2,z1,z2,z3,nes,g1,y0,y1,y2,yn,Ne.symm y0,Ne.symm y1,Ne.symm y2,him,g2,x0,x1,x2,xi,Ne.symm x0,Ne.symm x1,Ne.symm x2,Ne.symm xi,hrm,hc]) ?_
  rcases hkX with rfl | rfl
  ·simp -dsimp [nes8 n1,k0,k1,k2,f0,f1,f2,z1,z2,z3,nes,g1,y0,y1,y2,yn,Ne.symm y0,Ne.symm y1,Ne.symm y2,him,g2,x0,x1,x2,xi,Ne.symm x0,Ne.symm x1,Ne.symm x2,Ne.symm xi,hrm,hc]
   refine callL_ (vs := [d.v]) (hcopyK _ _) (by simp -dsimp [hc]) ?_
   rintro t m2 n2 ⟨hn2,hout2,sn2,P2,rfl,hown2⟩
   have q2 := hout2 2 (by omega)
   simp -dsimp [nes8 n1,k0,k1,k2,f0,f1,f2,z1,z2,z3,nes,g1,y0,y1,y2,yn,Ne.symm y0,Ne.symm y1,Ne.symm y2,him,g2,x0,x1,x2,xi,Ne.symm x0,Ne.symm x1,Ne.symm x2,Ne.symm xi,hrm] at q2
   have hfc := hown2.facts
   have hc2 := hfc.1
   have hcs2 := hfc.2.1
   have hcP2 := hfc.2.2.1
   have hcsP2 := hfc.2.2.2
   clear hfc
   simp -dsimp [dT,q2,hc2,hcs2,hcP2,hcsP2]
   exact ⟨sn2,P2,rfl,hown2.keep (Nat.zero_le _) (by omega) fun j j1 j2 => by simp [show ¬ j = 2 by omega]⟩
  simp -dsimp [nes8 n1,k0,k1,k2,f0,f1,f2,z1,z2,z3,nes,g1,y0,y1,y2,yn,Ne.symm y0,Ne.symm y1,Ne.symm y2,him,g2,x0,x1,x2,xi,Ne.symm x0,Ne.symm x1,Ne.symm x2,Ne.symm xi,hrm,hc]
  refine call_ hpt (by simp -dsimp [nes8 n1,k0,k1,k2,f0,f1,f2,z1,z2,z3,nes,g1,y0,y1,y2,yn,Ne.symm y0,Ne.symm y1,Ne.symm y2,him,g2,x0,x1,x2,xi,Ne.symm x0,Ne.symm x1,Ne.symm x2,Ne.symm xi,hrm,hc]) ?_
  simp -dsimp [nes8 n1,k0,k1,k2,f0,f1,f2,z1,z2,z3,nes,g1,y0,y1,y2,yn,Ne.symm y0,Ne.symm y1,Ne.symm y2,him,g2,x0,x1,x2,xi,Ne.symm x0,Ne.symm x1,Ne.symm x2,Ne.symm xi,hrm,hc]
  refine call_ hpn (by simp -dsimp) ?_
  rcases htx with rfl | htx
  ·simp -dsimp [nes8 n1,k0,k1,k2,f0,f1,f2,z1,z2,z3,nes,g1,y0,y1,y2,yn,Ne.symm y0,Ne.symm y1,Ne.symm y2,him,g2,x0,x1,x2,xi,Ne.symm x0,Ne.symm x1,Ne.symm x2,Ne.symm xi,hrm,hc]
   refine callL_ (vs := [d.v]) (hcopyK _ _) (by simp -dsimp [hc]) ?_
   rintro t m2 n2 ⟨hn2,hout2,sn2,P2,rfl,hown2⟩
   have q2 := hout2 2 (by omega)
   simp -dsimp [nes8 n1,k0,k1,k2,f0,f1,f2,z1,z2,z3,nes,g1,y0,y1,y2,yn,Ne.symm y0,Ne.symm y1,Ne.symm y2,him,g2,x0,x1,x2,xi,Ne.symm x0,Ne.symm x1,Ne.symm x2,Ne.symm xi,hrm] at q2
   have hfc := hown2.facts
   have hc2 := hfc.1
   have hcs2 := hfc.2.1
   have hcP2 := hfc.2.2.1
   have hcsP2 := hfc.2.2.2
   clear hfc
   simp -dsimp [dT,q2,hc2,hcs2,hcP2,hcsP2]
   exact ⟨sn2,P2,rfl,hown2.keep (Nat.zero_le _) (by omega) fun j j1 j2 => by simp [show ¬ j = 2 by omega]⟩
  have hRs := hR rfl
  simp -dsimp [nes8 n1,k0,k1,k2,f0,f1,f2,z1,z2,z3,nes,g1,y0,y1,y2,yn,Ne.symm y0,Ne.symm y1,Ne.symm y2,him,g2,x0,x1,x2,xi,Ne.symm x0,Ne.symm x1,Ne.symm x2,Ne.symm xi,hrm,hc,htx]
  refine twp_draw (List.range 9) [0,n1] (List.replicate 9 [0,1]) (List.replicate 8 [0,1] ++ [[0]]) (by kernel_rfl) (by kernel_rfl) (by kernel_rfl) (by kernel_rfl) ?_
  simp -dsimp [List.range_succ,nes8 n1,k0,k1,k2,f0,f1,f2,z1,z2,z3,nes,g1,y0,y1,y2,yn,Ne.symm y0,Ne.symm y1,Ne.symm y2,him,g2,x0,x1,x2,xi,Ne.symm x0,Ne.symm x1,Ne.symm x2,Ne.symm xi,hrm,hc,htx]
  refine call_ hcn (by simp -dsimp) ?_
  by_cases h8 : d.past.length = 8
  ·have e8 : (d.past.length : Int) = 8 := by omega
   have ek : keep8 (d.past ++ [d.now]) = (d.past ++ [d.now]).tail := by unfold keep8; rw [if_pos (by simp [h8])]; simp
   have hR2 := hRs (d.past ++ [d.now]).tail ek
   have tk : List.take 9 (List.map Place.v d.past ++ [d.now.v]) = List.map Place.v d.past ++ [d.now.v] := List.take_of_length_le (by simp [h8])
   have zk : allZ 2 (List.map Place.v d.past ++ [d.now.v]).tail := fun x hx => zplaces x (List.mem_of_mem_tail hx)
   simp only [Place.v,storyV] at tk zk
   simp -dsimp [List.range_succ,nes8 n1,k0,k1,k2,f0,f1,f2,z1,z2,z3,nes,g1,y0,y1,y2,yn,Ne.symm y0,Ne.symm y1,Ne.symm y2,him,g2,x0,x1,x2,xi,Ne.symm x0,Ne.symm x1,Ne.symm x2,Ne.symm xi,hrm,hc,htx,fullb,h8,e8,tk,zk]
   refine callL_ (vs := [(⟨⟨d.now.people,R⟩,(d.past ++ [d.now]).tail⟩ : Desk).v]) (hR2 _ _) (by simp -dsimp [nes8 n1,k0,k1,k2,f0,f1,f2,z1,z2,z3,nes,g1,y0,y1,y2,yn,Ne.symm y0,Ne.symm y1,Ne.symm y2,him,g2,x0,x1,x2,xi,Ne.symm x0,Ne.symm x1,Ne.symm x2,Ne.symm xi,hrm,hc,List.map_tail,List.map_append]) ?_
   rintro t m2 n2 ⟨hn2,hout2,sn2,P2,rfl,hown2⟩
   have q2 := hout2 2 (by omega)
   simp -dsimp [nes8 n1,k0,k1,k2,f0,f1,f2,z1,z2,z3,nes,g1,y0,y1,y2,yn,Ne.symm y0,Ne.symm y1,Ne.symm y2,him,g2,x0,x1,x2,xi,Ne.symm x0,Ne.symm x1,Ne.symm x2,Ne.symm xi,hrm] at q2
   have hfc := hown2.facts
   have hc2 := hfc.1
   have hcs2 := hfc.2.1
   have hcP2 := hfc.2.2.1
   have hcsP2 := hfc.2.2.2
   clear hfc
   simp -dsimp [dT,q2,hc2,hcs2,hcP2,hcsP2,htx,ek]
   exact ⟨sn2,P2,rfl,hown2.keep (Nat.zero_le _) (by omega) fun j j1 j2 => by simp [show ¬ j = 2 by omega]⟩
  ·have e8 : d.past.length < 8 := by omega
   have e8' : ¬ (8 : Int) < (d.past.length : Int) + 1 := by omega
   have e8'' : ¬ 8 < d.past.length + 1 := by omega
   have ek : keep8 (d.past ++ [d.now]) = d.past ++ [d.now] := by unfold keep8; rw [if_neg (by simp; omega)]
   have hR2 := hRs (d.past ++ [d.now]) ek
   simp -dsimp [List.range_succ,nes8 n1,k0,k1,k2,f0,f1,f2,z1,z2,z3,nes,g1,y0,y1,y2,yn,Ne.symm y0,Ne.symm y1,Ne.symm y2,him,g2,x0,x1,x2,xi,Ne.symm x0,Ne.symm x1,Ne.symm x2,Ne.symm xi,hrm,hc,htx,fullb,h8,e8,e8',e8'']
   refine callL_ (vs := [(⟨⟨d.now.people,R⟩,d.past ++ [d.now]⟩ : Desk).v]) (hR2 _ _) (by simp -dsimp [nes8 n1,k0,k1,k2,f0,f1,f2,z1,z2,z3,nes,g1,y0,y1,y2,yn,Ne.symm y0,Ne.symm y1,Ne.symm y2,him,g2,x0,x1,x2,xi,Ne.symm x0,Ne.symm x1,Ne.symm x2,Ne.symm xi,hrm,hc]) ?_
   rintro t m2 n2 ⟨hn2,hout2,sn2,P2,rfl,hown2⟩
   have q2 := hout2 2 (by omega)
   simp -dsimp [nes8 n1,k0,k1,k2,f0,f1,f2,z1,z2,z3,nes,g1,y0,y1,y2,yn,Ne.symm y0,Ne.symm y1,Ne.symm y2,him,g2,x0,x1,x2,xi,Ne.symm x0,Ne.symm x1,Ne.symm x2,Ne.symm xi,hrm] at q2
   have hfc := hown2.facts
   have hc2 := hfc.1
   have hcs2 := hfc.2.1
   have hcP2 := hfc.2.2.1
   have hcsP2 := hfc.2.2.2
   clear hfc
   simp -dsimp [dT,q2,hc2,hcs2,hcP2,hcsP2,htx,ek]
   exact ⟨sn2,P2,rfl,hown2.keep (Nat.zero_le _) (by omega) fun j j1 j2 => by simp [show ¬ j = 2 by omega]⟩
end TL
