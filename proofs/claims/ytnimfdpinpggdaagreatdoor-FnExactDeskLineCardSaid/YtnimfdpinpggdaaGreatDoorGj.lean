/- TL: parts FnsIO, FnsIR, FnsIP, FnsIL, FnsIF, FnsIG, FnsIS, FnsR9, FnsJ5, FnsJ6, FnsJ7. -/
import Derived.Test.YtnimfdpinpggdaaGreatDoorGi
import Derived.Test.YtnimfdpinpggdaaGreatDoorGh
import Derived.Test.YtnimfdpinpggdaaGreatDoorGg
import Derived.Test.YtnimfdpinpggdaaGreatDoorGe
import Derived.Test.YtnimfdpinpggdaaGreatDoorGf
set_option linter.unusedSimpArgs false
set_option linter.unusedVariables false
set_option maxRecDepth 100000
set_option maxHeartbeats 4000000
set_option pp.maxSteps 1500
namespace TL
open Go Go.Proofs
attribute [local simp] marksV storyV codeV Claim.v Place.v
def InoF (p : Nat) (e : Nat) (s : S) : Prop := ∃ i id : Nat,s.tm 0 = .v (.int .i64 p) ∧ s.tm 3 = .loc id ∧ id < s.n ∧ s.mu = false ∧ s.m id = some (.arr 3 ((List.replicate i (-1 : Int)).map (V.int .i64))) ∧ s.tm 4 = .v (.int .i64 i) ∧ i ≤ p ∧ (e = 1 → i = p)
theorem l11Nothing_fn (p : Nat) (hp : p ≤ 4) : FnZ Tryz.prog 111 [.int .i64 p] (numsV (List.replicate p (-1))) := by
 refine FnZ_of (rs := [.tmp 2]) false Tryz.func111 rfl rfl rfl rfl (Nat.le_of_ble_eq_true rfl) ?_
 simp -dsimp
 refine twp_loopC (InoF p 0) (fun s => p - natOf (s.tm 4)) (InoF p 1) ?_ ?_ ?_
 ·exact ⟨0,0,by simp -dsimp,by simp -dsimp,by simp -dsimp,by simp -dsimp,by simp -dsimp,by simp -dsimp,by omega,by simp⟩
 ·rintro s ⟨i,id,t0,t3,hid,hmu,hm,t4,hi,hend⟩
  by_cases hlt : i < p
  case neg =>
   simp -dsimp [t0,t4,hlt]
   exact ⟨i,id,by simp -dsimp [t0],by simp -dsimp [t3],by simp -dsimp; omega,by simp -dsimp [hmu],by simp -dsimp [hm],by simp -dsimp [t4],hi,fun _ => by omega⟩
  have wi : IntKind.wrap .i64 ((i : Int) + 1) = ((i + 1 : Nat) : Int) := by rw [w64 (by omega) (by omega)]; omega
  have hmu1 : p - (i + 1) < p - i := by omega
  have f1 := far hid
  have b1 : (i + 1) * 8 ≤ 140737488355328 := by omega
  have hnx : (List.replicate (i + 1) (-1 : Int)).map (V.int .i64) = (List.replicate i (-1 : Int)).map (V.int .i64) ++ [.int .i64 (-1)] := by rw [List.replicate_succ',List.map_append]; rfl
  have hrl : ((List.replicate i (-1 : Int)).map (V.int .i64)).length = i := by simp
  obtain ⟨xs,hxs⟩ : ∃ xs,(List.replicate i (-1 : Int)).map (V.int .i64) = xs := ⟨_,rfl⟩
  rw [hxs] at hm hnx hrl
  have b2 : (xs.length + 1) * 8 ≤ 140737488355328 := by omega
  simp -dsimp [t0,t3,t4,hlt,hm,hmu,f1,b1,b2,hrl,wi,hmu1,nes]
  refine st_out fun s' ht hm' hn' hu' => ?_
  have a0 := ht 0
  have a3 := ht 3
  have a4 := ht 4
  simp -dsimp [t0] at a0 a3 a4 hm' hn' hu'
  clear ht
  refine ⟨i + 1,_,a0,a3,by omega,by rw [hu',hmu], ?_,a4,by omega,by simp⟩
  rw [hnx]; simp [hm',nes]
 ·rintro s ⟨i,id,t0,t3,hid,hmu,hm,t4,hi,hend⟩
  have := hend rfl
  subst this
  simp -dsimp [t3,hm,numsV]
/-! Texts. -/
theorem l11Text_fn (p : Nat) (l : List Claim) (t : List Mark) (hp : p ≤ 4) (hl : l.length ≤ 6) : ∀ (y : PT) (k world : Nat) (pre post : List Sp) (F : Int) (R : List Sp),okT p l t y k world → y.size ≤ 15 → pre.length + y.size ≤ 1000 → R = pre ++ y.row pre.length ++ post →
  FnZ Tryz.prog 113 [.agg [.int .i64 F,spsV R],.int .i64 (y.to pre.length)] (.str y.tx)
 | .goal,k,world,pre,post,F,R,h,hs,hpr,hR => by
  have e1 : PT.goal.to pre.length = -1 := rfl
  have e2 : PT.goal.tx = [42] := rfl
  rw [e1,e2]
  refine FnZ_of (rs := [.tmp 4]) false Tryz.func113 rfl rfl rfl rfl (Nat.le_of_ble_eq_true rfl) ?_
  simp -dsimp [spsV]
 | .claim i,k,world,pre,post,F,R,h,hs,hpr,hR => by
  have hi := h.1
  have e1 : (PT.claim i).to pre.length = -2 - (i : Int) := rfl
  have e2 : (PT.claim i).tx = dec i := rfl
  have hit := l1Number2_fn (i : Int) (by omega) (by omega)
  have c1 : ¬ (-2 - (i : Int) = -1) := by omega
  have c2 : -2 - (i : Int) < 0 := by omega
  have w1 : IntKind.wrap .i64 (-2 - (-2 - (i : Int))) = (i : Int) := by rw [w64 (by omega) (by omega)]; omega
  rw [e1,e2]
  generalize dec (i : Int) = D at *
  generalize hX : -2 - (i : Int) = X at *
  refine FnZ_of (rs := [.tmp 4]) false Tryz.func113 rfl rfl rfl rfl (Nat.le_of_ble_eq_true rfl) ?_
  simp -dsimp [spsV,c1,c2,w1]
  refine call_ hit (by simp -dsimp) ?_
  simp -dsimp
 | .split who a b,k,world,pre,post,F,R,h,hs,hpr,hR => by
  obtain ⟨hk,hkp,ha,hb⟩ := h
  have la := tx_len (by omega) a _ _ ha
  have lb := tx_len (by omega) b _ _ hb
  simp only [PT.size] at hs hpr
  subst hk
  have ia := l11Text_fn p l t hp hl a (who + 1) world (pre ++ [⟨who,a.to (pre.length + 1),b.to (pre.length + 1 + a.size)⟩]) (b.row (pre.length + 1 + a.size) ++ post) F R ha (by omega) (by simp only [List.length_append,List.length_cons,List.length_nil]; omega) (by rw [hR]; simp [PT.row,List.append_assoc])
  have ib := l11Text_fn p l t hp hl b (who + 1) (world + 2 ^ who) (pre ++ [⟨who,a.to (pre.length + 1),b.to (pre.length + 1 + a.size)⟩] ++ a.row (pre.length + 1)) post F R hb (by omega) (by simp only [List.length_append,List.length_cons,List.length_nil,PT.row_len]; omega) (by rw [hR]; simp [PT.row,PT.row_len,List.append_assoc]; congr 1; omega)
  have e3 : (pre ++ [(⟨who,a.to (pre.length + 1),b.to (pre.length + 1 + a.size)⟩ : Sp)]).length = pre.length + 1 := by simp
  have e4 : (pre ++ [(⟨who,a.to (pre.length + 1),b.to (pre.length + 1 + a.size)⟩ : Sp)] ++ a.row (pre.length + 1)).length = pre.length + 1 + a.size := by simp [PT.row_len]; omega
  rw [e3] at ia
  rw [e4] at ib
  have hget : (R.map Sp.v)[pre.length]? = some (Sp.v ⟨who,a.to (pre.length + 1),b.to (pre.length + 1 + a.size)⟩) := by
   rw [hR]; simp [PT.row,Sp.v]
  have e5 : (PT.split who a b).to pre.length = (pre.length : Int) := rfl
  have e6 : (PT.split who a b).tx = UInt8.ofNat (97 + who) :: 40 :: (a.tx ++ 44 :: (b.tx ++ [41])) := rfl
  rw [e5,e6]
  obtain ⟨TA,hTA⟩ : ∃ TA,a.to (pre.length + 1) = TA := ⟨_,rfl⟩
  obtain ⟨TB,hTB⟩ : ∃ TB,b.to (pre.length + 1 + a.size) = TB := ⟨_,rfl⟩
  rw [hTA] at ia hget
  rw [hTB] at ib hget
  obtain ⟨xa,hxa⟩ : ∃ xa,a.tx = xa := ⟨_,rfl⟩
  obtain ⟨xb,hxb⟩ : ∃ xb,b.tx = xb := ⟨_,rfl⟩
  rw [hxa] at ia la ⊢
  rw [hxb] at ib lb ⊢
  obtain ⟨rowV,hrow⟩ : ∃ rowV,R.map Sp.v = rowV := ⟨_,rfl⟩
  have es : spsV R = .sl rowV := by rw [← hrow]; rfl
  rw [hrow] at hget
  rw [es] at ia ib ⊢
  have hcell : ∀ x y z : Int,(Sp.v ⟨x,y,z⟩).cells = [.int .i64 x,.int .i64 y,.int .i64 z] := fun _ _ _ => rfl
  obtain ⟨N,hN⟩ : ∃ N,pre.length = N := ⟨_,rfl⟩
  rw [hN] at hget ⊢
  have z1 : ¬ (N : Int) = -1 := by omega
  have z2 : ¬ (N : Int) < 0 := by omega
  have b1 : (1 + 1 + xa.length : Int) ≤ 9223372036854775807 := by omega
  have b5 : (2 + xa.length : Int) ≤ 9223372036854775807 := by omega
  have b6 : (2 + (xa.length + 1) : Int) ≤ 9223372036854775807 := by omega
  have b7 : (2 + (xa.length + 1 + xb.length) : Int) ≤ 9223372036854775807 := by omega
  have b8 : (2 + (xa.length + (1 + xb.length)) : Int) ≤ 9223372036854775807 := by omega
  have b9 : (2 + (xa.length + (xb.length + 1)) : Int) ≤ 9223372036854775807 := by omega
  have b10 : (2 + (xa.length + (xb.length + 1)) + 1 : Int) ≤ 9223372036854775807 := by omega
  have b11 : (2 + (xa.length + (xb.length + 1 + 1)) : Int) ≤ 9223372036854775807 := by omega
  have b12 : (2 + xa.length + 1 : Int) ≤ 9223372036854775807 := by omega
  have b13 : (2 + (xa.length + 1) + xb.length : Int) ≤ 9223372036854775807 := by omega
  have b14 : (2 + (xa.length + (xb.length + 2)) : Int) ≤ 9223372036854775807 := by omega
  have b2 : (1 + 1 + xa.length + 1 : Int) ≤ 9223372036854775807 := by omega
  have b3 : (1 + 1 + xa.length + 1 + xb.length : Int) ≤ 9223372036854775807 := by omega
  have b4 : (1 + 1 + xa.length + 1 + xb.length + 1 : Int) ≤ 9223372036854775807 := by omega
  have d0 : ((xa.length + 1 + 1 + 1 : Nat) : Int) ≤ 9223372036854775807 := by omega
  have d1 : ((xa.length + 1 + 1 + 1 + xb.length : Nat) : Int) ≤ 9223372036854775807 := by omega
  have d2 : ((xa.length + (xb.length + 1) + 1 + 1 : Nat) : Int) ≤ 9223372036854775807 := by omega
  have d3 : ((xa.length + (xb.length + 1) + 1 + 1 + 1 : Nat) : Int) ≤ 9223372036854775807 := by omega
  have d4 : ((xa.length + (xb.length + 1 + 1) + 1 + 1 : Nat) : Int) ≤ 9223372036854775807 := by omega
  have d5 : ((xa.length + 1 + 1 + 1 + xb.length + 1 : Nat) : Int) ≤ 9223372036854775807 := by omega
  have d6 : ((xa.length + 1 + 1 : Nat) : Int) ≤ 9223372036854775807 := by omega
  have d7 : ((xa.length + (1 + xb.length) + 1 + 1 : Nat) : Int) ≤ 9223372036854775807 := by omega
  have d8 : ((xa.length + (xb.length + (1 + 1)) + 1 + 1 : Nat) : Int) ≤ 9223372036854775807 := by omega
  simp only [Int.natCast_add,Int.natCast_one] at d0 d1 d2 d3 d4 d5 d6 d7 d8
  clear hTA hTB hxa hxb hrow hR e3 e4 e5 e6 es
  have hwho : who = 0 ∨ who = 1 ∨ who = 2 ∨ who = 3 := by omega
  rcases hwho with rfl | rfl | rfl | rfl
  all_goals
   refine FnZ_of (rs := [.tmp 4]) false Tryz.func113 rfl rfl rfl rfl (Nat.le_of_ble_eq_true rfl) ?_
   simp -dsimp [z1,z2,hget,hcell]
   refine twp_draw [0,1,2,3,4,5,6,7,8,9,13,14,15,10,11,12,16,17,18,19] [0,1] (List.replicate 20 [0,1]) (List.replicate 20 [0,1]) (by kernel_rfl) (by kernel_rfl) (by kernel_rfl) (by kernel_rfl) ?_
   simp -dsimp [z1,z2,hget,hcell,show IntKind.wrap .i64 1 = 1 from rfl,show IntKind.wrap .i64 2 = 2 from rfl,show IntKind.wrap .i64 3 = 3 from rfl,show IntKind.wrap .i64 4 = 4 from rfl]
   refine call_ ia (by simp -dsimp) ?_
   simp -dsimp [b1,b2,b3,b4,b5,b6,b7,b8,b9,b10,b11,b12,b13,b14,d0,d1,d2,d3,d4,d5,d6,d7,d8]
   refine call_ ib (by simp -dsimp) ?_
   simp -dsimp [b1,b2,b3,b4,b5,b6,b7,b8,b9,b10,b11,b12,b13,b14,d0,d1,d2,d3,d4,d5,d6,d7,d8]
/-! Each split is come to once. -/
theorem tgs_at {R : List Sp} {i : Nat} (h : i < R.length) : tgs R = tgs (R.take i) ++ ([R[i].no,R[i].yes] ++ tgs (R.drop (i + 1))) := by
 have e : R = R.take i ++ R[i] :: R.drop (i + 1) := by rw [← drop_cons h,List.take_append_drop]
 have e2 : tgs R = tgs (R.take i ++ R[i] :: R.drop (i + 1)) := congrArg tgs e
 rw [e2]
 unfold tgs
 rw [List.flatMap_append,List.flatMap_cons]; rfl
theorem tgs_succ {R : List Sp} {i : Nat} (h : i < R.length) : tgs (R.take (i + 1)) = tgs (R.take i) ++ [R[i].no,R[i].yes] := by
 rw [List.take_succ_eq_append_getElem h]
 unfold tgs
 rw [List.flatMap_append]; simp [Sp.tg]
/-- What stands of a split's targets ahead of a side. -/
def side2 (x : Sp) : Nat → List Int
 | 0 => []
 | 1 => [x.no]
 | _ => [x.no,x.yes]
def Ion1 (F : Int) (R : List Sp) (e : Nat) (s : S) : Prop := ∃ i : Nat,s.tm 1 = .ptr 0 0 ∧ s.m 0 = some (.box 89 2 [.v (.int .i64 F),.v (spsV R)]) ∧ s.tm 3 = .sv 1 0 R.length ∧ s.m 1 = some (.box 4 1 (bsT (seenL R.length (tgs (R.take i))))) ∧ s.tm 4 = .v (.int .i64 i) ∧ i ≤ R.length ∧ s.mu = true ∧ 2 ≤ s.n ∧ (e = 1 → i = R.length)
def Ion2 (F : Int) (R : List Sp) (i : Nat) (x : Sp) (P : List Int) (e : Nat) (s : S) : Prop := ∃ j : Nat,s.tm 1 = .ptr 0 0 ∧ s.m 0 = some (.box 89 2 [.v (.int .i64 F),.v (spsV R)]) ∧ s.tm 3 = .sv 1 0 R.length ∧ s.m 1 = some (.box 4 1 (bsT (seenL R.length (P ++ side2 x j)))) ∧ s.tm 4 = .v (.int .i64 i) ∧ s.tm 5 = .v (.int .i64 j) ∧ j ≤ 2 ∧ s.mu = true ∧ 2 ≤ s.n ∧ (e = 1 → j = 2)
theorem l11Once_fn (F : Int) (R : List Sp) (hR : R.length ≤ 1000) (ho : onceT (tgs R)) (hf : ∀ x ∈ tgs R,x < R.length) : FnZ Tryz.prog 158 [.agg [.int .i64 F,spsV R]] (.bool true) := by
 have b1 : (R.length : Int) ≤ 281474976710656 := by omega
 have b2 : (R.length : Int) ≤ 9223372036854775807 := by omega
 have b3 : (0 : Int) ≤ R.length := by omega
 have e0 : List.replicate R.length (T.v (.bool false)) = bsT (seenL R.length (tgs [])) := by
  refine (List.eq_replicate_iff.2 ⟨by simp [seenL_len],fun x hx => ?_⟩).symm
  obtain ⟨b,hb,rfl⟩ := List.mem_map.1 hx
  obtain ⟨j,_,rfl⟩ := List.mem_map.1 hb
  simp [tgs]
 refine FnZ_of (rs := [.tmp 2]) true Tryz.func158 rfl rfl rfl rfl (Nat.le_of_ble_eq_true rfl) ?_
 simp -dsimp [spsV,b1,b2,b3]
 refine twp_loopC (Ion1 F R 0) (fun s => R.length - natOf (s.tm 4)) (Ion1 F R 1) ?_ ?_ ?_
 ·exact ⟨0,by simp -dsimp,by simp -dsimp [spsV],by simp -dsimp,by simp -dsimp [e0],by simp -dsimp,by omega,by simp -dsimp,by simp -dsimp,by simp⟩
 ·rintro s ⟨i,t1,m0,t3,m1,t4,hi,hmu,hn,hend⟩
  by_cases hlt : i < R.length
  case neg =>
   simp -dsimp [t1,m0,t4,hlt,spsV]
   exact ⟨i,by simp -dsimp [t1],by simp -dsimp [m0],by simp -dsimp [t3],by simp -dsimp [m1],by simp -dsimp [t4],hi,by simp -dsimp [hmu],by simp -dsimp [hn],fun _ => by omega⟩
  have wi : IntKind.wrap .i64 ((i : Int) + 1) = ((i + 1 : Nat) : Int) := by rw [w64 (by omega) (by omega)]; omega
  have hmu1 : R.length - (i + 1) < R.length - i := by omega
  have hget : (R.map Sp.v)[i]? = some (Sp.v R[i]) := by simp [hlt]
  have hta := tgs_at hlt
  have hts := tgs_succ hlt
  have hlti : (i : Int) < R.length := by omega
  obtain ⟨x,hx⟩ : ∃ x,R[i] = x := ⟨_,rfl⟩
  rw [hx] at hget hta hts
  obtain ⟨P,hP⟩ : ∃ P,tgs (R.take i) = P := ⟨_,rfl⟩
  rw [hP] at hta hts m1
  have hfx : ∀ z ∈ [x.no,x.yes],z < R.length := fun z hz => hf z (by rw [hta]; simp only [List.mem_append]; exact .inr (.inl hz))
  have hno := hfx x.no (by simp)
  have hye := hfx x.yes (by simp)
  have hn1 : 0 ≤ x.no → x.no ∉ P := fun h0 => once_next (post := x.yes :: tgs (R.drop (i + 1))) (by rw [hta] at ho; exact ho) h0
  have hn2 : 0 ≤ x.yes → x.yes ∉ P ++ [x.no] := fun h0 => once_next (post := tgs (R.drop (i + 1))) (by rw [hta] at ho; simpa using ho) h0
  obtain ⟨w,xn,xy⟩ := x
  simp only at hno hye hn1 hn2
  have hcell : (Sp.v ⟨w,xn,xy⟩).cells = [.int .i64 w,.int .i64 xn,.int .i64 xy] := rfl
  have hvv : Sp.v ⟨w,xn,xy⟩ = .agg [.int .i64 w,.int .i64 xn,.int .i64 xy] := rfl
  obtain ⟨rv,hrv⟩ : ∃ rv,R.map Sp.v = rv := ⟨_,rfl⟩
  have es : spsV R = .sl rv := by rw [← hrv]; rfl
  have erl : rv.length = R.length := by rw [← hrv]; simp
  rw [hrv] at hget
  rw [es] at m0
  have hltv : i < rv.length := by omega
  have hgv : rv[i] = Sp.v ⟨w,xn,xy⟩ := by rw [List.getElem?_eq_getElem hltv] at hget; exact Option.some.inj hget
  clear ho hf hfx hta
  simp -dsimp [t1,m0,t4,hlt,hlti,erl]
  refine twp_loopB (Ion2 F R i ⟨w,xn,xy⟩ P 0) (fun s => 2 - natOf (s.tm 5)) (Ion2 F R i ⟨w,xn,xy⟩ P 1) ?_ ?_ ?_
  ·exact ⟨0,by simp -dsimp [t1],by simp -dsimp [m0,es],by simp -dsimp [t3],by simp -dsimp [m1,side2],by simp -dsimp [t4],by simp -dsimp,by omega,by simp -dsimp [hmu],by simp -dsimp [hn],by simp⟩
  ·rintro s2 ⟨j,u1,um0,u3,um1,u4,u5,hj,umu,un,hend2⟩
   rw [es] at um0
   by_cases hj2 : j = 2
   ·simp -dsimp [u5,hj2]
    exact ⟨2,by simp -dsimp [u1],by simp -dsimp [um0,es],by simp -dsimp [u3],by simp -dsimp [um1,hj2],by simp -dsimp [u4],by simp -dsimp [u5,hj2],by omega,by simp -dsimp [umu],by simp -dsimp [un],fun _ => rfl⟩
   by_cases hj0 : j = 0
   ·subst hj0
    simp only [side2,List.append_nil] at um1
    by_cases hx0 : xn < 0
    ·have hs := seenL_skip (n := R.length) (xs := P) hx0
     simp -dsimp [u1,um0,u4,u5,hlt,hltv,hlti,erl,hget,hgv,hcell,hvv,hx0,show IntKind.wrap .i64 1 = 1 from rfl,show IntKind.wrap .i64 2 = 2 from rfl]
     exact ⟨1,by simp -dsimp [u1],by simp -dsimp [um0,es],by simp -dsimp [u3],by simp -dsimp [um1,side2,hs],by simp -dsimp [u4],by simp -dsimp,by omega,by simp -dsimp [umu],(by simp -dsimp <;> omega),by simp⟩
    ·obtain ⟨q,rfl⟩ := Int.eq_ofNat_of_zero_le (show 0 ≤ xn by omega)
     have hq : q < R.length := by omega
     have hq' : (q : Int) < R.length := by omega
     have hq2 : ¬ (R.length : Int) ≤ q := by omega
     have hq3 : ¬ R.length ≤ q := by omega
     have hsg := seenL_get (xs := P) hq
     rw [decide_eq_false (hn1 (by omega))] at hsg
     have hst := seenL_set (xs := P) hq
     have hbg : (bsT (seenL R.length P))[q]? = some (.v (.bool false)) := by rw [bsT_get,hsg]; rfl
     have hbs : (bsT (seenL R.length P)).set q (.v (.bool true)) = bsT (seenL R.length (P ++ [(q : Int)])) := by rw [bsT_set,hst]
     have hbl : (bsT (seenL R.length P)).length = R.length := by simp [seenL_len]
     have z1 : ¬ (q : Int) < 0 := by omega
     have o1 : q + 1 ≤ R.length := by omega
     obtain ⟨c1,hc1⟩ : ∃ c1,bsT (seenL R.length P) = c1 := ⟨_,rfl⟩
     rw [hc1] at um1 hbg hbs hbl
     have hqc : q < c1.length := by omega
     rw [List.getElem?_eq_getElem hqc] at hbg
     have hbg := Option.some.inj hbg
     simp -dsimp [u1,um0,u3,um1,u4,u5,hlt,hltv,hlti,erl,hget,hgv,hcell,hvv,z1,hq,hq',hq2,hq3,hbg,hbs,hbl,setAt,o1,show IntKind.wrap .i64 1 = 1 from rfl,show IntKind.wrap .i64 2 = 2 from rfl]
     exact ⟨1,by simp -dsimp [u1],by simp -dsimp [um0,es],by simp -dsimp [u3],by simp -dsimp [side2],by simp -dsimp [u4],by simp -dsimp,by omega,by simp -dsimp [umu],(by simp -dsimp <;> omega),by simp⟩
   ·have hj1 : j = 1 := by omega
    subst hj1
    simp only [side2] at um1
    have hap : ∀ z : Int,P ++ [xn] ++ [z] = P ++ [xn,z] := fun z => by simp
    by_cases hx0 : xy < 0
    ·have hs := seenL_skip (n := R.length) (xs := P ++ [xn]) hx0
     rw [hap] at hs
     simp -dsimp [u1,um0,u4,u5,hlt,hltv,hlti,erl,hget,hgv,hcell,hvv,hx0,show IntKind.wrap .i64 1 = 1 from rfl,show IntKind.wrap .i64 2 = 2 from rfl]
     exact ⟨2,by simp -dsimp [u1],by simp -dsimp [um0,es],by simp -dsimp [u3],by simp -dsimp [um1,side2,hs],by simp -dsimp [u4],by simp -dsimp,by omega,by simp -dsimp [umu],(by simp -dsimp <;> omega),by simp⟩
    ·obtain ⟨q,rfl⟩ := Int.eq_ofNat_of_zero_le (show 0 ≤ xy by omega)
     have hq : q < R.length := by omega
     have hq' : (q : Int) < R.length := by omega
     have hq2 : ¬ (R.length : Int) ≤ q := by omega
     have hq3 : ¬ R.length ≤ q := by omega
     have hsg := seenL_get (xs := P ++ [xn]) hq
     rw [decide_eq_false (hn2 (by omega))] at hsg
     have hst := seenL_set (xs := P ++ [xn]) hq
     rw [hap] at hst
     have hbg : (bsT (seenL R.length (P ++ [xn])))[q]? = some (.v (.bool false)) := by rw [bsT_get,hsg]; rfl
     have hbs : (bsT (seenL R.length (P ++ [xn]))).set q (.v (.bool true)) = bsT (seenL R.length (P ++ [xn,(q : Int)])) := by rw [bsT_set,hst]
     have hbl : (bsT (seenL R.length (P ++ [xn]))).length = R.length := by simp [seenL_len]
     have z1 : ¬ (q : Int) < 0 := by omega
     have o1 : q + 1 ≤ R.length := by omega
     obtain ⟨c1,hc1⟩ : ∃ c1,bsT (seenL R.length (P ++ [xn])) = c1 := ⟨_,rfl⟩
     rw [hc1] at um1 hbg hbs hbl
     have hqc : q < c1.length := by omega
     rw [List.getElem?_eq_getElem hqc] at hbg
     have hbg := Option.some.inj hbg
     simp -dsimp [u1,um0,u3,um1,u4,u5,hlt,hltv,hlti,erl,hget,hgv,hcell,hvv,z1,hq,hq',hq2,hq3,hbg,hbs,hbl,setAt,o1,show IntKind.wrap .i64 1 = 1 from rfl,show IntKind.wrap .i64 2 = 2 from rfl]
     exact ⟨2,by simp -dsimp [u1],by simp -dsimp [um0,es],by simp -dsimp [u3],by simp -dsimp [side2],by simp -dsimp [u4],by simp -dsimp,by omega,by simp -dsimp [umu],(by simp -dsimp <;> omega),by simp⟩
  ·rintro s2 ⟨j,u1,um0,u3,um1,u4,u5,hj,umu,un,hend2⟩
   have := hend2 rfl
   subst this
   simp only [side2] at um1
   rw [← hts] at um1
   simp -dsimp [u4,wi,hmu1,t4]
   exact ⟨i + 1,by simp -dsimp [u1],by simp -dsimp [um0],by simp -dsimp [u3],by simp -dsimp [um1],by simp -dsimp,by omega,by simp -dsimp [umu],(by simp -dsimp <;> omega),by simp⟩
 ·rintro s ⟨i,t1,m0,t3,m1,t4,hi,hmu,hn,hend⟩
  simp -dsimp
end TL

namespace TL
open Go Go.Proofs
attribute [local simp] marksV storyV codeV Claim.v Place.v
def Ick (p : Nat) (l : List Claim) (t : List Mark) (F : Int) (rv : List V) (K : V) (N who : Nat) (TA TB : Int) (sa sb : Nat) (e : Nat) (s : S) : Prop := ∃ j : Nat,s.tm 0 = .v (.int .i64 p) ∧ s.tm 1 = .v (storyV l) ∧ s.tm 2 = .v (marksV t) ∧ s.tm 4 = .v (.int .i64 N) ∧ s.tm 5 = .v K ∧ s.tm 9 = .ptr 0 0 ∧ s.tm 14 = .ptr 1 0 ∧
 s.tm 15 = .v (.int .i64 ((1 + (if 1 ≤ j then sa else 0) + (if 2 ≤ j then sb else 0) : Nat) : Int)) ∧ s.tm 16 = .v (.int .i64 j) ∧ s.m 0 = some (.box 89 2 [.v (.int .i64 F),.v (.sl rv)]) ∧ s.m 1 = some (.box 153 3 [.v (.int .i64 who),.v (.int .i64 TA),.v (.int .i64 TB)]) ∧ j ≤ 2 ∧ s.mu = true ∧ 2 ≤ s.n ∧ (e = 1 → j = 2)
theorem checks_split (p : Nat) (l : List Claim) (t : List Mark) (h : storyOk p l = true) (F : Int) (rv : List V) (who N sa sb world : Nat) (TA TB : Int) (hkp : who < p) (hw : world < 2 ^ who) (hN : N < rv.length) (hlen : rv.length ≤ 1000) (hs : 1 + sa + sb ≤ 1000) (hget : rv[N]? = some (Sp.v ⟨who,TA,TB⟩))
  (hTA : TA < 0 ∨ ((N : Int) < TA ∧ TA < rv.length)) (hTB : TB < 0 ∨ ((N : Int) < TB ∧ TB < rv.length))
  (ia : FnZ Tryz.prog 157 [.int .i64 p,storyV l,marksV t,.agg [.int .i64 F,.sl rv],.int .i64 TA,numsV (knownR p (who + 1) world)] (.tup [.int .i64 (sa : Nat),.bool true]))
  (ib : FnZ Tryz.prog 157 [.int .i64 p,storyV l,marksV t,.agg [.int .i64 F,.sl rv],.int .i64 TB,numsV (knownR p (who + 1) (world + 2 ^ who))] (.tup [.int .i64 (sb : Nat),.bool true])) :
  FnZ Tryz.prog 157 [.int .i64 p,storyV l,marksV t,.agg [.int .i64 F,.sl rv],.int .i64 N,numsV (knownR p who world)] (.tup [.int .i64 ((1 + sa + sb : Nat) : Int),.bool true]) := by
 have h4 : p ≤ 4 := by have := (allOk_of h).2.1; omega
 have hin := l1In_fn (who : Int) 0 ((p - 1 : Nat) : Int)
 have hit : inR (who : Int) 0 ((p - 1 : Nat) : Int) = true := (inR_true ..).2 (by omega)
 rw [hit] at hin
 have w1 : IntKind.wrap .i64 ((p : Int) - 1) = ((p - 1 : Nat) : Int) := by rw [w64 (by omega) (by omega)]; omega
 have z1 : ¬ (N : Int) < 0 := by omega
 have z2 : ¬ (who : Int) < 0 := by omega
 have hNi : (N : Int) < rv.length := by omega
 have hcell : ∀ x y z : Int,(Sp.v ⟨x,y,z⟩).cells = [.int .i64 x,.int .i64 y,.int .i64 z] := fun _ _ _ => rfl
 have hgv : rv[N] = Sp.v ⟨who,TA,TB⟩ := by rw [List.getElem?_eq_getElem hN] at hget; exact Option.some.inj hget
 have hkl := knownR_len p who world
 have hkg := knownR_get (k := who) (world := world) hkp
 rw [if_neg (by omega)] at hkg
 have hno := knownR_no hkp hw
 have hyes := knownR_yes hkp hw
 have hmv : (knownR p who world).map (V.int .i64) = (knownR p who world).map (V.int .i64) := rfl
 have e0 : numsV (knownR p who world) = .sl ((knownR p who world).map (V.int .i64)) := rfl
 have hkl2 : ((knownR p who world).map (V.int .i64)).length = p := by simp [hkl]
 have hkg2 : ((knownR p who world).map (V.int .i64))[who]? = some (.int .i64 (-1)) := by rw [List.getElem?_map,hkg]; rfl
 have hmt : ((knownR p who world).map (V.int .i64)).flatMap (fun x => x.cells.map T.v) = intsT (knownR p who world) := by
  rw [List.flatMap_map]; unfold intsT; induction knownR p who world with
  | nil => rfl
  | cons x xs ih => simp [V.cells] at ih ⊢; exact ih
 have hzK : allZ 1 ((knownR p who world).map (V.int .i64)) := by
  intro x hx; obtain ⟨b,_,rfl⟩ := List.mem_map.1 hx; simp [V.cells,V.cell]
 have st0 : (intsT (knownR p who world)).set who (.v (.int .i64 0)) = intsT (knownR p (who + 1) world) := by rw [intsT_set,hno]
 have st1 : (intsT (knownR p who world)).set who (.v (.int .i64 1)) = intsT (knownR p (who + 1) (world + 2 ^ who)) := by rw [intsT_set,hyes]
 have hbr0 := fun (m : Mem) (i d : Nat) (hm : m i = some (.box 3 1 (intsT (knownR p (who + 1) world)))) => bor_ints (m := m) (p := p) d hm (knownR_len ..)
 have hbr1 := fun (m : Mem) (i d : Nat) (hm : m i = some (.box 3 1 (intsT (knownR p (who + 1) (world + 2 ^ who))))) => bor_ints (m := m) (p := p) d hm (knownR_len ..)
 have itl : (intsT (knownR p who world)).length = p := by simp [hkl]
 have al1 : allC (intsT (knownR p who world)) := intsT_allC _
 rw [e0]
 obtain ⟨c0,hc0⟩ : ∃ c0,intsT (knownR p who world) = c0 := ⟨_,rfl⟩
 obtain ⟨c1,hc1⟩ : ∃ c1,intsT (knownR p (who + 1) world) = c1 := ⟨_,rfl⟩
 obtain ⟨c2,hc2⟩ : ∃ c2,intsT (knownR p (who + 1) (world + 2 ^ who)) = c2 := ⟨_,rfl⟩
 obtain ⟨K1,hK1⟩ : ∃ K1,numsV (knownR p (who + 1) world) = K1 := ⟨_,rfl⟩
 obtain ⟨K2,hK2⟩ : ∃ K2,numsV (knownR p (who + 1) (world + 2 ^ who)) = K2 := ⟨_,rfl⟩
 obtain ⟨K,hK⟩ : ∃ K,(knownR p who world).map (V.int .i64) = K := ⟨_,rfl⟩
 rw [hc0] at hmt st0 st1 itl al1
 rw [hc1] at st0
 rw [hc2] at st1
 simp only [hc1,hK1] at hbr0
 simp only [hc2,hK2] at hbr1
 rw [hK1] at ia
 rw [hK2] at ib
 rw [hK] at hkl2 hkg2 hmt hzK ⊢
 have hbrA : ∀ (m : Mem) (i : Nat),m i = some (.box 3 1 c1) → bor true m 4 (.sv i 0 p) = some K1 := fun m i hm => hbr0 m i 3 hm
 have hbrB : ∀ (m : Mem) (i : Nat),m i = some (.box 3 1 c2) → bor true m 4 (.sv i 0 p) = some K2 := fun m i hm => hbr1 m i 3 hm
 have hwK : who < K.length := by omega
 have hkgK : K[who] = .int .i64 (-1) := by rw [List.getElem?_eq_getElem hwK] at hkg2; exact Option.some.inj hkg2
 have hwi : (who : Int) < p := by omega
 have o1 : who + 1 ≤ p := hkp
 have b3 : p * 8 ≤ 140737488355328 := by omega
 clear hbr0 hbr1 hc0 hc1 hc2 hK1 hK2 hK hno hyes hkg hkl e0 hmv
 refine FnZ_of (rs := [.tmp 12,.tmp 13]) true Tryz.func157 rfl rfl rfl rfl (Nat.le_of_ble_eq_true rfl) ?_
 simp -dsimp [z1,hN,hNi,hgv,hcell,w1]
 refine call_ hin (by simp -dsimp) ?_
 simp -dsimp [z2,hwi,hkl2,hkgK,hwK,hkp]
 refine twp_loopC (Ick p l t F rv (.sl K) N who TA TB sa sb 0) (fun s => 2 - natOf (s.tm 16)) (Ick p l t F rv (.sl K) N who TA TB sa sb 1) ?_ ?_ ?_
 ·exact ⟨0,by simp -dsimp,by simp -dsimp,by simp -dsimp,by simp -dsimp,by simp -dsimp,by simp -dsimp,by simp -dsimp,by simp -dsimp,by simp -dsimp,by simp -dsimp,by simp -dsimp,by omega,by simp -dsimp,by simp -dsimp,by simp⟩
 ·rintro s ⟨j,t0,t1,t2,t4,t5,t9,t14,t15,t16,m0,m1,hj,hmu,hn,hend⟩
  have f0 := far (show 0 < s.n by omega)
  have f1 := far (show 1 < s.n by omega)
  by_cases hj2 : j = 2
  ·simp -dsimp [t16,hj2]
   exact ⟨2,by simp -dsimp [t0],by simp -dsimp [t1],by simp -dsimp [t2],by simp -dsimp [t4],by simp -dsimp [t5],by simp -dsimp [t9],by simp -dsimp [t14],by simp -dsimp [t15,hj2],by simp -dsimp [t16,hj2],by simp -dsimp [m0],by simp -dsimp [m1],by omega,by simp -dsimp [hmu],by simp -dsimp [hn],fun _ => rfl⟩
  by_cases hj0 : j = 0
  ·subst hj0
   have t15 : s.tm 15 = .v (.int .i64 1) := by rw [t15]; rfl
   have wq : IntKind.wrap .i64 (1 + (sa : Int)) = ((1 + sa : Nat) : Int) := by rw [w64 (by omega) (by omega)]; omega
   have fin : ∀ s' : S,s'.tm 0 = .v (.int .i64 p) → s'.tm 1 = .v (storyV l) → s'.tm 2 = .v (marksV t) → s'.tm 4 = .v (.int .i64 N) → s'.tm 5 = .v (.sl K) → s'.tm 9 = .ptr 0 0 → s'.tm 14 = .ptr 1 0 → s'.tm 15 = .v (.int .i64 ((1 + sa : Nat) : Int)) → s'.tm 16 = .v (.int .i64 1) → s'.m 0 = some (.box 89 2 [.v (.int .i64 F),.v (.sl rv)]) → s'.m 1 = some (.box 153 3 [.v (.int .i64 who),.v (.int .i64 TA),.v (.int .i64 TB)]) → s'.mu = true → 2 ≤ s'.n → Ick p l t F rv (.sl K) N who TA TB sa sb 0 s' :=
    fun s' a0 a1 a2 a4 a5 a9 a14 a15 a16 am0 am1 amu an => ⟨1,a0,a1,a2,a4,a5,a9,a14,by rw [a15]; simp,a16,am0,am1,by omega,amu,an,by simp⟩
   rcases hTA with hTA | ⟨hT1,hT2⟩
   ·have zt : ¬ (0 : Int) ≤ TA := by omega
    simp -dsimp [t0,t1,t2,t4,t5,t9,t14,t15,t16,m0,m1,f0,f1,hmu,hzK,hmt,hkl2,itl,al1,b3,hkp,hwi,o1,z2,setAt,nes,zt,st0]
    refine callM_ ia (by simp -dsimp [t0,t1,t2,t4,t5,t9,t14,t15,t16,m0,m1,f0,f1,hmu,hzK,hmt,hkl2,itl,al1,b3,hkp,hwi,o1,z2,setAt,nes,hbrA]) rfl ?_
    simp -dsimp [t0,t1,t2,t4,t5,t9,t14,t15,t16,m0,m1,f0,f1,hmu,hzK,hmt,hkl2,itl,al1,b3,hkp,hwi,o1,z2,setAt,nes,zt,st0,wq,show IntKind.wrap .i64 1 = 1 from rfl,show IntKind.wrap .i64 2 = 2 from rfl]
    refine st_out (I := Ick p l t F rv (.sl K) N who TA TB sa sb 0) fun s' ht hm' hn' hu' => ?_
    have a0 := ht 0
    have a1 := ht 1
    have a2 := ht 2
    have a4 := ht 4
    have a5 := ht 5
    have a9 := ht 9
    have a14 := ht 14
    have a15 := ht 15
    have a16 := ht 16
    simp -dsimp [t0,t1,t2,t4,t5,t9,t14,wq,show IntKind.wrap .i64 1 = 1 from rfl,show IntKind.wrap .i64 2 = 2 from rfl] at a0 a1 a2 a4 a5 a9 a14 a15 a16 hm' hn' hu'
    clear ht
    exact fin s' a0 a1 a2 a4 a5 a9 a14 (by rw [a15]; first | rfl | simp) (by rw [a16]) (by rw [hm']; simp [f0,m0,show ¬ s.n = 0 by omega]) (by rw [hm']; simp [f1,m1,show ¬ s.n = 1 by omega,show ¬ s.n = 0 by omega]) (by rw [hu',hmu]) (by omega)
   ·have zt : (0 : Int) ≤ TA := by omega
    have zu : ¬ TA ≤ N := by omega
    have zv : ¬ (rv.length : Int) ≤ TA := by omega
    simp -dsimp [t0,t1,t2,t4,t5,t9,t14,t15,t16,m0,m1,f0,f1,hmu,hzK,hmt,hkl2,itl,al1,b3,hkp,hwi,o1,z2,setAt,nes,zt,zu,zv,st0]
    refine callM_ ia (by simp -dsimp [t0,t1,t2,t4,t5,t9,t14,t15,t16,m0,m1,f0,f1,hmu,hzK,hmt,hkl2,itl,al1,b3,hkp,hwi,o1,z2,setAt,nes,hbrA]) rfl ?_
    simp -dsimp [t0,t1,t2,t4,t5,t9,t14,t15,t16,m0,m1,f0,f1,hmu,hzK,hmt,hkl2,itl,al1,b3,hkp,hwi,o1,z2,setAt,nes,zt,zu,zv,st0,wq,show IntKind.wrap .i64 1 = 1 from rfl,show IntKind.wrap .i64 2 = 2 from rfl]
    refine st_out (I := Ick p l t F rv (.sl K) N who TA TB sa sb 0) fun s' ht hm' hn' hu' => ?_
    have a0 := ht 0
    have a1 := ht 1
    have a2 := ht 2
    have a4 := ht 4
    have a5 := ht 5
    have a9 := ht 9
    have a14 := ht 14
    have a15 := ht 15
    have a16 := ht 16
    simp -dsimp [t0,t1,t2,t4,t5,t9,t14,wq,show IntKind.wrap .i64 1 = 1 from rfl,show IntKind.wrap .i64 2 = 2 from rfl] at a0 a1 a2 a4 a5 a9 a14 a15 a16 hm' hn' hu'
    clear ht
    exact fin s' a0 a1 a2 a4 a5 a9 a14 (by rw [a15]; first | rfl | simp) (by rw [a16]) (by rw [hm']; simp [f0,m0,show ¬ s.n = 0 by omega]) (by rw [hm']; simp [f1,m1,show ¬ s.n = 1 by omega,show ¬ s.n = 0 by omega]) (by rw [hu',hmu]) (by omega)
  ·have hj1 : j = 1 := by omega
   subst hj1
   have t15 : s.tm 15 = .v (.int .i64 ((1 + sa : Nat) : Int)) := by rw [t15]; rfl
   have wq : IntKind.wrap .i64 (1 + (sa : Int) + (sb : Int)) = ((1 + sa + sb : Nat) : Int) := by rw [w64 (by omega) (by omega)]; omega
   have fin : ∀ s' : S,s'.tm 0 = .v (.int .i64 p) → s'.tm 1 = .v (storyV l) → s'.tm 2 = .v (marksV t) → s'.tm 4 = .v (.int .i64 N) → s'.tm 5 = .v (.sl K) → s'.tm 9 = .ptr 0 0 → s'.tm 14 = .ptr 1 0 → s'.tm 15 = .v (.int .i64 ((1 + sa + sb : Nat) : Int)) → s'.tm 16 = .v (.int .i64 2) → s'.m 0 = some (.box 89 2 [.v (.int .i64 F),.v (.sl rv)]) → s'.m 1 = some (.box 153 3 [.v (.int .i64 who),.v (.int .i64 TA),.v (.int .i64 TB)]) → s'.mu = true → 2 ≤ s'.n → Ick p l t F rv (.sl K) N who TA TB sa sb 0 s' :=
    fun s' a0 a1 a2 a4 a5 a9 a14 a15 a16 am0 am1 amu an => ⟨2,a0,a1,a2,a4,a5,a9,a14,by rw [a15]; simp,a16,am0,am1,by omega,amu,an,by simp⟩
   rcases hTB with hTB | ⟨hT1,hT2⟩
   ·have zt : ¬ (0 : Int) ≤ TB := by omega
    simp -dsimp [t0,t1,t2,t4,t5,t9,t14,t15,t16,m0,m1,f0,f1,hmu,hzK,hmt,hkl2,itl,al1,b3,hkp,hwi,o1,z2,setAt,nes,zt,st1]
    refine callM_ ib (by simp -dsimp [t0,t1,t2,t4,t5,t9,t14,t15,t16,m0,m1,f0,f1,hmu,hzK,hmt,hkl2,itl,al1,b3,hkp,hwi,o1,z2,setAt,nes,hbrB]) rfl ?_
    simp -dsimp [t0,t1,t2,t4,t5,t9,t14,t15,t16,m0,m1,f0,f1,hmu,hzK,hmt,hkl2,itl,al1,b3,hkp,hwi,o1,z2,setAt,nes,zt,st1,wq,show IntKind.wrap .i64 1 = 1 from rfl,show IntKind.wrap .i64 2 = 2 from rfl]
    refine st_out (I := Ick p l t F rv (.sl K) N who TA TB sa sb 0) fun s' ht hm' hn' hu' => ?_
    have a0 := ht 0
    have a1 := ht 1
    have a2 := ht 2
    have a4 := ht 4
    have a5 := ht 5
    have a9 := ht 9
    have a14 := ht 14
    have a15 := ht 15
    have a16 := ht 16
    simp -dsimp [t0,t1,t2,t4,t5,t9,t14,wq,show IntKind.wrap .i64 1 = 1 from rfl,show IntKind.wrap .i64 2 = 2 from rfl] at a0 a1 a2 a4 a5 a9 a14 a15 a16 hm' hn' hu'
    clear ht
    exact fin s' a0 a1 a2 a4 a5 a9 a14 (by rw [a15]; first | rfl | simp) (by rw [a16]) (by rw [hm']; simp [f0,m0,show ¬ s.n = 0 by omega]) (by rw [hm']; simp [f1,m1,show ¬ s.n = 1 by omega,show ¬ s.n = 0 by omega]) (by rw [hu',hmu]) (by omega)
   ·have zt : (0 : Int) ≤ TB := by omega
    have zu : ¬ TB ≤ N := by omega
    have zv : ¬ (rv.length : Int) ≤ TB := by omega
    simp -dsimp [t0,t1,t2,t4,t5,t9,t14,t15,t16,m0,m1,f0,f1,hmu,hzK,hmt,hkl2,itl,al1,b3,hkp,hwi,o1,z2,setAt,nes,zt,zu,zv,st1]
    refine callM_ ib (by simp -dsimp [t0,t1,t2,t4,t5,t9,t14,t15,t16,m0,m1,f0,f1,hmu,hzK,hmt,hkl2,itl,al1,b3,hkp,hwi,o1,z2,setAt,nes,hbrB]) rfl ?_
    simp -dsimp [t0,t1,t2,t4,t5,t9,t14,t15,t16,m0,m1,f0,f1,hmu,hzK,hmt,hkl2,itl,al1,b3,hkp,hwi,o1,z2,setAt,nes,zt,zu,zv,st1,wq,show IntKind.wrap .i64 1 = 1 from rfl,show IntKind.wrap .i64 2 = 2 from rfl]
    refine st_out (I := Ick p l t F rv (.sl K) N who TA TB sa sb 0) fun s' ht hm' hn' hu' => ?_
    have a0 := ht 0
    have a1 := ht 1
    have a2 := ht 2
    have a4 := ht 4
    have a5 := ht 5
    have a9 := ht 9
    have a14 := ht 14
    have a15 := ht 15
    have a16 := ht 16
    simp -dsimp [t0,t1,t2,t4,t5,t9,t14,wq,show IntKind.wrap .i64 1 = 1 from rfl,show IntKind.wrap .i64 2 = 2 from rfl] at a0 a1 a2 a4 a5 a9 a14 a15 a16 hm' hn' hu'
    clear ht
    exact fin s' a0 a1 a2 a4 a5 a9 a14 (by rw [a15]; first | rfl | simp) (by rw [a16]) (by rw [hm']; simp [f0,m0,show ¬ s.n = 0 by omega]) (by rw [hm']; simp [f1,m1,show ¬ s.n = 1 by omega,show ¬ s.n = 0 by omega]) (by rw [hu',hmu]) (by omega)
 ·rintro s ⟨j,t0,t1,t2,t4,t5,t9,t14,t15,t16,m0,m1,hj,hmu,hn,hend⟩
  have := hend rfl
  subst this
  have t15 : s.tm 15 = .v (.int .i64 ((1 + sa + sb : Nat) : Int)) := by rw [t15]; rfl
  simp -dsimp [t15]
theorem checks_fn (p : Nat) (l : List Claim) (t : List Mark) (h : storyOk p l = true) (ht : termOk p t = true) (F : Int) (R : List Sp) (hR15 : R.length ≤ 1000) : ∀ (y : PT) (k world : Nat) (pre post : List Sp),okT p l t y k world → k ≤ p → world < 2 ^ k → R = pre ++ y.row pre.length ++ post →
  FnZ Tryz.prog 157 [.int .i64 p,storyV l,marksV t,.agg [.int .i64 F,spsV R],.int .i64 (y.to pre.length),numsV (knownR p k world)] (.tup [.int .i64 (y.size : Nat),.bool true])
 | .goal,k,world,pre,post,hy,hk,hw,hR => by
  have h6 := (allOk_of h).2.2.2
  have hcl := closesG_fn p l t h ht k world hk hw
  rw [show closG p t k world = true from hy] at hcl
  have e1 : PT.goal.to pre.length = -1 := rfl
  have e2 : PT.goal.size = 0 := rfl
  have w1 : IntKind.wrap .i64 (-2 - (l.length : Int)) = -2 - (l.length : Int) := w64 (by omega) (by omega)
  have c1 : -2 - (l.length : Int) ≤ -1 := by omega
  rw [e1,e2]
  obtain ⟨K,hK⟩ : ∃ K,(knownR p k world).map (V.int .i64) = K := ⟨_,rfl⟩
  obtain ⟨rv,hrv⟩ : ∃ rv,R.map Sp.v = rv := ⟨_,rfl⟩
  simp only [numsV,spsV,hK,hrv] at hcl ⊢
  refine FnZ_of (rs := [.tmp 12,.tmp 13]) true Tryz.func157 rfl rfl rfl rfl (Nat.le_of_ble_eq_true rfl) ?_
  simp -dsimp [w1,c1]
  refine call_ hcl (by simp -dsimp) ?_
  simp -dsimp
 | .claim i,k,world,pre,post,hy,hk,hw,hR => by
  have h6 := (allOk_of h).2.2.2
  have hi := hy.1
  have hcl := closesC_fn p l t h k world hk hw i hi
  rw [hy.2] at hcl
  have e1 : (PT.claim i).to pre.length = -2 - (i : Int) := rfl
  have e2 : (PT.claim i).size = 0 := rfl
  have w1 : IntKind.wrap .i64 (-2 - (l.length : Int)) = -2 - (l.length : Int) := w64 (by omega) (by omega)
  have c1 : -2 - (l.length : Int) ≤ -2 - (i : Int) := by omega
  have c2 : -2 - (i : Int) < 0 := by omega
  rw [e1,e2]
  obtain ⟨K,hK⟩ : ∃ K,(knownR p k world).map (V.int .i64) = K := ⟨_,rfl⟩
  obtain ⟨rv,hrv⟩ : ∃ rv,R.map Sp.v = rv := ⟨_,rfl⟩
  simp only [numsV,spsV,hK,hrv] at hcl ⊢
  obtain ⟨X,hX⟩ : ∃ X, -2 - (i : Int) = X := ⟨_,rfl⟩
  obtain ⟨Y,hY⟩ : ∃ Y, -2 - (l.length : Int) = Y := ⟨_,rfl⟩
  have w2 := w1.trans hY
  rw [hX] at hcl c1 c2 ⊢
  rw [hY] at c1
  refine FnZ_of (rs := [.tmp 12,.tmp 13]) true Tryz.func157 rfl rfl rfl rfl (Nat.le_of_ble_eq_true rfl) ?_
  simp -dsimp [w2,c1,c2]
  refine call_ hcl (by simp -dsimp) ?_
  simp -dsimp
 | .split who a b,k,world,pre,post,hy,hk,hw,hR => by
  obtain ⟨hwho,hkp,ha,hb⟩ := hy
  subst hwho
  have hlen : R.length = pre.length + (1 + a.size + b.size) + post.length := by rw [hR]; simp [PT.row_len,PT.size]; omega
  have e3 : (pre ++ [(⟨who,a.to (pre.length + 1),b.to (pre.length + 1 + a.size)⟩ : Sp)]).length = pre.length + 1 := by simp
  have e4 : (pre ++ [(⟨who,a.to (pre.length + 1),b.to (pre.length + 1 + a.size)⟩ : Sp)] ++ a.row (pre.length + 1)).length = pre.length + 1 + a.size := by rw [List.length_append,e3,PT.row_len]
  have ia := checks_fn p l t h ht F R hR15 a (who + 1) world (pre ++ [⟨who,a.to (pre.length + 1),b.to (pre.length + 1 + a.size)⟩]) (b.row (pre.length + 1 + a.size) ++ post) ha (by omega) (by rw [Nat.pow_succ]; omega) (by rw [hR]; simp [PT.row,List.append_assoc])
  have ib := checks_fn p l t h ht F R hR15 b (who + 1) (world + 2 ^ who) (pre ++ [⟨who,a.to (pre.length + 1),b.to (pre.length + 1 + a.size)⟩] ++ a.row (pre.length + 1)) post hb (by omega) (by rw [Nat.pow_succ]; omega) (by rw [hR]; simp [PT.row,PT.row_len,List.append_assoc]; congr 1; omega)
  rw [e3] at ia
  rw [e4] at ib
  have hget : (R.map Sp.v)[pre.length]? = some (Sp.v ⟨who,a.to (pre.length + 1),b.to (pre.length + 1 + a.size)⟩) := by
   rw [hR]; simp [PT.row,Sp.v]
  have hta := to_range a (pre.length + 1)
  have htb := to_range b (pre.length + 1 + a.size)
  have hml : (R.map Sp.v).length = R.length := by simp
  exact checks_split p l t h F (R.map Sp.v) who pre.length a.size b.size world _ _ hkp hw (by omega) (by omega) (by omega) hget (by rw [hml]; omega) (by rw [hml]; omega) ia ib
theorem proofOkS_fn (p : Nat) (l : List Claim) (t : List Mark) (h : storyOk p l = true) (ht : termOk p t = true) (y : PT) (hy : okT p l t y 0 0) (hs : y.size ≤ 15) : FnZ Tryz.prog 112 [.int .i64 p,storyV l,marksV t,proofV (some y)] (.bool true) := by
 obtain ⟨h1,h4,hc,h6⟩ := allOk_of h
 have hok := storyOkS_fn p l (by omega) fun c hx => (claim_fine (hc c hx)).1
 rw [h] at hok
 have hto := termOkS_fn p t (termOk_fits ht) (by have := (termOk_facts ht).2.2.1; omega)
 rw [ht] at hto
 have hrl := y.row_len 0
 have hno := l11Nothing_fn p (by omega)
 have hck := checks_fn p l t h ht (y.to 0) (y.row 0) (by omega) y 0 0 [] [] hy (by omega) (by simp) (by simp)
 rw [knownR_zero] at hck
 have hon := l11Once_fn (y.to 0) (y.row 0) (by omega) (onceT_row y 0) (tgs_fit y)
 have htr := to_range y 0
 have hz := to_zero y
 have hpv : proofV (some y) = .agg [.int .i64 (y.to 0),.sl ((y.row 0).map Sp.v)] := rfl
 have hml : ((y.row 0).map Sp.v).length = y.size := by rw [List.length_map,hrl]
 rw [hpv]
 obtain ⟨F,hF⟩ : ∃ F,y.to 0 = F := ⟨_,rfl⟩
 obtain ⟨rv,hrv⟩ : ∃ rv,(y.row 0).map Sp.v = rv := ⟨_,rfl⟩
 obtain ⟨K,hK⟩ : ∃ K,(List.replicate p (-1 : Int)).map (V.int .i64) = K := ⟨_,rfl⟩
 simp only [List.length_nil,spsV,numsV,hF,hrv,hK] at hck hon hno htr hz hml ⊢
 have b0 : ¬ (15 : Int) < rv.length := by omega
 have b3 : ¬ 15 < rv.length := by omega
 have b1 : ¬ (0 : Int) < F := by omega
 rcases hz with hz | hz
 ·have c0 : ¬ F = 0 ∨ F = 0 := by omega
  have c1 : rv.length = 0 := by omega
  have c2 : ¬ F = 0 := by omega
  have c3 : rv = [] := List.length_eq_zero_iff.1 c1
  have c4 : (y.size : Int) = rv.length := by omega
  refine FnZ_of (rs := [.tmp 8]) false Tryz.func112 rfl rfl rfl rfl (Nat.le_of_ble_eq_true rfl) ?_
  simp -dsimp
  refine call_ hok (by simp -dsimp) ?_
  simp -dsimp
  refine call_ hto (by simp -dsimp) ?_
  simp -dsimp [b0,b3,b1,c2]
  refine twp_draw (List.range 14) [0] (List.replicate 14 [0]) (List.replicate 14 [0]) (by kernel_rfl) (by kernel_rfl) (by kernel_rfl) (by kernel_rfl) ?_
  simp -dsimp [List.range_succ]
  refine call_ hno (by simp -dsimp) ?_
  simp -dsimp [List.range_succ]
  refine call_ hck (by simp -dsimp) ?_
  simp -dsimp [List.range_succ,c4]
  refine call_ hon (by simp -dsimp) ?_
  simp -dsimp
 ·have c4 : (y.size : Int) = rv.length := by omega
  by_cases c1 : rv.length = 0
  ·exfalso
   rcases htr with h | ⟨h,h2⟩
   ·omega
   ·omega
  subst hz
  have c2 : ¬ (rv.length : Int) = 0 := by omega
  have c3 : ¬ rv = [] := fun h => c1 (by rw [h]; rfl)
  refine FnZ_of (rs := [.tmp 8]) false Tryz.func112 rfl rfl rfl rfl (Nat.le_of_ble_eq_true rfl) ?_
  simp -dsimp
  refine call_ hok (by simp -dsimp) ?_
  simp -dsimp
  refine call_ hto (by simp -dsimp) ?_
  simp -dsimp [b0,b3,b1,c1,c2,c3]
  refine twp_draw (List.range 14) [0] (List.replicate 14 [0]) (List.replicate 14 [0]) (by kernel_rfl) (by kernel_rfl) (by kernel_rfl) (by kernel_rfl) ?_
  simp -dsimp [List.range_succ]
  refine call_ hno (by simp -dsimp) ?_
  simp -dsimp [List.range_succ]
  refine call_ hck (by simp -dsimp) ?_
  simp -dsimp [List.range_succ,c4]
  refine call_ hon (by simp -dsimp) ?_
  simp -dsimp
theorem proofTextS_fn (p : Nat) (l : List Claim) (t : List Mark) (h : storyOk p l = true) (ht : termOk p t = true) (y : PT) (hy : okT p l t y 0 0) (hs : y.size ≤ 15) : FnZ Tryz.prog 60 [.int .i64 p,storyV l,marksV t,proofV (some y)] (.str y.tx) := by
 obtain ⟨h1,h4,hc,h6⟩ := allOk_of h
 have hpo := proofOkS_fn p l t h ht y hy hs
 have hct := l11Text_fn p l t (by omega) h6 y 0 0 [] [] (y.to 0) (y.row 0) hy hs (by simp; omega) (by simp)
 simp only [List.length_nil] at hct
 have hpv : proofV (some y) = .agg [.int .i64 (y.to 0),spsV (y.row 0)] := rfl
 rw [hpv] at hpo ⊢
 obtain ⟨F,hF⟩ : ∃ F,y.to 0 = F := ⟨_,rfl⟩
 obtain ⟨W,hW⟩ : ∃ W,spsV (y.row 0) = W := ⟨_,rfl⟩
 have hWs : ∃ xs,W = .sl xs := ⟨_,hW.symm⟩
 obtain ⟨xs,rfl⟩ := hWs
 rw [hF,hW] at hpo hct ⊢
 refine FnZ_of (rs := [.tmp 8]) false Tryz.func60 rfl rfl rfl rfl (Nat.le_of_ble_eq_true rfl) ?_
 simp -dsimp
 refine call_ hpo (by simp -dsimp) ?_
 simp -dsimp
 refine call_ hct (by simp -dsimp) ?_
 simp -dsimp
end TL

namespace TL
open Go Go.Proofs
attribute [local simp] marksV storyV codeV Claim.v Place.v
theorem findProofS_fn (p : Nat) (l : List Claim) (t : List Mark) (h : storyOk p l = true) (ht : termOk p t = true) : FnZ Tryz.prog 59 [.int .i64 p,storyV l,marksV t] (.tup [proofV (findT p l t p 0),.bool (findT p l t p 0).isSome]) := by
 obtain ⟨h1,h4,hc,h6⟩ := allOk_of h
 have hok := storyOkS_fn p l (by omega) fun c hx => (claim_fine (hc c hx)).1
 rw [h] at hok
 have hto := termOkS_fn p t (termOk_fits ht) (by have := (termOk_facts ht).2.2.1; omega)
 rw [ht] at hto
 have hN := pow_small (p := p) (by omega)
 have hno := fun m n => l11Nothing_own p (by omega) m n
 have hgr := fun kid sid m n => grow_s p l t h ht p 0 0 [] kid sid m n (by omega) (by simp) (by simp; omega)
 have hsp := growR_spec p l t p 0 []
 have hk0 := knownR_zero p 0
 obtain ⟨G,hG⟩ : ∃ G,growR p l t p 0 [] = G := ⟨_,rfl⟩
 rw [hG] at hgr hsp
 obtain ⟨o,ho⟩ : ∃ o,findT p l t p 0 = o := ⟨_,rfl⟩
 rw [ho] at hsp ⊢
 obtain ⟨G1,G2,G3⟩ := G
 simp only [List.length_nil,Nat.add_zero] at hgr
 have hpv : proofV o = (if o.isSome = true then .agg [.int .i64 G2,spsV G1] else .agg [.int .i64 0,.sl []]) ∧ G3 = o.isSome := by
  cases o with
  | none => simp only at hsp; exact ⟨rfl,hsp⟩
  | some y =>
   simp only [List.nil_append,List.length_nil,Prod.mk.injEq] at hsp
   obtain ⟨e1,e2,e3⟩ := hsp
   exact ⟨by rw [e1,e2]; rfl,e3⟩
 obtain ⟨hpv,hg3⟩ := hpv
 obtain ⟨b,hb⟩ : ∃ b,o.isSome = b := ⟨_,rfl⟩
 rw [hb] at hpv hg3 ⊢
 subst hg3
 obtain ⟨PV,hPV⟩ : ∃ PV,proofV o = PV := ⟨_,rfl⟩
 rw [hPV] at hpv ⊢
 have hspb := fun (m : Mem) (id : Nat) (hm : m id = some (.box 153 3 (spT G1))) (d : Nat) => sp_bor hm rfl d
 clear ho hsp hb hPV hG
 refine FnZ_of (rs := [.cell 6 89,.tmp 7]) true Tryz.func59 rfl rfl rfl rfl (Nat.le_of_ble_eq_true rfl) ?_
 simp -dsimp
 refine call_ hok (by simp -dsimp) ?_
 simp -dsimp
 refine call_ hto (by simp -dsimp) ?_
 simp -dsimp
 refine callS_ (hno _ _) ?_
 rintro t1 m1 n1 ⟨kid,rfl,k1,k2,km,kout⟩
 rw [← hk0] at km
 have kf := far k2
 have q0 := kout 0 (by omega)
 simp -dsimp at q0
 simp -dsimp [kf]
 refine callS_ (hgr _ _ _ _ ?_) ?_
 ·refine ⟨?_, ?_, ?_, ?_⟩
  ·omega
  ·omega
  ·simp -dsimp [kf,km]
  ·simp -dsimp [spT]
 rintro t2 m2 n2 ⟨id2,rfl,hn2,hout2,hm2,hid2,hid2b⟩
 simp only at hm2
 have q1 : m2 0 = some (.box 89 2 [.v (.int .i64 0),.nil]) := by rw [hout2 0 (by omega)]; simp -dsimp [kf,q0,show ¬ 0 = n1 by omega]
 have hid0 : ¬ id2 = 0 := by omega
 have hid0' : ¬ 0 = id2 := by omega
 cases G3 with
 | false =>
  rw [if_neg (by simp)] at hpv
  subst hpv
  simp -dsimp [q1]
 | true =>
  rw [if_pos rfl] at hpv
  subst hpv
  have hb3 := hspb (updM m2 0 (some (.box 89 2 [.v (.int .i64 G2),.sv id2 0 G1.length]))) id2 (by simp -dsimp [hid0,hm2]) 2
  simp -dsimp [q1,hid0,hid0',hb3,spsV]
end TL

namespace TL
open Go Go.Proofs
attribute [local simp] marksV storyV codeV Claim.v Place.v numsV
def IkoS (ks : List Int) (e : Nat) (s : S) : Prop := ∃ i : Nat,s.tm 0 = .v (.sl (ks.map (V.int .i64))) ∧ s.tm 3 = .v (.int .i64 i) ∧ i ≤ ks.length ∧ (e = 1 → i = ks.length)
theorem kindsOkS_fn (ks : List Int) (hk : kinds3 ks) (h1 : 1 ≤ ks.length) (h4 : ks.length ≤ 4) : FnZ Tryz.prog 148 [numsV ks] (.bool true) := by
 have hpo := l1In_fn (ks.length : Int) 1 4
 have hpt : inR (ks.length : Int) 1 4 = true := (inR_true ..).2 (by omega)
 rw [hpt] at hpo
 refine FnZ_of (rs := [.tmp 2]) false Tryz.func148 rfl rfl rfl rfl (Nat.le_of_ble_eq_true rfl) ?_
 simp -dsimp [numsV]
 refine twp_loopC (IkoS ks 0) (fun s => ks.length - natOf (s.tm 3)) (IkoS ks 1) ?_ ?_ ?_
 ·exact ⟨0,by simp -dsimp,by simp -dsimp,by omega,by simp⟩
 ·rintro s ⟨i,t0,t3,hi,hend⟩
  by_cases hlt : i < ks.length
  case neg =>
   simp -dsimp [t0,t3,hlt]
   exact ⟨i,by simp -dsimp [t0],by simp -dsimp [t3],hi,fun _ => by omega⟩
  have hget : (ks.map (V.int .i64))[i]? = some (.int .i64 ks[i]) := by simp [hlt]
  have wi : IntKind.wrap .i64 ((i : Int) + 1) = ((i + 1 : Nat) : Int) := by rw [w64 (by omega) (by omega)]; omega
  have hmu1 : ks.length - (i + 1) < ks.length - i := by omega
  have hin := l1In_fn ks[i] 0 2
  have hit : inR ks[i] 0 2 = true := (inR_true ..).2 (by rcases kinds3_at hk hlt with hv | hv | hv <;> rw [hv] <;> omega)
  rw [hit] at hin
  simp -dsimp [t0,t3,hlt,hget]
  refine call_ hin (by simp -dsimp) ?_
  simp -dsimp [t0,t3,hlt,wi,hmu1]
  exact ⟨i + 1,by simp -dsimp [t0],by simp -dsimp,by omega,by simp⟩
 ·rintro s ⟨i,t0,t3,hi,hend⟩
  simp -dsimp [t0]
  refine call_ hpo (by simp -dsimp) ?_
  simp -dsimp
def IwkS (ks : List Int) (e : Nat) (s : S) : Prop := ∃ i : Nat,s.tm 0 = .v (.sl (ks.map (V.int .i64))) ∧ s.tm 4 = .v (.int .i64 i) ∧ s.tm 3 = .v (.int .i64 (tabN i fun i => decide (ks[i]? = some 1))) ∧ i ≤ ks.length ∧ (e = 1 → i = ks.length)
theorem l9World_fn (ks : List Int) (h4 : ks.length ≤ 4) : FnZ Tryz.prog 186 [numsV ks] (.int .i64 (worldK ks)) := by
 refine FnZ_of (rs := [.tmp 2]) false Tryz.func186 rfl rfl rfl rfl (Nat.le_of_ble_eq_true rfl) ?_
 simp -dsimp [numsV]
 refine twp_loopC (IwkS ks 0) (fun s => ks.length - natOf (s.tm 4)) (IwkS ks 1) ?_ ?_ ?_
 ·exact ⟨0,by simp -dsimp,by simp -dsimp,by simp -dsimp [tabN],by omega,by simp⟩
 ·rintro s ⟨i,t0,t4,t3,hi,hend⟩
  by_cases hlt : i < ks.length
  case neg =>
   simp -dsimp [t0,t4,hlt]
   exact ⟨i,by simp -dsimp [t0],by simp -dsimp [t4],by simp -dsimp [t3],hi,fun _ => by omega⟩
  have hget : (ks.map (V.int .i64))[i]? = some (.int .i64 ks[i]) := by simp [hlt]
  have hg2 : ks[i]? = some ks[i] := List.getElem?_eq_getElem hlt
  have wi : IntKind.wrap .i64 ((i : Int) + 1) = ((i + 1 : Nat) : Int) := by rw [w64 (by omega) (by omega)]; omega
  have hmu1 : ks.length - (i + 1) < ks.length - i := by omega
  have z1 : ¬ (i : Int) < 0 := by omega
  have hb := tabN_lt (fun i => decide (ks[i]? = some 1)) i
  have hp : 2 ^ i ≤ 2 ^ 16 := Nat.pow_le_pow_right (by omega) (by omega)
  have h2 : (2 : Nat) ^ i < 4611686018427387904 := by omega
  have wsh : IntKind.wrap .i64 (2 ^ min i IntKind.i64.bits) = ((2 ^ i : Nat) : Int) := by rw [shl_fact (by omega)]; simp
  have hor := or_ni (a := tabN i fun i => decide (ks[i]? = some 1)) (b := 2 ^ i) (x := (2 : Int) ^ i) (by simp) (by omega) h2
  have hsucc : tabN (i + 1) (fun i => decide (ks[i]? = some 1)) = if decide (ks[i]? = some 1) = true then tabN i (fun i => decide (ks[i]? = some 1)) ||| 2 ^ i else tabN i (fun i => decide (ks[i]? = some 1)) := rfl
  obtain ⟨A,hA⟩ : ∃ A,tabN i (fun i => decide (ks[i]? = some 1)) = A := ⟨_,rfl⟩
  rw [hA] at t3 hor hsucc
  by_cases hv : ks[i] = 1
  ·rw [hg2,hv,if_pos (by simp)] at hsucc
   simp -dsimp [t0,t3,t4,hlt,hv,wi,hmu1,wsh,hor,z1]
   exact ⟨i + 1,by simp -dsimp [t0],by simp -dsimp,by simp -dsimp [hsucc],by omega,by simp⟩
  ·rw [hg2,if_neg (by simp [hv])] at hsucc
   simp -dsimp [t0,t3,t4,hlt,wi,hmu1,wsh,hor,z1,hv]
   exact ⟨i + 1,by simp -dsimp [t0],by simp -dsimp,by simp -dsimp [t3,hsucc],by omega,by simp⟩
 ·rintro s ⟨i,t0,t4,t3,hi,hend⟩
  have := hend rfl
  subst this
  have e : tabN ks.length (fun i => decide (ks[i]? = some 1)) = worldK ks := rfl
  rw [e] at t3
  simp -dsimp [t3]
theorem spySaysS_fn (ks : List Int) (c : Claim) (hk : kinds3 ks) (h : claimOk (ks.length : Nat) c = true) : FnZ Tryz.prog 149 [numsV ks,c.v] (.bool (saysB ks c)) := by
 obtain ⟨hp1,hp4,h0,h1,ht,hl,hr⟩ := claim_facts h
 have hok := kindsOkS_fn ks hk (by omega) (by omega)
 have hck := claimOkS_fn (ks.length : Nat) c (claim_fine h).1
 rw [h] at hck
 have hwk := l9World_fn ks (by omega)
 have hms := l4May_fn _ c h (worldK ks) (worldK_lt (by omega))
 obtain ⟨k,hk0⟩ := Int.eq_ofNat_of_zero_le h0
 have hkl : k < ks.length := by omega
 have e : saysB ks c = (decide (ks[k] = 2) || mayB c (worldK ks)) := by
  unfold saysB
  rw [hk0,Int.toNat_natCast,List.getElem?_eq_getElem hkl]; simp
 have hget : (ks.map (V.int .i64))[k]? = some (.int .i64 ks[k]) := by simp [hkl]
 rw [e]
 obtain ⟨B,hB⟩ : ∃ B,mayB c (worldK ks) = B := ⟨_,rfl⟩
 rw [hB] at hms ⊢
 obtain ⟨who,says⟩ := c
 simp only at hk0
 subst hk0
 have z1 : ¬ (k : Int) < 0 := by omega
 by_cases hv : ks[k] = 2
 ·rw [hv]
  refine FnZ_of (rs := [.tmp 4]) false Tryz.func149 rfl rfl rfl rfl (Nat.le_of_ble_eq_true rfl) ?_
  simp -dsimp [numsV]
  refine call_ hok (by simp -dsimp [numsV]) ?_
  simp -dsimp
  refine call_ hck (by simp -dsimp) ?_
  simp -dsimp
  refine twp_draw (List.range 13) [0] (List.replicate 13 [0]) (List.replicate 13 [0]) (by kernel_rfl) (by kernel_rfl) (by kernel_rfl) (by kernel_rfl) ?_
  simp -dsimp [List.range_succ,hkl,hv,z1]
 ·refine FnZ_of (rs := [.tmp 4]) false Tryz.func149 rfl rfl rfl rfl (Nat.le_of_ble_eq_true rfl) ?_
  simp -dsimp [numsV]
  refine call_ hok (by simp -dsimp [numsV]) ?_
  simp -dsimp
  refine call_ hck (by simp -dsimp) ?_
  simp -dsimp
  refine twp_draw (List.range 13) [0] (List.replicate 13 [0]) (List.replicate 13 [0]) (by kernel_rfl) (by kernel_rfl) (by kernel_rfl) (by kernel_rfl) ?_
  simp -dsimp [List.range_succ,hkl,z1,hv]
  refine call_ hwk (by simp -dsimp [numsV]) ?_
  simp -dsimp [hkl,z1,hv]
  refine call_ hms (by simp -dsimp) ?_
  simp -dsimp [hv]
def IssS (ks : List Int) (l : List Claim) (e : Nat) (s : S) : Prop := ∃ i : Nat,s.tm 0 = .v (.sl (ks.map (V.int .i64))) ∧ s.tm 1 = .v (.sl (l.map Claim.v)) ∧ s.tm 5 = .v (.int .i64 i) ∧ i ≤ l.length ∧ (l.take i).all (saysB ks) = true ∧ (e = 1 → i = l.length)
theorem spyStoryS_fn (ks : List Int) (l : List Claim) (hk : kinds3 ks) (h : storyOk (ks.length : Nat) l = true) : FnZ Tryz.prog 104 [numsV ks,storyV l] (.bool (spyOk l ks)) := by
 obtain ⟨h1,h4,hc,h6⟩ := allOk_of h
 have hok := kindsOkS_fn ks hk (by omega) (by omega)
 have hst := storyOkS_fn (ks.length : Nat) l (by omega) fun c hx => (claim_fine (hc c hx)).1
 rw [h] at hst
 refine FnZ_of (rs := [.tmp 4]) false Tryz.func104 rfl rfl rfl rfl (Nat.le_of_ble_eq_true rfl) ?_
 simp -dsimp [numsV]
 refine call_ hok (by simp -dsimp [numsV]) ?_
 simp -dsimp
 refine call_ hst (by simp -dsimp) ?_
 simp -dsimp
 refine twp_loopC (IssS ks l 0) (fun s => l.length - natOf (s.tm 5)) (IssS ks l 1) ?_ ?_ ?_
 ·exact ⟨0,by simp -dsimp,by simp -dsimp,by simp -dsimp,by omega,by simp,by simp⟩
 ·rintro s ⟨i,t0,t1,t5,hi,hall,hend⟩
  by_cases hlt : i < l.length
  case neg =>
   simp -dsimp [t1,t5,hlt]
   exact ⟨i,by simp -dsimp [t0],by simp -dsimp [t1],by simp -dsimp [t5],hi,hall,fun _ => by omega⟩
  have hget : (l.map Claim.v)[i]? = some (l[i].v) := by simp [hlt]
  have wi : IntKind.wrap .i64 ((i : Int) + 1) = ((i + 1 : Nat) : Int) := by rw [w64 (by omega) (by omega)]; omega
  have hmu1 : l.length - (i + 1) < l.length - i := by omega
  have hss := spySaysS_fn ks l[i] hk (hc _ (List.getElem_mem hlt))
  have hnx : (l.take (i + 1)).all (saysB ks) = ((l.take i).all (saysB ks) && saysB ks l[i]) := by
   rw [List.take_succ_eq_append_getElem hlt,List.all_append]; simp
  have hwhole : saysB ks l[i] = false → spyOk l ks = false := fun hf => by
   unfold spyOk
   cases hq : l.all (saysB ks) with
   | false => rfl
   | true => rw [List.all_eq_true.1 hq _ (List.getElem_mem hlt)] at hf; cases hf
  simp -dsimp [t0,t1,t5,hlt,hget,claim_cellsE]
  refine call_ hss (by simp -dsimp [numsV]) ?_
  have hb := ft (saysB ks l[i])
  rcases hb with hb | hb
  ·have hw := hwhole hb
   simp -dsimp [hb,hw]
  ·rw [hall,hb] at hnx
   simp -dsimp [hb,t5,wi,hmu1]
   exact ⟨i + 1,by simp -dsimp [t0],by simp -dsimp [t1],by simp -dsimp,by omega,by rw [hnx]; rfl,by simp⟩
 ·rintro s ⟨i,t0,t1,t5,hi,hall,hend⟩
  have := hend rfl
  subst this
  rw [List.take_length] at hall
  have e : spyOk l ks = true := hall
  simp -dsimp [e]
def Ikd (p n : Nat) (e : Nat) (s : S) : Prop := ∃ i id : Nat,s.tm 0 = .v (.int .i64 p) ∧ s.tm 1 = .v (.int .i64 (n / 3 ^ i : Nat)) ∧ s.tm 5 = .loc id ∧ id < s.n ∧ s.mu = false ∧ s.m id = some (.arr 3 ((kd i n).map (V.int .i64))) ∧ s.tm 6 = .v (.int .i64 i) ∧ i ≤ p ∧ (e = 1 → i = p)
theorem kd_next (i n : Nat) : kd (i + 1) n = kd i n ++ [((n / 3 ^ i % 3 : Nat) : Int)] := by
 unfold kd; rw [List.range_succ,List.map_append]; rfl
theorem l9Kinds_fn (p n : Nat) (hp : p ≤ 4) (hn : n ≤ 1000) : FnZ Tryz.prog 103 [.int .i64 p,.int .i64 n] (numsV (kd p n)) := by
 refine FnZ_of (rs := [.tmp 4]) false Tryz.func103 rfl rfl rfl rfl (Nat.le_of_ble_eq_true rfl) ?_
 simp -dsimp
 refine twp_loopC (Ikd p n 0) (fun s => p - natOf (s.tm 6)) (Ikd p n 1) ?_ ?_ ?_
 ·exact ⟨0,0,by simp -dsimp,by simp -dsimp,by simp -dsimp,by simp -dsimp,by simp -dsimp,by simp -dsimp [kd],by simp -dsimp,by omega,by simp⟩
 ·rintro s ⟨i,id,t0,t1,t5,hid,hmu,hm,t6,hi,hend⟩
  by_cases hlt : i < p
  case neg =>
   simp -dsimp [t0,t6,hlt]
   exact ⟨i,id,by simp -dsimp [t0],by simp -dsimp [t1],by simp -dsimp [t5],by simp -dsimp; omega,by simp -dsimp [hmu],by simp -dsimp [hm],by simp -dsimp [t6],hi,fun _ => by omega⟩
  have wi : IntKind.wrap .i64 ((i : Int) + 1) = ((i + 1 : Nat) : Int) := by rw [w64 (by omega) (by omega)]; omega
  have hmu1 : p - (i + 1) < p - i := by omega
  have f1 := far hid
  have hq : n / 3 ^ i ≤ n := Nat.div_le_self _ _
  have e2 : n / 3 ^ (i + 1) = n / 3 ^ i / 3 := by rw [Nat.pow_succ,Nat.div_div_eq_div_mul]
  have hnx := kd_next i n
  have hkl := kd_len i n
  obtain ⟨q,hQ⟩ : ∃ q,n / 3 ^ i = q := ⟨_,rfl⟩
  rw [hQ] at t1 hq e2 hnx
  have r1 : ((q : Int)).tmod 3 = ((q % 3 : Nat) : Int) := by rw [Int.tmod_eq_emod_of_nonneg (by omega)]; omega
  have r2 : ((q : Int)).tdiv 3 = ((q / 3 : Nat) : Int) := by rw [Int.tdiv_eq_ediv_of_nonneg (by omega)]; omega
  have w3 : IntKind.wrap .i64 ((q / 3 : Nat) : Int) = ((q / 3 : Nat) : Int) := w64 (by omega) (by omega)
  have b1 : (i + 1) * 8 ≤ 140737488355328 := by omega
  obtain ⟨y,hY⟩ : ∃ y,q % 3 = y := ⟨_,rfl⟩
  obtain ⟨z,hZ⟩ : ∃ z,q / 3 = z := ⟨_,rfl⟩
  rw [hY] at r1 hnx
  rw [hZ] at r2 w3 e2
  simp -dsimp [t0,t1,t5,t6,hlt,hm,hmu,r1,r2,w3,b1,f1,wi,hmu1,hkl,nes]
  refine st_out fun s' ht hm' hn' hu' => ?_
  have a0 := ht 0
  have a1 := ht 1
  have a5 := ht 5
  have a6 := ht 6
  simp -dsimp [t0] at a0 a1 a5 a6 hm' hn' hu'
  clear ht
  refine ⟨i + 1,_,a0,by rw [a1,e2],a5,by omega,by rw [hu',hmu], ?_,a6,by omega,by simp⟩
  rw [hnx,List.map_append]; simp [hm',nes]
 ·rintro s ⟨i,id,t0,t1,t5,hid,hmu,hm,t6,hi,hend⟩
  have := hend rfl
  subst this
  simp -dsimp [t5,hm]
def Irows (p : Nat) (e : Nat) (s : S) : Prop := ∃ i : Nat,s.tm 0 = .v (.int .i64 p) ∧ s.tm 3 = .v (.int .i64 (3 ^ i : Nat)) ∧ s.tm 4 = .v (.int .i64 i) ∧ i ≤ p ∧ (e = 1 → i = p)
theorem l9Rows_fn (p : Nat) (hp : p ≤ 4) : FnZ Tryz.prog 102 [.int .i64 p] (.int .i64 (3 ^ p : Nat)) := by
 refine FnZ_of (rs := [.tmp 2]) false Tryz.func102 rfl rfl rfl rfl (Nat.le_of_ble_eq_true rfl) ?_
 simp -dsimp
 refine twp_loopC (Irows p 0) (fun s => p - natOf (s.tm 4)) (Irows p 1) ?_ ?_ ?_
 ·exact ⟨0,by simp -dsimp,by simp -dsimp,by simp -dsimp,by omega,by simp⟩
 ·rintro s ⟨i,t0,t3,t4,hi,hend⟩
  by_cases hlt : i < p
  case neg =>
   simp -dsimp [t0,t4,hlt]
   exact ⟨i,by simp -dsimp [t0],by simp -dsimp [t3],by simp -dsimp [t4],hi,fun _ => by omega⟩
  have wi : IntKind.wrap .i64 ((i : Int) + 1) = ((i + 1 : Nat) : Int) := by rw [w64 (by omega) (by omega)]; omega
  have hmu1 : p - (i + 1) < p - i := by omega
  have hpw : 3 ^ i ≤ 3 ^ 4 := Nat.pow_le_pow_right (by omega) (by omega)
  have e2 : 3 ^ (i + 1) = 3 ^ i * 3 := Nat.pow_succ ..
  obtain ⟨q,hQ⟩ : ∃ q,3 ^ i = q := ⟨_,rfl⟩
  rw [hQ] at t3 hpw e2
  have w3 : IntKind.wrap .i64 ((q : Int) * 3) = ((q * 3 : Nat) : Int) := by rw [w64 (by omega) (by omega)]; omega
  simp -dsimp [t0,t3,t4,hlt,w3,wi,hmu1]
  exact ⟨i + 1,by simp -dsimp [t0],by simp -dsimp [e2],by simp -dsimp,by omega,by simp⟩
 ·rintro s ⟨i,t0,t3,t4,hi,hend⟩
  have := hend rfl
  subst this
  simp -dsimp [t3]
def Ispn (ks : List Int) (e : Nat) (s : S) : Prop := ∃ i : Nat,s.tm 0 = .v (.sl (ks.map (V.int .i64))) ∧ s.tm 3 = .v (.int .i64 (spN (ks.take i))) ∧ s.tm 4 = .v (.int .i64 i) ∧ i ≤ ks.length ∧ (e = 1 → i = ks.length)
theorem l9Spies_fn (ks : List Int) (h4 : ks.length ≤ 4) : FnZ Tryz.prog 105 [numsV ks] (.int .i64 (spN ks)) := by
 refine FnZ_of (rs := [.tmp 2]) false Tryz.func105 rfl rfl rfl rfl (Nat.le_of_ble_eq_true rfl) ?_
 simp -dsimp [numsV]
 refine twp_loopC (Ispn ks 0) (fun s => ks.length - natOf (s.tm 4)) (Ispn ks 1) ?_ ?_ ?_
 ·exact ⟨0,by simp -dsimp,by simp -dsimp [spN],by simp -dsimp,by omega,by simp⟩
 ·rintro s ⟨i,t0,t3,t4,hi,hend⟩
  by_cases hlt : i < ks.length
  case neg =>
   simp -dsimp [t0,t4,hlt]
   exact ⟨i,by simp -dsimp [t0],by simp -dsimp [t3],by simp -dsimp [t4],hi,fun _ => by omega⟩
  have hget : (ks.map (V.int .i64))[i]? = some (.int .i64 ks[i]) := by simp [hlt]
  have wi : IntKind.wrap .i64 ((i : Int) + 1) = ((i + 1 : Nat) : Int) := by rw [w64 (by omega) (by omega)]; omega
  have hmu1 : ks.length - (i + 1) < ks.length - i := by omega
  have hsp : spN (ks.take (i + 1)) = spN (ks.take i) + (if ks[i] = 2 then 1 else 0) := by
   unfold spN
   rw [List.take_succ_eq_append_getElem hlt,List.count_append]
   by_cases h : ks[i] = 2 <;> simp [h,List.count_cons]
  have hle := spN_le (ks.take i)
  rw [List.length_take] at hle
  obtain ⟨q,hQ⟩ : ∃ q,spN (ks.take i) = q := ⟨_,rfl⟩
  rw [hQ] at t3 hsp hle
  have wq : IntKind.wrap .i64 ((q : Int) + 1) = (q : Int) + 1 := w64 (by omega) (by omega)
  by_cases hv : ks[i] = 2
  ·rw [if_pos hv] at hsp
   simp -dsimp [t0,t3,t4,hlt,hget,hv,wi,hmu1,wq]
   exact ⟨i + 1,by simp -dsimp [t0],by simp -dsimp [hsp],by simp -dsimp,by omega,by simp⟩
  ·rw [if_neg hv] at hsp
   simp -dsimp [t0,t3,t4,hlt,hget,hv,wi,hmu1]
   exact ⟨i + 1,by simp -dsimp [t0],by simp -dsimp [t3,hsp],by simp -dsimp,by omega,by simp⟩
 ·rintro s ⟨i,t0,t3,t4,hi,hend⟩
  have := hend rfl
  subst this
  rw [List.take_length] at t3
  simp -dsimp [t3]
def IfsS (p N : Nat) (l : List Claim) (e : Nat) (s : S) : Prop := ∃ n : Nat,s.tm 0 = .v (.int .i64 p) ∧ s.tm 1 = .v (.sl (l.map Claim.v)) ∧ s.tm 5 = .v (.int .i64 (bestK (spyOk l) p n)) ∧ s.tm 6 = .v (.int .i64 n) ∧ n ≤ N ∧ (e = 1 → n = N)
theorem fewestSpiesS_fn (p : Nat) (l : List Claim) (h : storyOk p l = true) : FnZ Tryz.prog 55 [.int .i64 p,storyV l] (.int .i64 (fewest (spyOk l) p)) := by
 obtain ⟨h1,h4,hc,h6⟩ := allOk_of h
 have hok := storyOkS_fn p l (by omega) fun c hx => (claim_fine (hc c hx)).1
 rw [h] at hok
 have hrw := l9Rows_fn p (by omega)
 have he := bestK_eq (spyOk_all (p := p) hc)
 rw [← he]
 have hpw : 3 ^ p ≤ 3 ^ 4 := Nat.pow_le_pow_right (by omega) (by omega)
 have hkd := fun n (hn : n < 3 ^ p) => l9Kinds_fn p n (by omega) (by omega)
 have hss := fun n => spyStoryS_fn (kd p n) l (kd_kinds p n) (by rw [kd_len]; exact h)
 have hsp := fun n => l9Spies_fn (kd p n) (by rw [kd_len]; omega)
 have hpl := fun n => bestK_le (spyOk l) p n
 have hstep : ∀ n,bestK (spyOk l) p (n + 1) = if spyOk l (kd p n) = true then min (bestK (spyOk l) p n) (spN (kd p n)) else bestK (spyOk l) p n := fun n => rfl
 obtain ⟨N,hNN⟩ : ∃ N,3 ^ p = N := ⟨_,rfl⟩
 rw [hNN] at hrw hpw hkd ⊢
 refine FnZ_of (rs := [.tmp 4]) false Tryz.func55 rfl rfl rfl rfl (Nat.le_of_ble_eq_true rfl) ?_
 simp -dsimp
 refine call_ hok (by simp -dsimp) ?_
 simp -dsimp
 refine twp_loopC (IfsS p N l 0) (fun s => N - natOf (s.tm 6)) (IfsS p N l 1) ?_ ?_ ?_
 ·exact ⟨0,by simp -dsimp,by simp -dsimp,by simp -dsimp [bestK],by simp -dsimp,by omega,by simp⟩
 ·rintro s ⟨n,t0,t1,t5,t6,hn,hend⟩
  by_cases hlt : n < N
  case neg =>
   simp -dsimp [t0,t6]
   refine call_ hrw (by simp -dsimp) ?_
   simp -dsimp [t0,t6,hlt]
   exact ⟨n,by simp -dsimp [t0],by simp -dsimp [t1],by simp -dsimp [t5],by simp -dsimp [t6],hn,fun _ => by omega⟩
  have wi : IntKind.wrap .i64 ((n : Int) + 1) = ((n + 1 : Nat) : Int) := by rw [w64 (by omega) (by omega)]; omega
  have hmu1 : N - (n + 1) < N - n := by omega
  have hkn := hkd n hlt
  have hsn := hss n
  have hpn := hsp n
  have hst := hstep n
  obtain ⟨K,hK⟩ : ∃ K,kd p n = K := ⟨_,rfl⟩
  rw [hK] at hkn hsn hpn hst
  obtain ⟨B,hB⟩ : ∃ B,bestK (spyOk l) p n = B := ⟨_,rfl⟩
  rw [hB] at t5 hst
  have hb := ft (spyOk l K)
  rcases hb with hb | hb
  ·rw [hb] at hst hsn
   simp -dsimp [t0,t6]
   refine call_ hrw (by simp -dsimp) ?_
   simp -dsimp [t0,t6,hlt]
   refine call_ hkn (by simp -dsimp) ?_
   simp -dsimp [t1]
   refine call_ hsn (by simp -dsimp) ?_
   simp -dsimp [t0,t5,t6,wi,hmu1]
   exact ⟨n + 1,by simp -dsimp [t0],by simp -dsimp [t1],by simp -dsimp [t5,hst],by simp -dsimp,by omega,by simp⟩
  ·rw [hb] at hst hsn
   simp -dsimp [t0,t6]
   refine call_ hrw (by simp -dsimp) ?_
   simp -dsimp [t0,t6,hlt]
   refine call_ hkn (by simp -dsimp) ?_
   simp -dsimp [t1]
   refine call_ hsn (by simp -dsimp) ?_
   simp -dsimp [t0,t5,t6]
   refine call_ hpn (by simp -dsimp) ?_
   have hmn : ((min B (spN K) : Nat) : Int) = min (B : Int) (spN K : Int) := by omega
   simp -dsimp [t0,t5,t6,wi,hmu1]
   exact ⟨n + 1,by simp -dsimp [t0],by simp -dsimp [t1],by simp -dsimp [hst,hmn],by simp -dsimp,by omega,by simp⟩
 ·rintro s ⟨n,t0,t1,t5,t6,hn,hend⟩
  have := hend rfl
  subst this
  simp -dsimp [t5]
end TL

namespace TL
open Go Go.Proofs
attribute [local simp] marksV storyV codeV Claim.v Place.v numsV natsV
theorem answer_place (p : Nat) (l : List Claim) (h : storyOk p l = true) : FnZ Tryz.prog 32 [(⟨p,l⟩ : Place).v,.str wPlace] (.str (placeTx ⟨p,l⟩)) := by
 obtain ⟨h1,h4,hc,h6⟩ := allOk_of h
 have hst := storyTable_fn p l (by omega) (by omega) (by omega) hc
 have hpl := placeText_fn ⟨p,l⟩ (by simp only; omega)
 generalize placeTx ⟨p,l⟩ = r at *
 refine FnZ_of (rs := [.tmp 4]) false Tryz.func32 rfl rfl rfl rfl (Nat.le_of_ble_eq_true rfl) ?_
 simp -dsimp
 refine call_ hst (by simp -dsimp) ?_
 simp -dsimp [wPlace]
 refine call_ hpl (by simp -dsimp) ?_
 simp -dsimp
theorem answer_worlds (p : Nat) (l : List Claim) (h : storyOk p l = true) : FnZ Tryz.prog 32 [(⟨p,l⟩ : Place).v,.str wWorlds] (.str (rowTx ((sw p l).map fun w => ((w : Nat) : Int)))) := by
 obtain ⟨h1,h4,hc,h6⟩ := allOk_of h
 have hst := storyTable_fn p l (by omega) (by omega) (by omega) hc
 have hwi := worldsIn_fn p (storyTab p l) (storyTab_ok (by omega) (by omega) l) (by omega) (by omega)
 have hsl := sw_len (p := p) (by omega) l
 have hrt := rowText_fn ((sw p l).map fun w => ((w : Nat) : Int)) (by simpa using hsl) (fun n hn => by obtain ⟨w,hw,rfl⟩ := List.mem_map.1 hn; have := sw_lt (p := p) (by omega) hw; omega)
 have e0 : worldsOf p (storyTab p l) = sw p l := rfl
 rw [e0] at hwi
 generalize rowTx ((sw p l).map fun w => ((w : Nat) : Int)) = r at *
 refine FnZ_of (rs := [.tmp 4]) false Tryz.func32 rfl rfl rfl rfl (Nat.le_of_ble_eq_true rfl) ?_
 simp -dsimp
 refine call_ hst (by simp -dsimp) ?_
 simp -dsimp [wWorlds]
 refine call_ hwi (by simp -dsimp) ?_
 simp -dsimp
 refine call_ hrt (by simp -dsimp) ?_
 simp -dsimp
theorem onlyV_le {p : Nat} (h4 : p ≤ 4) (l : List Claim) : onlyV p l ≤ 99 := by
 unfold onlyV
 split
 ·rename_i w hw
  have := sw_lt (p := p) (l := l) (w := w) h4 (by rw [hw]; simp)
  omega
 ·omega
theorem answer_only (p : Nat) (l : List Claim) (h : storyOk p l = true) : FnZ Tryz.prog 32 [(⟨p,l⟩ : Place).v,.str wOnly] (.str (numTx (onlyV p l))) := by
 obtain ⟨h1,h4,hc,h6⟩ := allOk_of h
 have hst := storyTable_fn p l (by omega) (by omega) (by omega) hc
 have how := onlyWorld_fn p l h
 have hnt := numberText_fn (onlyV p l) (onlyV_le (by omega) l)
 generalize numTx (onlyV p l) = r at *
 refine FnZ_of (rs := [.tmp 4]) false Tryz.func32 rfl rfl rfl rfl (Nat.le_of_ble_eq_true rfl) ?_
 simp -dsimp
 refine call_ hst (by simp -dsimp) ?_
 simp -dsimp [wOnly]
 refine call_ how (by simp -dsimp) ?_
 simp -dsimp
 refine call_ hnt (by simp -dsimp) ?_
 simp -dsimp
theorem answer_known (p : Nat) (l : List Claim) (h : storyOk p l = true) : FnZ Tryz.prog 32 [(⟨p,l⟩ : Place).v,.str wKnown] (.str (rowTx (knownL p l))) := by
 obtain ⟨h1,h4,hc,h6⟩ := allOk_of h
 have hst := storyTable_fn p l (by omega) (by omega) (by omega) hc
 have hkp := knownPeople_fn p l h
 have hkl : (knownL p l).length ≤ 16 := by unfold knownL; split <;> simp; omega
 have hrt := rowText_fn (knownL p l) hkl (fun n hn => by
  unfold knownL at hn
  split at hn
  ·cases hn
  ·obtain ⟨i,_,rfl⟩ := List.mem_map.1 hn
   have := knownOf_le (sw p l) i; omega)
 generalize rowTx (knownL p l) = r at *
 refine FnZ_of (rs := [.tmp 4]) false Tryz.func32 rfl rfl rfl rfl (Nat.le_of_ble_eq_true rfl) ?_
 simp -dsimp
 refine call_ hst (by simp -dsimp) ?_
 simp -dsimp [wKnown]
 refine call_ hkp (by simp -dsimp) ?_
 simp -dsimp
 refine call_ hrt (by simp -dsimp) ?_
 simp -dsimp
theorem answer_needless (p : Nat) (l : List Claim) (h : storyOk p l = true) : FnZ Tryz.prog 32 [(⟨p,l⟩ : Place).v,.str wNeedless] (.str (rowTx ((needless p l).map fun w => ((w : Nat) : Int)))) := by
 obtain ⟨h1,h4,hc,h6⟩ := allOk_of h
 have hst := storyTable_fn p l (by omega) (by omega) (by omega) hc
 have hnd := needless_fn p l h
 have hnl : (needless p l).length ≤ l.length := by
  have := List.length_filter_le (fun i => decide (storyTab p (l.eraseIdx i) = storyTab p l)) (List.range l.length)
  simpa [needless] using this
 have hrt := rowText_fn ((needless p l).map fun w => ((w : Nat) : Int)) (by simp only [List.length_map]; omega) (fun n hn => by
  obtain ⟨w,hw,rfl⟩ := List.mem_map.1 hn
  have := (List.mem_filter.1 hw).1
  simp at this; omega)
 generalize rowTx ((needless p l).map fun w => ((w : Nat) : Int)) = r at *
 refine FnZ_of (rs := [.tmp 4]) false Tryz.func32 rfl rfl rfl rfl (Nat.le_of_ble_eq_true rfl) ?_
 simp -dsimp
 refine call_ hst (by simp -dsimp) ?_
 simp -dsimp [wNeedless]
 refine call_ hnd (by simp -dsimp) ?_
 simp -dsimp
 refine call_ hrt (by simp -dsimp) ?_
 simp -dsimp
theorem answer_spies (p : Nat) (l : List Claim) (h : storyOk p l = true) : FnZ Tryz.prog 32 [(⟨p,l⟩ : Place).v,.str wSpies] (.str (numTx (fewest (spyOk l) p))) := by
 obtain ⟨h1,h4,hc,h6⟩ := allOk_of h
 have hst := storyTable_fn p l (by omega) (by omega) (by omega) hc
 have hfs := fewestSpies_fn p l h
 have hle := (fewest_spec (spyOk_all (p := p) hc)).1
 have hnt := numberText_fn (fewest (spyOk l) p : Nat) (by omega)
 generalize numTx (fewest (spyOk l) p : Nat) = r at *
 refine FnZ_of (rs := [.tmp 4]) false Tryz.func32 rfl rfl rfl rfl (Nat.le_of_ble_eq_true rfl) ?_
 simp -dsimp
 refine call_ hst (by simp -dsimp) ?_
 simp -dsimp [wSpies]
 refine call_ hfs (by simp -dsimp) ?_
 simp -dsimp
 refine call_ hnt (by simp -dsimp) ?_
 simp -dsimp
theorem answer_asks (p : Nat) (l : List Claim) (h : storyOk p l = true) : FnZ Tryz.prog 32 [(⟨p,l⟩ : Place).v,.str wAsks] (.str (numTx (la p (storyTab p l)))) := by
 obtain ⟨h1,h4,hc,h6⟩ := allOk_of h
 have hst := storyTable_fn p l (by omega) (by omega) (by omega) hc
 have hla := leastAsks_fn p (storyTab p l)
 have hT : InT p (storyTab p l) := storyTab_le p l
 have hle : la p (storyTab p l) ≤ 99 := by
  rw [la_ok (by omega) (by omega) hT]
  have := lv_lt (m := p) (by omega) hT
  omega
 have hnt := numberText_fn (la p (storyTab p l)) hle
 generalize numTx (la p (storyTab p l)) = r at *
 refine FnZ_of (rs := [.tmp 4]) false Tryz.func32 rfl rfl rfl rfl (Nat.le_of_ble_eq_true rfl) ?_
 simp -dsimp
 refine call_ hst (by simp -dsimp) ?_
 simp -dsimp [wAsks]
 refine call_ hla (by simp -dsimp) ?_
 simp -dsimp
 refine call_ hnt (by simp -dsimp) ?_
 simp -dsimp
end TL

namespace TL
open Go Go.Proofs
attribute [local simp] marksV storyV codeV Claim.v Place.v numsV natsV
/-- A line that is none of the seven words. -/
def noWord (line : List UInt8) : Prop := ¬ line = wPlace ∧ ¬ line = wWorlds ∧ ¬ line = wOnly ∧ ¬ line = wKnown ∧ ¬ line = wNeedless ∧ ¬ line = wSpies ∧ ¬ line = wAsks
theorem cut_rest_le (s c : List UInt8) : (Go.Lib.cut s c).2.1.length ≤ s.length := by
 unfold Go.Lib.cut
 split
 ·simp only [List.length_drop]; omega
 ·simp
theorem worldsOf_le {p : Nat} (h4 : p ≤ 4) (n : Nat) : (worldsOf p n).length ≤ 16 := by
 have h1 : (worldsOf p n).length ≤ (List.range (2 ^ p)).length := List.length_filter_le _ _
 have h2 := pow_small h4
 simp only [List.length_range] at h1; omega
theorem answer_none (p : Nat) (l : List Claim) (h : storyOk p l = true) (line : List UInt8) (hl : line.length ≤ 2000000000) (hn : noWord line) (hr : readT p (Go.Lib.cut line [32]).2.1 = none) : FnZ Tryz.prog 32 [(⟨p,l⟩ : Place).v,.str line] (.str wWhat) := by
 obtain ⟨h1,h4,hc,h6⟩ := allOk_of h
 have hst := storyTable_fn p l (by omega) (by omega) (by omega) hc
 have hcut := cut_fn line [32] (by omega)
 have hrl : (Go.Lib.cut line [32]).2.1.length ≤ line.length := cut_rest_le line [32]
 have hrt := readTerm_fn p (Go.Lib.cut line [32]).2.1 (by omega)
 obtain ⟨hn1,hn2,hn3,hn4,hn5,hn6,hn7⟩ := hn
 simp only [wPlace,wWorlds,wOnly,wKnown,wNeedless,wSpies,wAsks] at hn1 hn2 hn3 hn4 hn5 hn6 hn7
 obtain ⟨C,hC⟩ : ∃ C,Go.Lib.cut line [32] = C := ⟨_,rfl⟩
 obtain ⟨W,R,B⟩ := C
 rw [hC] at hcut hrt hrl hr
 simp only at hcut hrt hrl hr
 rw [hr] at hrt
 simp only [optV,Option.getD_none,Option.isSome_none] at hrt
 refine FnZ_of (rs := [.tmp 4]) false Tryz.func32 rfl rfl rfl rfl (Nat.le_of_ble_eq_true rfl) ?_
 simp -dsimp
 refine call_ hst (by simp -dsimp) ?_
 simp -dsimp [hn1,hn2,hn3,hn4,hn5,hn6,hn7]
 refine call_ hcut (by simp -dsimp) ?_
 simp -dsimp
 refine call_ hrt (by simp -dsimp) ?_
 simp -dsimp [wWhat]
theorem answer_follows (p : Nat) (l : List Claim) (h : storyOk p l = true) (line : List UInt8) (hl : line.length ≤ 2000000000) (hn : noWord line) (t : List Mark) (hr : readT p (Go.Lib.cut line [32]).2.1 = some t) (hw : (Go.Lib.cut line [32]).1 = wFollows) : FnZ Tryz.prog 32 [(⟨p,l⟩ : Place).v,.str line] (.str (if followsB p l t = true then wYes else wNo)) := by
 have hto := (readT_is hr).2.1
 have hff := followsFrom_fn p l t h hto
 obtain ⟨h1,h4,hc,h6⟩ := allOk_of h
 have hst := storyTable_fn p l (by omega) (by omega) (by omega) hc
 have hcut := cut_fn line [32] (by omega)
 have hrl : (Go.Lib.cut line [32]).2.1.length ≤ line.length := cut_rest_le line [32]
 have hrt := readTerm_fn p (Go.Lib.cut line [32]).2.1 (by omega)
 obtain ⟨hn1,hn2,hn3,hn4,hn5,hn6,hn7⟩ := hn
 simp only [wPlace,wWorlds,wOnly,wKnown,wNeedless,wSpies,wAsks] at hn1 hn2 hn3 hn4 hn5 hn6 hn7
 obtain ⟨C,hC⟩ : ∃ C,Go.Lib.cut line [32] = C := ⟨_,rfl⟩
 obtain ⟨W,R,B⟩ := C
 rw [hC] at hcut hrt hrl hr hw
 simp only at hcut hrt hrl hr hw
 rw [hr] at hrt
 simp only [optV,Option.getD_some,Option.isSome_some] at hrt
 have hb := ft (followsB p l t)
 simp only [wFollows] at hw
 subst hw
 rcases hb with hb | hb
 ·rw [hb] at hff ⊢
  refine FnZ_of (rs := [.tmp 4]) false Tryz.func32 rfl rfl rfl rfl (Nat.le_of_ble_eq_true rfl) ?_
  simp -dsimp
  refine call_ hst (by simp -dsimp) ?_
  simp -dsimp [hn1,hn2,hn3,hn4,hn5,hn6,hn7]
  refine call_ hcut (by simp -dsimp) ?_
  simp -dsimp
  refine call_ hrt (by simp -dsimp) ?_
  simp -dsimp
  refine call_ hff (by simp -dsimp) ?_
  simp -dsimp [wNo]
 ·rw [hb] at hff ⊢
  refine FnZ_of (rs := [.tmp 4]) false Tryz.func32 rfl rfl rfl rfl (Nat.le_of_ble_eq_true rfl) ?_
  simp -dsimp
  refine call_ hst (by simp -dsimp) ?_
  simp -dsimp [hn1,hn2,hn3,hn4,hn5,hn6,hn7]
  refine call_ hcut (by simp -dsimp) ?_
  simp -dsimp
  refine call_ hrt (by simp -dsimp) ?_
  simp -dsimp
  refine call_ hff (by simp -dsimp) ?_
  simp -dsimp [wYes]
theorem answer_proof (p : Nat) (l : List Claim) (h : storyOk p l = true) (line : List UInt8) (hl : line.length ≤ 2000000000) (hn : noWord line) (t : List Mark) (hr : readT p (Go.Lib.cut line [32]).2.1 = some t) (hw : (Go.Lib.cut line [32]).1 = wProof) : FnZ Tryz.prog 32 [(⟨p,l⟩ : Place).v,.str line] (.str (match findT p l t p 0 with
  | some y => y.tx
  | none => wNone)) := by
 have hto := (readT_is hr).2.1
 have hfp := findProof_fn p l t h hto
 have hfo := fun y (hy : findT p l t p 0 = some y) => findT_ok p 0 y (Nat.le_refl _) hy
 obtain ⟨o,ho⟩ : ∃ o,findT p l t p 0 = o := ⟨_,rfl⟩
 rw [ho] at hfp hfo ⊢
 obtain ⟨h1,h4,hc,h6⟩ := allOk_of h
 have hst := storyTable_fn p l (by omega) (by omega) (by omega) hc
 have hcut := cut_fn line [32] (by omega)
 have hrl : (Go.Lib.cut line [32]).2.1.length ≤ line.length := cut_rest_le line [32]
 have hrt := readTerm_fn p (Go.Lib.cut line [32]).2.1 (by omega)
 obtain ⟨hn1,hn2,hn3,hn4,hn5,hn6,hn7⟩ := hn
 simp only [wPlace,wWorlds,wOnly,wKnown,wNeedless,wSpies,wAsks] at hn1 hn2 hn3 hn4 hn5 hn6 hn7
 obtain ⟨C,hC⟩ : ∃ C,Go.Lib.cut line [32] = C := ⟨_,rfl⟩
 obtain ⟨W,R,B⟩ := C
 rw [hC] at hcut hrt hrl hr hw
 simp only at hcut hrt hrl hr hw
 rw [hr] at hrt
 simp only [optV,Option.getD_some,Option.isSome_some] at hrt
 simp only [wProof] at hw
 subst hw
 cases o with
 | none =>
  obtain ⟨PV,hPV⟩ : ∃ x,proofV none = .agg [.int .i64 0,.sl x] := ⟨_,rfl⟩
  rw [hPV] at hfp
  simp only [Option.isSome_none] at hfp
  refine FnZ_of (rs := [.tmp 4]) false Tryz.func32 rfl rfl rfl rfl (Nat.le_of_ble_eq_true rfl) ?_
  simp -dsimp
  refine call_ hst (by simp -dsimp) ?_
  simp -dsimp [hn1,hn2,hn3,hn4,hn5,hn6,hn7]
  refine call_ hcut (by simp -dsimp) ?_
  simp -dsimp
  refine call_ hrt (by simp -dsimp) ?_
  simp -dsimp
  refine call_ hfp (by simp -dsimp) ?_
  simp -dsimp [wNone]
 | some y =>
  obtain ⟨y1,y2⟩ := hfo y rfl
  rw [Nat.sub_self] at y1
  have hp2 := pow_small (p := p) (by omega)
  have hpt := proofText_fn p l t h hto y y1 (by omega)
  obtain ⟨F,hF⟩ : ∃ F,y.to 0 = F := ⟨_,rfl⟩
  obtain ⟨rv,hrv⟩ : ∃ rv,(y.row 0).map Sp.v = rv := ⟨_,rfl⟩
  have hpv : proofV (some y) = .agg [.int .i64 F,.sl rv] := by rw [← hF,← hrv]; rfl
  rw [hpv] at hfp hpt
  simp only [Option.isSome_some] at hfp
  obtain ⟨X,hX⟩ : ∃ X,y.tx = X := ⟨_,rfl⟩
  rw [hX] at hpt
  simp only [hX]
  refine FnZ_of (rs := [.tmp 4]) false Tryz.func32 rfl rfl rfl rfl (Nat.le_of_ble_eq_true rfl) ?_
  simp -dsimp
  refine call_ hst (by simp -dsimp) ?_
  simp -dsimp [hn1,hn2,hn3,hn4,hn5,hn6,hn7]
  refine call_ hcut (by simp -dsimp) ?_
  simp -dsimp
  refine call_ hrt (by simp -dsimp) ?_
  simp -dsimp
  refine call_ hfp (by simp -dsimp) ?_
  simp -dsimp
  refine call_ hpt (by simp -dsimp) ?_
  simp -dsimp
theorem answer_count (p : Nat) (l : List Claim) (h : storyOk p l = true) (line : List UInt8) (hl : line.length ≤ 2000000000) (hn : noWord line) (t : List Mark) (hr : readT p (Go.Lib.cut line [32]).2.1 = some t) (hw : (Go.Lib.cut line [32]).1 = wCount) : FnZ Tryz.prog 32 [(⟨p,l⟩ : Place).v,.str line] (.str (dec (((worldsOf p (storyTab p l &&& termTab p t)).length : Nat) : Int))) := by
 have hto := (readT_is hr).2.1
 have htt := tableOf_fn p t hto
 have hs1 := storyTab_le p l
 have hs0 := storyTab_small (p := p) (by have := (allOk_of h).2.1; omega) l
 have ht0 := termTab_small (p := p) (by have := (allOk_of h).2.1; omega) t
 have hT : InT p (storyTab p l &&& termTab p t) := Nat.lt_of_le_of_lt Nat.and_le_left hs1
 have hwi := worldsIn_fn p (storyTab p l &&& termTab p t) (tab_ok (by have := (allOk_of h).1; omega) (by have := (allOk_of h).2.1; omega) hT) (by have := (allOk_of h).1; omega) (by have := (allOk_of h).2.1; omega)
 have hle := worldsOf_le (p := p) (by have := (allOk_of h).2.1; omega) (storyTab p l &&& termTab p t)
 have hand := and_nn (a := storyTab p l) (b := termTab p t) (by omega) (by omega)
 obtain ⟨h1,h4,hc,h6⟩ := allOk_of h
 have hst := storyTable_fn p l (by omega) (by omega) (by omega) hc
 have hcut := cut_fn line [32] (by omega)
 have hrl : (Go.Lib.cut line [32]).2.1.length ≤ line.length := cut_rest_le line [32]
 have hrt := readTerm_fn p (Go.Lib.cut line [32]).2.1 (by omega)
 obtain ⟨hn1,hn2,hn3,hn4,hn5,hn6,hn7⟩ := hn
 simp only [wPlace,wWorlds,wOnly,wKnown,wNeedless,wSpies,wAsks] at hn1 hn2 hn3 hn4 hn5 hn6 hn7
 obtain ⟨C,hC⟩ : ∃ C,Go.Lib.cut line [32] = C := ⟨_,rfl⟩
 obtain ⟨W,R,B⟩ := C
 rw [hC] at hcut hrt hrl hr hw
 simp only at hcut hrt hrl hr hw
 rw [hr] at hrt
 simp only [optV,Option.getD_some,Option.isSome_some] at hrt
 have hit := itoa_fn ((worldsOf p (storyTab p l &&& termTab p t)).length : Nat) (by omega) (by omega)
 simp only [wCount] at hw
 subst hw
 obtain ⟨A,hA⟩ : ∃ A,storyTab p l = A := ⟨_,rfl⟩
 obtain ⟨T,hT2⟩ : ∃ T,termTab p t = T := ⟨_,rfl⟩
 rw [hA] at hst hwi hle hand hit ⊢
 rw [hT2] at htt hwi hle hand hit ⊢
 obtain ⟨WS,hWS⟩ : ∃ WS,worldsOf p (A &&& T) = WS := ⟨_,rfl⟩
 rw [hWS] at hwi hle hit ⊢
 obtain ⟨D,hD⟩ : ∃ D,dec ((WS.length : Nat) : Int) = D := ⟨_,rfl⟩
 rw [hD] at hit ⊢
 refine FnZ_of (rs := [.tmp 4]) false Tryz.func32 rfl rfl rfl rfl (Nat.le_of_ble_eq_true rfl) ?_
 simp -dsimp
 refine call_ hst (by simp -dsimp) ?_
 simp -dsimp [hn1,hn2,hn3,hn4,hn5,hn6,hn7]
 refine call_ hcut (by simp -dsimp) ?_
 simp -dsimp
 refine call_ hrt (by simp -dsimp) ?_
 simp -dsimp
 refine twp_draw (List.range 12) [0] (List.replicate 12 [0]) (List.replicate 12 [0]) (by kernel_rfl) (by kernel_rfl) (by kernel_rfl) (by kernel_rfl) ?_
 simp -dsimp [List.range_succ]
 refine call_ htt (by simp -dsimp) ?_
 simp -dsimp [List.range_succ,hand]
 refine call_ hwi (by simp -dsimp) ?_
 simp -dsimp
 refine call_ hit (by simp -dsimp) ?_
 simp -dsimp
theorem answer_else (p : Nat) (l : List Claim) (h : storyOk p l = true) (line : List UInt8) (hl : line.length ≤ 2000000000) (hn : noWord line) (t : List Mark) (hr : readT p (Go.Lib.cut line [32]).2.1 = some t) (hw : ¬ (Go.Lib.cut line [32]).1 = wFollows ∧ ¬ (Go.Lib.cut line [32]).1 = wProof ∧ ¬ (Go.Lib.cut line [32]).1 = wCount) : FnZ Tryz.prog 32 [(⟨p,l⟩ : Place).v,.str line] (.str (wWhat)) := by
 have hto := (readT_is hr).2.1
 obtain ⟨h1,h4,hc,h6⟩ := allOk_of h
 have hst := storyTable_fn p l (by omega) (by omega) (by omega) hc
 have hcut := cut_fn line [32] (by omega)
 have hrl : (Go.Lib.cut line [32]).2.1.length ≤ line.length := cut_rest_le line [32]
 have hrt := readTerm_fn p (Go.Lib.cut line [32]).2.1 (by omega)
 obtain ⟨hn1,hn2,hn3,hn4,hn5,hn6,hn7⟩ := hn
 simp only [wPlace,wWorlds,wOnly,wKnown,wNeedless,wSpies,wAsks] at hn1 hn2 hn3 hn4 hn5 hn6 hn7
 obtain ⟨C,hC⟩ : ∃ C,Go.Lib.cut line [32] = C := ⟨_,rfl⟩
 obtain ⟨W,R,B⟩ := C
 rw [hC] at hcut hrt hrl hr hw
 simp only at hcut hrt hrl hr hw
 rw [hr] at hrt
 simp only [optV,Option.getD_some,Option.isSome_some] at hrt
 obtain ⟨w1,w2,w3⟩ := hw
 simp only [wFollows,wProof,wCount] at w1 w2 w3
 refine FnZ_of (rs := [.tmp 4]) false Tryz.func32 rfl rfl rfl rfl (Nat.le_of_ble_eq_true rfl) ?_
 simp -dsimp
 refine call_ hst (by simp -dsimp) ?_
 simp -dsimp [hn1,hn2,hn3,hn4,hn5,hn6,hn7]
 refine call_ hcut (by simp -dsimp) ?_
 simp -dsimp
 refine call_ hrt (by simp -dsimp) ?_
 simp -dsimp [w1,w2,w3,wWhat]
theorem answer_fn (q : Place) (hq : placeOk q = true) (line : List UInt8) (hl : line.length ≤ 2000000000) : FnZ Tryz.prog 32 [q.v,.str line] (.str (ans q line)) := by
 obtain ⟨people,l⟩ := q
 have h : storyOk people l = true := hq
 obtain ⟨p,rfl⟩ := Int.eq_ofNat_of_zero_le (show 0 ≤ people by have := (allOk_of h).1; omega)
 unfold ans
 simp only [Int.toNat_natCast]
 by_cases c1 : line = wPlace
 ·rw [if_pos c1,c1]; exact answer_place p l h
 by_cases c2 : line = wWorlds
 ·rw [if_neg c1,if_pos c2,c2]; exact answer_worlds p l h
 by_cases c3 : line = wOnly
 ·rw [if_neg c1,if_neg c2,if_pos c3,c3]; exact answer_only p l h
 by_cases c4 : line = wKnown
 ·rw [if_neg c1,if_neg c2,if_neg c3,if_pos c4,c4]; exact answer_known p l h
 by_cases c5 : line = wNeedless
 ·rw [if_neg c1,if_neg c2,if_neg c3,if_neg c4,if_pos c5,c5]; exact answer_needless p l h
 by_cases c6 : line = wSpies
 ·rw [if_neg c1,if_neg c2,if_neg c3,if_neg c4,if_neg c5,if_pos c6,c6]; exact answer_spies p l h
 by_cases c7 : line = wAsks
 ·rw [if_neg c1,if_neg c2,if_neg c3,if_neg c4,if_neg c5,if_neg c6,if_pos c7,c7]; exact answer_asks p l h
 rw [if_neg c1,if_neg c2,if_neg c3,if_neg c4,if_neg c5,if_neg c6,if_neg c7]
 have hn : noWord line := ⟨c1,c2,c3,c4,c5,c6,c7⟩
 cases hr : readT p (Go.Lib.cut line [32]).2.1 with
 | none => exact answer_none p l h line hl hn hr
 | some t =>
  show FnZ Tryz.prog 32 _ (.str (askT p l (Go.Lib.cut line [32]).1 t))
  unfold askT
  by_cases d1 : (Go.Lib.cut line [32]).1 = wFollows
  ·rw [if_pos d1]; exact answer_follows p l h line hl hn t hr d1
  by_cases d2 : (Go.Lib.cut line [32]).1 = wProof
  ·rw [if_neg d1,if_pos d2]; exact answer_proof p l h line hl hn t hr d2
  by_cases d3 : (Go.Lib.cut line [32]).1 = wCount
  ·rw [if_neg d1,if_neg d2,if_pos d3]; exact answer_count p l h line hl hn t hr d3
  rw [if_neg d1,if_neg d2,if_neg d3]; exact answer_else p l h line hl hn t hr ⟨d1,d2,d3⟩
end TL

namespace TL
open Go Go.Proofs
attribute [local simp] marksV storyV codeV Claim.v Place.v numsV natsV
theorem numTx_neg {n : Int} (h : n < 0) : numTx n = wNone := if_pos h
theorem numTx_pos {n : Int} (h : ¬ n < 0) : numTx n = dec n := if_neg h
theorem answerS_place (p : Nat) (l : List Claim) (h : storyOk p l = true) : FnZ Tryz.prog 25 [(⟨p,l⟩ : Place).v,.str wPlace] (.str (placeTx ⟨p,l⟩)) := by
 obtain ⟨h1,h4,hc,h6⟩ := allOk_of h
 have hst := l4Story_fn p l (by omega) (by omega) (by omega) hc
 have hpl := placeTextS_fn ⟨p,l⟩ (place_fine (p := ⟨p,l⟩) h).1
 generalize placeTx ⟨p,l⟩ = r at *
 refine FnZ_of (rs := [.tmp 4]) false Tryz.func25 rfl rfl rfl rfl (Nat.le_of_ble_eq_true rfl) ?_
 simp -dsimp
 refine call_ hst (by simp -dsimp) ?_
 simp -dsimp [wPlace]
 refine call_ hpl (by simp -dsimp) ?_
 simp -dsimp
theorem answerS_worlds (p : Nat) (l : List Claim) (h : storyOk p l = true) : FnZ Tryz.prog 25 [(⟨p,l⟩ : Place).v,.str wWorlds] (.str (rowTx ((sw p l).map fun w => ((w : Nat) : Int)))) := by
 obtain ⟨h1,h4,hc,h6⟩ := allOk_of h
 have hst := l4Story_fn p l (by omega) (by omega) (by omega) hc
 have hwi := worldsInS_fn p (storyTab p l) (storyTab_ok (by omega) (by omega) l) (by omega) (by omega) (storyTab_small (by omega) l)
 have hsl := sw_len (p := p) (by omega) l
 have hrt := l15Row_fn ((sw p l).map fun w => ((w : Nat) : Int)) (by simpa using hsl) (fun n hn => by obtain ⟨w,hw,rfl⟩ := List.mem_map.1 hn; have := sw_lt (p := p) (by omega) hw; omega)
 have e0 : worldsOf p (storyTab p l) = sw p l := rfl
 rw [e0] at hwi
 generalize rowTx ((sw p l).map fun w => ((w : Nat) : Int)) = r at *
 refine FnZ_of (rs := [.tmp 4]) false Tryz.func25 rfl rfl rfl rfl (Nat.le_of_ble_eq_true rfl) ?_
 simp -dsimp
 refine call_ hst (by simp -dsimp) ?_
 simp -dsimp [wWorlds]
 refine call_ hwi (by simp -dsimp) ?_
 simp -dsimp
 refine call_ hrt (by simp -dsimp) ?_
 simp -dsimp
theorem answerS_only (p : Nat) (l : List Claim) (h : storyOk p l = true) : FnZ Tryz.prog 25 [(⟨p,l⟩ : Place).v,.str wOnly] (.str (numTx (onlyV p l))) := by
 obtain ⟨h1,h4,hc,h6⟩ := allOk_of h
 have hst := l4Story_fn p l (by omega) (by omega) (by omega) hc
 have how := onlyWorldS_fn p l h
 by_cases hb : (sw p l).length = 1
 ·have hbt : onlyB p l = true := decide_eq_true hb
  obtain ⟨w,hw⟩ := List.length_eq_one_iff.1 hb
  have hov := onlyV_one hw
  have hwl := sw_lt (p := p) (l := l) (w := w) (by omega) (by rw [hw]; simp)
  have hnt := l1Number2_fn (onlyV p l) (by omega) (by omega)
  rw [hbt] at how
  rw [numTx_pos (by omega)]
  generalize dec (onlyV p l) = r at *
  generalize onlyV p l = q at *
  refine FnZ_of (rs := [.tmp 4]) false Tryz.func25 rfl rfl rfl rfl (Nat.le_of_ble_eq_true rfl) ?_
  simp -dsimp
  refine call_ hst (by simp -dsimp) ?_
  simp -dsimp [wOnly]
  refine call_ how (by simp -dsimp) ?_
  simp -dsimp
  refine call_ hnt (by simp -dsimp) ?_
  simp -dsimp
 ·have hbt : onlyB p l = false := decide_eq_false hb
  have hov := onlyV_not hb
  rw [hbt] at how
  rw [numTx_neg (by omega)]
  refine FnZ_of (rs := [.tmp 4]) false Tryz.func25 rfl rfl rfl rfl (Nat.le_of_ble_eq_true rfl) ?_
  simp -dsimp
  refine call_ hst (by simp -dsimp) ?_
  simp -dsimp [wOnly]
  refine call_ how (by simp -dsimp) ?_
  simp -dsimp [wNone]
theorem answerS_known (p : Nat) (l : List Claim) (h : storyOk p l = true) : FnZ Tryz.prog 25 [(⟨p,l⟩ : Place).v,.str wKnown] (.str (rowTx (knownL p l))) := by
 obtain ⟨h1,h4,hc,h6⟩ := allOk_of h
 have hst := l4Story_fn p l (by omega) (by omega) (by omega) hc
 have hkp := knownPeopleS_fn p l h
 have hkl : (knownL p l).length ≤ 16 := by unfold knownL; split <;> simp; omega
 have hrt := l15Row_fn (knownL p l) hkl (fun n hn => by
  unfold knownL at hn
  split at hn
  ·cases hn
  ·obtain ⟨i,_,rfl⟩ := List.mem_map.1 hn
   have := knownOf_le (sw p l) i; omega)
 generalize rowTx (knownL p l) = r at *
 refine FnZ_of (rs := [.tmp 4]) false Tryz.func25 rfl rfl rfl rfl (Nat.le_of_ble_eq_true rfl) ?_
 simp -dsimp
 refine call_ hst (by simp -dsimp) ?_
 simp -dsimp [wKnown]
 refine call_ hkp (by simp -dsimp) ?_
 simp -dsimp
 refine call_ hrt (by simp -dsimp) ?_
 simp -dsimp
theorem answerS_needless (p : Nat) (l : List Claim) (h : storyOk p l = true) : FnZ Tryz.prog 25 [(⟨p,l⟩ : Place).v,.str wNeedless] (.str (rowTx ((needless p l).map fun w => ((w : Nat) : Int)))) := by
 obtain ⟨h1,h4,hc,h6⟩ := allOk_of h
 have hst := l4Story_fn p l (by omega) (by omega) (by omega) hc
 have hnd := needlessS_fn p l h
 have hnl : (needless p l).length ≤ l.length := by
  have := List.length_filter_le (fun i => decide (storyTab p (l.eraseIdx i) = storyTab p l)) (List.range l.length)
  simpa [needless] using this
 have hrt := l15Row_fn ((needless p l).map fun w => ((w : Nat) : Int)) (by simp only [List.length_map]; omega) (fun n hn => by
  obtain ⟨w,hw,rfl⟩ := List.mem_map.1 hn
  have := (List.mem_filter.1 hw).1
  simp at this; omega)
 generalize rowTx ((needless p l).map fun w => ((w : Nat) : Int)) = r at *
 refine FnZ_of (rs := [.tmp 4]) false Tryz.func25 rfl rfl rfl rfl (Nat.le_of_ble_eq_true rfl) ?_
 simp -dsimp
 refine call_ hst (by simp -dsimp) ?_
 simp -dsimp [wNeedless]
 refine call_ hnd (by simp -dsimp) ?_
 simp -dsimp
 refine call_ hrt (by simp -dsimp) ?_
 simp -dsimp
theorem answerS_spies (p : Nat) (l : List Claim) (h : storyOk p l = true) : FnZ Tryz.prog 25 [(⟨p,l⟩ : Place).v,.str wSpies] (.str (numTx (fewest (spyOk l) p : Nat))) := by
 obtain ⟨h1,h4,hc,h6⟩ := allOk_of h
 have hst := l4Story_fn p l (by omega) (by omega) (by omega) hc
 have hfs := fewestSpiesS_fn p l h
 have hle := (fewest_spec (spyOk_all (p := p) hc)).1
 have hnt := l1Number2_fn (fewest (spyOk l) p : Nat) (by omega) (by omega)
 rw [numTx_pos (by omega)]
 generalize dec (fewest (spyOk l) p : Nat) = r at *
 refine FnZ_of (rs := [.tmp 4]) false Tryz.func25 rfl rfl rfl rfl (Nat.le_of_ble_eq_true rfl) ?_
 simp -dsimp
 refine call_ hst (by simp -dsimp) ?_
 simp -dsimp [wSpies]
 refine call_ hfs (by simp -dsimp) ?_
 simp -dsimp
 refine call_ hnt (by simp -dsimp) ?_
 simp -dsimp
theorem answerS_asks (p : Nat) (l : List Claim) (h : storyOk p l = true) : FnZ Tryz.prog 25 [(⟨p,l⟩ : Place).v,.str wAsks] (.str (numTx (la p (storyTab p l)))) := by
 obtain ⟨h1,h4,hc,h6⟩ := allOk_of h
 have hst := l4Story_fn p l (by omega) (by omega) (by omega) hc
 have hla := leastAsksS_fn p (storyTab p l)
 have hT : InT p (storyTab p l) := storyTab_le p l
 have hle : la p (storyTab p l) ≤ 99 := by
  rw [la_ok (by omega) (by omega) hT]
  have := lv_lt (m := p) (by omega) hT
  omega
 have hl1 := fun h0 => l1Number2_fn (la p (storyTab p l)) h0 hle
 generalize la p (storyTab p l) = q at *
 by_cases hq : q < 0
 ·rw [numTx_neg hq]
  refine FnZ_of (rs := [.tmp 4]) false Tryz.func25 rfl rfl rfl rfl (Nat.le_of_ble_eq_true rfl) ?_
  simp -dsimp
  refine call_ hst (by simp -dsimp) ?_
  simp -dsimp [wAsks]
  refine call_ hla (by simp -dsimp) ?_
  simp -dsimp [hq,wNone]
 ·have hnt := hl1 (by omega)
  rw [numTx_pos hq]
  generalize dec q = r at *
  refine FnZ_of (rs := [.tmp 4]) false Tryz.func25 rfl rfl rfl rfl (Nat.le_of_ble_eq_true rfl) ?_
  simp -dsimp
  refine call_ hst (by simp -dsimp) ?_
  simp -dsimp [wAsks]
  refine call_ hla (by simp -dsimp) ?_
  simp -dsimp [hq]
  refine call_ hnt (by simp -dsimp) ?_
  simp -dsimp
theorem answerS_many (p : Nat) (l : List Claim) (h : storyOk p l = true) (line : List UInt8) (hl : line.length ≤ 2000000000) (hn : noWord line) (hr : (cutAt 32 line).length ≠ 2) : FnZ Tryz.prog 25 [(⟨p,l⟩ : Place).v,.str line] (.str wWhat) := by
 obtain ⟨h1,h4,hc,h6⟩ := allOk_of h
 have hst := l4Story_fn p l (by omega) (by omega) (by omega) hc
 have hcut := l1Cut_fn line 32 hl
 obtain ⟨hn1,hn2,hn3,hn4,hn5,hn6,hn7⟩ := hn
 simp only [wPlace,wWorlds,wOnly,wKnown,wNeedless,wSpies,wAsks] at hn1 hn2 hn3 hn4 hn5 hn6 hn7
 obtain ⟨C,hC⟩ : ∃ C,cutAt 32 line = C := ⟨_,rfl⟩
 rw [hC] at hcut hr
 have hr2 : ¬ (C.length : Int) = 2 := by omega
 refine FnZ_of (rs := [.tmp 4]) false Tryz.func25 rfl rfl rfl rfl (Nat.le_of_ble_eq_true rfl) ?_
 simp -dsimp
 refine call_ hst (by simp -dsimp) ?_
 simp -dsimp [hn1,hn2,hn3,hn4,hn5,hn6,hn7]
 refine call_ hcut (by simp -dsimp) ?_
 simp -dsimp [hr,hr2,wWhat]
theorem answerS_none (p : Nat) (l : List Claim) (h : storyOk p l = true) (line w r : List UInt8) (hl : line.length ≤ 2000000000) (hn : noWord line) (hC : cutAt 32 line = [w,r]) (hr : readT p r = none) : FnZ Tryz.prog 25 [(⟨p,l⟩ : Place).v,.str line] (.str (wWhat)) := by
 obtain ⟨h1,h4,hc,h6⟩ := allOk_of h
 have hst := l4Story_fn p l (by omega) (by omega) (by omega) hc
 have hcut := l1Cut_fn line 32 hl
 have hrt := readTermS_fn p r
 obtain ⟨hn1,hn2,hn3,hn4,hn5,hn6,hn7⟩ := hn
 simp only [wPlace,wWorlds,wOnly,wKnown,wNeedless,wSpies,wAsks] at hn1 hn2 hn3 hn4 hn5 hn6 hn7
 rw [hC] at hcut
 rw [hr] at hrt
 simp only [optV,Option.getD_none,Option.isSome_none] at hrt
 refine FnZ_of (rs := [.tmp 4]) false Tryz.func25 rfl rfl rfl rfl (Nat.le_of_ble_eq_true rfl) ?_
 simp -dsimp
 refine call_ hst (by simp -dsimp) ?_
 simp -dsimp [hn1,hn2,hn3,hn4,hn5,hn6,hn7]
 refine call_ hcut (by simp -dsimp) ?_
 simp -dsimp
 refine twp_draw (List.range 11) [0] (List.replicate 11 [0]) (List.replicate 11 [0]) (by kernel_rfl) (by kernel_rfl) (by kernel_rfl) (by kernel_rfl) ?_
 simp -dsimp [List.range_succ]
 refine call_ hrt (by simp -dsimp) ?_
 simp -dsimp [wWhat]
theorem answerS_follows (p : Nat) (l : List Claim) (h : storyOk p l = true) (line w r : List UInt8) (hl : line.length ≤ 2000000000) (hn : noWord line) (hC : cutAt 32 line = [w,r]) (t : List Mark) (hr : readT p r = some t) (hw : w = wFollows) : FnZ Tryz.prog 25 [(⟨p,l⟩ : Place).v,.str line] (.str (if followsB p l t = true then wYes else wNo)) := by
 obtain ⟨h1,h4,hc,h6⟩ := allOk_of h
 have hst := l4Story_fn p l (by omega) (by omega) (by omega) hc
 have hcut := l1Cut_fn line 32 hl
 have hrt := readTermS_fn p r
 obtain ⟨hn1,hn2,hn3,hn4,hn5,hn6,hn7⟩ := hn
 simp only [wPlace,wWorlds,wOnly,wKnown,wNeedless,wSpies,wAsks] at hn1 hn2 hn3 hn4 hn5 hn6 hn7
 rw [hC] at hcut
 rw [hr] at hrt
 simp only [optV,Option.getD_some,Option.isSome_some] at hrt
 have hto := (readT_is hr).2.1
 have hff := followsFromS_fn p l t h hto
 simp only [wFollows] at hw
 subst hw
 have hb := ft (followsB p l t)
 rcases hb with hb | hb
 ·rw [hb] at hff ⊢
  refine FnZ_of (rs := [.tmp 4]) false Tryz.func25 rfl rfl rfl rfl (Nat.le_of_ble_eq_true rfl) ?_
  simp -dsimp
  refine call_ hst (by simp -dsimp) ?_
  simp -dsimp [hn1,hn2,hn3,hn4,hn5,hn6,hn7]
  refine call_ hcut (by simp -dsimp) ?_
  simp -dsimp
  refine twp_draw (List.range 11) [0] (List.replicate 11 [0]) (List.replicate 11 [0]) (by kernel_rfl) (by kernel_rfl) (by kernel_rfl) (by kernel_rfl) ?_
  simp -dsimp [List.range_succ]
  refine call_ hrt (by simp -dsimp) ?_
  simp -dsimp
  refine call_ hff (by simp -dsimp) ?_
  simp -dsimp [wNo]
 ·rw [hb] at hff ⊢
  refine FnZ_of (rs := [.tmp 4]) false Tryz.func25 rfl rfl rfl rfl (Nat.le_of_ble_eq_true rfl) ?_
  simp -dsimp
  refine call_ hst (by simp -dsimp) ?_
  simp -dsimp [hn1,hn2,hn3,hn4,hn5,hn6,hn7]
  refine call_ hcut (by simp -dsimp) ?_
  simp -dsimp
  refine twp_draw (List.range 11) [0] (List.replicate 11 [0]) (List.replicate 11 [0]) (by kernel_rfl) (by kernel_rfl) (by kernel_rfl) (by kernel_rfl) ?_
  simp -dsimp [List.range_succ]
  refine call_ hrt (by simp -dsimp) ?_
  simp -dsimp
  refine call_ hff (by simp -dsimp) ?_
  simp -dsimp [wYes]
theorem answerS_proof (p : Nat) (l : List Claim) (h : storyOk p l = true) (line w r : List UInt8) (hl : line.length ≤ 2000000000) (hn : noWord line) (hC : cutAt 32 line = [w,r]) (t : List Mark) (hr : readT p r = some t) (hw : w = wProof) : FnZ Tryz.prog 25 [(⟨p,l⟩ : Place).v,.str line] (.str (match findT p l t p 0 with
  | some y => y.tx
  | none => wNone)) := by
 obtain ⟨h1,h4,hc,h6⟩ := allOk_of h
 have hst := l4Story_fn p l (by omega) (by omega) (by omega) hc
 have hcut := l1Cut_fn line 32 hl
 have hrt := readTermS_fn p r
 obtain ⟨hn1,hn2,hn3,hn4,hn5,hn6,hn7⟩ := hn
 simp only [wPlace,wWorlds,wOnly,wKnown,wNeedless,wSpies,wAsks] at hn1 hn2 hn3 hn4 hn5 hn6 hn7
 rw [hC] at hcut
 rw [hr] at hrt
 simp only [optV,Option.getD_some,Option.isSome_some] at hrt
 have hto := (readT_is hr).2.1
 have hfp := findProofS_fn p l t h hto
 have hfo := fun y (hy : findT p l t p 0 = some y) => findT_ok p 0 y (Nat.le_refl _) hy
 obtain ⟨o,ho⟩ : ∃ o,findT p l t p 0 = o := ⟨_,rfl⟩
 rw [ho] at hfp hfo ⊢
 simp only [wProof] at hw
 subst hw
 cases o with
 | none =>
  obtain ⟨PV,hPV⟩ : ∃ x,proofV none = .agg [.int .i64 0,.sl x] := ⟨_,rfl⟩
  rw [hPV] at hfp
  simp only [Option.isSome_none] at hfp
  refine FnZ_of (rs := [.tmp 4]) false Tryz.func25 rfl rfl rfl rfl (Nat.le_of_ble_eq_true rfl) ?_
  simp -dsimp
  refine call_ hst (by simp -dsimp) ?_
  simp -dsimp [hn1,hn2,hn3,hn4,hn5,hn6,hn7]
  refine call_ hcut (by simp -dsimp) ?_
  simp -dsimp
  refine twp_draw (List.range 11) [0] (List.replicate 11 [0]) (List.replicate 11 [0]) (by kernel_rfl) (by kernel_rfl) (by kernel_rfl) (by kernel_rfl) ?_
  simp -dsimp [List.range_succ]
  refine call_ hrt (by simp -dsimp) ?_
  simp -dsimp
  refine call_ hfp (by simp -dsimp) ?_
  simp -dsimp [wNone]
 | some y =>
  obtain ⟨y1,y2⟩ := hfo y rfl
  rw [Nat.sub_self] at y1
  have hp2 := pow_small (p := p) (by omega)
  have hpt := proofTextS_fn p l t h hto y y1 (by omega)
  obtain ⟨F,hF⟩ : ∃ F,y.to 0 = F := ⟨_,rfl⟩
  obtain ⟨rv,hrv⟩ : ∃ rv,(y.row 0).map Sp.v = rv := ⟨_,rfl⟩
  have hpv : proofV (some y) = .agg [.int .i64 F,.sl rv] := by rw [← hF,← hrv]; rfl
  rw [hpv] at hfp hpt
  simp only [Option.isSome_some] at hfp
  obtain ⟨X,hX⟩ : ∃ X,y.tx = X := ⟨_,rfl⟩
  rw [hX] at hpt
  simp only [hX]
  refine FnZ_of (rs := [.tmp 4]) false Tryz.func25 rfl rfl rfl rfl (Nat.le_of_ble_eq_true rfl) ?_
  simp -dsimp
  refine call_ hst (by simp -dsimp) ?_
  simp -dsimp [hn1,hn2,hn3,hn4,hn5,hn6,hn7]
  refine call_ hcut (by simp -dsimp) ?_
  simp -dsimp
  refine twp_draw (List.range 11) [0] (List.replicate 11 [0]) (List.replicate 11 [0]) (by kernel_rfl) (by kernel_rfl) (by kernel_rfl) (by kernel_rfl) ?_
  simp -dsimp [List.range_succ]
  refine call_ hrt (by simp -dsimp) ?_
  simp -dsimp
  refine call_ hfp (by simp -dsimp) ?_
  simp -dsimp
  refine call_ hpt (by simp -dsimp) ?_
  simp -dsimp
theorem answerS_count (p : Nat) (l : List Claim) (h : storyOk p l = true) (line w r : List UInt8) (hl : line.length ≤ 2000000000) (hn : noWord line) (hC : cutAt 32 line = [w,r]) (t : List Mark) (hr : readT p r = some t) (hw : w = wCount) : FnZ Tryz.prog 25 [(⟨p,l⟩ : Place).v,.str line] (.str (dec (((worldsOf p (storyTab p l &&& termTab p t)).length : Nat) : Int))) := by
 obtain ⟨h1,h4,hc,h6⟩ := allOk_of h
 have hst := l4Story_fn p l (by omega) (by omega) (by omega) hc
 have hcut := l1Cut_fn line 32 hl
 have hrt := readTermS_fn p r
 obtain ⟨hn1,hn2,hn3,hn4,hn5,hn6,hn7⟩ := hn
 simp only [wPlace,wWorlds,wOnly,wKnown,wNeedless,wSpies,wAsks] at hn1 hn2 hn3 hn4 hn5 hn6 hn7
 rw [hC] at hcut
 rw [hr] at hrt
 simp only [optV,Option.getD_some,Option.isSome_some] at hrt
 have hto := (readT_is hr).2.1
 have htt := l3Table_fn p t hto
 have hs1 := storyTab_le p l
 have hs0 := storyTab_small (p := p) (by omega) l
 have ht0 := termTab_small (p := p) (by omega) t
 have hT : InT p (storyTab p l &&& termTab p t) := Nat.lt_of_le_of_lt Nat.and_le_left hs1
 have hle := worldsOf_le (p := p) (by omega) (storyTab p l &&& termTab p t)
 have hand := and_nn (a := storyTab p l) (b := termTab p t) (by omega) (by omega)
 have hcn := cnt_worlds hT
 have hhd := l1Heads_fn (storyTab p l &&& termTab p t) (by have : storyTab p l &&& termTab p t ≤ storyTab p l := Nat.and_le_left; omega)
 rw [hcn] at hhd
 have hit := l1Number2_fn ((worldsOf p (storyTab p l &&& termTab p t)).length : Nat) (by omega) (by omega)
 simp only [wCount] at hw
 subst hw
 obtain ⟨A,hA⟩ : ∃ A,storyTab p l = A := ⟨_,rfl⟩
 obtain ⟨B,hB⟩ : ∃ B,termTab p t = B := ⟨_,rfl⟩
 rw [hA] at hst hhd hand hit ⊢
 rw [hB] at htt hhd hand hit ⊢
 obtain ⟨WL,hWL⟩ : ∃ WL,(worldsOf p (A &&& B)).length = WL := ⟨_,rfl⟩
 rw [hWL] at hhd hit ⊢
 obtain ⟨D,hD⟩ : ∃ D,dec ((WL : Nat) : Int) = D := ⟨_,rfl⟩
 rw [hD] at hit ⊢
 refine FnZ_of (rs := [.tmp 4]) false Tryz.func25 rfl rfl rfl rfl (Nat.le_of_ble_eq_true rfl) ?_
 simp -dsimp
 refine call_ hst (by simp -dsimp) ?_
 simp -dsimp [hn1,hn2,hn3,hn4,hn5,hn6,hn7]
 refine call_ hcut (by simp -dsimp) ?_
 simp -dsimp
 refine twp_draw (List.range 11) [0] (List.replicate 11 [0]) (List.replicate 11 [0]) (by kernel_rfl) (by kernel_rfl) (by kernel_rfl) (by kernel_rfl) ?_
 simp -dsimp [List.range_succ]
 refine call_ hrt (by simp -dsimp) ?_
 simp -dsimp
 refine call_ htt (by simp -dsimp) ?_
 simp -dsimp [hand]
 refine call_ hhd (by simp -dsimp) ?_
 simp -dsimp
 refine call_ hit (by simp -dsimp) ?_
 simp -dsimp
theorem answerS_else (p : Nat) (l : List Claim) (h : storyOk p l = true) (line w r : List UInt8) (hl : line.length ≤ 2000000000) (hn : noWord line) (hC : cutAt 32 line = [w,r]) (t : List Mark) (hr : readT p r = some t) (hw : ¬ w = wFollows ∧ ¬ w = wProof ∧ ¬ w = wCount) : FnZ Tryz.prog 25 [(⟨p,l⟩ : Place).v,.str line] (.str (wWhat)) := by
 obtain ⟨h1,h4,hc,h6⟩ := allOk_of h
 have hst := l4Story_fn p l (by omega) (by omega) (by omega) hc
 have hcut := l1Cut_fn line 32 hl
 have hrt := readTermS_fn p r
 obtain ⟨hn1,hn2,hn3,hn4,hn5,hn6,hn7⟩ := hn
 simp only [wPlace,wWorlds,wOnly,wKnown,wNeedless,wSpies,wAsks] at hn1 hn2 hn3 hn4 hn5 hn6 hn7
 rw [hC] at hcut
 rw [hr] at hrt
 simp only [optV,Option.getD_some,Option.isSome_some] at hrt
 have hto := (readT_is hr).2.1
 obtain ⟨w1,w2,w3⟩ := hw
 simp only [wFollows,wProof,wCount] at w1 w2 w3
 refine FnZ_of (rs := [.tmp 4]) false Tryz.func25 rfl rfl rfl rfl (Nat.le_of_ble_eq_true rfl) ?_
 simp -dsimp
 refine call_ hst (by simp -dsimp) ?_
 simp -dsimp [hn1,hn2,hn3,hn4,hn5,hn6,hn7]
 refine call_ hcut (by simp -dsimp) ?_
 simp -dsimp
 refine twp_draw (List.range 11) [0] (List.replicate 11 [0]) (List.replicate 11 [0]) (by kernel_rfl) (by kernel_rfl) (by kernel_rfl) (by kernel_rfl) ?_
 simp -dsimp [List.range_succ]
 refine call_ hrt (by simp -dsimp) ?_
 simp -dsimp [w1,w2,w3,wWhat]
theorem answerS_fn (q : Place) (hq : placeOk q = true) (line : List UInt8) (hl : line.length ≤ 2000000000) : FnZ Tryz.prog 25 [q.v,.str line] (.str (ans q line)) := by
 obtain ⟨people,l⟩ := q
 have h : storyOk people l = true := hq
 obtain ⟨p,rfl⟩ := Int.eq_ofNat_of_zero_le (show 0 ≤ people by have := (allOk_of h).1; omega)
 unfold ans
 simp only [Int.toNat_natCast]
 by_cases c1 : line = wPlace
 ·rw [if_pos c1,c1]; exact answerS_place p l h
 by_cases c2 : line = wWorlds
 ·rw [if_neg c1,if_pos c2,c2]; exact answerS_worlds p l h
 by_cases c3 : line = wOnly
 ·rw [if_neg c1,if_neg c2,if_pos c3,c3]; exact answerS_only p l h
 by_cases c4 : line = wKnown
 ·rw [if_neg c1,if_neg c2,if_neg c3,if_pos c4,c4]; exact answerS_known p l h
 by_cases c5 : line = wNeedless
 ·rw [if_neg c1,if_neg c2,if_neg c3,if_neg c4,if_pos c5,c5]; exact answerS_needless p l h
 by_cases c6 : line = wSpies
 ·rw [if_neg c1,if_neg c2,if_neg c3,if_neg c4,if_neg c5,if_pos c6,c6]; exact answerS_spies p l h
 by_cases c7 : line = wAsks
 ·rw [if_neg c1,if_neg c2,if_neg c3,if_neg c4,if_neg c5,if_neg c6,if_pos c7,c7]; exact answerS_asks p l h
 rw [if_neg c1,if_neg c2,if_neg c3,if_neg c4,if_neg c5,if_neg c6,if_neg c7]
 have hn : noWord line := ⟨c1,c2,c3,c4,c5,c6,c7⟩
 rcases two_words p line with ⟨w,r,hC,e1,e2⟩ | ⟨hm,hnone⟩
 ·rw [e1,e2]
  cases hr : readT p r with
  | none => exact answerS_none p l h line w r hl hn hC hr
  | some t =>
   show FnZ Tryz.prog 25 _ (.str (askT p l w t))
   unfold askT
   by_cases d1 : w = wFollows
   ·rw [if_pos d1]; exact answerS_follows p l h line w r hl hn hC t hr d1
   by_cases d2 : w = wProof
   ·rw [if_neg d1,if_pos d2]; exact answerS_proof p l h line w r hl hn hC t hr d2
   by_cases d3 : w = wCount
   ·rw [if_neg d1,if_neg d2,if_pos d3]; exact answerS_count p l h line w r hl hn hC t hr d3
   rw [if_neg d1,if_neg d2,if_neg d3]; exact answerS_else p l h line w r hl hn hC t hr ⟨d1,d2,d3⟩
 ·rw [hnone]; exact answerS_many p l h line hl hn hm
end TL

namespace TL
open Go Go.Proofs
attribute [local simp] marksV storyV codeV Claim.v Place.v
theorem mkT_flat (l : List Mark) : (l.map Mark.v).flatMap (fun x => x.cells.map T.v) = mkT l := by
 induction l with
 | nil => rfl
 | cons a l ih => rw [List.map_cons,List.flatMap_cons,ih]; rfl
theorem mkT_kind (k : Int) : ∀ (l : List Mark) (i : Nat),(h : i < l.length) → (mkT l).set (i * 2) (.v (.int .i64 k)) = mkT (l.set i ⟨k,l[i].num⟩)
 | [],i,h => by simp at h
 | a :: l,0,h => rfl
 | a :: l,i + 1,h => by
  have e : (i + 1) * 2 = i * 2 + 1 + 1 := by omega
  rw [e]
  show T.v _ :: T.v _ :: (mkT l).set (i * 2) _ = T.v _ :: T.v _ :: mkT (l.set i _)
  rw [mkT_kind k l i (by simpa using h)]; rfl
theorem mkT_num (k : Int) : ∀ (l : List Mark) (i : Nat),(h : i < l.length) → (mkT l).set (i * 2 + 1) (.v (.int .i64 k)) = mkT (l.set i ⟨l[i].kind,k⟩)
 | [],i,h => by simp at h
 | a :: l,0,h => rfl
 | a :: l,i + 1,h => by
  have e : (i + 1) * 2 + 1 = (i * 2 + 1) + 1 + 1 := by omega
  rw [e]
  show T.v _ :: T.v _ :: (mkT l).set (i * 2 + 1) _ = T.v _ :: T.v _ :: mkT (l.set i _)
  rw [mkT_num k l i (by simpa using h)]; rfl
/-- Marks that count on from k. -/
def cnts (k : Int) : Nat → List Mark
 | 0 => []
 | n + 1 => cnts k n ++ [⟨k + 2 * n,k + 2 * n + 1⟩]
@[simp] theorem cnts_length (k : Int) (n : Nat) : (cnts k n).length = n := by
 induction n with
 | zero => rfl
 | succ n ih => simp [cnts,ih]
theorem cnts_get (k : Int) : ∀ (n i : Nat) (h : i < n),(cnts k n)[i]? = some ⟨k + 2 * i,k + 2 * i + 1⟩
 | n + 1,i,h => by
  unfold cnts
  by_cases hi : i < n
  ·rw [List.getElem?_append_left (by simpa using hi)]; exact cnts_get k n i hi
  ·have : i = n := by omega
   subst this
   rw [List.getElem?_append_right (by simp)]; simp
theorem cnts_step (k : Int) (l : List Mark) (i : Nat) (h : i < l.length) (a : Int) : ((cnts k i ++ l.drop i).set i ⟨k + 2 * i,a⟩).set i ⟨k + 2 * i,k + 2 * i + 1⟩ = cnts k (i + 1) ++ l.drop (i + 1) := by
 rw [List.set_set,List.set_append_right _ _ (by simp),cnts_length,Nat.sub_self,drop_cons h,List.set_cons_zero]
 simp [cnts]
def Imk (id : Nat) (l : List Mark) (k : Int) (m0 : Mem) (n0 : Nat) (e : Nat) (s : S) : Prop := ∃ i : Nat,s.tm 0 = .sv id 0 l.length ∧ s.tm 1 = .v (.int .i64 (k + 2 * i)) ∧ s.tm 5 = .v (.int .i64 i) ∧ i ≤ l.length ∧ n0 ≤ s.n ∧ s.m = updM m0 id (some (.box 165 2 (mkT (cnts k i ++ l.drop i)))) ∧ (e = 1 → i = l.length)
theorem markMarkS_fn (l : List Mark) (k : Int) (hl : l.length ≤ 1000000000) (hk0 : 0 ≤ k) (hk : k ≤ 100000000000000) (m : Mem) (n id : Nat) (hm : m id = some (.box 165 2 (mkT l))) :
  FnS Tryz.prog 143 m n [.sv id 0 l.length,.v (.int .i64 k)] (fun t m' n' => t = .v (.int .i64 (k + 2 * l.length)) ∧ n ≤ n' ∧ m' = updM m id (some (.box 165 2 (mkT (cnts k l.length))))) := by
 refine FnS_of (rs := [.tmp 4]) false Tryz.func143 rfl rfl rfl rfl (Nat.le_of_ble_eq_true rfl) ?_
 simp -dsimp
 refine twp_loopC (Imk id l k m n 0) (fun s => l.length - natOf (s.tm 5)) (Imk id l k m n 1) ?_ ?_ ?_
 ·exact ⟨0,by simp -dsimp,by simp -dsimp,by simp -dsimp,by omega,by simp -dsimp,by simp -dsimp [cnts]; exact (updM_self hm).symm,by simp⟩
 ·rintro s ⟨i,t0,t1,t5,hi,hn,hmm,hend⟩
  by_cases hlt : i < l.length
  case neg =>
   simp -dsimp [t0,t5,hlt]
   exact ⟨i,by simp -dsimp [t0],by simp -dsimp [t1],by simp -dsimp [t5],hi,by simp -dsimp [hn],by simp -dsimp [hmm],fun _ => by omega⟩
  have hL : (cnts k i ++ l.drop i).length = l.length := by simp; omega
  have e1 := mkT_kind (k + 2 * i) (cnts k i ++ l.drop i) i (by omega)
  generalize hnum : ((cnts k i ++ l.drop i)[i]'(by omega)).num = nu at *
  have e2 := mkT_num (k + 2 * i + 1) ((cnts k i ++ l.drop i).set i ⟨k + 2 * i,nu⟩) i (by simp; omega)
  have e3 : (((cnts k i ++ l.drop i).set i ⟨k + 2 * i,nu⟩)[i]'(by simp; omega)).kind = k + 2 * i := by simp
  rw [e3,cnts_step k l i hlt] at e2
  have hmi : s.m id = some (.box 165 2 (mkT (cnts k i ++ l.drop i))) := by rw [hmm,updM_same]
  have hlen1 : (mkT (cnts k i ++ l.drop i)).length = l.length * 2 := by rw [mkT_length,hL]
  have hlen2 : (mkT ((cnts k i ++ l.drop i).set i ⟨k + 2 * i,nu⟩)).length = l.length * 2 := by rw [mkT_length,List.length_set,hL]
  have wi : IntKind.wrap .i64 ((i : Int) + 1) = ((i + 1 : Nat) : Int) := by rw [w64 (by omega) (by omega)]; omega
  have w1 : IntKind.wrap .i64 (k + 2 * i + 1) = k + 2 * i + 1 := w64 (by omega) (by omega)
  have w2 : IntKind.wrap .i64 (k + 2 * i + 1 + 1) = k + 2 * ((i + 1 : Nat) : Int) := by rw [w64 (by omega) (by omega)]; omega
  have hmu : l.length - (i + 1) < l.length - i := by omega
  have hlt' : (i : Int) < (l.length : Int) := by omega
  have o1 : i * 2 + 1 ≤ l.length * 2 := by omega
  have o2 : i * 2 + 1 + 1 ≤ l.length * 2 := by omega
  have o3 : i * 2 < l.length * 2 := by omega
  have o4 : i * 2 + 1 < l.length * 2 := by omega
  generalize mkT (cnts k i ++ l.drop i) = c1 at *
  generalize mkT ((cnts k i ++ l.drop i).set i ⟨k + 2 * i,nu⟩) = c2 at *
  generalize hc3 : mkT (cnts k (i + 1) ++ l.drop (i + 1)) = c3 at *
  simp -dsimp [t0,t1,t5,hlt,hlt',hmi,hlen1,hlen2,setAt,e1,e2,w1,w2,wi,hmu,o1,o2,o3,o4]
  refine st_out fun s' ht hm' hn' hu' => ?_
  have a0 := ht 0
  have a1 := ht 1
  have a5 := ht 5
  simp -dsimp [t0] at a0 a1 a5 hm' hn' hu'
  clear ht
  refine ⟨i + 1,a0,by rw [a1]; congr 3,a5,by omega,by omega, ?_,by simp⟩
  rw [hm',hmm,hc3]; simp
 ·rintro s ⟨i,t0,t1,t5,hi,hn,hmm,hend⟩
  have hil := hend rfl
  rw [hil,List.drop_length,List.append_nil] at hmm
  rw [hil] at t1
  simp -dsimp [t1]
  exact ⟨hn,hmm⟩
def IhdM (k : Int) (l : Nat) (e : Nat) (s : S) : Prop := ∃ i : Nat,s.tm 0 = .v (.sl ((cnts k l).map Mark.v)) ∧ s.tm 1 = .v (.int .i64 (k + 2 * i)) ∧ s.tm 5 = .v (.int .i64 i) ∧ i ≤ l ∧ (e = 1 → i = l)
theorem heldMarkS_fn (l : Nat) (k : Int) (hl : l ≤ 1000000000) (hk0 : 0 ≤ k) (hk : k ≤ 100000000000000) : FnZ Tryz.prog 144 [.sl ((cnts k l).map Mark.v),.int .i64 k] (.int .i64 (k + 2 * l)) := by
 refine FnZ_of (rs := [.tmp 4]) false Tryz.func144 rfl rfl rfl rfl (Nat.le_of_ble_eq_true rfl) ?_
 simp -dsimp
 refine twp_loopC (IhdM k l 0) (fun s => l - natOf (s.tm 5)) (IhdM k l 1) ?_ ?_ ?_
 ·exact ⟨0,by simp -dsimp,by simp -dsimp,by simp -dsimp,by omega,by simp⟩
 ·rintro s ⟨i,t0,t1,t5,hi,hend⟩
  by_cases hlt : i < l
  case neg =>
   simp -dsimp [t0,t5,hlt]
   exact ⟨i,by simp -dsimp [t0],by simp -dsimp [t1],by simp -dsimp [t5],hi,fun _ => by omega⟩
  have hget : ((cnts k l).map Mark.v)[i]? = some (Mark.v ⟨k + 2 * i,k + 2 * i + 1⟩) := by rw [List.getElem?_map,cnts_get k l i hlt]; rfl
  have hcl : ((cnts k l).map Mark.v).length = l := by simp
  have wi : IntKind.wrap .i64 ((i : Int) + 1) = ((i + 1 : Nat) : Int) := by rw [w64 (by omega) (by omega)]; omega
  have w1 : IntKind.wrap .i64 (k + 2 * i + 1) = k + 2 * i + 1 := w64 (by omega) (by omega)
  have w2 : IntKind.wrap .i64 (k + 2 * i + 1 + 1) = k + 2 * ((i + 1 : Nat) : Int) := by rw [w64 (by omega) (by omega)]; omega
  have hmu : l - (i + 1) < l - i := by omega
  generalize hrow : (cnts k l).map Mark.v = row at *
  have hlt2 : i < row.length := by omega
  have hget2 : row[i] = Mark.v ⟨k + 2 * i,k + 2 * i + 1⟩ := by rw [List.getElem?_eq_getElem hlt2] at hget; exact Option.some.inj hget
  simp -dsimp [t0,t1,t5,hlt,hlt2,hcl,hget2,w1,w2,wi,hmu]
  refine st_out fun s' ht hm' hn' hu' => ?_
  have a0 := ht 0
  have a1 := ht 1
  have a5 := ht 5
  simp -dsimp [t0] at a0 a1 a5 hm' hn' hu'
  clear ht
  exact ⟨i + 1,by rw [a0,hrow],by rw [a1]; congr 3,a5,by omega,by simp⟩
 ·rintro s ⟨i,t0,t1,t5,hi,hend⟩
  have hil := hend rfl
  rw [hil] at t1
  simp -dsimp [t1]
/-- A row of marks in memory of one's own. -/
def OwnRow (m' : Mem) (n n' : Nat) (st : T) (l : List Mark) : Prop := ∃ id,st = .sv id 0 l.length ∧ n ≤ id ∧ id < n' ∧ m' id = some (.box 165 2 (mkT l))
theorem cloneMarks_own (l : List Mark) (h0 : l ≠ []) (hl : l.length ≤ 1048576) (m : Mem) (n : Nat) : FnS Tryz.prog 167 m n [.v (marksV l)] (fun t m' n' => n ≤ n' ∧ (∀ j,j < n → m' j = m j) ∧ OwnRow m' n n' t l) := by
 have b1 : l.length * 16 ≤ 140737488355328 := by omega
 have hfl := mkT_flat l
 refine FnS_of (rs := [.tmp 2]) true Tryz.func167 rfl rfl rfl rfl (Nat.le_of_ble_eq_true rfl) ?_
 simp -dsimp [b1,h0,hfl]
 exact ⟨by omega,fun j hj => by simp [far hj],n + 1,rfl,by omega,by omega,by simp⟩
theorem opens_str (w : World) : Opens Tryz.prog w 9 fun vs => ∃ s : List UInt8,s.length ≤ maxLen ∧ vs = [.str s] :=
 (opens_string Tryz.underlying9).mono fun vs h => by obtain ⟨s,rfl,hl⟩ := h; exact ⟨s,hl,rfl⟩
end TL

namespace TL
open Go Go.Proofs
attribute [local simp] marksV storyV codeV Claim.v Place.v
def clT : List Claim → List Nat → List T
 | c :: l,j :: js => .v (.int .i64 c.who) :: .sv j 0 c.says.length :: clT l js
 | _,_ => []
@[simp] theorem clT_nil (js : List Nat) : clT [] js = [] := by cases js <;> rfl
@[simp] theorem clT_cons (c : Claim) (l : List Claim) (j : Nat) (js : List Nat) : clT (c :: l) (j :: js) = .v (.int .i64 c.who) :: .sv j 0 c.says.length :: clT l js := rfl
theorem clT_app : ∀ (A B : List Claim) (ja jb : List Nat),A.length = ja.length → clT (A ++ B) (ja ++ jb) = clT A ja ++ clT B jb
 | [],B,[],jb,h => rfl
 | c :: A,B,j :: ja,jb,h => by simp [clT_app A B ja jb (by simpa using h)]
 | [],B,j :: ja,jb,h => by simp at h
 | c :: A,B,[],jb,h => by simp at h
theorem clT_len : ∀ (A : List Claim) (ja : List Nat),A.length = ja.length → (clT A ja).length = A.length * 2
 | [],[],h => rfl
 | c :: A,j :: ja,h => by simp [clT_len A ja (by simpa using h)]; omega
 | [],j :: ja,h => by simp at h
 | c :: A,[],h => by simp at h
theorem clT_cells : ∀ (A : List Claim) (ja : List Nat),allC (clT A ja)
 | [],ja => by simp
 | c :: A,[] => by simp [clT]
 | c :: A,j :: ja => by simp; exact clT_cells A ja
/-- The rows of marks lie where the ids say. -/
def Says (m : Mem) : List Claim → List Nat → Prop
 | [],[] => True
 | c :: l,j :: js => m j = some (.box 165 2 (mkT c.says)) ∧ Says m l js
 | _,_ => False
theorem Says.len {m : Mem} : ∀ {l : List Claim} {js : List Nat},Says m l js → l.length = js.length
 | [],[],_ => rfl
 | c :: l,j :: js,h => by simp [Says.len h.2]
 | [],j :: js,h => h.elim
 | c :: l,[],h => h.elim
theorem Says.keep {m m' : Mem} : ∀ {l : List Claim} {js : List Nat},Says m l js → (∀ j ∈ js,m' j = m j) → Says m' l js
 | [],[],_,_ => trivial
 | c :: l,j :: js,h,hk => ⟨by rw [hk j (by simp)]; exact h.1,h.2.keep fun x hx => hk x (by simp [hx])⟩
 | [],j :: js,h,_ => h.elim
 | c :: l,[],h,_ => h.elim
theorem Says.app {m : Mem} : ∀ {A B : List Claim} {ja jb : List Nat},A.length = ja.length → (Says m (A ++ B) (ja ++ jb) ↔ Says m A ja ∧ Says m B jb)
 | [],B,[],jb,h => by simp [Says]
 | c :: A,B,j :: ja,jb,h => by
  have := Says.app (m := m) (A := A) (B := B) (ja := ja) (jb := jb) (by simpa using h)
  simp only [List.cons_append,Says,this,and_assoc]
 | [],B,j :: ja,jb,h => by simp at h
 | c :: A,B,[],jb,h => by simp at h
theorem clT_bor {m : Mem} (d : Nat) : ∀ {l : List Claim} {js : List Nat},Says m l js → mapO (bor true m (d + 1)) (clT l js) = some (l.flatMap fun c => c.v.cells)
 | [],[],_ => rfl
 | c :: l,j :: js,h => by
  have e := bor_marks (m := m) (i := j) (e := 165) (ms := c.says) d h.1
  have e2 := clT_bor d h.2
  simp only [marksV] at e
  simp [mapO,e,e2,V.cells]
 | [],j :: js,h => h.elim
 | c :: l,[],h => h.elim
theorem clV_cell (l : List Claim) : ∀ x ∈ (l.flatMap fun c => c.v.cells),x.cell = true := by
 intro x hx
 obtain ⟨p,_,hp⟩ := List.mem_flatMap.1 hx
 simp [V.cells] at hp
 rcases hp with rfl | rfl <;> rfl
theorem clV_chunk (l : List Claim) : chunk 2 l.length (l.flatMap fun c => c.v.cells) = l.map Claim.v := by
 induction l with
 | nil => rfl
 | cons x xs ih => simp [chunk,V.cells]; simpa [V.cells] using ih
theorem bor_claims {m : Mem} {i e : Nat} {l : List Claim} {js : List Nat} (d : Nat) (h : m i = some (.box e 2 (clT l js))) (hs : Says m l js) : bor true m (d + 2) (.sv i 0 l.length) = some (.sl (l.map Claim.v)) := by
 have hl := clT_len l js hs.len
 have c1 : 0 + l.length * 2 ≤ (clT l js).length := by omega
 show (match m i with | some (.box _ z cs) => tst (0 + l.length * z ≤ cs.length) (obind (mapO (TL.bor true m (d + 1)) ((cs.drop 0).take (l.length * z))) fun xs => tst (∀ x ∈ xs,x.cell = true) (some (V.sl (chunk z l.length xs)))) | _ => none) = _
 rw [h]
 show tst (0 + l.length * 2 ≤ (clT l js).length) (obind (mapO (TL.bor true m (d + 1)) (((clT l js).drop 0).take (l.length * 2))) fun xs => tst (∀ x ∈ xs,x.cell = true) (some (V.sl (chunk 2 l.length xs)))) = _
 rw [tst_pos c1,List.drop_zero,List.take_of_length_le (by omega),clT_bor d hs,obind_some,tst_pos (clV_cell l),clV_chunk]
/-! Marks. -/
def mkc (k : Int) : List Claim → List Claim
 | [] => []
 | c :: l => ⟨k,cnts (k + 1) c.says.length⟩ :: mkc (k + 1 + 2 * c.says.length) l
def mkn (k : Int) : List Claim → Int
 | [] => k
 | c :: l => mkn (k + 1 + 2 * c.says.length) l
theorem mkn_ge : ∀ (l : List Claim) (k : Int),k + l.length ≤ mkn k l
 | [],k => by simp [mkn]
 | c :: l,k => by have := mkn_ge l (k + 1 + 2 * c.says.length); simp only [mkn,List.length_cons]; omega
@[simp] theorem mkc_length : ∀ (l : List Claim) (k : Int),(mkc k l).length = l.length
 | [],k => rfl
 | c :: l,k => by simp [mkc,mkc_length l]
def Imc (id : Nat) (l : List Claim) (js : List Nat) (k : Int) (m0 : Mem) (n0 : Nat) (e : Nat) (s : S) : Prop := ∃ (i : Nat) (A B : List Claim) (ja jb : List Nat) (kk : Int),s.tm 0 = .sv id 0 l.length ∧ s.tm 1 = .v (.int .i64 kk) ∧ s.tm 5 = .v (.int .i64 i) ∧ A.length = i ∧ ja.length = i ∧ i + B.length = l.length ∧ ja ++ jb = js ∧
 n0 ≤ s.n ∧ s.m id = some (.box 104 2 (clT (A ++ B) js)) ∧ Says s.m (A ++ B) js ∧ mkc k l = A ++ mkc kk B ∧ mkn k l = mkn kk B ∧ 0 ≤ kk ∧ (∀ j,j < n0 → j ≠ id → j ∉ js → s.m j = m0 j) ∧ (∀ c ∈ B,c.says.length ≤ 1000000000) ∧ (e = 1 → B = [])
theorem cell_set (A : List T) (x y : T) (B : List T) (i : Nat) (h : A.length = i) : (A ++ x :: B).set i y = A ++ y :: B := by
 rw [List.set_append_right _ _ (by omega),h,Nat.sub_self]; rfl
theorem markClaimS_fn (l : List Claim) (js : List Nat) (k : Int) (hk0 : 0 ≤ k) (hk : mkn k l ≤ 100000000000000) (m : Mem) (n id : Nat) (hid : id < n) (hjs : ∀ j ∈ js,j < n) (hnd : js.Nodup) (hin : id ∉ js) (hm : m id = some (.box 104 2 (clT l js))) (hs : Says m l js) (hl : ∀ c ∈ l,c.says.length ≤ 1000000000) :
  FnS Tryz.prog 90 m n [.sv id 0 l.length,.v (.int .i64 k)] (fun t m' n' => t = .v (.int .i64 (mkn k l)) ∧ n ≤ n' ∧ m' id = some (.box 104 2 (clT (mkc k l) js)) ∧ Says m' (mkc k l) js ∧ ∀ j,j < n → j ≠ id → j ∉ js → m' j = m j) := by
 refine FnS_of (rs := [.tmp 4]) false Tryz.func90 rfl rfl rfl rfl (Nat.le_of_ble_eq_true rfl) ?_
 have hge := mkn_ge l k
 simp -dsimp
 refine twp_loopC (Imc id l js k m n 0) (fun s => l.length - natOf (s.tm 5)) (Imc id l js k m n 1) ?_ ?_ ?_
 ·exact ⟨0,[],l,[],js,k,by simp -dsimp,by simp -dsimp,by simp -dsimp,rfl,rfl,by omega,rfl,by simp -dsimp,by simpa -dsimp using hm,by simpa -dsimp using hs,rfl,rfl,hk0,fun j _ _ _ => by simp -dsimp,hl,by simp⟩
 ·rintro s ⟨i,A,B,ja,jb,kk,t0,t1,t5,hA,hja,hB,hjj,hn,hmm,hss,hmk,hmn,hk1,hout,hbl,hend⟩
  cases B with
  | nil =>
   have hlt : ¬ i < l.length := by simp at hB; omega
   simp -dsimp [t0,t5,hlt]
   exact ⟨i,A,[],ja,jb,kk,by simp -dsimp [t0],by simp -dsimp [t1],by simp -dsimp [t5],hA,hja,hB,hjj,by simp -dsimp [hn],by simp -dsimp [hmm],hss,hmk,hmn,hk1,fun j j1 j2 j3 => by simp -dsimp [hout j j1 j2 j3],hbl,fun _ => rfl⟩
  | cons c B =>
   have hlt : i < l.length := by simp at hB; omega
   have hlen := hss.len
   cases jb with
   | nil => exfalso; rw [← hjj] at hlen; simp at hlen; omega
   | cons j jb =>
    subst hjj
    have hAj : A.length = ja.length := by omega
    have hjm : j ∈ ja ++ j :: jb := by simp
    have hsA := (Says.app hAj).1 hss
    have hjj := hsA.2.1
    have hji : ¬ j = id := fun e => hin (e ▸ hjm)
    have hij : ¬ id = j := fun e => hji e.symm
    have hjn := hjs j hjm
    have ecl : clT (A ++ c :: B) (ja ++ j :: jb) = clT A ja ++ .v (.int .i64 c.who) :: .sv j 0 c.says.length :: clT B jb := by rw [clT_app _ _ _ _ hAj]; rfl
    have hAl : (clT A ja).length = i * 2 := by rw [clT_len _ _ hAj,hA]
    have hset := cell_set (clT A ja) (.v (.int .i64 c.who)) (.v (.int .i64 kk)) (.sv j 0 c.says.length :: clT B jb) (i * 2) hAl
    have hll : (clT A ja ++ T.v (.int .i64 c.who) :: .sv j 0 c.says.length :: clT B jb).length = i * 2 + 2 + (clT B jb).length := by simp [hAl]; omega
    have hg1 : (clT A ja ++ T.v (.int .i64 kk) :: .sv j 0 c.says.length :: clT B jb)[i * 2 + 1]? = some (.sv j 0 c.says.length) := by
     rw [List.getElem?_append_right (by omega),hAl]; simp
    have hcl := hbl c (by simp)
    have hmnl := mkn_ge B (kk + 1 + 2 * c.says.length)
    have hmn2 : mkn k l = mkn (kk + 1 + 2 * c.says.length) B := hmn
    rw [hmn2] at hk
    have wi : IntKind.wrap .i64 ((i : Int) + 1) = ((i + 1 : Nat) : Int) := by rw [w64 (by omega) (by omega)]; omega
    have w1 : IntKind.wrap .i64 (kk + 1) = kk + 1 := w64 (by omega) (by omega)
    have hmu : l.length - (i + 1) < l.length - i := by omega
    have hlt' : (i : Int) < (l.length : Int) := by omega
    have f1 := far (show id < s.n by omega)
    have f2 := far (show j < s.n by omega)
    rw [ecl] at hmm
    have o1 : i * 2 + 1 ≤ i * 2 + 2 + (clT B jb).length := by omega
    have o2 : i * 2 + 1 + 1 ≤ i * 2 + 2 + (clT B jb).length := by omega
    have o3 : i * 2 < i * 2 + 2 + (clT B jb).length := by omega
    generalize hc1 : clT A ja ++ T.v (.int .i64 c.who) :: .sv j 0 c.says.length :: clT B jb = c1 at *
    generalize hc2 : clT A ja ++ T.v (.int .i64 kk) :: .sv j 0 c.says.length :: clT B jb = c2 at *
    simp -dsimp [t0,t1,t5,hlt,hlt',hmm,hll,setAt,hset,hg1,w1,wi,hmu,o1,o2,o3]
    refine callS_ (markMarkS_fn c.says (kk + 1) hcl (by omega) (by omega) _ _ j (by simp [hji,hjj])) ?_
    rintro t m2 n2 ⟨rfl,hn2,rfl⟩
    have g1 := far (show id < n2 by omega)
    simp -dsimp [t0,t1,t5,wi,hmu]
    refine st_out fun s' ht hm' hn' hu' => ?_
    have a0 := ht 0
    have a1 := ht 1
    have a5 := ht 5
    simp -dsimp [t0,wi] at a0 a1 a5 hm' hn' hu'
    clear ht
    have nj : j ∉ ja ∧ j ∉ jb := by
     rw [List.nodup_append] at hnd
     exact ⟨fun h => hnd.2.2 j h j (by simp) rfl,(List.nodup_cons.1 hnd.2.1).1⟩
    refine ⟨i + 1,A ++ [⟨kk,cnts (kk + 1) c.says.length⟩],B,ja ++ [j],jb,kk + 1 + 2 * c.says.length,a0,by rw [a1],a5,by simp [hA],by simp [hja],by simp at hB ⊢; omega,by simp,by omega, ?_, ?_, ?_,hmn,by omega,fun x x1 x2 x3 => ?_,fun x hx => hbl x (by simp [hx]),by simp⟩
    ·have e : A ++ [(⟨kk,cnts (kk + 1) c.says.length⟩ : Claim)] ++ B = A ++ ⟨kk,cnts (kk + 1) c.says.length⟩ :: B := by simp
     rw [e,clT_app _ _ _ _ hAj,clT_cons,cnts_length,hc2]
     simp [hm',hij]
    ·have e : A ++ [(⟨kk,cnts (kk + 1) c.says.length⟩ : Claim)] ++ B = A ++ ⟨kk,cnts (kk + 1) c.says.length⟩ :: B := by simp
     rw [e]
     refine (Says.app hAj).2 ⟨hsA.1.keep fun x hx => ?_,by simp [hm'],hsA.2.2.keep fun x hx => ?_⟩
     ·have y1 : ¬ x = j := fun h => nj.1 (h ▸ hx)
      have y2 : ¬ x = id := fun h => hin (h ▸ by simp [hx])
      simp [hm',y1,y2]
     ·have y1 : ¬ x = j := fun h => nj.2 (h ▸ hx)
      have y2 : ¬ x = id := fun h => hin (h ▸ by simp [hx])
      simp [hm',y1,y2]
    ·rw [hmk]; simp [mkc]
    ·have y1 : ¬ x = j := fun h => x3 (h ▸ hjm)
     simp [hm',y1,x2,hout x x1 x2 x3]
 ·rintro s ⟨i,A,B,ja,jb,kk,t0,t1,t5,hA,hja,hB,hjj,hn,hmm,hss,hmk,hmn,hk1,hout,hbl,hend⟩
  have hb := hend rfl
  subst hb
  rw [List.append_nil] at hmm hss
  have e1 : mkc k l = A := by rw [hmk]; simp [mkc]
  have e2 : mkn k l = kk := hmn
  rw [e1,e2]
  simp -dsimp [t1]
  exact ⟨hn,hmm,hss,hout⟩
def Ihc (l : List Claim) (k : Int) (e : Nat) (s : S) : Prop := ∃ (i : Nat) (A B : List Claim) (kk : Int),s.tm 0 = .v (.sl ((mkc k l).map Claim.v)) ∧ s.tm 1 = .v (.int .i64 kk) ∧ s.tm 5 = .v (.int .i64 i) ∧ A.length = i ∧ i + B.length = l.length ∧ mkc k l = A ++ mkc kk B ∧ mkn k l = mkn kk B ∧ 0 ≤ kk ∧ (∀ c ∈ B,c.says.length ≤ 1000000000) ∧ (e = 1 → B = [])
theorem heldClaimS_fn (l : List Claim) (k : Int) (hk0 : 0 ≤ k) (hk : mkn k l ≤ 100000000000000) (hl : ∀ c ∈ l,c.says.length ≤ 1000000000) : FnZ Tryz.prog 91 [.sl ((mkc k l).map Claim.v),.int .i64 k] (.int .i64 (mkn k l)) := by
 refine FnZ_of (rs := [.tmp 4]) false Tryz.func91 rfl rfl rfl rfl (Nat.le_of_ble_eq_true rfl) ?_
 have hge := mkn_ge l k
 simp -dsimp
 refine twp_loopC (Ihc l k 0) (fun s => l.length - natOf (s.tm 5)) (Ihc l k 1) ?_ ?_ ?_
 ·exact ⟨0,[],l,k,by simp -dsimp,by simp -dsimp,by simp -dsimp,rfl,by omega,rfl,rfl,hk0,hl,by simp⟩
 ·rintro s ⟨i,A,B,kk,t0,t1,t5,hA,hB,hmk,hmn,hk1,hbl,hend⟩
  have hcl : ((mkc k l).map Claim.v).length = l.length := by simp
  cases B with
  | nil =>
   have hlt : ¬ i < l.length := by simp at hB; omega
   simp -dsimp [t0,t5,hlt]
   exact ⟨i,A,[],kk,by simp -dsimp [t0],by simp -dsimp [t1],by simp -dsimp [t5],hA,hB,hmk,hmn,hk1,hbl,fun _ => rfl⟩
  | cons c B =>
   have hlt : i < l.length := by simp at hB; omega
   have hget : ((mkc k l).map Claim.v)[i]? = some (Claim.v ⟨kk,cnts (kk + 1) c.says.length⟩) := by
    rw [hmk,List.getElem?_map,List.getElem?_append_right (by omega),hA,Nat.sub_self]; rfl
   have hcc := hbl c (by simp)
   have hmnl := mkn_ge B (kk + 1 + 2 * c.says.length)
   have hmn2 : mkn k l = mkn (kk + 1 + 2 * c.says.length) B := hmn
   have hmk2 : mkc k l = (A ++ [⟨kk,cnts (kk + 1) c.says.length⟩]) ++ mkc (kk + 1 + 2 * c.says.length) B := by rw [hmk]; simp [mkc]
   rw [hmn2] at hk
   have wi : IntKind.wrap .i64 ((i : Int) + 1) = ((i + 1 : Nat) : Int) := by rw [w64 (by omega) (by omega)]; omega
   have w1 : IntKind.wrap .i64 (kk + 1) = kk + 1 := w64 (by omega) (by omega)
   have hmu : l.length - (i + 1) < l.length - i := by omega
   have hneg : ¬ kk + 1 + 2 * (c.says.length : Int) < 0 := by omega
   have hheld := heldMarkS_fn c.says.length (kk + 1) hcc (by omega) (by omega)
   generalize hrow : (mkc k l).map Claim.v = row at *
   have hlt2 : i < row.length := by omega
   have hget2 : row[i] = Claim.v ⟨kk,cnts (kk + 1) c.says.length⟩ := by rw [List.getElem?_eq_getElem hlt2] at hget; exact Option.some.inj hget
   simp -dsimp [t0,t1,t5,hlt,hlt2,hcl,hget2,w1,wi,hmu]
   refine call_ hheld (by simp -dsimp) ?_
   simp -dsimp [t0,t1,t5,hlt,hlt2,hcl,hget2,w1,wi,hmu,hneg]
   refine st_out fun s' ht hm' hn' hu' => ?_
   have a0 := ht 0
   have a1 := ht 1
   have a5 := ht 5
   simp -dsimp [t0,wi] at a0 a1 a5 hm' hn' hu'
   clear ht
   exact ⟨i + 1,A ++ [⟨kk,cnts (kk + 1) c.says.length⟩],B,kk + 1 + 2 * c.says.length,by rw [a0,hrow],by rw [a1],a5,by simp [hA],by simp at hB ⊢; omega,hmk2,hmn2,by omega,fun x hx => hbl x (by simp [hx]),by simp⟩
 ·rintro s ⟨i,A,B,kk,t0,t1,t5,hA,hB,hmk,hmn,hk1,hbl,hend⟩
  have hb := hend rfl
  subst hb
  have e2 : mkn k l = kk := hmn
  rw [e2]
  simp -dsimp [t1]
end TL

namespace TL
open Go Go.Proofs
attribute [local simp] marksV storyV codeV Claim.v Place.v
def OwnRowC (m : Mem) (lo hi : Nat) (st : T) (l : List Claim) (js : List Nat) : Prop := (∀ j ∈ js,lo ≤ j ∧ j < hi) ∧ js.Nodup ∧ Says m l js ∧ ((st = .nil ∧ l = [] ∧ js = []) ∨ ∃ id,st = .sv id 0 l.length ∧ lo ≤ id ∧ id < hi ∧ id ∉ js ∧ m id = some (.box 104 2 (clT l js)))
end TL

namespace TL
open Go Go.Proofs
attribute [local simp] marksV storyV codeV Claim.v Place.v
theorem OwnRowC.cell {m : Mem} {lo hi : Nat} {st : T} {l : List Claim} {js : List Nat} (h : OwnRowC m lo hi st l js) : st.cell = true := by
 rcases h.2.2.2 with ⟨rfl,_⟩ | ⟨id,rfl,_⟩ <;> rfl
theorem OwnRowC.cells {m : Mem} {lo hi : Nat} {st : T} {l : List Claim} {js : List Nat} (h : OwnRowC m lo hi st l js) : st.cells = [st] := by
 rcases h.2.2.2 with ⟨rfl,_⟩ | ⟨id,rfl,_⟩ <;> rfl
theorem OwnRowC.keep {m m' : Mem} {lo hi : Nat} {st : T} {l : List Claim} {js : List Nat} (h : OwnRowC m lo hi st l js) (hk : ∀ j,lo ≤ j → j < hi → m' j = m j) : OwnRowC m' lo hi st l js := by
 obtain ⟨h1,h2,h3,h4⟩ := h
 refine ⟨h1,h2,h3.keep fun j hj => hk j (h1 j hj).1 (h1 j hj).2, ?_⟩
 rcases h4 with h4 | ⟨id,e,i0,i1,i2,i3⟩
 ·exact .inl h4
 ·exact .inr ⟨id,e,i0,i1,i2,by rw [hk id i0 i1,i3]⟩
theorem OwnRowC.bor {m : Mem} {lo hi : Nat} {st : T} {l : List Claim} {js : List Nat} (h : OwnRowC m lo hi st l js) (d : Nat) : TL.bor true m (d + 2) st = some (.sl (l.map Claim.v)) := by
 obtain ⟨h1,h2,h3,h4⟩ := h
 rcases h4 with ⟨rfl,rfl,rfl⟩ | ⟨id,rfl,i0,i1,i2,i3⟩
 ·rfl
 ·exact bor_claims d i3 h3
theorem markClaimS_nil (m : Mem) (n : Nat) (k : Int) : FnS Tryz.prog 90 m n [.nil,.v (.int .i64 k)] (fun t m' n' => t = .v (.int .i64 k) ∧ n ≤ n' ∧ m' = m) := by
 refine FnS_of (rs := [.tmp 4]) false Tryz.func90 rfl rfl rfl rfl (Nat.le_of_ble_eq_true rfl) ?_
 simp -dsimp
 refine twp_loopC (fun s => s.tm 0 = .nil ∧ s.tm 1 = .v (.int .i64 k) ∧ s.tm 5 = .v (.int .i64 0) ∧ s.m = m ∧ n ≤ s.n) (fun s => 0) (fun s => s.tm 1 = .v (.int .i64 k) ∧ s.m = m ∧ n ≤ s.n) ?_ ?_ ?_
 ·simp -dsimp
 ·rintro s ⟨t0,t1,t5,hm,hn⟩
  simp -dsimp [t0,t1,t5,hm,hn]
 ·rintro s ⟨t1,hm,hn⟩
  simp -dsimp [t1,hm,hn]
theorem markPlace_own (p : Place) (k : Int) (hk0 : 0 ≤ k) (hk : mkn k p.story ≤ 100000000000000) (hl : ∀ c ∈ p.story,c.says.length ≤ 1000000000) (m : Mem) (lo hi n : Nat) (hlo : hi ≤ n) (st : T) (js : List Nat) (h : OwnRowC m lo hi st p.story js) :
  FnS Tryz.prog 35 m n [.agg [.v (.int .i64 p.people),st],.v (.int .i64 k)] (fun t m' n' => t = .v (.int .i64 (mkn k p.story)) ∧ n ≤ n' ∧ OwnRowC m' lo hi st (mkc k p.story) js ∧ ∀ j,j < n → j < lo ∨ hi ≤ j → m' j = m j) := by
 have hc := h.cell
 have hcs := h.cells
 refine FnS_of (rs := [.tmp 4]) false Tryz.func35 rfl rfl rfl rfl (Nat.le_of_ble_eq_true rfl) ?_
 obtain ⟨h1,h2,h3,h4⟩ := h
 rcases h4 with ⟨rfl,e,rfl⟩ | ⟨id,rfl,i0,i1,i2,i3⟩
 ·simp -dsimp [nes]
  refine callS_ (markClaimS_nil _ _ k) ?_
  rintro t m2 n2 ⟨rfl,hn2,rfl⟩
  simp -dsimp [e,mkn,mkc]
  exact ⟨by omega,⟨by simp,List.nodup_nil,trivial,.inl ⟨rfl,rfl,rfl⟩⟩,fun j j1 _ => by simp [show ¬ j = n by omega]⟩
 ·simp -dsimp [nes,hc,hcs]
  refine callS_ (markClaimS_fn p.story js k hk0 hk _ _ id (by omega) (fun j hj => by have := (h1 j hj).2; omega) h2 i2 (by simp [show ¬ id = n by omega,i3]) (h3.keep fun j hj => by have := (h1 j hj).2; simp [show ¬ j = n by omega]) hl) ?_
  rintro t m2 n2 ⟨rfl,hn2,e1,e2,e3⟩
  simp -dsimp
  refine ⟨by omega,⟨h1,h2,e2,.inr ⟨id,by simp,i0,i1,i2,e1⟩⟩,fun j j1 j2 => ?_⟩
  have q1 : j ∉ js := fun hj => by have := h1 j hj; omega
  rw [e3 j (by omega) (by omega) q1]; simp [show ¬ j = n by omega]
theorem heldPlace_fn (q : Int) (l : List Claim) (k : Int) (hk0 : 0 ≤ k) (hk : mkn k l ≤ 100000000000000) (hl : ∀ c ∈ l,c.says.length ≤ 1000000000) : FnZ Tryz.prog 37 [(⟨q,mkc k l⟩ : Place).v,.int .i64 k] (.int .i64 (mkn k l)) := by
 have h := heldClaimS_fn l k hk0 hk hl
 have hge := mkn_ge l k
 have h0 : ¬ mkn k l < 0 := by omega
 refine FnZ_of (rs := [.tmp 4]) false Tryz.func37 rfl rfl rfl rfl (Nat.le_of_ble_eq_true rfl) ?_
 simp -dsimp
 refine call_ h (by simp -dsimp) ?_
 simp -dsimp [h0]
end TL
