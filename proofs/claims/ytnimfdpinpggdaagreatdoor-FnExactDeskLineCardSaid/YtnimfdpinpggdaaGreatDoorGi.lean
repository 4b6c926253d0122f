/- TL: parts FnsD2, FnsC3, FnsD3a, FnsD3, FnsL3, FnsE15o, FnsE3, FnsE6, FnsE15a, FnsE15b, FnsE18p, FnsE5, FnsE12, FnsP2, FnsK7, FnsIV, FnsIJ, FnsIK, FnsIM, FnsIN. -/
import Derived.Test.YtnimfdpinpggdaaGreatDoorGh
import Derived.Test.YtnimfdpinpggdaaGreatDoorGf
import Derived.Test.YtnimfdpinpggdaaGreatDoorGe
import Derived.Test.YtnimfdpinpggdaaGreatDoorShelfC
import Derived.Shelf.Strings.Cut
import Derived.Shelf.Strconv.AtoiAll
import Derived.Lib.SmallJoins
import Derived.WalkSmall
set_option linter.unusedSimpArgs false
set_option linter.unusedVariables false
set_option maxRecDepth 100000
set_option maxHeartbeats 4000000
set_option pp.maxSteps 1500
namespace TL
open Go Go.Proofs
attribute [local simp] marksV storyV codeV Claim.v Place.v Deed.v Desk.v
theorem made_fine (p : Place) (a : Deed) (hp : placeOk p = true) : (made p a).fine ∧ (made p a).story.length ≤ 7 ∧ (made p a).small := by
 obtain ⟨h1,h2,h3,h4⟩ := placeOk_all hp
 have hc : ∀ c ∈ p.story,c.fine ∧ c.small := fun c hc => ⟨(claim_fine (h4 c hc)).1,(claim_fine (h4 c hc)).2.2.1⟩
 have key : ∀ q : Place,q.story.length ≤ 7 → (∀ c ∈ q.story,c.fine ∧ c.small) → q.fine ∧ q.story.length ≤ 7 ∧ q.small := fun q hl hq => ⟨⟨by omega,fun c hx => (hq c hx).1⟩,hl,⟨by omega,fun c hx => (hq c hx).2⟩⟩
 have zero := key ⟨0,[]⟩ (by simp) (by simp)
 unfold made
 split
 ·split
  ·rename_i c hr
   have := claim_fine (readC_is hr).1
   refine key _ (by simp; omega) fun x hx => ?_
   rcases List.mem_append.1 hx with hx | hx
   ·exact hc x hx
   ·rw [List.mem_singleton.1 hx]; exact ⟨this.1,this.2.2.1⟩
  ·exact zero
 ·split
  ·refine key _ ?_ fun x hx => hc x ((List.eraseIdx_sublist _ _).subset hx)
   have := (List.eraseIdx_sublist p.story a.num.toNat).length_le
   simp only; omega
  ·split
   ·exact key _ (by simp only; omega) hc
   ·split
    ·refine key _ ?_ fun x hx => hc x ((least_sub _ _).subset hx)
     have := (least_sub p.people.toNat p.story).length_le
     simp only; omega
    ·exact zero
theorem last_facts {l : List Place} {q : Place} (h : l ≠ []) : ((l.length : Int) - 1).toNat = l.length - 1 ∧ (l.map Place.v)[l.length - 1]? = some (l.getLast?.getD q).v ∧ (l.map Place.v).take (l.length - 1) = l.dropLast.map Place.v ∧ (0 : Int) ≤ (l.length : Int) - 1 ∧ (l.length : Int) - 1 ≤ l.length ∧ l.length - 1 ≤ l.length := by
 have hl : 0 < l.length := List.length_pos_iff.2 h
 refine ⟨by omega, ?_, ?_,by omega,by omega,by omega⟩
 ·rw [List.getLast?_eq_getElem?,List.getElem?_map,List.getElem?_eq_getElem (by omega)]; rfl
 ·rw [← List.map_take,List.dropLast_eq_take]
theorem deskDoS_fn (d : Desk) (a : Deed) (hd : d.small) (hf : d.fit) (ha : a.words.length ≤ 1000000000) : FnZ Tryz.prog 24 [d.v,a.v] (.tup [(deskDo d a).1.v,.bool (deskDo d a).2]) := by
 have hok := deskOkS_fn d hd hf
 have hk := ft (deskOk d)
 rcases hk with hk | hk
 ·rw [deskDo_no hk]
  rw [hk] at hok
  obtain ⟨a1,a2,a3⟩ := a
  refine FnZ_of (rs := [.cell 4 34,.tmp 5]) false Tryz.func24 rfl rfl rfl rfl (Nat.le_of_ble_eq_true rfl) ?_
  simp -dsimp
  refine call_ hok (by simp -dsimp) ?_
  simp -dsimp [noDeskV]
 rw [hk] at hok
 obtain ⟨hpast,hnow,hp8⟩ := deskOk_iff.1 hk
 have hcopy := fun m n => l15Copy_own d hd m n
 by_cases hb : isBack a = true ∧ d.past ≠ []
 ·rw [deskDo_back hk hb.1 hb.2]
  have ha4 : a = ⟨4,0,[]⟩ := by have := hb.1; simp only [isBack,decide_eq_true_eq] at this; exact this
  subst ha4
  obtain ⟨l1,l2,l3,l4,l5,l6⟩ := last_facts (q := d.now) hb.2
  have hpos : 0 < d.past.length := List.length_pos_iff.2 hb.2
  have hpos' : (0 : Int) < d.past.length := by omega
  have hne := hb.2
  have p1 : (1 : Int) ≤ d.past.length := by omega
  have p2 : 1 ≤ d.past.length := by omega
  have w1 : IntKind.wrap .i64 ((d.past.length : Int) - 1) = (d.past.length : Int) - 1 := w64 (by omega) (by omega)
  clear hb
  refine FnZ_of (rs := [.cell 4 34,.tmp 5]) false Tryz.func24 rfl rfl rfl rfl (Nat.le_of_ble_eq_true rfl) ?_
  simp -dsimp
  refine call_ hok (by simp -dsimp) ?_
  simp -dsimp
  refine callL_ (vs := [d.v]) (hcopy _ _) (by simp -dsimp) ?_
  rintro t m1 n1 ⟨hn1,hout,st,rfl,hst⟩
  have k0 := hout 0 (by omega)
  have k1 := hout 1 (by omega)
  have k2 := hout 2 (by omega)
  simp -dsimp at k0 k1 k2
  have f0 := far (show 0 < n1 by omega)
  have f1 := far (show 1 < n1 by omega)
  have f2 := far (show 2 < n1 by omega)
  have z1 : ¬ n1 = 0 := by omega
  have z2 : ¬ n1 = 1 := by omega
  have z3 : ¬ n1 = 2 := by omega
  rcases hst with ⟨rfl,hs0⟩ | ⟨id,rfl,hi0,hi1,him⟩
  ·exact absurd (by simpa using hs0) hne
  ·have g1 := far hi1
   generalize d.past.getLast?.getD d.now = q at *
   simp -dsimp [k0,k1,k2,f0,f1,f2,z1,z2,z3,hne,hpos,hpos',p1,p2,g1,him,w1,l1,l2,l3,l4,l5,l6,nes]
 have hmade := l15Made_fn d.now a hnow ha
 obtain ⟨mf,ml,ms⟩ := made_fine d.now a hnow
 have hpo := placeOkS_fn (made d.now a) mf
 have hpt := placeTextS_fn (made d.now a) mf
 have hpn := placeTextS_fn d.now (place_fine hnow).1
 have hD : deskDo d a = if (placeOk (made d.now a) && !decide (placeTx (made d.now a) = placeTx d.now)) = true then (⟨made d.now a,keep8 (d.past ++ [d.now])⟩,true) else (d,false) := by
  unfold deskDo; rw [if_pos hk,if_neg hb]; rfl
 rw [hD]
 have hb' : (decide (a = ⟨4,0,[]⟩) = true ∧ d.past ≠ []) → False := hb
 have hba : isBack a = true → placeOk (made d.now a) = false ∧ d.past = [] := fun h => ⟨by rw [made_back h,zero_no],Classical.byContradiction fun h2 => hb' ⟨h,h2⟩⟩
 clear hb hb' hD
 generalize made d.now a = X at *
 generalize placeTx X = tX at *
 generalize placeTx d.now = tN at *
 have hkX := ft (placeOk X)
 generalize placeOk X = okX at *
 obtain ⟨kind,num,words⟩ := a
 have htx : tX = tN ∨ ¬ tX = tN := Classical.em _
 obtain ⟨Xp,Xs⟩ := X
 have fullb : (d.past.length + 1) * 32 ≤ 140737488355328 := by omega
 by_cases hq : kind = 4 ∧ num = 0 ∧ words = []
 ·obtain ⟨rfl,rfl,rfl⟩ := hq
  obtain ⟨hokX,he⟩ := hba rfl
  subst hokX
  have he0 : (d.past.map Place.v) = [] := by rw [he]; rfl
  refine FnZ_of (rs := [.cell 4 34,.tmp 5]) false Tryz.func24 rfl rfl rfl rfl (Nat.le_of_ble_eq_true rfl) ?_
  simp -dsimp
  refine call_ hok (by simp -dsimp) ?_
  simp -dsimp
  refine callL_ (vs := [d.v]) (hcopy _ _) (by simp -dsimp) ?_
  rintro t m1 n1 ⟨hn1,hout,st,rfl,hst⟩
  have k0 := hout 0 (by omega)
  have k1 := hout 1 (by omega)
  have k2 := hout 2 (by omega)
  simp -dsimp at k0 k1 k2
  have f0 := far (show 0 < n1 by omega)
  have f1 := far (show 1 < n1 by omega)
  have f2 := far (show 2 < n1 by omega)
  have z1 : ¬ n1 = 0 := by omega
  have z2 : ¬ n1 = 1 := by omega
  have z3 : ¬ n1 = 2 := by omega
  have hc := hst.cell
  simp -dsimp [k0,k1,k2,f0,f1,f2,z1,z2,z3,hc,he,nes]
  refine call_ hmade (by simp -dsimp) ?_
  simp -dsimp [k0,k1,k2,f0,f1,f2,z1,z2,z3,hc,he,nes]
  refine twp_draw [0,1,2,3,4,6,7,5,8,9,10] [0,n1 + 1 + 1] (List.replicate 11 [0,1]) (List.replicate 11 [0,1]) (by kernel_rfl) (by kernel_rfl) (by kernel_rfl) (by kernel_rfl) ?_
  simp -dsimp [k0,k1,k2,f0,f1,f2,z1,z2,z3,hc,he,nes]
  refine call_ hpo (by simp -dsimp) ?_
  rcases hst with ⟨rfl,hs0⟩ | ⟨id,rfl,hi0,hi1,him⟩
  ·simp -dsimp [k0,k1,k2,f0,f1,f2,z1,z2,z3,hc,he,nes]
  ·have g1 := far hi1
   have y3 : ¬ id = 2 := by omega
   simp -dsimp [k0,k1,k2,f0,f1,f2,z1,z2,z3,hc,he,nes,g1,him,y3]
 ·have hbb : (decide (kind = 4) && (decide (num = 0) && decide (words = []))) = false := by
   rw [Bool.eq_false_iff]; intro h; simp at h; exact hq h
  refine FnZ_of (rs := [.cell 4 34,.tmp 5]) false Tryz.func24 rfl rfl rfl rfl (Nat.le_of_ble_eq_true rfl) ?_
  simp -dsimp
  refine call_ hok (by simp -dsimp) ?_
  simp -dsimp
  refine callL_ (vs := [d.v]) (hcopy _ _) (by simp -dsimp) ?_
  rintro t m1 n1 ⟨hn1,hout,st,rfl,hst⟩
  have k0 := hout 0 (by omega)
  have k1 := hout 1 (by omega)
  have k2 := hout 2 (by omega)
  simp -dsimp at k0 k1 k2
  have f0 := far (show 0 < n1 by omega)
  have f1 := far (show 1 < n1 by omega)
  have f2 := far (show 2 < n1 by omega)
  have z1 : ¬ n1 = 0 := by omega
  have z2 : ¬ n1 = 1 := by omega
  have z3 : ¬ n1 = 2 := by omega
  have hc := hst.cell
  simp -dsimp [k0,k1,k2,f0,f1,f2,z1,z2,z3,hc,hbb,nes]
  refine call_ hmade (by simp -dsimp) ?_
  simp -dsimp [k0,k1,k2,f0,f1,f2,z1,z2,z3,hc,nes]
  refine twp_draw [0,1,2,3,4,6,7,5,8,9,10] [0,n1 + 1 + 1] (List.replicate 11 [0,1]) (List.replicate 11 [0,1]) (by kernel_rfl) (by kernel_rfl) (by kernel_rfl) (by kernel_rfl) ?_
  simp -dsimp [k0,k1,k2,f0,f1,f2,z1,z2,z3,hc,nes]
  refine call_ hpo (by simp -dsimp) ?_
  rcases hkX with rfl | rfl
  ·rcases hst with ⟨rfl,hs0⟩ | ⟨id,rfl,hi0,hi1,him⟩
   ·have hs0' : d.past = [] := by simpa using hs0
    simp -dsimp [k0,k1,k2,f0,f1,f2,z1,z2,z3,hc,nes,hs0']
   ·have g1 := far hi1
    have y3 : ¬ id = 2 := by omega
    simp -dsimp [k0,k1,k2,f0,f1,f2,z1,z2,z3,hc,nes,g1,him,y3]
  simp -dsimp [k0,k1,k2,f0,f1,f2,z1,z2,z3,hc,nes]
  refine call_ hpt (by simp -dsimp) ?_
  simp -dsimp [k0,k1,k2,f0,f1,f2,z1,z2,z3,hc,nes]
  refine call_ hpn (by simp -dsimp) ?_
  rcases htx with rfl | htx
  ·rcases hst with ⟨rfl,hs0⟩ | ⟨id,rfl,hi0,hi1,him⟩
   ·have hs0' : d.past = [] := by simpa using hs0
    simp -dsimp [k0,k1,k2,f0,f1,f2,z1,z2,z3,hc,nes,hs0']
   ·have g1 := far hi1
    have y3 : ¬ id = 2 := by omega
    simp -dsimp [k0,k1,k2,f0,f1,f2,z1,z2,z3,hc,nes,g1,him,y3]
  rcases hst with ⟨rfl,hs0⟩ | ⟨id,rfl,hi0,hi1,him⟩
  ·have hs0' : d.past = [] := by simpa using hs0
   have hk8 : keep8 (d.past ++ [d.now]) = [d.now] := by rw [hs0']; rfl
   simp -dsimp [k0,k1,k2,f0,f1,f2,z1,z2,z3,hc,nes,htx,hs0',keep8]
  ·have g1 := far hi1
   have y3 : ¬ id = 2 := by omega
   by_cases h8 : d.past.length = 8
   ·have e8 : (d.past.length : Int) = 8 := by omega
    simp -dsimp [k0,k1,k2,f0,f1,f2,z1,z2,z3,hc,nes,htx,g1,him,y3,Ne.symm y3,h8,e8,keep8,fullb]
    rw [List.take_of_length_le (by simp [h8])]
   ·have e8 : d.past.length < 8 := by omega
    have e8' : ¬ (8 : Int) < (d.past.length : Int) + 1 := by omega
    have e8'' : ¬ 8 < d.past.length + 1 := by omega
    simp -dsimp [k0,k1,k2,f0,f1,f2,z1,z2,z3,hc,nes,htx,g1,him,y3,Ne.symm y3,h8,e8,e8',e8'',keep8,fullb]
end TL

namespace TL
open Go Go.Proofs
attribute [local simp] marksV storyV codeV Claim.v Place.v Desk.v
def IcS (l : List Claim) (m0 : Mem) (n0 : Nat) (e : Nat) (s : S) : Prop := ∃ i id : Nat,s.tm 7 = .v (.sl (l.map Claim.v)) ∧ s.tm 8 = .v (.int .i64 l.length) ∧ s.tm 9 = .v (.int .i64 i) ∧ s.mu = false ∧ i ≤ l.length ∧ s.tm 3 = .loc id ∧ n0 ≤ id ∧ id < s.n ∧ s.m id = some (.arr 104 ((l.take i).map Claim.v)) ∧ (∀ j,j < n0 → s.m j = m0 j) ∧ (e = 1 → i = l.length)
theorem copyStory_own (l : List Claim) (hl : l.length ≤ 1048576) (hs : ∀ c ∈ l,c.small) (m : Mem) (n : Nat) : FnS Tryz.prog 122 m n [.v (storyV l)] (fun t m' n' => n ≤ n' ∧ (∀ j,j < n → m' j = m j) ∧ ∃ id,t = .loc id ∧ n ≤ id ∧ id < n' ∧ m' id = some (.arr 104 (l.map Claim.v))) := by
 refine FnS_of (rs := [.tmp 2]) false Tryz.func122 rfl rfl rfl rfl (Nat.le_of_ble_eq_true rfl) ?_
 simp -dsimp
 refine twp_loopC (IcS l m n 0) (fun s => l.length - natOf (s.tm 9)) (IcS l m n 1) ?_ ?_ ?_
 ·exact ⟨0,n,by simp -dsimp,by simp -dsimp,by simp -dsimp,by simp -dsimp,by omega,by simp -dsimp,by omega,by simp -dsimp,by simp -dsimp,fun j j1 => by simp -dsimp [far j1],by simp⟩
 ·rintro s ⟨i,id,t7,t8,t9,hmu,hi,t3,hid0,hid,hm,hout,hend⟩
  by_cases hlt : i < l.length
  case neg =>
   simp -dsimp [t8,t9,hlt]
   exact ⟨i,id,by simp -dsimp [t7],by simp -dsimp [t8],by simp -dsimp [t9],by simp -dsimp [hmu],hi,by simp -dsimp [t3],hid0,by simp -dsimp [hid],by simp -dsimp [hm],fun j j1 => by simp -dsimp [hout j j1],fun _ => by omega⟩
  have hget : (l.map Claim.v)[i]? = some (l[i].v) := by simp [hlt]
  have wi : IntKind.wrap .i64 ((i : Int) + 1) = ((i + 1 : Nat) : Int) := by rw [w64 (by omega) (by omega)]; omega
  have hmu1 : l.length - (i + 1) < l.length - i := by omega
  have f1 := far hid
  have b1 : (min i l.length + 1) * 32 ≤ 140737488355328 := by omega
  have htk : (l.take (i + 1)).map Claim.v = (l.take i).map Claim.v ++ [l[i].v] := by rw [List.take_succ_eq_append_getElem hlt,List.map_append]; rfl
  simp -dsimp [t7,t8,t9,hlt,hget]
  refine twp_draw (List.range 10) [s.n] (List.replicate 10 [0]) (List.replicate 10 [0]) (by kernel_rfl) (by kernel_rfl) (by kernel_rfl) (by kernel_rfl) ?_
  simp -dsimp [List.range_succ,t3]
  refine call_ (cloneMarks_fn l[i].says (hs _ (List.getElem_mem _))) (by simp -dsimp) ?_
  simp -dsimp [List.range_succ,t3,t9,hmu,f1,hm,b1,wi,hmu1,nes]
  refine st_out fun s' ht hm' hn' hu' => ?_
  have a3 := ht 3
  have a7 := ht 7
  have a8 := ht 8
  have a9 := ht 9
  simp -dsimp [t7,t8] at a3 a7 a8 a9 hm' hn' hu'
  clear ht
  refine ⟨i + 1,s.n + 1 + 1 + 1,a7,a8,a9,by rw [hu',hmu],by omega,a3,by omega,by omega, ?_,fun j j1 => ?_,by simp⟩
  ·rw [htk]; simp [hm',nes]
  ·simp [hm',far (show j < s.n by omega),show ¬ j = id by omega,hout j j1]
 ·rintro s ⟨i,id,t7,t8,t9,hmu,hi,t3,hid0,hid,hm,hout,hend⟩
  have := hend rfl
  subst this
  rw [List.take_length] at hm
  simp -dsimp [t3]
  exact ⟨by omega,hout,hid0,hid,hm⟩
/-- A place whose claims are a row of the caller's own. -/
def OwnPlaceL (p : Place) (m : Mem) (n : Nat) (t : T) (m' : Mem) (n' : Nat) : Prop := n ≤ n' ∧ (∀ j,j < n → m' j = m j) ∧ ∃ id,t = .agg [.v (.int .i64 p.people),.loc id] ∧ n ≤ id ∧ id < n' ∧ m' id = some (.arr 104 (p.story.map Claim.v))
theorem copyPlace_own (p : Place) (hp : p.small) (m : Mem) (n : Nat) : FnS Tryz.prog 73 m n [.v p.v] (OwnPlaceL p m n) := by
 refine FnS_of (rs := [.cell 2 31]) false Tryz.func73 rfl rfl rfl rfl (Nat.le_of_ble_eq_true rfl) ?_
 simp -dsimp
 refine twp_draw (List.range 7) [n] (List.replicate 7 [0]) (List.replicate 7 [0]) (by kernel_rfl) (by kernel_rfl) (by kernel_rfl) (by kernel_rfl) ?_
 simp -dsimp [List.range_succ]
 refine callS_ (copyStory_own p.story hp.1 hp.2 _ _) ?_
 rintro t m1 n1 ⟨hn1,hout1,id,rfl,hid0,hid,him⟩
 have f1 := far hid
 have k0 := hout1 n (by omega)
 have k1 := hout1 (n + 1) (by omega)
 simp -dsimp [nes] at k0 k1
 have d0 : ¬ id = n + 1 := by omega
 have d1 : ¬ n + 1 = id := by omega
 simp -dsimp [List.range_succ,k0,k1,nes,f1]
 refine ⟨by omega,fun j j1 => ?_,id, ?_⟩
 ·have := hout1 j (by omega)
  simp [far j1,show ¬ j = n + 1 by omega] at this ⊢
  exact this
 ·exact ⟨rfl,by omega,by omega,by simp [d0,him]⟩
/-- A desk whose place's claims and whose past are rows of the caller's own. -/
def OwnDeskL (d : Desk) (m : Mem) (n : Nat) (t : T) (m' : Mem) (n' : Nat) : Prop := n ≤ n' ∧ (∀ j,j < n → m' j = m j) ∧ ∃ id st,t = .agg [.v (.int .i64 d.now.people),.loc id,st] ∧ n ≤ id ∧ id < n' ∧ m' id = some (.arr 104 (d.now.story.map Claim.v)) ∧ IsRow m' n n' 31 st (d.past.map Place.v) ∧ st ≠ .loc id
def Icd (d : Desk) (m0 : Mem) (n0 id q : Nat) (e : Nat) (s : S) : Prop := ∃ (i : Nat) (st : T),s.tm 2 = .ptr (n0 + 1) 0 ∧ s.tm 3 = .ptr q 0 ∧ s.tm 11 = .v (.sl (d.past.map Place.v)) ∧ s.tm 12 = .v (.int .i64 d.past.length) ∧ s.tm 13 = .v (.int .i64 i) ∧ s.mu = false ∧ i ≤ d.past.length ∧ q < s.n ∧
 s.m (n0 + 1) = some (.box 34 3 [.v (.int .i64 0),.nil,.nil]) ∧ s.m q = some (.box 34 3 [.v (.int .i64 d.now.people),.loc id,st]) ∧ s.m id = some (.arr 104 (d.now.story.map Claim.v)) ∧ IsRow s.m (q + 1) s.n 31 st ((d.past.take i).map Place.v) ∧ (∀ j,j < n0 → s.m j = m0 j) ∧ (e = 1 → i = d.past.length)
theorem copyDesk_own (d : Desk) (hd : d.small) (m : Mem) (n : Nat) : FnS Tryz.prog 31 m n [.v d.v] (OwnDeskL d m n) := by
 have hl := hd.2.1
 refine FnS_of (rs := [.cell 2 34]) false Tryz.func31 rfl rfl rfl rfl (Nat.le_of_ble_eq_true rfl) ?_
 simp -dsimp
 refine callL_ (vs := [d.now.v]) (copyPlace_own d.now hd.1 _ _) (by simp -dsimp) ?_
 rintro t m1 n1 ⟨hn1,hout1,id,rfl,hid0,hid,him⟩
 have f1 := far hid
 have k0 := hout1 n (by omega)
 have k1 := hout1 (n + 1) (by omega)
 simp -dsimp [nes] at k0 k1
 have g0 := far (show n < n1 by omega)
 have g1 := far (show n + 1 < n1 by omega)
 simp -dsimp [k0,k1,nes,f1,g0,g1]
 refine twp_loopC (Icd d m n id n1 0) (fun s => d.past.length - natOf (s.tm 13)) (Icd d m n id n1 1) ?_ ?_ ?_
 ·refine ⟨0,.nil,by simp -dsimp,by simp -dsimp,by simp -dsimp,by simp -dsimp,by simp -dsimp,by simp -dsimp,by omega,(by simp -dsimp <;> omega),by simp -dsimp [g1,k1],by simp -dsimp [f1],by simp -dsimp [f1,him],.inl ⟨rfl,by simp⟩,fun j j1 => ?_,by simp⟩
  have := hout1 j (by omega)
  simp -dsimp [far j1] at this
  simp -dsimp [far (show j < n1 by omega),this]
 ·rintro s ⟨i,st,t2,t3,t11,t12,t13,hmu,hi,hq,m1',mq,mid,hst,hout,hend⟩
  by_cases hlt : i < d.past.length
  case neg =>
   simp -dsimp [t12,t13,hlt]
   exact ⟨i,st,by simp -dsimp [t2],by simp -dsimp [t3],by simp -dsimp [t11],by simp -dsimp [t12],by simp -dsimp [t13],by simp -dsimp [hmu],hi,by simp -dsimp; omega,by simp -dsimp [m1'],by simp -dsimp [mq],by simp -dsimp [mid],hst,fun j j1 => by simp -dsimp [hout j j1],fun _ => by omega⟩
  have hget : (d.past.map Place.v)[i]? = some (d.past[i].v) := by simp [hlt]
  have wi : IntKind.wrap .i64 ((i : Int) + 1) = ((i + 1 : Nat) : Int) := by rw [w64 (by omega) (by omega)]; omega
  have hmu1 : d.past.length - (i + 1) < d.past.length - i := by omega
  have p0 := far (show n1 < s.n by omega)
  have p1 := far (show n + 1 < s.n by omega)
  have p2 := far (show id < s.n by omega)
  have p3 := far (show n < s.n by omega)
  have q0 : ¬ n + 1 = n1 := by omega
  have q1 : ¬ n1 = n + 1 := by omega
  have q2 : ¬ id = n1 := by omega
  have q3 : ¬ n1 = id := by omega
  have q4 : ¬ id = n + 1 := by omega
  have q5 : ¬ n + 1 = id := by omega
  have hsm := hd.2.2 d.past[i] (List.getElem_mem _)
  have hpl := copyPlace_fn d.past[i] hsm
  have b1 : (min i d.past.length + 1) * 32 ≤ 140737488355328 := by omega
  have htk : (d.past.take (i + 1)).map Place.v = (d.past.take i).map Place.v ++ [d.past[i].v] := by rw [List.take_succ_eq_append_getElem hlt,List.map_append]; rfl
  simp -dsimp [t11,t12,t13,hlt,hget]
  refine twp_draw (List.range 8) [s.n,n1] (List.replicate 8 [0,1]) (List.replicate 7 [0,1] ++ [[0]]) (by kernel_rfl) (by kernel_rfl) (by kernel_rfl) (by kernel_rfl) ?_
  rcases hst with ⟨rfl,hs0⟩ | ⟨r,rfl,hi0,hi1,him'⟩
  ·have hi00 : i = 0 := by
    simp at hs0; rcases hs0 with h | h
    ·exact h
    ·rw [h] at hlt; simp at hlt
   subst hi00
   have hmu2 : d.past.length - 1 < d.past.length := by omega
   have wz : IntKind.wrap .i64 1 = 1 := rfl
   simp -dsimp [List.range_succ,t3,mq,p0,p1,p2,nes]
   refine call_ hpl (by simp -dsimp) ?_
   simp -dsimp [List.range_succ,t3,t13,mq,p0,p1,p2,nes,hmu,wi,hmu1,hmu2,wz,q0,q1,q2,q3,q4,q5]
   refine st_out fun s' ht hm' hn' hu' => ?_
   have a2 := ht 2
   have a3 := ht 3
   have a11 := ht 11
   have a12 := ht 12
   have a13 := ht 13
   simp -dsimp [t2,t3,t11,t12] at a2 a3 a11 a12 a13 hm' hn' hu'
   clear ht
   refine ⟨1,.loc (s.n + 1 + 1 + 1),a2,a3,a11,a12,a13,by rw [hu',hmu],by omega,by omega,by simp [hm',p0,p1,p2,p3,nes,q0,m1'],by simp [hm',p0,nes],by simp [hm',p0,p1,p2,p3,nes,q2,mid],.inr ⟨s.n + 1 + 1 + 1,rfl,by omega,by omega, ?_⟩,fun j j1 => ?_,by simp⟩
   ·rw [htk]; simp [hm',p0,nes]
   ·simp [hm',far (show j < s.n by omega),show ¬ j = n1 by omega,hout j j1]
  ·have g1' := far hi1
   have g2 : ¬ r = n1 := by omega
   have g3 : ¬ r = n + 1 := by omega
   have g4 : ¬ r = id := by omega
   simp -dsimp [List.range_succ,t3,mq,p0,p1,p2,nes]
   refine call_ hpl (by simp -dsimp) ?_
   simp -dsimp [List.range_succ,t3,t13,mq,p0,p1,p2,nes,hmu,wi,hmu1,q0,q1,q2,q3,q4,q5,g1',g2,Ne.symm g2,him',b1]
   refine st_out fun s' ht hm' hn' hu' => ?_
   have a2 := ht 2
   have a3 := ht 3
   have a11 := ht 11
   have a12 := ht 12
   have a13 := ht 13
   simp -dsimp [t2,t3,t11,t12] at a2 a3 a11 a12 a13 hm' hn' hu'
   clear ht
   refine ⟨i + 1,.loc (s.n + 1 + 1 + 1),a2,a3,a11,a12,a13,by rw [hu',hmu],by omega,by omega,by simp [hm',p0,p1,p2,p3,nes,q0,m1',Ne.symm g3],by simp [hm',p0,nes],by simp [hm',p0,p1,p2,p3,nes,q2,mid,Ne.symm g4],.inr ⟨s.n + 1 + 1 + 1,rfl,by omega,by omega, ?_⟩,fun j j1 => ?_,by simp⟩
   ·rw [htk]; simp [hm',p0,nes,g1']
   ·simp [hm',far (show j < s.n by omega),show ¬ j = n1 by omega,show ¬ j = r by omega,hout j j1]
 ·rintro s ⟨i,st,t2,t3,t11,t12,t13,hmu,hi,hq,m1',mq,mid,hst,hout,hend⟩
  have := hend rfl
  subst this
  rw [List.take_length] at hst
  have q0 : ¬ n1 = n + 1 := by omega
  have q1 : ¬ id = n + 1 := by omega
  have hc := hst.cell
  simp -dsimp [t2,t3,m1',mq,q0,hc]
  refine ⟨by omega,fun j j1 => by simp [show ¬ j = n + 1 by omega,hout j j1],id,st, ?_⟩
  refine ⟨rfl,by omega,by omega,by simp [q1,mid], ?_, ?_⟩
  ·rcases hst with ⟨rfl,hs0⟩ | ⟨r,rfl,hi0,hi1,him'⟩
   ·exact .inl ⟨rfl,hs0⟩
   ·exact .inr ⟨r,rfl,by omega,by omega,by simp [show ¬ r = n + 1 by omega,him']⟩
  ·rcases hst with ⟨rfl,hs0⟩ | ⟨r,rfl,hi0,hi1,him'⟩
   ·simp
   ·simp; omega
end TL

namespace TL
open Go Go.Proofs
attribute [local simp] marksV storyV codeV Claim.v Place.v Deed.v Desk.v
theorem nes8 (n : Nat) : (¬ n = n + 1 + 1 + 1 + 1 + 1 + 1 + 1 + 1) ∧ (¬ n + 1 + 1 + 1 + 1 + 1 + 1 + 1 + 1 = n) ∧ (¬ n = n + 1 + 1 + 1 + 1 + 1 + 1 + 1 + 1 + 1) ∧ (¬ n + 1 + 1 + 1 + 1 + 1 + 1 + 1 + 1 + 1 = n) ∧ (¬ n = n + 1 + 1 + 1 + 1 + 1 + 1 + 1 + 1 + 1 + 1) ∧ (¬ n + 1 + 1 + 1 + 1 + 1 + 1 + 1 + 1 + 1 + 1 = n) ∧ (¬ n = n + 1 + 1 + 1 + 1 + 1 + 1 + 1 + 1 + 1 + 1 + 1) ∧ (¬ n + 1 + 1 + 1 + 1 + 1 + 1 + 1 + 1 + 1 + 1 + 1 = n) ∧ (¬ n = n + 1 + 1 + 1 + 1 + 1 + 1 + 1 + 1 + 1 + 1 + 1 + 1) ∧ (¬ n + 1 + 1 + 1 + 1 + 1 + 1 + 1 + 1 + 1 + 1 + 1 + 1 = n) ∧ (¬ n = n + 1 + 1 + 1 + 1 + 1 + 1 + 1 + 1 + 1 + 1 + 1 + 1 + 1) ∧ (¬ n + 1 + 1 + 1 + 1 + 1 + 1 + 1 + 1 + 1 + 1 + 1 + 1 + 1 = n) ∧ (¬ n = n + 1 + 1 + 1 + 1 + 1 + 1 + 1 + 1 + 1 + 1 + 1 + 1 + 1 + 1) ∧ (¬ n + 1 + 1 + 1 + 1 + 1 + 1 + 1 + 1 + 1 + 1 + 1 + 1 + 1 + 1 = n) := by
 refine ⟨?_, ?_, ?_, ?_, ?_, ?_, ?_, ?_, ?_, ?_, ?_, ?_, ?_, ?_⟩ <;> omega
/-- What is done if a deed makes a place. -/
theorem deskDo_made {d : Desk} {a : Deed} (hk : deskOk d = true) (hb : isBack a = false) : deskDo d a = if (placeOk (made d.now a) && !decide (placeTx (made d.now a) = placeTx d.now)) = true then (⟨made d.now a,keep8 (d.past ++ [d.now])⟩,true) else (d,false) := by
 unfold deskDo; rw [if_pos hk,if_neg (by simp [hb])]; rfl
theorem deskDo_zero {d : Desk} {a : Deed} (hk : deskOk d = true) (hb : isBack a = false) (hm : made d.now a = ⟨0,[]⟩) : deskDo d a = (d,false) := by
 rw [deskDo_made hk hb,hm,zero_no]; rfl
end TL

namespace TL
open Go Go.Proofs
attribute [local simp] marksV storyV codeV Claim.v Place.v Deed.v Desk.v
theorem back_no {a : Deed} (h : ¬ (a.kind = 4 ∧ a.num = 0 ∧ a.words = [])) : isBack a = false := by
 simp only [isBack,decide_eq_false_iff_not]; rintro rfl; exact h ⟨rfl,rfl,rfl⟩
end TL

namespace TL
open Go Go.Proofs Go.RowKit
section
variable {P : Program}
theorem cut_FnZ {ρ : Go.Shelf.Ren} (L : Go.Proofs.Lays.n145 P ρ) (hf : ∃ fn,P.funcs[ρ.f 145]? = some fn ∧ (fn.name == "runtime.NumGoroutine") = false ∧ fn.body.isNone = false)
  (hg : P.globalNamed "internal/bytealg.MaxLen" = some (ρ.g 1)) (s c : List UInt8) (hs : s.length < 4294967281) : FnZ P (ρ.f 145) [.str s,.str c] (.tup [.str (Go.Lib.cut s c).1,.str (Go.Lib.cut s c).2.1,.bool (Go.Lib.cut s c).2.2]) := by
 refine FnZ_calls hf fun Z w vs hz hv => ?_
 cases hv with | cons h1 hv => cases hv with | cons h2 hv => cases hv with | nil =>
  cases h1 with
  | @str _ b hb =>
   cases h2 with
   | @str _ bsep hb2 =>
    have hq : GQ P (ρ.g 1) (fun v => ∃ m,v = .int .i64 m) := GQ.maxLen hg
    obtain ⟨_,v,hc,m,rfl⟩ := hz.gl _ _ hq
    have hsz : b.size = s.length := by rw [← hb]; rfl
    refine calls_mono (Any.strings_Cut L b bsep m w (by omega) hc) ?_
    rintro e w' ⟨rfl,n,rfl⟩
    rw [hb,hb2]
    exact ⟨_,rfl,below_drewN (Below.refl _ _) n,.tup (.cons (.str (by simp)) (.cons (.str (by simp)) (.cons (.bool _) .nil)))⟩
theorem atoi_FnZ {ρ : Go.Shelf.Ren} (L : Go.Proofs.LaysC.n172 P ρ) (hf : ∃ fn,P.funcs[ρ.f 172]? = some fn ∧ (fn.name == "runtime.NumGoroutine") = false ∧ fn.body.isNone = false)
  (s : List UInt8) (hs : s.length ≤ 2000000000) : FnZ P (ρ.f 172) [.str s] (.tup [.int .i64 (atoiV s),.any]) := by
 refine FnZ_calls hf fun Z w vs hz hv => ?_
 cases hv with | cons h1 hv => cases hv with | nil =>
  cases h1 with
  | @str _ b hb =>
   have hsz : b.size = s.length := by rw [← hb]; rfl
   have q1 : GQ P (ρ.g 15) (fun v => v = .nilIface ∨ ∃ t p,v = .iface t p) := GQ.errSyntax L.m15
   have q2 : GQ P (ρ.g 16) (fun v => v = .nilIface ∨ ∃ t p,v = .iface t p) := GQ.errRange L.m16
   obtain ⟨_,v1,hc1,hv1⟩ := hz.gl _ _ q1
   obtain ⟨_,v2,hc2,hv2⟩ := hz.gl _ _ q2
   cases e : Go.Lib.atoiAll s with
   | ok v =>
    have ev : atoiV s = v := by unfold atoiV; rw [e]
    rw [ev]
    refine calls_mono (Any.strconv_Atoi_ok L b (by omega) v (by rw [hb]; exact e) w) ?_
    rintro e' w' ⟨rfl,hw⟩
    refine ⟨_,rfl, ?_,.tup (.cons (.int _ _) (.cons (.any _) .nil))⟩
    rcases hw with rfl | ⟨t,rfl⟩
    ·exact Below.refl _ _
    ·exact Go.Joins.below_bytesWorld _ _ _ _ (Nat.le_refl _)
   | range =>
    have ev : atoiV s = Go.Lib.atoiSat s := by unfold atoiV; rw [e]
    rw [ev]
    refine calls_mono (Any.strconv_Atoi_range L b (by omega) (by rw [hb]; exact e) v2 w hc2 hv2) ?_
    rintro e' w' ⟨N,rfl,_,_,hw⟩
    rw [hb]
    exact ⟨_,rfl,hw,.tup (.cons (.int _ _) (.cons (.any _) .nil))⟩
   | _ =>
    have ev : atoiV s = 0 := by unfold atoiV; rw [e]
    rw [ev]
    refine calls_mono (Any.strconv_Atoi_syntax L b (by omega) (by rw [hb]; exact e) v1 w hc1 hv1) ?_
    rintro e' w' ⟨N,rfl,_,_,hw⟩
    exact ⟨_,rfl,hw,.tup (.cons (.int _ _) (.cons (.any _) .nil))⟩
end
theorem cut_fn (s c : List UInt8) (hs : s.length < 4294967281) : FnZ Tryz.prog 65 [.str s,.str c] (.tup [.str (Go.Lib.cut s c).1,.str (Go.Lib.cut s c).2.1,.bool (Go.Lib.cut s c).2.2]) :=
 cut_FnZ Tryz.lays145 ⟨_,Tryz.func65,rfl,rfl⟩ (by kernel_rfl) s c hs
theorem atoi_fn (s : List UInt8) (hs : s.length ≤ 2000000000) : FnZ Tryz.prog 66 [.str s] (.tup [.int .i64 (atoiV s),.any]) :=
 atoi_FnZ Tryz.laysC172 ⟨_,Tryz.func66,rfl,rfl⟩ s hs
end TL

namespace TL
open Go Go.Proofs
def optD (o : Option Deed) : V := .tup [(o.getD ⟨0,0,[]⟩).v,.bool o.isSome]
end TL

namespace TL
open Go Go.Proofs
attribute [local simp] marksV storyV codeV Claim.v Place.v Deed.v
def Deed.fit (a : Deed) : Prop := TL.fit a.kind ∧ TL.fit a.num ∧ a.words.length ≤ 9223372036854775807
end TL

namespace TL
open Go Go.Proofs
attribute [local simp] marksV storyV codeV Claim.v Place.v Deed.v
def jr (l : List Deed) (f : Deed → List UInt8) : List UInt8 := (l.map fun a => f a ++ [10]).flatten
/-! Rows of deeds. -/
end TL

namespace TL
open Go Go.Proofs
attribute [local simp] marksV storyV codeV Claim.v Place.v Deed.v
theorem readDeed_fn (s : List UInt8) (hl : s.length ≤ 2000000000) : FnZ Tryz.prog 29 [.str s] (optD (readD s)) := by
 have hcut := cut_fn s [32] (by omega)
 have hon : ∀ a,deedW (Go.Lib.cut s [32]).1 (Go.Lib.cut s [32]).2.1 = some a → s ≠ [] → readD s = if deedTx a = s then some a else none := fun a h => readD_on h
 have hoff : deedW (Go.Lib.cut s [32]).1 (Go.Lib.cut s [32]).2.1 = none → readD s = none := readD_off
 have hne := cutW_nil (s := s)
 have hrl := cutR_len s [32]
 have hdt : ∀ a : Deed,a.words.length ≤ 2000000000 → FnZ Tryz.prog 67 [a.v] (.str (deedTx a)) := fun a h => deedText_fn a h
 generalize (Go.Lib.cut s [32]).2.2 = f at *
 generalize (Go.Lib.cut s [32]).2.1 = r at *
 generalize (Go.Lib.cut s [32]).1 = w at *
 have hrl2 : r.length ≤ 2000000000 := by omega
 by_cases h1 : w = [115,97,121]
 ·subst h1
  have ho := hon ⟨0,0,r⟩ rfl (hne (by simp))
  have hd := hdt ⟨0,0,r⟩ hrl2
  clear hon hoff hne hdt
  rw [ho]
  by_cases hx : deedTx ⟨0,0,r⟩ = s
  ·rw [hx] at hd
   rw [if_pos hx]
   refine FnZ_of (rs := [.cell 2 53,.tmp 3]) false Tryz.func29 rfl rfl rfl rfl (Nat.le_of_ble_eq_true rfl) ?_
   simp -dsimp
   refine call_ hcut (by simp -dsimp) ?_
   simp -dsimp
   refine call_ hd (by simp -dsimp) ?_
   simp -dsimp [optD]
  ·rw [if_neg hx]
   refine FnZ_of (rs := [.cell 2 53,.tmp 3]) false Tryz.func29 rfl rfl rfl rfl (Nat.le_of_ble_eq_true rfl) ?_
   simp -dsimp
   refine call_ hcut (by simp -dsimp) ?_
   simp -dsimp
   refine call_ hd (by simp -dsimp) ?_
   simp -dsimp [optD,hx]
 by_cases h2 : w = [100,114,111,112]
 ·subst h2
  have ho := hon ⟨1,atoiV r,[]⟩ rfl (hne (by simp))
  have hd := hdt ⟨1,atoiV r,[]⟩ (by simp)
  have ha := atoi_fn r hrl2
  clear hon hoff hne hdt
  rw [ho]
  generalize atoiV r = num at *
  by_cases hx : deedTx ⟨1,num,[]⟩ = s
  ·rw [hx] at hd
   rw [if_pos hx]
   refine FnZ_of (rs := [.cell 2 53,.tmp 3]) false Tryz.func29 rfl rfl rfl rfl (Nat.le_of_ble_eq_true rfl) ?_
   simp -dsimp
   refine call_ hcut (by simp -dsimp) ?_
   simp -dsimp
   refine call_ ha (by simp -dsimp) ?_
   simp -dsimp
   refine call_ hd (by simp -dsimp) ?_
   simp -dsimp [optD]
  ·rw [if_neg hx]
   refine FnZ_of (rs := [.cell 2 53,.tmp 3]) false Tryz.func29 rfl rfl rfl rfl (Nat.le_of_ble_eq_true rfl) ?_
   simp -dsimp
   refine call_ hcut (by simp -dsimp) ?_
   simp -dsimp
   refine call_ ha (by simp -dsimp) ?_
   simp -dsimp
   refine call_ hd (by simp -dsimp) ?_
   simp -dsimp [optD,hx]
 by_cases h3 : w = [112,101,111,112,108,101]
 ·subst h3
  have ho := hon ⟨2,atoiV r,[]⟩ rfl (hne (by simp))
  have hd := hdt ⟨2,atoiV r,[]⟩ (by simp)
  have ha := atoi_fn r hrl2
  clear hon hoff hne hdt
  rw [ho]
  generalize atoiV r = num at *
  by_cases hx : deedTx ⟨2,num,[]⟩ = s
  ·rw [hx] at hd
   rw [if_pos hx]
   refine FnZ_of (rs := [.cell 2 53,.tmp 3]) false Tryz.func29 rfl rfl rfl rfl (Nat.le_of_ble_eq_true rfl) ?_
   simp -dsimp
   refine call_ hcut (by simp -dsimp) ?_
   simp -dsimp
   refine call_ ha (by simp -dsimp) ?_
   simp -dsimp
   refine call_ hd (by simp -dsimp) ?_
   simp -dsimp [optD]
  ·rw [if_neg hx]
   refine FnZ_of (rs := [.cell 2 53,.tmp 3]) false Tryz.func29 rfl rfl rfl rfl (Nat.le_of_ble_eq_true rfl) ?_
   simp -dsimp
   refine call_ hcut (by simp -dsimp) ?_
   simp -dsimp
   refine call_ ha (by simp -dsimp) ?_
   simp -dsimp
   refine call_ hd (by simp -dsimp) ?_
   simp -dsimp [optD,hx]
 by_cases h4 : w = [108,101,97,115,116]
 ·subst h4
  have ho := hon ⟨3,0,[]⟩ rfl (hne (by simp))
  have hd := hdt ⟨3,0,[]⟩ (by simp)
  clear hon hoff hne hdt
  rw [ho]
  by_cases hx : deedTx ⟨3,0,[]⟩ = s
  ·rw [hx] at hd
   rw [if_pos hx]
   refine FnZ_of (rs := [.cell 2 53,.tmp 3]) false Tryz.func29 rfl rfl rfl rfl (Nat.le_of_ble_eq_true rfl) ?_
   simp -dsimp
   refine call_ hcut (by simp -dsimp) ?_
   simp -dsimp
   refine call_ hd (by simp -dsimp) ?_
   simp -dsimp [optD]
  ·rw [if_neg hx]
   refine FnZ_of (rs := [.cell 2 53,.tmp 3]) false Tryz.func29 rfl rfl rfl rfl (Nat.le_of_ble_eq_true rfl) ?_
   simp -dsimp
   refine call_ hcut (by simp -dsimp) ?_
   simp -dsimp
   refine call_ hd (by simp -dsimp) ?_
   simp -dsimp [optD,hx]
 by_cases h5 : w = [98,97,99,107]
 ·subst h5
  have ho := hon ⟨4,0,[]⟩ rfl (hne (by simp))
  have hd := hdt ⟨4,0,[]⟩ (by simp)
  clear hon hoff hne hdt
  rw [ho]
  by_cases hx : deedTx ⟨4,0,[]⟩ = s
  ·rw [hx] at hd
   rw [if_pos hx]
   refine FnZ_of (rs := [.cell 2 53,.tmp 3]) false Tryz.func29 rfl rfl rfl rfl (Nat.le_of_ble_eq_true rfl) ?_
   simp -dsimp
   refine call_ hcut (by simp -dsimp) ?_
   simp -dsimp
   refine call_ hd (by simp -dsimp) ?_
   simp -dsimp [optD]
  ·rw [if_neg hx]
   refine FnZ_of (rs := [.cell 2 53,.tmp 3]) false Tryz.func29 rfl rfl rfl rfl (Nat.le_of_ble_eq_true rfl) ?_
   simp -dsimp
   refine call_ hcut (by simp -dsimp) ?_
   simp -dsimp
   refine call_ hd (by simp -dsimp) ?_
   simp -dsimp [optD,hx]
 ·have e : deedW w r = none := by unfold deedW; rw [if_neg h1,if_neg h2,if_neg h3,if_neg h4,if_neg h5]
  rw [hoff e]
  clear hon hoff hne hdt
  refine FnZ_of (rs := [.cell 2 53,.tmp 3]) false Tryz.func29 rfl rfl rfl rfl (Nat.le_of_ble_eq_true rfl) ?_
  simp -dsimp
  refine call_ hcut (by simp -dsimp) ?_
  simp -dsimp [optD,h1,h2,h3,h4,h5]
end TL

namespace TL
open Go Go.Proofs
attribute [local simp] marksV storyV codeV Claim.v Place.v Deed.v
/-! The reference. -/
def Isrd (s : List UInt8) (l : List Deed) (e : Nat) (y : S) : Prop := ∃ i id : Nat,y.tm 0 = .v (.str s) ∧ y.tm 2 = .ptr 0 0 ∧ y.m 0 = some (.box 53 3 [.v (.int .i64 0),.v (.int .i64 0),.v (.str [])]) ∧ y.tm 5 = .loc id ∧ 0 < id ∧ id < y.n ∧
 y.m id = some (.arr 53 (l.map Deed.v)) ∧ y.tm 7 = .v (.int .i64 i) ∧ y.mu = false ∧ i ≤ l.length ∧ (∀ a ∈ l.take i,s ≠ [] → deedTx a ≠ s) ∧ (e = 1 → i = l.length)
theorem deedS_two {s x r : List UInt8} (h : cutAt 32 s = [x,r]) : deedS s = [⟨3,0,[]⟩,⟨4,0,[]⟩,⟨0,0,r⟩,⟨1,digS r,[]⟩,⟨2,digS r,[]⟩] := by
 unfold deedS; rw [h]; rfl
theorem deedS_not {s : List UInt8} (h : (cutAt 32 s).length ≠ 2) : deedS s = [⟨3,0,[]⟩,⟨4,0,[]⟩] := by
 unfold deedS
 generalize cutAt 32 s = ps at h
 match ps,h with
 | [],_ => rfl
 | [_],_ => rfl
 | [_,_],h => exact absurd rfl h
 | _ :: _ :: _ :: _,_ => rfl
theorem readDeedS_fn (s : List UInt8) (hl : s.length ≤ 2000000000) : FnZ Tryz.prog 23 [.str s] (optD (readD s)) := by
 have hcut := l1Cut_fn s 32 hl
 have e32 : (((32 : UInt8).toNat : Nat) : Int) = 32 := rfl
 rw [e32] at hcut
 have hno := readD_none' (s := s)
 have hyes : ∀ a,s ≠ [] → deedTx a = s → readD s = some a := fun a => readD_some
 have hlen : ∀ a ∈ deedS s,a.words.length ≤ 2000000000 := by
  by_cases h2 : (cutAt 32 s).length = 2
  ·have h3 : ∃ x rest,cutAt 32 s = [x,rest] := by
    generalize cutAt 32 s = ps at h2
    match ps,h2 with
    | [x,r],_ => exact ⟨x,r,rfl⟩
   obtain ⟨x,r,h5⟩ := h3
   have hrl : r.length ≤ s.length := cutAt_piece (c := 32) (by rw [h5]; simp)
   rw [deedS_two h5]
   intro a ha
   simp only [List.mem_cons,List.mem_nil_iff,or_false] at ha
   rcases ha with rfl | rfl | rfl | rfl | rfl <;> simp <;> omega
  ·rw [deedS_not h2]
   intro a ha
   simp only [List.mem_cons,List.mem_nil_iff,or_false] at ha
   rcases ha with rfl | rfl <;> simp
 have hll : (deedS s).length ≤ 5 := by
  by_cases h2 : (cutAt 32 s).length = 2
  ·have h3 : ∃ x rest,cutAt 32 s = [x,rest] := by
    generalize cutAt 32 s = ps at h2
    match ps,h2 with
    | [x,r],_ => exact ⟨x,r,rfl⟩
   obtain ⟨x,r,h5⟩ := h3
   rw [deedS_two h5]; simp
  ·rw [deedS_not h2]; simp
 by_cases h2 : (cutAt 32 s).length = 2
 case pos =>
  have h3 : ∃ x rest,cutAt 32 s = [x,rest] := by
   generalize cutAt 32 s = ps at h2
   match ps,h2 with
   | [x,r],_ => exact ⟨x,r,rfl⟩
  refine h3.elim fun x h4 => h4.elim fun r h5 => ?_
  clear h3 h4 h2
  have hrl : r.length ≤ s.length := cutAt_piece (c := 32) (by rw [h5]; simp)
  have hdg := l1Digits_fn r (by omega)
  have hds := deedS_two h5
  rw [h5] at hcut
  generalize deedS s = l at *
  generalize digS r = D at *
  clear h5
  refine FnZ_of (rs := [.cell 2 53,.tmp 3]) false Tryz.func23 rfl rfl rfl rfl (Nat.le_of_ble_eq_true rfl) ?_
  simp -dsimp
  refine call_ hcut (by simp -dsimp) ?_
  simp -dsimp
  refine call_ hdg (by simp -dsimp) ?_
  simp -dsimp
  refine twp_loopC (Isrd s l 0) (fun y => l.length - natOf (y.tm 7)) (Isrd s l 1) ?_ ?_ ?_
  ·refine ⟨0,_,by simp -dsimp,by simp -dsimp,by simp -dsimp,by simp -dsimp; rfl,by simp -dsimp,by simp -dsimp,by simp -dsimp [hds],by simp -dsimp,by simp -dsimp,by omega,by simp,by simp⟩
  ·rintro y ⟨i,id,t0,t2,m0,t5,hid0,hid,hm,t7,hmu,hi,hall,hend⟩
   by_cases hlt : i < l.length
   case neg =>
    simp -dsimp [t5,t7,hm,hlt]
    exact ⟨i,id,by simp -dsimp [t0],by simp -dsimp [t2],by simp -dsimp [m0],by simp -dsimp [t5],hid0,by simp -dsimp [hid],by simp -dsimp [hm],by simp -dsimp [t7],by simp -dsimp [hmu],hi,hall,fun _ => by omega⟩
   have hget : (l.map Deed.v)[i]? = some (l[i].v) := by simp [hlt]
   have wi : IntKind.wrap .i64 ((i : Int) + 1) = ((i + 1 : Nat) : Int) := by rw [w64 (by omega) (by omega)]; omega
   have hmu1 : l.length - (i + 1) < l.length - i := by omega
   have hdt := deedTextS_fn l[i] (hlen _ (List.getElem_mem _))
   have f0 := far (show 0 < y.n by omega)
   have f1 := far hid
   by_cases hs : s = []
   ·have hnx : ∀ a ∈ l.take (i + 1),s ≠ [] → deedTx a ≠ s := fun a _ h => absurd hs h
    simp -dsimp [t0,t5,t7,hm,hlt,hs,wi,hmu1]
    exact ⟨i + 1,id,by simp -dsimp [t0,hs],by simp -dsimp [t2],by simp -dsimp [m0],by simp -dsimp [t5],hid0,by simp -dsimp [hid],by simp -dsimp [hm],by simp -dsimp,by simp -dsimp [hmu],by omega,fun a _ h => absurd rfl h,by simp⟩
   ·by_cases he : deedTx l[i] = s
    ·rw [hyes _ hs he]
     rw [he] at hdt
     simp -dsimp [t0,t5,t7,hm,hlt,hs,hget]
     refine call_ hdt (by simp -dsimp) ?_
     simp -dsimp [t0,t2,t5,t7,m0,hm,hget,hlt,f0,f1,optD]
    ·have hnx : ∀ a ∈ l.take (i + 1),s ≠ [] → deedTx a ≠ s := fun a ha h => by
      rw [List.take_succ_eq_append_getElem hlt] at ha
      rcases List.mem_append.1 ha with ha | ha
      ·exact hall a ha h
      ·rw [List.mem_singleton.1 ha]; exact he
     simp -dsimp [t0,t5,t7,hm,hlt,hs,hget]
     refine call_ hdt (by simp -dsimp) ?_
     simp -dsimp [t0,he,t7,wi,hmu1]
     exact ⟨i + 1,id,by simp -dsimp [t0],by simp -dsimp [t2],by simp -dsimp [m0],by simp -dsimp [t5],hid0,by simp -dsimp [hid],by simp -dsimp [hm],by simp -dsimp,by simp -dsimp [hmu],by omega,hnx,by simp⟩
  ·rintro y ⟨i,id,t0,t2,m0,t5,hid0,hid,hm,t7,hmu,hi,hall,hend⟩
   have hil := hend rfl
   rw [hil,List.take_length] at hall
   rw [hno hall]
   have f0 := far (show 0 < y.n by omega)
   simp -dsimp [t2,m0,f0,optD]
 case neg =>
  have h2' : ¬ ((cutAt 32 s).length : Int) = 2 := by omega
  have hds := deedS_not h2
  generalize deedS s = l at *
  refine FnZ_of (rs := [.cell 2 53,.tmp 3]) false Tryz.func23 rfl rfl rfl rfl (Nat.le_of_ble_eq_true rfl) ?_
  simp -dsimp
  refine call_ hcut (by simp -dsimp) ?_
  simp -dsimp [h2,h2']
  refine twp_loopC (Isrd s l 0) (fun y => l.length - natOf (y.tm 7)) (Isrd s l 1) ?_ ?_ ?_
  ·refine ⟨0,_,by simp -dsimp,by simp -dsimp,by simp -dsimp,by simp -dsimp; rfl,by simp -dsimp,by simp -dsimp,by simp -dsimp [hds],by simp -dsimp,by simp -dsimp,by omega,by simp,by simp⟩
  ·rintro y ⟨i,id,t0,t2,m0,t5,hid0,hid,hm,t7,hmu,hi,hall,hend⟩
   by_cases hlt : i < l.length
   case neg =>
    simp -dsimp [t5,t7,hm,hlt]
    exact ⟨i,id,by simp -dsimp [t0],by simp -dsimp [t2],by simp -dsimp [m0],by simp -dsimp [t5],hid0,by simp -dsimp [hid],by simp -dsimp [hm],by simp -dsimp [t7],by simp -dsimp [hmu],hi,hall,fun _ => by omega⟩
   have hget : (l.map Deed.v)[i]? = some (l[i].v) := by simp [hlt]
   have wi : IntKind.wrap .i64 ((i : Int) + 1) = ((i + 1 : Nat) : Int) := by rw [w64 (by omega) (by omega)]; omega
   have hmu1 : l.length - (i + 1) < l.length - i := by omega
   have hdt := deedTextS_fn l[i] (hlen _ (List.getElem_mem _))
   have f0 := far (show 0 < y.n by omega)
   have f1 := far hid
   by_cases hs : s = []
   ·have hnx : ∀ a ∈ l.take (i + 1),s ≠ [] → deedTx a ≠ s := fun a _ h => absurd hs h
    simp -dsimp [t0,t5,t7,hm,hlt,hs,wi,hmu1]
    exact ⟨i + 1,id,by simp -dsimp [t0,hs],by simp -dsimp [t2],by simp -dsimp [m0],by simp -dsimp [t5],hid0,by simp -dsimp [hid],by simp -dsimp [hm],by simp -dsimp,by simp -dsimp [hmu],by omega,fun a _ h => absurd rfl h,by simp⟩
   ·by_cases he : deedTx l[i] = s
    ·rw [hyes _ hs he]
     rw [he] at hdt
     simp -dsimp [t0,t5,t7,hm,hlt,hs,hget]
     refine call_ hdt (by simp -dsimp) ?_
     simp -dsimp [t0,t2,t5,t7,m0,hm,hget,hlt,f0,f1,optD]
    ·have hnx : ∀ a ∈ l.take (i + 1),s ≠ [] → deedTx a ≠ s := fun a ha h => by
      rw [List.take_succ_eq_append_getElem hlt] at ha
      rcases List.mem_append.1 ha with ha | ha
      ·exact hall a ha h
      ·rw [List.mem_singleton.1 ha]; exact he
     simp -dsimp [t0,t5,t7,hm,hlt,hs,hget]
     refine call_ hdt (by simp -dsimp) ?_
     simp -dsimp [t0,he,t7,wi,hmu1]
     exact ⟨i + 1,id,by simp -dsimp [t0],by simp -dsimp [t2],by simp -dsimp [m0],by simp -dsimp [t5],hid0,by simp -dsimp [hid],by simp -dsimp [hm],by simp -dsimp,by simp -dsimp [hmu],by omega,hnx,by simp⟩
  ·rintro y ⟨i,id,t0,t2,m0,t5,hid0,hid,hm,t7,hmu,hi,hall,hend⟩
   have hil := hend rfl
   rw [hil,List.take_length] at hall
   rw [hno hall]
   have f0 := far (show 0 < y.n by omega)
   simp -dsimp [t2,m0,f0,optD]
end TL

namespace TL
open Go Go.Proofs
/-- What ReadJournal reads, and how far. -/
noncomputable def readJF : Nat → List UInt8 → List Deed × Nat
 | 0,_ => ([],0)
 | f + 1,s => if (Go.Lib.cut s [10]).2.2 = true then match readD (Go.Lib.cut s [10]).1 with
  | some a => (a :: (readJF f (Go.Lib.cut s [10]).2.1).1,(Go.Lib.cut s [10]).1.length + 1 + (readJF f (Go.Lib.cut s [10]).2.1).2)
  | none => ([],0) else ([],0)
noncomputable def readJ (s : List UInt8) : List Deed × Nat := readJF (s.length + 1) s
end TL

namespace TL
open Go Go.Proofs
attribute [local simp] marksV storyV codeV Claim.v Place.v Deed.v
structure Store where
 saved : List UInt8
 log : List UInt8
 sure : Int
 deriving DecidableEq
def Store.v (s : Store) : V := .agg [.str s.saved,.str s.log,.int .i64 s.sure]
end TL

namespace TL
open Go Go.Proofs
attribute [local simp] marksV storyV codeV Claim.v Place.v Store.v
noncomputable def storeOk (s : Store) : Bool := (readP s.saved).isSome && decide (s.log.length ≤ 1000) && decide (0 ≤ s.sure) && decide (s.sure ≤ s.log.length)
def Store.small (s : Store) : Prop := s.saved.length ≤ 2000000000 ∧ s.log.length ≤ 2000000000
/-! The exact laws. -/
def Store.bulk (s : Store) : Nat := s.saved.length + s.log.length
def Store.mid (s : Store) : Prop := s.saved.length ≤ 9223372036854775807 ∧ s.log.length ≤ 9223372036854775807
end TL

namespace TL
open Go Go.Proofs
/-! Stores. -/
noncomputable def placeOf (s : Store) : Place := (readP s.saved).getD ⟨0,[]⟩
noncomputable def opened (s : Store) : Desk := (doAll ⟨placeOf s,[]⟩ (readJ s.log).1).1
end TL

namespace TL
open Go Go.Proofs
attribute [local simp] marksV storyV codeV Claim.v Place.v Deed.v Desk.v
def okNot (b : Bool) : List UInt8 := if b = true then [111,107] else [110,111,116]
end TL

namespace TL
open Go Go.Proofs
noncomputable def deskLine (d : Desk) (line : List UInt8) : Desk × List UInt8 :=
 if deskOk d = true then (match readD line with
  | some a => ((deskDo d a).1,okNot (deskDo d a).2)
  | none => (d,ans d.now line)) else (noDeskV,[])
theorem deskLine_no {d : Desk} (h : deskOk d = false) (line : List UInt8) : deskLine d line = (noDeskV,[]) := by unfold deskLine; rw [if_neg (by simp [h])]
theorem deskLine_deed {d : Desk} (h : deskOk d = true) {line : List UInt8} {a : Deed} (ha : readD line = some a) : deskLine d line = ((deskDo d a).1,okNot (deskDo d a).2) := by unfold deskLine; rw [if_pos h,ha]
theorem deskLine_ask {d : Desk} (h : deskOk d = true) {line : List UInt8} (ha : readD line = none) : deskLine d line = (d,ans d.now line) := by unfold deskLine; rw [if_pos h,ha]
theorem deskLine_ok {d : Desk} (h : deskOk d = true) (line : List UInt8) : deskOk (deskLine d line).1 = true := by
 cases hr : readD line with
 | none => rw [deskLine_ask h hr]; exact h
 | some a => rw [deskLine_deed h hr]; exact deskDo_ok d a h
/-! Many lines. -/
/-! Answers are short. -/
end TL

namespace TL
open Go Go.Proofs
attribute [local simp] marksV storyV codeV Claim.v Place.v numsV natsV
theorem storyTableS_fn (p : Nat) (l : List Claim) (h : storyOk p l = true) : FnZ Tryz.prog 101 [.int .i64 p,storyV l] (.int .i64 (storyTab p l)) := by
 obtain ⟨h1,h4,hc,h6⟩ := allOk_of h
 have hok := storyOkS_fn p l (by omega) fun c hx => (claim_fine (hc c hx)).1
 rw [h] at hok
 have hst := l4Story_fn p l (by omega) (by omega) (by omega) hc
 refine FnZ_of (rs := [.tmp 4]) false Tryz.func101 rfl rfl rfl rfl (Nat.le_of_ble_eq_true rfl) ?_
 simp -dsimp
 refine call_ hok (by simp -dsimp) ?_
 simp -dsimp
 refine call_ hst (by simp -dsimp) ?_
 simp -dsimp
def Iws (p n N : Nat) (e : Nat) (s : S) : Prop := ∃ w id : Nat,s.tm 0 = .v (.int .i64 p) ∧ s.tm 1 = .v (.int .i64 n) ∧ s.tm 5 = .loc id ∧ s.tm 6 = .v (.int .i64 w) ∧ w ≤ N ∧ s.mu = false ∧ id < s.n ∧
 s.m id = some (.arr 3 (((List.range w).filter fun w => n.testBit w).map fun w => V.int .i64 (w : Nat))) ∧ (e = 1 → w = N)
theorem worldsInS_fn (p n : Nat) (hk : tableOk p n = true) (hp1 : 1 ≤ p) (hp4 : p ≤ 4) (hn : n < 65536) : FnZ Tryz.prog 50 [.int .i64 p,.int .i64 n] (natsV (worldsOf p n)) := by
 have hok := tableOkS_fn p n
 rw [hk] at hok
 have hN := pow_small (p := p) (by omega)
 have ws := (shl_pow (p := p) (by omega)).1
 have e : worldsOf p n = (List.range (2 ^ p)).filter fun w => n.testBit w := rfl
 rw [e]
 obtain ⟨N,hNN⟩ : ∃ N,2 ^ p = N := ⟨_,rfl⟩
 rw [hNN] at hN ws ⊢
 have hp0 : ¬ (p : Int) < 0 := by omega
 refine FnZ_of (rs := [.tmp 4]) false Tryz.func50 rfl rfl rfl rfl (Nat.le_of_ble_eq_true rfl) ?_
 simp -dsimp
 refine twp_loopC (Iws p n N 0) (fun s => N - natOf (s.tm 6)) (Iws p n N 1) ?_ ?_ ?_
 ·exact ⟨0,0,by simp -dsimp,by simp -dsimp,by simp -dsimp,by simp -dsimp,by omega,by simp -dsimp,by simp -dsimp,by simp -dsimp,by simp⟩
 ·rintro s ⟨w,id,t0,t1,t5,t6,hw,hmu,hid,hm,hend⟩
  by_cases hlt : w < N
  case neg =>
   simp -dsimp [t0,t1,t6]
   refine call_ hok (by simp -dsimp) ?_
   simp -dsimp [t0,t1,t6,hp0,ws,hlt]
   exact ⟨w,id,by simp -dsimp [t0],by simp -dsimp [t1],by simp -dsimp [t5],by simp -dsimp [t6],hw,by simp -dsimp [hmu],by simp -dsimp; omega,by simp -dsimp [hm],fun _ => by omega⟩
  have wi : IntKind.wrap .i64 ((w : Int) + 1) = ((w + 1 : Nat) : Int) := by rw [w64 (by omega) (by omega)]; omega
  have hmu1 : N - (w + 1) < N - w := by omega
  have z1 : ¬ (w : Int) < 0 := by omega
  have b1 := bit2 n w (by omega)
  have f1 := far hid
  have hsucc : (List.range (w + 1)).filter (fun w => n.testBit w) = (List.range w).filter (fun w => n.testBit w) ++ (if n.testBit w = true then [w] else []) := by
   rw [List.range_succ,List.filter_append]; congr 1
   by_cases h : n.testBit w = true <;> simp [h]
  have hfl : ((List.range w).filter fun w => n.testBit w).length ≤ w := by
   have := List.length_filter_le (fun w => n.testBit w) (List.range w)
   simpa using this
  obtain ⟨xs,hxs⟩ : ∃ xs,((List.range w).filter fun w => n.testBit w).map (fun w => V.int .i64 (w : Nat)) = xs := ⟨_,rfl⟩
  have hxl : xs.length ≤ 16 := by rw [← hxs]; simp only [List.length_map]; omega
  have bb : (xs.length + 1) * 8 ≤ 140737488355328 := by omega
  rw [hxs] at hm
  have hc := ft (n.testBit w)
  rcases hc with hc | hc
  ·rw [hc] at b1 hsucc
   simp -dsimp [t0,t1,t6]
   refine call_ hok (by simp -dsimp) ?_
   simp -dsimp [t0,t1,t6,hp0,ws,hlt,b1,z1,wi,hmu1]
   refine ⟨w + 1,id,by simp -dsimp [t0],by simp -dsimp [t1],by simp -dsimp [t5],by simp -dsimp,by omega,by simp -dsimp [hmu],by simp -dsimp; omega, ?_,by simp⟩
   rw [hsucc]; simp -dsimp [hm,hxs]
  ·rw [hc] at b1 hsucc
   simp -dsimp [t0,t1,t6]
   refine call_ hok (by simp -dsimp) ?_
   simp -dsimp [t0,t1,t5,t6,hp0,ws,hlt,b1,z1,wi,hmu1,hm,hmu,f1,bb]
   refine st_out fun s' ht hm' hn' hu' => ?_
   have a0 := ht 0
   have a1 := ht 1
   have a5 := ht 5
   have a6 := ht 6
   simp -dsimp [t0,t1] at a0 a1 a5 a6 hm' hn' hu'
   clear ht
   refine ⟨w + 1,_,a0,a1,a5,a6,by omega,by rw [hu',hmu],by omega, ?_,by simp⟩
   rw [hsucc]; simp [hm',nes,hxs]
 ·rintro s ⟨w,id,t0,t1,t5,t6,hw,hmu,hid,hm,hend⟩
  have := hend rfl
  subst this
  simp -dsimp [t5,hm]
theorem onlyV_not {p : Nat} {l : List Claim} (h : ¬ (sw p l).length = 1) : onlyV p l = -1 := by
 unfold onlyV
 split
 ·rename_i w hw; rw [hw] at h; exact absurd rfl h
 ·rfl
theorem onlyV_one {p : Nat} {l : List Claim} {w : Nat} (h : sw p l = [w]) : onlyV p l = w := by
 unfold onlyV; rw [h]
theorem onlyWorldS_fn (p : Nat) (l : List Claim) (h : storyOk p l = true) : FnZ Tryz.prog 51 [.int .i64 p,storyV l] (.tup [.int .i64 (onlyV p l),.bool (onlyB p l)]) := by
 obtain ⟨h1,h4,hc,h6⟩ := allOk_of h
 have hst := storyTableS_fn p l h
 have hwi := worldsInS_fn p (storyTab p l) (storyTab_ok (by omega) (by omega) l) (by omega) (by omega) (storyTab_small (by omega) l)
 have e0 : worldsOf p (storyTab p l) = sw p l := rfl
 rw [e0] at hwi
 by_cases c1 : (sw p l).length = 1
 ·obtain ⟨w,hw⟩ := List.length_eq_one_iff.1 c1
  rw [onlyV_one hw,show onlyB p l = true from decide_eq_true c1]
  rw [hw] at hwi
  refine FnZ_of (rs := [.tmp 4,.tmp 5]) false Tryz.func51 rfl rfl rfl rfl (Nat.le_of_ble_eq_true rfl) ?_
  simp -dsimp
  refine call_ hst (by simp -dsimp) ?_
  simp -dsimp
  refine call_ hwi (by simp -dsimp) ?_
  simp -dsimp
 ·rw [onlyV_not c1,show onlyB p l = false from decide_eq_false c1]
  generalize sw p l = W at *
  have c2 : ¬ ((W.length : Int) = 1) := by omega
  refine FnZ_of (rs := [.tmp 4,.tmp 5]) false Tryz.func51 rfl rfl rfl rfl (Nat.le_of_ble_eq_true rfl) ?_
  simp -dsimp
  refine call_ hst (by simp -dsimp) ?_
  simp -dsimp
  refine call_ hwi (by simp -dsimp) ?_
  simp -dsimp [c1,c2]
def Isx1 (p : Nat) (W : List Nat) (e : Nat) (s : S) : Prop := ∃ i id : Nat,s.tm 0 = .v (.int .i64 p) ∧ s.tm 5 = .loc id ∧ s.tm 6 = .v (natsV W) ∧ id < s.n ∧ s.mu = false ∧ s.m id = some (.arr 3 (((List.range i).map (knownOf W)).map (V.int .i64))) ∧ s.tm 7 = .v (.int .i64 i) ∧ i ≤ p ∧ (e = 1 → i = p)
def Isx2 (p : Nat) (W : List Nat) (i id : Nat) (e : Nat) (s : S) : Prop := ∃ j : Nat,s.tm 0 = .v (.int .i64 p) ∧ s.tm 5 = .loc id ∧ s.tm 6 = .v (natsV W) ∧ id < s.n ∧ s.mu = false ∧ s.m id = some (.arr 3 (((List.range i).map (knownOf W)).map (V.int .i64))) ∧ s.tm 7 = .v (.int .i64 i) ∧
 s.tm 8 = .v (.int .i64 (cntB (W.take j) i)) ∧ s.tm 9 = .v (.int .i64 j) ∧ j ≤ W.length ∧ (e = 1 → j = W.length)
theorem knownPeopleS_fn (p : Nat) (l : List Claim) (h : storyOk p l = true) : FnZ Tryz.prog 53 [.int .i64 p,storyV l] (numsV (knownL p l)) := by
 obtain ⟨h1,h4,hc,h6⟩ := allOk_of h
 have hst := storyTableS_fn p l h
 have hwi := worldsInS_fn p (storyTab p l) (storyTab_ok (by omega) (by omega) l) (by omega) (by omega) (storyTab_small (by omega) l)
 have hsl := sw_len (p := p) (by omega) l
 have hwl : ∀ w ∈ sw p l,w < 16 := fun w hw => sw_lt (by omega) hw
 have e0 : worldsOf p (storyTab p l) = sw p l := rfl
 rw [e0] at hwi
 unfold knownL
 generalize sw p l = W at *
 have hpp : 1 ≤ p ∧ p ≤ 4 := by omega
 clear e0
 by_cases hne : W = []
 ·rw [if_pos hne]
  rw [hne] at hwi
  refine FnZ_of (rs := [.tmp 4]) false Tryz.func53 rfl rfl rfl rfl (Nat.le_of_ble_eq_true rfl) ?_
  simp -dsimp
  refine call_ hst (by simp -dsimp) ?_
  simp -dsimp
  refine call_ hwi (by simp -dsimp) ?_
  simp -dsimp
  refine twp_loopC (fun s => s.tm 0 = .v (.int .i64 p) ∧ s.tm 5 = .loc 0 ∧ s.tm 6 = .v (natsV []) ∧ s.mu = false ∧ s.m 0 = some (.arr 3 []) ∧ s.tm 7 = .v (.int .i64 0)) (fun s => 0) (fun s => s.tm 5 = .loc 0 ∧ s.mu = false ∧ s.m 0 = some (.arr 3 [])) ?_ ?_ ?_
  ·exact ⟨by simp -dsimp,by simp -dsimp,by simp -dsimp,by simp -dsimp,by simp -dsimp,by simp -dsimp⟩
  ·rintro s ⟨t0,t5,t6,hmu,hm,t7⟩
   have hlt : (0 : Int) < p := by omega
   have hlt' : 0 < p := by omega
   simp -dsimp [t0,t6,t7,hlt,hlt']
   exact ⟨by simp -dsimp [t5],by simp -dsimp [hmu],by simp -dsimp [hm]⟩
  ·rintro s ⟨t5,hmu,hm⟩
   simp -dsimp [t5,hm]
 ·rw [if_neg hne]
  have hl0 : ¬ (W.length : Int) = 0 := fun h => hne (List.length_eq_zero_iff.1 (by omega))
  have hlp : (0 : Int) < W.length := by omega
  have hlp' : 0 < W.length := by omega
  refine FnZ_of (rs := [.tmp 4]) false Tryz.func53 rfl rfl rfl rfl (Nat.le_of_ble_eq_true rfl) ?_
  simp -dsimp
  refine call_ hst (by simp -dsimp) ?_
  simp -dsimp
  refine call_ hwi (by simp -dsimp) ?_
  simp -dsimp
  refine twp_loopC (Isx1 p W 0) (fun s => p - natOf (s.tm 7)) (Isx1 p W 1) ?_ ?_ ?_
  ·exact ⟨0,0,by simp -dsimp,by simp -dsimp,by simp -dsimp,by simp -dsimp,by simp -dsimp,by simp -dsimp,by simp -dsimp,by omega,by simp⟩
  ·rintro s ⟨i,id,t0,t5,t6,hid,hmu,hm,t7,hi,hend⟩
   by_cases hlt : i < p
   case neg =>
    simp -dsimp [t0,t7,hlt]
    exact ⟨i,id,by simp -dsimp [t0],by simp -dsimp [t5],by simp -dsimp [t6],by simp -dsimp; omega,by simp -dsimp [hmu],by simp -dsimp [hm],by simp -dsimp [t7],hi,fun _ => by omega⟩
   have wi : IntKind.wrap .i64 ((i : Int) + 1) = ((i + 1 : Nat) : Int) := by rw [w64 (by omega) (by omega)]; omega
   have hmu1 : p - (i + 1) < p - i := by omega
   have z1 : ¬ (i : Int) < 0 := by omega
   simp -dsimp [t0,t6,t7,hlt,natsV,hlp,hlp',hne]
   refine twp_loopC (Isx2 p W i id 0) (fun s => W.length - natOf (s.tm 9)) (Isx2 p W i id 1) ?_ ?_ ?_
   ·exact ⟨0,by simp -dsimp [t0],by simp -dsimp [t5],by simp -dsimp [t6,natsV],by simp -dsimp; omega,by simp -dsimp [hmu],by simp -dsimp [hm],by simp -dsimp [t7],by simp -dsimp [cntB],by simp -dsimp,by omega,by simp⟩
   ·rintro s2 ⟨j,u0,u5,u6,uid,umu,um,u7,u8,u9,hj,hend2⟩
    by_cases hlt2 : j < W.length
    case neg =>
     simp -dsimp [u6,u9,hlt2,natsV]
     exact ⟨j,by simp -dsimp [u0],by simp -dsimp [u5],by simp -dsimp [u6,natsV],by simp -dsimp; omega,by simp -dsimp [umu],by simp -dsimp [um],by simp -dsimp [u7],by simp -dsimp [u8],by simp -dsimp [u9],hj,fun _ => by omega⟩
    have wj : IntKind.wrap .i64 ((j : Int) + 1) = ((j + 1 : Nat) : Int) := by rw [w64 (by omega) (by omega)]; omega
    have hmu2 : W.length - (j + 1) < W.length - j := by omega
    obtain ⟨v,hv⟩ : ∃ v,W[j] = v := ⟨_,rfl⟩
    have b1 := bit2 v i (by omega)
    have hcl := cntB_le (W.take j) i
    have hnx : cntB (W.take (j + 1)) i = cntB (W.take j) i + (if v.testBit i = true then 1 else 0) := by
     unfold cntB
     rw [List.take_succ_eq_append_getElem hlt2,List.filter_append,List.length_append,hv]
     by_cases hb : v.testBit i = true <;> simp [hb]
    have hget : (W.map fun w => V.int .i64 (w : Nat))[j]? = some (.int .i64 v) := by simp [hlt2,hv]
    simp only [List.length_take] at hcl
    obtain ⟨q,hq⟩ : ∃ q,cntB (W.take j) i = q := ⟨_,rfl⟩
    rw [hq] at u8 hnx hcl
    have hb := ft (v.testBit i)
    rcases hb with hb | hb
    ·rw [hb] at b1 hnx
     have wq : IntKind.wrap .i64 (q : Int) = (q : Int) := w64 (by omega) (by omega)
     simp -dsimp [u0,u6,u7,u8,u9,hlt2,hv,hget,natsV,z1,b1,wj,hmu2,wq]
     exact ⟨j + 1,by simp -dsimp [u0],by simp -dsimp [u5],by simp -dsimp [u6,natsV],by simp -dsimp; omega,by simp -dsimp [umu],by simp -dsimp [um],by simp -dsimp [u7],by simp -dsimp [u8,hnx],by simp -dsimp,by omega,by simp⟩
    ·rw [hb] at b1 hnx
     have wq : IntKind.wrap .i64 ((q : Int) + 1) = (q : Int) + 1 := w64 (by omega) (by omega)
     simp -dsimp [u0,u6,u7,u8,u9,hlt2,hv,hget,natsV,z1,b1,wj,hmu2,wq]
     exact ⟨j + 1,by simp -dsimp [u0],by simp -dsimp [u5],by simp -dsimp [u6,natsV],by simp -dsimp; omega,by simp -dsimp [umu],by simp -dsimp [um],by simp -dsimp [u7],by simp -dsimp [hnx],by simp -dsimp,by omega,by simp⟩
   ·rintro s2 ⟨j,u0,u5,u6,uid,umu,um,u7,u8,u9,hj,hend2⟩
    have hjl := hend2 rfl
    rw [hjl,List.take_length] at u8
    have f1 := far uid
    have hkn := knownOf_cnt hne i
    have hnx : ((List.range (i + 1)).map (knownOf W)).map (V.int .i64) = ((List.range i).map (knownOf W)).map (V.int .i64) ++ [.int .i64 (knownOf W i)] := by
     rw [List.range_succ,List.map_append,List.map_append]; rfl
    have b1 : (i + 1) * 8 ≤ 140737488355328 := by omega
    obtain ⟨q,hq⟩ : ∃ q,cntB W i = q := ⟨_,rfl⟩
    rw [hq] at u8 hkn
    have fin : ∀ (s' : S) (id' : Nat),s'.tm 0 = .v (.int .i64 p) → s'.tm 5 = .loc id' → s'.tm 6 = .v (natsV W) → id' < s'.n → s'.mu = false → s'.m id' = some (.arr 3 (((List.range i).map (knownOf W)).map (V.int .i64) ++ [.int .i64 (knownOf W i)])) → s'.tm 7 = .v (.int .i64 (i + 1 : Nat)) → Isx1 p W 0 s' := by
     intro s' id' a0 a5 a6 aid amu am a7
     exact ⟨i + 1,id',a0,a5,a6,aid,amu,by rw [am,hnx],a7,by omega,by simp⟩
    by_cases c0 : q = 0
    ·have hk0 : knownOf W i = 0 := by rw [hkn,if_pos c0]
     have c0' : (q : Int) = 0 := by omega
     simp -dsimp [u0,u5,u6,u7,u8,umu,um,f1,b1,wi,hmu1,t7,nes,c0,c0',natsV]
     refine st_out fun s' ht hm' hn' hu' => ?_
     have a0 := ht 0
     have a5 := ht 5
     have a6 := ht 6
     have a7 := ht 7
     simp -dsimp [u0,u6] at a0 a5 a6 a7 hm' hn' hu'
     clear ht
     exact fin s' _ a0 a5 (by rw [a6]; rfl) (by omega) (by rw [hu',umu]) (by rw [hk0]; simp [hm',nes]) a7
    ·have c0' : ¬ (q : Int) = 0 := by omega
     by_cases c1 : q = W.length
     ·have hk0 : knownOf W i = 1 := by rw [hkn,if_neg c0,if_pos c1]
      have c1' : (q : Int) = W.length := by omega
      simp -dsimp [u0,u5,u6,u7,u8,umu,um,f1,b1,wi,hmu1,t7,nes,c0,c0',c1,c1',natsV,hne,hl0]
      refine st_out fun s' ht hm' hn' hu' => ?_
      have a0 := ht 0
      have a5 := ht 5
      have a6 := ht 6
      have a7 := ht 7
      simp -dsimp [u0,u6] at a0 a5 a6 a7 hm' hn' hu'
      clear ht
      exact fin s' _ a0 a5 (by rw [a6]; rfl) (by omega) (by rw [hu',umu]) (by rw [hk0]; simp [hm',nes]) a7
     ·have hk0 : knownOf W i = -1 := by rw [hkn,if_neg c0,if_neg c1]
      have c1' : ¬ (q : Int) = W.length := by omega
      simp -dsimp [u0,u5,u6,u7,u8,umu,um,f1,b1,wi,hmu1,t7,nes,c0,c0',c1,c1',natsV]
      refine st_out fun s' ht hm' hn' hu' => ?_
      have a0 := ht 0
      have a5 := ht 5
      have a6 := ht 6
      have a7 := ht 7
      simp -dsimp [u0,u6] at a0 a5 a6 a7 hm' hn' hu'
      clear ht
      exact fin s' _ a0 a5 (by rw [a6]; rfl) (by omega) (by rw [hu',umu]) (by rw [hk0]; simp [hm',nes]) a7
  ·rintro s ⟨i,id,t0,t5,t6,hid,hmu,hm,t7,hi,hend⟩
   have := hend rfl
   subst this
   simp -dsimp [t5,hm]
end TL

namespace TL
open Go Go.Proofs
attribute [local simp] marksV storyV codeV Claim.v Place.v numsV natsV
def Isn (p : Nat) (l : List Claim) (e : Nat) (s : S) : Prop := ∃ i id : Nat,s.tm 0 = .v (.int .i64 p) ∧ s.tm 1 = .v (storyV l) ∧ s.tm 5 = .loc id ∧ id < s.n ∧ s.mu = false ∧
 s.m id = some (.arr 3 (((List.range i).filter fun i => decide (storyTab p (l.eraseIdx i) = storyTab p l)).map fun w => V.int .i64 (w : Nat))) ∧
 s.tm 6 = .v (.int .i64 i) ∧ i ≤ l.length ∧ (e = 1 → i = l.length)
theorem needlessS_fn (p : Nat) (l : List Claim) (h : storyOk p l = true) : FnZ Tryz.prog 54 [.int .i64 p,storyV l] (natsV (needless p l)) := by
 obtain ⟨h1,h4,hc,h6⟩ := allOk_of h
 have hok := storyOkS_fn p l (by omega) fun c hx => (claim_fine (hc c hx)).1
 rw [h] at hok
 have hst := l4Story_fn p l (by omega) (by omega) (by omega) hc
 refine FnZ_of (rs := [.tmp 4]) false Tryz.func54 rfl rfl rfl rfl (Nat.le_of_ble_eq_true rfl) ?_
 simp -dsimp
 refine twp_loopC (Isn p l 0) (fun s => l.length - natOf (s.tm 6)) (Isn p l 1) ?_ ?_ ?_
 ·exact ⟨0,0,by simp -dsimp,by simp -dsimp,by simp -dsimp,by simp -dsimp,by simp -dsimp,by simp -dsimp,by simp -dsimp,by omega,by simp⟩
 ·rintro s ⟨i,id,t0,t1,t5,hid,hmu,hm,t6,hi,hend⟩
  by_cases hlt : i < l.length
  case neg =>
   simp -dsimp [t1,t6,hlt]
   exact ⟨i,id,by simp -dsimp [t0],by simp -dsimp [t1],by simp -dsimp [t5],by simp -dsimp; omega,by simp -dsimp [hmu],by simp -dsimp [hm],by simp -dsimp [t6],hi,fun _ => by omega⟩
  have wi : IntKind.wrap .i64 ((i : Int) + 1) = ((i + 1 : Nat) : Int) := by rw [w64 (by omega) (by omega)]; omega
  have hmu1 : l.length - (i + 1) < l.length - i := by omega
  have hwo := l5Without_fn l i hlt (by omega)
  obtain ⟨_,_,hc2,h62⟩ := allOk_of (storyOk_erase h i)
  have hs2 := l4Story_fn p (l.eraseIdx i) (by omega) (by omega) (by omega) hc2
  have hrl : ((List.range i).filter fun i => decide (storyTab p (l.eraseIdx i) = storyTab p l)).length ≤ i := by
   have := List.length_filter_le (fun i => decide (storyTab p (l.eraseIdx i) = storyTab p l)) (List.range i)
   simpa using this
  have hsucc : (List.range (i + 1)).filter (fun i => decide (storyTab p (l.eraseIdx i) = storyTab p l)) = (List.range i).filter (fun i => decide (storyTab p (l.eraseIdx i) = storyTab p l)) ++ (if storyTab p (l.eraseIdx i) = storyTab p l then [i] else []) := by
   rw [List.range_succ,List.filter_append]; congr 1
   by_cases h : storyTab p (l.eraseIdx i) = storyTab p l <;> simp [h]
  have f1 := far hid
  have fin : ∀ (s' : S) (id' : Nat),s'.tm 0 = .v (.int .i64 p) → s'.tm 1 = .v (storyV l) → s'.tm 5 = .loc id' → id' < s'.n → s'.mu = false → 
    s'.m id' = some (.arr 3 (((List.range i).filter fun i => decide (storyTab p (l.eraseIdx i) = storyTab p l)).map (fun w => V.int .i64 (w : Nat)) ++ (if storyTab p (l.eraseIdx i) = storyTab p l then [V.int .i64 (i : Nat)] else []))) →
    s'.tm 6 = .v (.int .i64 (i + 1 : Nat)) → Isn p l 0 s' := by
   intro s' id' a0 a1 a5 aid amu am a6
   refine ⟨i + 1,id',a0,a1,a5,aid,amu, ?_,a6,by omega,by simp⟩
   rw [am,hsucc]; split <;> simp
  generalize hxs : ((List.range i).filter fun i => decide (storyTab p (l.eraseIdx i) = storyTab p l)).map (fun w => V.int .i64 (w : Nat)) = xs at *
  have hxl : xs.length ≤ 6 := by rw [← hxs]; simp only [List.length_map]; omega
  have b1 : (xs.length + 1) * 8 ≤ 140737488355328 := by omega
  generalize hA : storyTab p (l.eraseIdx i) = A at *
  generalize hB : storyTab p l = B at *
  simp -dsimp [t0,t1,t5,t6,hlt]
  refine call_ hok (by simp -dsimp) ?_
  simp -dsimp [t0,t1,t5,t6]
  refine call_ hwo (by simp -dsimp) ?_
  simp -dsimp [t0,t1]
  refine call_ hs2 (by simp -dsimp) ?_
  simp -dsimp [t0,t1]
  refine call_ hst (by simp -dsimp) ?_
  by_cases c0 : A = B
  ·have c1 : (A : Int) = B := by omega
   simp -dsimp [t0,t1,t5,t6,hmu,hm,f1,b1,wi,hmu1,c1]
   refine st_out fun s' ht' hm' hn' hu' => ?_
   have q0 := ht' 0
   have q1 := ht' 1
   have q5 := ht' 5
   have q6 := ht' 6
   simp -dsimp [t0,t1,t5] at q0 q1 q5 q6 hm' hn' hu'
   clear ht'
   exact fin s' _ q0 q1 q5 (by omega) (by rw [hu',hmu]) (by simp [hm',c0]) q6
  ·have c1 : ¬ (A : Int) = B := by omega
   simp -dsimp [t0,t1,t5,t6,hmu,hm,f1,b1,wi,hmu1,c1]
   exact fin _ id (by simp -dsimp [t0]) (by simp -dsimp [t1]) (by simp -dsimp [t5]) (by simp -dsimp; omega) (by simp -dsimp [hmu]) (by simp -dsimp [hm,c0]) (by simp -dsimp)
 ·rintro s ⟨i,id,t0,t1,t5,hid,hmu,hm,t6,hi,hend⟩
  have := hend rfl
  subst this
  simp -dsimp [t5,hm]
  rfl
def Il3 (N : Nat) (p : Nat) (t : List Mark) (e : Nat) (s : S) : Prop := ∃ w : Nat,s.tm 0 = .v (.int .i64 p) ∧ s.tm 1 = .v (marksV t) ∧ s.tm 6 = .v (.int .i64 w) ∧ s.tm 5 = .v (.int .i64 (tabN w (truth t))) ∧ w ≤ N ∧ (e = 1 → w = N)
theorem l3Table_fn (p : Nat) (t : List Mark) (h : termOk p t = true) : FnZ Tryz.prog 62 [.int .i64 p,marksV t] (.int .i64 (termTab p t)) := by
 obtain ⟨hp1,hp4,hl,hr⟩ := termOk_facts h
 obtain ⟨T,hT,eT⟩ := termOk_tree h
 have e : termTab p t = tabN (2 ^ p) (truth t) := rfl
 rw [e]
 have hN := pow_small (p := p) (by omega)
 have ws := (shl_pow (p := p) (by omega)).1
 have hm : ∀ w : Nat,w < 2 ^ p → FnZ Tryz.prog 114 [marksV t,.int .i64 w] (.bool (truth t w)) := fun w hw => by
  have hh := l3Holds_fn w (by omega) T hT (by rw [eT]; omega)
  have etr := truth_tm w hT
  rw [eT] at hh etr
  rw [← etr] at hh; exact hh
 generalize hNN : 2 ^ p = N at *
 have hp0 : ¬ (p : Int) < 0 := by omega
 clear eT hr
 refine FnZ_of (rs := [.tmp 4]) false Tryz.func62 rfl rfl rfl rfl (Nat.le_of_ble_eq_true rfl) ?_
 simp -dsimp
 refine twp_loopC (Il3 N p t 0) (fun s => N - natOf (s.tm 6)) (Il3 N p t 1) ?_ ?_ ?_
 ·exact ⟨0,by simp -dsimp,by simp -dsimp,by simp -dsimp,by simp -dsimp [tabN],by omega,by simp⟩
 ·rintro s ⟨w,t0,t1,t6,t5,hw,hend⟩
  by_cases hlt : w < N
  case neg =>
   simp -dsimp [t0,t6,hp0,ws,hlt]
   exact ⟨w,by simp -dsimp [t0],by simp -dsimp [t1],by simp -dsimp [t6],by simp -dsimp [t5],hw,fun _ => by omega⟩
  have wi : IntKind.wrap .i64 ((w : Int) + 1) = ((w + 1 : Nat) : Int) := by rw [w64 (by omega) (by omega)]; omega
  have hmu : N - (w + 1) < N - w := by omega
  have hb := tabN_lt (truth t) w
  have h2 := (shl_pow (p := w) (by omega)).2
  have wsh := (shl_pow (p := w) (by omega)).1
  have hp : 2 ^ w ≤ 2 ^ 16 := Nat.pow_le_pow_right (by omega) (by omega)
  have hor := or_ni (a := tabN w (truth t)) (b := 2 ^ w) (x := (2 : Int) ^ w) (by simp) (by omega) h2
  have hgw := ft (truth t w)
  have hz : ¬ (w : Int) < 0 := by omega
  simp -dsimp [t0,t1,t6,hp0,ws,hlt]
  refine call_ (hm w hlt) (by simp -dsimp) ?_
  rcases hgw with hgw | hgw
  ·have ht : tabN (w + 1) (truth t) = tabN w (truth t) := by simp [tabN,hgw]
   simp -dsimp [hgw,t5,t6,wi,hmu]
   exact ⟨w + 1,by simp -dsimp [t0],by simp -dsimp [t1],by simp -dsimp,by simp -dsimp [t5,ht],by omega,by simp⟩
  ·have ht : tabN (w + 1) (truth t) = tabN w (truth t) ||| 2 ^ w := by simp [tabN,hgw]
   simp -dsimp [hgw,t5,t6,wi,hmu,wsh,hor,hz]
   exact ⟨w + 1,by simp -dsimp [t0],by simp -dsimp [t1],by simp -dsimp,by simp -dsimp [ht],by omega,by simp⟩
 ·rintro s ⟨w,t0,t1,t6,t5,hw,hend⟩
  have := hend rfl
  subst this
  simp -dsimp [t5]
theorem followsFromS_fn (p : Nat) (l : List Claim) (t : List Mark) (h : storyOk p l = true) (ht : termOk p t = true) : FnZ Tryz.prog 58 [.int .i64 p,storyV l,marksV t] (.bool (followsB p l t)) := by
 obtain ⟨h1,h4,hc,h6⟩ := allOk_of h
 have hok := storyOkS_fn p l (by omega) fun c hx => (claim_fine (hc c hx)).1
 rw [h] at hok
 have hto := termOkS_fn p t (termOk_fits ht) (by have := (termOk_facts ht).2.2.1; omega)
 rw [ht] at hto
 have hst := l4Story_fn p l (by omega) (by omega) (by omega) hc
 have htt := l3Table_fn p t ht
 have hs := storyTab_small (p := p) (by omega) l
 unfold followsB
 obtain ⟨A,hA⟩ : ∃ A,storyTab p l = A := ⟨_,rfl⟩
 obtain ⟨B,hB⟩ : ∃ B,termTab p t = B := ⟨_,rfl⟩
 rw [hA] at hst hs ⊢
 rw [hB] at htt ⊢
 have hw := andN_w (b := B) hs
 obtain ⟨C,hC⟩ : ∃ C,andN A B = C := ⟨_,rfl⟩
 rw [hC] at hw ⊢
 refine FnZ_of (rs := [.tmp 6]) false Tryz.func58 rfl rfl rfl rfl (Nat.le_of_ble_eq_true rfl) ?_
 simp -dsimp
 refine call_ hok (by simp -dsimp) ?_
 simp -dsimp
 refine call_ hto (by simp -dsimp) ?_
 simp -dsimp
 refine call_ hst (by simp -dsimp) ?_
 simp -dsimp
 refine call_ htt (by simp -dsimp) ?_
 simp -dsimp [hw]
@[simp] theorem rowJ_nil : rowJ [] = [] := rfl
def Irw (l : List Int) (e : Nat) (s : S) : Prop := ∃ i : Nat,s.tm 0 = .v (numsV l) ∧ s.tm 3 = .v (.str (rowJ (l.take i))) ∧ s.tm 4 = .v (.int .i64 i) ∧ i ≤ l.length ∧ (e = 1 → i = l.length)
theorem l15Row_fn (l : List Int) (hl : l.length ≤ 16) (h : ∀ n ∈ l,n ≤ 99) : FnZ Tryz.prog 49 [numsV l] (.str (rowTx l)) := by
 refine FnZ_of (rs := [.tmp 2]) false Tryz.func49 rfl rfl rfl rfl (Nat.le_of_ble_eq_true rfl) ?_
 simp -dsimp
 refine twp_loopC (Irw l 0) (fun s => l.length - natOf (s.tm 4)) (Irw l 1) ?_ ?_ ?_
 ·exact ⟨0,by simp -dsimp,by simp -dsimp [rowJ_zero],by simp -dsimp,by omega,by simp⟩
 ·rintro s ⟨i,t0,t3,t4,hi,hend⟩
  by_cases hlt : i < l.length
  case neg =>
   simp -dsimp [t0,t4,hlt,numsV]
   exact ⟨i,by simp -dsimp [t0],by simp -dsimp [t3],by simp -dsimp [t4],hi,fun _ => by omega⟩
  have hget : (l.map (V.int .i64))[i]? = some (.int .i64 l[i]) := by simp [hlt]
  have wi : IntKind.wrap .i64 ((i : Int) + 1) = ((i + 1 : Nat) : Int) := by rw [w64 (by omega) (by omega)]; omega
  have hmu1 : l.length - (i + 1) < l.length - i := by omega
  have hb := h l[i] (List.getElem_mem hlt)
  have hct := cellTx_len hb
  have hst2 := rowJ_len (l := l.take i) fun n hn => h n (List.mem_of_mem_take hn)
  rw [List.length_take] at hst2
  by_cases hi0 : i = 0
  ·have hnx : rowJ (l.take (i + 1)) = cellTx l[i] := by
    subst hi0; exact rowJ_first l hlt
   have t3' : s.tm 3 = .v (.str []) := by rw [t3,hi0]; rfl
   have hi1 : ¬ 0 < i := by omega
   have hi1' : ¬ (0 : Int) < (i : Int) := by omega
   by_cases hneg : l[i] < 0
   ·have ec : cellTx l[i] = [46] := if_pos hneg
    rw [ec] at hnx
    simp -dsimp [t0,t3',t4,hlt,hget,hi1,hi1',hneg,wi,hmu1,numsV]
    exact ⟨i + 1,by simp -dsimp [t0,numsV],by simp -dsimp [hnx],by simp -dsimp,by omega,by simp⟩
   ·have ec : cellTx l[i] = dec l[i] := if_neg hneg
    have hit := l1Number2_fn l[i] (by omega) hb
    rw [ec] at hnx hct
    generalize hD : dec l[i] = D at hnx hit hct
    have b2 : (D.length : Int) ≤ 9223372036854775807 := by omega
    simp -dsimp [t0,t3',t4,hlt,hget,hi1,hi1',hneg,numsV]
    refine call_ hit (by simp -dsimp) ?_
    simp -dsimp [List.range_succ,t0,t3',t4,hlt,hget,wi,hmu1,numsV,b2]
    exact ⟨i + 1,by simp -dsimp [t0,numsV],by simp -dsimp [hnx],by simp -dsimp,by omega,by simp⟩
  ·have hi1 : 0 < i := by omega
   have hi1' : (0 : Int) < (i : Int) := by omega
   have hnx := rowJ_next l i hi1 hlt
   generalize hX : rowJ (l.take i) = X at *
   have b0 : (X.length : Int) + 1 ≤ 9223372036854775807 := by omega
   have b00 : (X.length : Int) + 1 + 1 ≤ 9223372036854775807 := by omega
   have b000 : (X.length : Int) + (1 + 1) ≤ 9223372036854775807 := by omega
   by_cases hneg : l[i] < 0
   ·have ec : cellTx l[i] = [46] := if_pos hneg
    rw [ec] at hnx
    simp -dsimp [t0,t3,t4,hlt,hget,hi1,hi1',hneg,wi,hmu1,numsV,b0,b00,b000]
    exact ⟨i + 1,by simp -dsimp [t0,numsV],by simp -dsimp [hnx],by simp -dsimp,by omega,by simp⟩
   ·have ec : cellTx l[i] = dec l[i] := if_neg hneg
    have hit := l1Number2_fn l[i] (by omega) hb
    rw [ec] at hnx hct
    generalize hD : dec l[i] = D at hnx hit hct
    have b1 : (X.length : Int) + 1 + D.length ≤ 9223372036854775807 := by omega
    have b2 : (X.length : Int) + (1 + D.length) ≤ 9223372036854775807 := by omega
    simp -dsimp [t0,t3,t4,hlt,hget,hi1,hi1',hneg,b0,numsV]
    refine call_ hit (by simp -dsimp) ?_
    simp -dsimp [List.range_succ,t0,t3,t4,hlt,hget,wi,hmu1,b0,b1,b2,numsV]
    exact ⟨i + 1,by simp -dsimp [t0,numsV],by simp -dsimp [hnx],by simp -dsimp,by omega,by simp⟩
 ·rintro s ⟨i,t0,t3,t4,hi,hend⟩
  have hil := hend rfl
  rw [hil,List.take_length] at t3
  by_cases hs : l = []
  ·have e : rowTx l = [110,111,110,101] := if_pos hs
   rw [e]
   rw [hs] at t0
   simp -dsimp [t0,numsV]
  ·have e : rowTx l = rowJ l := if_neg hs
   have hnn : ¬ (l.length : Int) = 0 := fun h => hs (List.length_eq_zero_iff.1 (by omega))
   rw [e]
   simp -dsimp [t0,t3,numsV,hs,hnn]
end TL

namespace TL
open Go Go.Proofs
attribute [local simp] marksV storyV codeV Claim.v Place.v
theorem agree_all {p k : Nat} (hk : k ≤ p) (X : Nat → Bool) : ((List.range p).all fun i => !decide (i < k) || X i) = (List.range k).all X := by
 rw [Bool.eq_iff_iff,List.all_eq_true,List.all_eq_true]
 constructor
 ·intro h i hi
  have hi := List.mem_range.1 hi
  have := h i (List.mem_range.2 (by omega))
  simpa [hi] using this
 ·intro h i hi
  by_cases hik : i < k
  ·simp [h i (List.mem_range.2 hik)]
  ·simp [hik]
/-- Agrees, of the first so many people. -/
def agB (k world w j : Nat) : Bool := (List.range j).all fun i => !decide (i < k) || (world.testBit i == w.testBit i)
theorem agB_succ (k world w j : Nat) : agB k world w (j + 1) = (agB k world w j && (!decide (j < k) || (world.testBit j == w.testBit j))) := by
 unfold agB; rw [List.range_succ,List.all_append]; simp
theorem agB_end {p k world w : Nat} (hk : k ≤ p) (hw : world < 2 ^ k) : agB k world w p = (w % 2 ^ k == world) := by
 unfold agB; rw [agree_all hk,agree_iff hk hw]
def Iag1 (p k world N : Nat) (e : Nat) (s : S) : Prop := ∃ w : Nat,s.tm 0 = .v (.int .i64 p) ∧ s.tm 1 = .v (numsV (knownR p k world)) ∧ s.tm 5 = .v (.int .i64 (tabN w fun w => w % 2 ^ k == world)) ∧ s.tm 6 = .v (.int .i64 w) ∧ w ≤ N ∧ (e = 1 → w = N)
def Iag2 (p k world N w : Nat) (e : Nat) (s : S) : Prop := ∃ j : Nat,s.tm 0 = .v (.int .i64 p) ∧ s.tm 1 = .v (numsV (knownR p k world)) ∧ s.tm 5 = .v (.int .i64 (tabN w fun w => w % 2 ^ k == world)) ∧ s.tm 6 = .v (.int .i64 w) ∧ s.tm 7 = .v (.bool (agB k world w j)) ∧ s.tm 8 = .v (.int .i64 j) ∧ j ≤ p ∧ (e = 1 → j = p)
theorem l11Agree_fn (p k world : Nat) (hp1 : 1 ≤ p) (hp4 : p ≤ 4) (hk : k ≤ p) (hw : world < 2 ^ k) : FnZ Tryz.prog 187 [.int .i64 p,numsV (knownR p k world)] (.int .i64 (agr p k world)) := by
 have hN := pow_small (p := p) (by omega)
 have ws := (shl_pow (p := p) (by omega)).1
 have e : agr p k world = tabN (2 ^ p) fun w => w % 2 ^ k == world := rfl
 rw [e]
 obtain ⟨N,hNN⟩ : ∃ N,2 ^ p = N := ⟨_,rfl⟩
 rw [hNN] at hN ws ⊢
 have hp0 : ¬ (p : Int) < 0 := by omega
 have hend0 : ∀ w,agB k world w p = (w % 2 ^ k == world) := fun w => agB_end hk hw
 have hwk := pow_small (p := k) (by omega)
 refine FnZ_of (rs := [.tmp 4]) false Tryz.func187 rfl rfl rfl rfl (Nat.le_of_ble_eq_true rfl) ?_
 simp -dsimp
 refine twp_loopC (Iag1 p k world N 0) (fun s => N - natOf (s.tm 6)) (Iag1 p k world N 1) ?_ ?_ ?_
 ·exact ⟨0,by simp -dsimp,by simp -dsimp,by simp -dsimp [tabN],by simp -dsimp,by omega,by simp⟩
 ·rintro s ⟨w,t0,t1,t5,t6,hwN,hend⟩
  by_cases hlt : w < N
  case neg =>
   simp -dsimp [t0,t6,hp0,ws,hlt]
   exact ⟨w,by simp -dsimp [t0],by simp -dsimp [t1],by simp -dsimp [t5],by simp -dsimp [t6],hwN,fun _ => by omega⟩
  have wi : IntKind.wrap .i64 ((w : Int) + 1) = ((w + 1 : Nat) : Int) := by rw [w64 (by omega) (by omega)]; omega
  have hmu1 : N - (w + 1) < N - w := by omega
  simp -dsimp [t0,t6,hp0,ws,hlt]
  refine twp_loopC (Iag2 p k world N w 0) (fun s => p - natOf (s.tm 8)) (Iag2 p k world N w 1) ?_ ?_ ?_
  ·exact ⟨0,by simp -dsimp [t0],by simp -dsimp [t1],by simp -dsimp [t5],by simp -dsimp [t6],by simp -dsimp [agB],by simp -dsimp,by omega,by simp⟩
  ·rintro s2 ⟨j,u0,u1,u5,u6,u7,u8,hj,hend2⟩
   by_cases hlt2 : j < p
   case neg =>
    simp -dsimp [u0,u8,hlt2]
    exact ⟨j,by simp -dsimp [u0],by simp -dsimp [u1],by simp -dsimp [u5],by simp -dsimp [u6],by simp -dsimp [u7],by simp -dsimp [u8],hj,fun _ => by omega⟩
   have wj : IntKind.wrap .i64 ((j : Int) + 1) = ((j + 1 : Nat) : Int) := by rw [w64 (by omega) (by omega)]; omega
   have hmu2 : p - (j + 1) < p - j := by omega
   have z1 : ¬ (j : Int) < 0 := by omega
   have b2 := bit2 w j (by omega)
   have hsc := agB_succ k world w j
   have hkl := knownR_len p k world
   have hgk := knownR_get (p := p) (k := k) (world := world) hlt2
   have hlen : ((knownR p k world).map (V.int .i64)).length = p := by simp [hkl]
   have hget : ((knownR p k world).map (V.int .i64))[j]? = some (.int .i64 (if j < k then bitI world j else -1)) := by rw [List.getElem?_map,hgk]; rfl
   obtain ⟨A,hA⟩ : ∃ A,agB k world w j = A := ⟨_,rfl⟩
   rw [hA] at u7 hsc
   have hu1 : s2.tm 1 = .v (.sl ((knownR p k world).map (V.int .i64))) := u1
   have fin : ∀ s' : S,s'.tm 0 = .v (.int .i64 p) → s'.tm 1 = .v (numsV (knownR p k world)) → s'.tm 5 = .v (.int .i64 (tabN w fun w => w % 2 ^ k == world)) → s'.tm 6 = .v (.int .i64 w) → s'.tm 7 = .v (.bool (agB k world w (j + 1))) → s'.tm 8 = .v (.int .i64 (j + 1 : Nat)) → Iag2 p k world N w 0 s' :=
    fun s' a0 a1 a5 a6 a7 a8 => ⟨j + 1,a0,a1,a5,a6,a7,a8,by omega,by simp⟩
   obtain ⟨K,hK⟩ : ∃ K,(knownR p k world).map (V.int .i64) = K := ⟨_,rfl⟩
   rw [hK] at hu1 hlen hget
   have hltK : j < K.length := by omega
   have hgetK : K[j] = .int .i64 (if j < k then bitI world j else -1) := by rw [List.getElem?_eq_getElem hltK] at hget; exact Option.some.inj hget
   cases A with
   | false =>
    simp -dsimp [u0,u8,hlt2]
    refine twp_draw (List.range 20) [] (List.replicate 20 []) (List.replicate 20 []) (by kernel_rfl) (by kernel_rfl) (by kernel_rfl) (by kernel_rfl) ?_
    simp -dsimp [List.range_succ,u0,hu1,u6,u7,u8,hlt2,wj,hmu2]
    exact fin _ (by simp -dsimp [u0]) (by simp -dsimp [u1]) (by simp -dsimp [u5]) (by simp -dsimp [u6]) (by simp -dsimp [hsc]) (by simp -dsimp)
   | true =>
    by_cases hjk : j < k
    ·have hnn : ¬ bitI world j < 0 := by unfold bitI; split <;> omega
     rw [if_pos hjk] at hgetK
     have hsc2 : agB k world w (j + 1) = (world.testBit j == w.testBit j) := by rw [hsc]; simp [hjk]
     have hcmp : decide (bitI world j = if w.testBit j = true then (1 : Int) else 0) = (world.testBit j == w.testBit j) := by
      unfold bitI
      cases world.testBit j <;> cases w.testBit j <;> simp
     obtain ⟨BI,hBI⟩ : ∃ BI,bitI world j = BI := ⟨_,rfl⟩
     rw [hBI] at hnn hgetK hcmp
     have hb := ft (w.testBit j)
     rcases hb with hb | hb
     ·rw [hb] at b2 hcmp
      by_cases hq : BI = 0
      ·have hsc3 : agB k world w (j + 1) = true := by rw [hsc2,hb,← hcmp]; simp [hq]
       simp -dsimp [u0,u8,hlt2]
       refine twp_draw (List.range 20) [] (List.replicate 20 []) (List.replicate 20 []) (by kernel_rfl) (by kernel_rfl) (by kernel_rfl) (by kernel_rfl) ?_
       simp -dsimp [List.range_succ,u0,hu1,u6,u7,u8,hlt2,hltK,hgetK,hnn,b2,z1,wj,hmu2,hq]
       exact fin _ (by simp -dsimp [u0]) (by simp -dsimp [u1]) (by simp -dsimp [u5]) (by simp -dsimp [u6]) (by simp -dsimp [hsc3]) (by simp -dsimp)
      ·have hsc3 : agB k world w (j + 1) = false := by rw [hsc2,hb,← hcmp]; simp [hq]
       simp -dsimp [u0,u8,hlt2]
       refine twp_draw (List.range 20) [] (List.replicate 20 []) (List.replicate 20 []) (by kernel_rfl) (by kernel_rfl) (by kernel_rfl) (by kernel_rfl) ?_
       simp -dsimp [List.range_succ,u0,hu1,u6,u7,u8,hlt2,hltK,hgetK,hnn,b2,z1,wj,hmu2,hq]
       exact fin _ (by simp -dsimp [u0]) (by simp -dsimp [u1]) (by simp -dsimp [u5]) (by simp -dsimp [u6]) (by simp -dsimp [hsc3]) (by simp -dsimp)
     ·rw [hb] at b2 hcmp
      by_cases hq : BI = 1
      ·have hsc3 : agB k world w (j + 1) = true := by rw [hsc2,hb,← hcmp]; simp [hq]
       simp -dsimp [u0,u8,hlt2]
       refine twp_draw (List.range 20) [] (List.replicate 20 []) (List.replicate 20 []) (by kernel_rfl) (by kernel_rfl) (by kernel_rfl) (by kernel_rfl) ?_
       simp -dsimp [List.range_succ,u0,hu1,u6,u7,u8,hlt2,hltK,hgetK,hnn,b2,z1,wj,hmu2,hq]
       exact fin _ (by simp -dsimp [u0]) (by simp -dsimp [u1]) (by simp -dsimp [u5]) (by simp -dsimp [u6]) (by simp -dsimp [hsc3]) (by simp -dsimp)
      ·have hsc3 : agB k world w (j + 1) = false := by rw [hsc2,hb,← hcmp]; simp [hq]
       simp -dsimp [u0,u8,hlt2]
       refine twp_draw (List.range 20) [] (List.replicate 20 []) (List.replicate 20 []) (by kernel_rfl) (by kernel_rfl) (by kernel_rfl) (by kernel_rfl) ?_
       simp -dsimp [List.range_succ,u0,hu1,u6,u7,u8,hlt2,hltK,hgetK,hnn,b2,z1,wj,hmu2,hq]
       exact fin _ (by simp -dsimp [u0]) (by simp -dsimp [u1]) (by simp -dsimp [u5]) (by simp -dsimp [u6]) (by simp -dsimp [hsc3]) (by simp -dsimp)
    ·rw [if_neg hjk] at hgetK
     have hsc2 : agB k world w (j + 1) = true := by rw [hsc]; simp [hjk]
     simp -dsimp [u0,u8,hlt2]
     refine twp_draw (List.range 20) [] (List.replicate 20 []) (List.replicate 20 []) (by kernel_rfl) (by kernel_rfl) (by kernel_rfl) (by kernel_rfl) ?_
     simp -dsimp [List.range_succ,u0,hu1,u6,u7,u8,hlt2,hltK,hgetK,wj,hmu2]
     exact fin _ (by simp -dsimp [u0]) (by simp -dsimp [u1]) (by simp -dsimp [u5]) (by simp -dsimp [u6]) (by simp -dsimp [hsc2]) (by simp -dsimp)
  ·rintro s2 ⟨j,u0,u1,u5,u6,u7,u8,hj,hend2⟩
   have hjp := hend2 rfl
   rw [hjp,hend0] at u7
   have hb := tabN_lt (fun w => w % 2 ^ k == world) w
   have h2 := (shl_pow (p := w) (by omega)).2
   have wsh := (shl_pow (p := w) (by omega)).1
   have hp : 2 ^ w ≤ 2 ^ 16 := Nat.pow_le_pow_right (by omega) (by omega)
   have hor := or_ni (a := tabN w fun w => w % 2 ^ k == world) (b := 2 ^ w) (x := (2 : Int) ^ w) (by simp) (by omega) h2
   have hz : ¬ (w : Int) < 0 := by omega
   have hsucc : tabN (w + 1) (fun w => w % 2 ^ k == world) = if (w % 2 ^ k == world) = true then tabN w (fun w => w % 2 ^ k == world) ||| 2 ^ w else tabN w (fun w => w % 2 ^ k == world) := rfl
   obtain ⟨A,hA⟩ : ∃ A,tabN w (fun w => w % 2 ^ k == world) = A := ⟨_,rfl⟩
   rw [hA] at u5 hor hsucc
   obtain ⟨B,hB⟩ : ∃ B,(w % 2 ^ k == world) = B := ⟨_,rfl⟩
   rw [hB] at u7 hsucc
   cases B with
   | false =>
    rw [if_neg (by simp)] at hsucc
    simp -dsimp [u5,u6,u7,t6,wi,hmu1]
    exact ⟨w + 1,by simp -dsimp [u0],by simp -dsimp [u1],by simp -dsimp [u5,hsucc],by simp -dsimp,by omega,by simp⟩
   | true =>
    rw [if_pos rfl] at hsucc
    simp -dsimp [u5,u6,u7,t6,wi,hmu1,wsh,hor,hz]
    exact ⟨w + 1,by simp -dsimp [u0],by simp -dsimp [u1],by simp -dsimp [hsucc],by simp -dsimp,by omega,by simp⟩
 ·rintro s ⟨w,t0,t1,t5,t6,hwN,hend⟩
  have := hend rfl
  subst this
  simp -dsimp [t5]
theorem closesG_fn (p : Nat) (l : List Claim) (t : List Mark) (h : storyOk p l = true) (ht : termOk p t = true) (k world : Nat) (hk : k ≤ p) (hw : world < 2 ^ k) : FnZ Tryz.prog 156 [.int .i64 p,storyV l,marksV t,.int .i64 (-1),numsV (knownR p k world)] (.bool (closG p t k world)) := by
 obtain ⟨h1,h4,hc,h6⟩ := allOk_of h
 have hag := l11Agree_fn p k world (by omega) (by omega) hk hw
 have htt := l3Table_fn p t ht
 have hs := agr_small (p := p) (k := k) (world := world) (by omega)
 unfold closG
 obtain ⟨A,hA⟩ : ∃ A,agr p k world = A := ⟨_,rfl⟩
 obtain ⟨B,hB⟩ : ∃ B,termTab p t = B := ⟨_,rfl⟩
 obtain ⟨K,hK⟩ : ∃ K,(knownR p k world).map (V.int .i64) = K := ⟨_,rfl⟩
 rw [hA] at hag hs ⊢
 rw [hB] at htt ⊢
 have hw := andN_w (b := B) hs
 obtain ⟨C,hC⟩ : ∃ C,andN A B = C := ⟨_,rfl⟩
 rw [hC] at hw ⊢
 simp only [numsV,hK] at hag ⊢
 refine FnZ_of (rs := [.tmp 10]) false Tryz.func156 rfl rfl rfl rfl (Nat.le_of_ble_eq_true rfl) ?_
 simp -dsimp
 refine call_ hag (by simp -dsimp) ?_
 simp -dsimp
 refine call_ htt (by simp -dsimp) ?_
 simp -dsimp [hw]
theorem closesC_fn (p : Nat) (l : List Claim) (t : List Mark) (h : storyOk p l = true) (k world : Nat) (hk : k ≤ p) (hw : world < 2 ^ k) (i : Nat) (hi : i < l.length) : FnZ Tryz.prog 156 [.int .i64 p,storyV l,marksV t,.int .i64 (-2 - (i : Int)),numsV (knownR p k world)] (.bool (closI p l k world i)) := by
 obtain ⟨h1,h4,hc,h6⟩ := allOk_of h
 have hag := l11Agree_fn p k world (by omega) (by omega) hk hw
 have hct := l4Table_fn p l[i] (hc _ (List.getElem_mem hi))
 rw [Int.toNat_natCast] at hct
 have hs := agr_small (p := p) (k := k) (world := world) (by omega)
 have hcs := claimTab_small (p := p) (by omega) l[i]
 have e : closI p l k world i = decide (agr p k world &&& claimTab p l[i] = 0) := by
  unfold closI; rw [List.getElem?_eq_getElem hi]; rfl
 rw [e]
 have hin := l1In_fn (i : Int) 0 ((l.length - 1 : Nat) : Int)
 have hit : inR (i : Int) 0 ((l.length - 1 : Nat) : Int) = true := (inR_true ..).2 (by omega)
 rw [hit] at hin
 have hget : (l.map Claim.v)[i]? = some (l[i].v) := by simp [hi]
 have w1 : IntKind.wrap .i64 ((l.length : Int) - 1) = ((l.length - 1 : Nat) : Int) := by rw [w64 (by omega) (by omega)]; omega
 have w2 : IntKind.wrap .i64 (-2 - (-2 - (i : Int))) = (i : Int) := by rw [w64 (by omega) (by omega)]; omega
 have c1 : ¬ (-2 - (i : Int) = -1) := by omega
 obtain ⟨A,hA⟩ : ∃ A,agr p k world = A := ⟨_,rfl⟩
 obtain ⟨B,hB⟩ : ∃ B,claimTab p l[i] = B := ⟨_,rfl⟩
 obtain ⟨K,hK⟩ : ∃ K,(knownR p k world).map (V.int .i64) = K := ⟨_,rfl⟩
 rw [hA] at hag hs ⊢
 rw [hB] at hct hcs ⊢
 have hand := and_nn (a := A) (b := B) (by omega) (by omega)
 simp only [numsV,hK] at hag ⊢
 obtain ⟨X,hX⟩ : ∃ X, -2 - (i : Int) = X := ⟨_,rfl⟩
 rw [hX] at c1 w2 ⊢
 have z1 : ¬ (i : Int) < 0 := by omega
 have hd : decide (((A &&& B : Nat) : Int) = 0) = decide (A &&& B = 0) := by simp
 refine FnZ_of (rs := [.tmp 10]) false Tryz.func156 rfl rfl rfl rfl (Nat.le_of_ble_eq_true rfl) ?_
 simp -dsimp
 refine call_ hag (by simp -dsimp) ?_
 simp -dsimp [c1,w1,w2]
 refine call_ hin (by simp -dsimp) ?_
 simp -dsimp [w2,hi,hget,z1,claim_cellsE]
 refine call_ hct (by simp -dsimp) ?_
 simp -dsimp [hand]
end TL

namespace TL
open Go Go.Proofs
attribute [local simp] marksV storyV codeV Claim.v Place.v
/-- The cells of a row of numbers. -/
def intsT (l : List Int) : List T := l.map fun x => T.v (.int .i64 x)
@[simp] theorem intsT_length (l : List Int) : (intsT l).length = l.length := by simp [intsT]
theorem intsT_set (l : List Int) (i : Nat) (x : Int) : (intsT l).set i (.v (.int .i64 x)) = intsT (l.set i x) := by simp [intsT,List.map_set]
theorem intsT_app (a b : List Int) : intsT (a ++ b) = intsT a ++ intsT b := by simp [intsT]
theorem intsT_mapO (m : Mem) (d : Nat) (l : List Int) : mapO (bor true m d) (intsT l) = some (l.map (V.int .i64)) := by
 induction l with
 | nil => rfl
 | cons x xs ih =>
  show (bor true m d (.v (.int .i64 x))).bind _ = _
  rw [show bor true m d (.v (.int .i64 x)) = some (.int .i64 x) by cases d <;> rfl]
  show (mapO (bor true m d) (intsT xs)).map _ = _
  rw [ih]; rfl
theorem ints_chunk (l : List Int) : chunk 1 l.length (l.map (V.int .i64)) = l.map (V.int .i64) := by
 induction l with
 | nil => rfl
 | cons x xs ih => simp [chunk]; exact ih
theorem bor_ints {m : Mem} {i : Nat} {e : TypeId} {l : List Int} {p : Nat} (d : Nat) (h : m i = some (.box e 1 (intsT l))) (hp : l.length = p) : bor true m (d + 1) (.sv i 0 p) = some (numsV l) := by
 subst hp
 show (match m i with | some (.box _ z cs) => tst (0 + l.length * z ≤ cs.length) (obind (mapO (TL.bor true m d) ((cs.drop 0).take (l.length * z))) fun xs => tst (∀ x ∈ xs,x.cell = true) (some (V.sl (chunk z l.length xs)))) | _ => none) = _
 rw [h]
 show tst (0 + l.length * 1 ≤ (intsT l).length) (obind (mapO (TL.bor true m d) (((intsT l).drop 0).take (l.length * 1))) fun xs => tst (∀ x ∈ xs,x.cell = true) (some (V.sl (chunk 1 l.length xs)))) = _
 rw [tst_pos (by simp),List.drop_zero,Nat.mul_one,List.take_of_length_le (by simp),intsT_mapO,obind_some,tst_pos (fun x hx => by obtain ⟨w,_,rfl⟩ := List.mem_map.1 hx; rfl),ints_chunk]; rfl
theorem spT_set (x : Sp) : ∀ (l : List Sp) (i : Nat),i < l.length → (((spT l).set (i * 3) (.v (.int .i64 x.who))).set (i * 3 + 1) (.v (.int .i64 x.no))).set (i * 3 + 2) (.v (.int .i64 x.yes)) = spT (l.set i x)
 | s :: l,0,_ => rfl
 | s :: l,i + 1,h => by
  have ih := spT_set x l i (by simpa using h)
  rw [spT_cons,show (i + 1) * 3 + 2 = (i * 3 + 2) + 1 + 1 + 1 by omega,show (i + 1) * 3 + 1 = (i * 3 + 1) + 1 + 1 + 1 by omega,show (i + 1) * 3 = (i * 3) + 1 + 1 + 1 by omega]
  simp only [List.set_cons_succ]
  rw [ih]; rfl
theorem intsT_allC (l : List Int) : allC (intsT l) := fun x hx => by obtain ⟨w,_,rfl⟩ := List.mem_map.1 hx; rfl
theorem spT_allC (l : List Sp) : allC (spT l) := fun x hx => by
 obtain ⟨w,_,hw⟩ := List.mem_flatMap.1 hx
 simp at hw
 rcases hw with rfl | rfl | rfl <;> rfl
def Ino (p : Nat) (m : Mem) (n : Nat) (e : Nat) (s : S) : Prop := ∃ i id : Nat,s.tm 0 = .v (.int .i64 p) ∧ s.tm 3 = .sv id 0 i ∧ n ≤ id ∧ id < s.n ∧ s.mu = true ∧ s.m id = some (.box 3 1 (intsT (List.replicate i (-1)))) ∧ s.tm 4 = .v (.int .i64 i) ∧ i ≤ p ∧ (∀ j,j < n → s.m j = m j) ∧ (e = 1 → i = p)
theorem l11Nothing_own (p : Nat) (hp : p ≤ 4) (m : Mem) (n : Nat) : FnS Tryz.prog 111 m n [.v (.int .i64 p)] (fun t m' n' => ∃ id,t = .sv id 0 p ∧ n ≤ id ∧ id < n' ∧ m' id = some (.box 3 1 (intsT (List.replicate p (-1)))) ∧ ∀ j,j < n → m' j = m j) := by
 refine FnS_of (rs := [.tmp 2]) true Tryz.func111 rfl rfl rfl rfl (Nat.le_of_ble_eq_true rfl) ?_
 simp -dsimp
 refine twp_loopC (Ino p m n 0) (fun s => p - natOf (s.tm 4)) (Ino p m n 1) ?_ ?_ ?_
 ·exact ⟨0,n,by simp -dsimp,by simp -dsimp,by omega,by simp -dsimp,by simp -dsimp,by simp -dsimp [intsT],by simp -dsimp,by omega,fun j j1 => by simp -dsimp [far j1],by simp⟩
 ·rintro s ⟨i,id,t0,t3,hid0,hid,hmu,hm,t4,hi,hout,hend⟩
  by_cases hlt : i < p
  case neg =>
   simp -dsimp [t0,t4,hlt]
   exact ⟨i,id,by simp -dsimp [t0],by simp -dsimp [t3],hid0,by simp -dsimp; omega,by simp -dsimp [hmu],by simp -dsimp [hm],by simp -dsimp [t4],hi,fun j j1 => by simp -dsimp [hout j j1],fun _ => by omega⟩
  have wi : IntKind.wrap .i64 ((i : Int) + 1) = ((i + 1 : Nat) : Int) := by rw [w64 (by omega) (by omega)]; omega
  have hmu1 : p - (i + 1) < p - i := by omega
  have f1 := far hid
  have b1 : (i + 1) * 8 ≤ 140737488355328 := by omega
  simp -dsimp [t0,t3,t4,hlt,hm,hmu,f1,b1,wi,hmu1,nes]
  refine st_out fun s' ht hm' hn' hu' => ?_
  have a0 := ht 0
  have a3 := ht 3
  have a4 := ht 4
  simp -dsimp [t0] at a0 a3 a4 hm' hn' hu'
  clear ht
  refine ⟨i + 1,_,a0,a3,by omega,by omega,by rw [hu',hmu], ?_,a4,by omega,fun j j1 => ?_,by simp⟩
  ·rw [List.replicate_succ',intsT_app]; simp [hm',nes,f1,intsT]
  ·simp [hm',far (show j < s.n by omega),show ¬ j = id by omega,hout j j1]
 ·rintro s ⟨i,id,t0,t3,hid0,hid,hmu,hm,t4,hi,hout,hend⟩
  have := hend rfl
  subst this
  simp -dsimp [t3]
  exact ⟨hid0,hid,hm,hout⟩
/-! Growing. -/
def grPost (G : List Sp × Int × Bool) (sid : Nat) (m : Mem) (n : Nat) (t : T) (m' : Mem) (n' : Nat) : Prop := ∃ id,t = .tup [.sv id 0 G.1.length,.v (.int .i64 G.2.1),.v (.bool G.2.2)] ∧ n ≤ n' ∧ (∀ j,j < n → m' j = m j) ∧ m' id = some (.box 153 3 (spT G.1)) ∧ (id = sid ∨ n ≤ id) ∧ id < n'
theorem growR_zero (p : Nat) (l : List Claim) (t : List Mark) (world : Nat) (sps : List Sp) : growR p l t 0 world sps = match leaf p l t p world with
  | some x => (sps,x.to 0,true)
  | none => (sps, -1,false) := rfl
theorem growR_leaf {p : Nat} {l : List Claim} {t : List Mark} {r k world : Nat} {x : PT} (hk : k + r = p) (h : leaf p l t k world = some x) (sps : List Sp) : growR p l t r world sps = (sps,x.to 0,true) := by
  cases r with
  | zero => obtain rfl : k = p := by omega
            rw [growR_zero,h]
  | succ r => rw [growR,show p - (r + 1) = k by omega,h]
theorem growR_none {p : Nat} {l : List Claim} {t : List Mark} {world : Nat} (h : leaf p l t p world = none) (sps : List Sp) : growR p l t 0 world sps = (sps, -1,false) := by rw [growR_zero,h]
theorem growR_succ (p : Nat) (l : List Claim) (t : List Mark) (r world : Nat) (sps : List Sp) : growR p l t (r + 1) world sps = match leaf p l t (p - (r + 1)) world with
  | some x => (sps,x.to 0,true)
  | none => ((growR p l t r (world + 2 ^ (p - (r + 1))) (growR p l t r world (sps ++ [⟨(p - (r + 1) : Nat), -1, -1⟩])).1).1.set sps.length ⟨(p - (r + 1) : Nat),(growR p l t r world (sps ++ [⟨(p - (r + 1) : Nat), -1, -1⟩])).2.1,(growR p l t r (world + 2 ^ (p - (r + 1))) (growR p l t r world (sps ++ [⟨(p - (r + 1) : Nat), -1, -1⟩])).1).2.1⟩,sps.length,(growR p l t r world (sps ++ [⟨(p - (r + 1) : Nat), -1, -1⟩])).2.2 && (growR p l t r (world + 2 ^ (p - (r + 1))) (growR p l t r world (sps ++ [⟨(p - (r + 1) : Nat), -1, -1⟩])).1).2.2) := rfl
theorem growR_step {p : Nat} {l : List Claim} {t : List Mark} {r k world : Nat} (hk : k + (r + 1) = p) (h : leaf p l t k world = none) (sps : List Sp) (A B : List Sp × Int × Bool) (hA : A = growR p l t r world (sps ++ [(⟨k, -1, -1⟩ : Sp)])) (hB : B = growR p l t r (world + 2 ^ k) A.1) :
  growR p l t (r + 1) world sps = (B.1.set sps.length ⟨k,A.2.1,B.2.1⟩,((sps.length : Nat) : Int),A.2.2 && B.2.2) := by
 subst hB; subst hA
 have e : p - (r + 1) = k := by omega
 rw [growR_succ,e,h]
def cntOf : T → Nat
 | .v (.int _ x) => (x + 1).toNat
 | _ => 0
@[simp] theorem cntOf_int (k : IntKind) (x : Int) : cntOf (.v (.int k x)) = (x + 1).toNat := rfl
def GrM (p k world : Nat) (sps : List Sp) (kid sid : Nat) (m : Mem) (n : Nat) : Prop := kid < n ∧ sid < n ∧ m kid = some (.box 3 1 (intsT (knownR p k world))) ∧ m sid = some (.box 153 3 (spT sps))
def Igr (p : Nat) (l : List Claim) (t : List Mark) (kid sid L : Nat) (m : Mem) (n hi : Nat) (e : Nat) (s : S) : Prop := ∃ i : Nat,s.tm 0 = .v (.int .i64 p) ∧ s.tm 1 = .v (storyV l) ∧ s.tm 2 = .v (marksV t) ∧ s.tm 3 = .sv kid 0 p ∧ s.tm 4 = .sv sid 0 L ∧ s.tm 13 = .v (.int .i64 (-1)) ∧ s.tm 14 = .v (.int .i64 i) ∧ i ≤ hi ∧ s.m = m ∧ s.n = n ∧ s.mu = true ∧ (e = 1 → i = l.length)
theorem grow_goal (p : Nat) (l : List Claim) (t : List Mark) (h : storyOk p l = true) (ht : termOk p t = true) (k world : Nat) (hk : k ≤ p) (hw : world < 2 ^ k) (sps : List Sp) (kid sid : Nat) (m : Mem) (n : Nat) (hM : GrM p k world sps kid sid m n) (hg : closG p t k world = true) :
  FnS Tryz.prog 110 m n [.v (.int .i64 p),.v (storyV l),.v (marksV t),.sv kid 0 p,.sv sid 0 sps.length] (grPost (sps, -1,true) sid m n) := by
 obtain ⟨k1,s1,km,sm⟩ := hM
 have hc := closesG_fn p l t h ht k world hk hw
 rw [hg] at hc
 have hb := fun d => bor_ints (p := p) d km (knownR_len p k world)
 have hb3 := hb 3
 obtain ⟨K,hK⟩ : ∃ K,numsV (knownR p k world) = K := ⟨_,rfl⟩
 rw [hK] at hc hb3
 refine FnS_of (rs := [.tmp 10,.tmp 11,.tmp 12]) true Tryz.func110 rfl rfl rfl rfl (Nat.le_of_ble_eq_true rfl) ?_
 simp -dsimp
 refine callM_ hc (by simp -dsimp [hb3]) rfl ?_
 simp -dsimp
 exact ⟨sid,rfl,Nat.le_refl _,fun j j1 => rfl,sm,.inl rfl,s1⟩
theorem grow_claim (p : Nat) (l : List Claim) (t : List Mark) (h : storyOk p l = true) (ht : termOk p t = true) (k world : Nat) (hk : k ≤ p) (hw : world < 2 ^ k) (sps : List Sp) (kid sid : Nat) (m : Mem) (n : Nat) (hM : GrM p k world sps kid sid m n)
  (hg : closG p t k world = false) (i0 : Nat) (hi0 : i0 < l.length) (h1 : closI p l k world i0 = true) (h2 : ∀ j,j < i0 → closI p l k world j = false) :
  FnS Tryz.prog 110 m n [.v (.int .i64 p),.v (storyV l),.v (marksV t),.sv kid 0 p,.sv sid 0 sps.length] (grPost (sps, -2 - (i0 : Int),true) sid m n) := by
 obtain ⟨k1,s1,km,sm⟩ := hM
 have h6 := (allOk_of h).2.2.2
 have hc := closesG_fn p l t h ht k world hk hw
 rw [hg] at hc
 have hcc := fun i hi => closesC_fn p l t h k world hk hw i hi
 have hb := fun d => bor_ints (p := p) d km (knownR_len p k world)
 have hb3 := hb 3
 obtain ⟨K,hK⟩ : ∃ K,numsV (knownR p k world) = K := ⟨_,rfl⟩
 rw [hK] at hc hb3
 simp only [hK] at hcc
 clear hb
 refine FnS_of (rs := [.tmp 10,.tmp 11,.tmp 12]) true Tryz.func110 rfl rfl rfl rfl (Nat.le_of_ble_eq_true rfl) ?_
 simp -dsimp
 refine callM_ hc (by simp -dsimp [hb3]) rfl ?_
 simp -dsimp
 refine twp_loopC (Igr p l t kid sid sps.length m n i0 0) (fun s => l.length - natOf (s.tm 14)) (fun _ => False) ?_ ?_ ?_
 ·exact ⟨0,by simp -dsimp,by simp -dsimp,by simp -dsimp,by simp -dsimp,by simp -dsimp,by simp -dsimp,by simp -dsimp,by omega,by simp -dsimp,by simp -dsimp,by simp -dsimp,by simp⟩
 ·rintro s ⟨i,t0,t1,t2,t3,t4,t13,t14,hi,hm,hn,hmu,hend⟩
  have hlt : i < l.length := by omega
  have hlt' : (i : Int) < l.length := by omega
  have wi : IntKind.wrap .i64 ((i : Int) + 1) = ((i + 1 : Nat) : Int) := by rw [w64 (by omega) (by omega)]; omega
  have hmu1 : l.length - (i + 1) < l.length - i := by omega
  have w2 : IntKind.wrap .i64 (-2 - (i : Int)) = -2 - (i : Int) := w64 (by omega) (by omega)
  have hci := hcc i hlt
  by_cases he : i = i0
  ·rw [he] at hci w2 t14 hlt hlt'
   rw [h1] at hci
   obtain ⟨X,hX⟩ : ∃ X, -2 - (i0 : Int) = X := ⟨_,rfl⟩
   have w2 := w2.trans hX
   rw [hX] at hci ⊢
   simp -dsimp [t0,t1,t2,t3,t4,t14,hlt,hlt',w2]
   refine callM_ hci (by simp -dsimp [hm,hb3]) rfl ?_
   simp -dsimp [t4,t14,w2,hm,hn]
   exact ⟨sid,rfl,Nat.le_refl _,fun j j1 => rfl,sm,.inl rfl,s1⟩
  ·rw [h2 i (by omega)] at hci
   simp -dsimp [t0,t1,t2,t3,t4,t14,hlt,hlt',w2]
   refine callM_ hci (by simp -dsimp [hm,hb3]) rfl ?_
   simp -dsimp [t14,wi,hmu1]
   exact ⟨i + 1,by simp -dsimp [t0],by simp -dsimp [t1],by simp -dsimp [t2],by simp -dsimp [t3],by simp -dsimp [t4],by simp -dsimp [t13],by simp -dsimp,by omega,by simp -dsimp [hm],by simp -dsimp [hn],by simp -dsimp [hmu],by simp⟩
 ·intro s hs; exact hs.elim
/-- Behind the search of the person: the next person is k, if there is one. -/
def Igp (p k : Nat) (l : List Claim) (t : List Mark) (kid sid L : Nat) (m : Mem) (n : Nat) (e : Nat) (s : S) : Prop := ∃ c : Nat,s.tm 0 = .v (.int .i64 p) ∧ s.tm 1 = .v (storyV l) ∧ s.tm 2 = .v (marksV t) ∧ s.tm 3 = .sv kid 0 p ∧ s.tm 4 = .sv sid 0 L ∧ s.tm 13 = .v (.int .i64 (if max k c < p then ((max k c : Nat) : Int) else -1)) ∧ s.tm 15 = .v (.int .i64 ((c : Int) - 1)) ∧ c ≤ p ∧ s.m = m ∧ s.n = n ∧ s.mu = true ∧ (e = 1 → c = 0)
theorem grow_rest (p : Nat) (l : List Claim) (t : List Mark) (h : storyOk p l = true) (ht : termOk p t = true) (k world : Nat) (hk : k ≤ p) (hw : world < 2 ^ k) (sps : List Sp) (hL : sps.length ≤ 1000) (kid sid : Nat) (m : Mem) (n : Nat) (hM : GrM p k world sps kid sid m n)
  (hg : closG p t k world = false) (h2 : ∀ j,j < l.length → closI p l k world j = false) (G : List Sp × Int × Bool) (h0 : k = p → G = (sps, -1,false))
  (A B : List Sp × Int × Bool) (hG : k < p → G = (B.1.set sps.length ⟨k,A.2.1,B.2.1⟩,((sps.length : Nat) : Int),A.2.2 && B.2.2) ∧ sps.length < B.1.length ∧ B.1.length ≤ 1000)
  (ia : k < p → ∀ (kid sid : Nat) (m : Mem) (n : Nat),GrM p (k + 1) world (sps ++ [⟨k, -1, -1⟩]) kid sid m n → FnS Tryz.prog 110 m n [.v (.int .i64 p),.v (storyV l),.v (marksV t),.sv kid 0 p,.sv sid 0 (sps.length + 1)] (grPost A sid m n))
  (ib : k < p → ∀ (kid sid : Nat) (m : Mem) (n : Nat),GrM p (k + 1) (world + 2 ^ k) A.1 kid sid m n → FnS Tryz.prog 110 m n [.v (.int .i64 p),.v (storyV l),.v (marksV t),.sv kid 0 p,.sv sid 0 A.1.length] (grPost B sid m n)) :
  FnS Tryz.prog 110 m n [.v (.int .i64 p),.v (storyV l),.v (marksV t),.sv kid 0 p,.sv sid 0 sps.length] (grPost G sid m n) := by
 obtain ⟨k1,s1,km,sm⟩ := hM
 obtain ⟨hp1,hp4,_,h6⟩ := allOk_of h
 have hc := closesG_fn p l t h ht k world hk hw
 rw [hg] at hc
 have hcc := fun i hi => closesC_fn p l t h k world hk hw i hi
 have hb := fun d => bor_ints (p := p) d km (knownR_len p k world)
 have hb3 := hb 3
 have hkl := knownR_len p k world
 have hkg := fun i (hi : i < p) => knownR_get (k := k) (world := world) hi
 have hno := fun (hkp : k < p) => knownR_no hkp hw
 have hyes := fun (hkp : k < p) => knownR_yes hkp hw
 obtain ⟨K,hK⟩ : ∃ K,numsV (knownR p k world) = K := ⟨_,rfl⟩
 rw [hK] at hc hb3
 simp only [hK] at hcc
 clear hb
 obtain ⟨A1,A2,A3⟩ := A
 obtain ⟨B1,B2,B3⟩ := B
 obtain ⟨G1,G2,G3⟩ := G
 simp only [Prod.mk.injEq] at hG ia ib
 have hst2 : k < p → (((spT B1).set (sps.length * 3) (.v (.int .i64 k))).set (sps.length * 3 + 1) (.v (.int .i64 A2))).set (sps.length * 3 + 2) (.v (.int .i64 B2)) = spT G1 := fun h => by
  rw [(hG h).1.1]; exact spT_set ⟨k,A2,B2⟩ B1 sps.length (hG h).2.1
 have hln : k < p → G1.length = B1.length := fun h => by rw [(hG h).1.1,List.length_set]
 have hbl := spT_len B1
 obtain ⟨c3,hc3⟩ : ∃ c3,spT B1 = c3 := ⟨_,rfl⟩
 rw [hc3] at hst2 hbl
 refine FnS_of (rs := [.tmp 10,.tmp 11,.tmp 12]) true Tryz.func110 rfl rfl rfl rfl (Nat.le_of_ble_eq_true rfl) ?_
 simp -dsimp
 refine callM_ hc (by simp -dsimp [hb3]) rfl ?_
 simp -dsimp
 refine twp_loopC (Igr p l t kid sid sps.length m n l.length 0) (fun s => l.length - natOf (s.tm 14)) (Igr p l t kid sid sps.length m n l.length 1) ?_ ?_ ?_
 ·exact ⟨0,by simp -dsimp,by simp -dsimp,by simp -dsimp,by simp -dsimp,by simp -dsimp,by simp -dsimp,by simp -dsimp,by omega,by simp -dsimp,by simp -dsimp,by simp -dsimp,by simp⟩
 ·rintro s ⟨i,t0,t1,t2,t3,t4,t13,t14,hi,hm,hn,hmu,hend⟩
  by_cases hlt : i < l.length
  case neg =>
   simp -dsimp [t1,t14,hlt]
   exact ⟨i,by simp -dsimp [t0],by simp -dsimp [t1],by simp -dsimp [t2],by simp -dsimp [t3],by simp -dsimp [t4],by simp -dsimp [t13],by simp -dsimp [t14],by omega,by simp -dsimp [hm],by simp -dsimp [hn],by simp -dsimp [hmu],fun _ => by omega⟩
  have hlt' : (i : Int) < l.length := by omega
  have wi : IntKind.wrap .i64 ((i : Int) + 1) = ((i + 1 : Nat) : Int) := by rw [w64 (by omega) (by omega)]; omega
  have hmu1 : l.length - (i + 1) < l.length - i := by omega
  have w2 : IntKind.wrap .i64 (-2 - (i : Int)) = -2 - (i : Int) := w64 (by omega) (by omega)
  have hci := hcc i hlt
  rw [h2 i hlt] at hci
  simp -dsimp [t0,t1,t2,t3,t4,t14,hlt,hlt',w2]
  refine callM_ hci (by simp -dsimp [hm,hb3]) rfl ?_
  simp -dsimp [t14,wi,hmu1]
  exact ⟨i + 1,by simp -dsimp [t0],by simp -dsimp [t1],by simp -dsimp [t2],by simp -dsimp [t3],by simp -dsimp [t4],by simp -dsimp [t13],by simp -dsimp,by omega,by simp -dsimp [hm],by simp -dsimp [hn],by simp -dsimp [hmu],by simp⟩
 rintro s ⟨i,t0,t1,t2,t3,t4,t13,t14,hi,hm,hn,hmu,hend⟩
 have wp : IntKind.wrap .i64 ((p : Int) - 1) = (p : Int) - 1 := w64 (by omega) (by omega)
 simp -dsimp [t0,wp]
 refine twp_loopC (Igp p k l t kid sid sps.length m n 0) (fun s => cntOf (s.tm 15)) (Igp p k l t kid sid sps.length m n 1) ?_ ?_ ?_
 ·refine ⟨p,by simp -dsimp [t0],by simp -dsimp [t1],by simp -dsimp [t2],by simp -dsimp [t3],by simp -dsimp [t4], ?_,by simp -dsimp,by omega,by simp -dsimp [hm],by simp -dsimp [hn],by simp -dsimp [hmu],by simp⟩
  rw [if_neg (by omega)]; simp -dsimp [t13]
 ·rintro s ⟨c,t0,t1,t2,t3,t4,t13,t15,hcp,hm,hn,hmu,hend⟩
  by_cases hc0 : c = 0
  ·subst hc0
   have t15 : s.tm 15 = .v (.int .i64 (-1)) := by rw [t15]; rfl
   simp -dsimp [t15]
   exact ⟨0,by simp -dsimp [t0],by simp -dsimp [t1],by simp -dsimp [t2],by simp -dsimp [t3],by simp -dsimp [t4],by simp -dsimp [t13],by simp -dsimp [t15],hcp,by simp -dsimp [hm],by simp -dsimp [hn],by simp -dsimp [hmu],fun _ => rfl⟩
  obtain ⟨d,rfl⟩ : ∃ d,c = d + 1 := ⟨c - 1,by omega⟩
  have ed : ((d + 1 : Nat) : Int) - 1 = (d : Int) := by omega
  rw [ed] at t15
  have hdp : d < p := by omega
  have hdp' : (d : Int) < p := by omega
  have z1 : ¬ (d : Int) < 0 := by omega
  have wd : IntKind.wrap .i64 ((d : Int) - 1) = (d : Int) - 1 := w64 (by omega) (by omega)
  have hkm : s.m kid = some (.box 3 1 (intsT (knownR p k world))) := by rw [hm,km]
  have hgt : (intsT (knownR p k world))[d]? = some (.v (.int .i64 (if d < k then bitI world d else -1))) := by
   have := hkg d hdp
   unfold intsT; rw [List.getElem?_map,this]; rfl
  have hit : (intsT (knownR p k world)).length = p := by simp [hkl]
  have hms : ((d : Int) - 1 + 1).toNat < ((d : Int) + 1).toNat := by omega
  obtain ⟨c1,hc1⟩ : ∃ c1,intsT (knownR p k world) = c1 := ⟨_,rfl⟩
  rw [hc1] at hkm hgt hit
  have hdc : d < c1.length := by omega
  rw [List.getElem?_eq_getElem hdc] at hgt
  have hgt := Option.some.inj hgt
  by_cases hdk : d < k
  ·rw [if_pos hdk] at hgt
   have hnn : ¬ bitI world d < 0 := by unfold bitI; split <;> omega
   have em : max k (d + 1) = max k d := by omega
   rw [em] at t13
   simp -dsimp [t3,t15,hdp,hdp',z1,hkm,hgt,hit,hnn,wd]
   exact ⟨d,by simp -dsimp [t0],by simp -dsimp [t1],by simp -dsimp [t2],by simp -dsimp [t3],by simp -dsimp [t4],by simp -dsimp [t13],by simp -dsimp,by omega,by simp -dsimp [hm],by simp -dsimp [hn],by simp -dsimp [hmu],by simp⟩
  ·rw [if_neg hdk] at hgt
   have em : max k d = d := by omega
   simp -dsimp [t3,t15,hdp,hdp',z1,hkm,hgt,hit,wd]
   exact ⟨d,by simp -dsimp [t0],by simp -dsimp [t1],by simp -dsimp [t2],by simp -dsimp [t3],by simp -dsimp [t4],by simp -dsimp [em,hdp],by simp -dsimp,by omega,by simp -dsimp [hm],by simp -dsimp [hn],by simp -dsimp [hmu],by simp⟩
 ·rintro s ⟨c,t0,t1,t2,t3,t4,t13,t15,hcp,hm,hn,hmu,hend⟩
  have hc0 := hend rfl
  subst hc0
  rw [show max k 0 = k by omega] at t13
  by_cases hkp : k < p
  case neg =>
   have hG := h0 (by omega)
   rw [hG]
   rw [if_neg hkp] at t13
   simp -dsimp [t4,t13,hm,hn]
   exact ⟨sid,rfl,Nat.le_refl _,fun j j1 => rfl,sm,.inl rfl,s1⟩
  rw [if_pos hkp] at t13
  have z1 : ¬ (k : Int) < 0 := by omega
  have hno := hno hkp
  have hyes := hyes hkp
  have hG := hG hkp
  have ia := ia hkp
  have ib := ib hkp
  have hkm : s.m kid = some (.box 3 1 (intsT (knownR p k world))) := by rw [hm,km]
  have hsm : s.m sid = some (.box 153 3 (spT sps)) := by rw [hm,sm]
  have hit : (intsT (knownR p k world)).length = p := by simp [hkl]
  have st0 : (intsT (knownR p k world)).set k (.v (.int .i64 0)) = intsT (knownR p (k + 1) world) := by rw [intsT_set,hno]
  have st1 : (intsT (knownR p k world)).set k (.v (.int .i64 1)) = intsT (knownR p (k + 1) (world + 2 ^ k)) := by rw [intsT_set,hyes]
  have itk : (intsT (knownR p k world)).take p = intsT (knownR p k world) := List.take_of_length_le (by omega)
  have sps1 : spT sps ++ [T.v (.int .i64 k),.v (.int .i64 (-1)),.v (.int .i64 (-1))] = spT (sps ++ [⟨k, -1, -1⟩]) := by rw [spT_app]; rfl
  have stk := spT_take sps
  have sln := spT_len sps
  have al1 : allC (intsT (knownR p k world)) := intsT_allC _
  have al2 : allC (spT sps) := spT_allC _
  obtain ⟨c1,hc1⟩ : ∃ c1,intsT (knownR p k world) = c1 := ⟨_,rfl⟩
  obtain ⟨c2,hc2⟩ : ∃ c2,spT sps = c2 := ⟨_,rfl⟩
  rw [hc1] at al1
  rw [hc2] at al2
  rw [hc1] at hkm hit st0 st1 itk
  rw [hc2] at hsm sps1 stk sln
  have hkn : kid < s.n := by omega
  have hsn : sid < s.n := by omega
  have f1 := far hkn
  have f2 := far hsn
  have hkp' : (k : Int) < p := by omega
  have b1 : sps.length * 24 ≤ 140737488355328 := by omega
  have b2 : (sps.length + 1) * 24 ≤ 140737488355328 := by omega
  have b3 : p * 8 ≤ 140737488355328 := by omega
  have o1 : k + 1 ≤ p := hkp
  simp -dsimp [t0,t1,t2,t3,t4,t13,z1,hkm,hsm,hit,itk,stk,sln,al1,al2,st0,st1,sps1,f1,f2,b1,b2,b3,hmu,hkp,hkp',o1,setAt,nes,nes8]
  refine callS_ (ia _ _ _ _ ?_) ?_
  ·refine ⟨?_, ?_, ?_, ?_⟩
   ·omega
   ·omega
   ·simp -dsimp [nes,nes8]
   ·simp -dsimp [nes,nes8]
  rintro t m1 n1 ⟨id1,rfl,hn1,hout1,hm1,hid1,hid1b⟩
  have hb1 := hout1 (s.n + 1 + 1 + 1 + 1 + 1 + 1 + 1 + 1) (by omega)
  simp -dsimp [nes,nes8] at hb1
  simp only at hm1
  simp -dsimp [t0,t1,t2,nes,nes8]
  refine callS_ (ib _ _ _ _ ?_) ?_
  ·refine ⟨?_, ?_, ?_, ?_⟩
   ·omega
   ·omega
   ·exact hb1
   ·exact hm1
  rintro t m2 n2 ⟨id2,rfl,hn2,hout2,hm2,hid2,hid2b⟩
  simp only [hc3] at hm2
  have hB1 := hG.2.1
  have hB2 := hG.2.2
  have hst2 := hst2 hkp
  have hln := hln hkp
  have o2 : sps.length * 3 + 3 ≤ B1.length * 3 := by omega
  have hB1' : (sps.length : Int) < B1.length := by omega
  have hfl : ∀ j,j < n → m2 j = s.m j := fun j j1 => by rw [hout2 j (by omega),hout1 j (by omega)]; simp -dsimp [far (show j < s.n by omega)]
  have hid2n : n ≤ id2 := by omega
  have f3 := far hid2b
  cases A3
  ·simp -dsimp [t0,t1,t2,t13,hm2,hB1,hB1',o2,hbl,hst2,setAt,f3,nes,nes8]
   refine ⟨id2, ?_, ?_, ?_, ?_, ?_, ?_⟩
   ·simp only [hln,hG.1.2.1,hG.1.2.2]; rfl
   ·omega
   ·intro j j1
    simp [show ¬ j = id2 by omega,hfl j j1,hm]
   ·simp
   ·exact .inr hid2n
   ·omega
  ·simp -dsimp [t0,t1,t2,t13,hm2,hB1,hB1',o2,hbl,hst2,setAt,f3,nes,nes8]
   refine ⟨id2, ?_, ?_, ?_, ?_, ?_, ?_⟩
   ·simp only [hln,hG.1.2.1,hG.1.2.2]; rfl
   ·omega
   ·intro j j1
    simp [show ¬ j = id2 by omega,hfl j j1,hm]
   ·simp
   ·exact .inr hid2n
   ·omega
theorem grow_s (p : Nat) (l : List Claim) (t : List Mark) (h : storyOk p l = true) (ht : termOk p t = true) : ∀ (r k world : Nat) (sps : List Sp) (kid sid : Nat) (m : Mem) (n : Nat),k + r = p → world < 2 ^ k → sps.length + 2 ^ r ≤ 1000 → GrM p k world sps kid sid m n →
  FnS Tryz.prog 110 m n [.v (.int .i64 p),.v (storyV l),.v (marksV t),.sv kid 0 p,.sv sid 0 sps.length] (grPost (growR p l t r world sps) sid m n)
 | 0,k,world,sps,kid,sid,m,n,hk,hw,hlen,hM => by
  rcases leaf_cases p l t k world with ⟨a1,a2⟩ | ⟨b1,i0,b2,b3,b4,b5⟩ | ⟨c1,c2,c3⟩
  ·rw [growR_leaf hk a2]; exact grow_goal p l t h ht k world (by omega) hw sps kid sid m n hM a1
  ·rw [growR_leaf hk b5]; exact grow_claim p l t h ht k world (by omega) hw sps kid sid m n hM b1 i0 b2 b3 b4
  ·obtain rfl : k = p := by omega
   exact grow_rest k l t h ht k world (by omega) hw sps (by omega) kid sid m n hM c1 c2 _ (fun _ => growR_none c3 sps) ([],0,false) ([],0,false) (fun h => absurd h (by omega)) (fun h => absurd h (by omega)) (fun h => absurd h (by omega))
 | r + 1,k,world,sps,kid,sid,m,n,hk,hw,hlen,hM => by
  rcases leaf_cases p l t k world with ⟨a1,a2⟩ | ⟨b1,i0,b2,b3,b4,b5⟩ | ⟨c1,c2,c3⟩
  ·rw [growR_leaf hk a2]; exact grow_goal p l t h ht k world (by omega) hw sps kid sid m n hM a1
  ·rw [growR_leaf hk b5]; exact grow_claim p l t h ht k world (by omega) hw sps kid sid m n hM b1 i0 b2 b3 b4
  ·have hA := growR_len p l t r world (sps ++ [(⟨k, -1, -1⟩ : Sp)])
   have hB := growR_len p l t r (world + 2 ^ k) (growR p l t r world (sps ++ [(⟨k, -1, -1⟩ : Sp)])).1
   have hst := growR_step hk c3 sps _ _ rfl rfl
   have e : (sps ++ [(⟨k, -1, -1⟩ : Sp)]).length = sps.length + 1 := by simp
   rw [e] at hA
   rw [Nat.pow_succ] at hlen
   refine grow_rest p l t h ht k world (by omega) hw sps (by omega) kid sid m n hM c1 c2 _ (fun h => absurd h (by omega)) (growR p l t r world (sps ++ [(⟨k, -1, -1⟩ : Sp)])) (growR p l t r (world + 2 ^ k) (growR p l t r world (sps ++ [(⟨k, -1, -1⟩ : Sp)])).1) (fun _ => ⟨hst,by omega,by omega⟩) (fun _ kid sid m n hM => ?_) (fun _ kid sid m n hM => ?_)
   ·have := grow_s p l t h ht r (k + 1) world (sps ++ [(⟨k, -1, -1⟩ : Sp)]) kid sid m n (by omega) (by rw [Nat.pow_succ]; omega) (by rw [e]; omega) hM
    rw [e] at this; exact this
   ·exact grow_s p l t h ht r (k + 1) (world + 2 ^ k) _ kid sid m n (by omega) (by rw [Nat.pow_succ]; omega) (by omega) hM
end TL
