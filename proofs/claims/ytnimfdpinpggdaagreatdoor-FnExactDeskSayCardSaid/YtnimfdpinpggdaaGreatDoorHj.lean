/- TL: parts FnsIL, FnsIF, FnsIG, FnsIS, FnsR9, FnsJ5, FnsJ6, FnsJ7, TlOwn, FnsJ8, FnsJB, FnsJC, FnsJ9, TlUp. -/
import Derived.Test.YtnimfdpinpggdaaGreatDoorHi
import Derived.Test.YtnimfdpinpggdaaGreatDoorHg
import Derived.Test.YtnimfdpinpggdaaGreatDoorHh
import Derived.Test.YtnimfdpinpggdaaGreatDoorHe
import Derived.Test.YtnimfdpinpggdaaGreatDoorHf
import Derived.Test.YtnimfdpinpggdaaGreatDoorHc
set_option linter.unusedSimpArgs false
set_option linter.unusedVariables false
set_option maxRecDepth 100000
set_option maxHeartbeats 4000000
set_option pp.maxSteps 1500
namespace TL
open Go Go.Proofs
attribute [local simp] marksV storyV codeV Claim.v Place.v numsV
def IkoS (ks : List Int) (e : Nat) (s : S) : Prop := ∃ i : Nat,s.tm 0 = .v (.sl (ks.map (V.int .i64))) ∧ s.tm 3 = .v (.int .i64 i) ∧ i ≤ ks.length ∧ (e = 1 → i = ks.length)
theorem kindsOkS_fn (ks : List Int) (hk : kinds3 ks) (h1 : 1 ≤ ks.length) (h4 : ks.length ≤ 4) : FnZ Tryz.prog 148 [numsV ks] (.bool true) := by
 have hpo := l1In_fn (ks.length : Int) 1 4
 have hpt : inR (ks.length : Int) 1 4 = true := (inR_true ..).2 (by omega)
 rw [hpt] at hpo
 refine FZ (rs := [.tmp 2]) false Tryz.func148 ?_
 simp -dsimp [numsV]
 refine twp_loopC (IkoS ks 0) (fun s => ks.length - natOf (s.tm 3)) (IkoS ks 1) ?_ ?_ ?_
 ·exact ⟨0,by simp -dsimp,by simp -dsimp,by omega,by simp⟩
 ·rintro s ⟨i,t0,t3,hi,hend⟩
  by_cases hlt : i < ks.length
  case neg =>
   simp -dsimp [t0,t3,hlt]
   exact ⟨i,by simp -dsimp [t0],by simp -dsimp [t3],hi,fun _ => by omega⟩
  have hget : (ks.map (V.int .i64))[i]? = some (.int .i64 ks[i]) := by simp [hlt]
  have wi : IntKind.wrap .i64 ((i : Int) + 1) = ((i + 1 : Nat) : Int) := by rw [w64 (by omega) (by omega)]; omega
  have hmu1 : ks.length - (i + 1) < ks.length - i := by omega
  have hin := l1In_fn ks[i] 0 2
  have hit : inR ks[i] 0 2 = true := (inR_true ..).2 (by rcases kinds3_at hk hlt with hv | hv | hv <;> rw [hv] <;> omega)
  rw [hit] at hin
  simp -dsimp [t0,t3,hlt,hget]
  refine cl hin ?_
  simp -dsimp [t0,t3,hlt,wi,hmu1]
  exact ⟨i + 1,by simp -dsimp [t0],by simp -dsimp,by omega,by simp⟩
 ·rintro s ⟨i,t0,t3,hi,hend⟩
  simp -dsimp [t0]
  refine cl hpo ?_
  simp -dsimp
def IwkS (ks : List Int) (e : Nat) (s : S) : Prop := ∃ i : Nat,s.tm 0 = .v (.sl (ks.map (V.int .i64))) ∧ s.tm 4 = .v (.int .i64 i) ∧ s.tm 3 = .v (.int .i64 (tabN i fun i => decide (ks[i]? = some 1))) ∧ i ≤ ks.length ∧ (e = 1 → i = ks.length)
theorem l9World_fn (ks : List Int) (h4 : ks.length ≤ 4) : FnZ Tryz.prog 186 [numsV ks] (.int .i64 (worldK ks)) := by
 refine FZ (rs := [.tmp 2]) false Tryz.func186 ?_
 simp -dsimp [numsV]
 refine twp_loopC (IwkS ks 0) (fun s => ks.length - natOf (s.tm 4)) (IwkS ks 1) ?_ ?_ ?_
 ·exact ⟨0,by simp -dsimp,by simp -dsimp,by simp -dsimp [tabN],by omega,by simp⟩
 ·rintro s ⟨i,t0,t4,t3,hi,hend⟩
  by_cases hlt : i < ks.length
  case neg =>
   simp -dsimp [t0,t4,hlt]
   exact ⟨i,by simp -dsimp [t0],by simp -dsimp [t4],by simp -dsimp [t3],hi,fun _ => by omega⟩
  have hget : (ks.map (V.int .i64))[i]? = some (.int .i64 ks[i]) := by simp [hlt]
  have hg2 : ks[i]? = some ks[i] := List.getElem?_eq_getElem hlt
  have wi : IntKind.wrap .i64 ((i : Int) + 1) = ((i + 1 : Nat) : Int) := by rw [w64 (by omega) (by omega)]; omega
  have hmu1 : ks.length - (i + 1) < ks.length - i := by omega
  have z1 : ¬ (i : Int) < 0 := by omega
  have hb := tabN_lt (fun i => decide (ks[i]? = some 1)) i
  have hp : 2 ^ i ≤ 2 ^ 16 := Nat.pow_le_pow_right (by omega) (by omega)
  have h2 : (2 : Nat) ^ i < 4611686018427387904 := by omega
  have wsh : IntKind.wrap .i64 (2 ^ min i IntKind.i64.bits) = ((2 ^ i : Nat) : Int) := by rw [shl_fact (by omega)]; simp
  have hor := or_ni (a := tabN i fun i => decide (ks[i]? = some 1)) (b := 2 ^ i) (x := (2 : Int) ^ i) (by simp) (by omega) h2
  have hsucc : tabN (i + 1) (fun i => decide (ks[i]? = some 1)) = if decide (ks[i]? = some 1) = true then tabN i (fun i => decide (ks[i]? = some 1)) ||| 2 ^ i else tabN i (fun i => decide (ks[i]? = some 1)) := rfl
  obtain ⟨A,hA⟩ : ∃ A,tabN i (fun i => decide (ks[i]? = some 1)) = A := ⟨_,rfl⟩
  rw [hA] at t3 hor hsucc
  by_cases hv : ks[i] = 1
  ·rw [hg2,hv,if_pos (by simp)] at hsucc
   simp -dsimp [t0,t3,t4,hlt,hv,wi,hmu1,wsh,hor,z1]
   exact ⟨i + 1,by simp -dsimp [t0],by simp -dsimp,by simp -dsimp [hsucc],by omega,by simp⟩
  ·rw [hg2,if_neg (by simp [hv])] at hsucc
   simp -dsimp [t0,t3,t4,hlt,wi,hmu1,wsh,hor,z1,hv]
   exact ⟨i + 1,by simp -dsimp [t0],by simp -dsimp,by simp -dsimp [t3,hsucc],by omega,by simp⟩
 ·rintro s ⟨i,t0,t4,t3,hi,hend⟩
  have := hend rfl
  subst this
  have e : tabN ks.length (fun i => decide (ks[i]? = some 1)) = worldK ks := rfl
  rw [e] at t3
  simp -dsimp [t3]
theorem spySaysS_fn (ks : List Int) (c : Claim) (hk : kinds3 ks) (h : claimOk (ks.length : Nat) c = true) : FnZ Tryz.prog 149 [numsV ks,c.v] (.bool (saysB ks c)) := by
 obtain ⟨hp1,hp4,h0,h1,ht,hl,hr⟩ := claim_facts h
 have hok := kindsOkS_fn ks hk (by omega) (by omega)
 have hck := claimOkS_fn (ks.length : Nat) c (claim_fine h).1
 rw [h] at hck
 have hwk := l9World_fn ks (by omega)
 have hms := l4May_fn _ c h (worldK ks) (worldK_lt (by omega))
 obtain ⟨k,hk0⟩ := Int.eq_ofNat_of_zero_le h0
 have hkl : k < ks.length := by omega
 have e : saysB ks c = (decide (ks[k] = 2) || mayB c (worldK ks)) := by
  unfold saysB
  rw [hk0,Int.toNat_natCast,List.getElem?_eq_getElem hkl]; simp
 have hget : (ks.map (V.int .i64))[k]? = some (.int .i64 ks[k]) := by simp [hkl]
 rw [e]
 obtain ⟨B,hB⟩ : ∃ B,mayB c (worldK ks) = B := ⟨_,rfl⟩
 rw [hB] at hms ⊢
 obtain ⟨who,says⟩ := c
 simp only at hk0
 subst hk0
 have z1 : ¬ (k : Int) < 0 := by omega
 by_cases hv : ks[k] = 2
 ·rw [hv]
  refine FZ (rs := [.tmp 4]) false Tryz.func149 ?_
  simp -dsimp [numsV]
  refine call_ hok (by simp -dsimp [numsV]) ?_
  simp -dsimp
  refine cl hck ?_
  simp -dsimp
  refine twd (List.range 13) [0] (List.replicate 13 [0]) (List.replicate 13 [0]) ?_
  simp -dsimp [List.range_succ,hkl,hv,z1]
 ·refine FZ (rs := [.tmp 4]) false Tryz.func149 ?_
  simp -dsimp [numsV]
  refine call_ hok (by simp -dsimp [numsV]) ?_
  simp -dsimp
  refine cl hck ?_
  simp -dsimp
  refine twd (List.range 13) [0] (List.replicate 13 [0]) (List.replicate 13 [0]) ?_
  simp -dsimp [List.range_succ,hkl,z1,hv]
  refine call_ hwk (by simp -dsimp [numsV]) ?_
  simp -dsimp [hkl,z1,hv]
  refine cl hms ?_
  simp -dsimp [hv]
def IssS (ks : List Int) (l : List Claim) (e : Nat) (s : S) : Prop := ∃ i : Nat,s.tm 0 = .v (.sl (ks.map (V.int .i64))) ∧ s.tm 1 = .v (.sl (l.map Claim.v)) ∧ s.tm 5 = .v (.int .i64 i) ∧ i ≤ l.length ∧ (l.take i).all (saysB ks) = true ∧ (e = 1 → i = l.length)
theorem spyStoryS_fn (ks : List Int) (l : List Claim) (hk : kinds3 ks) (h : storyOk (ks.length : Nat) l = true) : FnZ Tryz.prog 104 [numsV ks,storyV l] (.bool (spyOk l ks)) := by
 obtain ⟨h1,h4,hc,h6⟩ := allOk_of h
 have hok := kindsOkS_fn ks hk (by omega) (by omega)
 have hst := storyOkS_fn (ks.length : Nat) l (by omega) fun c hx => (claim_fine (hc c hx)).1
 rw [h] at hst
 refine FZ (rs := [.tmp 4]) false Tryz.func104 ?_
 simp -dsimp [numsV]
 refine call_ hok (by simp -dsimp [numsV]) ?_
 simp -dsimp
 refine cl hst ?_
 simp -dsimp
 refine twp_loopC (IssS ks l 0) (fun s => l.length - natOf (s.tm 5)) (IssS ks l 1) ?_ ?_ ?_
 ·exact ⟨0,by simp -dsimp,by simp -dsimp,by simp -dsimp,by omega,by simp,by simp⟩
 ·rintro s ⟨i,t0,t1,t5,hi,hall,hend⟩
  by_cases hlt : i < l.length
  case neg =>
   simp -dsimp [t1,t5,hlt]
   exact ⟨i,by simp -dsimp [t0],by simp -dsimp [t1],by simp -dsimp [t5],hi,hall,fun _ => by omega⟩
  have hget : (l.map Claim.v)[i]? = some (l[i].v) := by simp [hlt]
  have wi : IntKind.wrap .i64 ((i : Int) + 1) = ((i + 1 : Nat) : Int) := by rw [w64 (by omega) (by omega)]; omega
  have hmu1 : l.length - (i + 1) < l.length - i := by omega
  have hss := spySaysS_fn ks l[i] hk (hc _ (List.getElem_mem hlt))
  have hnx : (l.take (i + 1)).all (saysB ks) = ((l.take i).all (saysB ks) && saysB ks l[i]) := by
   rw [List.take_succ_eq_append_getElem hlt,List.all_append]; simp
  have hwhole : saysB ks l[i] = false → spyOk l ks = false := fun hf => by
   unfold spyOk
   cases hq : l.all (saysB ks) with
   | false => rfl
   | true => rw [List.all_eq_true.1 hq _ (List.getElem_mem hlt)] at hf; cases hf
  simp -dsimp [t0,t1,t5,hlt,hget,claim_cellsE]
  refine call_ hss (by simp -dsimp [numsV]) ?_
  have hb := ft (saysB ks l[i])
  rcases hb with hb | hb
  ·have hw := hwhole hb
   simp -dsimp [hb,hw]
  ·rw [hall,hb] at hnx
   simp -dsimp [hb,t5,wi,hmu1]
   exact ⟨i + 1,by simp -dsimp [t0],by simp -dsimp [t1],by simp -dsimp,by omega,by rw [hnx]; rfl,by simp⟩
 ·rintro s ⟨i,t0,t1,t5,hi,hall,hend⟩
  have := hend rfl
  subst this
  rw [List.take_length] at hall
  have e : spyOk l ks = true := hall
  simp -dsimp [e]
def Ikd (p n : Nat) (e : Nat) (s : S) : Prop := ∃ i id : Nat,s.tm 0 = .v (.int .i64 p) ∧ s.tm 1 = .v (.int .i64 (n / 3 ^ i : Nat)) ∧ s.tm 5 = .loc id ∧ id < s.n ∧ s.mu = false ∧ s.m id = some (.arr 3 ((kd i n).map (V.int .i64))) ∧ s.tm 6 = .v (.int .i64 i) ∧ i ≤ p ∧ (e = 1 → i = p)
theorem kd_next (i n : Nat) : kd (i + 1) n = kd i n ++ [((n / 3 ^ i % 3 : Nat) : Int)] := by
 unfold kd; rw [List.range_succ,List.map_append]; rfl
theorem l9Kinds_fn (p n : Nat) (hp : p ≤ 4) (hn : n ≤ 1000) : FnZ Tryz.prog 103 [.int .i64 p,.int .i64 n] (numsV (kd p n)) := by
 refine FZ (rs := [.tmp 4]) false Tryz.func103 ?_
 simp -dsimp
 refine twp_loopC (Ikd p n 0) (fun s => p - natOf (s.tm 6)) (Ikd p n 1) ?_ ?_ ?_
 ·exact ⟨0,0,by simp -dsimp,by simp -dsimp,by simp -dsimp,by simp -dsimp,by simp -dsimp,by simp -dsimp [kd],by simp -dsimp,by omega,by simp⟩
 ·rintro s ⟨i,id,t0,t1,t5,hid,hmu,hm,t6,hi,hend⟩
  by_cases hlt : i < p
  case neg =>
   simp -dsimp [t0,t6,hlt]
   exact ⟨i,id,by simp -dsimp [t0],by simp -dsimp [t1],by simp -dsimp [t5],by simp -dsimp; omega,by simp -dsimp [hmu],by simp -dsimp [hm],by simp -dsimp [t6],hi,fun _ => by omega⟩
  have wi : IntKind.wrap .i64 ((i : Int) + 1) = ((i + 1 : Nat) : Int) := by rw [w64 (by omega) (by omega)]; omega
  have hmu1 : p - (i + 1) < p - i := by omega
  have f1 := far hid
  have hq : n / 3 ^ i ≤ n := Nat.div_le_self _ _
  have e2 : n / 3 ^ (i + 1) = n / 3 ^ i / 3 := by rw [Nat.pow_succ,Nat.div_div_eq_div_mul]
  have hnx := kd_next i n
  have hkl := kd_len i n
  obtain ⟨q,hQ⟩ : ∃ q,n / 3 ^ i = q := ⟨_,rfl⟩
  rw [hQ] at t1 hq e2 hnx
  have r1 : ((q : Int)).tmod 3 = ((q % 3 : Nat) : Int) := by rw [Int.tmod_eq_emod_of_nonneg (by omega)]; omega
  have r2 : ((q : Int)).tdiv 3 = ((q / 3 : Nat) : Int) := by rw [Int.tdiv_eq_ediv_of_nonneg (by omega)]; omega
  have w3 : IntKind.wrap .i64 ((q / 3 : Nat) : Int) = ((q / 3 : Nat) : Int) := w64 (by omega) (by omega)
  have b1 : (i + 1) * 8 ≤ 140737488355328 := by omega
  obtain ⟨y,hY⟩ : ∃ y,q % 3 = y := ⟨_,rfl⟩
  obtain ⟨z,hZ⟩ : ∃ z,q / 3 = z := ⟨_,rfl⟩
  rw [hY] at r1 hnx
  rw [hZ] at r2 w3 e2
  simp -dsimp [t0,t1,t5,t6,hlt,hm,hmu,r1,r2,w3,b1,f1,wi,hmu1,hkl,nes]
  refine st_out fun s' ht hm' hn' hu' => ?_
  have a0 := ht 0
  have a1 := ht 1
  have a5 := ht 5
  have a6 := ht 6
  simp -dsimp [t0] at a0 a1 a5 a6 hm' hn' hu'
  clear ht
  refine ⟨i + 1,_,a0,by rw [a1,e2],a5,by omega,by rw [hu',hmu], ?_,a6,by omega,by simp⟩
  rw [hnx,List.map_append]; simp [hm',nes]
 ·rintro s ⟨i,id,t0,t1,t5,hid,hmu,hm,t6,hi,hend⟩
  have := hend rfl
  subst this
  simp -dsimp [t5,hm]
def Irows (p : Nat) (e : Nat) (s : S) : Prop := ∃ i : Nat,s.tm 0 = .v (.int .i64 p) ∧ s.tm 3 = .v (.int .i64 (3 ^ i : Nat)) ∧ s.tm 4 = .v (.int .i64 i) ∧ i ≤ p ∧ (e = 1 → i = p)
theorem l9Rows_fn (p : Nat) (hp : p ≤ 4) : FnZ Tryz.prog 102 [.int .i64 p] (.int .i64 (3 ^ p : Nat)) := by
 refine FZ (rs := [.tmp 2]) false Tryz.func102 ?_
 simp -dsimp
 refine twp_loopC (Irows p 0) (fun s => p - natOf (s.tm 4)) (Irows p 1) ?_ ?_ ?_
 ·exact ⟨0,by simp -dsimp,by simp -dsimp,by simp -dsimp,by omega,by simp⟩
 ·rintro s ⟨i,t0,t3,t4,hi,hend⟩
  by_cases hlt : i < p
  case neg =>
   simp -dsimp [t0,t4,hlt]
   exact ⟨i,by simp -dsimp [t0],by simp -dsimp [t3],by simp -dsimp [t4],hi,fun _ => by omega⟩
  have wi : IntKind.wrap .i64 ((i : Int) + 1) = ((i + 1 : Nat) : Int) := by rw [w64 (by omega) (by omega)]; omega
  have hmu1 : p - (i + 1) < p - i := by omega
  have hpw : 3 ^ i ≤ 3 ^ 4 := Nat.pow_le_pow_right (by omega) (by omega)
  have e2 : 3 ^ (i + 1) = 3 ^ i * 3 := Nat.pow_succ ..
  obtain ⟨q,hQ⟩ : ∃ q,3 ^ i = q := ⟨_,rfl⟩
  rw [hQ] at t3 hpw e2
  have w3 : IntKind.wrap .i64 ((q : Int) * 3) = ((q * 3 : Nat) : Int) := by rw [w64 (by omega) (by omega)]; omega
  simp -dsimp [t0,t3,t4,hlt,w3,wi,hmu1]
  exact ⟨i + 1,by simp -dsimp [t0],by simp -dsimp [e2],by simp -dsimp,by omega,by simp⟩
 ·rintro s ⟨i,t0,t3,t4,hi,hend⟩
  have := hend rfl
  subst this
  simp -dsimp [t3]
def Ispn (ks : List Int) (e : Nat) (s : S) : Prop := ∃ i : Nat,s.tm 0 = .v (.sl (ks.map (V.int .i64))) ∧ s.tm 3 = .v (.int .i64 (spN (ks.take i))) ∧ s.tm 4 = .v (.int .i64 i) ∧ i ≤ ks.length ∧ (e = 1 → i = ks.length)
theorem l9Spies_fn (ks : List Int) (h4 : ks.length ≤ 4) : FnZ Tryz.prog 105 [numsV ks] (.int .i64 (spN ks)) := by
 refine FZ (rs := [.tmp 2]) false Tryz.func105 ?_
 simp -dsimp [numsV]
 refine twp_loopC (Ispn ks 0) (fun s => ks.length - natOf (s.tm 4)) (Ispn ks 1) ?_ ?_ ?_
 ·exact ⟨0,by simp -dsimp,by simp -dsimp [spN],by simp -dsimp,by omega,by simp⟩
 ·rintro s ⟨i,t0,t3,t4,hi,hend⟩
  by_cases hlt : i < ks.length
  case neg =>
   simp -dsimp [t0,t4,hlt]
   exact ⟨i,by simp -dsimp [t0],by simp -dsimp [t3],by simp -dsimp [t4],hi,fun _ => by omega⟩
  have hget : (ks.map (V.int .i64))[i]? = some (.int .i64 ks[i]) := by simp [hlt]
  have wi : IntKind.wrap .i64 ((i : Int) + 1) = ((i + 1 : Nat) : Int) := by rw [w64 (by omega) (by omega)]; omega
  have hmu1 : ks.length - (i + 1) < ks.length - i := by omega
  have hsp : spN (ks.take (i + 1)) = spN (ks.take i) + (if ks[i] = 2 then 1 else 0) := by
   unfold spN
   rw [List.take_succ_eq_append_getElem hlt,List.count_append]
   by_cases h : ks[i] = 2 <;> simp [h,List.count_cons]
  have hle := spN_le (ks.take i)
  rw [List.length_take] at hle
  obtain ⟨q,hQ⟩ : ∃ q,spN (ks.take i) = q := ⟨_,rfl⟩
  rw [hQ] at t3 hsp hle
  have wq : IntKind.wrap .i64 ((q : Int) + 1) = (q : Int) + 1 := w64 (by omega) (by omega)
  by_cases hv : ks[i] = 2
  ·rw [if_pos hv] at hsp
   simp -dsimp [t0,t3,t4,hlt,hget,hv,wi,hmu1,wq]
   exact ⟨i + 1,by simp -dsimp [t0],by simp -dsimp [hsp],by simp -dsimp,by omega,by simp⟩
  ·rw [if_neg hv] at hsp
   simp -dsimp [t0,t3,t4,hlt,hget,hv,wi,hmu1]
   exact ⟨i + 1,by simp -dsimp [t0],by simp -dsimp [t3,hsp],by simp -dsimp,by omega,by simp⟩
 ·rintro s ⟨i,t0,t3,t4,hi,hend⟩
  have := hend rfl
  subst this
  rw [List.take_length] at t3
  simp -dsimp [t3]
def IfsS (p N : Nat) (l : List Claim) (e : Nat) (s : S) : Prop := ∃ n : Nat,s.tm 0 = .v (.int .i64 p) ∧ s.tm 1 = .v (.sl (l.map Claim.v)) ∧ s.tm 5 = .v (.int .i64 (bestK (spyOk l) p n)) ∧ s.tm 6 = .v (.int .i64 n) ∧ n ≤ N ∧ (e = 1 → n = N)
theorem fewestSpiesS_fn (p : Nat) (l : List Claim) (h : storyOk p l = true) : FnZ Tryz.prog 55 [.int .i64 p,storyV l] (.int .i64 (fewest (spyOk l) p)) := by
 obtain ⟨h1,h4,hc,h6⟩ := allOk_of h
 have hok := storyOkS_fn p l (by omega) fun c hx => (claim_fine (hc c hx)).1
 rw [h] at hok
 have hrw := l9Rows_fn p (by omega)
 have he := bestK_eq (spyOk_all (p := p) hc)
 rw [← he]
 have hpw : 3 ^ p ≤ 3 ^ 4 := Nat.pow_le_pow_right (by omega) (by omega)
 have hkd := fun n (hn : n < 3 ^ p) => l9Kinds_fn p n (by omega) (by omega)
 have hss := fun n => spyStoryS_fn (kd p n) l (kd_kinds p n) (by rw [kd_len]; exact h)
 have hsp := fun n => l9Spies_fn (kd p n) (by rw [kd_len]; omega)
 have hpl := fun n => bestK_le (spyOk l) p n
 have hstep : ∀ n,bestK (spyOk l) p (n + 1) = if spyOk l (kd p n) = true then min (bestK (spyOk l) p n) (spN (kd p n)) else bestK (spyOk l) p n := fun n => rfl
 obtain ⟨N,hNN⟩ : ∃ N,3 ^ p = N := ⟨_,rfl⟩
 rw [hNN] at hrw hpw hkd ⊢
 refine FZ (rs := [.tmp 4]) false Tryz.func55 ?_
 simp -dsimp
 refine cl hok ?_
 simp -dsimp
 refine twp_loopC (IfsS p N l 0) (fun s => N - natOf (s.tm 6)) (IfsS p N l 1) ?_ ?_ ?_
 ·exact ⟨0,by simp -dsimp,by simp -dsimp,by simp -dsimp [bestK],by simp -dsimp,by omega,by simp⟩
 ·rintro s ⟨n,t0,t1,t5,t6,hn,hend⟩
  by_cases hlt : n < N
  case neg =>
   simp -dsimp [t0,t6]
   refine cl hrw ?_
   simp -dsimp [t0,t6,hlt]
   exact ⟨n,by simp -dsimp [t0],by simp -dsimp [t1],by simp -dsimp [t5],by simp -dsimp [t6],hn,fun _ => by omega⟩
  have wi : IntKind.wrap .i64 ((n : Int) + 1) = ((n + 1 : Nat) : Int) := by rw [w64 (by omega) (by omega)]; omega
  have hmu1 : N - (n + 1) < N - n := by omega
  have hkn := hkd n hlt
  have hsn := hss n
  have hpn := hsp n
  have hst := hstep n
  obtain ⟨K,hK⟩ : ∃ K,kd p n = K := ⟨_,rfl⟩
  rw [hK] at hkn hsn hpn hst
  obtain ⟨B,hB⟩ : ∃ B,bestK (spyOk l) p n = B := ⟨_,rfl⟩
  rw [hB] at t5 hst
  have hb := ft (spyOk l K)
  rcases hb with hb | hb
  ·rw [hb] at hst hsn
   simp -dsimp [t0,t6]
   refine cl hrw ?_
   simp -dsimp [t0,t6,hlt]
   refine cl hkn ?_
   simp -dsimp [t1]
   refine cl hsn ?_
   simp -dsimp [t0,t5,t6,wi,hmu1]
   exact ⟨n + 1,by simp -dsimp [t0],by simp -dsimp [t1],by simp -dsimp [t5,hst],by simp -dsimp,by omega,by simp⟩
  ·rw [hb] at hst hsn
   simp -dsimp [t0,t6]
   refine cl hrw ?_
   simp -dsimp [t0,t6,hlt]
   refine cl hkn ?_
   simp -dsimp [t1]
   refine cl hsn ?_
   simp -dsimp [t0,t5,t6]
   refine cl hpn ?_
   have hmn : ((min B (spN K) : Nat) : Int) = min (B : Int) (spN K : Int) := by omega
   simp -dsimp [t0,t5,t6,wi,hmu1]
   exact ⟨n + 1,by simp -dsimp [t0],by simp -dsimp [t1],by simp -dsimp [hst,hmn],by simp -dsimp,by omega,by simp⟩
 ·rintro s ⟨n,t0,t1,t5,t6,hn,hend⟩
  have := hend rfl
  subst this
  simp -dsimp [t5]
end TL

namespace TL
open Go Go.Proofs
attribute [local simp] marksV storyV codeV Claim.v Place.v numsV natsV
theorem answer_place (p : Nat) (l : List Claim) (h : storyOk p l = true) : FnZ Tryz.prog 32 [(⟨p,l⟩ : Place).v,.str wPlace] (.str (placeTx ⟨p,l⟩)) := by
 obtain ⟨h1,h4,hc,h6⟩ := allOk_of h
 have hst := storyTable_fn p l (by omega) (by omega) (by omega) hc
 have hpl := placeText_fn ⟨p,l⟩ (by simp only; omega)
 generalize placeTx ⟨p,l⟩ = r at *
 refine FZ (rs := [.tmp 4]) false Tryz.func32 ?_
 simp -dsimp
 refine cl hst ?_
 simp -dsimp [wPlace]
 refine cl hpl ?_
 simp -dsimp
theorem answer_worlds (p : Nat) (l : List Claim) (h : storyOk p l = true) : FnZ Tryz.prog 32 [(⟨p,l⟩ : Place).v,.str wWorlds] (.str (rowTx ((sw p l).map fun w => ((w : Nat) : Int)))) := by
 obtain ⟨h1,h4,hc,h6⟩ := allOk_of h
 have hst := storyTable_fn p l (by omega) (by omega) (by omega) hc
 have hwi := worldsIn_fn p (storyTab p l) (storyTab_ok (by omega) (by omega) l) (by omega) (by omega)
 have hsl := sw_len (p := p) (by omega) l
 have hrt := rowText_fn ((sw p l).map fun w => ((w : Nat) : Int)) (by simpa using hsl) (fun n hn => by obtain ⟨w,hw,rfl⟩ := List.mem_map.1 hn; have := sw_lt (p := p) (by omega) hw; omega)
 have e0 : worldsOf p (storyTab p l) = sw p l := rfl
 rw [e0] at hwi
 generalize rowTx ((sw p l).map fun w => ((w : Nat) : Int)) = r at *
 refine FZ (rs := [.tmp 4]) false Tryz.func32 ?_
 simp -dsimp
 refine cl hst ?_
 simp -dsimp [wWorlds]
 refine cl hwi ?_
 simp -dsimp
 refine cl hrt ?_
 simp -dsimp
theorem onlyV_le {p : Nat} (h4 : p ≤ 4) (l : List Claim) : onlyV p l ≤ 99 := by
 unfold onlyV
 split
 ·rename_i w hw
  have := sw_lt (p := p) (l := l) (w := w) h4 (by rw [hw]; simp)
  omega
 ·omega
theorem answer_only (p : Nat) (l : List Claim) (h : storyOk p l = true) : FnZ Tryz.prog 32 [(⟨p,l⟩ : Place).v,.str wOnly] (.str (numTx (onlyV p l))) := by
 obtain ⟨h1,h4,hc,h6⟩ := allOk_of h
 have hst := storyTable_fn p l (by omega) (by omega) (by omega) hc
 have how := onlyWorld_fn p l h
 have hnt := numberText_fn (onlyV p l) (onlyV_le (by omega) l)
 generalize numTx (onlyV p l) = r at *
 refine FZ (rs := [.tmp 4]) false Tryz.func32 ?_
 simp -dsimp
 refine cl hst ?_
 simp -dsimp [wOnly]
 refine cl how ?_
 simp -dsimp
 refine cl hnt ?_
 simp -dsimp
theorem answer_known (p : Nat) (l : List Claim) (h : storyOk p l = true) : FnZ Tryz.prog 32 [(⟨p,l⟩ : Place).v,.str wKnown] (.str (rowTx (knownL p l))) := by
 obtain ⟨h1,h4,hc,h6⟩ := allOk_of h
 have hst := storyTable_fn p l (by omega) (by omega) (by omega) hc
 have hkp := knownPeople_fn p l h
 have hkl : (knownL p l).length ≤ 16 := by unfold knownL; split <;> simp; omega
 have hrt := rowText_fn (knownL p l) hkl (fun n hn => by
  unfold knownL at hn
  split at hn
  ·cases hn
  ·obtain ⟨i,_,rfl⟩ := List.mem_map.1 hn
   have := knownOf_le (sw p l) i; omega)
 generalize rowTx (knownL p l) = r at *
 refine FZ (rs := [.tmp 4]) false Tryz.func32 ?_
 simp -dsimp
 refine cl hst ?_
 simp -dsimp [wKnown]
 refine cl hkp ?_
 simp -dsimp
 refine cl hrt ?_
 simp -dsimp
theorem answer_needless (p : Nat) (l : List Claim) (h : storyOk p l = true) : FnZ Tryz.prog 32 [(⟨p,l⟩ : Place).v,.str wNeedless] (.str (rowTx ((needless p l).map fun w => ((w : Nat) : Int)))) := by
 obtain ⟨h1,h4,hc,h6⟩ := allOk_of h
 have hst := storyTable_fn p l (by omega) (by omega) (by omega) hc
 have hnd := needless_fn p l h
 have hnl : (needless p l).length ≤ l.length := by
  have := List.length_filter_le (fun i => decide (storyTab p (l.eraseIdx i) = storyTab p l)) (List.range l.length)
  simpa [needless] using this
 have hrt := rowText_fn ((needless p l).map fun w => ((w : Nat) : Int)) (by simp only [List.length_map]; omega) (fun n hn => by
  obtain ⟨w,hw,rfl⟩ := List.mem_map.1 hn
  have := (List.mem_filter.1 hw).1
  simp at this; omega)
 generalize rowTx ((needless p l).map fun w => ((w : Nat) : Int)) = r at *
 refine FZ (rs := [.tmp 4]) false Tryz.func32 ?_
 simp -dsimp
 refine cl hst ?_
 simp -dsimp [wNeedless]
 refine cl hnd ?_
 simp -dsimp
 refine cl hrt ?_
 simp -dsimp
theorem answer_spies (p : Nat) (l : List Claim) (h : storyOk p l = true) : FnZ Tryz.prog 32 [(⟨p,l⟩ : Place).v,.str wSpies] (.str (numTx (fewest (spyOk l) p))) := by
 obtain ⟨h1,h4,hc,h6⟩ := allOk_of h
 have hst := storyTable_fn p l (by omega) (by omega) (by omega) hc
 have hfs := fewestSpies_fn p l h
 have hle := (fewest_spec (spyOk_all (p := p) hc)).1
 have hnt := numberText_fn (fewest (spyOk l) p : Nat) (by omega)
 generalize numTx (fewest (spyOk l) p : Nat) = r at *
 refine FZ (rs := [.tmp 4]) false Tryz.func32 ?_
 simp -dsimp
 refine cl hst ?_
 simp -dsimp [wSpies]
 refine cl hfs ?_
 simp -dsimp
 refine cl hnt ?_
 simp -dsimp
theorem answer_asks (p : Nat) (l : List Claim) (h : storyOk p l = true) : FnZ Tryz.prog 32 [(⟨p,l⟩ : Place).v,.str wAsks] (.str (numTx (la p (storyTab p l)))) := by
 obtain ⟨h1,h4,hc,h6⟩ := allOk_of h
 have hst := storyTable_fn p l (by omega) (by omega) (by omega) hc
 have hla := leastAsks_fn p (storyTab p l)
 have hT : InT p (storyTab p l) := storyTab_le p l
 have hle : la p (storyTab p l) ≤ 99 := by
  rw [la_ok (by omega) (by omega) hT]
  have := lv_lt (m := p) (by omega) hT
  omega
 have hnt := numberText_fn (la p (storyTab p l)) hle
 generalize numTx (la p (storyTab p l)) = r at *
 refine FZ (rs := [.tmp 4]) false Tryz.func32 ?_
 simp -dsimp
 refine cl hst ?_
 simp -dsimp [wAsks]
 refine cl hla ?_
 simp -dsimp
 refine cl hnt ?_
 simp -dsimp
end TL

namespace TL
open Go Go.Proofs
attribute [local simp] marksV storyV codeV Claim.v Place.v numsV natsV
/-- A line that is none of the seven words. -/
def noWord (line : List UInt8) : Prop := ¬ line = wPlace ∧ ¬ line = wWorlds ∧ ¬ line = wOnly ∧ ¬ line = wKnown ∧ ¬ line = wNeedless ∧ ¬ line = wSpies ∧ ¬ line = wAsks
theorem cut_rest_le (s c : List UInt8) : (Go.Lib.cut s c).2.1.length ≤ s.length := by
 unfold Go.Lib.cut
 split
 ·simp only [List.length_drop]; omega
 ·simp
theorem worldsOf_le {p : Nat} (h4 : p ≤ 4) (n : Nat) : (worldsOf p n).length ≤ 16 := by
 have h1 : (worldsOf p n).length ≤ (List.range (2 ^ p)).length := List.length_filter_le _ _
 have h2 := pow_small h4
 simp only [List.length_range] at h1; omega
theorem answer_none (p : Nat) (l : List Claim) (h : storyOk p l = true) (line : List UInt8) (hl : line.length ≤ 2000000000) (hn : noWord line) (hr : readT p (Go.Lib.cut line [32]).2.1 = none) : FnZ Tryz.prog 32 [(⟨p,l⟩ : Place).v,.str line] (.str wWhat) := by
 obtain ⟨h1,h4,hc,h6⟩ := allOk_of h
 have hst := storyTable_fn p l (by omega) (by omega) (by omega) hc
 have hcut := cut_fn line [32] (by omega)
 have hrl : (Go.Lib.cut line [32]).2.1.length ≤ line.length := cut_rest_le line [32]
 have hrt := readTerm_fn p (Go.Lib.cut line [32]).2.1 (by omega)
 obtain ⟨hn1,hn2,hn3,hn4,hn5,hn6,hn7⟩ := hn
 simp only [wPlace,wWorlds,wOnly,wKnown,wNeedless,wSpies,wAsks] at hn1 hn2 hn3 hn4 hn5 hn6 hn7
 obtain ⟨C,hC⟩ : ∃ C,Go.Lib.cut line [32] = C := ⟨_,rfl⟩
 obtain ⟨W,R,B⟩ := C
 rw [hC] at hcut hrt hrl hr
 simp only at hcut hrt hrl hr
 rw [hr] at hrt
 simp only [optV,Option.getD_none,Option.isSome_none] at hrt
 refine FZ (rs := [.tmp 4]) false Tryz.func32 ?_
 simp -dsimp
 refine cl hst ?_
 simp -dsimp [hn1,hn2,hn3,hn4,hn5,hn6,hn7]
 refine cl hcut ?_
 simp -dsimp
 refine cl hrt ?_
 simp -dsimp [wWhat]
theorem answer_follows (p : Nat) (l : List Claim) (h : storyOk p l = true) (line : List UInt8) (hl : line.length ≤ 2000000000) (hn : noWord line) (t : List Mark) (hr : readT p (Go.Lib.cut line [32]).2.1 = some t) (hw : (Go.Lib.cut line [32]).1 = wFollows) : FnZ Tryz.prog 32 [(⟨p,l⟩ : Place).v,.str line] (.str (if followsB p l t = true then wYes else wNo)) := by
 have hto := (readT_is hr).2.1
 have hff := followsFrom_fn p l t h hto
 obtain ⟨h1,h4,hc,h6⟩ := allOk_of h
 have hst := storyTable_fn p l (by omega) (by omega) (by omega) hc
 have hcut := cut_fn line [32] (by omega)
 have hrl : (Go.Lib.cut line [32]).2.1.length ≤ line.length := cut_rest_le line [32]
 have hrt := readTerm_fn p (Go.Lib.cut line [32]).2.1 (by omega)
 obtain ⟨hn1,hn2,hn3,hn4,hn5,hn6,hn7⟩ := hn
 simp only [wPlace,wWorlds,wOnly,wKnown,wNeedless,wSpies,wAsks] at hn1 hn2 hn3 hn4 hn5 hn6 hn7
 obtain ⟨C,hC⟩ : ∃ C,Go.Lib.cut line [32] = C := ⟨_,rfl⟩
 obtain ⟨W,R,B⟩ := C
 rw [hC] at hcut hrt hrl hr hw
 simp only at hcut hrt hrl hr hw
 rw [hr] at hrt
 simp only [optV,Option.getD_some,Option.isSome_some] at hrt
 have hb := ft (followsB p l t)
 simp only [wFollows] at hw
 subst hw
 rcases hb with hb | hb
 ·rw [hb] at hff ⊢
  refine FZ (rs := [.tmp 4]) false Tryz.func32 ?_
  simp -dsimp
  refine cl hst ?_
  simp -dsimp [hn1,hn2,hn3,hn4,hn5,hn6,hn7]
  refine cl hcut ?_
  simp -dsimp
  refine cl hrt ?_
  simp -dsimp
  refine cl hff ?_
  simp -dsimp [wNo]
 ·rw [hb] at hff ⊢
  refine FZ (rs := [.tmp 4]) false Tryz.func32 ?_
  simp -dsimp
  refine cl hst ?_
  simp -dsimp [hn1,hn2,hn3,hn4,hn5,hn6,hn7]
  refine cl hcut ?_
  simp -dsimp
  refine cl hrt ?_
  simp -dsimp
  refine cl hff ?_
  simp -dsimp [wYes]
theorem answer_proof (p : Nat) (l : List Claim) (h : storyOk p l = true) (line : List UInt8) (hl : line.length ≤ 2000000000) (hn : noWord line) (t : List Mark) (hr : readT p (Go.Lib.cut line [32]).2.1 = some t) (hw : (Go.Lib.cut line [32]).1 = wProof) : FnZ Tryz.prog 32 [(⟨p,l⟩ : Place).v,.str line] (.str (match findT p l t p 0 with
  | some y => y.tx
  | none => wNone)) := by
 have hto := (readT_is hr).2.1
 have hfp := findProof_fn p l t h hto
 have hfo := fun y (hy : findT p l t p 0 = some y) => findT_ok p 0 y (Nat.le_refl _) hy
 obtain ⟨o,ho⟩ : ∃ o,findT p l t p 0 = o := ⟨_,rfl⟩
 rw [ho] at hfp hfo ⊢
 obtain ⟨h1,h4,hc,h6⟩ := allOk_of h
 have hst := storyTable_fn p l (by omega) (by omega) (by omega) hc
 have hcut := cut_fn line [32] (by omega)
 have hrl : (Go.Lib.cut line [32]).2.1.length ≤ line.length := cut_rest_le line [32]
 have hrt := readTerm_fn p (Go.Lib.cut line [32]).2.1 (by omega)
 obtain ⟨hn1,hn2,hn3,hn4,hn5,hn6,hn7⟩ := hn
 simp only [wPlace,wWorlds,wOnly,wKnown,wNeedless,wSpies,wAsks] at hn1 hn2 hn3 hn4 hn5 hn6 hn7
 obtain ⟨C,hC⟩ : ∃ C,Go.Lib.cut line [32] = C := ⟨_,rfl⟩
 obtain ⟨W,R,B⟩ := C
 rw [hC] at hcut hrt hrl hr hw
 simp only at hcut hrt hrl hr hw
 rw [hr] at hrt
 simp only [optV,Option.getD_some,Option.isSome_some] at hrt
 simp only [wProof] at hw
 subst hw
 cases o with
 | none =>
  obtain ⟨PV,hPV⟩ : ∃ x,proofV none = .agg [.int .i64 0,.sl x] := ⟨_,rfl⟩
  rw [hPV] at hfp
  simp only [Option.isSome_none] at hfp
  refine FZ (rs := [.tmp 4]) false Tryz.func32 ?_
  simp -dsimp
  refine cl hst ?_
  simp -dsimp [hn1,hn2,hn3,hn4,hn5,hn6,hn7]
  refine cl hcut ?_
  simp -dsimp
  refine cl hrt ?_
  simp -dsimp
  refine cl hfp ?_
  simp -dsimp [wNone]
 | some y =>
  obtain ⟨y1,y2⟩ := hfo y rfl
  rw [Nat.sub_self] at y1
  have hp2 := pow_small (p := p) (by omega)
  have hpt := proofText_fn p l t h hto y y1 (by omega)
  obtain ⟨F,hF⟩ : ∃ F,y.to 0 = F := ⟨_,rfl⟩
  obtain ⟨rv,hrv⟩ : ∃ rv,(y.row 0).map Sp.v = rv := ⟨_,rfl⟩
  have hpv : proofV (some y) = .agg [.int .i64 F,.sl rv] := by rw [← hF,← hrv]; rfl
  rw [hpv] at hfp hpt
  simp only [Option.isSome_some] at hfp
  obtain ⟨X,hX⟩ : ∃ X,y.tx = X := ⟨_,rfl⟩
  rw [hX] at hpt
  simp only [hX]
  refine FZ (rs := [.tmp 4]) false Tryz.func32 ?_
  simp -dsimp
  refine cl hst ?_
  simp -dsimp [hn1,hn2,hn3,hn4,hn5,hn6,hn7]
  refine cl hcut ?_
  simp -dsimp
  refine cl hrt ?_
  simp -dsimp
  refine cl hfp ?_
  simp -dsimp
  refine cl hpt ?_
  simp -dsimp
theorem answer_count (p : Nat) (l : List Claim) (h : storyOk p l = true) (line : List UInt8) (hl : line.length ≤ 2000000000) (hn : noWord line) (t : List Mark) (hr : readT p (Go.Lib.cut line [32]).2.1 = some t) (hw : (Go.Lib.cut line [32]).1 = wCount) : FnZ Tryz.prog 32 [(⟨p,l⟩ : Place).v,.str line] (.str (dec (((worldsOf p (storyTab p l &&& termTab p t)).length : Nat) : Int))) := by
 have hto := (readT_is hr).2.1
 have htt := tableOf_fn p t hto
 have hs1 := storyTab_le p l
 have hs0 := storyTab_small (p := p) (by have := (allOk_of h).2.1; omega) l
 have ht0 := termTab_small (p := p) (by have := (allOk_of h).2.1; omega) t
 have hT : InT p (storyTab p l &&& termTab p t) := Nat.lt_of_le_of_lt Nat.and_le_left hs1
 have hwi := worldsIn_fn p (storyTab p l &&& termTab p t) (tab_ok (by have := (allOk_of h).1; omega) (by have := (allOk_of h).2.1; omega) hT) (by have := (allOk_of h).1; omega) (by have := (allOk_of h).2.1; omega)
 have hle := worldsOf_le (p := p) (by have := (allOk_of h).2.1; omega) (storyTab p l &&& termTab p t)
 have hand := and_nn (a := storyTab p l) (b := termTab p t) (by omega) (by omega)
 obtain ⟨h1,h4,hc,h6⟩ := allOk_of h
 have hst := storyTable_fn p l (by omega) (by omega) (by omega) hc
 have hcut := cut_fn line [32] (by omega)
 have hrl : (Go.Lib.cut line [32]).2.1.length ≤ line.length := cut_rest_le line [32]
 have hrt := readTerm_fn p (Go.Lib.cut line [32]).2.1 (by omega)
 obtain ⟨hn1,hn2,hn3,hn4,hn5,hn6,hn7⟩ := hn
 simp only [wPlace,wWorlds,wOnly,wKnown,wNeedless,wSpies,wAsks] at hn1 hn2 hn3 hn4 hn5 hn6 hn7
 obtain ⟨C,hC⟩ : ∃ C,Go.Lib.cut line [32] = C := ⟨_,rfl⟩
 obtain ⟨W,R,B⟩ := C
 rw [hC] at hcut hrt hrl hr hw
 simp only at hcut hrt hrl hr hw
 rw [hr] at hrt
 simp only [optV,Option.getD_some,Option.isSome_some] at hrt
 have hit := itoa_fn ((worldsOf p (storyTab p l &&& termTab p t)).length : Nat) (by omega) (by omega)
 simp only [wCount] at hw
 subst hw
 obtain ⟨A,hA⟩ : ∃ A,storyTab p l = A := ⟨_,rfl⟩
 obtain ⟨T,hT2⟩ : ∃ T,termTab p t = T := ⟨_,rfl⟩
 rw [hA] at hst hwi hle hand hit ⊢
 rw [hT2] at htt hwi hle hand hit ⊢
 obtain ⟨WS,hWS⟩ : ∃ WS,worldsOf p (A &&& T) = WS := ⟨_,rfl⟩
 rw [hWS] at hwi hle hit ⊢
 obtain ⟨D,hD⟩ : ∃ D,dec ((WS.length : Nat) : Int) = D := ⟨_,rfl⟩
 rw [hD] at hit ⊢
 refine FZ (rs := [.tmp 4]) false Tryz.func32 ?_
 simp -dsimp
 refine cl hst ?_
 simp -dsimp [hn1,hn2,hn3,hn4,hn5,hn6,hn7]
 refine cl hcut ?_
 simp -dsimp
 refine cl hrt ?_
 simp -dsimp
 refine twd (List.range 12) [0] (List.replicate 12 [0]) (List.replicate 12 [0]) ?_
 simp -dsimp [List.range_succ]
 refine cl htt ?_
 simp -dsimp [List.range_succ,hand]
 refine cl hwi ?_
 simp -dsimp
 refine cl hit ?_
 simp -dsimp
theorem answer_else (p : Nat) (l : List Claim) (h : storyOk p l = true) (line : List UInt8) (hl : line.length ≤ 2000000000) (hn : noWord line) (t : List Mark) (hr : readT p (Go.Lib.cut line [32]).2.1 = some t) (hw : ¬ (Go.Lib.cut line [32]).1 = wFollows ∧ ¬ (Go.Lib.cut line [32]).1 = wProof ∧ ¬ (Go.Lib.cut line [32]).1 = wCount) : FnZ Tryz.prog 32 [(⟨p,l⟩ : Place).v,.str line] (.str (wWhat)) := by
 have hto := (readT_is hr).2.1
 obtain ⟨h1,h4,hc,h6⟩ := allOk_of h
 have hst := storyTable_fn p l (by omega) (by omega) (by omega) hc
 have hcut := cut_fn line [32] (by omega)
 have hrl : (Go.Lib.cut line [32]).2.1.length ≤ line.length := cut_rest_le line [32]
 have hrt := readTerm_fn p (Go.Lib.cut line [32]).2.1 (by omega)
 obtain ⟨hn1,hn2,hn3,hn4,hn5,hn6,hn7⟩ := hn
 simp only [wPlace,wWorlds,wOnly,wKnown,wNeedless,wSpies,wAsks] at hn1 hn2 hn3 hn4 hn5 hn6 hn7
 obtain ⟨C,hC⟩ : ∃ C,Go.Lib.cut line [32] = C := ⟨_,rfl⟩
 obtain ⟨W,R,B⟩ := C
 rw [hC] at hcut hrt hrl hr hw
 simp only at hcut hrt hrl hr hw
 rw [hr] at hrt
 simp only [optV,Option.getD_some,Option.isSome_some] at hrt
 obtain ⟨w1,w2,w3⟩ := hw
 simp only [wFollows,wProof,wCount] at w1 w2 w3
 refine FZ (rs := [.tmp 4]) false Tryz.func32 ?_
 simp -dsimp
 refine cl hst ?_
 simp -dsimp [hn1,hn2,hn3,hn4,hn5,hn6,hn7]
 refine cl hcut ?_
 simp -dsimp
 refine cl hrt ?_
 simp -dsimp [w1,w2,w3,wWhat]
theorem answer_fn (q : Place) (hq : placeOk q = true) (line : List UInt8) (hl : line.length ≤ 2000000000) : FnZ Tryz.prog 32 [q.v,.str line] (.str (ans q line)) := by
 obtain ⟨people,l⟩ := q
 have h : storyOk people l = true := hq
 obtain ⟨p,rfl⟩ := Int.eq_ofNat_of_zero_le (show 0 ≤ people by have := (allOk_of h).1; omega)
 unfold ans
 simp only [Int.toNat_natCast]
 by_cases c1 : line = wPlace
 ·rw [if_pos c1,c1]; exact answer_place p l h
 by_cases c2 : line = wWorlds
 ·rw [if_neg c1,if_pos c2,c2]; exact answer_worlds p l h
 by_cases c3 : line = wOnly
 ·rw [if_neg c1,if_neg c2,if_pos c3,c3]; exact answer_only p l h
 by_cases c4 : line = wKnown
 ·rw [if_neg c1,if_neg c2,if_neg c3,if_pos c4,c4]; exact answer_known p l h
 by_cases c5 : line = wNeedless
 ·rw [if_neg c1,if_neg c2,if_neg c3,if_neg c4,if_pos c5,c5]; exact answer_needless p l h
 by_cases c6 : line = wSpies
 ·rw [if_neg c1,if_neg c2,if_neg c3,if_neg c4,if_neg c5,if_pos c6,c6]; exact answer_spies p l h
 by_cases c7 : line = wAsks
 ·rw [if_neg c1,if_neg c2,if_neg c3,if_neg c4,if_neg c5,if_neg c6,if_pos c7,c7]; exact answer_asks p l h
 rw [if_neg c1,if_neg c2,if_neg c3,if_neg c4,if_neg c5,if_neg c6,if_neg c7]
 have hn : noWord line := ⟨c1,c2,c3,c4,c5,c6,c7⟩
 cases hr : readT p (Go.Lib.cut line [32]).2.1 with
 | none => exact answer_none p l h line hl hn hr
 | some t =>
  show FnZ Tryz.prog 32 _ (.str (askT p l (Go.Lib.cut line [32]).1 t))
  unfold askT
  by_cases d1 : (Go.Lib.cut line [32]).1 = wFollows
  ·rw [if_pos d1]; exact answer_follows p l h line hl hn t hr d1
  by_cases d2 : (Go.Lib.cut line [32]).1 = wProof
  ·rw [if_neg d1,if_pos d2]; exact answer_proof p l h line hl hn t hr d2
  by_cases d3 : (Go.Lib.cut line [32]).1 = wCount
  ·rw [if_neg d1,if_neg d2,if_pos d3]; exact answer_count p l h line hl hn t hr d3
  rw [if_neg d1,if_neg d2,if_neg d3]; exact answer_else p l h line hl hn t hr ⟨d1,d2,d3⟩
end TL

namespace TL
open Go Go.Proofs
attribute [local simp] marksV storyV codeV Claim.v Place.v numsV natsV
theorem numTx_neg {n : Int} (h : n < 0) : numTx n = wNone := if_pos h
theorem numTx_pos {n : Int} (h : ¬ n < 0) : numTx n = dec n := if_neg h
theorem answerS_place (p : Nat) (l : List Claim) (h : storyOk p l = true) : FnZ Tryz.prog 25 [(⟨p,l⟩ : Place).v,.str wPlace] (.str (placeTx ⟨p,l⟩)) := by
 obtain ⟨h1,h4,hc,h6⟩ := allOk_of h
 have hst := l4Story_fn p l (by omega) (by omega) (by omega) hc
 have hpl := placeTextS_fn ⟨p,l⟩ (place_fine (p := ⟨p,l⟩) h).1
 generalize placeTx ⟨p,l⟩ = r at *
 refine FZ (rs := [.tmp 4]) false Tryz.func25 ?_
 simp -dsimp
 refine cl hst ?_
 simp -dsimp [wPlace]
 refine cl hpl ?_
 simp -dsimp
theorem answerS_worlds (p : Nat) (l : List Claim) (h : storyOk p l = true) : FnZ Tryz.prog 25 [(⟨p,l⟩ : Place).v,.str wWorlds] (.str (rowTx ((sw p l).map fun w => ((w : Nat) : Int)))) := by
 obtain ⟨h1,h4,hc,h6⟩ := allOk_of h
 have hst := l4Story_fn p l (by omega) (by omega) (by omega) hc
 have hwi := worldsInS_fn p (storyTab p l) (storyTab_ok (by omega) (by omega) l) (by omega) (by omega) (storyTab_small (by omega) l)
 have hsl := sw_len (p := p) (by omega) l
 have hrt := l15Row_fn ((sw p l).map fun w => ((w : Nat) : Int)) (by simpa using hsl) (fun n hn => by obtain ⟨w,hw,rfl⟩ := List.mem_map.1 hn; have := sw_lt (p := p) (by omega) hw; omega)
 have e0 : worldsOf p (storyTab p l) = sw p l := rfl
 rw [e0] at hwi
 generalize rowTx ((sw p l).map fun w => ((w : Nat) : Int)) = r at *
 refine FZ (rs := [.tmp 4]) false Tryz.func25 ?_
 simp -dsimp
 refine cl hst ?_
 simp -dsimp [wWorlds]
 refine cl hwi ?_
 simp -dsimp
 refine cl hrt ?_
 simp -dsimp
theorem answerS_only (p : Nat) (l : List Claim) (h : storyOk p l = true) : FnZ Tryz.prog 25 [(⟨p,l⟩ : Place).v,.str wOnly] (.str (numTx (onlyV p l))) := by
 obtain ⟨h1,h4,hc,h6⟩ := allOk_of h
 have hst := l4Story_fn p l (by omega) (by omega) (by omega) hc
 have how := onlyWorldS_fn p l h
 by_cases hb : (sw p l).length = 1
 ·have hbt : onlyB p l = true := decide_eq_true hb
  obtain ⟨w,hw⟩ := List.length_eq_one_iff.1 hb
  have hov := onlyV_one hw
  have hwl := sw_lt (p := p) (l := l) (w := w) (by omega) (by rw [hw]; simp)
  have hnt := l1Number2_fn (onlyV p l) (by omega) (by omega)
  rw [hbt] at how
  rw [numTx_pos (by omega)]
  generalize dec (onlyV p l) = r at *
  generalize onlyV p l = q at *
  refine FZ (rs := [.tmp 4]) false Tryz.func25 ?_
  simp -dsimp
  refine cl hst ?_
  simp -dsimp [wOnly]
  refine cl how ?_
  simp -dsimp
  refine cl hnt ?_
  simp -dsimp
 ·have hbt : onlyB p l = false := decide_eq_false hb
  have hov := onlyV_not hb
  rw [hbt] at how
  rw [numTx_neg (by omega)]
  refine FZ (rs := [.tmp 4]) false Tryz.func25 ?_
  simp -dsimp
  refine cl hst ?_
  simp -dsimp [wOnly]
  refine cl how ?_
  simp -dsimp [wNone]
theorem answerS_known (p : Nat) (l : List Claim) (h : storyOk p l = true) : FnZ Tryz.prog 25 [(⟨p,l⟩ : Place).v,.str wKnown] (.str (rowTx (knownL p l))) := by
 obtain ⟨h1,h4,hc,h6⟩ := allOk_of h
 have hst := l4Story_fn p l (by omega) (by omega) (by omega) hc
 have hkp := knownPeopleS_fn p l h
 have hkl : (knownL p l).length ≤ 16 := by unfold knownL; split <;> simp; omega
 have hrt := l15Row_fn (knownL p l) hkl (fun n hn => by
  unfold knownL at hn
  split at hn
  ·cases hn
  ·obtain ⟨i,_,rfl⟩ := List.mem_map.1 hn
   have := knownOf_le (sw p l) i; omega)
 generalize rowTx (knownL p l) = r at *
 refine FZ (rs := [.tmp 4]) false Tryz.func25 ?_
 simp -dsimp
 refine cl hst ?_
 simp -dsimp [wKnown]
 refine cl hkp ?_
 simp -dsimp
 refine cl hrt ?_
 simp -dsimp
theorem answerS_needless (p : Nat) (l : List Claim) (h : storyOk p l = true) : FnZ Tryz.prog 25 [(⟨p,l⟩ : Place).v,.str wNeedless] (.str (rowTx ((needless p l).map fun w => ((w : Nat) : Int)))) := by
 obtain ⟨h1,h4,hc,h6⟩ := allOk_of h
 have hst := l4Story_fn p l (by omega) (by omega) (by omega) hc
 have hnd := needlessS_fn p l h
 have hnl : (needless p l).length ≤ l.length := by
  have := List.length_filter_le (fun i => decide (storyTab p (l.eraseIdx i) = storyTab p l)) (List.range l.length)
  simpa [needless] using this
 have hrt := l15Row_fn ((needless p l).map fun w => ((w : Nat) : Int)) (by simp only [List.length_map]; omega) (fun n hn => by
  obtain ⟨w,hw,rfl⟩ := List.mem_map.1 hn
  have := (List.mem_filter.1 hw).1
  simp at this; omega)
 generalize rowTx ((needless p l).map fun w => ((w : Nat) : Int)) = r at *
 refine FZ (rs := [.tmp 4]) false Tryz.func25 ?_
 simp -dsimp
 refine cl hst ?_
 simp -dsimp [wNeedless]
 refine cl hnd ?_
 simp -dsimp
 refine cl hrt ?_
 simp -dsimp
theorem answerS_spies (p : Nat) (l : List Claim) (h : storyOk p l = true) : FnZ Tryz.prog 25 [(⟨p,l⟩ : Place).v,.str wSpies] (.str (numTx (fewest (spyOk l) p : Nat))) := by
 obtain ⟨h1,h4,hc,h6⟩ := allOk_of h
 have hst := l4Story_fn p l (by omega) (by omega) (by omega) hc
 have hfs := fewestSpiesS_fn p l h
 have hle := (fewest_spec (spyOk_all (p := p) hc)).1
 have hnt := l1Number2_fn (fewest (spyOk l) p : Nat) (by omega) (by omega)
 rw [numTx_pos (by omega)]
 generalize dec (fewest (spyOk l) p : Nat) = r at *
 refine FZ (rs := [.tmp 4]) false Tryz.func25 ?_
 simp -dsimp
 refine cl hst ?_
 simp -dsimp [wSpies]
 refine cl hfs ?_
 simp -dsimp
 refine cl hnt ?_
 simp -dsimp
theorem answerS_asks (p : Nat) (l : List Claim) (h : storyOk p l = true) : FnZ Tryz.prog 25 [(⟨p,l⟩ : Place).v,.str wAsks] (.str (numTx (la p (storyTab p l)))) := by
 obtain ⟨h1,h4,hc,h6⟩ := allOk_of h
 have hst := l4Story_fn p l (by omega) (by omega) (by omega) hc
 have hla := leastAsksS_fn p (storyTab p l)
 have hT : InT p (storyTab p l) := storyTab_le p l
 have hle : la p (storyTab p l) ≤ 99 := by
  rw [la_ok (by omega) (by omega) hT]
  have := lv_lt (m := p) (by omega) hT
  omega
 have hl1 := fun h0 => l1Number2_fn (la p (storyTab p l)) h0 hle
 generalize la p (storyTab p l) = q at *
 by_cases hq : q < 0
 ·rw [numTx_neg hq]
  refine FZ (rs := [.tmp 4]) false Tryz.func25 ?_
  simp -dsimp
  refine cl hst ?_
  simp -dsimp [wAsks]
  refine cl hla ?_
  simp -dsimp [hq,wNone]
 ·have hnt := hl1 (by omega)
  rw [numTx_pos hq]
  generalize dec q = r at *
  refine FZ (rs := [.tmp 4]) false Tryz.func25 ?_
  simp -dsimp
  refine cl hst ?_
  simp -dsimp [wAsks]
  refine cl hla ?_
  simp -dsimp [hq]
  refine cl hnt ?_
  simp -dsimp
theorem answerS_many (p : Nat) (l : List Claim) (h : storyOk p l = true) (line : List UInt8) (hl : line.length ≤ 2000000000) (hn : noWord line) (hr : (cutAt 32 line).length ≠ 2) : FnZ Tryz.prog 25 [(⟨p,l⟩ : Place).v,.str line] (.str wWhat) := by
 obtain ⟨h1,h4,hc,h6⟩ := allOk_of h
 have hst := l4Story_fn p l (by omega) (by omega) (by omega) hc
 have hcut := l1Cut_fn line 32 hl
 obtain ⟨hn1,hn2,hn3,hn4,hn5,hn6,hn7⟩ := hn
 simp only [wPlace,wWorlds,wOnly,wKnown,wNeedless,wSpies,wAsks] at hn1 hn2 hn3 hn4 hn5 hn6 hn7
 obtain ⟨C,hC⟩ : ∃ C,cutAt 32 line = C := ⟨_,rfl⟩
 rw [hC] at hcut hr
 have hr2 : ¬ (C.length : Int) = 2 := by omega
 refine FZ (rs := [.tmp 4]) false Tryz.func25 ?_
 simp -dsimp
 refine cl hst ?_
 simp -dsimp [hn1,hn2,hn3,hn4,hn5,hn6,hn7]
 refine cl hcut ?_
 simp -dsimp [hr,hr2,wWhat]
theorem answerS_none (p : Nat) (l : List Claim) (h : storyOk p l = true) (line w r : List UInt8) (hl : line.length ≤ 2000000000) (hn : noWord line) (hC : cutAt 32 line = [w,r]) (hr : readT p r = none) : FnZ Tryz.prog 25 [(⟨p,l⟩ : Place).v,.str line] (.str (wWhat)) := by
 obtain ⟨h1,h4,hc,h6⟩ := allOk_of h
 have hst := l4Story_fn p l (by omega) (by omega) (by omega) hc
 have hcut := l1Cut_fn line 32 hl
 have hrt := readTermS_fn p r
 obtain ⟨hn1,hn2,hn3,hn4,hn5,hn6,hn7⟩ := hn
 simp only [wPlace,wWorlds,wOnly,wKnown,wNeedless,wSpies,wAsks] at hn1 hn2 hn3 hn4 hn5 hn6 hn7
 rw [hC] at hcut
 rw [hr] at hrt
 simp only [optV,Option.getD_none,Option.isSome_none] at hrt
 refine FZ (rs := [.tmp 4]) false Tryz.func25 ?_
 simp -dsimp
 refine cl hst ?_
 simp -dsimp [hn1,hn2,hn3,hn4,hn5,hn6,hn7]
 refine cl hcut ?_
 simp -dsimp
 refine twd (List.range 11) [0] (List.replicate 11 [0]) (List.replicate 11 [0]) ?_
 simp -dsimp [List.range_succ]
 refine cl hrt ?_
 simp -dsimp [wWhat]
theorem answerS_follows (p : Nat) (l : List Claim) (h : storyOk p l = true) (line w r : List UInt8) (hl : line.length ≤ 2000000000) (hn : noWord line) (hC : cutAt 32 line = [w,r]) (t : List Mark) (hr : readT p r = some t) (hw : w = wFollows) : FnZ Tryz.prog 25 [(⟨p,l⟩ : Place).v,.str line] (.str (if followsB p l t = true then wYes else wNo)) := by
 obtain ⟨h1,h4,hc,h6⟩ := allOk_of h
 have hst := l4Story_fn p l (by omega) (by omega) (by omega) hc
 have hcut := l1Cut_fn line 32 hl
 have hrt := readTermS_fn p r
 obtain ⟨hn1,hn2,hn3,hn4,hn5,hn6,hn7⟩ := hn
 simp only [wPlace,wWorlds,wOnly,wKnown,wNeedless,wSpies,wAsks] at hn1 hn2 hn3 hn4 hn5 hn6 hn7
 rw [hC] at hcut
 rw [hr] at hrt
 simp only [optV,Option.getD_some,Option.isSome_some] at hrt
 have hto := (readT_is hr).2.1
 have hff := followsFromS_fn p l t h hto
 simp only [wFollows] at hw
 subst hw
 have hb := ft (followsB p l t)
 rcases hb with hb | hb
 ·rw [hb] at hff ⊢
  refine FZ (rs := [.tmp 4]) false Tryz.func25 ?_
  simp -dsimp
  refine cl hst ?_
  simp -dsimp [hn1,hn2,hn3,hn4,hn5,hn6,hn7]
  refine cl hcut ?_
  simp -dsimp
  refine twd (List.range 11) [0] (List.replicate 11 [0]) (List.replicate 11 [0]) ?_
  simp -dsimp [List.range_succ]
  refine cl hrt ?_
  simp -dsimp
  refine cl hff ?_
  simp -dsimp [wNo]
 ·rw [hb] at hff ⊢
  refine FZ (rs := [.tmp 4]) false Tryz.func25 ?_
  simp -dsimp
  refine cl hst ?_
  simp -dsimp [hn1,hn2,hn3,hn4,hn5,hn6,hn7]
  refine cl hcut ?_
  simp -dsimp
  refine twd (List.range 11) [0] (List.replicate 11 [0]) (List.replicate 11 [0]) ?_
  simp -dsimp [List.range_succ]
  refine cl hrt ?_
  simp -dsimp
  refine cl hff ?_
  simp -dsimp [wYes]
theorem answerS_proof (p : Nat) (l : List Claim) (h : storyOk p l = true) (line w r : List UInt8) (hl : line.length ≤ 2000000000) (hn : noWord line) (hC : cutAt 32 line = [w,r]) (t : List Mark) (hr : readT p r = some t) (hw : w = wProof) : FnZ Tryz.prog 25 [(⟨p,l⟩ : Place).v,.str line] (.str (match findT p l t p 0 with
  | some y => y.tx
  | none => wNone)) := by
 obtain ⟨h1,h4,hc,h6⟩ := allOk_of h
 have hst := l4Story_fn p l (by omega) (by omega) (by omega) hc
 have hcut := l1Cut_fn line 32 hl
 have hrt := readTermS_fn p r
 obtain ⟨hn1,hn2,hn3,hn4,hn5,hn6,hn7⟩ := hn
 simp only [wPlace,wWorlds,wOnly,wKnown,wNeedless,wSpies,wAsks] at hn1 hn2 hn3 hn4 hn5 hn6 hn7
 rw [hC] at hcut
 rw [hr] at hrt
 simp only [optV,Option.getD_some,Option.isSome_some] at hrt
 have hto := (readT_is hr).2.1
 have hfp := findProofS_fn p l t h hto
 have hfo := fun y (hy : findT p l t p 0 = some y) => findT_ok p 0 y (Nat.le_refl _) hy
 obtain ⟨o,ho⟩ : ∃ o,findT p l t p 0 = o := ⟨_,rfl⟩
 rw [ho] at hfp hfo ⊢
 simp only [wProof] at hw
 subst hw
 cases o with
 | none =>
  obtain ⟨PV,hPV⟩ : ∃ x,proofV none = .agg [.int .i64 0,.sl x] := ⟨_,rfl⟩
  rw [hPV] at hfp
  simp only [Option.isSome_none] at hfp
  refine FZ (rs := [.tmp 4]) false Tryz.func25 ?_
  simp -dsimp
  refine cl hst ?_
  simp -dsimp [hn1,hn2,hn3,hn4,hn5,hn6,hn7]
  refine cl hcut ?_
  simp -dsimp
  refine twd (List.range 11) [0] (List.replicate 11 [0]) (List.replicate 11 [0]) ?_
  simp -dsimp [List.range_succ]
  refine cl hrt ?_
  simp -dsimp
  refine cl hfp ?_
  simp -dsimp [wNone]
 | some y =>
  obtain ⟨y1,y2⟩ := hfo y rfl
  rw [Nat.sub_self] at y1
  have hp2 := pow_small (p := p) (by omega)
  have hpt := proofTextS_fn p l t h hto y y1 (by omega)
  obtain ⟨F,hF⟩ : ∃ F,y.to 0 = F := ⟨_,rfl⟩
  obtain ⟨rv,hrv⟩ : ∃ rv,(y.row 0).map Sp.v = rv := ⟨_,rfl⟩
  have hpv : proofV (some y) = .agg [.int .i64 F,.sl rv] := by rw [← hF,← hrv]; rfl
  rw [hpv] at hfp hpt
  simp only [Option.isSome_some] at hfp
  obtain ⟨X,hX⟩ : ∃ X,y.tx = X := ⟨_,rfl⟩
  rw [hX] at hpt
  simp only [hX]
  refine FZ (rs := [.tmp 4]) false Tryz.func25 ?_
  simp -dsimp
  refine cl hst ?_
  simp -dsimp [hn1,hn2,hn3,hn4,hn5,hn6,hn7]
  refine cl hcut ?_
  simp -dsimp
  refine twd (List.range 11) [0] (List.replicate 11 [0]) (List.replicate 11 [0]) ?_
  simp -dsimp [List.range_succ]
  refine cl hrt ?_
  simp -dsimp
  refine cl hfp ?_
  simp -dsimp
  refine cl hpt ?_
  simp -dsimp
theorem answerS_count (p : Nat) (l : List Claim) (h : storyOk p l = true) (line w r : List UInt8) (hl : line.length ≤ 2000000000) (hn : noWord line) (hC : cutAt 32 line = [w,r]) (t : List Mark) (hr : readT p r = some t) (hw : w = wCount) : FnZ Tryz.prog 25 [(⟨p,l⟩ : Place).v,.str line] (.str (dec (((worldsOf p (storyTab p l &&& termTab p t)).length : Nat) : Int))) := by
 obtain ⟨h1,h4,hc,h6⟩ := allOk_of h
 have hst := l4Story_fn p l (by omega) (by omega) (by omega) hc
 have hcut := l1Cut_fn line 32 hl
 have hrt := readTermS_fn p r
 obtain ⟨hn1,hn2,hn3,hn4,hn5,hn6,hn7⟩ := hn
 simp only [wPlace,wWorlds,wOnly,wKnown,wNeedless,wSpies,wAsks] at hn1 hn2 hn3 hn4 hn5 hn6 hn7
 rw [hC] at hcut
 rw [hr] at hrt
 simp only [optV,Option.getD_some,Option.isSome_some] at hrt
 have hto := (readT_is hr).2.1
 have htt := l3Table_fn p t hto
 have hs1 := storyTab_le p l
 have hs0 := storyTab_small (p := p) (by omega) l
 have ht0 := termTab_small (p := p) (by omega) t
 have hT : InT p (storyTab p l &&& termTab p t) := Nat.lt_of_le_of_lt Nat.and_le_left hs1
 have hle := worldsOf_le (p := p) (by omega) (storyTab p l &&& termTab p t)
 have hand := and_nn (a := storyTab p l) (b := termTab p t) (by omega) (by omega)
 have hcn := cnt_worlds hT
 have hhd := l1Heads_fn (storyTab p l &&& termTab p t) (by have : storyTab p l &&& termTab p t ≤ storyTab p l := Nat.and_le_left; omega)
 rw [hcn] at hhd
 have hit := l1Number2_fn ((worldsOf p (storyTab p l &&& termTab p t)).length : Nat) (by omega) (by omega)
 simp only [wCount] at hw
 subst hw
 obtain ⟨A,hA⟩ : ∃ A,storyTab p l = A := ⟨_,rfl⟩
 obtain ⟨B,hB⟩ : ∃ B,termTab p t = B := ⟨_,rfl⟩
 rw [hA] at hst hhd hand hit ⊢
 rw [hB] at htt hhd hand hit ⊢
 obtain ⟨WL,hWL⟩ : ∃ WL,(worldsOf p (A &&& B)).length = WL := ⟨_,rfl⟩
 rw [hWL] at hhd hit ⊢
 obtain ⟨D,hD⟩ : ∃ D,dec ((WL : Nat) : Int) = D := ⟨_,rfl⟩
 rw [hD] at hit ⊢
 refine FZ (rs := [.tmp 4]) false Tryz.func25 ?_
 simp -dsimp
 refine cl hst ?_
 simp -dsimp [hn1,hn2,hn3,hn4,hn5,hn6,hn7]
 refine cl hcut ?_
 simp -dsimp
 refine twd (List.range 11) [0] (List.replicate 11 [0]) (List.replicate 11 [0]) ?_
 simp -dsimp [List.range_succ]
 refine cl hrt ?_
 simp -dsimp
 refine cl htt ?_
 simp -dsimp [hand]
 refine cl hhd ?_
 simp -dsimp
 refine cl hit ?_
 simp -dsimp
theorem answerS_else (p : Nat) (l : List Claim) (h : storyOk p l = true) (line w r : List UInt8) (hl : line.length ≤ 2000000000) (hn : noWord line) (hC : cutAt 32 line = [w,r]) (t : List Mark) (hr : readT p r = some t) (hw : ¬ w = wFollows ∧ ¬ w = wProof ∧ ¬ w = wCount) : FnZ Tryz.prog 25 [(⟨p,l⟩ : Place).v,.str line] (.str (wWhat)) := by
 obtain ⟨h1,h4,hc,h6⟩ := allOk_of h
 have hst := l4Story_fn p l (by omega) (by omega) (by omega) hc
 have hcut := l1Cut_fn line 32 hl
 have hrt := readTermS_fn p r
 obtain ⟨hn1,hn2,hn3,hn4,hn5,hn6,hn7⟩ := hn
 simp only [wPlace,wWorlds,wOnly,wKnown,wNeedless,wSpies,wAsks] at hn1 hn2 hn3 hn4 hn5 hn6 hn7
 rw [hC] at hcut
 rw [hr] at hrt
 simp only [optV,Option.getD_some,Option.isSome_some] at hrt
 have hto := (readT_is hr).2.1
 obtain ⟨w1,w2,w3⟩ := hw
 simp only [wFollows,wProof,wCount] at w1 w2 w3
 refine FZ (rs := [.tmp 4]) false Tryz.func25 ?_
 simp -dsimp
 refine cl hst ?_
 simp -dsimp [hn1,hn2,hn3,hn4,hn5,hn6,hn7]
 refine cl hcut ?_
 simp -dsimp
 refine twd (List.range 11) [0] (List.replicate 11 [0]) (List.replicate 11 [0]) ?_
 simp -dsimp [List.range_succ]
 refine cl hrt ?_
 simp -dsimp [w1,w2,w3,wWhat]
theorem answerS_fn (q : Place) (hq : placeOk q = true) (line : List UInt8) (hl : line.length ≤ 2000000000) : FnZ Tryz.prog 25 [q.v,.str line] (.str (ans q line)) := by
 obtain ⟨people,l⟩ := q
 have h : storyOk people l = true := hq
 obtain ⟨p,rfl⟩ := Int.eq_ofNat_of_zero_le (show 0 ≤ people by have := (allOk_of h).1; omega)
 unfold ans
 simp only [Int.toNat_natCast]
 by_cases c1 : line = wPlace
 ·rw [if_pos c1,c1]; exact answerS_place p l h
 by_cases c2 : line = wWorlds
 ·rw [if_neg c1,if_pos c2,c2]; exact answerS_worlds p l h
 by_cases c3 : line = wOnly
 ·rw [if_neg c1,if_neg c2,if_pos c3,c3]; exact answerS_only p l h
 by_cases c4 : line = wKnown
 ·rw [if_neg c1,if_neg c2,if_neg c3,if_pos c4,c4]; exact answerS_known p l h
 by_cases c5 : line = wNeedless
 ·rw [if_neg c1,if_neg c2,if_neg c3,if_neg c4,if_pos c5,c5]; exact answerS_needless p l h
 by_cases c6 : line = wSpies
 ·rw [if_neg c1,if_neg c2,if_neg c3,if_neg c4,if_neg c5,if_pos c6,c6]; exact answerS_spies p l h
 by_cases c7 : line = wAsks
 ·rw [if_neg c1,if_neg c2,if_neg c3,if_neg c4,if_neg c5,if_neg c6,if_pos c7,c7]; exact answerS_asks p l h
 rw [if_neg c1,if_neg c2,if_neg c3,if_neg c4,if_neg c5,if_neg c6,if_neg c7]
 have hn : noWord line := ⟨c1,c2,c3,c4,c5,c6,c7⟩
 rcases two_words p line with ⟨w,r,hC,e1,e2⟩ | ⟨hm,hnone⟩
 ·rw [e1,e2]
  cases hr : readT p r with
  | none => exact answerS_none p l h line w r hl hn hC hr
  | some t =>
   show FnZ Tryz.prog 25 _ (.str (askT p l w t))
   unfold askT
   by_cases d1 : w = wFollows
   ·rw [if_pos d1]; exact answerS_follows p l h line w r hl hn hC t hr d1
   by_cases d2 : w = wProof
   ·rw [if_neg d1,if_pos d2]; exact answerS_proof p l h line w r hl hn hC t hr d2
   by_cases d3 : w = wCount
   ·rw [if_neg d1,if_neg d2,if_pos d3]; exact answerS_count p l h line w r hl hn hC t hr d3
   rw [if_neg d1,if_neg d2,if_neg d3]; exact answerS_else p l h line w r hl hn hC t hr ⟨d1,d2,d3⟩
 ·rw [hnone]; exact answerS_many p l h line hl hn hm
end TL

namespace TL
open Go Go.Proofs
attribute [local simp] marksV storyV codeV Claim.v Place.v
theorem mkT_flat (l : List Mark) : (l.map Mark.v).flatMap (fun x => x.cells.map T.v) = mkT l := by
 induction l with
 | nil => rfl
 | cons a l ih => rw [List.map_cons,List.flatMap_cons,ih]; rfl
theorem mkT_kind (k : Int) : ∀ (l : List Mark) (i : Nat),(h : i < l.length) → (mkT l).set (i * 2) (.v (.int .i64 k)) = mkT (l.set i ⟨k,l[i].num⟩)
 | [],i,h => by simp at h
 | a :: l,0,h => rfl
 | a :: l,i + 1,h => by
  have e : (i + 1) * 2 = i * 2 + 1 + 1 := by omega
  rw [e]
  show T.v _ :: T.v _ :: (mkT l).set (i * 2) _ = T.v _ :: T.v _ :: mkT (l.set i _)
  rw [mkT_kind k l i (by simpa using h)]; rfl
theorem mkT_num (k : Int) : ∀ (l : List Mark) (i : Nat),(h : i < l.length) → (mkT l).set (i * 2 + 1) (.v (.int .i64 k)) = mkT (l.set i ⟨l[i].kind,k⟩)
 | [],i,h => by simp at h
 | a :: l,0,h => rfl
 | a :: l,i + 1,h => by
  have e : (i + 1) * 2 + 1 = (i * 2 + 1) + 1 + 1 := by omega
  rw [e]
  show T.v _ :: T.v _ :: (mkT l).set (i * 2 + 1) _ = T.v _ :: T.v _ :: mkT (l.set i _)
  rw [mkT_num k l i (by simpa using h)]; rfl
/-- Marks that count on from k. -/
def cnts (k : Int) : Nat → List Mark
 | 0 => []
 | n + 1 => cnts k n ++ [⟨k + 2 * n,k + 2 * n + 1⟩]
@[simp] theorem cnts_length (k : Int) (n : Nat) : (cnts k n).length = n := by
 induction n with
 | zero => rfl
 | succ n ih => simp [cnts,ih]
theorem cnts_get (k : Int) : ∀ (n i : Nat) (h : i < n),(cnts k n)[i]? = some ⟨k + 2 * i,k + 2 * i + 1⟩
 | n + 1,i,h => by
  unfold cnts
  by_cases hi : i < n
  ·rw [List.getElem?_append_left (by simpa using hi)]; exact cnts_get k n i hi
  ·have : i = n := by omega
   subst this
   rw [List.getElem?_append_right (by simp)]; simp
theorem cnts_step (k : Int) (l : List Mark) (i : Nat) (h : i < l.length) (a : Int) : ((cnts k i ++ l.drop i).set i ⟨k + 2 * i,a⟩).set i ⟨k + 2 * i,k + 2 * i + 1⟩ = cnts k (i + 1) ++ l.drop (i + 1) := by
 rw [List.set_set,List.set_append_right _ _ (by simp),cnts_length,Nat.sub_self,drop_cons h,List.set_cons_zero]
 simp [cnts]
def Imk (id : Nat) (l : List Mark) (k : Int) (m0 : Mem) (n0 : Nat) (e : Nat) (s : S) : Prop := ∃ i : Nat,s.tm 0 = .sv id 0 l.length ∧ s.tm 1 = .v (.int .i64 (k + 2 * i)) ∧ s.tm 5 = .v (.int .i64 i) ∧ i ≤ l.length ∧ n0 ≤ s.n ∧ s.m = updM m0 id (some (.box 165 2 (mkT (cnts k i ++ l.drop i)))) ∧ (e = 1 → i = l.length)
theorem markMarkS_fn (l : List Mark) (k : Int) (hl : l.length ≤ 1000000000) (hk0 : 0 ≤ k) (hk : k ≤ 100000000000000) (m : Mem) (n id : Nat) (hm : m id = some (.box 165 2 (mkT l))) :
  FnS Tryz.prog 143 m n [.sv id 0 l.length,.v (.int .i64 k)] (fun t m' n' => t = .v (.int .i64 (k + 2 * l.length)) ∧ n ≤ n' ∧ m' = updM m id (some (.box 165 2 (mkT (cnts k l.length))))) := by
 refine FS (rs := [.tmp 4]) false Tryz.func143 ?_
 simp -dsimp
 refine twp_loopC (Imk id l k m n 0) (fun s => l.length - natOf (s.tm 5)) (Imk id l k m n 1) ?_ ?_ ?_
 ·exact ⟨0,by simp -dsimp,by simp -dsimp,by simp -dsimp,by omega,by simp -dsimp,by simp -dsimp [cnts]; exact (updM_self hm).symm,by simp⟩
 ·rintro s ⟨i,t0,t1,t5,hi,hn,hmm,hend⟩
  by_cases hlt : i < l.length
  case neg =>
   simp -dsimp [t0,t5,hlt]
   exact ⟨i,by simp -dsimp [t0],by simp -dsimp [t1],by simp -dsimp [t5],hi,by simp -dsimp [hn],by simp -dsimp [hmm],fun _ => by omega⟩
  have hL : (cnts k i ++ l.drop i).length = l.length := by simp; omega
  have e1 := mkT_kind (k + 2 * i) (cnts k i ++ l.drop i) i (by omega)
  generalize hnum : ((cnts k i ++ l.drop i)[i]'(by omega)).num = nu at *
  have e2 := mkT_num (k + 2 * i + 1) ((cnts k i ++ l.drop i).set i ⟨k + 2 * i,nu⟩) i (by simp; omega)
  have e3 : (((cnts k i ++ l.drop i).set i ⟨k + 2 * i,nu⟩)[i]'(by simp; omega)).kind = k + 2 * i := by simp
  rw [e3,cnts_step k l i hlt] at e2
  have hmi : s.m id = some (.box 165 2 (mkT (cnts k i ++ l.drop i))) := by rw [hmm,updM_same]
  have hlen1 : (mkT (cnts k i ++ l.drop i)).length = l.length * 2 := by rw [mkT_length,hL]
  have hlen2 : (mkT ((cnts k i ++ l.drop i).set i ⟨k + 2 * i,nu⟩)).length = l.length * 2 := by rw [mkT_length,List.length_set,hL]
  have wi : IntKind.wrap .i64 ((i : Int) + 1) = ((i + 1 : Nat) : Int) := by rw [w64 (by omega) (by omega)]; omega
  have w1 : IntKind.wrap .i64 (k + 2 * i + 1) = k + 2 * i + 1 := w64 (by omega) (by omega)
  have w2 : IntKind.wrap .i64 (k + 2 * i + 1 + 1) = k + 2 * ((i + 1 : Nat) : Int) := by rw [w64 (by omega) (by omega)]; omega
  have hmu : l.length - (i + 1) < l.length - i := by omega
  have hlt' : (i : Int) < (l.length : Int) := by omega
  have o1 : i * 2 + 1 ≤ l.length * 2 := by omega
  have o2 : i * 2 + 1 + 1 ≤ l.length * 2 := by omega
  have o3 : i * 2 < l.length * 2 := by omega
  have o4 : i * 2 + 1 < l.length * 2 := by omega
  generalize mkT (cnts k i ++ l.drop i) = c1 at *
  generalize mkT ((cnts k i ++ l.drop i).set i ⟨k + 2 * i,nu⟩) = c2 at *
  generalize hc3 : mkT (cnts k (i + 1) ++ l.drop (i + 1)) = c3 at *
  simp -dsimp [t0,t1,t5,hlt,hlt',hmi,hlen1,hlen2,setAt,e1,e2,w1,w2,wi,hmu,o1,o2,o3,o4]
  refine st_out fun s' ht hm' hn' hu' => ?_
  have a0 := ht 0
  have a1 := ht 1
  have a5 := ht 5
  simp -dsimp [t0] at a0 a1 a5 hm' hn' hu'
  clear ht
  refine ⟨i + 1,a0,by rw [a1]; congr 3,a5,by omega,by omega, ?_,by simp⟩
  rw [hm',hmm,hc3]; simp
 ·rintro s ⟨i,t0,t1,t5,hi,hn,hmm,hend⟩
  have hil := hend rfl
  rw [hil,List.drop_length,List.append_nil] at hmm
  rw [hil] at t1
  simp -dsimp [t1]
  exact ⟨hn,hmm⟩
def IhdM (k : Int) (l : Nat) (e : Nat) (s : S) : Prop := ∃ i : Nat,s.tm 0 = .v (.sl ((cnts k l).map Mark.v)) ∧ s.tm 1 = .v (.int .i64 (k + 2 * i)) ∧ s.tm 5 = .v (.int .i64 i) ∧ i ≤ l ∧ (e = 1 → i = l)
theorem heldMarkS_fn (l : Nat) (k : Int) (hl : l ≤ 1000000000) (hk0 : 0 ≤ k) (hk : k ≤ 100000000000000) : FnZ Tryz.prog 144 [.sl ((cnts k l).map Mark.v),.int .i64 k] (.int .i64 (k + 2 * l)) := by
 refine FZ (rs := [.tmp 4]) false Tryz.func144 ?_
 simp -dsimp
 refine twp_loopC (IhdM k l 0) (fun s => l - natOf (s.tm 5)) (IhdM k l 1) ?_ ?_ ?_
 ·exact ⟨0,by simp -dsimp,by simp -dsimp,by simp -dsimp,by omega,by simp⟩
 ·rintro s ⟨i,t0,t1,t5,hi,hend⟩
  by_cases hlt : i < l
  case neg =>
   simp -dsimp [t0,t5,hlt]
   exact ⟨i,by simp -dsimp [t0],by simp -dsimp [t1],by simp -dsimp [t5],hi,fun _ => by omega⟩
  have hget : ((cnts k l).map Mark.v)[i]? = some (Mark.v ⟨k + 2 * i,k + 2 * i + 1⟩) := by rw [List.getElem?_map,cnts_get k l i hlt]; rfl
  have hcl : ((cnts k l).map Mark.v).length = l := by simp
  have wi : IntKind.wrap .i64 ((i : Int) + 1) = ((i + 1 : Nat) : Int) := by rw [w64 (by omega) (by omega)]; omega
  have w1 : IntKind.wrap .i64 (k + 2 * i + 1) = k + 2 * i + 1 := w64 (by omega) (by omega)
  have w2 : IntKind.wrap .i64 (k + 2 * i + 1 + 1) = k + 2 * ((i + 1 : Nat) : Int) := by rw [w64 (by omega) (by omega)]; omega
  have hmu : l - (i + 1) < l - i := by omega
  generalize hrow : (cnts k l).map Mark.v = row at *
  have hlt2 : i < row.length := by omega
  have hget2 : row[i] = Mark.v ⟨k + 2 * i,k + 2 * i + 1⟩ := by rw [List.getElem?_eq_getElem hlt2] at hget; exact Option.some.inj hget
  simp -dsimp [t0,t1,t5,hlt,hlt2,hcl,hget2,w1,w2,wi,hmu]
  refine st_out fun s' ht hm' hn' hu' => ?_
  have a0 := ht 0
  have a1 := ht 1
  have a5 := ht 5
  simp -dsimp [t0] at a0 a1 a5 hm' hn' hu'
  clear ht
  exact ⟨i + 1,by rw [a0,hrow],by rw [a1]; congr 3,a5,by omega,by simp⟩
 ·rintro s ⟨i,t0,t1,t5,hi,hend⟩
  have hil := hend rfl
  rw [hil] at t1
  simp -dsimp [t1]
/-- A row of marks in memory of one's own. -/
def OwnRow (m' : Mem) (n n' : Nat) (st : T) (l : List Mark) : Prop := ∃ id,st = .sv id 0 l.length ∧ n ≤ id ∧ id < n' ∧ m' id = some (.box 165 2 (mkT l))
theorem cloneMarks_own (l : List Mark) (h0 : l ≠ []) (hl : l.length ≤ 1048576) (m : Mem) (n : Nat) : FnS Tryz.prog 167 m n [.v (marksV l)] (fun t m' n' => n ≤ n' ∧ (∀ j,j < n → m' j = m j) ∧ OwnRow m' n n' t l) := by
 have b1 : l.length * 16 ≤ 140737488355328 := by omega
 have hfl := mkT_flat l
 refine FS (rs := [.tmp 2]) true Tryz.func167 ?_
 simp -dsimp [b1,h0,hfl]
 exact ⟨by omega,fun j hj => by simp [far hj],n + 1,rfl,by omega,by omega,by simp⟩
end TL

namespace TL
open Go Go.Proofs
attribute [local simp] marksV storyV codeV Claim.v Place.v
def clT : List Claim → List Nat → List T
 | c :: l,j :: js => .v (.int .i64 c.who) :: .sv j 0 c.says.length :: clT l js
 | _,_ => []
@[simp] theorem clT_nil (js : List Nat) : clT [] js = [] := by cases js <;> rfl
@[simp] theorem clT_cons (c : Claim) (l : List Claim) (j : Nat) (js : List Nat) : clT (c :: l) (j :: js) = .v (.int .i64 c.who) :: .sv j 0 c.says.length :: clT l js := rfl
theorem clT_app : ∀ (A B : List Claim) (ja jb : List Nat),A.length = ja.length → clT (A ++ B) (ja ++ jb) = clT A ja ++ clT B jb
 | [],B,[],jb,h => rfl
 | c :: A,B,j :: ja,jb,h => by simp [clT_app A B ja jb (by simpa using h)]
 | [],B,j :: ja,jb,h => by simp at h
 | c :: A,B,[],jb,h => by simp at h
theorem clT_len : ∀ (A : List Claim) (ja : List Nat),A.length = ja.length → (clT A ja).length = A.length * 2
 | [],[],h => rfl
 | c :: A,j :: ja,h => by simp [clT_len A ja (by simpa using h)]; omega
 | [],j :: ja,h => by simp at h
 | c :: A,[],h => by simp at h
theorem clT_cells : ∀ (A : List Claim) (ja : List Nat),allC (clT A ja)
 | [],ja => by simp
 | c :: A,[] => by simp [clT]
 | c :: A,j :: ja => by simp; exact clT_cells A ja
/-- The rows of marks lie where the ids say. -/
def Says (m : Mem) : List Claim → List Nat → Prop
 | [],[] => True
 | c :: l,j :: js => m j = some (.box 165 2 (mkT c.says)) ∧ Says m l js
 | _,_ => False
theorem Says.len {m : Mem} : ∀ {l : List Claim} {js : List Nat},Says m l js → l.length = js.length
 | [],[],_ => rfl
 | c :: l,j :: js,h => by simp [Says.len h.2]
 | [],j :: js,h => h.elim
 | c :: l,[],h => h.elim
theorem Says.keep {m m' : Mem} : ∀ {l : List Claim} {js : List Nat},Says m l js → (∀ j ∈ js,m' j = m j) → Says m' l js
 | [],[],_,_ => trivial
 | c :: l,j :: js,h,hk => ⟨by rw [hk j (by simp)]; exact h.1,h.2.keep fun x hx => hk x (by simp [hx])⟩
 | [],j :: js,h,_ => h.elim
 | c :: l,[],h,_ => h.elim
theorem Says.app {m : Mem} : ∀ {A B : List Claim} {ja jb : List Nat},A.length = ja.length → (Says m (A ++ B) (ja ++ jb) ↔ Says m A ja ∧ Says m B jb)
 | [],B,[],jb,h => by simp [Says]
 | c :: A,B,j :: ja,jb,h => by
  have := Says.app (m := m) (A := A) (B := B) (ja := ja) (jb := jb) (by simpa using h)
  simp only [List.cons_append,Says,this,and_assoc]
 | [],B,j :: ja,jb,h => by simp at h
 | c :: A,B,[],jb,h => by simp at h
theorem clT_bor {m : Mem} (d : Nat) : ∀ {l : List Claim} {js : List Nat},Says m l js → mapO (bor true m (d + 1)) (clT l js) = some (l.flatMap fun c => c.v.cells)
 | [],[],_ => rfl
 | c :: l,j :: js,h => by
  have e := bor_marks (m := m) (i := j) (e := 165) (ms := c.says) d h.1
  have e2 := clT_bor d h.2
  simp only [marksV] at e
  simp [mapO,e,e2,V.cells]
 | [],j :: js,h => h.elim
 | c :: l,[],h => h.elim
theorem clV_cell (l : List Claim) : ∀ x ∈ (l.flatMap fun c => c.v.cells),x.cell = true := by
 intro x hx
 obtain ⟨p,_,hp⟩ := List.mem_flatMap.1 hx
 simp [V.cells] at hp
 rcases hp with rfl | rfl <;> rfl
theorem clV_chunk (l : List Claim) : chunk 2 l.length (l.flatMap fun c => c.v.cells) = l.map Claim.v := by
 induction l with
 | nil => rfl
 | cons x xs ih => simp [chunk,V.cells]; simpa [V.cells] using ih
theorem bor_claims {m : Mem} {i e : Nat} {l : List Claim} {js : List Nat} (d : Nat) (h : m i = some (.box e 2 (clT l js))) (hs : Says m l js) : bor true m (d + 2) (.sv i 0 l.length) = some (.sl (l.map Claim.v)) := by
 have hl := clT_len l js hs.len
 have c1 : 0 + l.length * 2 ≤ (clT l js).length := by omega
 show (match m i with | some (.box _ z cs) => tst (0 + l.length * z ≤ cs.length) (obind (mapO (TL.bor true m (d + 1)) ((cs.drop 0).take (l.length * z))) fun xs => tst (∀ x ∈ xs,x.cell = true) (some (V.sl (chunk z l.length xs)))) | _ => none) = _
 rw [h]
 show tst (0 + l.length * 2 ≤ (clT l js).length) (obind (mapO (TL.bor true m (d + 1)) (((clT l js).drop 0).take (l.length * 2))) fun xs => tst (∀ x ∈ xs,x.cell = true) (some (V.sl (chunk 2 l.length xs)))) = _
 rw [tst_pos c1,List.drop_zero,List.take_of_length_le (by omega),clT_bor d hs,obind_some,tst_pos (clV_cell l),clV_chunk]
/-! Marks. -/
def mkc (k : Int) : List Claim → List Claim
 | [] => []
 | c :: l => ⟨k,cnts (k + 1) c.says.length⟩ :: mkc (k + 1 + 2 * c.says.length) l
def mkn (k : Int) : List Claim → Int
 | [] => k
 | c :: l => mkn (k + 1 + 2 * c.says.length) l
theorem mkn_ge : ∀ (l : List Claim) (k : Int),k + l.length ≤ mkn k l
 | [],k => by simp [mkn]
 | c :: l,k => by have := mkn_ge l (k + 1 + 2 * c.says.length); simp only [mkn,List.length_cons]; omega
@[simp] theorem mkc_length : ∀ (l : List Claim) (k : Int),(mkc k l).length = l.length
 | [],k => rfl
 | c :: l,k => by simp [mkc,mkc_length l]
def Imc (id : Nat) (l : List Claim) (js : List Nat) (k : Int) (m0 : Mem) (n0 : Nat) (e : Nat) (s : S) : Prop := ∃ (i : Nat) (A B : List Claim) (ja jb : List Nat) (kk : Int),s.tm 0 = .sv id 0 l.length ∧ s.tm 1 = .v (.int .i64 kk) ∧ s.tm 5 = .v (.int .i64 i) ∧ A.length = i ∧ ja.length = i ∧ i + B.length = l.length ∧ ja ++ jb = js ∧
 n0 ≤ s.n ∧ s.m id = some (.box 104 2 (clT (A ++ B) js)) ∧ Says s.m (A ++ B) js ∧ mkc k l = A ++ mkc kk B ∧ mkn k l = mkn kk B ∧ 0 ≤ kk ∧ (∀ j,j < n0 → j ≠ id → j ∉ js → s.m j = m0 j) ∧ (∀ c ∈ B,c.says.length ≤ 1000000000) ∧ (e = 1 → B = [])
theorem cell_set (A : List T) (x y : T) (B : List T) (i : Nat) (h : A.length = i) : (A ++ x :: B).set i y = A ++ y :: B := by
 rw [List.set_append_right _ _ (by omega),h,Nat.sub_self]; rfl
theorem markClaimS_fn (l : List Claim) (js : List Nat) (k : Int) (hk0 : 0 ≤ k) (hk : mkn k l ≤ 100000000000000) (m : Mem) (n id : Nat) (hid : id < n) (hjs : ∀ j ∈ js,j < n) (hnd : js.Nodup) (hin : id ∉ js) (hm : m id = some (.box 104 2 (clT l js))) (hs : Says m l js) (hl : ∀ c ∈ l,c.says.length ≤ 1000000000) :
  FnS Tryz.prog 90 m n [.sv id 0 l.length,.v (.int .i64 k)] (fun t m' n' => t = .v (.int .i64 (mkn k l)) ∧ n ≤ n' ∧ m' id = some (.box 104 2 (clT (mkc k l) js)) ∧ Says m' (mkc k l) js ∧ ∀ j,j < n → j ≠ id → j ∉ js → m' j = m j) := by
 refine FS (rs := [.tmp 4]) false Tryz.func90 ?_
 have hge := mkn_ge l k
 simp -dsimp
 refine twp_loopC (Imc id l js k m n 0) (fun s => l.length - natOf (s.tm 5)) (Imc id l js k m n 1) ?_ ?_ ?_
 ·exact ⟨0,[],l,[],js,k,by simp -dsimp,by simp -dsimp,by simp -dsimp,rfl,rfl,by omega,rfl,by simp -dsimp,by simpa -dsimp using hm,by simpa -dsimp using hs,rfl,rfl,hk0,fun j _ _ _ => by simp -dsimp,hl,by simp⟩
 ·rintro s ⟨i,A,B,ja,jb,kk,t0,t1,t5,hA,hja,hB,hjj,hn,hmm,hss,hmk,hmn,hk1,hout,hbl,hend⟩
  cases B with
  | nil =>
   have hlt : ¬ i < l.length := by simp at hB; omega
   simp -dsimp [t0,t5,hlt]
   exact ⟨i,A,[],ja,jb,kk,by simp -dsimp [t0],by simp -dsimp [t1],by simp -dsimp [t5],hA,hja,hB,hjj,by simp -dsimp [hn],by simp -dsimp [hmm],hss,hmk,hmn,hk1,fun j j1 j2 j3 => by simp -dsimp [hout j j1 j2 j3],hbl,fun _ => rfl⟩
  | cons c B =>
   have hlt : i < l.length := by simp at hB; omega
   have hlen := hss.len
   cases jb with
   | nil => exfalso; rw [← hjj] at hlen; simp at hlen; omega
   | cons j jb =>
    subst hjj
    have hAj : A.length = ja.length := by omega
    have hjm : j ∈ ja ++ j :: jb := by simp
    have hsA := (Says.app hAj).1 hss
    have hjj := hsA.2.1
    have hji : ¬ j = id := fun e => hin (e ▸ hjm)
    have hij : ¬ id = j := fun e => hji e.symm
    have hjn := hjs j hjm
    have ecl : clT (A ++ c :: B) (ja ++ j :: jb) = clT A ja ++ .v (.int .i64 c.who) :: .sv j 0 c.says.length :: clT B jb := by rw [clT_app _ _ _ _ hAj]; rfl
    have hAl : (clT A ja).length = i * 2 := by rw [clT_len _ _ hAj,hA]
    have hset := cell_set (clT A ja) (.v (.int .i64 c.who)) (.v (.int .i64 kk)) (.sv j 0 c.says.length :: clT B jb) (i * 2) hAl
    have hll : (clT A ja ++ T.v (.int .i64 c.who) :: .sv j 0 c.says.length :: clT B jb).length = i * 2 + 2 + (clT B jb).length := by simp [hAl]; omega
    have hg1 : (clT A ja ++ T.v (.int .i64 kk) :: .sv j 0 c.says.length :: clT B jb)[i * 2 + 1]? = some (.sv j 0 c.says.length) := by
     rw [List.getElem?_append_right (by omega),hAl]; simp
    have hcl := hbl c (by simp)
    have hmnl := mkn_ge B (kk + 1 + 2 * c.says.length)
    have hmn2 : mkn k l = mkn (kk + 1 + 2 * c.says.length) B := hmn
    rw [hmn2] at hk
    have wi : IntKind.wrap .i64 ((i : Int) + 1) = ((i + 1 : Nat) : Int) := by rw [w64 (by omega) (by omega)]; omega
    have w1 : IntKind.wrap .i64 (kk + 1) = kk + 1 := w64 (by omega) (by omega)
    have hmu : l.length - (i + 1) < l.length - i := by omega
    have hlt' : (i : Int) < (l.length : Int) := by omega
    have f1 := far (show id < s.n by omega)
    have f2 := far (show j < s.n by omega)
    rw [ecl] at hmm
    have o1 : i * 2 + 1 ≤ i * 2 + 2 + (clT B jb).length := by omega
    have o2 : i * 2 + 1 + 1 ≤ i * 2 + 2 + (clT B jb).length := by omega
    have o3 : i * 2 < i * 2 + 2 + (clT B jb).length := by omega
    generalize hc1 : clT A ja ++ T.v (.int .i64 c.who) :: .sv j 0 c.says.length :: clT B jb = c1 at *
    generalize hc2 : clT A ja ++ T.v (.int .i64 kk) :: .sv j 0 c.says.length :: clT B jb = c2 at *
    simp -dsimp [t0,t1,t5,hlt,hlt',hmm,hll,setAt,hset,hg1,w1,wi,hmu,o1,o2,o3]
    refine callS_ (markMarkS_fn c.says (kk + 1) hcl (by omega) (by omega) _ _ j (by simp [hji,hjj])) ?_
    rintro t m2 n2 ⟨rfl,hn2,rfl⟩
    have g1 := far (show id < n2 by omega)
    simp -dsimp [t0,t1,t5,wi,hmu]
    refine st_out fun s' ht hm' hn' hu' => ?_
    have a0 := ht 0
    have a1 := ht 1
    have a5 := ht 5
    simp -dsimp [t0,wi] at a0 a1 a5 hm' hn' hu'
    clear ht
    have nj : j ∉ ja ∧ j ∉ jb := by
     rw [List.nodup_append] at hnd
     exact ⟨fun h => hnd.2.2 j h j (by simp) rfl,(List.nodup_cons.1 hnd.2.1).1⟩
    refine ⟨i + 1,A ++ [⟨kk,cnts (kk + 1) c.says.length⟩],B,ja ++ [j],jb,kk + 1 + 2 * c.says.length,a0,by rw [a1],a5,by simp [hA],by simp [hja],by simp at hB ⊢; omega,by simp,by omega, ?_, ?_, ?_,hmn,by omega,fun x x1 x2 x3 => ?_,fun x hx => hbl x (by simp [hx]),by simp⟩
    ·have e : A ++ [(⟨kk,cnts (kk + 1) c.says.length⟩ : Claim)] ++ B = A ++ ⟨kk,cnts (kk + 1) c.says.length⟩ :: B := by simp
     rw [e,clT_app _ _ _ _ hAj,clT_cons,cnts_length,hc2]
     simp [hm',hij]
    ·have e : A ++ [(⟨kk,cnts (kk + 1) c.says.length⟩ : Claim)] ++ B = A ++ ⟨kk,cnts (kk + 1) c.says.length⟩ :: B := by simp
     rw [e]
     refine (Says.app hAj).2 ⟨hsA.1.keep fun x hx => ?_,by simp [hm'],hsA.2.2.keep fun x hx => ?_⟩
     ·have y1 : ¬ x = j := fun h => nj.1 (h ▸ hx)
      have y2 : ¬ x = id := fun h => hin (h ▸ by simp [hx])
      simp [hm',y1,y2]
     ·have y1 : ¬ x = j := fun h => nj.2 (h ▸ hx)
      have y2 : ¬ x = id := fun h => hin (h ▸ by simp [hx])
      simp [hm',y1,y2]
    ·rw [hmk]; simp [mkc]
    ·have y1 : ¬ x = j := fun h => x3 (h ▸ hjm)
     simp [hm',y1,x2,hout x x1 x2 x3]
 ·rintro s ⟨i,A,B,ja,jb,kk,t0,t1,t5,hA,hja,hB,hjj,hn,hmm,hss,hmk,hmn,hk1,hout,hbl,hend⟩
  have hb := hend rfl
  subst hb
  rw [List.append_nil] at hmm hss
  have e1 : mkc k l = A := by rw [hmk]; simp [mkc]
  have e2 : mkn k l = kk := hmn
  rw [e1,e2]
  simp -dsimp [t1]
  exact ⟨hn,hmm,hss,hout⟩
def Ihc (l : List Claim) (k : Int) (e : Nat) (s : S) : Prop := ∃ (i : Nat) (A B : List Claim) (kk : Int),s.tm 0 = .v (.sl ((mkc k l).map Claim.v)) ∧ s.tm 1 = .v (.int .i64 kk) ∧ s.tm 5 = .v (.int .i64 i) ∧ A.length = i ∧ i + B.length = l.length ∧ mkc k l = A ++ mkc kk B ∧ mkn k l = mkn kk B ∧ 0 ≤ kk ∧ (∀ c ∈ B,c.says.length ≤ 1000000000) ∧ (e = 1 → B = [])
theorem heldClaimS_fn (l : List Claim) (k : Int) (hk0 : 0 ≤ k) (hk : mkn k l ≤ 100000000000000) (hl : ∀ c ∈ l,c.says.length ≤ 1000000000) : FnZ Tryz.prog 91 [.sl ((mkc k l).map Claim.v),.int .i64 k] (.int .i64 (mkn k l)) := by
 refine FZ (rs := [.tmp 4]) false Tryz.func91 ?_
 have hge := mkn_ge l k
 simp -dsimp
 refine twp_loopC (Ihc l k 0) (fun s => l.length - natOf (s.tm 5)) (Ihc l k 1) ?_ ?_ ?_
 ·exact ⟨0,[],l,k,by simp -dsimp,by simp -dsimp,by simp -dsimp,rfl,by omega,rfl,rfl,hk0,hl,by simp⟩
 ·rintro s ⟨i,A,B,kk,t0,t1,t5,hA,hB,hmk,hmn,hk1,hbl,hend⟩
  have hcl : ((mkc k l).map Claim.v).length = l.length := by simp
  cases B with
  | nil =>
   have hlt : ¬ i < l.length := by simp at hB; omega
   simp -dsimp [t0,t5,hlt]
   exact ⟨i,A,[],kk,by simp -dsimp [t0],by simp -dsimp [t1],by simp -dsimp [t5],hA,hB,hmk,hmn,hk1,hbl,fun _ => rfl⟩
  | cons c B =>
   have hlt : i < l.length := by simp at hB; omega
   have hget : ((mkc k l).map Claim.v)[i]? = some (Claim.v ⟨kk,cnts (kk + 1) c.says.length⟩) := by
    rw [hmk,List.getElem?_map,List.getElem?_append_right (by omega),hA,Nat.sub_self]; rfl
   have hcc := hbl c (by simp)
   have hmnl := mkn_ge B (kk + 1 + 2 * c.says.length)
   have hmn2 : mkn k l = mkn (kk + 1 + 2 * c.says.length) B := hmn
   have hmk2 : mkc k l = (A ++ [⟨kk,cnts (kk + 1) c.says.length⟩]) ++ mkc (kk + 1 + 2 * c.says.length) B := by rw [hmk]; simp [mkc]
   rw [hmn2] at hk
   have wi : IntKind.wrap .i64 ((i : Int) + 1) = ((i + 1 : Nat) : Int) := by rw [w64 (by omega) (by omega)]; omega
   have w1 : IntKind.wrap .i64 (kk + 1) = kk + 1 := w64 (by omega) (by omega)
   have hmu : l.length - (i + 1) < l.length - i := by omega
   have hneg : ¬ kk + 1 + 2 * (c.says.length : Int) < 0 := by omega
   have hheld := heldMarkS_fn c.says.length (kk + 1) hcc (by omega) (by omega)
   generalize hrow : (mkc k l).map Claim.v = row at *
   have hlt2 : i < row.length := by omega
   have hget2 : row[i] = Claim.v ⟨kk,cnts (kk + 1) c.says.length⟩ := by rw [List.getElem?_eq_getElem hlt2] at hget; exact Option.some.inj hget
   simp -dsimp [t0,t1,t5,hlt,hlt2,hcl,hget2,w1,wi,hmu]
   refine cl hheld ?_
   simp -dsimp [t0,t1,t5,hlt,hlt2,hcl,hget2,w1,wi,hmu,hneg]
   refine st_out fun s' ht hm' hn' hu' => ?_
   have a0 := ht 0
   have a1 := ht 1
   have a5 := ht 5
   simp -dsimp [t0,wi] at a0 a1 a5 hm' hn' hu'
   clear ht
   exact ⟨i + 1,A ++ [⟨kk,cnts (kk + 1) c.says.length⟩],B,kk + 1 + 2 * c.says.length,by rw [a0,hrow],by rw [a1],a5,by simp [hA],by simp at hB ⊢; omega,hmk2,hmn2,by omega,fun x hx => hbl x (by simp [hx]),by simp⟩
 ·rintro s ⟨i,A,B,kk,t0,t1,t5,hA,hB,hmk,hmn,hk1,hbl,hend⟩
  have hb := hend rfl
  subst hb
  have e2 : mkn k l = kk := hmn
  rw [e2]
  simp -dsimp [t1]
end TL

namespace TL
open Go Go.Proofs
attribute [local simp] marksV storyV codeV Claim.v Place.v
def OwnRowC (m : Mem) (lo hi : Nat) (st : T) (l : List Claim) (js : List Nat) : Prop := (∀ j ∈ js,lo ≤ j ∧ j < hi) ∧ js.Nodup ∧ Says m l js ∧ ((st = .nil ∧ l = [] ∧ js = []) ∨ ∃ id,st = .sv id 0 l.length ∧ lo ≤ id ∧ id < hi ∧ id ∉ js ∧ m id = some (.box 104 2 (clT l js)))
end TL

namespace TL
open Go Go.Proofs
attribute [local simp] marksV storyV codeV Claim.v Place.v
theorem OwnRowC.cell {m : Mem} {lo hi : Nat} {st : T} {l : List Claim} {js : List Nat} (h : OwnRowC m lo hi st l js) : st.cell = true := by
 rcases h.2.2.2 with ⟨rfl,_⟩ | ⟨id,rfl,_⟩ <;> rfl
theorem OwnRowC.cells {m : Mem} {lo hi : Nat} {st : T} {l : List Claim} {js : List Nat} (h : OwnRowC m lo hi st l js) : st.cells = [st] := by
 rcases h.2.2.2 with ⟨rfl,_⟩ | ⟨id,rfl,_⟩ <;> rfl
theorem OwnRowC.keep {m m' : Mem} {lo hi : Nat} {st : T} {l : List Claim} {js : List Nat} (h : OwnRowC m lo hi st l js) (hk : ∀ j,lo ≤ j → j < hi → m' j = m j) : OwnRowC m' lo hi st l js := by
 obtain ⟨h1,h2,h3,h4⟩ := h
 refine ⟨h1,h2,h3.keep fun j hj => hk j (h1 j hj).1 (h1 j hj).2, ?_⟩
 rcases h4 with h4 | ⟨id,e,i0,i1,i2,i3⟩
 ·exact .inl h4
 ·exact .inr ⟨id,e,i0,i1,i2,by rw [hk id i0 i1,i3]⟩
theorem OwnRowC.bor {m : Mem} {lo hi : Nat} {st : T} {l : List Claim} {js : List Nat} (h : OwnRowC m lo hi st l js) (d : Nat) : TL.bor true m (d + 2) st = some (.sl (l.map Claim.v)) := by
 obtain ⟨h1,h2,h3,h4⟩ := h
 rcases h4 with ⟨rfl,rfl,rfl⟩ | ⟨id,rfl,i0,i1,i2,i3⟩
 ·rfl
 ·exact bor_claims d i3 h3
theorem markClaimS_nil (m : Mem) (n : Nat) (k : Int) : FnS Tryz.prog 90 m n [.nil,.v (.int .i64 k)] (fun t m' n' => t = .v (.int .i64 k) ∧ n ≤ n' ∧ m' = m) := by
 refine FS (rs := [.tmp 4]) false Tryz.func90 ?_
 simp -dsimp
 refine twp_loopC (fun s => s.tm 0 = .nil ∧ s.tm 1 = .v (.int .i64 k) ∧ s.tm 5 = .v (.int .i64 0) ∧ s.m = m ∧ n ≤ s.n) (fun s => 0) (fun s => s.tm 1 = .v (.int .i64 k) ∧ s.m = m ∧ n ≤ s.n) ?_ ?_ ?_
 ·simp -dsimp
 ·rintro s ⟨t0,t1,t5,hm,hn⟩
  simp -dsimp [t0,t1,t5,hm,hn]
 ·rintro s ⟨t1,hm,hn⟩
  simp -dsimp [t1,hm,hn]
theorem markPlace_own (p : Place) (k : Int) (hk0 : 0 ≤ k) (hk : mkn k p.story ≤ 100000000000000) (hl : ∀ c ∈ p.story,c.says.length ≤ 1000000000) (m : Mem) (lo hi n : Nat) (hlo : hi ≤ n) (st : T) (js : List Nat) (h : OwnRowC m lo hi st p.story js) :
  FnS Tryz.prog 35 m n [.agg [.v (.int .i64 p.people),st],.v (.int .i64 k)] (fun t m' n' => t = .v (.int .i64 (mkn k p.story)) ∧ n ≤ n' ∧ OwnRowC m' lo hi st (mkc k p.story) js ∧ ∀ j,j < n → j < lo ∨ hi ≤ j → m' j = m j) := by
 have hc := h.cell
 have hcs := h.cells
 refine FS (rs := [.tmp 4]) false Tryz.func35 ?_
 obtain ⟨h1,h2,h3,h4⟩ := h
 rcases h4 with ⟨rfl,e,rfl⟩ | ⟨id,rfl,i0,i1,i2,i3⟩
 ·simp -dsimp [nes]
  refine callS_ (markClaimS_nil _ _ k) ?_
  rintro t m2 n2 ⟨rfl,hn2,rfl⟩
  simp -dsimp [e,mkn,mkc]
  exact ⟨by omega,⟨by simp,List.nodup_nil,trivial,.inl ⟨rfl,rfl,rfl⟩⟩,fun j j1 _ => by simp [show ¬ j = n by omega]⟩
 ·simp -dsimp [nes,hc,hcs]
  refine callS_ (markClaimS_fn p.story js k hk0 hk _ _ id (by omega) (fun j hj => by have := (h1 j hj).2; omega) h2 i2 (by simp [show ¬ id = n by omega,i3]) (h3.keep fun j hj => by have := (h1 j hj).2; simp [show ¬ j = n by omega]) hl) ?_
  rintro t m2 n2 ⟨rfl,hn2,e1,e2,e3⟩
  simp -dsimp
  refine ⟨by omega,⟨h1,h2,e2,.inr ⟨id,by simp,i0,i1,i2,e1⟩⟩,fun j j1 j2 => ?_⟩
  have q1 : j ∉ js := fun hj => by have := h1 j hj; omega
  rw [e3 j (by omega) (by omega) q1]; simp [show ¬ j = n by omega]
theorem heldPlace_fn (q : Int) (l : List Claim) (k : Int) (hk0 : 0 ≤ k) (hk : mkn k l ≤ 100000000000000) (hl : ∀ c ∈ l,c.says.length ≤ 1000000000) : FnZ Tryz.prog 37 [(⟨q,mkc k l⟩ : Place).v,.int .i64 k] (.int .i64 (mkn k l)) := by
 have h := heldClaimS_fn l k hk0 hk hl
 have hge := mkn_ge l k
 have h0 : ¬ mkn k l < 0 := by omega
 refine FZ (rs := [.tmp 4]) false Tryz.func37 ?_
 simp -dsimp
 refine cl h ?_
 simp -dsimp [h0]
end TL

namespace TL
open Go Go.RowKit
variable {P : Program}
mutual
/-- Values of a frame that name nothing but its own memory. -/
def T.fl : T → Bool
 | .v x => x.flat
 | .nil => true
 | .sv _ _ _ => true
 | .ptr _ _ => true
 | .agg cs => flT cs
 | .tup cs => flT cs
 | _ => false
def flT : List T → Bool
 | [] => true
 | x :: xs => x.fl && flT xs
end
@[simp] theorem flT_nil : flT [] = true := rfl
@[simp] theorem flT_cons (x : T) (xs : List T) : flT (x :: xs) = (x.fl && flT xs) := rfl
@[simp] theorem fl_v (x : V) : (T.v x).fl = x.flat := rfl
@[simp] theorem fl_nil : T.nil.fl = true := rfl
@[simp] theorem fl_sv (i j k : Nat) : (T.sv i j k).fl = true := rfl
@[simp] theorem fl_ptr (i j : Nat) : (T.ptr i j).fl = true := rfl
@[simp] theorem fl_agg (cs : List T) : (T.agg cs).fl = flT cs := rfl
@[simp] theorem fl_tup (cs : List T) : (T.tup cs).fl = flT cs := rfl
theorem flT_append (a b : List T) : flT (a ++ b) = (flT a && flT b) := by
 induction a with
 | nil => simp
 | cons x xs ih => simp [ih,Bool.and_assoc]
def Blk.fl : Blk → Bool
 | .box _ _ cs => flT cs
 | _ => false
section
variable {φ : Phi} {Z Z' : Zs} {w w' : World}
end
end TL

namespace TL
open Go Go.Proofs
attribute [local simp] marksV storyV codeV Claim.v Place.v Desk.v
theorem marks_filled (l : List Mark) : (filled Mark.v [T.v (.int .i64 0),T.v (.int .i64 0)] l l.length).flatten = mkT l := by
 rw [filled_end]
 induction l with
 | nil => rfl
 | cons x xs ih => rw [List.map_cons,List.flatten_cons,ih]; rfl
def ItmO (l : List Mark) (m : Mem) (n : Nat) (a : Nat) (s : S) : Prop := ∃ i : Nat,s.tm 0 = .v (.sl (l.map Mark.v)) ∧ s.tm 3 = .sv n 0 l.length ∧ s.tm 4 = .v (.int .i64 i) ∧ i ≤ l.length ∧ n < s.n ∧ s.m n = some (.box 165 2 (filled Mark.v [T.v (.int .i64 0),T.v (.int .i64 0)] l i).flatten) ∧ (∀ j,j < n → s.m j = m j) ∧ (a = 1 → i = l.length)
theorem toMarkS_own (l : List Mark) (hl : l.length ≤ 1048576) (m : Mem) (n : Nat) : FnS Tryz.prog 159 m n [.v (.sl (l.map Mark.v))] (fun t m' n' => n ≤ n' ∧ (∀ j,j < n → m' j = m j) ∧ OwnRow m' n n' t l) := by
 have b1 : (16 : Int) * l.length ≤ 281474976710656 := by omega
 have b2 : (l.length : Int) ≤ 9223372036854775807 := by omega
 have b3 : (0 : Int) ≤ l.length := by omega
 refine FS (rs := [.tmp 2]) true Tryz.func159 ?_
 simp -dsimp [b1,b2,b3]
 refine twp_loopC (ItmO l m n 0) (fun s => l.length - natOf (s.tm 4)) (ItmO l m n 1) ?_ ?_ ?_
 ·exact ⟨0,by simp -dsimp,by simp -dsimp,by simp -dsimp,by omega,by simp -dsimp <;> omega,by rw [filled_zero]; simp -dsimp,fun j j1 => by simp -dsimp [far j1],by simp⟩
 ·rintro s ⟨i,h0,h3,h4,hi,hn,hm,hout,hend⟩
  by_cases hlt : i < l.length
  case neg =>
   simp -dsimp [h0,h4,hlt]
   exact ⟨i,by simp -dsimp [h0],by simp -dsimp [h3],by simp -dsimp [h4],hi,by simp -dsimp; omega,by simp -dsimp [hm],fun j j1 => by simp -dsimp [hout j j1],fun _ => by omega⟩
  have hget : (l.map Mark.v)[i]? = some (l[i].v) := by simp [hlt]
  have wi : IntKind.wrap .i64 ((i : Int) + 1) = ((i + 1 : Nat) : Int) := by rw [w64 (by omega) (by omega)]; omega
  have hmu : l.length - (i + 1) < l.length - i := by omega
  have hfl : (filled Mark.v [T.v (.int .i64 0),T.v (.int .i64 0)] l i).flatten.length = l.length * 2 := filled_flat_len (k := 2) elemOk_mark rfl hi
  have hst := filled_set (v := Mark.v) (zs := [T.v (.int .i64 0),T.v (.int .i64 0)]) (k := 2) elemOk_mark rfl hlt
  have hoff : i * 2 + 2 ≤ l.length * 2 := by omega
  have hlt' : (i : Int) < l.length := by omega
  rw [cellsT_mark] at hst
  simp -dsimp [h0,h3,h4,hlt,hget]
  refine call_ (toMark_fn l[i]) (by simp -dsimp [Mark.v]) ?_
  simp -dsimp [Mark.v,h0,h3,h4,hlt,hlt',hm,hfl,hoff,hst,wi,hmu,filled_len]
  exact ⟨i + 1,by simp -dsimp [h0],by simp -dsimp [h3],by simp -dsimp,by omega,by simp -dsimp; omega,by simp -dsimp,fun j j1 => by simp -dsimp [show ¬ j = n by omega,hout j j1],by simp⟩
 ·rintro s ⟨i,h0,h3,h4,hi,hn,hm,hout,hend⟩
  have := hend rfl
  subst this
  rw [marks_filled] at hm
  simp -dsimp [h3]
  exact ⟨by omega,hout,n,rfl,Nat.le_refl _,by omega,hm⟩
theorem toClaim_own (c : Claim) (hc : c.small) (m : Mem) (n : Nat) : FnS Tryz.prog 115 m n [.v c.v] (fun t m' n' => n ≤ n' ∧ (∀ j,j < n → m' j = m j) ∧ ∃ st,t = .agg [.v (.int .i64 c.who),st] ∧ OwnRow m' n n' st c.says) := by
 refine FS (rs := [.cell 2 104]) true Tryz.func115 ?_
 have e0 : ¬ n = n + 1 := by omega
 have e5 : ¬ n + 1 = n := by omega
 simp -dsimp [Mark.v,nes,e0,e5]
 refine callS_ (toMarkS_own c.says hc _ _) ?_
 rintro t m1 n1 ⟨hn1,hout,id,rfl,i0,i1,him⟩
 have k0 := hout n (by omega)
 have k1 := hout (n + 1) (by omega)
 have k2 := hout (n + 1 + 1) (by omega)
 simp -dsimp [nes,e0,e5] at k0 k1 k2
 simp -dsimp [nes,e0,e5,k0,k1,k2]
 have ho : ∀ j,j < n → m1 j = m j := fun j j1 => by have hj := hout j (by omega); simp [far j1] at hj; exact hj
 exact ⟨by omega,fun j j1 => by simp [show ¬ j = n + 1 by omega,show ¬ j = n + 1 + 1 by omega,ho j j1],id,rfl,by omega,by omega,by simp [show ¬ id = n + 1 by omega,show ¬ id = n + 1 + 1 by omega,him]⟩
def IcsO (l : List Claim) (m0 : Mem) (n0 : Nat) (e : Nat) (s : S) : Prop := ∃ (i id : Nat) (js : List Nat),s.tm 7 = .v (.sl (l.map Claim.v)) ∧ s.tm 8 = .v (.int .i64 l.length) ∧ s.tm 9 = .v (.int .i64 i) ∧ s.mu = true ∧ i ≤ l.length ∧ s.tm 3 = .sv id 0 i ∧ n0 ≤ id ∧ id < s.n ∧ id ∉ js ∧ s.m id = some (.box 104 2 (clT (l.take i) js)) ∧
 (∀ j ∈ js,n0 ≤ j ∧ j < s.n) ∧ js.Nodup ∧ Says s.m (l.take i) js ∧ (∀ j,j < n0 → s.m j = m0 j) ∧ (e = 1 → i = l.length)
theorem copyStory_deep (l : List Claim) (hl : l.length ≤ 1048576) (hs : ∀ c ∈ l,c.small) (hne : ∀ c ∈ l,c.says ≠ []) (m : Mem) (n : Nat) : FnS Tryz.prog 122 m n [.v (storyV l)] (fun t m' n' => n ≤ n' ∧ (∀ j,j < n → m' j = m j) ∧ ∃ js,OwnRowC m' n n' t l js) := by
 refine FS (rs := [.tmp 2]) true Tryz.func122 ?_
 simp -dsimp
 refine twp_loopC (IcsO l m n 0) (fun s => l.length - natOf (s.tm 9)) (IcsO l m n 1) ?_ ?_ ?_
 ·exact ⟨0,n,[],by simp -dsimp,by simp -dsimp,by simp -dsimp,by simp -dsimp,by omega,by simp -dsimp,Nat.le_refl _,by simp -dsimp,by simp,by simp -dsimp,by simp,List.nodup_nil,trivial,fun j j1 => by simp -dsimp [far j1],by simp⟩
 ·rintro s ⟨i,id,js,t7,t8,t9,hmu,hi,t3,hid0,hid,hin,hm,hjs,hnd,hsy,hout,hend⟩
  by_cases hlt : i < l.length
  case neg =>
   simp -dsimp [t8,t9,hlt]
   exact ⟨i,id,js,by simp -dsimp [t7],by simp -dsimp [t8],by simp -dsimp [t9],by simp -dsimp [hmu],hi,by simp -dsimp [t3],hid0,by simp -dsimp [hid],hin,by simp -dsimp [hm],fun j hj => by have := hjs j hj; simp -dsimp; omega,hnd,hsy,fun j j1 => by simp -dsimp [hout j j1],fun _ => by omega⟩
  have hget : (l.map Claim.v)[i]? = some (l[i].v) := by simp [hlt]
  have wi : IntKind.wrap .i64 ((i : Int) + 1) = ((i + 1 : Nat) : Int) := by rw [w64 (by omega) (by omega)]; omega
  have hmu1 : l.length - (i + 1) < l.length - i := by omega
  have f1 := far hid
  have b1 : (i + 1) * 32 ≤ 140737488355328 := by omega
  have htk : l.take (i + 1) = l.take i ++ [l[i]] := List.take_succ_eq_append_getElem hlt
  have htl : (l.take i).length = i := by simp; omega
  have r5 := clT_len (l.take i) js hsy.len
  have r6 := clT_cells (l.take i) js
  have hcm := List.getElem_mem hlt
  have hclone := fun m n => cloneMarks_own l[i].says (hne _ hcm) (hs _ hcm) m n
  rw [htl] at r5
  generalize hc : l[i] = c at *
  obtain ⟨c1,c2⟩ := c
  simp -dsimp [t7,t8,t9,hlt,hget,hc]
  refine twd (List.range 10) [s.n] (List.replicate 10 [0]) (List.replicate 10 [0]) ?_
  simp -dsimp [List.range_succ,t3]
  refine callS_ (hclone _ _) ?_
  rintro t m2 n2 ⟨hn2,hout2,id2,rfl,i0,i1,him2⟩
  have k0 := hout2 s.n (by omega)
  have k1 := hout2 id (by omega)
  have g0 := far (show s.n < n2 by omega)
  have g1 := far (show id < n2 by omega)
  have g2 := far i1
  simp -dsimp [f1,hm] at k0 k1
  simp -dsimp [List.range_succ,t3,t9,hmu,f1,hm,hc,k0,k1,g0,g1,g2,r5,r6,b1,wi,hmu1,nes]
  refine st_out fun s' ht hm' hn' hu' => ?_
  have a3 := ht 3
  have a7 := ht 7
  have a8 := ht 8
  have a9 := ht 9
  simp -dsimp [t7,t8,wi] at a3 a7 a8 a9 hm' hn' hu'
  clear ht
  have hjk : ∀ j ∈ js,s'.m j = s.m j := fun j hj => by
   have q1 := hjs j hj
   have q2 : ¬ j = id := fun e => hin (e ▸ hj)
   have q3 := hout2 j (by omega)
   simp [far q1.2] at q3
   simp [hm',far (show j < n2 by omega),q2,q3]
  have hsl : (l.take i).length = js.length := hsy.len
  refine ⟨i + 1,n2 + 1,js ++ [id2],a7,a8,a9,by rw [hu',hmu],by omega,a3,by omega,by omega, ?_, ?_,fun j hj => ?_, ?_, ?_,fun j j1 => ?_,by simp⟩
  ·intro hj
   rcases List.mem_append.1 hj with hj | hj
   ·have := hjs _ hj; omega
   ·have := List.mem_singleton.1 hj; omega
  ·rw [htk,clT_app _ _ _ _ hsl]
   simp [hm',nes,List.take_of_length_le (show (clT (l.take i) js).length ≤ i * 2 by omega)]
  ·rcases List.mem_append.1 hj with hj | hj
   ·have := hjs j hj; omega
   ·rw [List.mem_singleton.1 hj]; omega
  ·rw [List.nodup_append]
   refine ⟨hnd,by simp,fun y hy z hz => ?_⟩
   rw [List.mem_singleton.1 hz]
   have := hjs y hy
   omega
  ·rw [htk]
   exact (Says.app hsl).2 ⟨hsy.keep hjk,⟨by simp [hm',g2,show ¬ id2 = id by omega,him2],trivial⟩⟩
  ·have q3 := hout2 j (by omega)
   simp [far (show j < s.n by omega)] at q3
   simp [hm',far (show j < n2 by omega),show ¬ j = id by omega,q3,hout j j1]
 ·rintro s ⟨i,id,js,t7,t8,t9,hmu,hi,t3,hid0,hid,hin,hm,hjs,hnd,hsy,hout,hend⟩
  have := hend rfl
  subst this
  rw [List.take_length] at hm hsy
  simp -dsimp [t3]
  exact ⟨by omega,hout,js,hjs,hnd,hsy,.inr ⟨id,rfl,hid0,hid,hin,hm⟩⟩
/-- A place of the caller's own. -/
def DeepP (p : Place) (m : Mem) (n : Nat) (t : T) (m' : Mem) (n' : Nat) : Prop := n ≤ n' ∧ (∀ j,j < n → m' j = m j) ∧ ∃ st js,t = .agg [.v (.int .i64 p.people),st] ∧ OwnRowC m' n n' st p.story js
theorem OwnRowC.wide {m m' : Mem} {lo hi lo' hi' : Nat} {st : T} {l : List Claim} {js : List Nat} (h : OwnRowC m lo hi st l js) (h1 : lo' ≤ lo) (h2 : hi ≤ hi') (hk : ∀ j,lo ≤ j → j < hi → m' j = m j) : OwnRowC m' lo' hi' st l js := by
 obtain ⟨a1,a2,a3,a4⟩ := h.keep hk
 refine ⟨fun j hj => by have := a1 j hj; omega,a2,a3, ?_⟩
 rcases a4 with a4 | ⟨id,e,i0,i1,i2,i3⟩
 ·exact .inl a4
 ·exact .inr ⟨id,e,by omega,by omega,i2,i3⟩
theorem copyPlace_deep (p : Place) (hp : p.small) (hne : ∀ c ∈ p.story,c.says ≠ []) (m : Mem) (n : Nat) : FnS Tryz.prog 73 m n [.v p.v] (DeepP p m n) := by
 refine FS (rs := [.cell 2 31]) true Tryz.func73 ?_
 have e0 : ¬ n = n + 1 := by omega
 have e5 : ¬ n + 1 = n := by omega
 simp -dsimp
 refine twd (List.range 7) [n] (List.replicate 7 [0]) (List.replicate 7 [0]) ?_
 simp -dsimp [List.range_succ,e0,e5,nes]
 refine callS_ (copyStory_deep p.story hp.1 hp.2 hne _ _) ?_
 rintro t m1 n1 ⟨hn1,hout1,js,hrow⟩
 have k0 := hout1 n (by omega)
 have k1 := hout1 (n + 1) (by omega)
 simp -dsimp [nes,e0,e5] at k0 k1
 have hc := hrow.cell
 have hcs := hrow.cells
 simp -dsimp [List.range_succ,k0,k1,nes,e0,e5,hc,hcs]
 refine ⟨by omega,fun j j1 => ?_,t,js,rfl,hrow.wide (by omega) (by omega) fun j j1 j2 => by simp [show ¬ j = n + 1 by omega]⟩
 have := hout1 j (by omega)
 simp [far j1,show ¬ j = n + 1 by omega] at this ⊢
 exact this
end TL

namespace TL
open Go Go.Proofs
attribute [local simp] marksV storyV codeV Claim.v Place.v Desk.v
/-- Places as cells, their rows of claims told. -/
def pcT : List Place → List T → List T
 | p :: l,st :: ss => .v (.int .i64 p.people) :: st :: pcT l ss
 | _,_ => []
@[simp] theorem pcT_nil (ss : List T) : pcT [] ss = [] := by cases ss <;> rfl
@[simp] theorem pcT_cons (p : Place) (l : List Place) (st : T) (ss : List T) : pcT (p :: l) (st :: ss) = .v (.int .i64 p.people) :: st :: pcT l ss := rfl
/-- Places whose rows are one's own, one after the other from lo to hi. -/
def OwnPl (m : Mem) : Nat → Nat → List Place → List T → Prop
 | lo,hi,[],[] => lo ≤ hi
 | lo,hi,p :: l,st :: ss => ∃ mid js,lo ≤ mid ∧ OwnRowC m lo mid st p.story js ∧ OwnPl m mid hi l ss
 | _,_,_,_ => False
theorem OwnPl.le {m : Mem} : ∀ {l : List Place} {ss : List T} {lo hi : Nat},OwnPl m lo hi l ss → lo ≤ hi
 | [],[],lo,hi,h => h
 | p :: l,st :: ss,lo,hi,⟨mid,js,h1,h2,h3⟩ => Nat.le_trans h1 h3.le
 | [],st :: ss,_,_,h => h.elim
 | p :: l,[],_,_,h => h.elim
theorem OwnPl.len {m : Mem} : ∀ {l : List Place} {ss : List T} {lo hi : Nat},OwnPl m lo hi l ss → l.length = ss.length
 | [],[],lo,hi,h => rfl
 | p :: l,st :: ss,lo,hi,⟨mid,js,h1,h2,h3⟩ => by simp [h3.len]
 | [],st :: ss,_,_,h => h.elim
 | p :: l,[],_,_,h => h.elim
theorem OwnPl.keep {m m' : Mem} : ∀ {l : List Place} {ss : List T} {lo hi : Nat},OwnPl m lo hi l ss → (∀ j,lo ≤ j → j < hi → m' j = m j) → OwnPl m' lo hi l ss
 | [],[],lo,hi,h,_ => h
 | p :: l,st :: ss,lo,hi,⟨mid,js,h1,h2,h3⟩,hk => ⟨mid,js,h1,h2.keep fun j j1 j2 => hk j j1 (Nat.lt_of_lt_of_le j2 h3.le),h3.keep fun j j1 j2 => hk j (Nat.le_trans h1 j1) j2⟩
 | [],st :: ss,_,_,h,_ => h.elim
 | p :: l,[],_,_,h,_ => h.elim
theorem OwnPl.snoc {m : Mem} {p : Place} {st : T} {js : List Nat} {a b : Nat} : ∀ {l : List Place} {ss : List T} {lo hi : Nat},OwnPl m lo hi l ss → hi ≤ a → a ≤ b → OwnRowC m a b st p.story js → OwnPl m lo b (l ++ [p]) (ss ++ [st])
 | [],[],lo,hi,h,h1,h2,h3 => ⟨b,js,by have : lo ≤ hi := h; omega,h3.wide (by have : lo ≤ hi := h; omega) (Nat.le_refl _) (fun _ _ _ => rfl),Nat.le_refl _⟩
 | q :: l,s :: ss,lo,hi,⟨mid,k,g1,g2,g3⟩,h1,h2,h3 => ⟨mid,k,g1,g2,g3.snoc h1 h2 h3⟩
 | [],st :: ss,_,_,h,_,_,_ => h.elim
 | p :: l,[],_,_,h,_,_,_ => h.elim
theorem pcT_app : ∀ (A B : List Place) (sa sb : List T),A.length = sa.length → pcT (A ++ B) (sa ++ sb) = pcT A sa ++ pcT B sb
 | [],B,[],sb,h => rfl
 | c :: A,B,j :: sa,sb,h => by simp [pcT_app A B sa sb (by simpa using h)]
 | [],B,j :: sa,sb,h => by simp at h
 | c :: A,B,[],sb,h => by simp at h
theorem pcT_len : ∀ (A : List Place) (sa : List T),A.length = sa.length → (pcT A sa).length = A.length * 2
 | [],[],h => rfl
 | c :: A,j :: sa,h => by simp [pcT_len A sa (by simpa using h)]; omega
 | [],j :: sa,h => by simp at h
 | c :: A,[],h => by simp at h
theorem OwnPl.cells {m : Mem} : ∀ {l : List Place} {ss : List T} {lo hi : Nat},OwnPl m lo hi l ss → allC (pcT l ss)
 | [],[],lo,hi,h => by simp
 | p :: l,st :: ss,lo,hi,⟨mid,js,h1,h2,h3⟩ => by
  intro x hx
  simp only [pcT_cons,List.mem_cons] at hx
  rcases hx with rfl | rfl | hx
  ·rfl
  ·exact h2.cell
  ·exact h3.cells x hx
 | [],st :: ss,_,_,h => h.elim
 | p :: l,[],_,_,h => h.elim
end TL

namespace TL
open Go Go.Proofs
attribute [local simp] marksV storyV codeV Claim.v Place.v Desk.v
/-- A row of places of one's own; ex: what lies behind it in its block. -/
def PastO (m : Mem) (b hi : Nat) (P : T) (l : List Place) (ss : List T) : Prop := (P = .nil ∧ l = [] ∧ ss = []) ∨ ∃ id ex,P = .sv id 0 l.length ∧ b ≤ id ∧ id < hi ∧ flT ex = true ∧ m id = some (.box 31 2 (pcT l ss ++ ex))
theorem PastO.cell {m : Mem} {b hi : Nat} {P : T} {l : List Place} {ss : List T} (h : PastO m b hi P l ss) : P.cell = true := by
 rcases h with ⟨rfl,_⟩ | ⟨id,ex,rfl,_⟩ <;> rfl
theorem PastO.cells {m : Mem} {b hi : Nat} {P : T} {l : List Place} {ss : List T} (h : PastO m b hi P l ss) : P.cells = [P] := by
 rcases h with ⟨rfl,_⟩ | ⟨id,ex,rfl,_⟩ <;> rfl
/-- A desk of one's own: the claims of its place lie from n to a, those of its places of before from a to b, the row of these from b on. -/
def DeepD (d : Desk) (m : Mem) (n : Nat) (t : T) (m' : Mem) (n' : Nat) : Prop := n ≤ n' ∧ (∀ j,j < n → m' j = m j) ∧ ∃ (sn P : T) (jn : List Nat) (ss : List T) (a b : Nat),t = .agg [.v (.int .i64 d.now.people),sn,P] ∧ OwnRowC m' n a sn d.now.story jn ∧ n ≤ a ∧ OwnPl m' a b d.past ss ∧ b ≤ n' ∧ PastO m' b n' P d.past ss
def IcdO (d : Desk) (m0 : Mem) (n0 q : Nat) (sn : T) (jn : List Nat) (e : Nat) (s : S) : Prop := ∃ (i b : Nat) (P : T) (ss : List T),s.tm 2 = .ptr (n0 + 1) 0 ∧ s.tm 3 = .ptr q 0 ∧ s.tm 11 = .v (.sl (d.past.map Place.v)) ∧ s.tm 12 = .v (.int .i64 d.past.length) ∧ s.tm 13 = .v (.int .i64 i) ∧ s.mu = true ∧ i ≤ d.past.length ∧ q < s.n ∧
 s.m (n0 + 1) = some (.box 34 3 [.v (.int .i64 0),.nil,.nil]) ∧ s.m q = some (.box 34 3 [.v (.int .i64 d.now.people),sn,P]) ∧ OwnRowC s.m (n0 + 1 + 1) q sn d.now.story jn ∧ OwnPl s.m (q + 1) b (d.past.take i) ss ∧ b ≤ s.n ∧ PastO s.m b s.n P (d.past.take i) ss ∧ (∀ j,j < n0 → s.m j = m0 j) ∧ (e = 1 → i = d.past.length)
theorem copyDesk_deep (d : Desk) (hd : d.small) (hn0 : ∀ c ∈ d.now.story,c.says ≠ []) (hp0 : ∀ p ∈ d.past,∀ c ∈ p.story,c.says ≠ []) (m : Mem) (n : Nat) : FnS Tryz.prog 31 m n [.v d.v] (DeepD d m n) := by
 have hl := hd.2.1
 refine FS (rs := [.cell 2 34]) true Tryz.func31 ?_
 have e0 : ¬ n = n + 1 := by omega
 have e5 : ¬ n + 1 = n := by omega
 simp -dsimp [e0,e5,nes]
 refine callL_ (vs := [d.now.v]) (copyPlace_deep d.now hd.1 hn0 _ _) (by simp -dsimp) ?_
 rintro t m1 n1 ⟨hn1,hout1,sn,jn,rfl,hrow⟩
 have k0 := hout1 n (by omega)
 have k1 := hout1 (n + 1) (by omega)
 simp -dsimp [nes,e0,e5] at k0 k1
 have g0 := far (show n < n1 by omega)
 have g1 := far (show n + 1 < n1 by omega)
 have hc := hrow.cell
 have hcs := hrow.cells
 simp -dsimp [k0,k1,nes,g0,g1,hc,hcs,e0,e5]
 refine twp_loopC (IcdO d m n n1 sn jn 0) (fun s => d.past.length - natOf (s.tm 13)) (IcdO d m n n1 sn jn 1) ?_ ?_ ?_
 ·refine ⟨0,n1 + 1,.nil,[],by simp -dsimp,by simp -dsimp,by simp -dsimp,by simp -dsimp,by simp -dsimp,by simp -dsimp,by omega,(by simp -dsimp <;> omega),by simp -dsimp [g1,k1],by simp -dsimp,hrow.keep (fun j j1 j2 => by simp -dsimp [far j2]),Nat.le_refl _,(by simp -dsimp <;> omega),.inl ⟨rfl,rfl,rfl⟩,fun j j1 => ?_,by simp⟩
  have := hout1 j (by omega)
  simp -dsimp [far j1] at this
  simp -dsimp [far (show j < n1 by omega),this]
 ·rintro s ⟨i,b,P,ss,t2,t3,t11,t12,t13,hmu,hi,hq,m1',mq,hnow,hpl,hbn,hst,hout,hend⟩
  by_cases hlt : i < d.past.length
  case neg =>
   simp -dsimp [t12,t13,hlt]
   exact ⟨i,b,P,ss,by simp -dsimp [t2],by simp -dsimp [t3],by simp -dsimp [t11],by simp -dsimp [t12],by simp -dsimp [t13],by simp -dsimp [hmu],hi,by simp -dsimp; omega,by simp -dsimp [m1'],by simp -dsimp [mq],hnow,hpl,by simp -dsimp; omega,hst,fun j j1 => by simp -dsimp [hout j j1],fun _ => by omega⟩
  have hget : (d.past.map Place.v)[i]? = some (d.past[i].v) := by simp [hlt]
  have wi : IntKind.wrap .i64 ((i : Int) + 1) = ((i + 1 : Nat) : Int) := by rw [w64 (by omega) (by omega)]; omega
  have hmu1 : d.past.length - (i + 1) < d.past.length - i := by omega
  have p0 := far (show n1 < s.n by omega)
  have p1 := far (show n + 1 < s.n by omega)
  have p3 := far (show n < s.n by omega)
  have q0 : ¬ n + 1 = n1 := by omega
  have q1 : ¬ n1 = n + 1 := by omega
  have hmem := List.getElem_mem hlt
  have hcp := fun m n => copyPlace_deep d.past[i] (hd.2.2 _ hmem) (hp0 _ hmem) m n
  have b1 : (min i d.past.length + 1) * 32 ≤ 140737488355328 := by omega
  have b2 : (i + 1) * 32 ≤ 140737488355328 := by omega
  have htk : d.past.take (i + 1) = d.past.take i ++ [d.past[i]] := List.take_succ_eq_append_getElem hlt
  have hil : min i d.past.length = i := by omega
  have htl : (d.past.take i).length = i := by simp; omega
  have r5 := pcT_len (d.past.take i) ss hpl.len
  have r6 := hpl.cells
  rw [htl] at r5
  have hcq := hst.cell
  simp -dsimp [t11,t12,t13,hlt,hget]
  refine twd (List.range 8) [s.n,n1] (List.replicate 8 [0,1]) (List.replicate 7 [0,1] ++ [[0]]) ?_
  simp -dsimp [List.range_succ,t3,mq,p0,p1,nes]
  refine callL_ (vs := [d.past[i].v]) (hcp _ _) (by simp -dsimp) ?_
  rintro t m2 n2 ⟨hn2,hout2,st,js,rfl,hrow2⟩
  have u0 := hout2 n1 (by omega)
  have u1 := hout2 (n + 1) (by omega)
  have u2 := hout2 s.n (by omega)
  have v0 := far (show n1 < n2 by omega)
  have v1 := far (show n + 1 < n2 by omega)
  have v2 := far (show s.n < n2 by omega)
  have hc2 := hrow2.cell
  have hcs2 := hrow2.cells
  simp -dsimp [p0,p1,mq] at u0 u1 u2
  rcases hst with ⟨rfl,hs0,hs1⟩ | ⟨r,ex,rfl,hi0,hi1,hex,him'⟩
  ·have hi00 : i = 0 := by
    simp at hs0; rcases hs0 with h | h
    ·exact h
    ·rw [h] at hlt; simp at hlt
   subst hi00
   simp -dsimp [List.range_succ,t3,t13,mq,u0,u1,u2,v0,v1,v2,hc2,hcs2,p0,p1,nes,hmu,wi,hmu1,q0,q1]
   refine ⟨?_,by rw [w64 (by omega) (by omega)]; omega⟩
   have w1 : IntKind.wrap .i64 (1 : Int) = 1 := by rw [w64 (by omega) (by omega)]
   refine st_out (I := IcdO d m n n1 sn jn 0) fun s' ht hm' hn' hu' => ?_
   have a2 := ht 2
   have a3 := ht 3
   have a11 := ht 11
   have a12 := ht 12
   have a13 := ht 13
   simp -dsimp [t2,t3,t11,t12,wi,w1] at a2 a3 a11 a12 a13 hm' hn' hu'
   clear ht
   have hjk : ∀ j,j < s.n → ¬ j = n1 → s'.m j = s.m j := fun j j1 j2 => by
    have q3 := hout2 j (by omega)
    simp [show ¬ j = s.n by omega] at q3
    simp [hm',show ¬ j = n2 by omega,show ¬ j = n2 + 1 by omega,j2,q3]
   have ht1 : d.past.take 1 = [d.past[0]] := by rw [show (1 : Nat) = 0 + 1 from rfl,htk]; rfl
   rw [hs1] at hpl
   have hle := hpl.le
   refine ⟨1,n2,.sv (n2 + 1) 0 1,[st],a2,a3,a11,a12,a13,by rw [hu',hmu],by omega,by omega, ?_, ?_,hnow.keep fun j j1 j2 => hjk j (by omega) (by omega), ?_,by omega, ?_,fun j j1 => ?_,by simp⟩
   ·rw [hjk _ (by omega) (by omega),m1']
   ·simp [hm']
   ·rw [ht1]
    exact ⟨n2,js,by omega,hrow2.wide (by omega) (Nat.le_refl _) fun j j1 j2 => by simp [hm',show ¬ j = n2 by omega,show ¬ j = n2 + 1 by omega,show ¬ j = n1 by omega],Nat.le_refl _⟩
   ·rw [ht1]
    exact .inr ⟨n2 + 1,[],rfl,by omega,by omega,rfl,by simp [hm',show ¬ n2 + 1 = n1 by omega]⟩
   ·rw [hjk j (by omega) (by omega),hout j j1]
  ·have g1' := far (show r < n2 by omega)
   have g2 : ¬ r = n1 := by have := hpl.le; omega
   have g3 : ¬ r = n + 1 := by have := hpl.le; omega
   have u3 := hout2 r (by omega)
   simp -dsimp [far hi1,him'] at u3
   simp -dsimp [List.range_succ,t3,t13,mq,u0,u1,u2,u3,v0,v1,v2,hc2,hcs2,p0,p1,nes,hmu,wi,hmu1,q0,q1,g1',g2,Ne.symm g2,b1,b2,hil,htl,r5,r6]
   refine ⟨by omega, ?_⟩
   refine st_out (I := IcdO d m n n1 sn jn 0) fun s' ht hm' hn' hu' => ?_
   have a2 := ht 2
   have a3 := ht 3
   have a11 := ht 11
   have a12 := ht 12
   have a13 := ht 13
   simp -dsimp [t2,t3,t11,t12,wi] at a2 a3 a11 a12 a13 hm' hn' hu'
   clear ht
   have hjk : ∀ j,j < s.n → ¬ j = n1 → ¬ j = r → s'.m j = s.m j := fun j j1 j2 j3 => by
    have q3 := hout2 j (by omega)
    simp [show ¬ j = s.n by omega] at q3
    simp [hm',show ¬ j = n2 by omega,show ¬ j = n2 + 1 by omega,j2,j3,q3]
   have hle := hpl.le
   have hsl := hpl.len
   refine ⟨i + 1,n2,.sv (n2 + 1) 0 (i + 1),ss ++ [st],a2,a3,a11,a12,by rw [a13]; simp,by rw [hu',hmu],by omega,by omega, ?_, ?_,hnow.keep fun j j1 j2 => hjk j (by omega) (by omega) (by omega), ?_,by omega, ?_,fun j j1 => ?_,by simp⟩
   ·rw [hjk _ (by omega) (by omega) (by omega),m1']
   ·simp [hm']
   ·rw [htk]
    exact (hpl.keep fun j j1 j2 => hjk j (by omega) (by omega) (by omega)).snoc (a := s.n + 1 + 1) (by omega) (by omega) (hrow2.keep fun j j1 j2 => by simp [hm',show ¬ j = n2 by omega,show ¬ j = n2 + 1 by omega,show ¬ j = n1 by omega,show ¬ j = r by omega])
   ·rw [htk]
    exact .inr ⟨n2 + 1,[],by simp; omega,by omega,by omega,rfl,by rw [pcT_app _ _ _ _ hsl]; simp [hm',show ¬ n2 + 1 = n1 by omega]⟩
   ·rw [hjk j (by omega) (by omega) (by omega),hout j j1]
 ·rintro s ⟨i,b,P,ss,t2,t3,t11,t12,t13,hmu,hi,hq,m1',mq,hnow,hpl,hbn,hst,hout,hend⟩
  have := hend rfl
  subst this
  rw [List.take_length] at hpl hst
  have hcq := hst.cell
  have hcs2 := hst.cells
  simp -dsimp [t2,t3,mq,m1',nes,hc,hcs,hcq,hcs2,e0,e5]
  have hle := hpl.le
  have hk : ∀ j,¬ j = n + 1 → updM s.m (n + 1) (some (.box 34 3 [.v (.int .i64 d.now.people),sn,P])) j = s.m j := fun j j1 => by simp [j1]
  refine ⟨by omega,fun j j1 => by rw [hk j (by omega),hout j j1],sn,P,jn,ss,n1 + 1,b,rfl,hnow.wide (by omega) (by omega) fun j j1 j2 => hk j (by omega),by omega,hpl.keep fun j j1 j2 => hk j (by omega),by omega, ?_⟩
  rcases hst with h | ⟨id,ex,h1,h2,h3,h5,h4⟩
  ·exact .inl h
  ·exact .inr ⟨id,ex,h1,h2,by omega,h5,by rw [hk id (by omega),h4]⟩
end TL

namespace TL
open Go Go.Proofs
attribute [local simp] marksV storyV codeV Claim.v Place.v Desk.v
def zc (k : Nat) : List T := (List.replicate k [T.v (.int .i64 0),T.nil]).flatten
theorem zc_succ (k : Nat) : zc (k + 1) = .v (.int .i64 0) :: .nil :: zc k := rfl
theorem zc_len (k : Nat) : (zc k).length = k * 2 := by
 induction k with
 | zero => rfl
 | succ k ih => rw [zc_succ]; simp [ih]; omega
theorem cell_set2 (A : List T) (x y x' y' : T) (B : List T) (i : Nat) (h : A.length = i) : ((A ++ x :: y :: B).set i x').set (i + 1) y' = A ++ x' :: y' :: B := by
 rw [cell_set A x x' (y :: B) i h]
 have e : A ++ x' :: y :: B = (A ++ [x']) ++ y :: B := by simp
 rw [e,cell_set (A ++ [x']) y y' B (i + 1) (by simp [h])]
 simp
def ItcO (l : List Claim) (m : Mem) (n : Nat) (a : Nat) (s : S) : Prop := ∃ (i : Nat) (js : List Nat),s.tm 0 = .v (.sl (l.map Claim.v)) ∧ s.tm 3 = .sv n 0 l.length ∧ s.tm 4 = .v (.int .i64 i) ∧ i ≤ l.length ∧ n < s.n ∧ s.m n = some (.box 104 2 (clT (l.take i) js ++ zc (l.length - i))) ∧
 (∀ j ∈ js,n < j ∧ j < s.n) ∧ js.Nodup ∧ Says s.m (l.take i) js ∧ (∀ j,j < n → s.m j = m j) ∧ (a = 1 → i = l.length)
theorem toClaimS_own (l : List Claim) (hl : l.length ≤ 1048576) (hs : ∀ a ∈ l,a.small) (m : Mem) (n : Nat) : FnS Tryz.prog 63 m n [.v (.sl (l.map Claim.v))] (fun t m' n' => n ≤ n' ∧ (∀ j,j < n → m' j = m j) ∧ ∃ js,OwnRowC m' n n' t l js) := by
 have b1 : (32 : Int) * l.length ≤ 281474976710656 := by omega
 have b2 : (l.length : Int) ≤ 9223372036854775807 := by omega
 have b3 : (0 : Int) ≤ l.length := by omega
 refine FS (rs := [.tmp 2]) true Tryz.func63 ?_
 simp -dsimp [b1,b2,b3]
 refine twp_loopC (ItcO l m n 0) (fun s => l.length - natOf (s.tm 4)) (ItcO l m n 1) ?_ ?_ ?_
 ·exact ⟨0,[],by simp -dsimp,by simp -dsimp,by simp -dsimp,by omega,by simp -dsimp <;> omega,by simp -dsimp [zc],by simp,List.nodup_nil,trivial,fun j j1 => by simp -dsimp [far j1],by simp⟩
 ·rintro s ⟨i,js,h0,h3,h4,hi,hn,hm,hjs,hnd,hsy,hout,hend⟩
  by_cases hlt : i < l.length
  case neg =>
   simp -dsimp [h0,h4,hlt]
   exact ⟨i,js,by simp -dsimp [h0],by simp -dsimp [h3],by simp -dsimp [h4],hi,by simp -dsimp; omega,by simp -dsimp [hm],fun j hj => by have := hjs j hj; simp -dsimp; omega,hnd,hsy,fun j j1 => by simp -dsimp [hout j j1],fun _ => by omega⟩
  have hget : (l.map Claim.v)[i]? = some (l[i].v) := by simp [hlt]
  have wi : IntKind.wrap .i64 ((i : Int) + 1) = ((i + 1 : Nat) : Int) := by rw [w64 (by omega) (by omega)]; omega
  have hmu : l.length - (i + 1) < l.length - i := by omega
  have hlt' : (i : Int) < l.length := by omega
  have htk : l.take (i + 1) = l.take i ++ [l[i]] := List.take_succ_eq_append_getElem hlt
  have htl : (l.take i).length = i := by simp; omega
  have r5 := clT_len (l.take i) js hsy.len
  rw [htl] at r5
  have ezc : l.length - i = (l.length - (i + 1)) + 1 := by omega
  rw [ezc,zc_succ] at hm
  have zl := zc_len (l.length - (i + 1))
  have hown := fun m n => toClaim_own l[i] (hs _ (List.getElem_mem hlt)) m n
  generalize hc : l[i] = c at *
  have hset := fun id2 => cell_set2 (clT (l.take i) js) (.v (.int .i64 0)) .nil (.v (.int .i64 c.who)) (.sv id2 0 c.says.length) (zc (l.length - (i + 1))) (i * 2) r5
  have hll : (clT (l.take i) js ++ T.v (.int .i64 0) :: T.nil :: zc (l.length - (i + 1))).length = l.length * 2 := by simp [r5,zl]; omega
  have hoff : i * 2 + 2 ≤ l.length * 2 := by omega
  have f1 := far hn
  generalize hcells : clT (l.take i) js ++ T.v (.int .i64 0) :: T.nil :: zc (l.length - (i + 1)) = cells at *
  obtain ⟨c1,c2⟩ := c
  simp -dsimp [h0,h3,h4,hlt,hget,hc]
  refine callL_ (vs := [(⟨c1,c2⟩ : Claim).v]) (hown _ _) (by simp -dsimp) ?_
  rintro t m2 n2 ⟨hn2,hout2,st,rfl,id2,rfl,i0,i1,him2⟩
  have k1 := hout2 n (by omega)
  have g1 := far (show n < n2 by omega)
  have hset2 := hset id2
  simp -dsimp [f1,hm] at k1
  simp only at hset2
  simp -dsimp [h0,h3,h4,hlt',k1,hll,hoff,setAt,hset2,wi,hmu,nes]
  refine st_out fun s' ht hm' hn' hu' => ?_
  have a0 := ht 0
  have a3 := ht 3
  have a4 := ht 4
  simp -dsimp [h0,h3,wi] at a0 a3 a4 hm' hn' hu'
  clear ht
  have hjk : ∀ j ∈ js,s'.m j = s.m j := fun j hj => by
   have q1 := hjs j hj
   have q3 := hout2 j (by omega)
   simp [hm',show ¬ j = n by omega,q3]
  have hsl : (l.take i).length = js.length := hsy.len
  refine ⟨i + 1,js ++ [id2],a0,a3,a4,by omega,by omega, ?_,fun j hj => ?_, ?_, ?_,fun j j1 => ?_,by simp⟩
  ·rw [htk,clT_app _ _ _ _ hsl]
   simp [hm']
  ·rcases List.mem_append.1 hj with hj | hj
   ·have := hjs j hj; omega
   ·rw [List.mem_singleton.1 hj]; omega
  ·rw [List.nodup_append]
   refine ⟨hnd,by simp,fun y hy z hz => ?_⟩
   rw [List.mem_singleton.1 hz]
   have := hjs y hy
   omega
  ·rw [htk]
   exact (Says.app hsl).2 ⟨hsy.keep hjk,⟨by simp [hm',show ¬ id2 = n by omega,him2],trivial⟩⟩
  ·have q3 := hout2 j (by omega)
   simp [hm',show ¬ j = n by omega,q3,hout j j1]
 ·rintro s ⟨i,js,h0,h3,h4,hi,hn,hm,hjs,hnd,hsy,hout,hend⟩
  have := hend rfl
  subst this
  rw [Nat.sub_self,List.take_length] at hm
  rw [List.take_length] at hsy
  have e : clT l js ++ zc 0 = clT l js := by simp [zc]
  rw [e] at hm
  simp -dsimp [h3]
  exact ⟨by omega,hout,js,fun j hj => by have := hjs j hj; omega,hnd,hsy,.inr ⟨n,rfl,Nat.le_refl _,by omega,fun hj => by have := hjs n hj; omega,hm⟩⟩
theorem toPlace_own (p : Place) (hp : p.small) (m : Mem) (n : Nat) : FnS Tryz.prog 26 m n [.v p.v] (DeepP p m n) := by
 refine FS (rs := [.cell 2 31]) true Tryz.func26 ?_
 have e0 : ¬ n = n + 1 := by omega
 have e5 : ¬ n + 1 = n := by omega
 simp -dsimp [nes,e0,e5]
 refine callS_ (toClaimS_own p.story hp.1 hp.2 _ _) ?_
 rintro t m1 n1 ⟨hn1,hout,js,hrow⟩
 have k0 := hout n (by omega)
 have k1 := hout (n + 1) (by omega)
 have k2 := hout (n + 1 + 1) (by omega)
 simp -dsimp [nes,e0,e5] at k0 k1 k2
 have hc := hrow.cell
 have hcs := hrow.cells
 have ho : ∀ j,j < n → m1 j = m j := fun j j1 => by have hj := hout j (by omega); simp [far j1] at hj; exact hj
 simp -dsimp [nes,e0,e5,k0,k1,k2,hc,hcs]
 refine ⟨by omega,fun j j1 => ?_,t,js,rfl,hrow.wide (by omega) (by omega) fun j j1 j2 => by simp [show ¬ j = n + 1 by omega,show ¬ j = n + 1 + 1 by omega]⟩
 simp [show ¬ j = n + 1 by omega,show ¬ j = n + 1 + 1 by omega,ho j j1]
theorem markPlaceS_nil (m : Mem) (n : Nat) (k : Int) : FnS Tryz.prog 36 m n [.nil,.v (.int .i64 k)] (fun t m' n' => t = .v (.int .i64 k) ∧ n ≤ n' ∧ m' = m) := by
 refine FS (rs := [.tmp 4]) false Tryz.func36 ?_
 simp -dsimp
 refine twp_loopC (fun s => s.tm 0 = .nil ∧ s.tm 1 = .v (.int .i64 k) ∧ s.tm 5 = .v (.int .i64 0) ∧ s.m = m ∧ n ≤ s.n) (fun s => 0) (fun s => s.tm 1 = .v (.int .i64 k) ∧ s.m = m ∧ n ≤ s.n) ?_ ?_ ?_
 ·simp -dsimp
 ·rintro s ⟨t0,t1,t5,hm,hn⟩
  simp -dsimp [t0,t1,t5,hm,hn]
 ·rintro s ⟨t1,hm,hn⟩
  simp -dsimp [t1,hm,hn]
/-! What names nothing but its own memory. -/
theorem mkT_fl (l : List Mark) : flT (mkT l) = true := by
 induction l with
 | nil => rfl
 | cons x xs ih => simp [mkT,ih,V.flat]
theorem clT_fl : ∀ (l : List Claim) (js : List Nat),flT (clT l js) = true
 | [],js => by simp
 | c :: l,[] => by simp [clT]
 | c :: l,j :: js => by simp [clT_fl l js,V.flat]
theorem OwnRowC.fl {m : Mem} {lo hi : Nat} {st : T} {l : List Claim} {js : List Nat} (h : OwnRowC m lo hi st l js) : st.fl = true := by
 rcases h.2.2.2 with ⟨rfl,_⟩ | ⟨id,rfl,_⟩ <;> rfl
end TL

namespace TL
open Go Go.RowKit
variable {P : Program}
mutual
/-- The handles of a value, moved up. -/
def T.up (k : Nat) : T → T
 | .sv i co len => .sv (i + k) co len
 | .ptr i j => .ptr (i + k) j
 | .agg cs => .agg (upT k cs)
 | .tup cs => .tup (upT k cs)
 | .v x => .v x
 | .nil => .nil
 | x => x
def upT (k : Nat) : List T → List T
 | [] => []
 | x :: xs => x.up k :: upT k xs
end
@[simp] theorem upT_nil (k : Nat) : upT k [] = [] := rfl
@[simp] theorem upT_cons (k : Nat) (x : T) (xs : List T) : upT k (x :: xs) = x.up k :: upT k xs := rfl
@[simp] theorem up_v (k : Nat) (x : V) : (T.v x).up k = .v x := rfl
@[simp] theorem up_nil (k : Nat) : T.nil.up k = .nil := rfl
@[simp] theorem up_sv (k i j l : Nat) : (T.sv i j l).up k = .sv (i + k) j l := rfl
@[simp] theorem up_ptr (k i j : Nat) : (T.ptr i j).up k = .ptr (i + k) j := rfl
@[simp] theorem up_agg (k : Nat) (cs : List T) : (T.agg cs).up k = .agg (upT k cs) := rfl
@[simp] theorem up_tup (k : Nat) (cs : List T) : (T.tup cs).up k = .tup (upT k cs) := rfl
theorem upT_append (k : Nat) (a b : List T) : upT k (a ++ b) = upT k a ++ upT k b := by
 induction a with
 | nil => rfl
 | cons x xs ih => simp [ih]
@[simp] theorem upT_length (k : Nat) (a : List T) : (upT k a).length = a.length := by
 induction a with
 | nil => rfl
 | cons x xs ih => simp [ih]
def Blk.up (k : Nat) : Blk → Blk
 | .box e z cs => .box e z (upT k cs)
 | b => b
@[simp] theorem up_box (k : Nat) (e : TypeId) (z : Nat) (cs : List T) : (Blk.box e z cs).up k = .box e z (upT k cs) := rfl
theorem up_cell (k : Nat) (x : T) : (x.up k).cell = x.cell := by cases x <;> simp only [T.up,T.cell]
theorem upT_allC (k : Nat) {cs : List T} (h : allC cs) : allC (upT k cs) := by
 induction cs with
 | nil => exact h
 | cons x xs ih =>
  intro y hy
  simp only [upT_cons,List.mem_cons] at hy
  rcases hy with rfl | hy
  ·rw [up_cell]; exact h x (by simp)
  ·exact ih (fun z hz => h z (by simp [hz])) y hy
def catM (n : Nat) (m m' : Mem) : Mem := fun i => if i < n then m i else (m' (i - n)).map (Blk.up n)
theorem catM_lo {n j : Nat} {m m' : Mem} (h : j < n) : catM n m m' j = m j := if_pos h
theorem catM_hi {n j : Nat} {m m' : Mem} {b : Blk} (h : m' j = some b) : catM n m m' (j + n) = some (b.up n) := by
 unfold catM
 rw [if_neg (by omega),Nat.add_sub_cancel,h]; rfl
section
variable {φ φ2 : Phi} {Z Z' : Zs} {w w' : World} {k : Nat}
mutual
theorem fl_up {x : T} {u : Value} (he : ∀ i u,φ i = some u → φ2 (i + k) = some u) (h : x.fl = true) : RepT φ Z w x u → RepT φ2 Z' w' (x.up k) u
 | .v g => .v (flat_rep h g)
 | .nil => .nil
 | .sv g hl hm ha h0 => .sv (he _ _ g) hl hm ha h0
 | .ptr g => .ptr (he _ _ g)
 | .ptrs g => .ptrs (he _ _ g)
 | .agg g => .agg (flT_up he (by simpa using h) g)
 | .tup g => .tup (flT_up he (by simpa using h) g)
theorem flT_up {x : List T} {u : List Value} (he : ∀ i u,φ i = some u → φ2 (i + k) = some u) (h : flT x = true) : RepTs φ Z w x u → RepTs φ2 Z' w' (upT k x) u
 | .nil => .nil
 | .cons g t => .cons (fl_up he (by simp at h; exact h.1) g) (flT_up he (by simp at h; exact h.2) t)
end
end
theorem FnS.ownUp {f : Nat} {m : Mem} {n : Nat} {args : List T} {vs : List V} {post Q : T → Mem → Nat → Prop} (h : FnS P f (fun _ => none) 0 (vs.map .v) post) (ha : mapO (bor true m 4) args = some vs)
  (hp : ∀ t m' n',post t m' n' → ∃ m2,LeM m2 m' ∧ t.fl = true ∧ (∀ i b,m2 i = some b → b.fl = true) ∧ Q t m2 n') :
  FnS P f m n args (fun t mm n' => ∃ t' m' n'',Q t' m' n'' ∧ t = t'.up n ∧ mm = catM n m m' ∧ n' = n + n'') := by
 refine ⟨h.1,fun φ Z w us hm hr => ?_⟩
 let Zb : Zs := fun k o => Z k o ∨ Owned φ m k
 have hZ : SubZ Z Zb := fun k o h => .inl h
 have hvs := bors_sound hm (k := true) (Zb := Zb) hZ (fun _ g hg o => .inr hg) args us vs hr ha
 have no : ∀ k,¬ Owned (fun _ => none) (fun _ => none) k := fun k ⟨i,b,v,h1,_⟩ => by cases h1
 have hm0 : RelM P (fun _ => none) Zb (fun _ => none) 0 w := by
  refine ⟨fun i u h => (by cases h),fun i _ => rfl,fun i b hb => (by cases hb),fun i j a b u v k h1 => (by cases h1),⟨fun k o hz => ?_,hm.zlt.gl.keep hZ fun _ _ _ => rfl⟩⟩
  rcases hz with hz | hz
  ·exact hm.zlt.lt k o hz
  ·exact hm.owned_lt hz
 refine (h.2 (fun _ => none) Zb w us hm0 hvs.toTs).mono fun e w' hh => ?_
 obtain ⟨v,φ',Z',m1,n',t,rfl,h1,h2,h3,h4⟩ := hh
 obtain ⟨m',hle,ht,hb,h4⟩ := hp t m1 n' h4
 have h1 := h1.le hle
 let φ2 : Phi := fun i => if i < n then φ i else φ' (i - n)
 have plo : ∀ i,i < n → φ2 i = φ i := fun i hi => if_pos hi
 have phi : ∀ i,¬ i < n → φ2 i = φ' (i - n) := fun i hi => if_neg hi
 have up : ∀ i u,φ' i = some u → φ2 (i + n) = some u := fun i u hu => by rw [phi _ (by omega),Nat.add_sub_cancel]; exact hu
 have ext : Ext φ φ2 := fun i u hu => by
  rcases Nat.lt_or_ge i n with h | h
  ·rw [plo i h]; exact hu
  ·rw [hm.fresh i h] at hu; cases hu
 have lift : ∀ k,Owned φ' m' k → Owned φ' m1 k := fun k ⟨i,b,v,c1,c2⟩ => ⟨i,b,v,hle _ _ c1,c2⟩
 have new : ∀ (i : Nat) (b : Blk) (v : Value) (k : Nat),m' i = some b → isRo b = false → φ' i = some v → blkOf v = some k → w.heap.size ≤ k := fun i b v k h5 h6 h7 h8 => by
  rcases Nat.lt_or_ge k w.heap.size with h | h
  ·exact absurd (h3.own k h (lift k ⟨i,b,v,h5,h6,h7,h8⟩)) (no k)
  ·exact h
 have kz : KeepZ Z w w' := fun k o hz => h3.keep k o (.inl hz)
 have hro : ∀ b : Blk,isRo (b.up n) = isRo b := fun b => by cases b <;> rfl
 have hcat : ∀ i b,catM n m m' i = some b → (i < n ∧ m i = some b ∧ φ2 i = φ i) ∨ (¬ i < n ∧ φ2 i = φ' (i - n) ∧ ∃ b0,m' (i - n) = some b0 ∧ b = b0.up n) := fun i b hi => by
  unfold catM at hi
  split at hi
  ·rename_i hn; exact .inl ⟨hn,hi,plo i hn⟩
  ·rename_i hn
   cases e : m' (i - n) with
   | none => rw [e] at hi; cases hi
   | some b0 => rw [e] at hi; cases hi; exact .inr ⟨hn,phi i hn,b0,rfl,rfl⟩
 refine ⟨v,φ2,Z,catM n m m',n + n',t.up n,rfl,⟨fun i u hu => ?_,fun i hi => ?_,fun i b hi => ?_,fun i j a b u v k hi hj hu hv hku hkv ra rb => ?_,⟨fun k o hz => Nat.lt_of_lt_of_le (hm.zlt.lt k o hz) h3.size,hm.zlt.gl.keep (fun _ _ h => h) kz⟩⟩,fl_up up ht h2,
  ⟨ext,fun k o hz => hz,kz,h3.os,h3.tape,h3.output,h3.size,fun k hk ho => h3.out k hk (no k),fun k hk ho => ?_,fun k o hz => .inl hz⟩,t,m',n',h4,rfl,rfl,rfl⟩
 ·rcases Nat.lt_or_ge i n with h | h
  ·rw [plo i h] at hu; exact hm.ok i u hu
  ·rw [phi i (by omega)] at hu; exact h1.ok _ u hu
 ·rw [phi i (by omega)]; exact h1.fresh _ (by omega)
 ·rcases hcat i b hi with ⟨c1,c2,c3⟩ | ⟨c1,c2,b0,c3,rfl⟩
  ·obtain ⟨v,h5,h6⟩ := hm.blk i b c2
   refine ⟨v,ext _ _ h5,h6.keep ext (fun _ _ h => h) kz fun hro k hk => ⟨h3.out k (h6.lt hro hk) (no k),fun o ho => ho⟩⟩
  ·obtain ⟨v,h5,h6⟩ := h1.blk _ b0 c3
   refine ⟨v,by rw [c2]; exact h5, ?_⟩
   have hf := hb _ b0 c3
   cases b0 with
   | ro xs => cases hf
   | arr e xs => cases hf
   | mp es => cases hf
   | box e z cs =>
    obtain ⟨a1,a2,k,cur,a3,a4,a5,a6,a7,a8,a9⟩ := h6
    exact ⟨a1,a2,k,cur,a3,a4,by rw [upT_length]; exact a5,by rw [upT_length]; exact flT_up up hf a6,upT_allC n a7,fun o ho => a8 o (h3.sub k o (.inl ho)),a9⟩
 ·rcases hcat i a hi with ⟨c1,c2,c3⟩ | ⟨c1,c2,b0,c3,rfl⟩ <;> rcases hcat j b hj with ⟨d1,d2,d3⟩ | ⟨d1,d2,e0,d3,rfl⟩
  ·rw [c3] at hu; rw [d3] at hv
   exact hm.ne i j a b u v k c2 d2 hu hv hku hkv ra rb
  ·rw [c3] at hu; rw [d2] at hv
   have l1 := hm.owned_lt ⟨i,a,u,c2,ra,hu,hku⟩
   have l2 := new _ e0 v k d3 (by rw [← hro]; exact rb) hv hkv
   omega
  ·rw [c2] at hu; rw [d3] at hv
   have l1 := hm.owned_lt ⟨j,b,v,d2,rb,hv,hkv⟩
   have l2 := new _ b0 u k c3 (by rw [← hro]; exact ra) hu hku
   omega
  ·rw [c2] at hu; rw [d2] at hv
   have := h1.ne _ _ b0 e0 u v k c3 d3 hu hv hku hkv (by rw [← hro]; exact ra) (by rw [← hro]; exact rb)
   omega
 ·obtain ⟨i,b,v,h5,h6,h7,h8⟩ := ho
  rcases hcat i b h5 with ⟨c1,c2,c3⟩ | ⟨c1,c2,b0,c3,rfl⟩
  ·rw [c3] at h7; exact ⟨i,b,v,c2,h6,h7,h8⟩
  ·rw [c2] at h7
   have := new _ b0 v k c3 (by rw [← hro]; exact h6) h7 h8
   omega
theorem callU_ {f : Nat} {m : Mem} {n : Nat} {args : List T} {vs : List V} {k : T → Mem → Nat → Prop} {post Q : T → Mem → Nat → Prop} (h : FnS P f (fun _ => none) 0 (vs.map .v) post) (ha : mapO (bor true m 4) args = some vs)
  (hp : ∀ t m' n',post t m' n' → ∃ m2,LeM m2 m' ∧ t.fl = true ∧ (∀ i b,m2 i = some b → b.fl = true) ∧ Q t m2 n') (hk : ∀ t m' n',Q t m' n' → k (t.up n) (catM n m m') (n + n')) : callP P f m n args k :=
 callS_ (h.ownUp ha hp) fun t mm n' ⟨t',m',n'',h1,h2,h3,h4⟩ => by rw [h2,h3,h4]; exact hk t' m' n'' h1
end TL
