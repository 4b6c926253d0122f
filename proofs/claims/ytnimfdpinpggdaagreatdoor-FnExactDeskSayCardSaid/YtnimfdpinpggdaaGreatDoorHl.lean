/- TL: parts FnsJI, FnsJ1, FnsIX, FnsIW, FnsIZ, FnsGDb, FnsGD, TlWrap, FnsFWa, FnsFWb, FnsFWc, FnsFWd. -/
import Derived.Test.YtnimfdpinpggdaaGreatDoorHk
import Derived.Test.YtnimfdpinpggdaaGreatDoorHi
import Derived.Test.YtnimfdpinpggdaaGreatDoorHf
import Derived.Test.YtnimfdpinpggdaaGreatDoorHe
import Derived.Test.YtnimfdpinpggdaaGreatDoorHc
import Derived.Test.YtnimfdpinpggdaaGreatDoorShelfB
import Derived.Test.YtnimfdpinpggdaaGreatDoorShelfC
import Derived.Stop.LaidErr
import Derived.LaidLaws
import Derived.KernelRfl
import Derived.HandedShaped
import Derived.Test.YtnimfdpinpggdaaGreatDoorRows
import Derived.JoinedOf
import Derived.SevenTiedAt
set_option linter.unusedSimpArgs false
set_option linter.unusedVariables false
set_option maxRecDepth 100000
set_option maxHeartbeats 4000000
set_option pp.maxSteps 1500
namespace TL
open Go Go.Proofs
attribute [local simp] marksV storyV codeV Claim.v Place.v Deed.v Desk.v
/-- What is used of a desk that is one, or none. -/
def Desk.neat (d : Desk) : Prop := d.small ∧ (∀ c ∈ d.now.story,c.says.length ≤ 13) ∧ (∀ p ∈ d.past,∀ c ∈ p.story,c.says.length ≤ 13) ∧ d.bulk ≤ 1000
theorem saysSum_max (l : List Claim) (h : ∀ c ∈ l,c.says.length ≤ 13) : saysSum l ≤ 13 * l.length := by
 induction l with
 | nil => simp [saysSum]
 | cons c l ih =>
  have h1 := h c (by simp)
  have h2 := ih fun x hx => h x (by simp [hx])
  have e : saysSum (c :: l) = c.says.length + saysSum l := by simp [saysSum]
  rw [e,List.length_cons]; omega
theorem place_bulk {p : Place} (h : placeOk p = true) : p.bulk ≤ 84 ∧ ∀ c ∈ p.story,c.says.length ≤ 13 := by
 obtain ⟨_,_,q3,q4⟩ := placeOk_all h
 have h13 : ∀ c ∈ p.story,c.says.length ≤ 13 := fun c hc => (claimOk_all (q4 c hc)).2.2.2.2.2
 have := saysSum_max p.story h13
 refine ⟨?_,h13⟩
 show p.story.length + saysSum p.story ≤ 84
 omega
theorem bulkSum_max (l : List Place) (h : ∀ p ∈ l,placeOk p = true) : bulkSum l ≤ 84 * l.length := by
 induction l with
 | nil => simp [bulkSum]
 | cons c l ih =>
  have h1 := (place_bulk (h c (by simp))).1
  have h2 := ih fun x hx => h x (by simp [hx])
  have e : bulkSum (c :: l) = c.bulk + bulkSum l := by simp [bulkSum]
  rw [e,List.length_cons]; omega
theorem desk_neat {d : Desk} (h : deskOk d = true) : d.neat := by
 obtain ⟨h1,h2,h3⟩ := deskOk_iff.1 h
 have h4 := bulkSum_max d.past h1
 have h5 := place_bulk h2
 refine ⟨(desk_fine h).1,h5.2,fun p hp => (place_bulk (h1 p hp)).2, ?_⟩
 show d.now.bulk + (d.past.length + bulkSum d.past) ≤ 1000
 omega
theorem none_neat : noDeskV.neat := ⟨⟨⟨by simp [noDeskV],by simp [noDeskV]⟩,by simp [noDeskV],by simp [noDeskV]⟩,by simp [noDeskV],by simp [noDeskV],by decide⟩
theorem OwnD.lend {m : Mem} {lo hi : Nat} {sn P : T} {d : Desk} (h : OwnD m lo hi sn P d) : TL.bor true m 4 (.agg [.v (.int .i64 d.now.people),sn,P]) = some d.v := by
 have h1 := h.bor.1
 have h2 := h.bor.2
 simp [h1,h2]
theorem OwnD.lend2 {m : Mem} {lo hi : Nat} {sn P : T} {d : Desk} (h : OwnD m lo hi sn P d) {t : T} {v : V} (ht : TL.bor true m 4 t = some v) : mapO (TL.bor true m 4) [.agg [.v (.int .i64 d.now.people),sn,P],t] = some [d.v,v] := by
 have h1 := h.lend
 simp only [mapO,h1,ht]; rfl
end TL

namespace TL
open Go Go.Proofs
attribute [local simp] marksV storyV codeV Claim.v Place.v Deed.v
/-! The text of a mark. -/
def mtGo : Nat → Nat → List UInt8 → List UInt8
 | 0,_,acc => acc
 | f + 1,x,acc => if x = 0 then acc else mtGo f (x / 10) (UInt8.ofNat (48 + x % 10) :: acc)
def mt (k : Int) : List UInt8 := if k ≤ 0 then [109,48] else 109 :: mtGo (k.toNat + 1) k.toNat []
def Imt (k : Nat) (e : Nat) (s : S) : Prop := ∃ (x f : Nat) (acc : List UInt8),s.tm 0 = .v (.int .i64 x) ∧ s.tm 3 = .v (.str acc) ∧ s.mu = false ∧ x < f ∧ acc.length + x ≤ k ∧ mtGo f x acc = mtGo (k + 1) k [] ∧ (e = 1 → x = 0)
theorem markText_fn (k : Int) (h9 : k ≤ 1000000000) : FnZ Tryz.prog 39 [.int .i64 k] (.str (mt k)) := by
 by_cases h0 : k ≤ 0
 ·have e : mt k = [109,48] := if_pos h0
  rw [e]
  refine FZ (rs := [.tmp 2]) false Tryz.func39 ?_
  simp -dsimp [h0]
 have e : mt k = 109 :: mtGo (k.toNat + 1) k.toNat [] := if_neg h0
 rw [e]
 obtain ⟨n,rfl⟩ := Int.eq_ofNat_of_zero_le (show 0 ≤ k by omega)
 rw [Int.toNat_natCast]
 have h0' : ¬ n = 0 := by omega
 refine FZ (rs := [.tmp 2]) false Tryz.func39 ?_
 simp -dsimp [h0,h0']
 refine twp_loopC (Imt n 0) (fun s => natOf (s.tm 0)) (Imt n 1) ?_ ?_ ?_
 ·exact ⟨n,n + 1,[],by simp -dsimp,by simp -dsimp,by simp -dsimp,by omega,by simp,rfl,by simp⟩
 ·rintro s ⟨x,f,acc,t0,t3,hmu,hf,hx,hg,hend⟩
  by_cases hx0 : x = 0
  ·have hx0' : ¬ 0 < x := by omega
   simp -dsimp [t0,t3,hx0]
   exact ⟨0,f,acc,by simp -dsimp [t0,hx0],by simp -dsimp [t3],by simp -dsimp [hmu],by omega,by omega,by rw [← hg,hx0],fun _ => rfl⟩
  have hx1 : 0 < x := by omega
  have hx1' : (0 : Int) < x := by omega
  have r1 : ((x : Int)).tmod 10 = ((x % 10 : Nat) : Int) := by rw [Int.tmod_eq_emod_of_nonneg (by omega)]; omega
  have r2 : ((x : Int)).tdiv 10 = ((x / 10 : Nat) : Int) := by rw [Int.tdiv_eq_ediv_of_nonneg (by omega)]; omega
  have hms : natOf (s.tm 0) = x := by rw [t0]; simp
  have hmu1 : x / 10 < x := by omega
  have w1 : IntKind.wrap .i64 (48 + ((x % 10 : Nat) : Int)) = ((48 + x % 10 : Nat) : Int) := by rw [w64 (by omega) (by omega)]; omega
  have w2 : IntKind.wrap .u8 ((48 + x % 10 : Nat) : Int) = ((48 + x % 10 : Nat) : Int) := by
   rw [IntKind.wrap_u8]; omega
  have w3 : IntKind.wrap .i64 ((x / 10 : Nat) : Int) = ((x / 10 : Nat) : Int) := w64 (by omega) (by omega)
  cases f with
  | zero => omega
  | succ f =>
   have hg' : mtGo f (x / 10) (UInt8.ofNat (48 + x % 10) :: acc) = mtGo (n + 1) n [] := by rw [← hg]; exact (if_neg hx0).symm
   have hyz : x % 10 ≤ 9 ∧ x / 10 + 1 ≤ x := by omega
   have la : (1 : Int) + (acc.length : Int) ≤ 9223372036854775807 := by omega
   have w4 : IntKind.wrap .u8 (48 + ((x % 10 : Nat) : Int)) = ((48 + x % 10 : Nat) : Int) := by rw [IntKind.wrap_u8]; omega
   generalize x % 10 = y at *
   generalize x / 10 = z at *
   have w5 : IntKind.wrap .i64 (48 + (y : Int)) = 48 + (y : Int) := by rw [w1]; omega
   have w6 : (IntKind.wrap .u8 (48 + (y : Int))).toNat = 48 + y := by rw [w4]; omega
   simp -dsimp [t0,t3,hx1,hx1',hmu,r1,r2,w5,w6,w3,la,hms,hmu1]
   exact ⟨z,f,UInt8.ofNat (48 + y) :: acc,by simp -dsimp,by simp -dsimp,by simp -dsimp [hmu],by omega,by simp; omega,hg',by simp⟩
 ·rintro s ⟨x,f,acc,t0,t3,hmu,hf,hx,hg,hend⟩
  have := hend rfl
  subst this
  cases f with
  | zero => omega
  | succ f =>
   have e : mtGo (f + 1) 0 acc = acc := if_pos rfl
   rw [e] at hg
   have la : (1 : Int) + ((mtGo (n + 1) n []).length : Int) ≤ 9223372036854775807 := by rw [← hg]; omega
   simp -dsimp [t3,hg,la]
/-! Deeds as cells that may change. -/
def deT : List Deed → List T
 | [] => []
 | a :: l => .v (.int .i64 a.kind) :: .v (.int .i64 a.num) :: .v (.str a.words) :: deT l
@[simp] theorem deT_nil : deT [] = [] := rfl
@[simp] theorem deT_length (a : List Deed) : (deT a).length = a.length * 3 := by
 induction a with
 | nil => rfl
 | cons x xs ih => simp [deT,ih]; omega
@[simp] theorem deT_take (a : List Deed) : (deT a).take (a.length * 3) = deT a := List.take_of_length_le (by simp)
@[simp] theorem deT_cells (a : List Deed) : allC (deT a) := by
 induction a with
 | nil => simp
 | cons x xs ih => simp [deT]; exact ih
/-- Deeds that bear marks, from k on. -/
def mkd (k : Int) : Nat → List Deed
 | 0 => []
 | n + 1 => mkd k n ++ [⟨k + 3 * n,k + 3 * n + 1,mt (k + 3 * n + 2)⟩]
@[simp] theorem mkd_length (k : Int) (n : Nat) : (mkd k n).length = n := by
 induction n with
 | zero => rfl
 | succ n ih => simp [mkd,ih]
end TL

namespace TL
open Go Go.Proofs
def txsV (l : List (List UInt8)) : V := .sl (l.map V.str)
/-- The cells of a row of texts. -/
def txsT (l : List (List UInt8)) : List T := l.map fun w => T.v (.str w)
@[simp] theorem txsT_length (l : List (List UInt8)) : (txsT l).length = l.length := by simp [txsT]
theorem txsT_set (l : List (List UInt8)) (i : Nat) (w : List UInt8) : (txsT l).set i (.v (.str w)) = txsT (l.set i w) := by simp [txsT,List.map_set]
theorem txsT_append (a b : List (List UInt8)) : txsT (a ++ b) = txsT a ++ txsT b := by simp [txsT]
theorem txsT_mapO (m : Mem) (d : Nat) (l : List (List UInt8)) : mapO (bor true m d) (txsT l) = some (l.map V.str) := by
 induction l with
 | nil => rfl
 | cons x xs ih =>
  show (bor true m d (.v (.str x))).bind _ = _
  rw [show bor true m d (.v (.str x)) = some (.str x) by cases d <;> rfl]
  show (mapO (bor true m d) (txsT xs)).map _ = _
  rw [ih]; rfl
theorem txs_chunk (l : List (List UInt8)) : chunk 1 l.length (l.map V.str) = l.map V.str := by
 induction l with
 | nil => rfl
 | cons x xs ih => simp [chunk]; exact ih
theorem bor_txs {m : Mem} {i : Nat} {e : TypeId} {l : List (List UInt8)} (d : Nat) (h : m i = some (.box e 1 (txsT l))) : bor true m (d + 1) (.sv i 0 l.length) = some (txsV l) := by
 show (match m i with | some (.box _ z cs) => tst (0 + l.length * z ≤ cs.length) (obind (mapO (TL.bor true m d) ((cs.drop 0).take (l.length * z))) fun xs => tst (∀ x ∈ xs,x.cell = true) (some (V.sl (chunk z l.length xs)))) | _ => none) = _
 rw [h]
 show tst (0 + l.length * 1 ≤ (txsT l).length) (obind (mapO (TL.bor true m d) (((txsT l).drop 0).take (l.length * 1))) fun xs => tst (∀ x ∈ xs,x.cell = true) (some (V.sl (chunk 1 l.length xs)))) = _
 rw [tst_pos (by simp),List.drop_zero,Nat.mul_one,List.take_of_length_le (by simp),txsT_mapO,obind_some,tst_pos (fun x hx => by obtain ⟨w,_,rfl⟩ := List.mem_map.1 hx; rfl),txs_chunk]; rfl
/-! Lengths. -/
def txsSum (l : List (List UInt8)) : Nat := (l.map List.length).sum
theorem txsSum_take {l : List (List UInt8)} {i : Nat} (h : i < l.length) : txsSum (l.take (i + 1)) = txsSum (l.take i) + l[i].length := by
 unfold txsSum; rw [List.take_succ_eq_append_getElem h,List.map_append,List.sum_append]; simp
theorem txsSum_le (l : List (List UInt8)) (i : Nat) : txsSum (l.take i) ≤ txsSum l := by
 have e : txsSum l = txsSum (l.take i ++ l.drop i) := by rw [List.take_append_drop]
 rw [e]; unfold txsSum; rw [List.map_append,List.sum_append]; omega
theorem txsSum_mem {l : List (List UInt8)} {c : List UInt8} (h : c ∈ l) : c.length ≤ txsSum l := by
 induction l with
 | nil => cases h
 | cons y ys ih =>
  rcases List.mem_cons.1 h with rfl | h
  ·simp [txsSum]
  ·have := ih h; simp only [txsSum,List.map_cons,List.sum_cons] at this ⊢; omega
def SZX (l : List (List UInt8)) (left : Int) (e : Nat) (s : S) : Prop := ∃ i : Nat,s.tm 0 = .v (txsV l) ∧ s.tm 1 = .v (.int .i64 (left - l.length - txsSum (l.take i))) ∧ s.tm 5 = .v (.int .i64 i) ∧ i ≤ l.length ∧ 0 ≤ left - l.length - txsSum (l.take i) ∧ (e = 1 → i = l.length)
theorem szStringS_fn (l : List (List UInt8)) (left : Int) (h0 : 0 ≤ left) (h1 : left ≤ 1048576) (hl : mid l.length) (hc : ∀ c ∈ l,c.length ≤ 9223372036854775807) : FnZ Tryz.prog 12 [txsV l,.int .i64 left] (.int .i64 (szR left (l.length + txsSum l))) := by
 unfold mid at hl
 have w : IntKind.wrap .i64 (left - l.length) = left - l.length := w64 (by omega) (by omega)
 refine FZ (rs := [.tmp 4]) false Tryz.func12 ?_
 by_cases h : left - l.length < 0
 ·have e : szR left (l.length + txsSum l) = -1 := if_pos (by omega)
  simp -dsimp [txsV,w,h,e]
 simp -dsimp [txsV,w,h]
 refine twp_loopC (SZX l left 0) (fun s => l.length - natOf (s.tm 5)) (SZX l left 1) ?_ ?_ ?_
 ·exact ⟨0,by simp -dsimp [txsV],by simp -dsimp [txsSum],by simp -dsimp,by omega,by simp [txsSum]; omega,by simp⟩
 ·rintro s ⟨i,t0,t1,t5,hi,hp,hend⟩
  by_cases hlt : i < l.length
  case neg =>
   simp -dsimp [t0,t5,hlt,txsV]
   exact ⟨i,by simp -dsimp [t0,txsV],by simp -dsimp [t1],by simp -dsimp [t5],hi,hp,fun _ => by omega⟩
  have hget : (l.map V.str)[i]? = some (.str l[i]) := by simp [hlt]
  have wi : IntKind.wrap .i64 ((i : Int) + 1) = ((i + 1 : Nat) : Int) := by rw [w64 (by omega) (by omega)]; omega
  have hmu : l.length - (i + 1) < l.length - i := by omega
  have hs := txsSum_take hlt
  have hle := txsSum_le l (i + 1)
  have hci := hc _ (List.getElem_mem hlt)
  have w2 : IntKind.wrap .i64 (left - l.length - txsSum (l.take i) - l[i].length) = left - l.length - txsSum (l.take (i + 1)) := by rw [w64 (by omega) (by omega)]; omega
  by_cases hn : left - l.length - txsSum (l.take (i + 1)) < 0
  ·have e2 : szR left (l.length + txsSum l) = -1 := if_pos (by omega)
   simp -dsimp [t0,t1,t5,hlt,hget,txsV,w2,hn,e2]
  ·simp -dsimp [t0,t1,t5,hlt,hget,txsV,w2,hn,wi,hmu]
   exact ⟨i + 1,by simp -dsimp [t0,txsV],by simp -dsimp,by simp -dsimp,by omega,by omega,by simp⟩
 ·rintro s ⟨i,t0,t1,t5,hi,hp,hend⟩
  have := hend rfl
  subst this
  rw [List.take_length] at t1 hp
  have e : szR left (l.length + txsSum l) = left - l.length - txsSum l := by rw [szR,if_neg (by omega)]; omega
  simp -dsimp [t1,e]
/-! Copies. -/
def ItoX (l : List (List UInt8)) (m : Mem) (n : Nat) (a : Nat) (s : S) : Prop := ∃ i : Nat,s.tm 0 = .v (txsV l) ∧ s.tm 3 = .sv n 0 l.length ∧ s.tm 4 = .v (.int .i64 i) ∧ i ≤ l.length ∧ n < s.n ∧ s.m n = some (.box 9 1 (txsT (l.take i ++ List.replicate (l.length - i) []))) ∧ (∀ j,j < n → s.m j = m j) ∧ (a = 1 → i = l.length)
theorem toStringS_own (l : List (List UInt8)) (hl : l.length ≤ 1048576) (m : Mem) (n : Nat) : FnS Tryz.prog 14 m n [.v (txsV l)] (fun t m' n' => t = .sv n 0 l.length ∧ n < n' ∧ (∀ j,j < n → m' j = m j) ∧ m' n = some (.box 9 1 (txsT l))) := by
 have b1 : (16 : Int) * l.length ≤ 281474976710656 := by omega
 have b2 : (l.length : Int) ≤ 9223372036854775807 := by omega
 have b3 : (0 : Int) ≤ l.length := by omega
 have b4 : (l.length : Int) * 16 ≤ 281474976710656 := by omega
 refine FS (rs := [.tmp 2]) true Tryz.func14 ?_
 simp -dsimp [txsV,b1,b2,b3,b4]
 refine twp_loopC (ItoX l m n 0) (fun s => l.length - natOf (s.tm 4)) (ItoX l m n 1) ?_ ?_ ?_
 ·exact ⟨0,by simp -dsimp [txsV],by simp -dsimp,by simp -dsimp,by omega,by simp -dsimp <;> omega,by simp -dsimp [txsT],fun j j1 => by simp -dsimp [far j1],by simp⟩
 ·rintro s ⟨i,h0,h3,h4,hi,hn,hm,hout,hend⟩
  by_cases hlt : i < l.length
  case neg =>
   simp -dsimp [h0,h4,hlt,txsV]
   exact ⟨i,by simp -dsimp [h0,txsV],by simp -dsimp [h3],by simp -dsimp [h4],hi,by simp -dsimp; omega,by simp -dsimp [hm],fun j j1 => by simp -dsimp [hout j j1],fun _ => by omega⟩
  have hget : (l.map V.str)[i]? = some (.str l[i]) := by simp [hlt]
  have wi : IntKind.wrap .i64 ((i : Int) + 1) = ((i + 1 : Nat) : Int) := by rw [w64 (by omega) (by omega)]; omega
  have hmu : l.length - (i + 1) < l.length - i := by omega
  have hlt' : (i : Int) < l.length := by omega
  have hst : (txsT (l.take i ++ List.replicate (l.length - i) [])).set i (.v (.str l[i])) = txsT (l.take (i + 1) ++ List.replicate (l.length - (i + 1)) []) := by
   rw [txsT_set,List.set_append_right _ _ (by simp; omega),List.length_take,Nat.min_eq_left (by omega),Nat.sub_self,show l.length - i = (l.length - (i + 1)) + 1 by omega,List.replicate_succ,List.set_cons_zero,List.take_succ_eq_append_getElem hlt,List.append_assoc]
   rfl
  have hlen : (txsT (l.take i ++ List.replicate (l.length - i) [])).length = l.length := by simp; omega
  generalize txsT (l.take i ++ List.replicate (l.length - i) []) = c1 at *
  generalize hc2 : txsT (l.take (i + 1) ++ List.replicate (l.length - (i + 1)) []) = c2 at *
  have o1 : i + 1 ≤ l.length := by omega
  simp -dsimp [h0,h3,h4,hlt,hlt',hget,hm,hlen,setAt,hst,wi,hmu,txsV,o1]
  refine ⟨i + 1,by simp -dsimp [h0,txsV],by simp -dsimp [h3],by simp -dsimp,by omega,by simp -dsimp; omega,by simp -dsimp [hc2],fun j j1 => by simp -dsimp [show ¬ j = n by omega,hout j j1],by simp⟩
 ·rintro s ⟨i,h0,h3,h4,hi,hn,hm,hout,hend⟩
  have := hend rfl
  subst this
  rw [List.take_length,Nat.sub_self,List.replicate_zero,List.append_nil] at hm
  simp -dsimp [h3]
  exact ⟨hn,hout,hm⟩
/-! Equal rows. -/
def IeqX (a b : List (List UInt8)) (e : Nat) (s : S) : Prop := ∃ i : Nat,s.tm 0 = .v (txsV a) ∧ s.tm 1 = .v (txsV b) ∧ s.tm 5 = .v (.int .i64 i) ∧ i ≤ a.length ∧ a.take i = b.take i ∧ (e = 1 → i = a.length)
theorem eqStringS_fn (a b : List (List UInt8)) (hl : a.length ≤ 1048576) : FnZ Tryz.prog 16 [txsV a,txsV b] (.bool (decide (a = b))) := by
 refine FZ (rs := [.tmp 4]) false Tryz.func16 ?_
 by_cases hn : a.length = b.length
 case neg =>
  have e : decide (a = b) = false := by simp; rintro rfl; exact hn rfl
  have hn' : ¬ (a.length : Int) = b.length := by omega
  simp -dsimp [hn,hn',e,txsV]
 simp -dsimp [hn,txsV]
 refine twp_loopC (IeqX a b 0) (fun s => a.length - natOf (s.tm 5)) (IeqX a b 1) ?_ ?_ ?_
 ·exact ⟨0,by simp -dsimp [txsV],by simp -dsimp [txsV],by simp -dsimp,by omega,by simp,by simp⟩
 ·rintro s ⟨i,h0,h1,h5,hi,htk,hend⟩
  by_cases hlt : i < a.length
  case neg =>
   have hlt2 : ¬ i < b.length := by omega
   simp -dsimp [h0,h5,hlt,hlt2,hn,txsV]
   exact ⟨i,by simp -dsimp [h0,txsV],by simp -dsimp [h1,txsV],by simp -dsimp [h5],hi,htk,fun _ => by omega⟩
  have hlt2 : i < b.length := by omega
  have hgeta : (a.map V.str)[i]? = some (.str a[i]) := by simp [hlt]
  have hgetb : (b.map V.str)[i]? = some (.str b[i]) := by simp [hlt2]
  have wi : IntKind.wrap .i64 ((i : Int) + 1) = ((i + 1 : Nat) : Int) := by rw [w64 (by omega) (by omega)]; omega
  have hmu : a.length - (i + 1) < a.length - i := by omega
  have hmu2 : b.length - (i + 1) < b.length - i := by omega
  simp -dsimp [h0,h5,hlt,hlt2,hn,txsV]
  refine twd (List.range 9) [] (List.replicate 9 []) (List.replicate 9 []) ?_
  by_cases hq : a[i] = b[i]
  ·have htk2 := take_eq_succ hlt hlt2 htk hq
   simp -dsimp [List.range_succ,h0,h1,h5,hlt,hlt2,hgeta,hgetb,hq,wi,hmu,hmu2,txsV]
   exact ⟨i + 1,by simp -dsimp [h0,txsV],by simp -dsimp [h1,txsV],by simp -dsimp,by omega,htk2,by simp⟩
  ·have e : decide (a = b) = false := by
    simp; rintro rfl; exact hq rfl
   simp -dsimp [List.range_succ,h0,h1,h5,hlt,hlt2,hgeta,hgetb,hq,e,txsV]
 ·rintro s ⟨i,h0,h1,h5,hi,htk,hend⟩
  have := hend rfl
  subst this
  rw [List.take_length,hn,List.take_length] at htk
  have e : decide (a = b) = true := by simpa using htk
  simp -dsimp [e]
/-! Marks. -/
def mkx (k : Int) : Nat → List (List UInt8)
 | 0 => []
 | n + 1 => mkx k n ++ [mt (k + n)]
@[simp] theorem mkx_length (k : Int) (n : Nat) : (mkx k n).length = n := by
 induction n with
 | zero => rfl
 | succ n ih => simp [mkx,ih]
theorem mkx_get (k : Int) : ∀ (n i : Nat) (h : i < n),(mkx k n)[i]? = some (mt (k + i))
 | n + 1,i,h => by
  unfold mkx
  by_cases hi : i < n
  ·rw [List.getElem?_append_left (by simpa using hi)]; exact mkx_get k n i hi
  ·have : i = n := by omega
   subst this
   rw [List.getElem?_append_right (by simp)]; simp
theorem mkx_step (k : Int) (l : List (List UInt8)) (i : Nat) (h : i < l.length) : (mkx k i ++ l.drop i).set i (mt (k + i)) = mkx k (i + 1) ++ l.drop (i + 1) := by
 rw [List.set_append_right _ _ (by simp),mkx_length,Nat.sub_self,drop_cons h,List.set_cons_zero]
 simp [mkx]
def Imx (id : Nat) (l : List (List UInt8)) (k : Int) (m0 : Mem) (n0 : Nat) (e : Nat) (s : S) : Prop := ∃ i : Nat,s.tm 0 = .sv id 0 l.length ∧ s.tm 1 = .v (.int .i64 (k + i)) ∧ s.tm 5 = .v (.int .i64 i) ∧ i ≤ l.length ∧ n0 ≤ s.n ∧ s.m = updM m0 id (some (.box 9 1 (txsT (mkx k i ++ l.drop i)))) ∧ (e = 1 → i = l.length)
theorem markStringS_fn (l : List (List UInt8)) (k : Int) (hl : l.length ≤ 2000000) (hk0 : 0 ≤ k) (hk : k ≤ 100000000) (m : Mem) (n id : Nat) (hm : m id = some (.box 9 1 (txsT l))) :
  FnS Tryz.prog 17 m n [.sv id 0 l.length,.v (.int .i64 k)] (fun t m' n' => t = .v (.int .i64 (k + l.length)) ∧ n ≤ n' ∧ m' = updM m id (some (.box 9 1 (txsT (mkx k l.length))))) := by
 refine FS (rs := [.tmp 4]) false Tryz.func17 ?_
 simp -dsimp
 refine twp_loopC (Imx id l k m n 0) (fun s => l.length - natOf (s.tm 5)) (Imx id l k m n 1) ?_ ?_ ?_
 ·exact ⟨0,by simp -dsimp,by simp -dsimp,by simp -dsimp,by omega,by simp -dsimp,by simp -dsimp [mkx]; exact (updM_self hm).symm,by simp⟩
 ·rintro s ⟨i,t0,t1,t5,hi,hn,hmm,hend⟩
  by_cases hlt : i < l.length
  case neg =>
   simp -dsimp [t0,t5,hlt]
   exact ⟨i,by simp -dsimp [t0],by simp -dsimp [t1],by simp -dsimp [t5],hi,by simp -dsimp [hn],by simp -dsimp [hmm],fun _ => by omega⟩
  have hset : (txsT (mkx k i ++ l.drop i)).set i (.v (.str (mt (k + i)))) = txsT (mkx k (i + 1) ++ l.drop (i + 1)) := by rw [txsT_set,mkx_step k l i hlt]
  have hmi : s.m id = some (.box 9 1 (txsT (mkx k i ++ l.drop i))) := by rw [hmm,updM_same]
  have hlen1 : (txsT (mkx k i ++ l.drop i)).length = l.length := by simp; omega
  have hmt := markText_fn (k + i) (by omega)
  have wi : IntKind.wrap .i64 ((i : Int) + 1) = ((i + 1 : Nat) : Int) := by rw [w64 (by omega) (by omega)]; omega
  have w1 : IntKind.wrap .i64 (k + i + 1) = k + ((i + 1 : Nat) : Int) := by rw [w64 (by omega) (by omega)]; omega
  have hmu : l.length - (i + 1) < l.length - i := by omega
  have hlt' : (i : Int) < (l.length : Int) := by omega
  have o1 : i + 1 ≤ l.length := by omega
  generalize mt (k + i) = tx at *
  generalize txsT (mkx k i ++ l.drop i) = c1 at *
  generalize hc3 : txsT (mkx k (i + 1) ++ l.drop (i + 1)) = c3 at *
  simp -dsimp [t0,t1,t5,hlt,hlt',hmi,hlen1,setAt,w1,wi,hmu,o1]
  refine cl hmt ?_
  simp -dsimp [t0,t1,t5,hlt,hlt',hmi,hlen1,setAt,hset,w1,wi,hmu,o1]
  refine st_out fun s' ht hm' hn' hu' => ?_
  have a0 := ht 0
  have a1 := ht 1
  have a5 := ht 5
  simp -dsimp [t0] at a0 a1 a5 hm' hn' hu'
  clear ht
  refine ⟨i + 1,a0,by rw [a1]; congr 3,a5,by omega,by omega, ?_,by simp⟩
  rw [hm',hmm,hc3]; simp
 ·rintro s ⟨i,t0,t1,t5,hi,hn,hmm,hend⟩
  have hil := hend rfl
  rw [hil,List.drop_length,List.append_nil] at hmm
  rw [hil] at t1
  simp -dsimp [t1]
  exact ⟨hn,hmm⟩
def Ihx (k : Int) (n : Nat) (e : Nat) (s : S) : Prop := ∃ i : Nat,s.tm 0 = .v (txsV (mkx k n)) ∧ s.tm 1 = .v (.int .i64 (k + i)) ∧ s.tm 5 = .v (.int .i64 i) ∧ i ≤ n ∧ (e = 1 → i = n)
theorem heldStringS_fn (n : Nat) (k : Int) (hl : n ≤ 2000000) (hk0 : 0 ≤ k) (hk : k ≤ 100000000) : FnZ Tryz.prog 18 [txsV (mkx k n),.int .i64 k] (.int .i64 (k + n)) := by
 refine FZ (rs := [.tmp 4]) false Tryz.func18 ?_
 simp -dsimp [txsV]
 refine twp_loopC (Ihx k n 0) (fun s => n - natOf (s.tm 5)) (Ihx k n 1) ?_ ?_ ?_
 ·exact ⟨0,by simp -dsimp [txsV],by simp -dsimp,by simp -dsimp,by omega,by simp⟩
 ·rintro s ⟨i,t0,t1,t5,hi,hend⟩
  have hcl : ((mkx k n).map V.str).length = n := by simp
  by_cases hlt : i < n
  case neg =>
   simp -dsimp [t0,t1,t5,hlt,hcl,txsV]
   exact ⟨i,by simp -dsimp [t0,txsV],by simp -dsimp [t1],by simp -dsimp [t5],hi,fun _ => by omega⟩
  have hget : ((mkx k n).map V.str)[i]? = some (.str (mt (k + i))) := by rw [List.getElem?_map,mkx_get k n i hlt]; rfl
  have wi : IntKind.wrap .i64 ((i : Int) + 1) = ((i + 1 : Nat) : Int) := by rw [w64 (by omega) (by omega)]; omega
  have w1 : IntKind.wrap .i64 (k + i + 1) = k + ((i + 1 : Nat) : Int) := by rw [w64 (by omega) (by omega)]; omega
  have hmu : n - (i + 1) < n - i := by omega
  have hmt := markText_fn (k + i) (by omega)
  generalize mt (k + i) = tx at *
  generalize hrow : (mkx k n).map V.str = row at *
  have hlt2 : i < row.length := by omega
  have hget2 : row[i] = .str tx := by rw [List.getElem?_eq_getElem hlt2] at hget; exact Option.some.inj hget
  simp -dsimp [t0,t1,t5,hlt,hlt2,hcl,hget2,w1,wi,hmu,txsV,hrow]
  refine twd (List.range 7) [] (List.replicate 7 []) (List.replicate 7 []) ?_
  simp -dsimp [List.range_succ,t0,t1,t5,hlt,hlt2,hcl,hget2,w1,wi,hmu,txsV,hrow]
  refine cl hmt ?_
  simp -dsimp [List.range_succ,t0,t1,t5,hlt,hlt2,hcl,hget2,w1,wi,hmu,txsV,hrow]
  refine st_out fun s' ht hm' hn' hu' => ?_
  have a0 := ht 0
  have a1 := ht 1
  have a5 := ht 5
  simp -dsimp [t0,txsV,hrow] at a0 a1 a5 hm' hn' hu'
  clear ht
  exact ⟨i + 1,by rw [a0]; simp [txsV,hrow],by rw [a1]; congr 3,a5,by omega,by simp⟩
 ·rintro s ⟨i,t0,t1,t5,hi,hend⟩
  have hil := hend rfl
  rw [hil] at t1
  simp -dsimp [t1]
end TL

namespace TL
open Go Go.Proofs
attribute [local simp] marksV storyV codeV Claim.v Place.v Deed.v Desk.v txsV
theorem sayAll_succ {d : Desk} {l : List (List UInt8)} {i : Nat} (h : i < l.length) : sayAll d (l.take (i + 1)) = ((deskLine (sayAll d (l.take i)).1 l[i]).1,(sayAll d (l.take i)).2 ++ [(deskLine (sayAll d (l.take i)).1 l[i]).2]) := by
 rw [List.take_succ_eq_append_getElem h,sayAll_snoc]
theorem sayAll_len {d : Desk} {l : List (List UInt8)} (h : deskOk d = true) : (sayAll d l).2.length = l.length := (sayAll_ok l d h).2.2
/-- A row of texts of the caller's own, apart from a part of memory. -/
def RowX (m : Mem) (R : T) (l : List (List UInt8)) (lo hi b n : Nat) : Prop := (R = .nil ∧ l = []) ∨ ∃ id,R = .sv id 0 l.length ∧ m id = some (.box 9 1 (txsT l)) ∧ b ≤ id ∧ id < n ∧ (id < lo ∨ hi ≤ id)
theorem RowX.cell {m : Mem} {R : T} {l : List (List UInt8)} {lo hi b n : Nat} (h : RowX m R l lo hi b n) : R.cell = true ∧ R.cells = [R] := by
 rcases h with ⟨rfl,_⟩ | ⟨id,rfl,_⟩ <;> exact ⟨rfl,rfl⟩
theorem RowX.keep {m m' : Mem} {R : T} {l : List (List UInt8)} {lo hi b n n' : Nat} (h : RowX m R l lo hi b n) (hn : n ≤ n') (hk : ∀ id,R = .sv id 0 l.length → m' id = m id) : RowX m' R l lo hi b n' := by
 rcases h with h | ⟨id,h1,h2,h3,h4,h5⟩
 ·exact .inl h
 ·exact .inr ⟨id,h1,by rw [hk id h1,h2],h3,by omega,h5⟩
theorem RowX.bor {m : Mem} {R : T} {l : List (List UInt8)} {lo hi b n : Nat} (h : RowX m R l lo hi b n) (d : Nat) : TL.bor true m (d + 1) R = some (txsV l) := by
 rcases h with ⟨rfl,rfl⟩ | ⟨id,rfl,h2,_⟩
 ·rfl
 ·exact bor_txs d h2
def PostXS (D : Desk) (l : List (List UInt8)) (t : T) (m' : Mem) (n' : Nat) : Prop := ∃ (sn P R : T) (lo hi : Nat),t = .tup [dT D sn P,R] ∧ OwnD m' lo hi sn P D ∧ hi ≤ n' ∧ RowX m' R l lo hi 0 n'
theorem txsT_fl (l : List (List UInt8)) : flT (txsT l) = true := by
 induction l with
 | nil => rfl
 | cons x xs ih => show ((T.v (V.str x)).fl && flT (txsT xs)) = true; rw [ih]; rfl
theorem txsT_up (k : Nat) (l : List (List UInt8)) : upT k (txsT l) = txsT l := by
 induction l with
 | nil => rfl
 | cons x xs ih => show (T.v (V.str x)).up k :: upT k (txsT xs) = _; rw [ih]; rfl
theorem callKS_ {f : Nat} {m : Mem} {n : Nat} {args : List T} {vs : List V} {D : Desk} {l : List (List UInt8)} {k : T → Mem → Nat → Prop} (h : FnS Tryz.prog f (fun _ => none) 0 (vs.map .v) (PostXS D l)) (ha : mapO (bor true m 4) args = some vs)
  (hk : ∀ sn P R lo hi m2 n2,n ≤ n2 → (∀ j,j < n → m2 j = m j) → OwnD m2 lo hi sn P D → n ≤ lo → hi ≤ n2 → RowX m2 R l lo hi n n2 → k (.tup [dT D sn P,R]) m2 n2) : callP Tryz.prog f m n args k := by
 refine callU_ (Q := PostXS D l) h ha ?_ ?_
 ·rintro t m' n' ⟨sn,P,R,lo,hi,rfl,ho,hh,hr⟩
  have hRf : R.fl = true := by rcases hr with ⟨rfl,_⟩ | ⟨id,rfl,_⟩ <;> rfl
  refine ⟨flM m',flM_le _,by have := ho.flat.2; simp [this,hRf],flM_fl _,sn,P,R,lo,hi,rfl,ho.flat.1,hh, ?_⟩
  rcases hr with hr | ⟨id,h1,h2,h3,h4,h5⟩
  ·exact .inl hr
  ·exact .inr ⟨id,h1,flM_of h2 (txsT_fl l),h3,h4,h5⟩
 ·rintro t m' n' ⟨sn,P,R,lo,hi,rfl,ho,hh,hr⟩
  have h2 := ho.up (n := n) (m := m)
  refine hk (sn.up n) (P.up n) (R.up n) (lo + n) (hi + n) _ _ (by omega) (fun j j1 => catM_lo j1) h2 (by omega) (by omega) ?_
  rcases hr with ⟨rfl,h1⟩ | ⟨id,rfl,g2,g3,g4,g5⟩
  ·exact .inl ⟨rfl,h1⟩
  ·exact .inr ⟨id + n,rfl,by rw [catM_hi g2,up_box,txsT_up],by omega,by omega,by omega⟩
theorem postXS_pure {D : Desk} {l : List (List UInt8)} {t : T} {m' : Mem} {n' : Nat} (h : PostXS D l t m' n') : bor true m' 5 t = some (.tup [D.v,txsV l]) := by
 obtain ⟨sn,P,R,lo,hi,rfl,ho,_,hr⟩ := h
 have h1 := ho.bor.1
 have h2 := ho.bor.2
 have h3 := hr.bor 3
 simp [dT,h1,h2,h3]
noncomputable def Idy (d : Desk) (l : List (List UInt8)) (e : Nat) (s : S) : Prop := ∃ (i lo hi id : Nat) (sn P : T),s.tm 2 = .ptr 0 0 ∧ s.tm 4 = .ptr 1 0 ∧ s.tm 6 = .sv id 0 i ∧ s.tm 23 = .v (.sl (l.map V.str)) ∧ s.tm 24 = .v (.int .i64 l.length) ∧ s.tm 25 = .v (.int .i64 i) ∧ i ≤ l.length ∧ 2 ≤ s.n ∧
 s.m 0 = some (.box 34 3 [.v (.int .i64 (sayAll d (l.take i)).1.now.people),sn,P]) ∧ s.m 1 = some (.box 34 3 [.v (.int .i64 0),.nil,.nil]) ∧ OwnD s.m lo hi sn P (sayAll d (l.take i)).1 ∧ 2 ≤ lo ∧ hi ≤ s.n ∧
 s.m id = some (.box 9 1 (txsT (sayAll d (l.take i)).2)) ∧ 2 ≤ id ∧ id < s.n ∧ (id < lo ∨ hi ≤ id) ∧ s.mu = true ∧ (e = 1 → i = l.length)
theorem deskSay_k (d : Desk) (l : List (List UInt8)) (hd : d.small) (hw : ∀ a ∈ l,a.length ≤ 1000000000) : FnS Tryz.prog 15 (fun _ => none) 0 [.v d.v,.v (txsV l)] (PostXS (deskSay d l).1 (deskSay d l).2) := by
 have hok := deskOk_fn d (by have := hd.2.1; omega) (by have := hd.1.1; omega) (fun p hp => by have := (hd.2.2 p hp).1; omega)
 have hk := ft (deskOk d)
 rcases hk with hk | hk
 ·have e : deskSay d l = (noDeskV,[]) := if_neg (by simp [hk])
  rw [e]
  rw [hk] at hok
  refine FS (rs := [.cell 4 34,.tmp 5]) true Tryz.func15 ?_
  simp -dsimp [txsV]
  refine cl hok ?_
  simp -dsimp [noDeskV]
  exact ⟨.nil,.nil,.nil,0,0,rfl,OwnD.none (Nat.zero_le _),Nat.zero_le _,.inl ⟨rfl,rfl⟩⟩
 rw [hk] at hok
 by_cases hl : l.length ≤ 40
 case neg =>
  have e : deskSay d l = (noDeskV,[]) := if_neg (by simp [hl])
  have hl' : (40 : Int) < l.length := by omega
  have hl'' : 40 < l.length := by omega
  rw [e]
  refine FS (rs := [.cell 4 34,.tmp 5]) true Tryz.func15 ?_
  simp -dsimp [txsV]
  refine cl hok ?_
  simp -dsimp [noDeskV,hl',hl'']
  exact ⟨.nil,.nil,.nil,0,0,rfl,OwnD.none (Nat.zero_le _),Nat.zero_le _,.inl ⟨rfl,rfl⟩⟩
 have e : deskSay d l = sayAll d l := if_pos ⟨hk,hl⟩
 have hl' : ¬ (40 : Int) < l.length := by omega
 have hl'' : ¬ 40 < l.length := by omega
 rw [e]
 have hcv := fun m n => copyDesk_k d hd hk m n
 refine FS (rs := [.cell 4 34,.tmp 5]) true Tryz.func15 ?_
 simp -dsimp [txsV]
 refine cl hok ?_
 simp -dsimp [hl',hl'',nes]
 refine callL_ (vs := [d.v]) (hcv _ _) (by simp -dsimp) ?_
 rintro t m1 n1 ⟨hn1,hout,sn,P,rfl,hown⟩
 have k0 := hout 0 (by omega)
 have k1 := hout 1 (by omega)
 have k2 := hout 2 (by omega)
 simp -dsimp [nes] at k0 k1 k2
 have f0 := far (show 0 < n1 by omega)
 have f1 := far (show 1 < n1 by omega)
 have hfc := hown.facts
 have hc := hfc.1
 have hcs := hfc.2.1
 have hcP := hfc.2.2.1
 have hcsP := hfc.2.2.2
 clear hfc
 simp -dsimp [dT,f0,f1,k0,k1,hc,hcs,hcP,hcsP,nes]
 refine twp_loopC (Idy d l 0) (fun s => l.length - natOf (s.tm 25)) (Idy d l 1) ?_ ?_ ?_
 ·exact ⟨0,3,n1,2,sn,P,by simp -dsimp,by simp -dsimp,by simp -dsimp,by simp -dsimp,by simp -dsimp,by simp -dsimp,by omega,(by simp -dsimp <;> omega),by simp -dsimp [sayAll],by simp -dsimp [k1],hown.keep (Nat.le_refl _) (Nat.le_refl _) (fun j j1 j2 => by simp -dsimp [show ¬ j = 0 by omega]),by omega,(by simp -dsimp <;> omega),by simp -dsimp [k2,sayAll,txsT],by omega,(by simp -dsimp <;> omega),by omega,by simp -dsimp,by simp⟩
 ·rintro s ⟨i,lo,hi',id,sn,P,t2,t4,t6,t23,t24,t25,hi,hn,m0,m1,hown,hlo,hhi,mid,hid2,hidn,hidd,hmu,hend⟩
  by_cases hlt : i < l.length
  case neg =>
   simp -dsimp [t24,t25,hlt]
   exact ⟨i,lo,hi',id,sn,P,by simp -dsimp [t2],by simp -dsimp [t4],by simp -dsimp [t6],by simp -dsimp [t23],by simp -dsimp [t24],by simp -dsimp [t25],hi,by simp -dsimp; omega,by simp -dsimp [m0],by simp -dsimp [m1],hown,hlo,by simp -dsimp; omega,by simp -dsimp [mid],hid2,by simp -dsimp; omega,hidd,by simp -dsimp [hmu],fun _ => by omega⟩
  have hget : (l.map V.str)[i]? = some (.str l[i]) := by simp [hlt]
  have wi : IntKind.wrap .i64 ((i : Int) + 1) = ((i + 1 : Nat) : Int) := by rw [w64 (by omega) (by omega)]; omega
  have hmu1 : l.length - (i + 1) < l.length - i := by omega
  have f0 := far (show 0 < s.n by omega)
  have f1 := far (show 1 < s.n by omega)
  have fid := far hidn
  have hD := (sayAll_ok (l.take i) d hk).1
  have hcall := deskLine_k (sayAll d (l.take i)).1 l[i] (desk_fine hD).1 (hw _ (List.getElem_mem _))
  have hs := sayAll_succ (d := d) hlt
  have hlen : (sayAll d (l.take i)).2.length = i := by rw [sayAll_len hk]; simp; omega
  clear hD
  generalize deskLine (sayAll d (l.take i)).1 l[i] = E at *
  generalize sayAll d (l.take i) = R at *
  obtain ⟨E0,A⟩ := E
  obtain ⟨⟨⟨D1,D2⟩,D3⟩,O⟩ := R
  generalize hx : l[i] = a at *
  simp only at m0 hcall hs hlen mid
  have hbo := fun x => (hown.keep (m' := updM s.m s.n x) (Nat.le_refl _) (Nat.le_refl _) fun j j1 j2 => by simp [show ¬ j = s.n by omega]).bor
  have hbo0 := hown.bor
  have b1 := hbo0.1
  have b2 := hbo0.2
  clear hbo hbo0
  simp only at b1 b2
  have hol : (txsT O).length = i := by rw [txsT_length,hlen]
  have hsn : txsT (O ++ [A]) = txsT O ++ [.v (.str A)] := by rw [txsT_append]; rfl
  have htk : (txsT O).take i = txsT O := List.take_of_length_le (by omega)
  have bb : (i + 1) * 16 ≤ 140737488355328 := by omega
  obtain ⟨c1,hc1⟩ : ∃ c1,txsT O = c1 := ⟨_,rfl⟩
  rw [hc1] at mid hol hsn htk
  simp -dsimp [t2,t23,t24,t25,hlt,hget,m0,f0,f1,nes,hx]
  refine callK_ (vs := [(⟨⟨D1,D2⟩,D3⟩ : Desk).v,.str a]) (D := E0) (x := .str A) rfl hcall (by simp -dsimp [b1,b2]) ?_
  intro sn2 P2 m2 n2 hn2 hout2 hown2
  have k0 := hout2 0 (by omega)
  have k1 := hout2 1 (by omega)
  have kid := hout2 id (by omega)
  rw [m0] at k0
  rw [m1] at k1
  rw [mid] at kid
  have hfc2 := hown2.facts
  have hc2 := hfc2.1
  have hcs2 := hfc2.2.1
  have hcP2 := hfc2.2.2.1
  have hcsP2 := hfc2.2.2.2
  clear hfc2
  have g0 := far (show 0 < n2 by omega)
  have g1 := far (show 1 < n2 by omega)
  have gid := far (show id < n2 by omega)
  have id0 : ¬ id = 0 := by omega
  have id0' : ¬ 0 = id := by omega
  have id1 : ¬ id = 1 := by omega
  have id1' : ¬ 1 = id := by omega
  simp -dsimp [dT,t2,t6,t25,k0,k1,kid,f0,f1,g0,g1,gid,id0,id0',id1,id1',hol,htk,bb,hmu,nes,nes8,wi,hmu1,hc2,hcs2,hcP2,hcsP2]
  refine st_out (I := Idy d l 0) fun s' ht hm' hn' hu' => ?_
  have a2 := ht 2
  have a4 := ht 4
  have a6 := ht 6
  have a23 := ht 23
  have a24 := ht 24
  have a25 := ht 25
  simp -dsimp [t2,t4,t23,t24] at a2 a4 a6 a23 a24 a25 hm' hn' hu'
  clear ht
  refine ⟨i + 1,s.n,n2,_,sn2,P2,a2,a4,a6,a23,a24,a25,by omega,by omega, ?_, ?_, ?_,by omega,by omega, ?_, ?_, ?_, ?_,by rw [hu',hmu],by simp⟩
  ·rw [hs,hm']; simp [g0,id0,id0',nes]
  ·rw [hm']; simp [k1,g1,id1,id1',nes]
  ·rw [hs,hm']
   exact hown2.keep (Nat.le_refl _) (Nat.le_refl _) fun j j1 j2 => by simp [show ¬ j = 0 by omega,show ¬ j = id by omega,far j2]
  ·rw [hs,hm',hsn]; simp [nes,gid]
  ·omega
  ·omega
  ·omega
 ·rintro s ⟨i,lo,hi',id,sn,P,t2,t4,t6,t23,t24,t25,hi,hn,m0,m1,hown,hlo,hhi,mid,hid2,hidn,hidd,hmu,hend⟩
  have := hend rfl
  subst this
  rw [List.take_length] at m0 hown mid
  have hlen := sayAll_len (l := l) hk
  have hfc := hown.facts
  have hc := hfc.1
  have hcs := hfc.2.1
  have hcP := hfc.2.2.1
  have hcsP := hfc.2.2.2
  clear hfc
  generalize sayAll d l = R at *
  obtain ⟨⟨⟨D1,D2⟩,D3⟩,O⟩ := R
  simp -dsimp [t2,t4,t6,m0,m1,hc,hcs,hcP,hcsP]
  refine ⟨sn,P,.sv id 0 O.length,lo,hi', ?_,hown.keep (Nat.le_refl _) (Nat.le_refl _) fun j j1 j2 => by simp [show ¬ j = 1 by omega],by omega,.inr ⟨id,rfl, ?_,Nat.zero_le _,by omega,hidd⟩⟩
  ·simp only at hlen; rw [hlen]; rfl
  ·simp [show ¬ id = 1 by omega,mid]
theorem deskSayP_fn (d : Desk) (l : List (List UInt8)) (hd : d.small) (hw : ∀ a ∈ l,a.length ≤ 1000000000) : FnZ Tryz.prog 15 [d.v,txsV l] (.tup [(deskSay d l).1.v,txsV (deskSay d l).2]) :=
 FnZ_own (vs := [d.v,txsV l]) (deskSay_k d l hd hw) 5 fun _ _ _ h => postXS_pure h
noncomputable def Isy (d : Desk) (l : List (List UInt8)) (q : Nat) (e : Nat) (s : S) : Prop := ∃ i id : Nat,s.tm 1 = .v (.sl (l.map V.str)) ∧ s.tm 4 = .ptr 1 0 ∧ s.tm 7 = .ptr q 0 ∧ s.tm 6 = .loc id ∧ s.tm 8 = .v (.int .i64 i) ∧ i ≤ l.length ∧ q < s.n ∧ id < s.n ∧ ¬ id = q ∧ 2 ≤ id ∧ s.mu = false ∧
 s.m id = some (.arr 9 ((sayAll d (l.take i)).2.map V.str)) ∧
 s.m q = some (.box 34 3 [.v (.int .i64 (sayAll d (l.take i)).1.now.people),.v (storyV (sayAll d (l.take i)).1.now.story),.v (.sl ((sayAll d (l.take i)).1.past.map Place.v))]) ∧ s.m 1 = some (.box 34 3 [.v (.int .i64 0),.nil,.nil]) ∧ (e = 1 → i = l.length)
theorem deskSayS_fn (d : Desk) (l : List (List UInt8)) (hd : d.small) (hf : d.fit) (hw : ∀ a ∈ l,a.length ≤ 1000000000) : FnZ Tryz.prog 13 [d.v,txsV l] (.tup [(deskSay d l).1.v,txsV (deskSay d l).2]) := by
 have hok := deskOkS_fn d hd hf
 have hk := ft (deskOk d)
 rcases hk with hk | hk
 ·have e : deskSay d l = (noDeskV,[]) := if_neg (by simp [hk])
  rw [e]
  rw [hk] at hok
  refine FZ (rs := [.cell 4 34,.tmp 5]) false Tryz.func13 ?_
  simp -dsimp [txsV,nes]
  refine cl hok ?_
  simp -dsimp [noDeskV,nes]
 rw [hk] at hok
 by_cases hl : l.length ≤ 40
 case neg =>
  have e : deskSay d l = (noDeskV,[]) := if_neg (by simp [hl])
  have hl' : (40 : Int) < l.length := by omega
  have hl'' : 40 < l.length := by omega
  rw [e]
  refine FZ (rs := [.cell 4 34,.tmp 5]) false Tryz.func13 ?_
  simp -dsimp [txsV,nes]
  refine cl hok ?_
  simp -dsimp [noDeskV,hl',hl'',nes]
 have e : deskSay d l = sayAll d l := if_pos ⟨hk,hl⟩
 have hl' : ¬ (40 : Int) < l.length := by omega
 have hl'' : ¬ 40 < l.length := by omega
 rw [e]
 have hcv := fun m n => l15Copy_v d hd m n
 refine FZ (rs := [.cell 4 34,.tmp 5]) false Tryz.func13 ?_
 simp -dsimp [txsV,nes]
 refine cl hok ?_
 simp -dsimp [hl',hl'',nes]
 refine callL_ (vs := [d.v]) (hcv _ _) (by simp -dsimp) ?_
 rintro t m1 q ⟨hn1,⟨x,rfl,rfl⟩,rfl⟩
 have q1 : ¬ q = 1 := by omega
 have f0 := far (show 0 < q by omega)
 have f1 := far (show 1 < q by omega)
 have f2 := far (show 2 < q by omega)
 simp -dsimp [f0,f1,f2,nes]
 refine twp_loopC (Isy d l q 0) (fun s => l.length - natOf (s.tm 8)) (Isy d l q 1) ?_ ?_ ?_
 ·exact ⟨0,2,by simp -dsimp,by simp -dsimp,by simp -dsimp,by simp -dsimp,by simp -dsimp,by omega,(by simp -dsimp <;> omega),(by simp -dsimp <;> omega),by omega,by omega,by simp -dsimp,by simp -dsimp [sayAll,f2],by simp -dsimp [sayAll],by simp -dsimp [f1,nes],by simp⟩
 ·rintro s ⟨i,id,t1,t4,t7,t6,t8,hi,hn,hidn,hidq,hid2,hmu,mid,m0,m1,hend⟩
  by_cases hlt : i < l.length
  case neg =>
   simp -dsimp [t1,t8,hlt]
   exact ⟨i,id,by simp -dsimp [t1],by simp -dsimp [t4],by simp -dsimp [t7],by simp -dsimp [t6],by simp -dsimp [t8],hi,by simp -dsimp; omega,by simp -dsimp; omega,hidq,hid2,by simp -dsimp [hmu],by simp -dsimp [mid],by simp -dsimp [m0],by simp -dsimp [m1],fun _ => by omega⟩
  have hget : (l.map V.str)[i]? = some (.str l[i]) := by simp [hlt]
  have wi : IntKind.wrap .i64 ((i : Int) + 1) = ((i + 1 : Nat) : Int) := by rw [w64 (by omega) (by omega)]; omega
  have hmu1 : l.length - (i + 1) < l.length - i := by omega
  have f0 := far (show q < s.n by omega)
  have f1 := far (show 1 < s.n by omega)
  have fid := far hidn
  have hD := (sayAll_ok (l.take i) d hk).1
  have hcall := deskLineS_fn (sayAll d (l.take i)).1 l[i] (desk_fine hD).1 (desk_fine hD).2.1 (hw _ (List.getElem_mem _))
  have hs := sayAll_succ (d := d) hlt
  have hlen : (sayAll d (l.take i)).2.length = i := by rw [sayAll_len hk]; simp; omega
  clear hD
  generalize deskLine (sayAll d (l.take i)).1 l[i] = E at *
  generalize sayAll d (l.take i) = R at *
  obtain ⟨⟨⟨E1,E2⟩,E3⟩,A⟩ := E
  obtain ⟨⟨⟨D1,D2⟩,D3⟩,O⟩ := R
  generalize hx : l[i] = a at *
  simp only at m0 hcall hs hlen mid
  have hol : (O.map V.str).length = i := by rw [List.length_map,hlen]
  have hsn : (O ++ [A]).map V.str = O.map V.str ++ [.str A] := by simp
  have bb : (i + 1) * 16 ≤ 140737488355328 := by omega
  have q1 : ¬ 1 = id := by omega
  have q2 : ¬ id = 1 := by omega
  have q3 : ¬ q = id := fun h => hidq h.symm
  obtain ⟨c1,hc1⟩ : ∃ c1,O.map V.str = c1 := ⟨_,rfl⟩
  rw [hc1] at mid hol hsn
  have bb2 : (c1.length + 1) * 16 ≤ 140737488355328 := by omega
  have fin : ∀ (s' : S) (id' : Nat),s'.tm 1 = .v (.sl (l.map V.str)) → s'.tm 4 = .ptr 1 0 → s'.tm 7 = .ptr q 0 → s'.tm 6 = .loc id' → s'.tm 8 = .v (.int .i64 (i + 1 : Nat)) → q < s'.n → id' < s'.n → ¬ id' = q → 2 ≤ id' → s'.mu = false → s'.m id' = some (.arr 9 (c1 ++ [.str A])) → s'.m q = some (.box 34 3 [.v (.int .i64 E1),.v (.sl (E2.map Claim.v)),.v (.sl (E3.map Place.v))]) → s'.m 1 = some (.box 34 3 [.v (.int .i64 0),.nil,.nil]) → Isy d l q 0 s' :=
   fun s' id' a1 a4 a7 a6 a8 an aid aq a2 amu am aq0 am1 => ⟨i + 1,id',a1,a4,a7,a6,a8,by omega,an,aid,aq,a2,amu,by rw [hs,hsn]; exact am,by rw [hs]; exact aq0,am1,by simp⟩
  have hq1' : ¬ 1 = q := by
   intro h; subst h; rw [m0] at m1; simp at m1
  have hq1 : ¬ q = 1 := fun h => hq1' h.symm
  simp -dsimp [t1,t8,hlt]
  refine twp_drawT (.run [0,1,2,3,4] (.alt (.run [5,6,7,8,9,10,11] .done) (.run [9,5,6,7,8,10,11] .done))) [q] (List.replicate 12 [0]) (List.replicate 12 [0]) (by kernel_rfl) (by kernel_rfl) (by kernel_rfl) (by kernel_rfl) ?_
  simp -dsimp [t1,t7,t8,hlt,hget,m0,f0,f1,nes,hx]
  refine ordT_both ?_ ?_
  ·simp -dsimp [t1,t7,t8,hlt,hget,m0,f0,f1,nes,hx]
   refine cl hcall ?_
   simp -dsimp [t1,t6,t7,t8,m0,mid,f0,f1,fid,hidq,q1,q2,q3,hol,bb,bb2,hmu,nes,nes8,wi,hmu1]
   refine st_out (I := Isy d l q 0) fun s' ht hm' hn' hu' => ?_
   have a1 := ht 1
   have a4 := ht 4
   have a6 := ht 6
   have a7 := ht 7
   have a8 := ht 8
   simp -dsimp [t1,t4,t7] at a1 a4 a6 a7 a8 hm' hn' hu'
   clear ht
   exact fin s' _ a1 a4 a7 a6 a8 (by omega) (by omega) (by omega) (by omega) (by rw [hu',hmu]) (by rw [hm']; simp [nes,nes8]) (by rw [hm']; simp [f0,q3,nes]) (by rw [hm']; simp [f1,q1,hq1',m1])
  ·simp -dsimp [t1,t7,t8,hlt,hget,m0,f0,f1,nes,hx]
   refine cl hcall ?_
   simp -dsimp [t1,t6,t7,t8,m0,mid,f0,f1,fid,hidq,q1,q2,q3,hol,bb,bb2,hmu,nes,nes8,wi,hmu1]
   refine st_out (I := Isy d l q 0) fun s' ht hm' hn' hu' => ?_
   have a1 := ht 1
   have a4 := ht 4
   have a6 := ht 6
   have a7 := ht 7
   have a8 := ht 8
   simp -dsimp [t1,t4,t7] at a1 a4 a6 a7 a8 hm' hn' hu'
   clear ht
   exact fin s' _ a1 a4 a7 a6 a8 (by omega) (by omega) (by omega) (by omega) (by rw [hu',hmu]) (by rw [hm']; simp [nes,nes8]) (by rw [hm']; simp [f0,q3,nes]) (by rw [hm']; simp [f1,q1,hq1',m1])
 ·rintro s ⟨i,id,t1,t4,t7,t6,t8,hi,hn,hidn,hidq,hid2,hmu,mid,m0,m1,hend⟩
  have := hend rfl
  subst this
  rw [List.take_length] at m0 mid
  generalize sayAll d l = R at *
  obtain ⟨⟨⟨D1,D2⟩,D3⟩,O⟩ := R
  have q1 : ¬ 1 = id := by omega
  have q2 : ¬ id = 1 := by omega
  simp -dsimp [t4,t6,t7,m0,m1,mid,q1,q2,txsV]
end TL

namespace TL
open Go Go.Proofs
attribute [local simp] marksV storyV codeV Claim.v Place.v Deed.v Desk.v
theorem toStringS_fn (l : List (List UInt8)) (hl : l.length ≤ 1048576) : FnZ Tryz.prog 14 [txsV l] (txsV l) :=
 FnZ_own (vs := [txsV l]) (toStringS_own l hl (fun _ => none) 0) 5 fun t m' n' ⟨h1,_,_,h4⟩ => by rw [h1]; exact bor_txs 4 h4
theorem markNil_fn (k : Int) (m : Mem) (n : Nat) : FnS Tryz.prog 17 m n [.nil,.v (.int .i64 k)] (fun t m' n' => t = .v (.int .i64 k) ∧ n ≤ n' ∧ m' = m) := by
 refine FS (rs := [.tmp 4]) false Tryz.func17 ?_
 simp -dsimp
 refine twp_loopC (fun s => s.tm 0 = .nil ∧ s.tm 1 = .v (.int .i64 k) ∧ s.tm 5 = .v (.int .i64 0) ∧ s.m = m ∧ n ≤ s.n) (fun s => 0) (fun s => s.tm 1 = .v (.int .i64 k) ∧ s.m = m ∧ n ≤ s.n) ?_ ?_ ?_
 ·exact ⟨by simp -dsimp,by simp -dsimp,by simp -dsimp,by simp -dsimp,by simp -dsimp⟩
 ·rintro s ⟨t0,t1,t5,hm,hn⟩
  simp -dsimp [t0,t5]
  exact ⟨by simp -dsimp [t1],by simp -dsimp [hm],by simp -dsimp [hn]⟩
 ·rintro s ⟨t1,hm,hn⟩
  simp -dsimp [t1]
  exact ⟨hn,hm⟩
theorem markX_fn (R : T) (l : List (List UInt8)) (k : Int) (hl : l.length ≤ 2000000) (hk0 : 0 ≤ k) (hk : k ≤ 100000000) (m : Mem) (n lo hi b n0 : Nat) (h : RowX m R l lo hi b n0) :
  FnS Tryz.prog 17 m n [R,.v (.int .i64 k)] (fun t m' n' => t = .v (.int .i64 (k + l.length)) ∧ n ≤ n' ∧ RowX m' R (mkx k l.length) lo hi b n0 ∧ (∀ j,j < b → m' j = m j) ∧ (∀ j,lo ≤ j → j < hi → m' j = m j) ∧ ∀ j,n0 ≤ j → m' j = m j) := by
 rcases h with ⟨rfl,rfl⟩ | ⟨id,rfl,h2,h3,h4,h5⟩
 ·refine (markNil_fn k m n).weak ?_
  rintro t m' n' ⟨rfl,hn,rfl⟩
  exact ⟨by simp,hn,.inl ⟨rfl,rfl⟩,fun _ _ => rfl,fun _ _ _ => rfl,fun _ _ => rfl⟩
 ·refine (markStringS_fn l k hl hk0 hk m n id h2).weak ?_
  rintro t m' n' ⟨rfl,hn,rfl⟩
  refine ⟨rfl,hn,.inr ⟨id,by rw [mkx_length],by simp,h3,h4,h5⟩,fun j j1 => ?_,fun j j1 j2 => ?_,fun j j1 => ?_⟩
  ·simp [show ¬ j = id by omega]
  ·simp [show ¬ j = id by omega]
  ·simp [show ¬ j = id by omega]
theorem RowX.keepL {m m' : Mem} {R : T} {l : List (List UInt8)} {lo hi b n n' : Nat} (h : RowX m R l lo hi b n) (hn : n ≤ n') (hk : ∀ j,b ≤ j → j < n → ¬ (lo ≤ j ∧ j < hi) → m' j = m j) : RowX m' R l lo hi b n' := by
 rcases h with h | ⟨id,h1,h2,h3,h4,h5⟩
 ·exact .inl h
 ·exact .inr ⟨id,h1,by rw [hk id h3 h4 (by omega),h2],h3,by omega,h5⟩
theorem deskSay_neat {d : Desk} {l : List (List UInt8)} : (deskSay d l).1.neat := by
 unfold deskSay; split
 ·rename_i h; exact desk_neat (sayAll_ok l d h.1).1
 ·exact none_neat
theorem deskSay_few {d : Desk} {l : List (List UInt8)} : (deskSay d l).2.length ≤ 40 := by
 unfold deskSay; split
 ·rename_i h; rw [sayAll_len h.1]; exact h.2
 ·simp
theorem exactDeskSay_row (d : Desk) (h0 : d.fit ∧ d.mid) (l : List (List UInt8)) (hl0 : l.length ≤ maxLen ∧ ∀ a ∈ l,a.length ≤ maxLen) : FnZ Tryz.prog 4 [d.v,txsV l] (.bool true) := by
 have hp := h0.2
 have hf := h0.1
 have hsz := szDesk_fn d 1048576 (by omega) (by omega) hp
 by_cases h : (1048576 : Int) - d.bulk < 0
 ·have e : szR 1048576 d.bulk = -1 := if_pos h
  rw [e] at hsz
  refine FZ (rs := [.tmp 4]) false Tryz.func4 ?_
  simp -dsimp
  refine cl hsz ?_
  simp -dsimp
 have e : szR 1048576 d.bulk = 1048576 - d.bulk := if_neg h
 rw [e] at hsz
 have hsd := szStringS_fn l (1048576 - d.bulk) (by omega) (by omega) (by have := hl0.1; simpa [mid,maxLen] using this) (fun c hc => by have := hl0.2 c hc; simpa [maxLen] using this)
 by_cases h2 : (1048576 : Int) - d.bulk - ((l.length + txsSum l : Nat) : Int) < 0
 ·have e : szR (1048576 - d.bulk) (l.length + txsSum l) = -1 := if_pos h2
  rw [e] at hsd
  refine FZ (rs := [.tmp 4]) false Tryz.func4 ?_
  simp -dsimp
  refine cl hsz ?_
  simp -dsimp [h]
  refine cl hsd ?_
  simp -dsimp
 have e : szR (1048576 - d.bulk) (l.length + txsSum l) = 1048576 - d.bulk - ((l.length + txsSum l : Nat) : Int) := if_neg h2
 rw [e] at hsd
 have h2' : ¬ (1048576 : Int) - d.bulk - ((l.length : Int) + (txsSum l : Int)) < 0 := by omega
 have hll : l.length ≤ 1048576 := by omega
 have hw : ∀ a ∈ l,a.length ≤ 1000000000 := fun a ha => by have := txsSum_mem ha; omega
 have hs := Desk.small_of h
 have hb : d.bulk ≤ 1048576 := by omega
 have h1 := toDesk_fn d hs
 have h3 := toStringS_fn l hll
 have h4 := deskSayS_fn d l hs hf hw
 have h5 := deskSayP_fn d l hs hw
 have hh := deskSay_k d l hs hw
 have hn := deskSay_neat (d := d) (l := l)
 have hfew := deskSay_few (d := d) (l := l)
 have ns := hn.1
 have nl0 := hn.2.1
 have nl := hn.2.2.1
 have nb := hn.2.2.2
 have hto := fun m n => toDesk_own d hs m n
 have hto2 := fun m n => toStringS_own l hll m n
 have h6 := eqDesk_fn (deskSay d l).1 (deskSay d l).1 ns
 have h6b := eqStringS_fn (deskSay d l).2 (deskSay d l).2 (by omega)
 have h7 := eqDesk_fn d d hs
 have h7b := eqStringS_fn l l hll
 have q1 := mkDn_sum d 1
 have q2 := mkDn_sum (deskSay d l).1 1
 have hl1 : ∀ c ∈ d.now.story,c.says.length ≤ 1000000000 := fun c hc => by have := hs.1.2 c hc; unfold Claim.small at this; omega
 have hl : ∀ p ∈ d.past,∀ c ∈ p.story,c.says.length ≤ 1000000000 := fun p hp c hc => by have := (hs.2.2 p hp).2 c hc; unfold Claim.small at this; omega
 have h8 := fun m lo hi n hlo sn P h => markDesk_deep d 1 (by omega) (by omega) hl1 hl m lo hi n hlo sn P h
 have h8b := fun m n id hm => markStringS_fn l (mkDn 1 d) (by omega) (by omega) (by omega) m n id hm
 have h9 := fun m lo hi n hlo sn P h => markDesk_deep (deskSay d l).1 1 (by omega) (by omega) (fun c hc => by have := nl0 c hc; omega) (fun p hp c hc => by have := nl p hp c hc; omega) m lo hi n hlo sn P h
 have h9b := fun R m n lo hi b n0 h => markX_fn R (deskSay d l).2 (mkDn 1 (deskSay d l).1) (by omega) (by omega) (by omega) m n lo hi b n0 h
 have h10 := heldDesk_deep (deskSay d l).1 1 (by omega) (by omega) (fun c hc => by have := nl0 c hc; omega) (fun p hp c hc => by have := nl p hp c hc; omega)
 have h10b := heldStringS_fn (deskSay d l).2.length (mkDn 1 (deskSay d l).1) (by omega) (by omega) (by omega)
 have p0 : ¬ mkDn 1 d + (l.length : Int) < 0 := by omega
 have p1 : ¬ mkDn 1 (deskSay d l).1 < 0 := by omega
 have p2 : ¬ mkDn 1 (deskSay d l).1 + ((deskSay d l).2.length : Int) < 0 := by omega
 clear q1 q2 e nl0 nl nb hl1 hl ns hn
 generalize deskSay d l = E at *
 obtain ⟨⟨⟨E1,E2⟩,E3⟩,A⟩ := E
 obtain ⟨⟨d1,d2⟩,d3⟩ := d
 generalize hY : mkDn 1 (⟨⟨d1,d2⟩,d3⟩ : Desk) = Y at *
 simp only at h4 h5 hh h6b h9b h10b p2
 obtain ⟨VA,hVA⟩ : ∃ VA,A.map V.str = VA := ⟨_,rfl⟩
 have eA : txsV A = .sl VA := by rw [← hVA]; rfl
 obtain ⟨VL,hVL⟩ : ∃ VL,l.map V.str = VL := ⟨_,rfl⟩
 have eL : txsV l = .sl VL := by rw [← hVL]; rfl
 rw [eA] at h4 h5 h6b
 rw [eL] at h3 h4 h5 h7b hsd ⊢
 simp only [eL] at hto2
 refine FZ (rs := [.tmp 4]) false Tryz.func4 ?_
 simp -dsimp
 refine cl hsz ?_
 simp -dsimp [h,nes]
 refine cl hsd ?_
 simp -dsimp [h2,h2',nes]
 refine cl h1 ?_
 simp -dsimp [nes]
 refine cl h3 ?_
 simp -dsimp [nes]
 refine cl h4 ?_
 simp -dsimp [nes]
 refine callL_ (vs := [(⟨⟨d1,d2⟩,d3⟩ : Desk).v]) (hto _ _) (by simp -dsimp) ?_
 rintro t m4 n1 ⟨hn1,hout1,sn,P,rfl,hown⟩
 have hfc := hown.facts
 have hc := hfc.1
 have hcs := hfc.2.1
 have hcP := hfc.2.2.1
 have hcsP := hfc.2.2.2
 clear hfc
 have k0 := hout1 0 (by omega)
 have k1 := hout1 1 (by omega)
 simp -dsimp [nes] at k0 k1
 have f0 := far (show 0 < n1 by omega)
 have f1 := far (show 1 < n1 by omega)
 simp -dsimp [dT,nes,k0,k1,hc,hcs,hcP,hcsP,f0,f1]
 refine callS_ (hto2 _ _) ?_
 rintro t m5 n2 ⟨rfl,hn2,hout2,hdd⟩
 have l0 := hout2 0 (by omega)
 have l1 := hout2 1 (by omega)
 have lx := hout2 n1 (by omega)
 simp -dsimp [nes,k0,k1,f0,f1] at l0 l1 lx
 have g0 := far (show 0 < n2 by omega)
 have g1 := far (show 1 < n2 by omega)
 have gx := far (show n1 < n2 by omega)
 have gd := far (show n1 + 1 + 1 < n2 by omega)
 have ho := hown.keep (m' := m5) (Nat.le_refl _) (Nat.le_refl _) fun j j1 j2 => by rw [hout2 j (by omega)]; simp -dsimp [far j2,show ¬ j = n1 by omega]
 have hbd := bor_txs 3 hdd
 simp -dsimp [dT,nes,l0,l1,lx,hc,hcs,hcP,hcsP,f0,f1,g0,g1,gx,gd]
 refine callKS_ (vs := [(⟨⟨d1,d2⟩,d3⟩ : Desk).v,txsV l]) (D := ⟨⟨E1,E2⟩,E3⟩) (l := A) hh (OwnD.lend2 (d := ⟨⟨d1,d2⟩,d3⟩) ho hbd) ?_
 intro sn2 P2 R lo hi m6 n3 hn3 hout3 ho2 hlo hhi hrx
 have c0 := hout3 0 (by omega)
 have c1 := hout3 1 (by omega)
 have cx := hout3 n1 (by omega)
 have cd := hout3 (n1 + 1 + 1) (by omega)
 rw [l0] at c0
 rw [l1] at c1
 rw [lx] at cx
 rw [hdd] at cd
 have hfc2 := ho2.facts
 have hc2 := hfc2.1
 have hcs2 := hfc2.2.1
 have hcP2 := hfc2.2.2.1
 have hcsP2 := hfc2.2.2.2
 have hRc := hrx.cell.1
 have hRcs := hrx.cell.2
 clear hfc2
 have y0 := far (show 0 < n3 by omega)
 have y1 := far (show 1 < n3 by omega)
 have yx := far (show n1 < n3 by omega)
 have yd := far (show n1 + 1 + 1 < n3 by omega)
 have ho1 := ho.keep (m' := m6) (Nat.le_refl _) (Nat.le_refl _) fun j j1 j2 => hout3 j (by omega)
 simp -dsimp [dT,nes,c0,c1,cx,cd,hc,hcs,hcP,hcsP,hc2,hcs2,hcP2,hcsP2,hRc,hRcs,y0,y1,yx,yd]
 have ha1 := ho1.keep (m' := updM m6 n3 (some (.box 34 3 [.v (.int .i64 E1),sn2,P2]))) (Nat.le_refl _) (Nat.le_refl _) fun j j1 j2 => by simp -dsimp [show ¬ j = n3 by omega]
 have ha2 := ho2.keep (m' := updM m6 n3 (some (.box 34 3 [.v (.int .i64 E1),sn2,P2]))) (Nat.le_refl _) (Nat.le_refl _) fun j j1 j2 => by simp -dsimp [show ¬ j = n3 by omega]
 have hr2 := hrx.keepL (m' := updM m6 n3 (some (.box 34 3 [.v (.int .i64 E1),sn2,P2]))) (Nat.le_refl _) fun j j1 j2 _ => by simp -dsimp [show ¬ j = n3 by omega]
 have hrb := hr2.bor 3
 rw [eA] at hrb
 have hbd2 := bor_txs (m := updM m6 n3 (some (.box 34 3 [.v (.int .i64 E1),sn2,P2]))) (i := n1 + 1 + 1) (l := l) (e := 9) 3 (by simp -dsimp [yd,cd])
 rw [eL] at hbd2
 refine callM_ h6 (OwnD.lend2 (d := (⟨⟨E1,E2⟩,E3⟩ : Desk)) ha2 (by simp -dsimp)) rfl ?_
 simp -dsimp [dT,nes,hc,hcs,hcP,hcsP,hc2,hcs2,hcP2,hcsP2,hRc,hRcs,y0,y1,yx,yd,c0,c1,cx,cd]
 refine callM_ h6b (by simp -dsimp [hrb]) rfl ?_
 simp -dsimp [dT,nes,hc,hcs,hcP,hcsP,hc2,hcs2,hcP2,hcsP2,hRc,hRcs,y0,y1,yx,yd,c0,c1,cx,cd]
 refine twd (List.range 5) [n1,0] [[0],[1],[],[],[]] (List.replicate 5 [0,1]) ?_
 simp -dsimp [List.range_succ,dT,nes,hc,hcs,hcP,hcsP,hc2,hcs2,hcP2,hcsP2,y0,y1,yx,yd,c0,c1,cx,cd]
 refine cl h1 ?_
 simp -dsimp [List.range_succ,dT,nes,hc,hcs,hcP,hcsP,hc2,hcs2,hcP2,hcsP2,y0,y1,yx,yd,c0,c1,cx,cd]
 refine callM_ h7 (OwnD.lend2 (d := (⟨⟨d1,d2⟩,d3⟩ : Desk)) ha1 (by simp -dsimp)) rfl ?_
 simp -dsimp [List.range_succ,dT,nes,hc,hcs,hcP,hcsP,hc2,hcs2,hcP2,hcsP2,y0,y1,yx,yd,c0,c1,cx,cd]
 refine call_ h3 (by simp -dsimp [eL]) ?_
 simp -dsimp [dT,nes,hc,hcs,hcP,hcsP,hc2,hcs2,hcP2,hcsP2,y0,y1,yx,yd,c0,c1,cx,cd]
 refine callM_ h7b (by simp -dsimp [hbd2]) rfl ?_
 simp -dsimp [dT,nes,hc,hcs,hcP,hcsP,hc2,hcs2,hcP2,hcsP2,y0,y1,yx,yd,c0,c1,cx,cd]
 refine callS_ (h8 _ 3 n1 _ (by omega) sn P ha1) ?_
 rintro t m7 n4 ⟨rfl,hn4,ho3,hout4⟩
 have e0 := hout4 0 (by omega) (.inl (by omega))
 have e1 := hout4 1 (by omega) (.inl (by omega))
 have ed := hout4 (n1 + 1 + 1) (by omega) (.inr (by omega))
 have eg := hout4 n3 (by omega) (.inr (by omega))
 simp -dsimp [y0,y1,yd,c0,c1,cd] at e0 e1 ed eg
 have ha3 := ha2.keep (m' := m7) (Nat.le_refl _) (Nat.le_refl _) fun j j1 j2 => hout4 j (by omega) (.inr (by omega))
 have hr3 := hr2.keepL (m' := m7) (Nat.le_refl _) fun j j1 j2 _ => hout4 j (by omega) (.inr (by omega))
 simp -dsimp [dT,nes,hc,hcs,hcP,hcsP,hc2,hcs2,hcP2,hcsP2,y0,y1,yx,yd,e0,e1,ed,eg]
 refine callS_ (h8b _ _ (n1 + 1 + 1) ed) ?_
 rintro t m8 n5 ⟨rfl,hn5,rfl⟩
 have ha4 := ha3.keep (m' := updM m7 (n1 + 1 + 1) (some (.box 9 1 (txsT (mkx Y l.length))))) (Nat.le_refl _) (Nat.le_refl _) fun j j1 j2 => by simp -dsimp [show ¬ j = n1 + 1 + 1 by omega]
 have hr4 := hr3.keepL (m' := updM m7 (n1 + 1 + 1) (some (.box 9 1 (txsT (mkx Y l.length))))) (Nat.le_refl _) fun j j1 j2 _ => by simp -dsimp [show ¬ j = n1 + 1 + 1 by omega]
 have hrb4 := hr4.bor 3
 rw [eA] at hrb4
 have yg : ¬ n3 = n1 + 1 + 1 := by omega
 have y2 : ¬ n1 + 1 + 1 = 1 := by omega
 have y3 : ¬ n1 + 1 + 1 = 0 := by omega
 have y4 : ¬ n1 + 1 = 0 := by omega
 simp -dsimp [dT,nes,hc,hcs,hcP,hcsP,hc2,hcs2,hcP2,hcsP2,y0,y1,yx,yd,e0,e1,ed,eg,yg,y2,y3,y4,p0]
 refine callM_ h6 (OwnD.lend2 (d := (⟨⟨E1,E2⟩,E3⟩ : Desk)) ha4 (by simp -dsimp)) rfl ?_
 simp -dsimp [dT,nes,hc,hcs,hcP,hcsP,hc2,hcs2,hcP2,hcsP2,y0,y1,yx,yd,e0,e1,ed,eg,yg,y2,y3,y4,p0]
 refine callM_ h6b (by simp -dsimp [hrb4]) rfl ?_
 simp -dsimp [dT,nes,hc,hcs,hcP,hcsP,hc2,hcs2,hcP2,hcsP2,y0,y1,yx,yd,e0,e1,ed,eg,yg,y2,y3,y4,p0]
 refine callS_ (h9 _ lo hi _ (by omega) sn2 P2 ha4) ?_
 rintro t m9 n6 ⟨rfl,hn6,ho4,hout6⟩
 have b0 := hout6 0 (by omega) (.inl (by omega))
 have b1 := hout6 1 (by omega) (.inl (by omega))
 have bg := hout6 n3 (by omega) (.inr (by omega))
 simp -dsimp [e0,e1,eg,yg,y2,y3,y4,show ¬ 1 = n1 + 1 + 1 by omega,show ¬ 0 = n1 + 1 + 1 by omega,show ¬ n1 = 0 by omega] at b0 b1 bg
 have hr5 := hr4.keepL (m' := m9) (Nat.le_refl _) fun j j1 j2 j3 => hout6 j (by omega) (by omega)
 simp -dsimp [dT,nes,hc,hcs,hcP,hcsP,hc2,hcs2,hcP2,hcsP2,y0,y1,yx,yd,b0,b1,bg]
 refine callS_ (h9b R _ _ lo hi _ _ hr5) ?_
 rintro t m10 n7 ⟨rfl,hn7,hr6,hlow,hmidk,hhigh⟩
 have d0 := hlow 0 (by omega)
 have d1 := hlow 1 (by omega)
 have dg := hhigh n3 (by omega)
 rw [b0] at d0
 rw [b1] at d1
 rw [bg] at dg
 have ho5 := ho4.keep (m' := m10) (Nat.le_refl _) (Nat.le_refl _) fun j j1 j2 => hmidk j j1 j2
 have hrb6 := hr6.bor 3
 have z0 := far (show 0 < n7 by omega)
 have z1 := far (show 1 < n7 by omega)
 have zg := far (show n3 < n7 by omega)
 simp -dsimp [dT,nes,hc,hcs,hcP,hcsP,hc2,hcs2,hcP2,hcsP2,y0,y1,yx,yd,d0,d1,dg]
 refine callM_ h10 (OwnD.lend2 (d := mkD 1 (⟨⟨E1,E2⟩,E3⟩ : Desk)) ho5 (by simp -dsimp)) rfl ?_
 simp -dsimp [dT,nes,hc,hcs,hcP,hcsP,hc2,hcs2,hcP2,hcsP2,y0,y1,yx,yd,d0,d1,dg,p1]
 refine callM_ h10b (by simp -dsimp [hrb6]) rfl ?_
 simp -dsimp [dT,nes,hc,hcs,hcP,hcsP,hc2,hcs2,hcP2,hcsP2,y0,y1,yx,yd,d0,d1,dg,p1,p2]
 refine cl h1 ?_
 simp -dsimp [dT,nes,hc,hcs,hcP,hcsP,hc2,hcs2,hcP2,hcsP2,y0,y1,yx,yd,d0,d1,dg,p1,p2]
 refine call_ h3 (by simp -dsimp [eL]) ?_
 simp -dsimp [dT,nes,hc,hcs,hcP,hcsP,hc2,hcs2,hcP2,hcsP2,y0,y1,yx,yd,d0,d1,dg,p1,p2]
 refine cl h5 ?_
 simp -dsimp [dT,nes,hc,hcs,hcP,hcsP,hc2,hcs2,hcP2,hcsP2,y0,y1,yx,yd,d0,d1,dg,p1,p2,z0,z1,zg]
 refine cl h6 ?_
 have ho6 := ho5.keep (m' := updM m10 n7 (some (.box 34 3 [.v (.int .i64 E1),.v (.sl (E2.map Claim.v)),.v (.sl (E3.map Place.v))]))) (Nat.le_refl _) (Nat.le_refl _) fun j j1 j2 => by simp -dsimp [show ¬ j = n7 by omega]
 have hr7 := hr6.keepL (m' := updM m10 n7 (some (.box 34 3 [.v (.int .i64 E1),.v (.sl (E2.map Claim.v)),.v (.sl (E3.map Place.v))]))) (Nat.le_refl _) fun j j1 j2 _ => by simp -dsimp [show ¬ j = n7 by omega]
 have hrb7 := hr7.bor 3
 simp -dsimp [dT,nes,hc,hcs,hcP,hcsP,hc2,hcs2,hcP2,hcsP2,y0,y1,yx,yd,d0,d1,dg,p1,p2,z0,z1,zg]
 refine cl h6b ?_
 simp -dsimp [dT,nes,hc,hcs,hcP,hcsP,hc2,hcs2,hcP2,hcsP2,y0,y1,yx,yd,d0,d1,dg,p1,p2,z0,z1,zg]
 refine callM_ h10 (OwnD.lend2 (d := mkD 1 (⟨⟨E1,E2⟩,E3⟩ : Desk)) ho6 (by simp -dsimp)) rfl ?_
 simp -dsimp [dT,nes,hc,hcs,hcP,hcsP,hc2,hcs2,hcP2,hcsP2,y0,y1,yx,yd,d0,d1,dg,p1,p2,z0,z1,zg]
 refine callM_ h10b (by simp -dsimp [hrb7]) rfl ?_
 simp -dsimp [dT,nes,hc,hcs,hcP,hcsP,hc2,hcs2,hcP2,hcsP2,y0,y1,yx,yd,d0,d1,dg,p1,p2,z0,z1,zg]
theorem opens_strings (w : World) : Opens Tryz.prog w 41 fun vs => ∃ l : List (List UInt8),vs = [txsV l] ∧ (l.length ≤ maxLen ∧ ∀ a ∈ l,a.length ≤ maxLen) :=
 (opens_slice Tryz.underlying41 (z := 1) (by kernel_rfl) (by omega) ((opens_string Tryz.underlying9).mono fun vs h => by obtain ⟨a,h1,h2⟩ := h; exact ⟨a,h2,.inr ⟨rfl,h1⟩⟩)).mono fun vs h => by
  obtain ⟨l,rfl,h1,h2⟩ := h; exact ⟨l,rfl,h1,h2⟩
end TL

namespace TL
open Go
theorem lt_of_cell {W : World} {g : Nat} {v : Value} (h : W.cell? ⟨g,0,none⟩ = some v) : g < W.heap.size := by
 unfold World.cell? at h
 split at h
 ·rename_i hb; exact (Array.getElem?_eq_some_iff.1 hb).1
 ·cases h
end TL

namespace TL
open Go Go.Proofs
/-- A listed sentinel is an interface value. -/
theorem laid_iface {P : Program} {n nm : String} {d : DataW Unit} {r : List (String × DataW Unit)} {W : World} {g : Nat} {ti : TypeId} {ms : Array (String × TypeId)}
  (h : laidMet P ((n,.iface nm d) :: r) W) (hg : P.globalNamed n = some g) (ht : (P.globals[g]?).map (·.type) = some ti) (hi : P.underlying ti = some (.interface ms)) : ∃ u v,W.cell? ⟨g,0,none⟩ = some (.iface u v) := by
 obtain ⟨ps,⟨g0,t0,cs0,f0,p0,q0,hg0,ht0,hv0,hd0,_,e0⟩,_,hrows⟩ := h
 obtain rfl := Option.some.inj (hg.symm.trans hg0)
 obtain rfl := Option.some.inj (ht.symm.trans ht0)
 obtain ⟨l0⟩ := cs0
 obtain ⟨f1,u,v,hl,_,_⟩ := iface_of_trod hi hd0
 have hl : l0 = [.iface u v] := hl
 subst hl
 exact ⟨u,v,by simpa using World.var?_cell hg0 hv0 0⟩
theorem gl_start {W : World} (h : W.ShapedOpen Tryz.prog) (hr : ∃ u v,W.cell? ⟨Tryz.laysC172_ren.g 16,0,none⟩ = some (.iface u v)) (hs : ∃ u v,W.cell? ⟨Tryz.laysC172_ren.g 15,0,none⟩ = some (.iface u v)) : Gl Tryz.prog (ZA W) W := by
 have n1 : Tryz.prog.globalNamed "internal/bytealg.MaxLen" = some 0 := by kernel_rfl
 have n2 : Tryz.prog.globalNamed "strconv.ErrSyntax" = some (Tryz.laysC172_ren.g 15) := Tryz.laysC172.m15
 have n3 : Tryz.prog.globalNamed "strconv.ErrRange" = some (Tryz.laysC172_ren.g 16) := Tryz.laysC172.m16
 have hm : ∃ m,W.cell? ⟨0,0,none⟩ = some (.int .i64 m) := Tryz.laysM145.s1_3 W h
 rintro g Q (⟨e,rfl⟩ | ⟨e | e,rfl⟩)
 ·rw [n1] at e; cases e
  obtain ⟨m,hm⟩ := hm
  exact ⟨lt_of_cell hm,_,hm,m,rfl⟩
 ·rw [n2] at e
  obtain rfl := Option.some.inj e
  obtain ⟨u,v,hs⟩ := hs
  exact ⟨lt_of_cell hs,_,hs,.inr ⟨u,v,rfl⟩⟩
 ·rw [n3] at e
  obtain rfl := Option.some.inj e
  obtain ⟨u,v,hr⟩ := hr
  exact ⟨lt_of_cell hr,_,hr,.inr ⟨u,v,rfl⟩⟩
end TL

namespace TL
open Go
variable {H : Type} {enc : TypeId × Value → H}
theorem wrapLS {a : Assume} {C : Checked} {os : Os} {f : FuncId} {fn : Func} {s : ChangeSpec} {conds : List PathCond} {apart fresh handsOn again : Bool} {X : World → Array Value → Prop}
  (hX : ∀ (w w' : World) (args : Array Value),w.heap = w'.heap → X w args → X w' args)
  (own : ownKnob C.prog.godebug = none) (started : os.Started) (noInit : C.prog.inits.idxOf? f = none) (hfn : C.prog.funcs[f]? = some fn)
  (witness : ∃ (w : World) (tape : Tape) (i : Input),w.os = os ∧ (w.forCall tape i).Shaped C.prog ∧ i.vars = [] ∧ Input.okWide C.prog (w.forCall tape i) .any w.heap.size f i ∧
   ((s.pre enc C.prog fn conds apart (w.forCall tape i).memory i.args ∧ X (w.forCall tape i).memory i.args) ∧ sizedMet enc C.prog fn (OpenSpec.ofChange s) apart (w.forCall tape i).memory i.args) ∧ a.holds C.prog (lone (Frame.enter C.prog f i.args .normal) [] (w.forCall tape i)))
  (contract : ∀ (W : World) (base : Nat) (args : Array Value) (ds gs : List (DataW H)) (before : List MemPlace),
   (∀ (j : Nat) t v,fn.params[j]? = some t → args[j]? = some v → Value.okWide C.prog W .any base t v) →
   DataW.Whole enc C.prog fn.params.toList s.vars apart W args.toList ds gs before → X W args → W.ShapedOpen C.prog →
   Calls C.prog f args W fun e W' => ∃ v,e = .returned v ∧ s.post enc C.prog fn apart fresh handsOn again W args v W') :
  ReturnsInHanded a C os f .any (fun w args => (s.pre enc C.prog fn conds apart w args ∧ X w args) ∧ sizedMet enc C.prog fn (OpenSpec.ofChange s) apart w args) (s.post enc C.prog fn apart fresh handsOn again) := by
 refine returnsInHanded_of_calls own started noInit witness ?_
 intro w tape i _ hsh _ hok hpre _
 obtain ⟨_,_,_,fn',hfn',_,_,_,_,hval⟩ := hok
 have e : fn' = fn := Option.some.inj (hfn'.symm.trans hfn)
 subst e
 obtain ⟨⟨⟨ds,gs,before,hw,_⟩,hx⟩,_⟩ := hpre
 have hw' := DataW.Whole.of_heap (w' := w.forCall tape i) (by rfl) hw
 refine (contract (w.forCall tape i) w.heap.size i.args ds gs before hval hw' (hX _ _ _ (by rfl) hx) hsh).mono fun e W' ⟨v,he,hp⟩ => ?_
 subst he
 exact ChangeSpec.post_blind hp
end TL

namespace Go.Proofs.YtnimfdpinpggdaaGreatDoor.wide
open Go
theorem may_enter : Tryz.pinned.checked.prog.mayEnter = true := by kernel_rfl
end Go.Proofs.YtnimfdpinpggdaaGreatDoor.wide

namespace Go.Proofs.YtnimfdpinpggdaaGreatDoor.wide
open Go
theorem lifts_are : Tryz.pinned.checked.prog.liftsFinal = Rows.fnExactDeskLineRow.lifted := by kernel_rfl
end Go.Proofs.YtnimfdpinpggdaaGreatDoor.wide

namespace Go.Proofs.YtnimfdpinpggdaaGreatDoor.wide
open Go
theorem make_is : Tryz.pinned.checked.prog.make = some Rows.fnExactDeskLineRow.make := by kernel_rfl
end Go.Proofs.YtnimfdpinpggdaaGreatDoor.wide

namespace Go.Proofs.YtnimfdpinpggdaaGreatDoor.wide
open Go
theorem main_is : Tryz.pinned.checked.prog.mainIs = some (true,"9a3c2929d60c12d03a8e18b45fcd8496a62a433a58d33a04905e23aaa11270c6".toList) := by kernel_rfl
theorem looks_are : true = Tryz.pinned.checked.prog.looks [] := by kernel_rfl
end Go.Proofs.YtnimfdpinpggdaaGreatDoor.wide
