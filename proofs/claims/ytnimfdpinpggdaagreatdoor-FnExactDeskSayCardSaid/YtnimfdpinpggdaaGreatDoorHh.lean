/- TL: parts FnsI8b, FnsI9, FnsIA, FnsIB, FnsIC, FnsID, FnsA5, FnsA6, FnsIE, FnsIH, FnsD1, FnsD2, FnsC3, FnsD3a, FnsD3, FnsL3, FnsE15o. -/
import Derived.Test.YtnimfdpinpggdaaGreatDoorHg
import Derived.Test.YtnimfdpinpggdaaGreatDoorHe
import Derived.Test.YtnimfdpinpggdaaGreatDoorHf
import Derived.Test.YtnimfdpinpggdaaGreatDoorShelfC
import Derived.Shelf.Strings.Cut
import Derived.Shelf.Strconv.AtoiAll
import Derived.Lib.SmallJoins
import Derived.WalkSmall
set_option linter.unusedSimpArgs false
set_option linter.unusedVariables false
set_option maxRecDepth 100000
set_option maxHeartbeats 4000000
set_option pp.maxSteps 1500
namespace TL
open Go Go.Proofs
attribute [local simp] marksV storyV codeV Claim.v Place.v numsV
theorem find_C1 (p : Nat) (l : List Claim) (t : List Mark) (h : storyOk p l = true) (ht : termOk p t = true) (r k world : Nat) (sps : List Sp) (m : Mem) (n : Nat) (hk : k + (r + 1) = p) (hn : 8 ≤ n) (hM : FpM m n p l t sps) (hg0 : closG p t k world = false)
  (hcj : ∀ j,j < l.length → closI p l k world j = false) (hl : leaf p l t k world = none)
  (hw : world < 2 ^ k) (hlen : sps.length + 2 ^ (r + 1) ≤ 16) (ih : ∀ (world : Nat) (sps : List Sp) (m : Mem) (n : Nat),world < 2 ^ (k + 1) → sps.length + 2 ^ r ≤ 16 → 8 ≤ n → FpM m n p l t sps → FnS Tryz.prog 134 m n [.v (.int .i64 (kn (k + 1))),.v (.int .i64 world),.ptr 0 0,.ptr 1 0,.ptr 2 0,.ptr 4 0,.ptr 6 0] (fpPost p l t (findT p l t r world) sps n)) :
  FnS Tryz.prog 134 m n [.v (.int .i64 (kn k)),.v (.int .i64 world),.ptr 0 0,.ptr 1 0,.ptr 2 0,.ptr 4 0,.ptr 6 0] (fpPost p l t (findT p l t (r + 1) world) sps n) := by
 have eF : findT p l t (r + 1) world = match findT p l t r world,findT p l t r (world + 2 ^ k) with
   | some a,some b => some (.split k a b)
   | _,_ => none := by
  rw [findT,show p - (r + 1) = k by omega,hl]
  rfl
 obtain ⟨oF,hoF⟩ : ∃ oF,findT p l t (r + 1) world = oF := ⟨_,rfl⟩
 rw [hoF] at eF ⊢
 obtain ⟨o1,ho1⟩ : ∃ o1,findT p l t r world = o1 := ⟨_,rfl⟩
 obtain ⟨o2,ho2⟩ : ∃ o2,findT p l t r (world + 2 ^ k) = o2 := ⟨_,rfl⟩
 rw [ho1,ho2] at eF
 have hk4 : k < 4 := by have := (allOk_of h).2.1; omega
 have hp1 := Nat.one_le_two_pow (n := r)
 rw [Nat.pow_succ] at hlen
 have hpk := pow_small (p := k) (by have := (allOk_of h).2.1; omega)
 have ih1 := fun m n => ih world (sps ++ [⟨k,0,0⟩]) m n (by rw [Nat.pow_succ]; omega) (by simp; omega)
 have ih2 := fun sps m n => ih (world + 2 ^ k) sps m n (by rw [Nat.pow_succ]; omega)
 rw [ho1] at ih1
 rw [ho2] at ih2
 have ekn : kn (k + 1) = (((2 ^ k - 1) ||| 2 ^ k : Nat) : Int) := by rw [kn_succ]; rfl
 rw [ekn] at ih1 ih2
 have hor1 := or_ni (a := 2 ^ k - 1) (b := 2 ^ k) (x := (2 : Int) ^ k) (by simp) (by omega) (by omega)
 have hor2 := or_ni (a := world) (b := 2 ^ k) (x := (2 : Int) ^ k) (by simp) (by omega) (by omega)
 rw [or_pow hw] at hor2
 obtain ⟨W2,hW2⟩ : ∃ W2,world + 2 ^ k = W2 := ⟨_,rfl⟩
 rw [hW2] at ih2 hor2
 have hsz : ∀ a,o1 = some a → a.size + 1 ≤ 2 ^ r := fun a ha => (findT_ok (p := p) (l := l) (t := t) r world a (by omega) (by rw [ho1,ha])).2
 have hT : ∀ (a : PT) (L : Nat),o1 = some a → L = sps.length + 1 + a.size → L + 2 ^ r ≤ 16 := fun a L ha hL => by have := hsz a ha; omega
 have hT0 : ∀ (a : PT) (L : Nat),o1 = some a → L = 0 + 1 + a.size → L + 2 ^ r ≤ 16 := fun a L ha hL => by have := hsz a ha; omega
 have hsh := shl_fact (w := k) (by omega)
 obtain ⟨h1,h4,hc,h6⟩ := allOk_of h
 have hcl := closedBy_s p l t h ht k world (by omega) m n
 have m0 := hM.1
 have m1 := hM.2.1
 have m2 := hM.2.2.1
 refine FS (rs := [.tmp 9,.tmp 10]) true Tryz.func134 ?_
 simp -dsimp [m0,m1,m2]
 refine callS_ hcl ?_
 rintro x m1 n1 ⟨id,es,rfl,hid,hid2,hmid,hok,hout⟩
 have hM1 := hM.keep hn (show n ≤ n1 by omega) hout
 have q0 := hM1.1
 have q1 := hM1.2.1
 have q6 := hM1.2.2.2.2.1
 have hXX := hM1.2.2.2.2.2
 have hg := hok.1
 rw [hg0] at hg
 simp -dsimp [hmid,hg,q1]
 refine twp_loopC (Ifp1 l k world id m1 n1 l.length 0) (fun s => l.length - natOf (s.tm 29)) (Ifp1 l k world id m1 n1 l.length 1) ?_ ?_ ?_
 ·exact ⟨0,by simp -dsimp,by simp -dsimp,by simp -dsimp,by simp -dsimp,by simp -dsimp,by simp -dsimp,by simp -dsimp,by simp -dsimp,by simp -dsimp,by simp -dsimp,by omega,by simp -dsimp,by simp -dsimp,by simp -dsimp,by simp⟩
 ·rintro s ⟨i,t0,t1,t2,t3,t4,t5,t6,t11,t28,t29,hi,hm,hsn,hmu,hend⟩
  by_cases hlt : i < l.length
  case neg =>
   simp -dsimp [t28,t29,hlt]
   exact ⟨i,by simp -dsimp [t0],by simp -dsimp [t1],by simp -dsimp [t2],by simp -dsimp [t3],by simp -dsimp [t4],by simp -dsimp [t5],by simp -dsimp [t6],by simp -dsimp [t11],by simp -dsimp [t28],by simp -dsimp [t29],by omega,by simp -dsimp [hm],by simp -dsimp [hsn],by simp -dsimp [hmu],fun _ => by omega⟩
  have wi : IntKind.wrap .i64 ((i : Int) + 1) = ((i + 1 : Nat) : Int) := by rw [w64 (by omega) (by omega)]; omega
  have w2 : IntKind.wrap .i64 (-2 - (i : Int)) = -2 - (i : Int) := w64 (by omega) (by omega)
  have hmu1 : l.length - (i + 1) < l.length - i := by omega
  have hmi := hok.2 i hlt
  rw [hcj i (by omega)] at hmi
  simp -dsimp [t11,t28,t29,hlt,hm,hmid,w2,hmi,wi,hmu1]
  exact ⟨i + 1,by simp -dsimp [t0],by simp -dsimp [t1],by simp -dsimp [t2],by simp -dsimp [t3],by simp -dsimp [t4],by simp -dsimp [t5],by simp -dsimp [t6],by simp -dsimp [t11],by simp -dsimp [t28],by simp -dsimp,by omega,by simp -dsimp [hm],by simp -dsimp [hsn],by simp -dsimp [hmu],by simp⟩
 rintro s ⟨i,t0,t1,t2,t3,t4,t5,t6,t11,t28,t29,hi,hm,hsn,hmu,hend⟩
 clear hend t29 t28 t11 hi
 simp -dsimp
 refine twp_loopC (Ifp2 k world m1 n1 0) (fun s => k - natOf (s.tm 13)) (Ifp2 k world m1 n1 1) ?_ ?_ ?_
 ·exact ⟨0,by simp -dsimp [t0],by simp -dsimp [t1],by simp -dsimp [t2],by simp -dsimp [t3],by simp -dsimp [t4],by simp -dsimp [t5],by simp -dsimp [t6],by simp -dsimp,by omega,by simp -dsimp [hm],by simp -dsimp [hsn],by simp -dsimp [hmu],by simp⟩
 ·rintro s ⟨i,t0,t1,t2,t3,t4,t5,t6,t13,hi,hm,hsn,hmu,hend⟩
  have hb := kn_bit k i (by omega) (by omega)
  have z1 : ¬ (i : Int) < 0 := by omega
  by_cases hlt : i < k
  case neg =>
   rw [if_neg hlt] at hb
   simp -dsimp [t0,t13,hb,z1]
   exact ⟨i,by simp -dsimp [t0],by simp -dsimp [t1],by simp -dsimp [t2],by simp -dsimp [t3],by simp -dsimp [t4],by simp -dsimp [t5],by simp -dsimp [t6],by simp -dsimp [t13],by omega,by simp -dsimp [hm],by simp -dsimp [hsn],by simp -dsimp [hmu],fun _ => by omega⟩
  have wi : IntKind.wrap .i64 ((i : Int) + 1) = ((i + 1 : Nat) : Int) := by rw [w64 (by omega) (by omega)]; omega
  have hmu1 : k - (i + 1) < k - i := by omega
  rw [if_pos hlt] at hb
  simp -dsimp [t0,t13,hb,z1,wi,hmu1]
  exact ⟨i + 1,by simp -dsimp [t0],by simp -dsimp [t1],by simp -dsimp [t2],by simp -dsimp [t3],by simp -dsimp [t4],by simp -dsimp [t5],by simp -dsimp [t6],by simp -dsimp,by omega,by simp -dsimp [hm],by simp -dsimp [hsn],by simp -dsimp [hmu],by simp⟩
 rintro s ⟨i,t0,t1,t2,t3,t4,t5,t6,t13,hi,hm,hsn,hmu,hend⟩
 have hik : k = i := (hend rfl).symm
 subst hik
 clear hend hi
 have hkp : ¬ p ≤ k := by omega
 have hkp2 : ¬ (p : Int) ≤ k := by omega
 have z1 : ¬ (k : Int) < 0 := by omega
 have ek : kn k = (((2 ^ k - 1 : Nat)) : Int) := rfl
 rw [ek] at t0
 obtain ⟨q,hq⟩ : ∃ q,2 ^ k - 1 = q := ⟨_,rfl⟩
 rw [hq] at t0 hor1 ih1 ih2
 have f0 := far (show 0 < n1 by omega)
 have f1 := far (show 1 < n1 by omega)
 have f2 := far (show 2 < n1 by omega)
 have f3 := far (show 3 < n1 by omega)
 have f4 := far (show 4 < n1 by omega)
 have f6 := far (show 6 < n1 by omega)
 have q2 := hM1.2.2.1
 have q3 := hM1.2.2.2.1
 have y0 : ¬ n1 = 0 := by omega
 have y1 : ¬ n1 = 1 := by omega
 have y2 : ¬ n1 = 2 := by omega
 have y3 : ¬ n1 = 3 := by omega
 have y4 : ¬ n1 = 4 := by omega
 have y6 : ¬ n1 = 6 := by omega
 obtain ⟨X,q4,hX⟩ := hXX
 rcases hX with ⟨rfl,hs⟩ | ⟨id2,rfl,b1,b2,b3⟩
 ·subst hs
  simp -dsimp [t0,t1,t2,t3,t4,t5,t6,t13,hm,hsn,hmu,q0,q4,q6,hkp,hkp2,z1,f0,f1,f2,f3,f4,f6,nes]
  refine twd (List.range 12) [6] ([[0]] ++ List.replicate 11 []) (List.replicate 6 [0] ++ [[]] ++ List.replicate 5 [0]) ?_
  simp -dsimp [List.range_succ,t0,t1,t2,t3,t4,t5,t6,t13,hm,hsn,hmu,q0,q4,q6,z1,f0,f1,f2,f3,f4,f6,nes,hsh,hor1]
  refine callS_ (ih1 _ _ ?_ ?_) ?_
  ·omega
  ·refine ⟨?_, ?_, ?_, ?_, ?_,.sv (n1 + 1) 0 (1), ?_,.inr ⟨n1 + 1, ?_, ?_, ?_, ?_⟩⟩
   ·simp [q0,f0,f1,f2,f3,f4,f6,nes,y0,y1,y2,y3,y4,y6]
   ·simp [q1,f0,f1,f2,f3,f4,f6,nes,y0,y1,y2,y3,y4,y6]
   ·simp [q2,f0,f1,f2,f3,f4,f6,nes,y0,y1,y2,y3,y4,y6]
   ·simp [q3,f0,f1,f2,f3,f4,f6,nes,y0,y1,y2,y3,y4,y6]
   ·simp [q6,f0,f1,f2,f3,f4,f6,nes,y0,y1,y2,y3,y4,y6]
   ·simp [f0,f1,f2,f3,f4,f6,nes,y0,y1,y2,y3,y4,y6]
   ·simp
   ·omega
   ·simp
   ·simp [f0,f1,f2,f3,f4,f6,nes,y0,y1,y2,y3,y4,y6,spT]
  intro x3 m3 n3 hq3
  have hn3 := hq3.1
  have hq3b := hq3.2
  cases o1 with
  | none =>
   obtain ⟨zz,sps3,rfl,hlen3,hM3⟩ := hq3b
   simp only [List.length_append,List.length_cons,List.length_nil] at hlen3
   have p6 := hM3.2.2.2.2.1
   have hXX3 := hM3.2.2.2.2.2
   obtain ⟨X3,p4,hX3⟩ := hXX3
   rcases hX3 with ⟨rfl,hs3⟩ | ⟨id3,rfl,d1,d2,d3⟩
   ·rw [hs3] at hlen3; simp at hlen3
   simp -dsimp [t0,t1,t2,t3,t4,t5,t6,t13,hm,hsn,hmu]
   refine twd (List.range 14) [4] ([[],[0],[],[],[0]] ++ List.replicate 9 []) (List.replicate 13 [0] ++ [[]]) ?_
   have hat : 0 < sps3.length := by omega
   have g3 := far d2
   have g5 : ¬ id3 = 4 ∧ ¬ 4 = id3 ∧ ¬ 0 = id3 ∧ ¬ 1 = id3 ∧ ¬ 2 = id3 ∧ ¬ 3 = id3 ∧ ¬ 6 = id3 := by omega
   have hat1 : 1 + 1 ≤ sps3.length * 3 := by omega
   have hat2 : 2 + 1 ≤ sps3.length * 3 := by omega
   have hat3 : 2 ≤ sps3.length * 3 := by omega
   have hat4 : 3 ≤ sps3.length * 3 := by omega
   have hst1 := fun x => spT_no sps3 0 x
   have hst2 := fun x y => spT_yes (setNo 0 x sps3) 0 y
   simp only [Nat.zero_mul,Nat.zero_add] at hst1 hst2
   simp -dsimp [List.range_succ,t0,t1,t2,t3,t4,t5,t6,t13,hm,hsn,hmu,p4,d3,g3,g5,hat,hat1,hat2,hat3,hat4,hst1,hst2]
   have eN : oF = none := by rw [eF]
   rw [eN]
   refine ⟨?_,_,setYes 0 0 (setNo 0 zz sps3),rfl,by first | omega | (simp <;> omega), ?_⟩
   ·first | omega | (simp <;> omega)
   refine ⟨?_, ?_, ?_, ?_, ?_,.sv id3 0 sps3.length, ?_,.inr ⟨id3,by simp,d1, ?_, ?_⟩⟩
   ·simp [hM3.1,g5]
   ·simp [hM3.2.1,g5]
   ·simp [hM3.2.2.1,g5]
   ·simp [hM3.2.2.2.1,g5]
   ·simp [p6,g5]
   ·simp [p4,g5]
   ·first | omega | (simp <;> omega)
   ·simp [hst1,hst2]
  | some ta =>
   have hta := hsz ta rfl
   have hL1 : (([] : List Sp) ++ [(⟨k,0,0⟩ : Sp)]).length = 0 + 1 := by simp
   have hq3c := fpPost_some hq3 hL1
   obtain ⟨A3,TA,rfl,hA3,hTA,hL2,hM3⟩ := hq3c
   have p0 := hM3.1
   have p6 := hM3.2.2.2.2.1
   have ih3 := ih2 A3 m3 n3 (hT0 ta _ rfl hL2) (by clear y0 y1 y2 y3 y4 y6; omega) hM3
   simp -dsimp [t0,t1,t2,t3,t4,t5,t6,t13,hm,hsn,hmu]
   refine twd (List.range 15) [6] ([[0]] ++ List.replicate 14 []) (List.replicate 9 [0] ++ [[]] ++ List.replicate 5 [0]) ?_
   simp -dsimp [List.range_succ,t0,t1,t2,t3,t4,t5,t6,t13,hm,hsn,hmu,p6,z1,hsh,hor1,hor2]
   refine callS_ ih3 ?_
   intro x4 m4 n4 hq4
   have hn4 := hq4.1
   have hq4b := hq4.2
   cases o2 with
   | none =>
    obtain ⟨zz,sps4,rfl,hlen4,hM4⟩ := hq4b
    have u6 := hM4.2.2.2.2.1
    have hXX4 := hM4.2.2.2.2.2
    obtain ⟨X4,u4,hX4⟩ := hXX4
    rcases hX4 with ⟨rfl,hs4⟩ | ⟨id3,rfl,d1,d2,d3⟩
    ·rw [hs4] at hlen4; simp only [List.length_nil] at hlen4; clear y0 y1 y2 y3 y4 y6; omega
    simp -dsimp [t0,t1,t2,t3,t4,t5,t6,t13,hm,hsn,hmu]
    refine twd (List.range 14) [4] ([[],[0],[],[],[0]] ++ List.replicate 9 []) (List.replicate 13 [0] ++ [[]]) ?_
    have hat : 0 < sps4.length := by omega
    have g3 := far d2
    have g5 : ¬ id3 = 4 ∧ ¬ 4 = id3 ∧ ¬ 0 = id3 ∧ ¬ 1 = id3 ∧ ¬ 2 = id3 ∧ ¬ 3 = id3 ∧ ¬ 6 = id3 := by omega
    have hat1 : 1 + 1 ≤ sps4.length * 3 := by omega
    have hat2 : 2 + 1 ≤ sps4.length * 3 := by omega
    have hat3 : 2 ≤ sps4.length * 3 := by omega
    have hat4 : 3 ≤ sps4.length * 3 := by omega
    have hst1 := fun x => spT_no sps4 0 x
    have hst2 := fun x y => spT_yes (setNo 0 x sps4) 0 y
    simp only [Nat.zero_mul,Nat.zero_add] at hst1 hst2
    simp -dsimp [List.range_succ,t0,t1,t2,t3,t4,t5,t6,t13,hm,hsn,hmu,u4,d3,g3,g5,hat,hat1,hat2,hat3,hat4,hst1,hst2]
    have eN : oF = none := by rw [eF]
    rw [eN]
    refine ⟨?_,_,setYes 0 zz (setNo 0 TA sps4),rfl,by first | omega | (simp <;> omega), ?_⟩
    ·first | omega | (simp <;> omega)
    refine ⟨?_, ?_, ?_, ?_, ?_,.sv id3 0 sps4.length, ?_,.inr ⟨id3,by simp,d1, ?_, ?_⟩⟩
    ·simp [hM4.1,g5]
    ·simp [hM4.2.1,g5]
    ·simp [hM4.2.2.1,g5]
    ·simp [hM4.2.2.2.1,g5]
    ·simp [u6,g5]
    ·simp [u4,g5]
    ·first | omega | (simp <;> omega)
    ·simp [hst1,hst2]
   | some tb =>
    have hq4c := fpPost_some hq4 hL2
    obtain ⟨sps4,TB,rfl,hs4,hTB,hl4,hM4⟩ := hq4c
    have hfin : setYes 0 TB (setNo 0 TA sps4) = ([] : List Sp) ++ (PT.split k ta tb).row ([] : List Sp).length := by
     rw [hs4,hA3,hTA,hTB]
     have := set_mid [] k 0 0 (ta.to (0 + 1)) (tb.to (0 + 1 + ta.size)) (ta.row (0 + 1) ++ tb.row (0 + 1 + ta.size))
     simpa [PT.row,List.append_assoc] using this
    have u6 := hM4.2.2.2.2.1
    have hXX4 := hM4.2.2.2.2.2
    obtain ⟨X4,u4,hX4⟩ := hXX4
    rcases hX4 with ⟨rfl,hs4'⟩ | ⟨id3,rfl,d1,d2,d3⟩
    ·rw [hs4'] at hl4; simp only [List.length_nil] at hl4; clear y0 y1 y2 y3 y4 y6; omega
    simp -dsimp [t0,t1,t2,t3,t4,t5,t6,t13,hm,hsn,hmu]
    refine twd (List.range 14) [4] ([[],[0],[],[],[0]] ++ List.replicate 9 []) (List.replicate 13 [0] ++ [[]]) ?_
    have hat : 0 < sps4.length := by omega
    have g3 := far d2
    have g5 : ¬ id3 = 4 ∧ ¬ 4 = id3 ∧ ¬ 0 = id3 ∧ ¬ 1 = id3 ∧ ¬ 2 = id3 ∧ ¬ 3 = id3 ∧ ¬ 6 = id3 := by omega
    have hat1 : 1 + 1 ≤ sps4.length * 3 := by omega
    have hat2 : 2 + 1 ≤ sps4.length * 3 := by omega
    have hat3 : 2 ≤ sps4.length * 3 := by omega
    have hat4 : 3 ≤ sps4.length * 3 := by omega
    have hst1 := fun x => spT_no sps4 0 x
    have hst2 := fun x y => spT_yes (setNo 0 x sps4) 0 y
    simp only [Nat.zero_mul,Nat.zero_add] at hst1 hst2
    simp -dsimp [List.range_succ,t0,t1,t2,t3,t4,t5,t6,t13,hm,hsn,hmu,u4,d3,g3,g5,hat,hat1,hat2,hat3,hat4,hst1,hst2]
    have eS : oF = some (.split k ta tb) := by rw [eF]
    rw [eS]
    refine ⟨?_,rfl, ?_⟩
    ·first | omega | (simp <;> omega)
    rw [← hfin]
    refine ⟨?_, ?_, ?_, ?_, ?_,.sv id3 0 sps4.length, ?_,.inr ⟨id3,by simp,d1, ?_, ?_⟩⟩
    ·simp [hM4.1,g5]
    ·simp [hM4.2.1,g5]
    ·simp [hM4.2.2.1,g5]
    ·simp [hM4.2.2.2.1,g5]
    ·simp [u6,g5]
    ·simp [u4,g5]
    ·first | omega | (simp <;> omega)
    ·simp [hst1,hst2]
 ·have hl15 : ¬ 15 ≤ sps.length := by omega
  have hl15b : ¬ (15 : Int) ≤ sps.length := by omega
  have bb : (sps.length + 1) * 24 ≤ 140737488355328 := by omega
  have g2 := far b2
  have g4 : ¬ id2 = 4 ∧ ¬ 4 = id2 ∧ ¬ id2 = 6 ∧ ¬ 6 = id2 ∧ ¬ 0 = id2 ∧ ¬ 1 = id2 ∧ ¬ 2 = id2 ∧ ¬ 3 = id2 := by omega
  have htk := spT_take sps
  simp -dsimp [t0,t1,t2,t3,t4,t5,t6,t13,hm,hsn,hmu,q0,q4,q6,b3,bb,g2,g4,htk,hl15,hl15b,hkp,hkp2,z1,f0,f1,f2,f3,f4,f6,nes]
  refine twd (List.range 12) [6] ([[0]] ++ List.replicate 11 []) (List.replicate 6 [0] ++ [[]] ++ List.replicate 5 [0]) ?_
  simp -dsimp [List.range_succ,t0,t1,t2,t3,t4,t5,t6,t13,hm,hsn,hmu,q0,q4,q6,z1,f0,f1,f2,f3,f4,f6,nes,hsh,hor1,g2,g4]
  refine callS_ (ih1 _ _ ?_ ?_) ?_
  ·omega
  ·refine ⟨?_, ?_, ?_, ?_, ?_,.sv (n1 + 1) 0 (sps.length + 1), ?_,.inr ⟨n1 + 1, ?_, ?_, ?_, ?_⟩⟩
   ·simp [q0,f0,f1,f2,f3,f4,f6,nes,y0,y1,y2,y3,y4,y6,g2,g4]
   ·simp [q1,f0,f1,f2,f3,f4,f6,nes,y0,y1,y2,y3,y4,y6,g2,g4]
   ·simp [q2,f0,f1,f2,f3,f4,f6,nes,y0,y1,y2,y3,y4,y6,g2,g4]
   ·simp [q3,f0,f1,f2,f3,f4,f6,nes,y0,y1,y2,y3,y4,y6,g2,g4]
   ·simp [q6,f0,f1,f2,f3,f4,f6,nes,y0,y1,y2,y3,y4,y6,g2,g4]
   ·simp [f0,f1,f2,f3,f4,f6,nes,y0,y1,y2,y3,y4,y6,g2,g4]
   ·simp
   ·omega
   ·simp
   ·simp [f0,f1,f2,f3,f4,f6,nes,y0,y1,y2,y3,y4,y6,g2,g4,spT_app,htk]; rfl
  intro x3 m3 n3 hq3
  have hn3 := hq3.1
  have hq3b := hq3.2
  cases o1 with
  | none =>
   obtain ⟨zz,sps3,rfl,hlen3,hM3⟩ := hq3b
   simp only [List.length_append,List.length_cons,List.length_nil] at hlen3
   have p6 := hM3.2.2.2.2.1
   have hXX3 := hM3.2.2.2.2.2
   obtain ⟨X3,p4,hX3⟩ := hXX3
   rcases hX3 with ⟨rfl,hs3⟩ | ⟨id3,rfl,d1,d2,d3⟩
   ·rw [hs3] at hlen3; simp at hlen3
   simp -dsimp [t0,t1,t2,t3,t4,t5,t6,t13,hm,hsn,hmu]
   refine twd (List.range 14) [4] ([[],[0],[],[],[0]] ++ List.replicate 9 []) (List.replicate 13 [0] ++ [[]]) ?_
   have hat : sps.length < sps3.length := by omega
   have g3 := far d2
   have g5 : ¬ id3 = 4 ∧ ¬ 4 = id3 ∧ ¬ 0 = id3 ∧ ¬ 1 = id3 ∧ ¬ 2 = id3 ∧ ¬ 3 = id3 ∧ ¬ 6 = id3 := by omega
   have hat1 : sps.length * 3 + 1 + 1 ≤ sps3.length * 3 := by omega
   have hat2 : sps.length * 3 + 2 + 1 ≤ sps3.length * 3 := by omega
   have hat3 := hat
   have hat4 := hat
   have hst1 := fun x => spT_no sps3 sps.length x
   have hst2 := fun x y => spT_yes (setNo sps.length x sps3) sps.length y
   simp -dsimp [List.range_succ,t0,t1,t2,t3,t4,t5,t6,t13,hm,hsn,hmu,p4,d3,g3,g5,hat,hat1,hat2,hat3,hat4,hst1,hst2]
   have eN : oF = none := by rw [eF]
   rw [eN]
   refine ⟨?_,_,setYes sps.length 0 (setNo sps.length zz sps3),rfl,by first | omega | (simp <;> omega), ?_⟩
   ·first | omega | (simp <;> omega)
   refine ⟨?_, ?_, ?_, ?_, ?_,.sv id3 0 sps3.length, ?_,.inr ⟨id3,by simp,d1, ?_, ?_⟩⟩
   ·simp [hM3.1,g5]
   ·simp [hM3.2.1,g5]
   ·simp [hM3.2.2.1,g5]
   ·simp [hM3.2.2.2.1,g5]
   ·simp [p6,g5]
   ·simp [p4,g5]
   ·first | omega | (simp <;> omega)
   ·simp [hst1,hst2]
  | some ta =>
   have hta := hsz ta rfl
   have hL1 : (sps ++ [(⟨k,0,0⟩ : Sp)]).length = sps.length + 1 := by simp
   have hq3c := fpPost_some hq3 hL1
   obtain ⟨A3,TA,rfl,hA3,hTA,hL2,hM3⟩ := hq3c
   have p0 := hM3.1
   have p6 := hM3.2.2.2.2.1
   have ih3 := ih2 A3 m3 n3 (hT ta _ rfl hL2) (by clear y0 y1 y2 y3 y4 y6; omega) hM3
   simp -dsimp [t0,t1,t2,t3,t4,t5,t6,t13,hm,hsn,hmu]
   refine twd (List.range 15) [6] ([[0]] ++ List.replicate 14 []) (List.replicate 9 [0] ++ [[]] ++ List.replicate 5 [0]) ?_
   simp -dsimp [List.range_succ,t0,t1,t2,t3,t4,t5,t6,t13,hm,hsn,hmu,p6,z1,hsh,hor1,hor2]
   refine callS_ ih3 ?_
   intro x4 m4 n4 hq4
   have hn4 := hq4.1
   have hq4b := hq4.2
   cases o2 with
   | none =>
    obtain ⟨zz,sps4,rfl,hlen4,hM4⟩ := hq4b
    have u6 := hM4.2.2.2.2.1
    have hXX4 := hM4.2.2.2.2.2
    obtain ⟨X4,u4,hX4⟩ := hXX4
    rcases hX4 with ⟨rfl,hs4⟩ | ⟨id3,rfl,d1,d2,d3⟩
    ·rw [hs4] at hlen4; simp only [List.length_nil] at hlen4; clear y0 y1 y2 y3 y4 y6; omega
    simp -dsimp [t0,t1,t2,t3,t4,t5,t6,t13,hm,hsn,hmu]
    refine twd (List.range 14) [4] ([[],[0],[],[],[0]] ++ List.replicate 9 []) (List.replicate 13 [0] ++ [[]]) ?_
    have hat : sps.length < sps4.length := by omega
    have g3 := far d2
    have g5 : ¬ id3 = 4 ∧ ¬ 4 = id3 ∧ ¬ 0 = id3 ∧ ¬ 1 = id3 ∧ ¬ 2 = id3 ∧ ¬ 3 = id3 ∧ ¬ 6 = id3 := by omega
    have hat1 : sps.length * 3 + 1 + 1 ≤ sps4.length * 3 := by omega
    have hat2 : sps.length * 3 + 2 + 1 ≤ sps4.length * 3 := by omega
    have hat3 := hat
    have hat4 := hat
    have hst1 := fun x => spT_no sps4 sps.length x
    have hst2 := fun x y => spT_yes (setNo sps.length x sps4) sps.length y
    simp -dsimp [List.range_succ,t0,t1,t2,t3,t4,t5,t6,t13,hm,hsn,hmu,u4,d3,g3,g5,hat,hat1,hat2,hat3,hat4,hst1,hst2]
    have eN : oF = none := by rw [eF]
    rw [eN]
    refine ⟨?_,_,setYes sps.length zz (setNo sps.length TA sps4),rfl,by first | omega | (simp <;> omega), ?_⟩
    ·first | omega | (simp <;> omega)
    refine ⟨?_, ?_, ?_, ?_, ?_,.sv id3 0 sps4.length, ?_,.inr ⟨id3,by simp,d1, ?_, ?_⟩⟩
    ·simp [hM4.1,g5]
    ·simp [hM4.2.1,g5]
    ·simp [hM4.2.2.1,g5]
    ·simp [hM4.2.2.2.1,g5]
    ·simp [u6,g5]
    ·simp [u4,g5]
    ·first | omega | (simp <;> omega)
    ·simp [hst1,hst2]
   | some tb =>
    have hq4c := fpPost_some hq4 hL2
    obtain ⟨sps4,TB,rfl,hs4,hTB,hl4,hM4⟩ := hq4c
    have hfin : setYes sps.length TB (setNo sps.length TA sps4) = sps ++ (PT.split k ta tb).row sps.length := by
     rw [hs4,hA3,hTA,hTB]
     have := set_mid sps k 0 0 (ta.to (sps.length + 1)) (tb.to (sps.length + 1 + ta.size)) (ta.row (sps.length + 1) ++ tb.row (sps.length + 1 + ta.size))
     simpa [PT.row,List.append_assoc] using this
    have u6 := hM4.2.2.2.2.1
    have hXX4 := hM4.2.2.2.2.2
    obtain ⟨X4,u4,hX4⟩ := hXX4
    rcases hX4 with ⟨rfl,hs4'⟩ | ⟨id3,rfl,d1,d2,d3⟩
    ·rw [hs4'] at hl4; simp only [List.length_nil] at hl4; clear y0 y1 y2 y3 y4 y6; omega
    simp -dsimp [t0,t1,t2,t3,t4,t5,t6,t13,hm,hsn,hmu]
    refine twd (List.range 14) [4] ([[],[0],[],[],[0]] ++ List.replicate 9 []) (List.replicate 13 [0] ++ [[]]) ?_
    have hat : sps.length < sps4.length := by omega
    have g3 := far d2
    have g5 : ¬ id3 = 4 ∧ ¬ 4 = id3 ∧ ¬ 0 = id3 ∧ ¬ 1 = id3 ∧ ¬ 2 = id3 ∧ ¬ 3 = id3 ∧ ¬ 6 = id3 := by omega
    have hat1 : sps.length * 3 + 1 + 1 ≤ sps4.length * 3 := by omega
    have hat2 : sps.length * 3 + 2 + 1 ≤ sps4.length * 3 := by omega
    have hat3 := hat
    have hat4 := hat
    have hst1 := fun x => spT_no sps4 sps.length x
    have hst2 := fun x y => spT_yes (setNo sps.length x sps4) sps.length y
    simp -dsimp [List.range_succ,t0,t1,t2,t3,t4,t5,t6,t13,hm,hsn,hmu,u4,d3,g3,g5,hat,hat1,hat2,hat3,hat4,hst1,hst2]
    have eS : oF = some (.split k ta tb) := by rw [eF]
    rw [eS]
    refine ⟨?_,rfl, ?_⟩
    ·first | omega | (simp <;> omega)
    rw [← hfin]
    refine ⟨?_, ?_, ?_, ?_, ?_,.sv id3 0 sps4.length, ?_,.inr ⟨id3,by simp,d1, ?_, ?_⟩⟩
    ·simp [hM4.1,g5]
    ·simp [hM4.2.1,g5]
    ·simp [hM4.2.2.1,g5]
    ·simp [hM4.2.2.2.1,g5]
    ·simp [u6,g5]
    ·simp [u4,g5]
    ·first | omega | (simp <;> omega)
    ·simp [hst1,hst2]
end TL

namespace TL
open Go Go.Proofs
attribute [local simp] marksV storyV codeV Claim.v Place.v numsV
theorem find_s (p : Nat) (l : List Claim) (t : List Mark) (h : storyOk p l = true) (ht : termOk p t = true) : ∀ (r k world : Nat) (sps : List Sp) (m : Mem) (n : Nat),k + r = p → world < 2 ^ k → sps.length + 2 ^ r ≤ 16 → 8 ≤ n → FpM m n p l t sps →
  FnS Tryz.prog 134 m n [.v (.int .i64 (kn k)),.v (.int .i64 world),.ptr 0 0,.ptr 1 0,.ptr 2 0,.ptr 4 0,.ptr 6 0] (fpPost p l t (findT p l t r world) sps n)
 | 0,k,world,sps,m,n,hk,hw,hlen,hn,hM => by
  rcases leaf_cases p l t k world with ha | ⟨b1,i0,b2,b3,b4,b5⟩ | ⟨c1,c2,c3⟩
  ·exact find_A p l t h ht 0 k world sps m n hk hn hM ha
  ·exact find_B p l t h ht 0 k world sps m n hk hn hM i0 b1 b2 b3 b4 b5
  ·exact find_C0 p l t h ht k world sps m n (by omega) hn hM c1 c2 c3
 | r + 1,k,world,sps,m,n,hk,hw,hlen,hn,hM => by
  rcases leaf_cases p l t k world with ha | ⟨b1,i0,b2,b3,b4,b5⟩ | ⟨c1,c2,c3⟩
  ·exact find_A p l t h ht (r + 1) k world sps m n hk hn hM ha
  ·exact find_B p l t h ht (r + 1) k world sps m n hk hn hM i0 b1 b2 b3 b4 b5
  ·exact find_C1 p l t h ht r k world sps m n hk hn hM c1 c2 c3 hw hlen fun world sps m n a b c d => find_s p l t h ht r (k + 1) world sps m n (by omega) a b c d
def spsV (l : List Sp) : V := .sl (l.map Sp.v)
theorem spT_bor (m : Mem) (d : Nat) (l : List Sp) : mapO (bor true m d) (spT l) = some (l.flatMap fun s => [V.int .i64 s.who,V.int .i64 s.no,V.int .i64 s.yes]) := by
 have e : spT l = (l.flatMap fun s => [V.int .i64 s.who,V.int .i64 s.no,V.int .i64 s.yes]).map T.v := by simp [spT,List.map_flatMap]
 rw [e]
 induction (l.flatMap fun s => [V.int .i64 s.who,V.int .i64 s.no,V.int .i64 s.yes]) with
 | nil => rfl
 | cons x xs ih =>
  show (bor true m d (.v x)).bind _ = _
  rw [show bor true m d (.v x) = some x by cases d <;> rfl]
  show (mapO (bor true m d) (xs.map T.v)).map _ = _
  rw [ih]; rfl
theorem spV_chunk (l : List Sp) : chunk 3 l.length (l.flatMap fun s => [V.int .i64 s.who,V.int .i64 s.no,V.int .i64 s.yes]) = l.map Sp.v := by
 induction l with
 | nil => rfl
 | cons s l ih => simp [chunk,Sp.v]; exact ih
theorem spV_cell (l : List Sp) : ∀ x ∈ (l.flatMap fun s => [V.int .i64 s.who,V.int .i64 s.no,V.int .i64 s.yes]),x.cell = true := fun x hx => by
 obtain ⟨s,_,hs⟩ := List.mem_flatMap.1 hx
 simp at hs
 rcases hs with rfl | rfl | rfl <;> rfl
theorem sp_bor {m : Mem} {i : Nat} {e : TypeId} {l : List Sp} {p : Nat} (h : m i = some (.box e 3 (spT l))) (hp : l.length = p) (d : Nat) : bor true m (d + 1) (.sv i 0 p) = some (spsV l) := by
 subst hp
 show (match m i with | some (.box _ z cs) => tst (0 + l.length * z ≤ cs.length) (obind (mapO (TL.bor true m d) ((cs.drop 0).take (l.length * z))) fun xs => tst (∀ x ∈ xs,x.cell = true) (some (V.sl (chunk z l.length xs)))) | _ => none) = _
 rw [h]
 show tst (0 + l.length * 3 ≤ (spT l).length) (obind (mapO (TL.bor true m d) (((spT l).drop 0).take (l.length * 3))) fun xs => tst (∀ x ∈ xs,x.cell = true) (some (V.sl (chunk 3 l.length xs)))) = _
 rw [tst_pos (by simp),List.drop_zero,spT_take,spT_bor,obind_some,tst_pos (spV_cell l),spV_chunk]; rfl
def proofV (o : Option PT) : V := match o with
 | some y => .agg [.int .i64 (y.to 0),spsV (y.row 0)]
 | none => .agg [.int .i64 0,.sl []]
theorem findProof_fn (p : Nat) (l : List Claim) (t : List Mark) (h : storyOk p l = true) (ht : termOk p t = true) : FnZ Tryz.prog 85 [.int .i64 p,storyV l,marksV t] (.tup [proofV (findT p l t p 0),.bool (findT p l t p 0).isSome]) := by
 obtain ⟨h1,h4,hc,h6⟩ := allOk_of h
 have hok := storyOk_fn p l (by omega)
 rw [h] at hok
 have hto := termOk_fn p t
 rw [ht] at hto
 have hN := pow_small (p := p) (by omega)
 have hcl := fun m => find_s p l t h ht p 0 0 [] m 8 (by omega) (by simp) (by simp; omega) (by omega)
 obtain ⟨o,ho⟩ : ∃ o,findT p l t p 0 = o := ⟨_,rfl⟩
 rw [ho] at hcl ⊢
 have ek : kn 0 = 0 := rfl
 rw [ek] at hcl
 simp only [Int.natCast_zero] at hcl
 refine FZ (rs := [.cell 6 89,.tmp 7]) true Tryz.func85 ?_
 simp -dsimp
 refine cl hok ?_
 simp -dsimp
 refine cl hto ?_
 simp -dsimp
 refine callS_ (hcl _ ?_) ?_
 ·exact ⟨by simp,by simp,by simp,by simp,by simp,.nil,by simp,.inl ⟨rfl,rfl⟩⟩
 intro x3 m3 n3 hq3
 cases o with
 | none =>
  have hq3b := hq3.2
  obtain ⟨zz,sps3,rfl,hlen3,hM3⟩ := hq3b
  have p3 := hM3.2.2.2.1
  simp -dsimp [p3,proofV]
 | some y =>
  have hq3c := fpPost_some hq3 rfl
  obtain ⟨A3,TA,rfl,hA3,hTA,hL,hM3⟩ := hq3c
  have p3 := hM3.2.2.2.1
  have hXX3 := hM3.2.2.2.2.2
  have e1 : A3 = y.row 0 := by rw [hA3]; rfl
  have e2 : TA = y.to 0 := hTA
  have ev : proofV (some y) = .agg [.int .i64 TA,spsV A3] := by rw [e1,e2]; rfl
  obtain ⟨X3,p4,hX3⟩ := hXX3
  rcases hX3 with ⟨rfl,hs3⟩ | ⟨id3,rfl,d1,d2,d3⟩
  ·rw [hs3] at ev
   simp -dsimp [p3,p4,ev,spsV]
  ·have g : ¬ id3 = 4 ∧ ¬ id3 = 3 ∧ ¬ 4 = id3 ∧ ¬ 3 = id3 := by omega
   have hbr : ∀ (m : Mem) (d : Nat),m id3 = m3 id3 → bor true m (d + 1) (.sv id3 0 A3.length) = some (spsV A3) := fun m d hm => sp_bor (by rw [hm,d3]) rfl d
   have hb3 := hbr (updM (updM m3 4 (some (.box 89 2 [.v (.int .i64 TA),.sv id3 0 A3.length]))) 3 (some (.box 89 2 [.v (.int .i64 TA),.sv id3 0 A3.length]))) 2 (by simp [g])
   simp -dsimp [p3,p4,ev,g,hb3,spsV]
end TL

namespace TL
open Go Go.Proofs
attribute [local simp] marksV storyV codeV Claim.v Place.v numsV
theorem tx_len {p : Nat} {l : List Claim} {t : List Mark} (hl : l.length ≤ 100) : ∀ (y : PT) (k world : Nat),okT p l t y k world → y.tx.length ≤ 6 * y.size + 2
 | .goal,_,_,_ => by simp [PT.tx]
 | .claim i,_,_,h => by
  have := dec_len (n := (i : Int)) (by omega) (by have := h.1; omega)
  simp only [PT.tx,PT.size]; omega
 | .split who a b,k,world,h => by
  have h1 := tx_len hl a _ _ h.2.2.1
  have h2 := tx_len hl b _ _ h.2.2.2
  simp only [PT.tx,PT.size,List.length_cons,List.length_append,List.length_nil]; omega
theorem caseText_fn (p : Nat) (l : List Claim) (t : List Mark) (hp : p ≤ 4) (hl : l.length ≤ 6) : ∀ (y : PT) (k world : Nat) (pre post : List Sp) (F : Int) (R : List Sp),okT p l t y k world → y.size ≤ 15 → pre.length + y.size ≤ 1000 → R = pre ++ y.row pre.length ++ post →
  FnZ Tryz.prog 137 [.agg [.int .i64 F,spsV R],.int .i64 (y.to pre.length)] (.str y.tx)
 | .goal,k,world,pre,post,F,R,h,hs,hpr,hR => by
  have e1 : PT.goal.to pre.length = -1 := rfl
  have e2 : PT.goal.tx = [42] := rfl
  rw [e1,e2]
  refine FZ (rs := [.tmp 4]) false Tryz.func137 ?_
  simp -dsimp [spsV]
 | .claim i,k,world,pre,post,F,R,h,hs,hpr,hR => by
  have hi := h.1
  have e1 : (PT.claim i).to pre.length = -2 - (i : Int) := rfl
  have e2 : (PT.claim i).tx = dec i := rfl
  have hit := itoa_fn (i : Int) (by omega) (by omega)
  have c1 : ¬ (-2 - (i : Int) = -1) := by omega
  have c2 : -2 - (i : Int) < 0 := by omega
  have w1 : IntKind.wrap .i64 (-2 - (-2 - (i : Int))) = (i : Int) := by rw [w64 (by omega) (by omega)]; omega
  rw [e1,e2]
  generalize dec (i : Int) = D at *
  generalize hX : -2 - (i : Int) = X at *
  refine FZ (rs := [.tmp 4]) false Tryz.func137 ?_
  simp -dsimp [spsV,c1,c2,w1]
  refine cl hit ?_
  simp -dsimp
 | .split who a b,k,world,pre,post,F,R,h,hs,hpr,hR => by
  obtain ⟨hk,hkp,ha,hb⟩ := h
  have la := tx_len (by omega) a _ _ ha
  have lb := tx_len (by omega) b _ _ hb
  simp only [PT.size] at hs hpr
  subst hk
  have ia := caseText_fn p l t hp hl a (who + 1) world (pre ++ [⟨who,a.to (pre.length + 1),b.to (pre.length + 1 + a.size)⟩]) (b.row (pre.length + 1 + a.size) ++ post) F R ha (by omega) (by simp only [List.length_append,List.length_cons,List.length_nil]; omega) (by rw [hR]; simp [PT.row,List.append_assoc])
  have ib := caseText_fn p l t hp hl b (who + 1) (world + 2 ^ who) (pre ++ [⟨who,a.to (pre.length + 1),b.to (pre.length + 1 + a.size)⟩] ++ a.row (pre.length + 1)) post F R hb (by omega) (by simp only [List.length_append,List.length_cons,List.length_nil,PT.row_len]; omega) (by rw [hR]; simp [PT.row,PT.row_len,List.append_assoc]; congr 1; omega)
  have e3 : (pre ++ [(⟨who,a.to (pre.length + 1),b.to (pre.length + 1 + a.size)⟩ : Sp)]).length = pre.length + 1 := by simp
  have e4 : (pre ++ [(⟨who,a.to (pre.length + 1),b.to (pre.length + 1 + a.size)⟩ : Sp)] ++ a.row (pre.length + 1)).length = pre.length + 1 + a.size := by simp [PT.row_len]; omega
  rw [e3] at ia
  rw [e4] at ib
  have hget : (R.map Sp.v)[pre.length]? = some (Sp.v ⟨who,a.to (pre.length + 1),b.to (pre.length + 1 + a.size)⟩) := by
   rw [hR]; simp [PT.row,Sp.v]
  have e5 : (PT.split who a b).to pre.length = (pre.length : Int) := rfl
  have e6 : (PT.split who a b).tx = UInt8.ofNat (97 + who) :: 40 :: (a.tx ++ 44 :: (b.tx ++ [41])) := rfl
  rw [e5,e6]
  obtain ⟨TA,hTA⟩ : ∃ TA,a.to (pre.length + 1) = TA := ⟨_,rfl⟩
  obtain ⟨TB,hTB⟩ : ∃ TB,b.to (pre.length + 1 + a.size) = TB := ⟨_,rfl⟩
  rw [hTA] at ia hget
  rw [hTB] at ib hget
  obtain ⟨xa,hxa⟩ : ∃ xa,a.tx = xa := ⟨_,rfl⟩
  obtain ⟨xb,hxb⟩ : ∃ xb,b.tx = xb := ⟨_,rfl⟩
  rw [hxa] at ia la ⊢
  rw [hxb] at ib lb ⊢
  obtain ⟨rowV,hrow⟩ : ∃ rowV,R.map Sp.v = rowV := ⟨_,rfl⟩
  have es : spsV R = .sl rowV := by rw [← hrow]; rfl
  rw [hrow] at hget
  rw [es] at ia ib ⊢
  have hcell : (Sp.v ⟨who,TA,TB⟩).cells = [.int .i64 who,.int .i64 TA,.int .i64 TB] := rfl
  obtain ⟨N,hN⟩ : ∃ N,pre.length = N := ⟨_,rfl⟩
  rw [hN] at hget ⊢
  have z1 : ¬ (N : Int) = -1 := by omega
  have z2 : ¬ (N : Int) < 0 := by omega
  have w0 : IntKind.wrap .i64 (97 + (who : Int)) = 97 + (who : Int) := w64 (by omega) (by omega)
  have w2 : IntKind.wrap .u8 (97 + (who : Int)) = 97 + (who : Int) := by rw [IntKind.wrap_u8]; omega
  have w3 : (97 + (who : Int)).toNat = 97 + who := by omega
  have b1 : (1 + 1 + xa.length : Int) ≤ 9223372036854775807 := by omega
  have b5 : (2 + xa.length : Int) ≤ 9223372036854775807 := by omega
  have b6 : (2 + (xa.length + 1) : Int) ≤ 9223372036854775807 := by omega
  have b7 : (2 + (xa.length + 1 + xb.length) : Int) ≤ 9223372036854775807 := by omega
  have b8 : (2 + (xa.length + (1 + xb.length)) : Int) ≤ 9223372036854775807 := by omega
  have b9 : (2 + (xa.length + (xb.length + 1)) : Int) ≤ 9223372036854775807 := by omega
  have b10 : (2 + (xa.length + (xb.length + 1)) + 1 : Int) ≤ 9223372036854775807 := by omega
  have b11 : (2 + (xa.length + (xb.length + 1 + 1)) : Int) ≤ 9223372036854775807 := by omega
  have b12 : (2 + xa.length + 1 : Int) ≤ 9223372036854775807 := by omega
  have b13 : (2 + (xa.length + 1) + xb.length : Int) ≤ 9223372036854775807 := by omega
  have b14 : (2 + (xa.length + (xb.length + 2)) : Int) ≤ 9223372036854775807 := by omega
  have b2 : (1 + 1 + xa.length + 1 : Int) ≤ 9223372036854775807 := by omega
  have b3 : (1 + 1 + xa.length + 1 + xb.length : Int) ≤ 9223372036854775807 := by omega
  have b4 : (1 + 1 + xa.length + 1 + xb.length + 1 : Int) ≤ 9223372036854775807 := by omega
  have d0 : ((xa.length + 1 + 1 + 1 : Nat) : Int) ≤ 9223372036854775807 := by omega
  have d1 : ((xa.length + 1 + 1 + 1 + xb.length : Nat) : Int) ≤ 9223372036854775807 := by omega
  have d2 : ((xa.length + (xb.length + 1) + 1 + 1 : Nat) : Int) ≤ 9223372036854775807 := by omega
  have d3 : ((xa.length + (xb.length + 1) + 1 + 1 + 1 : Nat) : Int) ≤ 9223372036854775807 := by omega
  have d4 : ((xa.length + (xb.length + 1 + 1) + 1 + 1 : Nat) : Int) ≤ 9223372036854775807 := by omega
  have d5 : ((xa.length + 1 + 1 + 1 + xb.length + 1 : Nat) : Int) ≤ 9223372036854775807 := by omega
  have d6 : ((xa.length + 1 + 1 : Nat) : Int) ≤ 9223372036854775807 := by omega
  have d7 : ((xa.length + (1 + xb.length) + 1 + 1 : Nat) : Int) ≤ 9223372036854775807 := by omega
  have d8 : ((xa.length + (xb.length + (1 + 1)) + 1 + 1 : Nat) : Int) ≤ 9223372036854775807 := by omega
  simp only [Int.natCast_add,Int.natCast_one] at d0 d1 d2 d3 d4 d5 d6 d7 d8
  clear hTA hTB hxa hxb hrow hR e3 e4 e5 e6 es
  refine FZ (rs := [.tmp 4]) false Tryz.func137 ?_
  simp -dsimp [z1,z2,hget,hcell]
  refine twd [0,1,2,3,1004,5,6,7,8,9,13,14,15,10,11,12,16,17,18,19] [0,1] (List.replicate 20 [0,1]) (List.replicate 20 [0,1]) ?_
  simp -dsimp [z1,z2,hget,hcell,w0,w2]
  refine bld_ [(0,.int .u8 (97 + (who : Int)))] 5 [.int .u8 (97 + (who : Int))] (by simp -dsimp) (by simp -dsimp) ?_
  simp -dsimp [z1,z2,hget,hcell,w0,w2,w3]
  refine cl ia ?_
  simp -dsimp [b1,b2,b3,b4,b5,b6,b7,b8,b9,b10,b11,b12,b13,b14,d0,d1,d2,d3,d4,d5,d6,d7,d8]
  refine cl ib ?_
  simp -dsimp [b1,b2,b3,b4,b5,b6,b7,b8,b9,b10,b11,b12,b13,b14,d0,d1,d2,d3,d4,d5,d6,d7,d8]
end TL

namespace TL
open Go Go.Proofs
attribute [local simp] marksV storyV codeV Claim.v Place.v numsV
def truesV (n : Nat) : V := .sl (List.replicate n (.bool true))
def Iix (n : Nat) (e : Nat) (s : S) : Prop := ∃ i : Nat,s.tm 0 = .v (truesV n) ∧ s.tm 1 = .v (.bool false) ∧ s.tm 7 = .v (.int .i64 n) ∧ s.tm 8 = .v (.int .i64 i) ∧ i ≤ n ∧ (e = 1 → i = n)
theorem index_fn (n : Nat) (hn : n ≤ 1000) : FnZ Tryz.prog 205 [truesV n,.bool false] (.int .i64 (-1)) := by
 refine FZ (rs := [.tmp 4]) false Tryz.func205 ?_
 simp -dsimp [truesV]
 refine twp_loopC (Iix n 0) (fun s => n - natOf (s.tm 8)) (Iix n 1) ?_ ?_ ?_
 ·exact ⟨0,by simp -dsimp [truesV],by simp -dsimp,by simp -dsimp,by simp -dsimp,by omega,by simp⟩
 ·rintro s ⟨i,t0,t1,t7,t8,hi,hend⟩
  by_cases hlt : i < n
  case neg =>
   simp -dsimp [t7,t8,hlt]
   exact ⟨i,by simp -dsimp [t0],by simp -dsimp [t1],by simp -dsimp [t7],by simp -dsimp [t8],hi,fun _ => by omega⟩
  have wi : IntKind.wrap .i64 ((i : Int) + 1) = ((i + 1 : Nat) : Int) := by rw [w64 (by omega) (by omega)]; omega
  have hmu1 : n - (i + 1) < n - i := by omega
  simp -dsimp [t0,t1,t7,t8,hlt,truesV,wi,hmu1]
  exact ⟨i + 1,by simp -dsimp [t0,truesV],by simp -dsimp [t1],by simp -dsimp [t7],by simp -dsimp,by omega,by simp⟩
 ·rintro s ⟨i,t0,t1,t7,t8,hi,hend⟩
  simp -dsimp
theorem contains_fn (n : Nat) (hn : n ≤ 1000) : FnZ Tryz.prog 182 [truesV n,.bool false] (.bool false) := by
 have hi := index_fn n hn
 refine FZ (rs := [.tmp 4]) false Tryz.func182 ?_
 simp -dsimp
 refine cl hi ?_
 simp -dsimp
/-- The cells of a row of truths. -/
def bsT (bs : List Bool) : List T := bs.map fun b => T.v (.bool b)
@[simp] theorem bsT_len (bs : List Bool) : (bsT bs).length = bs.length := by simp [bsT]
theorem bsT_set (bs : List Bool) (i : Nat) (b : Bool) : (bsT bs).set i (.v (.bool b)) = bsT (bs.set i b) := by simp [bsT,List.map_set]
theorem bsT_get (bs : List Bool) (i : Nat) : (bsT bs)[i]? = (bs[i]?).map fun b => T.v (.bool b) := by simp [bsT]
theorem trues_bor {m : Mem} {i : Nat} {e : TypeId} {n : Nat} (h : m i = some (.box e 1 (bsT (List.replicate n true)))) (d : Nat) : bor true m (d + 1) (.sv i 0 n) = some (truesV n) := by
 have e1 : ∀ (d : Nat) (k : Nat),mapO (bor true m d) (bsT (List.replicate k true)) = some (List.replicate k (V.bool true)) := fun d k => by
  induction k with
  | zero => rfl
  | succ k ih =>
   rw [List.replicate_succ]
   show (bor true m d (.v (.bool true))).bind _ = _
   rw [show bor true m d (.v (.bool true)) = some (.bool true) by cases d <;> rfl]
   show (mapO (bor true m d) (bsT (List.replicate k true))).map _ = _
   rw [ih]; rfl
 have e2 : ∀ k : Nat,chunk 1 k (List.replicate k (V.bool true)) = List.replicate k (V.bool true) := fun k => by
  induction k with
  | zero => rfl
  | succ k ih => simp [chunk,List.replicate_succ]; exact ih
 show (match m i with | some (.box _ z cs) => tst (0 + n * z ≤ cs.length) (obind (mapO (TL.bor true m d) ((cs.drop 0).take (n * z))) fun xs => tst (∀ x ∈ xs,x.cell = true) (some (V.sl (chunk z n xs)))) | _ => none) = _
 rw [h]
 show tst (0 + n * 1 ≤ (bsT (List.replicate n true)).length) (obind (mapO (TL.bor true m d) (((bsT (List.replicate n true)).drop 0).take (n * 1))) fun xs => tst (∀ x ∈ xs,x.cell = true) (some (V.sl (chunk 1 n xs)))) = _
 rw [tst_pos (by simp),List.drop_zero,List.take_of_length_le (by simp),e1,obind_some,tst_pos (fun x hx => by rw [List.eq_of_mem_replicate hx]; rfl),e2]; rfl
end TL

namespace TL
open Go Go.Proofs
attribute [local simp] marksV storyV codeV Claim.v Place.v numsV
/-- The first so many were come to. -/
def bsAt (len a : Nat) : List Bool := List.replicate a true ++ List.replicate (len - a) false
theorem bsAt_len {len a : Nat} (h : a ≤ len) : (bsAt len a).length = len := by simp [bsAt]; omega
theorem bsAt_get {len a : Nat} (h : a < len) : (bsAt len a)[a]? = some false := by
 unfold bsAt
 rw [List.getElem?_append_right (by simp),List.length_replicate,Nat.sub_self,List.getElem?_replicate,if_pos (by omega)]
theorem bsAt_set {len a : Nat} (h : a < len) : (bsAt len a).set a true = bsAt len (a + 1) := by
 unfold bsAt
 rw [List.set_append_right _ _ (by simp),List.length_replicate,Nat.sub_self,show len - a = (len - (a + 1)) + 1 by omega,List.replicate_succ,List.set_cons_zero,List.replicate_succ']
 simp
def CkM (m : Mem) (p : Nat) (l : List Claim) (t : List Mark) (F : Int) (R : List Sp) (bs : List Bool) : Prop :=
 m 0 = some (.box 3 1 [.v (.int .i64 p)]) ∧ m 1 = some (.box 29 1 [.v (storyV l)]) ∧ m 2 = some (.box 83 1 [.v (marksV t)]) ∧ m 3 = some (.box 89 2 [.v (.int .i64 F),.v (spsV R)]) ∧
 m 4 = some (.box 4 1 (bsT bs)) ∧ m 5 = some (.box 187 1 [.sv 4 0 R.length]) ∧ m 7 = some (.box 188 1 [.fn 181 [.ptr 0 0,.ptr 1 0,.ptr 2 0,.ptr 3 0,.ptr 5 0,.ptr 7 0]])
theorem CkM.keep {m m' : Mem} {n p : Nat} {l : List Claim} {t : List Mark} {F : Int} {R : List Sp} {bs : List Bool} (h : CkM m p l t F R bs) (hn : 9 ≤ n) (h2 : ∀ j,j < n → m' j = m j) : CkM m' p l t F R bs := by
 obtain ⟨a0,a1,a2,a3,a4,a5,a7⟩ := h
 exact ⟨by rw [h2 0 (by omega),a0],by rw [h2 1 (by omega),a1],by rw [h2 2 (by omega),a2],by rw [h2 3 (by omega),a3],by rw [h2 4 (by omega),a4],by rw [h2 5 (by omega),a5],by rw [h2 7 (by omega),a7]⟩
def ckPost (p : Nat) (l : List Claim) (t : List Mark) (F : Int) (R : List Sp) (a : Nat) (m : Mem) (n : Nat) (x : T) (m' : Mem) (n' : Nat) : Prop := x = .v (.bool true) ∧ n ≤ n' ∧ CkM m' p l t F R (bsAt R.length a) ∧ ∀ j,9 ≤ j → j < n → m' j = m j
theorem check_split (p : Nat) (l : List Claim) (t : List Mark) (h : storyOk p l = true) (F : Int) (R : List Sp) (hR15 : R.length ≤ 1000) (who : Nat) (a b : PT) (world : Nat) (pre post : List Sp) (fr : Int) (m : Mem) (n : Nat) (hkp : who < p) (hw : world < 2 ^ who) (hR : R = pre ++ (PT.split who a b).row pre.length ++ post) (hfr : fr < pre.length) (hn : 9 ≤ n) (hM : CkM m p l t F R (bsAt R.length pre.length))
  (ia : ∀ (m : Mem) (n : Nat),9 ≤ n → CkM m p l t F R (bsAt R.length (pre.length + 1)) → FnS Tryz.prog 181 m n [.v (.int .i64 (a.to (pre.length + 1))),.v (.int .i64 (pre.length : Nat)),.v (.int .i64 (kn (who + 1))),.v (.int .i64 (world : Nat)),.ptr 0 0,.ptr 1 0,.ptr 2 0,.ptr 3 0,.ptr 5 0,.ptr 7 0] (ckPost p l t F R (pre.length + 1 + a.size) m n))
  (ib : ∀ (m : Mem) (n : Nat),9 ≤ n → CkM m p l t F R (bsAt R.length (pre.length + 1 + a.size)) → FnS Tryz.prog 181 m n [.v (.int .i64 (b.to (pre.length + 1 + a.size))),.v (.int .i64 (pre.length : Nat)),.v (.int .i64 (kn (who + 1))),.v (.int .i64 (world + 2 ^ who : Nat)),.ptr 0 0,.ptr 1 0,.ptr 2 0,.ptr 3 0,.ptr 5 0,.ptr 7 0] (ckPost p l t F R (pre.length + 1 + a.size + b.size) m n)) :
  FnS Tryz.prog 181 m n [.v (.int .i64 ((PT.split who a b).to pre.length)),.v (.int .i64 fr),.v (.int .i64 (kn who)),.v (.int .i64 (world : Nat)),.ptr 0 0,.ptr 1 0,.ptr 2 0,.ptr 3 0,.ptr 5 0,.ptr 7 0] (ckPost p l t F R (pre.length + (PT.split who a b).size) m n) := by
 have h4 : p ≤ 4 := by have := (allOk_of h).2.1; omega
 have hpk := pow_small (p := who) (by omega)
 have hlen : R.length = pre.length + (1 + a.size + b.size) + post.length := by rw [hR]; simp [PT.row_len,PT.size]; omega
 have e3 : (pre ++ [(⟨who,a.to (pre.length + 1),b.to (pre.length + 1 + a.size)⟩ : Sp)]).length = pre.length + 1 := by simp
 have e4 : (pre ++ [(⟨who,a.to (pre.length + 1),b.to (pre.length + 1 + a.size)⟩ : Sp)] ++ a.row (pre.length + 1)).length = pre.length + 1 + a.size := by rw [List.length_append,e3,PT.row_len]
 have hget : (R.map Sp.v)[pre.length]? = some (Sp.v ⟨who,a.to (pre.length + 1),b.to (pre.length + 1 + a.size)⟩) := by
  rw [hR]; simp [PT.row,Sp.v]
 have hget3 : R[pre.length]? = some ⟨who,a.to (pre.length + 1),b.to (pre.length + 1 + a.size)⟩ := by
  rw [hR]; simp [PT.row]
 have e5 : (PT.split who a b).to pre.length = (pre.length : Int) := rfl
 have e6 : pre.length + (PT.split who a b).size = pre.length + 1 + a.size + b.size := by simp only [PT.size]; omega
 rw [e5,e6]
 obtain ⟨TA,hTA⟩ : ∃ TA,a.to (pre.length + 1) = TA := ⟨_,rfl⟩
 obtain ⟨TB,hTB⟩ : ∃ TB,b.to (pre.length + 1 + a.size) = TB := ⟨_,rfl⟩
 rw [hTA] at ia hget hget3
 rw [hTB] at ib hget hget3
 have hcell : (Sp.v ⟨who,TA,TB⟩).cells = [.int .i64 who,.int .i64 TA,.int .i64 TB] := rfl
 obtain ⟨N,hN⟩ : ∃ N,pre.length = N := ⟨_,rfl⟩
 rw [hN] at hget hget3 hlen ia ib hM hfr ⊢
 have hNR : N < R.length := by omega
 have hset := bsT_set (bsAt R.length N) N true
 rw [bsAt_set hNR] at hset
 have hgb : (bsT (bsAt R.length N))[N]? = some (.v (.bool false)) := by rw [bsT_get,bsAt_get hNR]; rfl
 have hRN : ∀ hh : N < R.length,R[N]'hh = ⟨who,TA,TB⟩ := fun hh => by
  have := List.getElem?_eq_getElem hh
  rw [hget3] at this; exact (Option.some.inj this).symm
 have hgb2 : ∀ hh : N < (bsT (bsAt R.length N)).length,(bsT (bsAt R.length N))[N]'hh = .v (.bool false) := fun hh => by
  have := List.getElem?_eq_getElem hh
  rw [hgb] at this; exact (Option.some.inj this).symm
 have hbl : (bsT (bsAt R.length N)).length = R.length := by rw [bsT_len,bsAt_len (by omega)]
 have hor1 := or_ni (a := 2 ^ who - 1) (b := 2 ^ who) (x := (2 : Int) ^ who) (by simp) (by omega) (by omega)
 have hor2 := or_ni (a := world) (b := 2 ^ who) (x := (2 : Int) ^ who) (by simp) (by omega) (by omega)
 rw [or_pow hw] at hor2
 have ekn : kn (who + 1) = (((2 ^ who - 1) ||| 2 ^ who : Nat) : Int) := by rw [kn_succ]; rfl
 rw [ekn] at ia ib
 obtain ⟨W2,hW2⟩ : ∃ W2,world + 2 ^ who = W2 := ⟨_,rfl⟩
 rw [hW2] at ib hor2
 have hkb := kn_bit who who (by omega) (by omega)
 rw [if_neg (by omega)] at hkb
 have hsh := shl_fact (w := who) (by omega)
 have ek : kn who = (((2 ^ who - 1 : Nat)) : Int) := rfl
 rw [ek] at hkb ⊢
 obtain ⟨q,hq⟩ : ∃ q,2 ^ who - 1 = q := ⟨_,rfl⟩
 rw [hq] at hor1 ia ib hkb ⊢
 have z1 : ¬ (N : Int) < 0 := by omega
 have z2 : ¬ (N : Int) ≤ fr := by omega
 have z3 : ¬ (R.length : Int) ≤ N := by omega
 have z4 : ¬ R.length ≤ N := by omega
 have z5 : ¬ (who : Int) < 0 := by omega
 have z6 : ¬ (p : Int) ≤ who := by omega
 have z7 : ¬ p ≤ who := by omega
 have m0 := hM.1
 have m1 := hM.2.1
 have m2 := hM.2.2.1
 have m3 := hM.2.2.2.1
 have m4 := hM.2.2.2.2.1
 have m5 := hM.2.2.2.2.2.1
 have m7 := hM.2.2.2.2.2.2
 have hNR2 : N + 1 ≤ R.length := by omega
 have y0 : ¬ n = 0 := by omega
 have y3 : ¬ n = 3 := by omega
 have y4 : ¬ n = 4 := by omega
 have y5 : ¬ n = 5 := by omega
 have y7 : ¬ n = 7 := by omega
 have f0 := far (show 0 < n by omega)
 have f3 := far (show 3 < n by omega)
 have f4 := far (show 4 < n by omega)
 have f5 := far (show 5 < n by omega)
 have f7 := far (show 7 < n by omega)
 refine FS (rs := [.tmp 14]) false Tryz.func181 ?_
 simp -dsimp [m0,m1,m2,m3,m4,m5,m7,z1,z2,z3,z4,z5,z6,z7,hget,hRN,hcell,hgb,hgb2,hbl,hset,hNR,hNR2,hkb,spsV,f0,f3,f4,f5,f7,y0,y3,y4,y5,y7,hsh,hor1,nes]
 refine twd (List.range 21) [7,n + 1] ([[0],[],[1],[],[],[],[],[],[0],[],[1],[],[],[],[],[1]] ++ List.replicate 5 []) (List.replicate 6 [0,1] ++ [[]] ++ List.replicate 14 [0,1]) ?_
 simp -dsimp [List.range_succ,m7,z5,f0,f3,f4,f5,f7,y0,y3,y4,y5,y7,nes,hor1]
 refine callS_ (ia _ _ ?_ ?_) ?_
 ·omega
 ·exact ⟨by simp [m0,f0,y0],by simp [m1,y0,show ¬ 1 = n by omega,show ¬ n = 1 by omega,far (show 1 < n by omega)],by simp [m2,far (show 2 < n by omega)],by simp [m3,f3],by simp [f4],by simp [m5,f5],by simp [m7,f7]⟩
 rintro x3 m3 n3 ⟨rfl,hn3,hM3,hout3⟩
 have sb := hout3 (n + 1) (by omega) (by omega)
 have p7 := hM3.2.2.2.2.2.2
 simp -dsimp [nes] at sb
 simp -dsimp [List.range_succ,keepP,p7,sb,z5,f0,f3,f4,f5,f7,y0,y3,y4,y5,y7,nes,hor1,hor2,hsh]
 refine callS_ (ib _ _ ?_ ?_) ?_
 ·omega
 ·exact hM3
 rintro x4 m4 n4 ⟨rfl,hn4,hM4,hout4⟩
 have sb4 := hout4 (n + 1) (by omega) (by omega)
 have p74 := hM4.2.2.2.2.2.2
 simp -dsimp [keepP,p7,p74,sb4]
 exact ⟨rfl,by omega,hM4,fun j h9 hj => by rw [hout4 j h9 (by omega),hout3 j h9 (by omega)]; simp [far hj,show ¬ j = 4 by omega,show ¬ j = n by omega,show ¬ j = n + 1 by omega]⟩
theorem check_s (p : Nat) (l : List Claim) (t : List Mark) (h : storyOk p l = true) (ht : termOk p t = true) (F : Int) (R : List Sp) (hR15 : R.length ≤ 1000) : ∀ (y : PT) (k world : Nat) (pre post : List Sp) (fr : Int) (m : Mem) (n : Nat),okT p l t y k world → k ≤ p → world < 2 ^ k → R = pre ++ y.row pre.length ++ post → fr < pre.length → 9 ≤ n → CkM m p l t F R (bsAt R.length pre.length) →
  FnS Tryz.prog 181 m n [.v (.int .i64 (y.to pre.length)),.v (.int .i64 fr),.v (.int .i64 (kn k)),.v (.int .i64 world),.ptr 0 0,.ptr 1 0,.ptr 2 0,.ptr 3 0,.ptr 5 0,.ptr 7 0] (ckPost p l t F R (pre.length + y.size) m n)
 | .goal,k,world,pre,post,fr,m,n,hy,hk,hw,hR,hfr,hn,hM => by
  have hcl := closedBy_s p l t h ht k world (by have := (allOk_of h).2.1; omega) m n
  have e1 : PT.goal.to pre.length = -1 := rfl
  have e2 : pre.length + PT.goal.size = pre.length := rfl
  have hg : closG p t k world = true := hy
  rw [e1,e2]
  have m0 := hM.1
  have m1 := hM.2.1
  have m2 := hM.2.2.1
  refine FS (rs := [.tmp 14]) false Tryz.func181 ?_
  simp -dsimp [m0,m1,m2]
  refine callS_ hcl ?_
  rintro x m1 n1 ⟨id,es,rfl,hid,hid2,hmid,hok,hout⟩
  have hgo := hok.1
  rw [hg] at hgo
  simp -dsimp [hmid,hgo]
  exact ⟨rfl,by omega,hM.keep hn hout,fun j _ hj => hout j hj⟩
 | .claim i,k,world,pre,post,fr,m,n,hy,hk,hw,hR,hfr,hn,hM => by
  have hcl := closedBy_s p l t h ht k world (by have := (allOk_of h).2.1; omega) m n
  have hi := hy.1
  have h6 := (allOk_of h).2.2.2
  have e1 : (PT.claim i).to pre.length = -2 - (i : Int) := rfl
  have e2 : pre.length + (PT.claim i).size = pre.length := rfl
  have c2 : -2 - (i : Int) < 0 := by omega
  rw [e1,e2]
  have m0 := hM.1
  have m1 := hM.2.1
  have m2 := hM.2.2.1
  refine FS (rs := [.tmp 14]) false Tryz.func181 ?_
  simp -dsimp [m0,m1,m2,c2]
  refine callS_ hcl ?_
  rintro x m1 n1 ⟨id,es,rfl,hid,hid2,hmid,hok,hout⟩
  have hgo := hok.2 i hi
  rw [hy.2] at hgo
  simp -dsimp [hmid,hgo]
  exact ⟨rfl,by omega,hM.keep hn hout,fun j _ hj => hout j hj⟩
 | .split who a b,k,world,pre,post,fr,m,n,hy,hk,hw,hR,hfr,hn,hM => by
  obtain ⟨hwho,hkp,ha,hb⟩ := hy
  subst hwho
  have hlen : R.length = pre.length + (1 + a.size + b.size) + post.length := by rw [hR]; simp [PT.row_len,PT.size]; omega
  have e3 : (pre ++ [(⟨who,a.to (pre.length + 1),b.to (pre.length + 1 + a.size)⟩ : Sp)]).length = pre.length + 1 := by simp
  have e4 : (pre ++ [(⟨who,a.to (pre.length + 1),b.to (pre.length + 1 + a.size)⟩ : Sp)] ++ a.row (pre.length + 1)).length = pre.length + 1 + a.size := by rw [List.length_append,e3,PT.row_len]
  refine check_split p l t h F R hR15 who a b world pre post fr m n hkp hw hR hfr hn hM (fun m n h9 hM => ?_) (fun m n h9 hM => ?_)
  ·have := check_s p l t h ht F R hR15 a (who + 1) world (pre ++ [⟨who,a.to (pre.length + 1),b.to (pre.length + 1 + a.size)⟩]) (b.row (pre.length + 1 + a.size) ++ post) pre.length m n ha (by omega) (by rw [Nat.pow_succ]; omega) (by rw [hR]; simp [PT.row,List.append_assoc]) (by rw [e3]; omega) h9 (by rw [e3]; exact hM)
   rw [e3] at this; exact this
  ·have := check_s p l t h ht F R hR15 b (who + 1) (world + 2 ^ who) (pre ++ [⟨who,a.to (pre.length + 1),b.to (pre.length + 1 + a.size)⟩] ++ a.row (pre.length + 1)) post pre.length m n hb (by omega) (by rw [Nat.pow_succ]; omega) (by rw [hR]; simp [PT.row,PT.row_len,List.append_assoc]; congr 1; omega) (by rw [e4]; omega) h9 (by rw [e4]; exact hM)
   rw [e4] at this; exact this
end TL

namespace TL
open Go Go.Proofs
attribute [local simp] marksV storyV codeV Claim.v Place.v numsV
theorem to_zero (y : PT) : y.size = 0 ∨ y.to 0 = 0 := by
 cases y with
 | goal => exact .inl rfl
 | claim i => exact .inl rfl
 | split who a b => exact .inr rfl
theorem proofOk_fn (p : Nat) (l : List Claim) (t : List Mark) (h : storyOk p l = true) (ht : termOk p t = true) (y : PT) (hy : okT p l t y 0 0) (hs : y.size ≤ 15) : FnZ Tryz.prog 136 [.int .i64 p,storyV l,marksV t,proofV (some y)] (.bool true) := by
 obtain ⟨h1,h4,hc,h6⟩ := allOk_of h
 have hok := storyOk_fn p l (by omega)
 rw [h] at hok
 have hto := termOk_fn p t
 rw [ht] at hto
 have hrl := y.row_len 0
 have hck := fun m => check_s p l t h ht (y.to 0) (y.row 0) (by omega) y 0 0 [] [] (-1) m 9 hy (by omega) (by simp) (by simp) (by simp) (by omega)
 have hz := to_zero y
 rw [← hrl] at hz hs hck
 have hct := contains_fn (y.row 0).length (by omega)
 have hpv : proofV (some y) = .agg [.int .i64 (y.to 0),.sl ((y.row 0).map Sp.v)] := rfl
 rw [hpv]
 obtain ⟨F,hF⟩ : ∃ F,y.to 0 = F := ⟨_,rfl⟩
 obtain ⟨R,hR⟩ : ∃ R,y.row 0 = R := ⟨_,rfl⟩
 simp only [List.length_nil,Nat.zero_add] at hck
 rw [hF,hR] at hck
 rw [hF] at hz ⊢
 rw [hR] at hz hs hct ⊢
 have ek : kn 0 = 0 := rfl
 rw [ek] at hck
 simp only [Int.natCast_zero] at hck
 have e0 : List.flatten (List.replicate R.length [T.v (.bool false)]) = bsT (bsAt R.length 0) := by
  rw [List.flatten_replicate_singleton]; simp [bsT,bsAt]
 have e1 : bsAt R.length R.length = List.replicate R.length true := by simp [bsAt]
 have b0 : ¬ (15 : Int) < R.length := by omega
 have b1 : (R.length : Int) ≤ 281474976710656 := by omega
 have b2 : (R.length : Int) ≤ 9223372036854775807 := by omega
 have b3 : ¬ 15 < R.length := by omega
 have hbr := fun (m : Mem) (hm : m 4 = some (.box 4 1 (bsT (List.replicate R.length true)))) (d : Nat) => trues_bor hm d
 rcases hz with hz | hz
 ·have c0 : ¬ 0 < R.length := by omega
  have c1 : ¬ (0 : Int) < R.length := by omega
  have c2 : R = [] := List.length_eq_zero_iff.1 hz
  refine FZ (rs := [.tmp 8]) false Tryz.func136 ?_
  simp -dsimp
  refine cl hok ?_
  simp -dsimp
  refine cl hto ?_
  simp -dsimp [b0,b1,b2,b3,c0,c1,e0]
  refine callS_ (hck _ ?_) ?_
  ·exact ⟨by simp,by simp,by simp,by simp [spsV],by simp,by simp,by simp⟩
  rintro x3 m3 n3 ⟨rfl,hn3,hM3,hout3⟩
  have q4 := hM3.2.2.2.2.1
  have q5 := hM3.2.2.2.2.2.1
  rw [e1] at q4
  have hb3 := hbr m3 q4 3
  simp -dsimp [q5]
  refine callM_ hct (by simp -dsimp [hb3]) rfl ?_
  simp -dsimp
 ·subst hz
  by_cases c0 : 0 < R.length
  ·have c1 : (0 : Int) < R.length := by omega
   have c2 : ¬ R = [] := fun h => by rw [h] at c0; simp at c0
   refine FZ (rs := [.tmp 8]) false Tryz.func136 ?_
   simp -dsimp
   refine cl hok ?_
   simp -dsimp
   refine cl hto ?_
   simp -dsimp [b0,b1,b2,b3,c0,c1,e0]
   refine callS_ (hck _ ?_) ?_
   ·exact ⟨by simp,by simp,by simp,by simp [spsV],by simp,by simp,by simp⟩
   rintro x3 m3 n3 ⟨rfl,hn3,hM3,hout3⟩
   have q4 := hM3.2.2.2.2.1
   have q5 := hM3.2.2.2.2.2.1
   rw [e1] at q4
   have hb3 := hbr m3 q4 3
   simp -dsimp [q5]
   refine callM_ hct (by simp -dsimp [hb3]) rfl ?_
   simp -dsimp
  ·have c1 : ¬ (0 : Int) < R.length := by omega
   refine FZ (rs := [.tmp 8]) false Tryz.func136 ?_
   simp -dsimp
   refine cl hok ?_
   simp -dsimp
   refine cl hto ?_
   simp -dsimp [b0,b1,b2,b3,c0,c1,e0]
   refine callS_ (hck _ ?_) ?_
   ·exact ⟨by simp,by simp,by simp,by simp [spsV],by simp,by simp,by simp⟩
   rintro x3 m3 n3 ⟨rfl,hn3,hM3,hout3⟩
   have q4 := hM3.2.2.2.2.1
   have q5 := hM3.2.2.2.2.2.1
   rw [e1] at q4
   have hb3 := hbr m3 q4 3
   simp -dsimp [q5]
   refine callM_ hct (by simp -dsimp [hb3]) rfl ?_
   simp -dsimp
theorem proofText_fn (p : Nat) (l : List Claim) (t : List Mark) (h : storyOk p l = true) (ht : termOk p t = true) (y : PT) (hy : okT p l t y 0 0) (hs : y.size ≤ 15) : FnZ Tryz.prog 86 [.int .i64 p,storyV l,marksV t,proofV (some y)] (.str y.tx) := by
 obtain ⟨h1,h4,hc,h6⟩ := allOk_of h
 have hpo := proofOk_fn p l t h ht y hy hs
 have hct := caseText_fn p l t (by omega) h6 y 0 0 [] [] (y.to 0) (y.row 0) hy hs (by simp; omega) (by simp)
 simp only [List.length_nil] at hct
 have hpv : proofV (some y) = .agg [.int .i64 (y.to 0),spsV (y.row 0)] := rfl
 rw [hpv] at hpo ⊢
 obtain ⟨F,hF⟩ : ∃ F,y.to 0 = F := ⟨_,rfl⟩
 obtain ⟨W,hW⟩ : ∃ W,spsV (y.row 0) = W := ⟨_,rfl⟩
 have hWc : W.cell = true := by rw [← hW]; rfl
 have hWs : ∃ xs,W = .sl xs := ⟨_,hW.symm⟩
 obtain ⟨xs,rfl⟩ := hWs
 rw [hF,hW] at hpo hct ⊢
 refine FZ (rs := [.tmp 8]) false Tryz.func86 ?_
 simp -dsimp
 refine cl hpo ?_
 simp -dsimp
 refine cl hct ?_
 simp -dsimp
end TL

namespace TL
open Go Go.Proofs
attribute [local simp] mapZ_ii
def la (people t : Int) : Int := if tableOk people t = true then lv people.toNat people.toNat t.toNat else -1
theorem la_ok {p T : Nat} (h1 : 1 ≤ p) (h4 : p ≤ 4) (hT : InT p T) : la p T = lv p p T := by
 unfold la; rw [if_pos (tab_ok h1 h4 hT)]; rfl
theorem leastAsks_fn (people t : Int) : FnZ Tryz.prog 82 [.int .i64 people,.int .i64 t] (.int .i64 (la people t)) := by
 have hk := ft (tableOk people t)
 have hok := tableOk_fn people t
 rcases hk with hk | hk
 ·have e : la people t = -1 := if_neg (by simp [hk])
  rw [hk] at hok
  refine FZ (rs := [.tmp 4]) false Tryz.func82 ?_
  simp -dsimp
  refine cl hok ?_
  simp -dsimp [e]
 ·rw [hk] at hok
  obtain ⟨p,T,rfl,rfl,h1,h4,hT⟩ := tableOk_spec hk
  have e := la_ok h1 h4 hT
  have hs := leastAsks_s p h1 h4 T hT
  refine FZ (rs := [.tmp 4]) false Tryz.func82 ?_
  simp -dsimp
  refine cl hok ?_
  simp -dsimp [e]
  refine callS_ (hs _ 1 0 [] (by omega) (by simp) (fun U v h => by cases h)) ?_
  rintro t m3 n3 ⟨rfl,hn3,es3,hg3,rfl⟩
  simp -dsimp [e]
def Ilt1 (p T : Nat) (e : Nat) (s : S) : Prop := ∃ k : Nat,s.tm 0 = .v (.int .i64 p) ∧ s.tm 1 = .v (.int .i64 T) ∧ s.tm 5 = .v (.int .i64 k) ∧ k ≤ p ∧ (∀ i,i < k → tells p T i = false) ∧ (e = 1 → k = p)
def Ilt2 (p T k : Nat) (e : Nat) (s : S) : Prop := ∃ w : Nat,s.tm 0 = .v (.int .i64 p) ∧ s.tm 1 = .v (.int .i64 T) ∧ s.tm 5 = .v (.int .i64 k) ∧ s.tm 6 = .v (.bool ((List.range w).all fun w => !T.testBit w || w.testBit k)) ∧ s.tm 7 = .v (.int .i64 w) ∧ w ≤ 2 ^ p ∧ (e = 1 → w = 2 ^ p)
theorem l13Teller_fn (p T : Nat) (h1 : 1 ≤ p) (h4 : p ≤ 4) (hT : InT p T) : FnZ Tryz.prog 150 [.int .i64 p,.int .i64 T] (.int .i64 (ktell p T)) := by
 have hs := table_small h4 hT
 have hN : 2 ^ p ≤ 2 ^ 4 := Nat.pow_le_pow_right (by omega) h4
 have ws : IntKind.wrap .i64 (2 ^ min p IntKind.i64.bits) = ((2 ^ p : Nat) : Int) := by rw [shl_fact (by omega)]; simp
 have hp0 : ¬ (p : Int) < 0 := by omega
 refine FZ (rs := [.tmp 4]) false Tryz.func150 ?_
 simp -dsimp
 refine twp_loopC (Ilt1 p T 0) (fun s => p - natOf (s.tm 5)) (Ilt1 p T 1) ?_ ?_ ?_
 ·exact ⟨0,by simp -dsimp,by simp -dsimp,by simp -dsimp,by omega,fun i hi => absurd hi (by omega),by simp⟩
 ·rintro s ⟨k,t0,t1,t5,hk,hno,hend⟩
  by_cases hlt : k < p
  case neg =>
   simp -dsimp [t0,t5,hlt]
   exact ⟨k,by simp -dsimp [t0],by simp -dsimp [t1],by simp -dsimp [t5],hk,hno,fun _ => by omega⟩
  have wk : IntKind.wrap .i64 ((k : Int) + 1) = ((k + 1 : Nat) : Int) := by rw [w64 (by omega) (by omega)]; omega
  have hmu : p - (k + 1) < p - k := by omega
  have z5 : ¬ (k : Int) < 0 := by omega
  simp -dsimp [t0,t5,hlt]
  refine twp_loopC (Ilt2 p T k 0) (fun s => 2 ^ p - natOf (s.tm 7)) (Ilt2 p T k 1) ?_ ?_ ?_
  ·exact ⟨0,by simp -dsimp [t0],by simp -dsimp [t1],by simp -dsimp [t5],by simp -dsimp,by simp -dsimp,Nat.zero_le _,by simp⟩
  ·rintro s2 ⟨w,u0,u1,u5,u6,u7,hw,hend2⟩
   generalize hNN : 2 ^ p = N at ws hN hw hend2
   by_cases hlt2 : w < N
   case neg =>
    simp -dsimp [u0,u7,hp0,ws,hlt2]
    exact ⟨w,by simp -dsimp [u0],by simp -dsimp [u1],by simp -dsimp [u5],by simp -dsimp [u6],by simp -dsimp [u7],by omega,fun _ => by omega⟩
   have ww : IntKind.wrap .i64 ((w : Int) + 1) = ((w + 1 : Nat) : Int) := by rw [w64 (by omega) (by omega)]; omega
   have hmu2 : N - (w + 1) < N - w := by omega
   have z7 : ¬ (w : Int) < 0 := by omega
   have b1 := bit2 T w (by omega)
   have b2 := bit2 w k (by omega)
   have hall : ((List.range (w + 1)).all fun w => !T.testBit w || w.testBit k) = (((List.range w).all fun w => !T.testBit w || w.testBit k) && (!T.testBit w || w.testBit k)) := by rw [List.range_succ,List.all_append]; simp
   generalize ((List.range w).all fun w => !T.testBit w || w.testBit k) = A at *
   cases A with
   | false =>
    simp -dsimp [u0,u1,u5,u6,u7,hp0,ws,hlt2,ww,hmu2]
    exact ⟨w + 1,by simp -dsimp [u0],by simp -dsimp [u1],by simp -dsimp [u5],by simp -dsimp [hall],by simp -dsimp,by omega,by simp⟩
   | true =>
    cases hb : T.testBit w with
    | false =>
     rw [hb] at b1 hall
     simp -dsimp [u0,u1,u5,u6,u7,hp0,ws,hlt2,ww,hmu2,z5,z7,b1,b2]
     exact ⟨w + 1,by simp -dsimp [u0],by simp -dsimp [u1],by simp -dsimp [u5],by simp -dsimp [hall],by simp -dsimp,by omega,by simp⟩
    | true =>
     rw [hb] at b1 hall
     cases hc : w.testBit k with
     | false =>
      rw [hc] at b2 hall
      simp -dsimp [u0,u1,u5,u6,u7,hp0,ws,hlt2,ww,hmu2,z5,z7,b1,b2]
      exact ⟨w + 1,by simp -dsimp [u0],by simp -dsimp [u1],by simp -dsimp [u5],by simp -dsimp [hall],by simp -dsimp,by omega,by simp⟩
     | true =>
      rw [hc] at b2 hall
      simp -dsimp [u0,u1,u5,u6,u7,hp0,ws,hlt2,ww,hmu2,z5,z7,b1,b2]
      exact ⟨w + 1,by simp -dsimp [u0],by simp -dsimp [u1],by simp -dsimp [u5],by simp -dsimp [hall],by simp -dsimp,by omega,by simp⟩
  ·rintro s2 ⟨w,u0,u1,u5,u6,u7,hw,hend2⟩
   have := hend2 rfl
   subst this
   have htl : ((List.range (2 ^ p)).all fun w => !T.testBit w || w.testBit k) = tells p T k := rfl
   rw [htl] at u6
   have htc := ft (tells p T k)
   rcases htc with htc | htc
   ·rw [htc] at u6
    simp -dsimp [u5,u6,wk,hmu,t5]
    refine ⟨k + 1,by simp -dsimp [u0],by simp -dsimp [u1],by simp -dsimp,by omega,fun i hi => ?_,by simp⟩
    rcases Nat.lt_or_ge i k with h | h
    ·exact hno i h
    ·have : i = k := by omega
     rw [this]; exact htc
   ·have e : ktell p T = (k : Int) := by
     unfold ktell
     rcases find_range (f := tells p T) p with ⟨d,g1,g2,g3,g4⟩ | ⟨g1,g2⟩
     ·rw [g1]
      have : d = k := by
       rcases Nat.lt_trichotomy d k with h | h | h
       ·rw [hno d h] at g3; cases g3
       ·exact h
       ·rw [g4 k h] at htc; cases htc
      rw [this]
     ·rw [g2 k hlt] at htc; cases htc
    rw [htc] at u6
    simp -dsimp [u5,u6,e]
 ·rintro s ⟨k,t0,t1,t5,hk,hno,hend⟩
  have := hend rfl
  subst this
  have e : ktell k T = -1 := by
   unfold ktell
   rcases find_range (f := tells k T) k with ⟨d,g1,g2,g3,g4⟩ | ⟨g1,g2⟩
   ·rw [hno d g2] at g3; cases g3
   ·rw [g1]
  simp -dsimp [e]
end TL

namespace TL
open Go Go.Proofs
theorem ktell_done {p T : Nat} (h0 : ¬ T = 0) : 0 ≤ ktell p T ↔ doneT p T = true := by
 have := kt_done (p := p) (T := T)
 unfold kt at this
 rw [if_neg h0] at this
 rw [← this]
 exact ⟨fun h => .inl h,fun h => h.resolve_right h0⟩
theorem split_not {p T i j : Nat} (hT : InT p T) : splits p T i j = false ↔ askY p T i j = T ∨ askN p T i j = T := by
 constructor
 ·intro h
  by_cases hy : askY p T i j = 0
  ·refine .inr ?_
   apply Nat.eq_of_testBit_eq; intro w
   have : (askY p T i j).testBit w = false := by rw [hy,Nat.zero_testBit]
   rw [bit_askY hT] at this
   rw [bit_askN hT]
   cases hw : T.testBit w
   ·rfl
   ·rw [hw] at this
    rw [show (w.testBit i == w.testBit j) = false by simpa using this]; rfl
  ·by_cases hn : askN p T i j = 0
   ·refine .inl ?_
    apply Nat.eq_of_testBit_eq; intro w
    have : (askN p T i j).testBit w = false := by rw [hn,Nat.zero_testBit]
    rw [bit_askN hT] at this
    rw [bit_askY hT]
    cases hw : T.testBit w
    ·rfl
    ·rw [hw] at this
     rw [show (w.testBit i == w.testBit j) = true by simpa using this]; rfl
   ·rw [splits_iff.2 ⟨hy,hn⟩] at h; cases h
 ·intro h
  cases hs : splits p T i j
  ·rfl
  ·have := split_lt hT hs
   omega
theorem asked13 {p T i j : Nat} (h1 : 1 ≤ p) (h4 : p ≤ 4) (hT : InT p T) (hi : i < p) (hj : j < p) : FnZ Tryz.prog 151 [.int .i64 p,.int .i64 T,.int .i64 i,.int .i64 j,.bool true] (.int .i64 ((askY p T i j : Nat) : Int)) ∧ FnZ Tryz.prog 151 [.int .i64 p,.int .i64 T,.int .i64 i,.int .i64 j,.bool false] (.int .i64 ((askN p T i j : Nat) : Int)) := by
 have a := l13Asked_fn p T i j true h1 h4 (table_small h4 hT) (by omega) (by omega)
 have b := l13Asked_fn p T i j false h1 h4 (table_small h4 hT) (by omega) (by omega)
 rw [askedS_val _ hT] at a b
 exact ⟨a,b⟩
def Ime (p T m : Nat) (e : Nat) (s : S) : Prop := ∃ (i : Nat) (best : Int),s.tm 0 = .v (.int .i64 p) ∧ s.tm 1 = .v (.int .i64 T) ∧ s.tm 2 = .v (.int .i64 ((m + 1 : Nat) : Int)) ∧ s.tm 7 = .v (.int .i64 best) ∧ s.tm 8 = .v (.int .i64 i) ∧ i ≤ p ∧
 InvB p T (lv p m) (fun a b => a < i ∧ a < b ∧ b < p) best ∧ (e = 1 → i = p)
def Imi (p T m i : Nat) (e : Nat) (s : S) : Prop := ∃ (j : Nat) (best : Int),s.tm 0 = .v (.int .i64 p) ∧ s.tm 1 = .v (.int .i64 T) ∧ s.tm 2 = .v (.int .i64 ((m + 1 : Nat) : Int)) ∧ s.tm 7 = .v (.int .i64 best) ∧ s.tm 8 = .v (.int .i64 i) ∧ s.tm 9 = .v (.int .i64 j) ∧ i < j ∧ j ≤ p ∧
 InvB p T (lv p m) (fun a b => (a < i ∧ a < b ∧ b < p) ∨ (a = i ∧ i < b ∧ b < j)) best ∧ (e = 1 → j = p)
theorem l13Least_fn (p : Nat) (h1 : 1 ≤ p) (h4 : p ≤ 4) : ∀ m : Nat,m ≤ 1000 → ∀ T : Nat,InT p T → FnZ Tryz.prog 106 [.int .i64 p,.int .i64 T,.int .i64 m] (.int .i64 (lv p m T)) := by
 intro m
 induction m with
 | zero =>
  intro _ T hT
  have hkt := l13Teller_fn p T h1 h4 hT
  by_cases h0 : T = 0
  ·subst h0
   have e : lv p 0 0 = 0 := lv_done (doneT_iff.2 (.inl rfl))
   refine FZ (rs := [.tmp 6]) false Tryz.func106 ?_
   simp -dsimp [e]
  have hkd := ktell_done (p := p) h0
  cases hd : doneT p T with
  | true =>
   have e : lv p 0 T = 0 := lv_done hd
   have hk := hkd.2 hd
   generalize ktell p T = q at *
   refine FZ (rs := [.tmp 6]) false Tryz.func106 ?_
   simp -dsimp [h0]
   refine cl hkt ?_
   simp -dsimp [h0,hk,e]
  | false =>
   have e : lv p 0 T = -1 := lv_zero hd
   have hk : ¬ 0 ≤ ktell p T := fun h => by rw [hkd.1 h] at hd; cases hd
   generalize ktell p T = q at *
   refine FZ (rs := [.tmp 6]) false Tryz.func106 ?_
   simp -dsimp [h0]
   refine cl hkt ?_
   simp -dsimp [h0,hk,e]
 | succ m ih =>
  intro hm T hT
  have ih := ih (by omega)
  have hkt := l13Teller_fn p T h1 h4 hT
  by_cases h0 : T = 0
  ·have e : lv p (m + 1) T = 0 := lv_done (doneT_iff.2 (.inl h0))
   refine FZ (rs := [.tmp 6]) false Tryz.func106 ?_
   simp -dsimp [h0]
   rw [← h0,e]
  have hkd := ktell_done (p := p) h0
  cases hd : doneT p T with
  | true =>
   have e : lv p (m + 1) T = 0 := lv_done hd
   have hk := hkd.2 hd
   generalize ktell p T = q at *
   refine FZ (rs := [.tmp 6]) false Tryz.func106 ?_
   simp -dsimp [h0]
   refine cl hkt ?_
   simp -dsimp [h0,hk,e]
  | false =>
   have hk : ¬ 0 ≤ ktell p T := fun h => by rw [hkd.1 h] at hd; cases hd
   have hm0 : ¬ ((m + 1 : Nat) : Int) = 0 := by omega
   have hm0' : ¬ (m : Int) + 1 = 0 := by omega
   have wm : IntKind.wrap .i64 (((m + 1 : Nat) : Int) - 1) = (m : Int) := by rw [w64 (by omega) (by omega)]; omega
   have wm' : IntKind.wrap .i64 (m : Int) = (m : Int) := w64 (by omega) (by omega)
   generalize ktell p T = q at *
   refine FZ (rs := [.tmp 6]) false Tryz.func106 ?_
   simp -dsimp [h0]
   refine cl hkt ?_
   simp -dsimp [h0,hk,hm0,hm0']
   refine twp_loopC (Ime p T m 0) (fun s => p - natOf (s.tm 8)) (Ime p T m 1) ?_ ?_ ?_
   ·exact ⟨0, -1,by simp -dsimp,by simp -dsimp,by simp -dsimp,by simp -dsimp,by simp -dsimp,by omega,.inl ⟨rfl,fun a b hab => by omega⟩,by simp⟩
   ·rintro s ⟨i,best,t0,t1,t2,t7,t8,hi,hinv,hend⟩
    by_cases hlt : i < p
    case neg =>
     simp -dsimp [t0,t8,hlt]
     exact ⟨i,best,by simp -dsimp [t0],by simp -dsimp [t1],by simp -dsimp [t2],by simp -dsimp [t7],by simp -dsimp [t8],hi,hinv,fun _ => by omega⟩
    have wi : IntKind.wrap .i64 ((i : Int) + 1) = ((i + 1 : Nat) : Int) := by rw [w64 (by omega) (by omega)]; omega
    have hmu : p - (i + 1) < p - i := by omega
    simp -dsimp [t0,t8,hlt,wi]
    refine twp_loopB (Imi p T m i 0) (fun s => p - natOf (s.tm 9)) (Imi p T m i 1) ?_ ?_ ?_
    ·exact ⟨i + 1,best,by simp -dsimp [t0],by simp -dsimp [t1],by simp -dsimp [t2],by simp -dsimp [t7],by simp -dsimp [t8],by simp -dsimp,by omega,by omega,hinv.same (fun a b => by omega),by simp⟩
    ·rintro s2 ⟨j,best,u0,u1,u2,u7,u8,u9,hij,hj,hinv2,hend2⟩
     by_cases hlt2 : j < p
     case neg =>
      simp -dsimp [u0,u9,hlt2]
      exact ⟨j,best,by simp -dsimp [u0],by simp -dsimp [u1],by simp -dsimp [u2],by simp -dsimp [u7],by simp -dsimp [u8],by simp -dsimp [u9],hij,hj,hinv2,fun _ => by omega⟩
     have wj : IntKind.wrap .i64 ((j : Int) + 1) = ((j + 1 : Nat) : Int) := by rw [w64 (by omega) (by omega)]; omega
     have hmu2 : p - (j + 1) < p - j := by omega
     obtain ⟨hy,hn⟩ := asked13 (i := i) (j := j) h1 h4 hT hlt hlt2
     have hstep := hinv2.step (S' := fun a b => (a < i ∧ a < b ∧ b < p) ∨ (a = i ∧ i < b ∧ b < j + 1)) (a := i) (c := j) (fun a b => by omega)
     obtain ⟨y,hY⟩ : ∃ y,askY p T i j = y := ⟨_,rfl⟩
     obtain ⟨z,hZ⟩ : ∃ z,askN p T i j = z := ⟨_,rfl⟩
     have hyT := hT.askY (i := i) (j := j)
     have hzT := hT.askN (i := i) (j := j)
     have hcd : candB p T (lv p m) i j = if splits p T i j = true ∧ 0 ≤ lv p m y ∧ 0 ≤ lv p m z then some (1 + max (lv p m y) (lv p m z)) else none := by rw [← hY,← hZ]; rfl
     have hspn := split_not (i := i) (j := j) hT
     rw [hY] at hy hyT hspn
     rw [hZ] at hn hzT hspn
     cases hsp : splits p T i j with
     | false =>
      rw [hsp] at hcd hspn
      rw [hcd,if_neg (by simp)] at hstep
      simp only [stepB] at hstep
      by_cases hyT2 : y = T
      ·simp -dsimp [u0,u1,u2,u7,u8,u9,hlt2]
       refine cl hy ?_
       simp -dsimp [u0,u1,u2,u7,u8,u9,hlt2]
       refine cl hn ?_
       simp -dsimp [u0,u1,u2,u7,u8,u9,hlt2,hyT2,wj,hmu2]
       exact ⟨j + 1,best,by simp -dsimp [u0],by simp -dsimp [u1],by simp -dsimp [u2],by simp -dsimp [u7],by simp -dsimp [u8],by simp -dsimp,by omega,by omega,hstep,by simp⟩
      ·have hzT2 : z = T := (hspn.1 rfl).resolve_left hyT2
       have hyT3 : ¬ (y : Int) = T := by omega
       simp -dsimp [u0,u1,u2,u7,u8,u9,hlt2]
       refine cl hy ?_
       simp -dsimp [u0,u1,u2,u7,u8,u9,hlt2]
       refine cl hn ?_
       simp -dsimp [u0,u1,u2,u7,u8,u9,hlt2,hyT2,hyT3,hzT2,wj,hmu2]
       exact ⟨j + 1,best,by simp -dsimp [u0],by simp -dsimp [u1],by simp -dsimp [u2],by simp -dsimp [u7],by simp -dsimp [u8],by simp -dsimp,by omega,by omega,hstep,by simp⟩
     | true =>
      rw [hsp] at hspn hcd
      have hyT2 : ¬ y = T := fun h => by have := hspn.2 (.inl h); cases this
      have hzT2 : ¬ z = T := fun h => by have := hspn.2 (.inr h); cases this
      have hyT3 : ¬ (y : Int) = T := by omega
      have hzT3 : ¬ (z : Int) = T := by omega
      have ihy := ih y hyT
      have ihz := ih z hzT
      have a1 := lv_ge p m y
      have a2 := lv_lt (m := m) h1 hyT
      have b1 := lv_ge p m z
      have b2 := lv_lt (m := m) h1 hzT
      obtain ⟨a,ha⟩ : ∃ a,lv p m y = a := ⟨_,rfl⟩
      obtain ⟨b,hb⟩ : ∃ b,lv p m z = b := ⟨_,rfl⟩
      simp only [ha,hb] at ihy ihz a1 a2 b1 b2 hcd
      have wab : IntKind.wrap .i64 (max a b + 1) = max a b + 1 := w64 (by omega) (by omega)
      have hco : 1 + max a b = max a b + 1 := by omega
      rw [hco] at hcd
      simp -dsimp [u0,u1,u2,u7,u8,u9,hlt2]
      refine cl hy ?_
      simp -dsimp [u0,u1,u2,u7,u8,u9,hlt2]
      refine cl hn ?_
      simp -dsimp [u0,u1,u2,u7,u8,u9,hlt2,hyT2,hzT2,hyT3,hzT3,wm,wm']
      refine cl ihy ?_
      simp -dsimp [u0,u1,u2,u7,u8,u9,hlt2,hyT2,hzT2,hyT3,hzT3,wm,wm']
      refine cl ihz ?_
      by_cases ca : a < 0
      ·rw [hcd,if_neg (by omega)] at hstep
       simp only [stepB] at hstep
       simp -dsimp [u0,u1,u2,u7,u8,u9,hlt2,ca,wj,hmu2]
       exact ⟨j + 1,best,by simp -dsimp [u0],by simp -dsimp [u1],by simp -dsimp [u2],by simp -dsimp [u7],by simp -dsimp [u8],by simp -dsimp,by omega,by omega,hstep,by simp⟩
      by_cases cb : b < 0
      ·rw [hcd,if_neg (by omega)] at hstep
       simp only [stepB] at hstep
       simp -dsimp [u0,u1,u2,u7,u8,u9,hlt2,ca,cb,wj,hmu2]
       exact ⟨j + 1,best,by simp -dsimp [u0],by simp -dsimp [u1],by simp -dsimp [u2],by simp -dsimp [u7],by simp -dsimp [u8],by simp -dsimp,by omega,by omega,hstep,by simp⟩
      rw [hcd,if_pos ⟨trivial,by omega,by omega⟩] at hstep
      simp only [stepB] at hstep
      by_cases cc : best < 0
      ·rw [if_pos (.inl cc)] at hstep
       simp -dsimp [u0,u1,u2,u7,u8,u9,hlt2,ca,cb,cc,wab,wj,hmu2]
       exact ⟨j + 1,max a b + 1,by simp -dsimp [u0],by simp -dsimp [u1],by simp -dsimp [u2],by simp -dsimp [u7],by simp -dsimp [u8],by simp -dsimp,by omega,by omega,hstep,by simp⟩
      by_cases cd : max a b + 1 < best
      ·rw [if_pos (.inr cd)] at hstep
       simp -dsimp [u0,u1,u2,u7,u8,u9,hlt2,ca,cb,cc,cd,wab,wj,hmu2]
       exact ⟨j + 1,max a b + 1,by simp -dsimp [u0],by simp -dsimp [u1],by simp -dsimp [u2],by simp -dsimp [u7],by simp -dsimp [u8],by simp -dsimp,by omega,by omega,hstep,by simp⟩
      ·rw [if_neg (by omega)] at hstep
       simp -dsimp [u0,u1,u2,u7,u8,u9,hlt2,ca,cb,cc,cd,wab,wj,hmu2]
       exact ⟨j + 1,best,by simp -dsimp [u0],by simp -dsimp [u1],by simp -dsimp [u2],by simp -dsimp [u7],by simp -dsimp [u8],by simp -dsimp,by omega,by omega,hstep,by simp⟩
    ·rintro s2 ⟨j,best,u0,u1,u2,u7,u8,u9,hij,hj,hinv2,hend2⟩
     have := hend2 rfl
     subst this
     simp -dsimp [u0,u8,wi,hmu,t8]
     exact ⟨i + 1,best,by simp -dsimp [u0],by simp -dsimp [u1],by simp -dsimp [u2],by simp -dsimp [u7],by simp -dsimp,by omega,hinv2.same (fun a b => by omega),by simp⟩
   ·rintro s ⟨i,best,t0,t1,t2,t7,t8,hi,hinv,hend⟩
    have := hend rfl
    subst this
    have hlv := hinv.lv hT hd (fun a b hab => by omega) (fun a b ha hb => .inr ⟨by omega,hb,ha⟩)
    have e : best = lv i (m + 1) T := IsLv.uniq hlv (lv_is i (m + 1) T)
    subst e
    simp -dsimp [t7]
theorem leastAsksS_fn (people t : Int) : FnZ Tryz.prog 56 [.int .i64 people,.int .i64 t] (.int .i64 (la people t)) := by
 have hk := ft (tableOk people t)
 have hok := tableOkS_fn people t
 rcases hk with hk | hk
 ·have e : la people t = -1 := if_neg (by simp [hk])
  rw [hk] at hok
  refine FZ (rs := [.tmp 4]) false Tryz.func56 ?_
  simp -dsimp
  refine cl hok ?_
  simp -dsimp [e]
 ·rw [hk] at hok
  obtain ⟨p,T,rfl,rfl,h1,h4,hT⟩ := tableOk_spec hk
  have e := la_ok h1 h4 hT
  have hs := l13Least_fn p h1 h4 p (by omega) T hT
  refine FZ (rs := [.tmp 4]) false Tryz.func56 ?_
  simp -dsimp
  refine cl hok ?_
  simp -dsimp [e]
  refine cl hs ?_
  simp -dsimp [e]
end TL

namespace TL
open Go Go.Proofs
def wPlace : List UInt8 := [112,108,97,99,101]
def wWorlds : List UInt8 := [119,111,114,108,100,115]
def wOnly : List UInt8 := [111,110,108,121]
def wKnown : List UInt8 := [107,110,111,119,110]
def wNeedless : List UInt8 := [110,101,101,100,108,101,115,115]
def wSpies : List UInt8 := [115,112,105,101,115]
def wAsks : List UInt8 := [97,115,107,115]
def wFollows : List UInt8 := [102,111,108,108,111,119,115]
def wProof : List UInt8 := [112,114,111,111,102]
def wCount : List UInt8 := [99,111,117,110,116]
def wWhat : List UInt8 := [119,104,97,116]
def wNone : List UInt8 := [110,111,110,101]
def wYes : List UInt8 := [121,101,115]
def wNo : List UInt8 := [110,111]
/-- The answer about a term. -/
def askT (p : Nat) (l : List Claim) (w : List UInt8) (t : List Mark) : List UInt8 :=
 if w = wFollows then (if followsB p l t = true then wYes else wNo)
 else if w = wProof then (match findT p l t p 0 with
  | some y => y.tx
  | none => wNone)
 else if w = wCount then dec (((worldsOf p (storyTab p l &&& termTab p t)).length : Nat) : Int)
 else wWhat
noncomputable def ans (q : Place) (line : List UInt8) : List UInt8 :=
 if line = wPlace then placeTx q
 else if line = wWorlds then rowTx ((sw q.people.toNat q.story).map fun w => ((w : Nat) : Int))
 else if line = wOnly then numTx (onlyV q.people.toNat q.story)
 else if line = wKnown then rowTx (knownL q.people.toNat q.story)
 else if line = wNeedless then rowTx ((needless q.people.toNat q.story).map fun w => ((w : Nat) : Int))
 else if line = wSpies then numTx (fewest (spyOk q.story) q.people.toNat)
 else if line = wAsks then numTx (la q.people (storyTab q.people.toNat q.story))
 else match readT q.people (Go.Lib.cut line [32]).2.1 with
  | some t => askT q.people.toNat q.story (Go.Lib.cut line [32]).1 t
  | none => wWhat
end TL

namespace TL
open Go Go.Proofs
/-! Bits. -/
theorem cnt_filter : ∀ (N n : Nat),n < 2 ^ N → cnt n = ((List.range N).filter fun i => n.testBit i).length
 | 0,n,h => by
  have : n = 0 := by simpa using h
  subst this; rw [cnt_zero]; rfl
 | N + 1,n,h => by
  have ih := cnt_filter N (n / 2) (by rw [Nat.pow_succ] at h; omega)
  have e : cnt n = n % 2 + cnt (n / 2) := by
   by_cases h0 : 0 < n
   ·exact cnt_step h0
   ·have : n = 0 := by omega
    subst this; rw [cnt_zero]
  rw [e,ih,List.range_succ_eq_map,List.filter_cons,List.filter_map]
  have e2 : (List.range N).filter ((fun i => n.testBit i) ∘ Nat.succ) = (List.range N).filter fun i => (n / 2).testBit i := by
   congr 1; funext i; simp [Nat.testBit_succ]
  rw [e2]
  have e3 : n.testBit 0 = decide (n % 2 = 1) := Nat.testBit_zero n
  by_cases h1 : n % 2 = 1
  ·rw [if_pos (by rw [e3]; simp [h1]),List.length_cons,List.length_map]; omega
  ·rw [if_neg (by rw [e3]; simp [h1]),List.length_map]; omega
theorem cnt_worlds {p n : Nat} (h : InT p n) : cnt n = (worldsOf p n).length := cnt_filter (2 ^ p) n h
/-- How many of some worlds have a bit. -/
def cntB (W : List Nat) (i : Nat) : Nat := (W.filter fun w => w.testBit i).length
theorem cntB_le (W : List Nat) (i : Nat) : cntB W i ≤ W.length := List.length_filter_le _ _
theorem knownOf_cnt {W : List Nat} (h : W ≠ []) (i : Nat) : knownOf W i = if cntB W i = 0 then 0 else if cntB W i = W.length then 1 else -1 := by
 match W,h with
 | w :: W',_ =>
  show (if (w :: W').all (fun v => v.testBit i == w.testBit i) = true then bitI w i else -1) = _
  obtain ⟨V,hV⟩ : ∃ V,w :: W' = V := ⟨_,rfl⟩
  have hw : w ∈ V := by rw [← hV]; simp
  rw [hV]
  by_cases c0 : cntB V i = 0
  ·rw [if_pos c0]
   have hn : ∀ v ∈ V,v.testBit i = false := fun v hv => by
    cases hb : v.testBit i with
    | false => rfl
    | true =>
     have : v ∈ V.filter fun w => w.testBit i := List.mem_filter.2 ⟨hv,hb⟩
     have h0 := List.length_pos_of_mem this
     unfold cntB at c0; omega
   rw [if_pos (List.all_eq_true.2 fun v hv => by rw [hn v hv,hn w hw]; rfl)]
   simp [bitI,hn w hw]
  ·rw [if_neg c0]
   by_cases c1 : cntB V i = V.length
   ·rw [if_pos c1]
    have hn : ∀ v ∈ V,v.testBit i = true := by
     have := List.length_filter_eq_length_iff.1 c1
     exact this
    rw [if_pos (List.all_eq_true.2 fun v hv => by rw [hn v hv,hn w hw]; rfl)]
    simp [bitI,hn w hw]
   ·rw [if_neg c1,if_neg]
    intro hall
    have hall := List.all_eq_true.1 hall
    cases hb : w.testBit i with
    | true => exact c1 (List.length_filter_eq_length_iff.2 fun v hv => by have := hall v hv; rw [hb] at this; simpa using this)
    | false =>
     refine c0 (List.length_eq_zero_iff.2 (List.filter_eq_nil_iff.2 fun v hv => ?_))
     have := hall v hv; rw [hb] at this; simp at this; simp [this]
/-! Rows' texts, from their first numbers. -/
def rowJ (l : List Int) : List UInt8 := Go.Lib.join (l.map cellTx) [44]
theorem rowJ_zero (l : List Int) : rowJ (l.take 0) = [] := rfl
theorem rowJ_first (l : List Int) (h : 0 < l.length) : rowJ (l.take 1) = cellTx l[0] := by
 cases l with
 | nil => simp at h
 | cons c l => simp [rowJ,Go.Lib.join_one]
theorem rowJ_next (l : List Int) (i : Nat) (h0 : 0 < i) (h : i < l.length) : rowJ (l.take (i + 1)) = rowJ (l.take i) ++ [44] ++ cellTx l[i] := by
 unfold rowJ
 rw [List.take_succ_eq_append_getElem h,List.map_append]
 cases l with
 | nil => simp at h
 | cons c l =>
  cases i with
  | zero => omega
  | succ i => simp only [List.take_succ_cons,List.map_cons,List.map_nil]; exact join_snoc _ _ _
theorem rowJ_len {l : List Int} (h : ∀ n ∈ l,n ≤ 99) : (rowJ l).length ≤ 28 * l.length + 28 := by
 have := join_len (l.map cellTx) (fun x hx => by obtain ⟨n,hn,rfl⟩ := List.mem_map.1 hx; exact cellTx_len (h n hn))
 unfold rowJ; simp only [List.length_map] at this; omega
/-! Lines of two words. -/
theorem termText_no32 {people : Int} {s : List UInt8} {t : List Mark} (h : readT people s = some t) : s ≠ [] ∧ ∀ y ∈ s,y ≠ (32 : UInt8) := by
 obtain ⟨_,h2,h3⟩ := readT_is h
 refine ⟨?_,fun y hy => ?_⟩
 ·obtain ⟨T,_,_,h4⟩ := termText_tree h2
  rw [← h3,← h4]; exact tm_text_pos T
 ·rw [← h3] at hy; exact (termText_plain h2 y hy).1
theorem first_space (s : List UInt8) : (∀ y ∈ s,y ≠ (32 : UInt8)) ∨ ∃ x r,s = x ++ 32 :: r ∧ ∀ y ∈ x,y ≠ (32 : UInt8) := by
 induction s with
 | nil => exact .inl (by simp)
 | cons c s ih =>
  by_cases hc : c = 32
  ·exact .inr ⟨[],s,by simp [hc],by simp⟩
  ·rcases ih with h | ⟨x,r,h1,h2⟩
   ·refine .inl fun y hy => ?_
    rcases List.mem_cons.1 hy with rfl | hy
    ·exact hc
    ·exact h y hy
   ·refine .inr ⟨c :: x,r,by rw [h1]; rfl,fun y hy => ?_⟩
    rcases List.mem_cons.1 hy with rfl | hy
    ·exact hc
    ·exact h2 y hy
theorem cutAt_len1 (s : List UInt8) : 1 ≤ (cutAt 32 s).length := by
 rcases first_space s with h | ⟨x,r,rfl,hx⟩
 ·rw [cutAt_none h]; simp
 ·rw [cutAt_app hx]; simp
/-- A line about a term is of two words, or is read as no term. -/
theorem two_words (people : Int) (line : List UInt8) : (∃ w r,cutAt 32 line = [w,r] ∧ (Go.Lib.cut line [32]).1 = w ∧ (Go.Lib.cut line [32]).2.1 = r) ∨ ((cutAt 32 line).length ≠ 2 ∧ readT people (Go.Lib.cut line [32]).2.1 = none) := by
 rcases first_space line with h | ⟨x,r,rfl,hx⟩
 ·refine .inr ⟨by rw [cutAt_none h]; simp, ?_⟩
  rw [cut_clean h]
  cases hr : readT people [] with
  | none => rfl
  | some t => exact absurd rfl (termText_no32 hr).1
 ·rw [cut_at hx,cutAt_app hx]
  rcases first_space r with h | ⟨x2,r2,h2,hx2⟩
  ·rw [cutAt_none h]; exact .inl ⟨x,r,rfl,rfl,rfl⟩
  ·refine .inr ⟨?_, ?_⟩
   ·rw [h2,cutAt_app hx2]
    have := cutAt_len1 r2
    simp only [List.length_cons]; omega
   ·cases hr : readT people r with
    | none => simp only [hr]
    | some t => exact absurd rfl ((termText_no32 hr).2 32 (by rw [h2]; simp))
/-! Grown proofs. -/
/-- What the reference grows, with so many people not known yet. -/
def growR (p : Nat) (l : List Claim) (t : List Mark) : Nat → Nat → List Sp → List Sp × Int × Bool
 | 0,world,sps => match leaf p l t p world with
  | some x => (sps,x.to 0,true)
  | none => (sps, -1,false)
 | r + 1,world,sps => match leaf p l t (p - (r + 1)) world with
  | some x => (sps,x.to 0,true)
  | none =>
   let A := growR p l t r world (sps ++ [⟨(p - (r + 1) : Nat), -1, -1⟩])
   let B := growR p l t r (world + 2 ^ (p - (r + 1))) A.1
   (B.1.set sps.length ⟨(p - (r + 1) : Nat),A.2.1,B.2.1⟩,sps.length,A.2.2 && B.2.2)
theorem leaf_to {p : Nat} {l : List Claim} {t : List Mark} {k world : Nat} {x : PT} (h : leaf p l t k world = some x) (n : Nat) : x.to 0 = x.to n ∧ x.row n = [] := by
 unfold leaf at h
 split at h
 ·cases h; exact ⟨rfl,rfl⟩
 ·rw [Option.map_eq_some_iff] at h
  obtain ⟨i,hi,rfl⟩ := h
  exact ⟨rfl,rfl⟩
theorem growR_len (p : Nat) (l : List Claim) (t : List Mark) : ∀ (r world : Nat) (sps : List Sp),(growR p l t r world sps).1.length + 1 ≤ sps.length + 2 ^ r ∧ sps.length ≤ (growR p l t r world sps).1.length
 | 0,world,sps => by unfold growR; split <;> simp
 | r + 1,world,sps => by
  have hp := Nat.one_le_two_pow (n := r + 1)
  unfold growR
  split
  ·simp only; omega
  ·have a := growR_len p l t r world (sps ++ [⟨(p - (r + 1) : Nat), -1, -1⟩])
   have b := growR_len p l t r (world + 2 ^ (p - (r + 1))) (growR p l t r world (sps ++ [⟨(p - (r + 1) : Nat), -1, -1⟩])).1
   simp only [List.length_append,List.length_cons,List.length_nil] at a
   simp only [List.length_set]
   rw [Nat.pow_succ]; omega
theorem growR_spec (p : Nat) (l : List Claim) (t : List Mark) : ∀ (r world : Nat) (sps : List Sp),match findT p l t r world with
  | some y => growR p l t r world sps = (sps ++ y.row sps.length,y.to sps.length,true)
  | none => (growR p l t r world sps).2.2 = false
 | 0,world,sps => by
  show (match leaf p l t p world with | some y => _ | none => _)
  unfold growR
  cases h : leaf p l t p world with
  | none => rfl
  | some x =>
   obtain ⟨h1,h2⟩ := leaf_to h sps.length
   simp only [h1,h2,List.append_nil]
 | r + 1,world,sps => by
  unfold findT growR
  cases h : leaf p l t (p - (r + 1)) world with
  | some x =>
   obtain ⟨h1,h2⟩ := leaf_to h sps.length
   simp only [h1,h2,List.append_nil]
  | none =>
   simp only
   have ia := growR_spec p l t r world (sps ++ [⟨(p - (r + 1) : Nat), -1, -1⟩])
   cases ha : findT p l t r world with
   | none =>
    rw [ha] at ia
    simp only at ia
    simp only [ia,Bool.false_and]
   | some a =>
    rw [ha] at ia
    simp only at ia
    rw [ia]
    simp only [List.length_append,List.length_cons,List.length_nil]
    have ib := growR_spec p l t r (world + 2 ^ (p - (r + 1))) (sps ++ [⟨(p - (r + 1) : Nat), -1, -1⟩] ++ a.row (sps.length + 0 + 1))
    cases hb : findT p l t r (world + 2 ^ (p - (r + 1))) with
    | none =>
     rw [hb] at ib
     simp only [Nat.add_zero] at ib
     simp only [ib,Bool.and_false,Nat.zero_add]
    | some b =>
     rw [hb] at ib
     simp only [Nat.add_zero,List.length_append,List.length_cons,List.length_nil,PT.row_len,Nat.zero_add] at ib
     simp only [Nat.zero_add,ib,Bool.and_self]
     simp [PT.row,PT.to,List.set_append]
/-! Targets. -/
def Sp.tg (s : Sp) : List Int := [s.no,s.yes]
/-- The targets of splits, in their order. -/
def tgs (R : List Sp) : List Int := R.flatMap Sp.tg
theorem to_range (y : PT) (n : Nat) : y.to n < 0 ∨ (y.to n = n ∧ 0 < y.size) := by
 cases y with
 | goal => exact .inl (by simp [PT.to])
 | claim i => exact .inl (by simp only [PT.to]; omega)
 | split who a b => exact .inr ⟨rfl,by simp only [PT.size]; omega⟩
theorem tgs_range : ∀ (y : PT) (n : Nat),∀ x ∈ tgs (y.row n),0 ≤ x → (n : Int) < x ∧ x < n + y.size
 | .goal,n => by simp [tgs,PT.row]
 | .claim i,n => by simp [tgs,PT.row]
 | .split who a b,n => by
  intro x hx h0
  simp only [tgs,PT.row,List.flatMap_cons,List.flatMap_append,Sp.tg,List.mem_append,List.mem_cons,List.not_mem_nil,or_false] at hx
  simp only [PT.size]
  rcases hx with (hx | hx) | hx | hx
  ·rcases to_range a (n + 1) with h | ⟨h,h2⟩ <;> omega
  ·rcases to_range b (n + 1 + a.size) with h | ⟨h,h2⟩ <;> omega
  ·have := tgs_range a (n + 1) x hx h0; omega
  ·have := tgs_range b (n + 1 + a.size) x hx h0; omega
/-- No target comes twice. -/
def onceT (xs : List Int) : Prop := (xs.filter fun x => decide (0 ≤ x)).Nodup
theorem onceT_row : ∀ (y : PT) (n : Nat),onceT (tgs (y.row n))
 | .goal,n => by simp [onceT,tgs,PT.row]
 | .claim i,n => by simp [onceT,tgs,PT.row]
 | .split who a b,n => by
  have ha := onceT_row a (n + 1)
  have hb := onceT_row b (n + 1 + a.size)
  have ra := tgs_range a (n + 1)
  have rb := tgs_range b (n + 1 + a.size)
  have ta := to_range a (n + 1)
  have tb := to_range b (n + 1 + a.size)
  have e : tgs ((PT.split who a b).row n) = [a.to (n + 1)] ++ ([b.to (n + 1 + a.size)] ++ (tgs (a.row (n + 1)) ++ tgs (b.row (n + 1 + a.size)))) := by
   simp [tgs,PT.row,Sp.tg]
  unfold onceT at ha hb ⊢
  rw [e]
  obtain ⟨X,hX⟩ : ∃ X,tgs (a.row (n + 1)) = X := ⟨_,rfl⟩
  obtain ⟨Y,hY⟩ : ∃ Y,tgs (b.row (n + 1 + a.size)) = Y := ⟨_,rfl⟩
  rw [hX] at ha ra ⊢
  rw [hY] at hb rb ⊢
  simp only [List.filter_append,List.nodup_append,List.mem_append,List.mem_filter,decide_eq_true_eq]
  refine ⟨?_,⟨?_,⟨ha,hb, ?_⟩, ?_⟩, ?_⟩
  ·simp only [List.filter_cons,List.filter_nil]; split <;> simp
  ·simp only [List.filter_cons,List.filter_nil]; split <;> simp
  ·rintro x ⟨h1,h2⟩ z ⟨h3,h4⟩ rfl
   have a1 := ra x h1 h2
   have a2 := rb x h3 h4
   omega
  ·rintro x ⟨h1,h2⟩ z (⟨h3,h4⟩ | ⟨h3,h4⟩) rfl
   ·have a1 := ra x h3 h4
    have h5 : x = b.to (n + 1 + a.size) := by simpa using h1
    omega
   ·have a2 := rb x h3 h4
    have h5 : x = b.to (n + 1 + a.size) := by simpa using h1
    omega
  ·rintro x ⟨h1,h2⟩ z (⟨h3,h4⟩ | ⟨h3,h4⟩ | ⟨h3,h4⟩) rfl
   ·have h5 : x = a.to (n + 1) := by simpa using h1
    have h6 : x = b.to (n + 1 + a.size) := by simpa using h3
    omega
   ·have h5 : x = a.to (n + 1) := by simpa using h1
    have a1 := ra x h3 h4
    omega
   ·have h5 : x = a.to (n + 1) := by simpa using h1
    have a2 := rb x h3 h4
    omega
theorem tgs_fit (y : PT) : ∀ x ∈ tgs (y.row 0),x < (y.row 0).length := fun x hx => by
 rw [PT.row_len]
 by_cases h : 0 ≤ x
 ·have := tgs_range y 0 x hx h; omega
 ·omega
/-- What was seen, of the first targets. -/
def seenL (n : Nat) (xs : List Int) : List Bool := (List.range n).map fun j : Nat => decide ((j : Int) ∈ xs)
theorem seenL_len (n : Nat) (xs : List Int) : (seenL n xs).length = n := by simp [seenL]
theorem seenL_skip {n : Nat} {xs : List Int} {x : Int} (h : x < 0) : seenL n (xs ++ [x]) = seenL n xs := by
 unfold seenL
 refine List.map_congr_left fun j _ => ?_
 have : ¬ (j : Int) = x := by omega
 simp [this]
theorem seenL_set {n : Nat} {xs : List Int} {j : Nat} (h : j < n) : (seenL n xs).set j true = seenL n (xs ++ [(j : Int)]) := by
 unfold seenL
 refine List.ext_getElem (by simp) fun i h1 h2 => ?_
 simp only [List.length_set,List.length_map,List.length_range] at h1
 rw [List.getElem_set]
 split
 ·rename_i e; subst e; simp
 ·rename_i e
  have : ¬ i = j := fun h => e h.symm
  have h3 : ¬ (i : Int) = j := by omega
  simp [h3]
theorem seenL_get {n : Nat} {xs : List Int} {j : Nat} (h : j < n) : (seenL n xs)[j]? = some (decide ((j : Int) ∈ xs)) := by
 simp [seenL,h]
theorem once_next {pre : List Int} {x : Int} {post : List Int} (h : onceT (pre ++ x :: post)) (h0 : 0 ≤ x) : x ∉ pre := by
 unfold onceT at h
 rw [List.filter_append,List.filter_cons,if_pos (by simpa using h0),List.nodup_append] at h
 intro hx
 exact h.2.2 x (List.mem_filter.2 ⟨hx,by simpa using h0⟩) x (List.mem_cons_self ..) rfl
/-! Known people, as the reference has them. -/
def knownR (p k world : Nat) : List Int := (List.range p).map fun i => if i < k then bitI world i else -1
theorem knownR_len (p k world : Nat) : (knownR p k world).length = p := by simp [knownR]
theorem knownR_get {p k world i : Nat} (h : i < p) : (knownR p k world)[i]? = some (if i < k then bitI world i else -1) := by simp [knownR,h]
theorem knownR_zero (p world : Nat) : knownR p 0 world = List.replicate p (-1) := by
 unfold knownR
 refine List.ext_getElem (by simp) fun i h1 h2 => by simp
theorem knownR_no {p k world : Nat} (hk : k < p) (hw : world < 2 ^ k) : (knownR p k world).set k 0 = knownR p (k + 1) world := by
 unfold knownR
 refine List.ext_getElem (by simp) fun i h1 h2 => ?_
 rw [List.getElem_set]
 simp only [List.getElem_map,List.getElem_range]
 split
 ·rename_i e; subst e
  rw [if_pos (by omega)]
  have : world.testBit k = false := Nat.testBit_lt_two_pow hw
  simp [bitI,this]
 ·rename_i e
  by_cases hi : i < k
  ·rw [if_pos hi,if_pos (by omega)]
  ·rw [if_neg hi,if_neg (by omega)]
theorem knownR_yes {p k world : Nat} (hk : k < p) (hw : world < 2 ^ k) : (knownR p k world).set k 1 = knownR p (k + 1) (world + 2 ^ k) := by
 have hor : world + 2 ^ k = 2 ^ k ||| world := by
  have h1 := Nat.two_pow_add_eq_or_of_lt hw 1
  rw [Nat.mul_one] at h1
  rw [Nat.add_comm,h1]
 unfold knownR
 refine List.ext_getElem (by simp) fun i h1 h2 => ?_
 rw [List.getElem_set]
 simp only [List.getElem_map,List.getElem_range]
 split
 ·rename_i e; subst e
  rw [if_pos (by omega),hor]
  simp [bitI,Nat.testBit_or]
 ·rename_i e
  have hik : ¬ k = i := e
  by_cases hi : i < k
  ·rw [if_pos hi,if_pos (by omega),hor]
   unfold bitI
   rw [Nat.testBit_or,Nat.testBit_two_pow]
   simp [hik]
  ·rw [if_neg hi,if_neg (by omega)]
theorem agree_iff {p k world w : Nat} (hk : k ≤ p) (hw : world < 2 ^ k) : (w % 2 ^ k == world) = (List.range k).all fun i => world.testBit i == w.testBit i := by
 rw [Bool.eq_iff_iff,beq_iff_eq,List.all_eq_true]
 constructor
 ·rintro h i hi
  have hi := List.mem_range.1 hi
  rw [← h,Nat.testBit_mod_two_pow]; simp [hi]
 ·intro h
  refine Nat.eq_of_testBit_eq fun i => ?_
  rw [Nat.testBit_mod_two_pow]
  by_cases hi : i < k
  ·have := h i (List.mem_range.2 hi)
   simp only [beq_iff_eq] at this
   simp [hi,this]
  ·have h1 : world.testBit i = false := Nat.testBit_lt_two_pow (Nat.lt_of_lt_of_le hw (Nat.pow_le_pow_right (by omega) (by omega)))
   simp [hi,h1]
end TL

namespace TL
open Go Go.Proofs
attribute [local simp] marksV storyV codeV Claim.v Place.v Deed.v
theorem l15Made_fn (p : Place) (a : Deed) (hp : placeOk p = true) (ha : a.words.length ≤ 1000000000) : FnZ Tryz.prog 46 [p.v,a.v] (made p a).v := by
 obtain ⟨hfine,hfit,hsm,hl6⟩ := place_fine hp
 have hpl := fun m n => l15Place_own p hsm m n
 have hrc := readClaimS_fn p.people a.words (by omega)
 have hleast := leastStoryS_fn p.people p.story hp
 have hwo : ∀ k : Nat,k < p.story.length → FnZ Tryz.prog 96 [storyV p.story,.int .i64 k] (storyV (p.story.eraseIdx k)) := fun k hk => l5Without_fn p.story k hk (by omega)
 have hin := l1In_z a.num 0 ((p.story.length : Int) - 1)
 have w1 : IntKind.wrap .i64 ((p.story.length : Int) - 1) = (p.story.length : Int) - 1 := w64 (by omega) (by omega)
 obtain ⟨people,story⟩ := p
 obtain ⟨kind,num,words⟩ := a
 simp only at hrc hleast hwo hin w1 hl6
 have b1 : (story.length + 1) * 32 ≤ 140737488355328 := by omega
 unfold made
 simp only
 by_cases c0 : kind = 0 ∧ num = 0
 ·obtain ⟨rfl,rfl⟩ := c0
  rw [if_pos ⟨rfl,rfl⟩]
  refine FZ (rs := [.cell 4 31]) false Tryz.func46 ?_
  simp -dsimp
  refine callL_ (vs := [(⟨people,story⟩ : Place).v]) (hpl _ _) (by simp -dsimp) ?_
  rintro t m1 n1 ⟨hn1,hout,st,rfl,hst⟩
  have k0 := hout 0 (by omega)
  have k1 := hout 1 (by omega)
  have k2 := hout 2 (by omega)
  simp -dsimp at k0 k1 k2
  have f0 := far (show 0 < n1 by omega)
  have f1 := far (show 1 < n1 by omega)
  have f2 := far (show 2 < n1 by omega)
  have hc := hst.cell
  have z1 : ¬ n1 = 0 := by omega
  have z2 : ¬ n1 = 1 := by omega
  have z3 : ¬ n1 = 2 := by omega
  simp -dsimp [k0,k1,k2,f0,f1,f2,hc,z1,z2,z3]
  refine cl hrc ?_
  cases hr : readC people words with
  | none => simp -dsimp [optC,k0,k1,k2,f0,f1,f2,hc,z1,z2,z3,nes]
  | some c =>
   rcases hst with ⟨rfl,hs0⟩ | ⟨id,rfl,hi0,hi1,him⟩
   ·have hs0' : story = [] := by simpa using hs0
    subst hs0'
    simp -dsimp [optC,k0,k1,k2,f0,f1,f2,hc,z1,z2,z3,nes]
   ·have g1 := far hi1
    have y1 : ¬ id = 0 := by omega
    have y2 : ¬ id = 1 := by omega
    have y3 : ¬ id = 2 := by omega
    simp -dsimp [optC,k0,k1,k2,f0,f1,f2,g1,hc,z1,z2,z3,y1,y2,y3,Ne.symm y1,Ne.symm y2,Ne.symm y3,nes,him,b1]
 rw [if_neg c0]
 by_cases c1 : kind = 1 ∧ words = [] ∧ 0 ≤ num ∧ num < story.length
 ·rw [if_pos c1]
  obtain ⟨rfl,rfl,h2,h3⟩ := c1
  obtain ⟨k,rfl⟩ := Int.eq_ofNat_of_zero_le h2
  have hw := hwo k (by omega)
  have hb : (decide (0 ≤ (k : Int)) && decide ((k : Int) ≤ (story.length : Int) - 1)) = true := by simp; omega
  rw [hb] at hin
  simp only [Int.toNat_natCast]
  refine FZ (rs := [.cell 4 31]) false Tryz.func46 ?_
  simp -dsimp
  refine callL_ (vs := [(⟨people,story⟩ : Place).v]) (hpl _ _) (by simp -dsimp) ?_
  rintro t m1 n1 ⟨hn1,hout,st,rfl,hst⟩
  have k0 := hout 0 (by omega)
  have k1 := hout 1 (by omega)
  have k2 := hout 2 (by omega)
  simp -dsimp at k0 k1 k2
  have f0 := far (show 0 < n1 by omega)
  have f1 := far (show 1 < n1 by omega)
  have f2 := far (show 2 < n1 by omega)
  have hc := hst.cell
  have z1 : ¬ n1 = 0 := by omega
  have z2 : ¬ n1 = 1 := by omega
  have z3 : ¬ n1 = 2 := by omega
  simp -dsimp [k0,k1,k2,f0,f1,f2,hc,z1,z2,z3,w1]
  refine cl hin ?_
  simp -dsimp [k0,k1,k2,f0,f1,f2,hc,z1,z2,z3,w1]
  refine twd (List.range 9) [0,1,n1] (List.replicate 9 [0,1,2]) (List.replicate 9 [0,1,2]) ?_
  rcases hst with ⟨rfl,hs0⟩ | ⟨id,rfl,hi0,hi1,him⟩
  ·have hs0' : story = [] := by simpa using hs0
   rw [hs0'] at h3; simp at h3; omega
  ·have g1 := far hi1
   simp -dsimp [List.range_succ,k0,k1,k2,f0,f1,f2,hc,z1,z2,z3,w1]
   refine call_ hw (by simp -dsimp [g1,him]) ?_
   simp -dsimp [List.range_succ,k0,k1,k2,f0,f1,f2,hc,z1,z2,z3,w1]
 rw [if_neg c1]
 have g1 : ¬ (kind = 1 ∧ words = [] ∧ (decide (0 ≤ num) && decide (num ≤ (story.length : Int) - 1)) = true) := fun h => c1 ⟨h.1,h.2.1,by have := h.2.2; simp at this; omega,by have := h.2.2; simp at this; omega⟩
 generalize (decide (0 ≤ num) && decide (num ≤ (story.length : Int) - 1)) = bin at *
 by_cases c2 : kind = 2 ∧ words = []
 ·rw [if_pos c2]
  obtain ⟨rfl,rfl⟩ := c2
  refine FZ (rs := [.cell 4 31]) false Tryz.func46 ?_
  simp -dsimp
  refine callL_ (vs := [(⟨people,story⟩ : Place).v]) (hpl _ _) (by simp -dsimp) ?_
  rintro t m1 n1 ⟨hn1,hout,st,rfl,hst⟩
  have k0 := hout 0 (by omega)
  have k1 := hout 1 (by omega)
  have k2 := hout 2 (by omega)
  simp -dsimp at k0 k1 k2
  have f0 := far (show 0 < n1 by omega)
  have f1 := far (show 1 < n1 by omega)
  have f2 := far (show 2 < n1 by omega)
  have hc := hst.cell
  have z1 : ¬ n1 = 0 := by omega
  have z2 : ¬ n1 = 1 := by omega
  have z3 : ¬ n1 = 2 := by omega
  rcases hst with ⟨rfl,hs0⟩ | ⟨id,rfl,hi0,hi1,him⟩
  ·have hs0' : story = [] := by simpa using hs0
   subst hs0'
   by_cases d0 : num = 0
   ·simp -dsimp [k0,k1,k2,f0,f1,f2,hc,z1,z2,z3,w1,d0,nes]
   ·simp -dsimp [k0,k1,k2,f0,f1,f2,hc,z1,z2,z3,w1,d0,nes]
  ·have g1 := far hi1
   have y1 : ¬ id = 0 := by omega
   have y2 : ¬ id = 1 := by omega
   have y3 : ¬ id = 2 := by omega
   by_cases d0 : num = 0
   ·simp -dsimp [k0,k1,k2,f0,f1,f2,hc,z1,z2,z3,w1,d0,nes,g1,y1,y2,y3,him]
   ·simp -dsimp [k0,k1,k2,f0,f1,f2,hc,z1,z2,z3,w1,d0,nes,g1,y1,y2,y3,him]
 rw [if_neg c2]
 by_cases c3 : kind = 3 ∧ num = 0 ∧ words = []
 ·rw [if_pos c3]
  obtain ⟨rfl,rfl,rfl⟩ := c3
  refine FZ (rs := [.cell 4 31]) false Tryz.func46 ?_
  simp -dsimp
  refine callL_ (vs := [(⟨people,story⟩ : Place).v]) (hpl _ _) (by simp -dsimp) ?_
  rintro t m1 n1 ⟨hn1,hout,st,rfl,hst⟩
  have k0 := hout 0 (by omega)
  have k1 := hout 1 (by omega)
  have k2 := hout 2 (by omega)
  simp -dsimp at k0 k1 k2
  have f0 := far (show 0 < n1 by omega)
  have f1 := far (show 1 < n1 by omega)
  have f2 := far (show 2 < n1 by omega)
  have hc := hst.cell
  have z1 : ¬ n1 = 0 := by omega
  have z2 : ¬ n1 = 1 := by omega
  have z3 : ¬ n1 = 2 := by omega
  simp -dsimp [k0,k1,k2,f0,f1,f2,hc,z1,z2,z3,w1,nes]
  refine cl hleast ?_
  simp -dsimp [k0,k1,k2,f0,f1,f2,hc,z1,z2,z3,w1,nes]
 rw [if_neg c3]
 by_cases e0 : kind = 0
 ·subst e0
  have d0 : ¬ num = 0 := fun h => c0 ⟨rfl,h⟩
  refine FZ (rs := [.cell 4 31]) false Tryz.func46 ?_
  simp -dsimp
  refine callL_ (vs := [(⟨people,story⟩ : Place).v]) (hpl _ _) (by simp -dsimp) ?_
  rintro t m1 n1 ⟨hn1,hout,st,rfl,hst⟩
  have k0 := hout 0 (by omega)
  have k1 := hout 1 (by omega)
  have k2 := hout 2 (by omega)
  simp -dsimp at k0 k1 k2
  have f0 := far (show 0 < n1 by omega)
  have f1 := far (show 1 < n1 by omega)
  have f2 := far (show 2 < n1 by omega)
  have hc := hst.cell
  have z1 : ¬ n1 = 0 := by omega
  have z2 : ¬ n1 = 1 := by omega
  have z3 : ¬ n1 = 2 := by omega
  simp -dsimp [k0,k1,k2,f0,f1,f2,hc,z1,z2,z3,w1,nes,d0]
 by_cases e1 : kind = 1
 ·subst e1
  by_cases dw : words = []
  ·subst dw
   have hbf : bin = false := by
    cases bin
    ·rfl
    ·exact absurd ⟨rfl,rfl,rfl⟩ g1
   subst hbf
   refine FZ (rs := [.cell 4 31]) false Tryz.func46 ?_
   simp -dsimp
   refine callL_ (vs := [(⟨people,story⟩ : Place).v]) (hpl _ _) (by simp -dsimp) ?_
   rintro t m1 n1 ⟨hn1,hout,st,rfl,hst⟩
   have k0 := hout 0 (by omega)
   have k1 := hout 1 (by omega)
   have k2 := hout 2 (by omega)
   simp -dsimp at k0 k1 k2
   have f0 := far (show 0 < n1 by omega)
   have f1 := far (show 1 < n1 by omega)
   have f2 := far (show 2 < n1 by omega)
   have hc := hst.cell
   have z1 : ¬ n1 = 0 := by omega
   have z2 : ¬ n1 = 1 := by omega
   have z3 : ¬ n1 = 2 := by omega

   simp -dsimp [k0,k1,k2,f0,f1,f2,hc,z1,z2,z3,w1,nes]
   refine cl hin ?_
   simp -dsimp [k0,k1,k2,f0,f1,f2,hc,z1,z2,z3,w1,nes]
  ·refine FZ (rs := [.cell 4 31]) false Tryz.func46 ?_
   simp -dsimp
   refine callL_ (vs := [(⟨people,story⟩ : Place).v]) (hpl _ _) (by simp -dsimp) ?_
   rintro t m1 n1 ⟨hn1,hout,st,rfl,hst⟩
   have k0 := hout 0 (by omega)
   have k1 := hout 1 (by omega)
   have k2 := hout 2 (by omega)
   simp -dsimp at k0 k1 k2
   have f0 := far (show 0 < n1 by omega)
   have f1 := far (show 1 < n1 by omega)
   have f2 := far (show 2 < n1 by omega)
   have hc := hst.cell
   have z1 : ¬ n1 = 0 := by omega
   have z2 : ¬ n1 = 1 := by omega
   have z3 : ¬ n1 = 2 := by omega

   simp -dsimp [k0,k1,k2,f0,f1,f2,hc,z1,z2,z3,w1,nes,dw]
 by_cases e2 : kind = 2
 ·subst e2
  have dw : ¬ words = [] := fun h => c2 ⟨rfl,h⟩
  refine FZ (rs := [.cell 4 31]) false Tryz.func46 ?_
  simp -dsimp
  refine callL_ (vs := [(⟨people,story⟩ : Place).v]) (hpl _ _) (by simp -dsimp) ?_
  rintro t m1 n1 ⟨hn1,hout,st,rfl,hst⟩
  have k0 := hout 0 (by omega)
  have k1 := hout 1 (by omega)
  have k2 := hout 2 (by omega)
  simp -dsimp at k0 k1 k2
  have f0 := far (show 0 < n1 by omega)
  have f1 := far (show 1 < n1 by omega)
  have f2 := far (show 2 < n1 by omega)
  have hc := hst.cell
  have z1 : ¬ n1 = 0 := by omega
  have z2 : ¬ n1 = 1 := by omega
  have z3 : ¬ n1 = 2 := by omega
  by_cases d0 : num = 0
  ·simp -dsimp [k0,k1,k2,f0,f1,f2,hc,z1,z2,z3,w1,nes,d0,dw]
  ·simp -dsimp [k0,k1,k2,f0,f1,f2,hc,z1,z2,z3,w1,nes,d0,dw]
 by_cases e3 : kind = 3
 ·subst e3
  refine FZ (rs := [.cell 4 31]) false Tryz.func46 ?_
  simp -dsimp
  refine callL_ (vs := [(⟨people,story⟩ : Place).v]) (hpl _ _) (by simp -dsimp) ?_
  rintro t m1 n1 ⟨hn1,hout,st,rfl,hst⟩
  have k0 := hout 0 (by omega)
  have k1 := hout 1 (by omega)
  have k2 := hout 2 (by omega)
  simp -dsimp at k0 k1 k2
  have f0 := far (show 0 < n1 by omega)
  have f1 := far (show 1 < n1 by omega)
  have f2 := far (show 2 < n1 by omega)
  have hc := hst.cell
  have z1 : ¬ n1 = 0 := by omega
  have z2 : ¬ n1 = 1 := by omega
  have z3 : ¬ n1 = 2 := by omega
  by_cases d0 : num = 0
  ·have dw : ¬ words = [] := fun h => c3 ⟨rfl,d0,h⟩
   simp -dsimp [k0,k1,k2,f0,f1,f2,hc,z1,z2,z3,w1,nes,d0,dw]
  ·simp -dsimp [k0,k1,k2,f0,f1,f2,hc,z1,z2,z3,w1,nes,d0]
 refine FZ (rs := [.cell 4 31]) false Tryz.func46 ?_
 simp -dsimp
 refine callL_ (vs := [(⟨people,story⟩ : Place).v]) (hpl _ _) (by simp -dsimp) ?_
 rintro t m1 n1 ⟨hn1,hout,st,rfl,hst⟩
 have k0 := hout 0 (by omega)
 have k1 := hout 1 (by omega)
 have k2 := hout 2 (by omega)
 simp -dsimp at k0 k1 k2
 have f0 := far (show 0 < n1 by omega)
 have f1 := far (show 1 < n1 by omega)
 have f2 := far (show 2 < n1 by omega)
 have hc := hst.cell
 have z1 : ¬ n1 = 0 := by omega
 have z2 : ¬ n1 = 1 := by omega
 have z3 : ¬ n1 = 2 := by omega

 simp -dsimp [k0,k1,k2,f0,f1,f2,hc,z1,z2,z3,w1,nes,e0,e1,e2,e3]
end TL

namespace TL
open Go Go.Proofs
attribute [local simp] marksV storyV codeV Claim.v Place.v Deed.v Desk.v
theorem made_fine (p : Place) (a : Deed) (hp : placeOk p = true) : (made p a).fine ∧ (made p a).story.length ≤ 7 ∧ (made p a).small := by
 obtain ⟨h1,h2,h3,h4⟩ := placeOk_all hp
 have hc : ∀ c ∈ p.story,c.fine ∧ c.small := fun c hc => ⟨(claim_fine (h4 c hc)).1,(claim_fine (h4 c hc)).2.2.1⟩
 have key : ∀ q : Place,q.story.length ≤ 7 → (∀ c ∈ q.story,c.fine ∧ c.small) → q.fine ∧ q.story.length ≤ 7 ∧ q.small := fun q hl hq => ⟨⟨by omega,fun c hx => (hq c hx).1⟩,hl,⟨by omega,fun c hx => (hq c hx).2⟩⟩
 have zero := key ⟨0,[]⟩ (by simp) (by simp)
 unfold made
 split
 ·split
  ·rename_i c hr
   have := claim_fine (readC_is hr).1
   refine key _ (by simp; omega) fun x hx => ?_
   rcases List.mem_append.1 hx with hx | hx
   ·exact hc x hx
   ·rw [List.mem_singleton.1 hx]; exact ⟨this.1,this.2.2.1⟩
  ·exact zero
 ·split
  ·refine key _ ?_ fun x hx => hc x ((List.eraseIdx_sublist _ _).subset hx)
   have := (List.eraseIdx_sublist p.story a.num.toNat).length_le
   simp only; omega
  ·split
   ·exact key _ (by simp only; omega) hc
   ·split
    ·refine key _ ?_ fun x hx => hc x ((least_sub _ _).subset hx)
     have := (least_sub p.people.toNat p.story).length_le
     simp only; omega
    ·exact zero
theorem last_facts {l : List Place} {q : Place} (h : l ≠ []) : ((l.length : Int) - 1).toNat = l.length - 1 ∧ (l.map Place.v)[l.length - 1]? = some (l.getLast?.getD q).v ∧ (l.map Place.v).take (l.length - 1) = l.dropLast.map Place.v ∧ (0 : Int) ≤ (l.length : Int) - 1 ∧ (l.length : Int) - 1 ≤ l.length ∧ l.length - 1 ≤ l.length := by
 have hl : 0 < l.length := List.length_pos_iff.2 h
 refine ⟨by omega, ?_, ?_,by omega,by omega,by omega⟩
 ·rw [List.getLast?_eq_getElem?,List.getElem?_map,List.getElem?_eq_getElem (by omega)]; rfl
 ·rw [← List.map_take,List.dropLast_eq_take]
theorem deskDoS_fn (d : Desk) (a : Deed) (hd : d.small) (hf : d.fit) (ha : a.words.length ≤ 1000000000) : FnZ Tryz.prog 24 [d.v,a.v] (.tup [(deskDo d a).1.v,.bool (deskDo d a).2]) := by
 have hok := deskOkS_fn d hd hf
 have hk := ft (deskOk d)
 rcases hk with hk | hk
 ·rw [deskDo_no hk]
  rw [hk] at hok
  obtain ⟨a1,a2,a3⟩ := a
  refine FZ (rs := [.cell 4 34,.tmp 5]) false Tryz.func24 ?_
  simp -dsimp
  refine cl hok ?_
  simp -dsimp [noDeskV]
 rw [hk] at hok
 obtain ⟨hpast,hnow,hp8⟩ := deskOk_iff.1 hk
 have hcopy := fun m n => l15Copy_own d hd m n
 by_cases hb : isBack a = true ∧ d.past ≠ []
 ·rw [deskDo_back hk hb.1 hb.2]
  have ha4 : a = ⟨4,0,[]⟩ := by have := hb.1; simp only [isBack,decide_eq_true_eq] at this; exact this
  subst ha4
  obtain ⟨l1,l2,l3,l4,l5,l6⟩ := last_facts (q := d.now) hb.2
  have hpos : 0 < d.past.length := List.length_pos_iff.2 hb.2
  have hpos' : (0 : Int) < d.past.length := by omega
  have hne := hb.2
  have p1 : (1 : Int) ≤ d.past.length := by omega
  have p2 : 1 ≤ d.past.length := by omega
  have w1 : IntKind.wrap .i64 ((d.past.length : Int) - 1) = (d.past.length : Int) - 1 := w64 (by omega) (by omega)
  clear hb
  refine FZ (rs := [.cell 4 34,.tmp 5]) false Tryz.func24 ?_
  simp -dsimp
  refine cl hok ?_
  simp -dsimp
  refine callL_ (vs := [d.v]) (hcopy _ _) (by simp -dsimp) ?_
  rintro t m1 n1 ⟨hn1,hout,st,rfl,hst⟩
  have k0 := hout 0 (by omega)
  have k1 := hout 1 (by omega)
  have k2 := hout 2 (by omega)
  simp -dsimp at k0 k1 k2
  have f0 := far (show 0 < n1 by omega)
  have f1 := far (show 1 < n1 by omega)
  have f2 := far (show 2 < n1 by omega)
  have z1 : ¬ n1 = 0 := by omega
  have z2 : ¬ n1 = 1 := by omega
  have z3 : ¬ n1 = 2 := by omega
  rcases hst with ⟨rfl,hs0⟩ | ⟨id,rfl,hi0,hi1,him⟩
  ·exact absurd (by simpa using hs0) hne
  ·have g1 := far hi1
   generalize d.past.getLast?.getD d.now = q at *
   simp -dsimp [k0,k1,k2,f0,f1,f2,z1,z2,z3,hne,hpos,hpos',p1,p2,g1,him,w1,l1,l2,l3,l4,l5,l6,nes]
 have hmade := l15Made_fn d.now a hnow ha
 obtain ⟨mf,ml,ms⟩ := made_fine d.now a hnow
 have hpo := placeOkS_fn (made d.now a) mf
 have hpt := placeTextS_fn (made d.now a) mf
 have hpn := placeTextS_fn d.now (place_fine hnow).1
 have hD : deskDo d a = if (placeOk (made d.now a) && !decide (placeTx (made d.now a) = placeTx d.now)) = true then (⟨made d.now a,keep8 (d.past ++ [d.now])⟩,true) else (d,false) := by
  unfold deskDo; rw [if_pos hk,if_neg hb]; rfl
 rw [hD]
 have hb' : (decide (a = ⟨4,0,[]⟩) = true ∧ d.past ≠ []) → False := hb
 have hba : isBack a = true → placeOk (made d.now a) = false ∧ d.past = [] := fun h => ⟨by rw [made_back h,zero_no],Classical.byContradiction fun h2 => hb' ⟨h,h2⟩⟩
 clear hb hb' hD
 generalize made d.now a = X at *
 generalize placeTx X = tX at *
 generalize placeTx d.now = tN at *
 have hkX := ft (placeOk X)
 generalize placeOk X = okX at *
 obtain ⟨kind,num,words⟩ := a
 have htx : tX = tN ∨ ¬ tX = tN := Classical.em _
 obtain ⟨Xp,Xs⟩ := X
 have fullb : (d.past.length + 1) * 32 ≤ 140737488355328 := by omega
 by_cases hq : kind = 4 ∧ num = 0 ∧ words = []
 ·obtain ⟨rfl,rfl,rfl⟩ := hq
  obtain ⟨hokX,he⟩ := hba rfl
  subst hokX
  have he0 : (d.past.map Place.v) = [] := by rw [he]; rfl
  refine FZ (rs := [.cell 4 34,.tmp 5]) false Tryz.func24 ?_
  simp -dsimp
  refine cl hok ?_
  simp -dsimp
  refine callL_ (vs := [d.v]) (hcopy _ _) (by simp -dsimp) ?_
  rintro t m1 n1 ⟨hn1,hout,st,rfl,hst⟩
  have k0 := hout 0 (by omega)
  have k1 := hout 1 (by omega)
  have k2 := hout 2 (by omega)
  simp -dsimp at k0 k1 k2
  have f0 := far (show 0 < n1 by omega)
  have f1 := far (show 1 < n1 by omega)
  have f2 := far (show 2 < n1 by omega)
  have z1 : ¬ n1 = 0 := by omega
  have z2 : ¬ n1 = 1 := by omega
  have z3 : ¬ n1 = 2 := by omega
  have hc := hst.cell
  simp -dsimp [k0,k1,k2,f0,f1,f2,z1,z2,z3,hc,he,nes]
  refine cl hmade ?_
  simp -dsimp [k0,k1,k2,f0,f1,f2,z1,z2,z3,hc,he,nes]
  refine twd [0,1,2,3,4,6,7,5,8,9,10] [0,n1 + 1 + 1] (List.replicate 11 [0,1]) (List.replicate 11 [0,1]) ?_
  simp -dsimp [k0,k1,k2,f0,f1,f2,z1,z2,z3,hc,he,nes]
  refine cl hpo ?_
  rcases hst with ⟨rfl,hs0⟩ | ⟨id,rfl,hi0,hi1,him⟩
  ·simp -dsimp [k0,k1,k2,f0,f1,f2,z1,z2,z3,hc,he,nes]
  ·have g1 := far hi1
   have y3 : ¬ id = 2 := by omega
   simp -dsimp [k0,k1,k2,f0,f1,f2,z1,z2,z3,hc,he,nes,g1,him,y3]
 ·have hbb : (decide (kind = 4) && (decide (num = 0) && decide (words = []))) = false := by
   rw [Bool.eq_false_iff]; intro h; simp at h; exact hq h
  refine FZ (rs := [.cell 4 34,.tmp 5]) false Tryz.func24 ?_
  simp -dsimp
  refine cl hok ?_
  simp -dsimp
  refine callL_ (vs := [d.v]) (hcopy _ _) (by simp -dsimp) ?_
  rintro t m1 n1 ⟨hn1,hout,st,rfl,hst⟩
  have k0 := hout 0 (by omega)
  have k1 := hout 1 (by omega)
  have k2 := hout 2 (by omega)
  simp -dsimp at k0 k1 k2
  have f0 := far (show 0 < n1 by omega)
  have f1 := far (show 1 < n1 by omega)
  have f2 := far (show 2 < n1 by omega)
  have z1 : ¬ n1 = 0 := by omega
  have z2 : ¬ n1 = 1 := by omega
  have z3 : ¬ n1 = 2 := by omega
  have hc := hst.cell
  simp -dsimp [k0,k1,k2,f0,f1,f2,z1,z2,z3,hc,hbb,nes]
  refine cl hmade ?_
  simp -dsimp [k0,k1,k2,f0,f1,f2,z1,z2,z3,hc,nes]
  refine twd [0,1,2,3,4,6,7,5,8,9,10] [0,n1 + 1 + 1] (List.replicate 11 [0,1]) (List.replicate 11 [0,1]) ?_
  simp -dsimp [k0,k1,k2,f0,f1,f2,z1,z2,z3,hc,nes]
  refine cl hpo ?_
  rcases hkX with rfl | rfl
  ·rcases hst with ⟨rfl,hs0⟩ | ⟨id,rfl,hi0,hi1,him⟩
   ·have hs0' : d.past = [] := by simpa using hs0
    simp -dsimp [k0,k1,k2,f0,f1,f2,z1,z2,z3,hc,nes,hs0']
   ·have g1 := far hi1
    have y3 : ¬ id = 2 := by omega
    simp -dsimp [k0,k1,k2,f0,f1,f2,z1,z2,z3,hc,nes,g1,him,y3]
  simp -dsimp [k0,k1,k2,f0,f1,f2,z1,z2,z3,hc,nes]
  refine cl hpt ?_
  simp -dsimp [k0,k1,k2,f0,f1,f2,z1,z2,z3,hc,nes]
  refine cl hpn ?_
  rcases htx with rfl | htx
  ·rcases hst with ⟨rfl,hs0⟩ | ⟨id,rfl,hi0,hi1,him⟩
   ·have hs0' : d.past = [] := by simpa using hs0
    simp -dsimp [k0,k1,k2,f0,f1,f2,z1,z2,z3,hc,nes,hs0']
   ·have g1 := far hi1
    have y3 : ¬ id = 2 := by omega
    simp -dsimp [k0,k1,k2,f0,f1,f2,z1,z2,z3,hc,nes,g1,him,y3]
  rcases hst with ⟨rfl,hs0⟩ | ⟨id,rfl,hi0,hi1,him⟩
  ·have hs0' : d.past = [] := by simpa using hs0
   have hk8 : keep8 (d.past ++ [d.now]) = [d.now] := by rw [hs0']; rfl
   simp -dsimp [k0,k1,k2,f0,f1,f2,z1,z2,z3,hc,nes,htx,hs0',keep8]
  ·have g1 := far hi1
   have y3 : ¬ id = 2 := by omega
   by_cases h8 : d.past.length = 8
   ·have e8 : (d.past.length : Int) = 8 := by omega
    simp -dsimp [k0,k1,k2,f0,f1,f2,z1,z2,z3,hc,nes,htx,g1,him,y3,Ne.symm y3,h8,e8,keep8,fullb]
    rw [List.take_of_length_le (by simp [h8])]
   ·have e8 : d.past.length < 8 := by omega
    have e8' : ¬ (8 : Int) < (d.past.length : Int) + 1 := by omega
    have e8'' : ¬ 8 < d.past.length + 1 := by omega
    simp -dsimp [k0,k1,k2,f0,f1,f2,z1,z2,z3,hc,nes,htx,g1,him,y3,Ne.symm y3,h8,e8,e8',e8'',keep8,fullb]
end TL

namespace TL
open Go Go.Proofs
attribute [local simp] marksV storyV codeV Claim.v Place.v Desk.v
def IcS (l : List Claim) (m0 : Mem) (n0 : Nat) (e : Nat) (s : S) : Prop := ∃ i id : Nat,s.tm 7 = .v (.sl (l.map Claim.v)) ∧ s.tm 8 = .v (.int .i64 l.length) ∧ s.tm 9 = .v (.int .i64 i) ∧ s.mu = false ∧ i ≤ l.length ∧ s.tm 3 = .loc id ∧ n0 ≤ id ∧ id < s.n ∧ s.m id = some (.arr 104 ((l.take i).map Claim.v)) ∧ (∀ j,j < n0 → s.m j = m0 j) ∧ (e = 1 → i = l.length)
theorem copyStory_own (l : List Claim) (hl : l.length ≤ 1048576) (hs : ∀ c ∈ l,c.small) (m : Mem) (n : Nat) : FnS Tryz.prog 122 m n [.v (storyV l)] (fun t m' n' => n ≤ n' ∧ (∀ j,j < n → m' j = m j) ∧ ∃ id,t = .loc id ∧ n ≤ id ∧ id < n' ∧ m' id = some (.arr 104 (l.map Claim.v))) := by
 refine FS (rs := [.tmp 2]) false Tryz.func122 ?_
 simp -dsimp
 refine twp_loopC (IcS l m n 0) (fun s => l.length - natOf (s.tm 9)) (IcS l m n 1) ?_ ?_ ?_
 ·exact ⟨0,n,by simp -dsimp,by simp -dsimp,by simp -dsimp,by simp -dsimp,by omega,by simp -dsimp,by omega,by simp -dsimp,by simp -dsimp,fun j j1 => by simp -dsimp [far j1],by simp⟩
 ·rintro s ⟨i,id,t7,t8,t9,hmu,hi,t3,hid0,hid,hm,hout,hend⟩
  by_cases hlt : i < l.length
  case neg =>
   simp -dsimp [t8,t9,hlt]
   exact ⟨i,id,by simp -dsimp [t7],by simp -dsimp [t8],by simp -dsimp [t9],by simp -dsimp [hmu],hi,by simp -dsimp [t3],hid0,by simp -dsimp [hid],by simp -dsimp [hm],fun j j1 => by simp -dsimp [hout j j1],fun _ => by omega⟩
  have hget : (l.map Claim.v)[i]? = some (l[i].v) := by simp [hlt]
  have wi : IntKind.wrap .i64 ((i : Int) + 1) = ((i + 1 : Nat) : Int) := by rw [w64 (by omega) (by omega)]; omega
  have hmu1 : l.length - (i + 1) < l.length - i := by omega
  have f1 := far hid
  have b1 : (min i l.length + 1) * 32 ≤ 140737488355328 := by omega
  have htk : (l.take (i + 1)).map Claim.v = (l.take i).map Claim.v ++ [l[i].v] := by rw [List.take_succ_eq_append_getElem hlt,List.map_append]; rfl
  simp -dsimp [t7,t8,t9,hlt,hget]
  refine twd (List.range 10) [s.n] (List.replicate 10 [0]) (List.replicate 10 [0]) ?_
  simp -dsimp [List.range_succ,t3]
  refine cl (cloneMarks_fn l[i].says (hs _ (List.getElem_mem _))) ?_
  simp -dsimp [List.range_succ,t3,t9,hmu,f1,hm,b1,wi,hmu1,nes]
  refine st_out fun s' ht hm' hn' hu' => ?_
  have a3 := ht 3
  have a7 := ht 7
  have a8 := ht 8
  have a9 := ht 9
  simp -dsimp [t7,t8] at a3 a7 a8 a9 hm' hn' hu'
  clear ht
  refine ⟨i + 1,s.n + 1 + 1 + 1,a7,a8,a9,by rw [hu',hmu],by omega,a3,by omega,by omega, ?_,fun j j1 => ?_,by simp⟩
  ·rw [htk]; simp [hm',nes]
  ·simp [hm',far (show j < s.n by omega),show ¬ j = id by omega,hout j j1]
 ·rintro s ⟨i,id,t7,t8,t9,hmu,hi,t3,hid0,hid,hm,hout,hend⟩
  have := hend rfl
  subst this
  rw [List.take_length] at hm
  simp -dsimp [t3]
  exact ⟨by omega,hout,hid0,hid,hm⟩
/-- A place whose claims are a row of the caller's own. -/
def OwnPlaceL (p : Place) (m : Mem) (n : Nat) (t : T) (m' : Mem) (n' : Nat) : Prop := n ≤ n' ∧ (∀ j,j < n → m' j = m j) ∧ ∃ id,t = .agg [.v (.int .i64 p.people),.loc id] ∧ n ≤ id ∧ id < n' ∧ m' id = some (.arr 104 (p.story.map Claim.v))
theorem copyPlace_own (p : Place) (hp : p.small) (m : Mem) (n : Nat) : FnS Tryz.prog 73 m n [.v p.v] (OwnPlaceL p m n) := by
 refine FS (rs := [.cell 2 31]) false Tryz.func73 ?_
 simp -dsimp
 refine twd (List.range 7) [n] (List.replicate 7 [0]) (List.replicate 7 [0]) ?_
 simp -dsimp [List.range_succ]
 refine callS_ (copyStory_own p.story hp.1 hp.2 _ _) ?_
 rintro t m1 n1 ⟨hn1,hout1,id,rfl,hid0,hid,him⟩
 have f1 := far hid
 have k0 := hout1 n (by omega)
 have k1 := hout1 (n + 1) (by omega)
 simp -dsimp [nes] at k0 k1
 have d0 : ¬ id = n + 1 := by omega
 have d1 : ¬ n + 1 = id := by omega
 simp -dsimp [List.range_succ,k0,k1,nes,f1]
 refine ⟨by omega,fun j j1 => ?_,id, ?_⟩
 ·have := hout1 j (by omega)
  simp [far j1,show ¬ j = n + 1 by omega] at this ⊢
  exact this
 ·exact ⟨rfl,by omega,by omega,by simp [d0,him]⟩
/-- A desk whose place's claims and whose past are rows of the caller's own. -/
def OwnDeskL (d : Desk) (m : Mem) (n : Nat) (t : T) (m' : Mem) (n' : Nat) : Prop := n ≤ n' ∧ (∀ j,j < n → m' j = m j) ∧ ∃ id st,t = .agg [.v (.int .i64 d.now.people),.loc id,st] ∧ n ≤ id ∧ id < n' ∧ m' id = some (.arr 104 (d.now.story.map Claim.v)) ∧ IsRow m' n n' 31 st (d.past.map Place.v) ∧ st ≠ .loc id
def Icd (d : Desk) (m0 : Mem) (n0 id q : Nat) (e : Nat) (s : S) : Prop := ∃ (i : Nat) (st : T),s.tm 2 = .ptr (n0 + 1) 0 ∧ s.tm 3 = .ptr q 0 ∧ s.tm 11 = .v (.sl (d.past.map Place.v)) ∧ s.tm 12 = .v (.int .i64 d.past.length) ∧ s.tm 13 = .v (.int .i64 i) ∧ s.mu = false ∧ i ≤ d.past.length ∧ q < s.n ∧
 s.m (n0 + 1) = some (.box 34 3 [.v (.int .i64 0),.nil,.nil]) ∧ s.m q = some (.box 34 3 [.v (.int .i64 d.now.people),.loc id,st]) ∧ s.m id = some (.arr 104 (d.now.story.map Claim.v)) ∧ IsRow s.m (q + 1) s.n 31 st ((d.past.take i).map Place.v) ∧ (∀ j,j < n0 → s.m j = m0 j) ∧ (e = 1 → i = d.past.length)
theorem copyDesk_own (d : Desk) (hd : d.small) (m : Mem) (n : Nat) : FnS Tryz.prog 31 m n [.v d.v] (OwnDeskL d m n) := by
 have hl := hd.2.1
 refine FS (rs := [.cell 2 34]) false Tryz.func31 ?_
 simp -dsimp
 refine callL_ (vs := [d.now.v]) (copyPlace_own d.now hd.1 _ _) (by simp -dsimp) ?_
 rintro t m1 n1 ⟨hn1,hout1,id,rfl,hid0,hid,him⟩
 have f1 := far hid
 have k0 := hout1 n (by omega)
 have k1 := hout1 (n + 1) (by omega)
 simp -dsimp [nes] at k0 k1
 have g0 := far (show n < n1 by omega)
 have g1 := far (show n + 1 < n1 by omega)
 simp -dsimp [k0,k1,nes,f1,g0,g1]
 refine twp_loopC (Icd d m n id n1 0) (fun s => d.past.length - natOf (s.tm 13)) (Icd d m n id n1 1) ?_ ?_ ?_
 ·refine ⟨0,.nil,by simp -dsimp,by simp -dsimp,by simp -dsimp,by simp -dsimp,by simp -dsimp,by simp -dsimp,by omega,(by simp -dsimp <;> omega),by simp -dsimp [g1,k1],by simp -dsimp [f1],by simp -dsimp [f1,him],.inl ⟨rfl,by simp⟩,fun j j1 => ?_,by simp⟩
  have := hout1 j (by omega)
  simp -dsimp [far j1] at this
  simp -dsimp [far (show j < n1 by omega),this]
 ·rintro s ⟨i,st,t2,t3,t11,t12,t13,hmu,hi,hq,m1',mq,mid,hst,hout,hend⟩
  by_cases hlt : i < d.past.length
  case neg =>
   simp -dsimp [t12,t13,hlt]
   exact ⟨i,st,by simp -dsimp [t2],by simp -dsimp [t3],by simp -dsimp [t11],by simp -dsimp [t12],by simp -dsimp [t13],by simp -dsimp [hmu],hi,by simp -dsimp; omega,by simp -dsimp [m1'],by simp -dsimp [mq],by simp -dsimp [mid],hst,fun j j1 => by simp -dsimp [hout j j1],fun _ => by omega⟩
  have hget : (d.past.map Place.v)[i]? = some (d.past[i].v) := by simp [hlt]
  have wi : IntKind.wrap .i64 ((i : Int) + 1) = ((i + 1 : Nat) : Int) := by rw [w64 (by omega) (by omega)]; omega
  have hmu1 : d.past.length - (i + 1) < d.past.length - i := by omega
  have p0 := far (show n1 < s.n by omega)
  have p1 := far (show n + 1 < s.n by omega)
  have p2 := far (show id < s.n by omega)
  have p3 := far (show n < s.n by omega)
  have q0 : ¬ n + 1 = n1 := by omega
  have q1 : ¬ n1 = n + 1 := by omega
  have q2 : ¬ id = n1 := by omega
  have q3 : ¬ n1 = id := by omega
  have q4 : ¬ id = n + 1 := by omega
  have q5 : ¬ n + 1 = id := by omega
  have hsm := hd.2.2 d.past[i] (List.getElem_mem _)
  have hpl := copyPlace_fn d.past[i] hsm
  have b1 : (min i d.past.length + 1) * 32 ≤ 140737488355328 := by omega
  have htk : (d.past.take (i + 1)).map Place.v = (d.past.take i).map Place.v ++ [d.past[i].v] := by rw [List.take_succ_eq_append_getElem hlt,List.map_append]; rfl
  simp -dsimp [t11,t12,t13,hlt,hget]
  refine twd (List.range 8) [s.n,n1] (List.replicate 8 [0,1]) (List.replicate 7 [0,1] ++ [[0]]) ?_
  rcases hst with ⟨rfl,hs0⟩ | ⟨r,rfl,hi0,hi1,him'⟩
  ·have hi00 : i = 0 := by
    simp at hs0; rcases hs0 with h | h
    ·exact h
    ·rw [h] at hlt; simp at hlt
   subst hi00
   have hmu2 : d.past.length - 1 < d.past.length := by omega
   have wz : IntKind.wrap .i64 1 = 1 := rfl
   simp -dsimp [List.range_succ,t3,mq,p0,p1,p2,nes]
   refine cl hpl ?_
   simp -dsimp [List.range_succ,t3,t13,mq,p0,p1,p2,nes,hmu,wi,hmu1,hmu2,wz,q0,q1,q2,q3,q4,q5]
   refine st_out fun s' ht hm' hn' hu' => ?_
   have a2 := ht 2
   have a3 := ht 3
   have a11 := ht 11
   have a12 := ht 12
   have a13 := ht 13
   simp -dsimp [t2,t3,t11,t12] at a2 a3 a11 a12 a13 hm' hn' hu'
   clear ht
   refine ⟨1,.loc (s.n + 1 + 1 + 1),a2,a3,a11,a12,a13,by rw [hu',hmu],by omega,by omega,by simp [hm',p0,p1,p2,p3,nes,q0,m1'],by simp [hm',p0,nes],by simp [hm',p0,p1,p2,p3,nes,q2,mid],.inr ⟨s.n + 1 + 1 + 1,rfl,by omega,by omega, ?_⟩,fun j j1 => ?_,by simp⟩
   ·rw [htk]; simp [hm',p0,nes]
   ·simp [hm',far (show j < s.n by omega),show ¬ j = n1 by omega,hout j j1]
  ·have g1' := far hi1
   have g2 : ¬ r = n1 := by omega
   have g3 : ¬ r = n + 1 := by omega
   have g4 : ¬ r = id := by omega
   simp -dsimp [List.range_succ,t3,mq,p0,p1,p2,nes]
   refine cl hpl ?_
   simp -dsimp [List.range_succ,t3,t13,mq,p0,p1,p2,nes,hmu,wi,hmu1,q0,q1,q2,q3,q4,q5,g1',g2,Ne.symm g2,him',b1]
   refine st_out fun s' ht hm' hn' hu' => ?_
   have a2 := ht 2
   have a3 := ht 3
   have a11 := ht 11
   have a12 := ht 12
   have a13 := ht 13
   simp -dsimp [t2,t3,t11,t12] at a2 a3 a11 a12 a13 hm' hn' hu'
   clear ht
   refine ⟨i + 1,.loc (s.n + 1 + 1 + 1),a2,a3,a11,a12,a13,by rw [hu',hmu],by omega,by omega,by simp [hm',p0,p1,p2,p3,nes,q0,m1',Ne.symm g3],by simp [hm',p0,nes],by simp [hm',p0,p1,p2,p3,nes,q2,mid,Ne.symm g4],.inr ⟨s.n + 1 + 1 + 1,rfl,by omega,by omega, ?_⟩,fun j j1 => ?_,by simp⟩
   ·rw [htk]; simp [hm',p0,nes,g1']
   ·simp [hm',far (show j < s.n by omega),show ¬ j = n1 by omega,show ¬ j = r by omega,hout j j1]
 ·rintro s ⟨i,st,t2,t3,t11,t12,t13,hmu,hi,hq,m1',mq,mid,hst,hout,hend⟩
  have := hend rfl
  subst this
  rw [List.take_length] at hst
  have q0 : ¬ n1 = n + 1 := by omega
  have q1 : ¬ id = n + 1 := by omega
  have hc := hst.cell
  simp -dsimp [t2,t3,m1',mq,q0,hc]
  refine ⟨by omega,fun j j1 => by simp [show ¬ j = n + 1 by omega,hout j j1],id,st, ?_⟩
  refine ⟨rfl,by omega,by omega,by simp [q1,mid], ?_, ?_⟩
  ·rcases hst with ⟨rfl,hs0⟩ | ⟨r,rfl,hi0,hi1,him'⟩
   ·exact .inl ⟨rfl,hs0⟩
   ·exact .inr ⟨r,rfl,by omega,by omega,by simp [show ¬ r = n + 1 by omega,him']⟩
  ·rcases hst with ⟨rfl,hs0⟩ | ⟨r,rfl,hi0,hi1,him'⟩
   ·simp
   ·simp; omega
end TL

namespace TL
open Go Go.Proofs
attribute [local simp] marksV storyV codeV Claim.v Place.v Deed.v Desk.v
theorem nes8 (n : Nat) : (¬ n = n + 1 + 1 + 1 + 1 + 1 + 1 + 1 + 1) ∧ (¬ n + 1 + 1 + 1 + 1 + 1 + 1 + 1 + 1 = n) ∧ (¬ n = n + 1 + 1 + 1 + 1 + 1 + 1 + 1 + 1 + 1) ∧ (¬ n + 1 + 1 + 1 + 1 + 1 + 1 + 1 + 1 + 1 = n) ∧ (¬ n = n + 1 + 1 + 1 + 1 + 1 + 1 + 1 + 1 + 1 + 1) ∧ (¬ n + 1 + 1 + 1 + 1 + 1 + 1 + 1 + 1 + 1 + 1 = n) ∧ (¬ n = n + 1 + 1 + 1 + 1 + 1 + 1 + 1 + 1 + 1 + 1 + 1) ∧ (¬ n + 1 + 1 + 1 + 1 + 1 + 1 + 1 + 1 + 1 + 1 + 1 = n) ∧ (¬ n = n + 1 + 1 + 1 + 1 + 1 + 1 + 1 + 1 + 1 + 1 + 1 + 1) ∧ (¬ n + 1 + 1 + 1 + 1 + 1 + 1 + 1 + 1 + 1 + 1 + 1 + 1 = n) ∧ (¬ n = n + 1 + 1 + 1 + 1 + 1 + 1 + 1 + 1 + 1 + 1 + 1 + 1 + 1) ∧ (¬ n + 1 + 1 + 1 + 1 + 1 + 1 + 1 + 1 + 1 + 1 + 1 + 1 + 1 = n) ∧ (¬ n = n + 1 + 1 + 1 + 1 + 1 + 1 + 1 + 1 + 1 + 1 + 1 + 1 + 1 + 1) ∧ (¬ n + 1 + 1 + 1 + 1 + 1 + 1 + 1 + 1 + 1 + 1 + 1 + 1 + 1 + 1 = n) := by
 refine ⟨?_, ?_, ?_, ?_, ?_, ?_, ?_, ?_, ?_, ?_, ?_, ?_, ?_, ?_⟩ <;> omega
/-- What is done if a deed makes a place. -/
theorem deskDo_made {d : Desk} {a : Deed} (hk : deskOk d = true) (hb : isBack a = false) : deskDo d a = if (placeOk (made d.now a) && !decide (placeTx (made d.now a) = placeTx d.now)) = true then (⟨made d.now a,keep8 (d.past ++ [d.now])⟩,true) else (d,false) := by
 unfold deskDo; rw [if_pos hk,if_neg (by simp [hb])]; rfl
theorem deskDo_zero {d : Desk} {a : Deed} (hk : deskOk d = true) (hb : isBack a = false) (hm : made d.now a = ⟨0,[]⟩) : deskDo d a = (d,false) := by
 rw [deskDo_made hk hb,hm,zero_no]; rfl
end TL

namespace TL
open Go Go.Proofs
attribute [local simp] marksV storyV codeV Claim.v Place.v Deed.v Desk.v
theorem back_no {a : Deed} (h : ¬ (a.kind = 4 ∧ a.num = 0 ∧ a.words = [])) : isBack a = false := by
 simp only [isBack,decide_eq_false_iff_not]; rintro rfl; exact h ⟨rfl,rfl,rfl⟩
end TL

namespace TL
open Go Go.Proofs Go.RowKit
section
variable {P : Program}
theorem cut_FnZ {ρ : Go.Shelf.Ren} (L : Go.Proofs.Lays.n145 P ρ) (hf : ∃ fn,P.funcs[ρ.f 145]? = some fn ∧ (fn.name == "runtime.NumGoroutine") = false ∧ fn.body.isNone = false)
  (hg : P.globalNamed "internal/bytealg.MaxLen" = some (ρ.g 1)) (s c : List UInt8) (hs : s.length < 4294967281) : FnZ P (ρ.f 145) [.str s,.str c] (.tup [.str (Go.Lib.cut s c).1,.str (Go.Lib.cut s c).2.1,.bool (Go.Lib.cut s c).2.2]) := by
 refine FnZ_calls hf fun Z w vs hz hv => ?_
 cases hv with | cons h1 hv => cases hv with | cons h2 hv => cases hv with | nil =>
  cases h1 with
  | @str _ b hb =>
   cases h2 with
   | @str _ bsep hb2 =>
    have hq : GQ P (ρ.g 1) (fun v => ∃ m,v = .int .i64 m) := GQ.maxLen hg
    obtain ⟨_,v,hc,m,rfl⟩ := hz.gl _ _ hq
    have hsz : b.size = s.length := by rw [← hb]; rfl
    refine calls_mono (Any.strings_Cut L b bsep m w (by omega) hc) ?_
    rintro e w' ⟨rfl,n,rfl⟩
    rw [hb,hb2]
    exact ⟨_,rfl,below_drewN (Below.refl _ _) n,.tup (.cons (.str (by simp)) (.cons (.str (by simp)) (.cons (.bool _) .nil)))⟩
theorem atoi_FnZ {ρ : Go.Shelf.Ren} (L : Go.Proofs.LaysC.n172 P ρ) (hf : ∃ fn,P.funcs[ρ.f 172]? = some fn ∧ (fn.name == "runtime.NumGoroutine") = false ∧ fn.body.isNone = false)
  (s : List UInt8) (hs : s.length ≤ 2000000000) : FnZ P (ρ.f 172) [.str s] (.tup [.int .i64 (atoiV s),.any]) := by
 refine FnZ_calls hf fun Z w vs hz hv => ?_
 cases hv with | cons h1 hv => cases hv with | nil =>
  cases h1 with
  | @str _ b hb =>
   have hsz : b.size = s.length := by rw [← hb]; rfl
   have q1 : GQ P (ρ.g 15) (fun v => v = .nilIface ∨ ∃ t p,v = .iface t p) := GQ.errSyntax L.m15
   have q2 : GQ P (ρ.g 16) (fun v => v = .nilIface ∨ ∃ t p,v = .iface t p) := GQ.errRange L.m16
   obtain ⟨_,v1,hc1,hv1⟩ := hz.gl _ _ q1
   obtain ⟨_,v2,hc2,hv2⟩ := hz.gl _ _ q2
   cases e : Go.Lib.atoiAll s with
   | ok v =>
    have ev : atoiV s = v := by unfold atoiV; rw [e]
    rw [ev]
    refine calls_mono (Any.strconv_Atoi_ok L b (by omega) v (by rw [hb]; exact e) w) ?_
    rintro e' w' ⟨rfl,hw⟩
    refine ⟨_,rfl, ?_,.tup (.cons (.int _ _) (.cons (.any _) .nil))⟩
    rcases hw with rfl | ⟨t,rfl⟩
    ·exact Below.refl _ _
    ·exact Go.Joins.below_bytesWorld _ _ _ _ (Nat.le_refl _)
   | range =>
    have ev : atoiV s = Go.Lib.atoiSat s := by unfold atoiV; rw [e]
    rw [ev]
    refine calls_mono (Any.strconv_Atoi_range L b (by omega) (by rw [hb]; exact e) v2 w hc2 hv2) ?_
    rintro e' w' ⟨N,rfl,_,_,hw⟩
    rw [hb]
    exact ⟨_,rfl,hw,.tup (.cons (.int _ _) (.cons (.any _) .nil))⟩
   | _ =>
    have ev : atoiV s = 0 := by unfold atoiV; rw [e]
    rw [ev]
    refine calls_mono (Any.strconv_Atoi_syntax L b (by omega) (by rw [hb]; exact e) v1 w hc1 hv1) ?_
    rintro e' w' ⟨N,rfl,_,_,hw⟩
    exact ⟨_,rfl,hw,.tup (.cons (.int _ _) (.cons (.any _) .nil))⟩
end
theorem cut_fn (s c : List UInt8) (hs : s.length < 4294967281) : FnZ Tryz.prog 65 [.str s,.str c] (.tup [.str (Go.Lib.cut s c).1,.str (Go.Lib.cut s c).2.1,.bool (Go.Lib.cut s c).2.2]) :=
 cut_FnZ Tryz.lays145 ⟨_,Tryz.func65,rfl,rfl⟩ (by kernel_rfl) s c hs
theorem atoi_fn (s : List UInt8) (hs : s.length ≤ 2000000000) : FnZ Tryz.prog 66 [.str s] (.tup [.int .i64 (atoiV s),.any]) :=
 atoi_FnZ Tryz.laysC172 ⟨_,Tryz.func66,rfl,rfl⟩ s hs
end TL

namespace TL
open Go Go.Proofs
def optD (o : Option Deed) : V := .tup [(o.getD ⟨0,0,[]⟩).v,.bool o.isSome]
end TL
