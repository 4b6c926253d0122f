/- TL: parts FnsB1, FnsB2, FnsB3, FnsB4, FnsB5, Fns16, FnsP1, FnsO1, FnsO2, FnsO3, FnsO4, Fns13, Fns14, Fns18, FnsC0, FnsB6, FnsC1, TlLend, FnsC2, FnsC4. -/
import Derived.Test.YtnimfdpinpggdaaGreatDoorHe
import Derived.KernelRfl
import Derived.Test.YtnimfdpinpggdaaGreatDoorHc
set_option linter.unusedSimpArgs false
set_option linter.unusedVariables false
set_option maxRecDepth 100000
set_option maxHeartbeats 4000000
set_option pp.maxSteps 1500
namespace TL
open Go Go.Proofs
attribute [local simp] marksV storyV codeV Claim.v Place.v
/-- The table of all worlds below n for which something holds. -/
def tabN : Nat → (Nat → Bool) → Nat
 | 0,_ => 0
 | n + 1,f => if f n then tabN n f ||| 2 ^ n else tabN n f
theorem tabN_lt (f : Nat → Bool) : ∀ n,tabN n f < 2 ^ n
 | 0 => by simp [tabN]
 | n + 1 => by
  have h := tabN_lt f n
  have h2 : 2 ^ n < 2 ^ (n + 1) := Nat.pow_lt_pow_right (by omega) (by omega)
  unfold tabN; split
  ·exact Nat.or_lt_two_pow (by omega) h2
  ·omega
theorem testBit_tabN (f : Nat → Bool) (i : Nat) : ∀ n,(tabN n f).testBit i = (decide (i < n) && f i)
 | 0 => by simp [tabN]
 | n + 1 => by
  have ih := testBit_tabN f i n
  unfold tabN
  split
  ·rename_i hf
   rw [Nat.testBit_or,ih,Nat.testBit_two_pow]
   by_cases h : n = i
   ·subst h; simp [hf]
   ·have : (i < n + 1) ↔ (i < n) := by omega
    simp [h,this]
  ·rename_i hf
   rw [ih]
   by_cases h : n = i
   ·subst h; simp [hf]
   ·have : (i < n + 1) ↔ (i < n) := by omega
    simp [this]
theorem and_nn {a b : Nat} (ha : a < 4611686018427387904) (hb : b < 4611686018427387904) : IntKind.wrap .i64 ((a % 2 ^ IntKind.i64.bits &&& b % 2 ^ IntKind.i64.bits : Nat) : Int) = ((a &&& b : Nat) : Int) := by
 have e1 : a % 2 ^ IntKind.i64.bits = a := Nat.mod_eq_of_lt (by simp only [IntKind.bits]; omega)
 have e2 : b % 2 ^ IntKind.i64.bits = b := Nat.mod_eq_of_lt (by simp only [IntKind.bits]; omega)
 rw [e1,e2,w64 (by omega) (by have : a &&& b ≤ a := Nat.and_le_left; omega)]
theorem and_ni {a b : Nat} {x : Int} (hx : x = b) (ha : a < 4611686018427387904) (hb : b < 4611686018427387904) : IntKind.wrap .i64 ((a % 2 ^ IntKind.i64.bits &&& (x % 2 ^ IntKind.i64.bits).toNat : Nat) : Int) = ((a &&& b : Nat) : Int) := by
 subst hx
 have e2 : ((b : Int) % 2 ^ IntKind.i64.bits).toNat = b % 2 ^ IntKind.i64.bits := by simp only [IntKind.bits]; omega
 rw [e2,and_nn ha hb]
theorem or_nn {a b : Nat} (ha : a < 4611686018427387904) (hb : b < 4611686018427387904) : IntKind.wrap .i64 ((a % 2 ^ IntKind.i64.bits ||| b % 2 ^ IntKind.i64.bits : Nat) : Int) = ((a ||| b : Nat) : Int) := by
 have e1 : a % 2 ^ IntKind.i64.bits = a := Nat.mod_eq_of_lt (by simp only [IntKind.bits]; omega)
 have e2 : b % 2 ^ IntKind.i64.bits = b := Nat.mod_eq_of_lt (by simp only [IntKind.bits]; omega)
 rw [e1,e2,w64 (by omega) (by have : a ||| b < 2 ^ 62 := Nat.or_lt_two_pow (by omega) (by omega); omega)]
theorem or_ni {a b : Nat} {x : Int} (hx : x = b) (ha : a < 4611686018427387904) (hb : b < 4611686018427387904) : IntKind.wrap .i64 ((a % 2 ^ IntKind.i64.bits ||| (x % 2 ^ IntKind.i64.bits).toNat : Nat) : Int) = ((a ||| b : Nat) : Int) := by
 subst hx
 have e2 : ((b : Int) % 2 ^ IntKind.i64.bits).toNat = b % 2 ^ IntKind.i64.bits := by simp only [IntKind.bits]; omega
 rw [e2,or_nn ha hb]
def tableOk (people t : Int) : Bool := peopleOk people && decide (0 ≤ t) && decide (t < 2 ^ (2 ^ people.toNat))
theorem tableOk_fn (people t : Int) : FnZ Tryz.prog 126 [.int .i64 people,.int .i64 t] (.bool (tableOk people t)) := by
 have hk := ft (peopleOk people)
 rcases hk with hk | hk
 ·refine FZ (rs := [.tmp 4]) false Tryz.func126 ?_
  simp -dsimp
  refine cl (peopleOk_at people) ?_
  simp -dsimp [hk,tableOk]
 ·by_cases h1 : 0 ≤ t
  ·have h2 : people = 1 ∨ people = 2 ∨ people = 3 ∨ people = 4 := by simp [peopleOk] at hk; omega
   rcases h2 with rfl | rfl | rfl | rfl
   all_goals
    refine FZ (rs := [.tmp 4]) false Tryz.func126 ?_
    simp -dsimp
    refine call_ (peopleOk_at _) (by simp -dsimp <;> rfl) ?_
    simp -dsimp [hk,tableOk,h1,show IntKind.wrap .u64 (2 ^ min 1 IntKind.u64.bits) = 2 from rfl,show IntKind.wrap .u64 (2 ^ min 2 IntKind.u64.bits) = 4 from rfl,show IntKind.wrap .u64 (2 ^ min 3 IntKind.u64.bits) = 8 from rfl,show IntKind.wrap .u64 (2 ^ min 4 IntKind.u64.bits) = 16 from rfl,show IntKind.wrap .i64 (2 ^ min 2 IntKind.i64.bits) = 4 from rfl,show IntKind.wrap .i64 (2 ^ min 4 IntKind.i64.bits) = 16 from rfl,show IntKind.wrap .i64 (2 ^ min 8 IntKind.i64.bits) = 256 from rfl,show IntKind.wrap .i64 (2 ^ min 16 IntKind.i64.bits) = 65536 from rfl]
  ·refine FZ (rs := [.tmp 4]) false Tryz.func126 ?_
   simp -dsimp
   refine cl (peopleOk_at people) ?_
   simp -dsimp [hk,tableOk,h1]
def Itb (N : Nat) (f : Nat) (cap : List V) (g : Nat → Bool) (e : Nat) (s : S) : Prop := ∃ w : Nat,s.tm 1 = .v (.fn f cap) ∧ s.tm 8 = .v (.int .i64 N) ∧ s.tm 9 = .v (.int .i64 w) ∧ s.tm 5 = .v (.int .i64 (tabN w g)) ∧ w ≤ N ∧ (e = 1 → w = N)
theorem tableBy_fn (p : Nat) (hp1 : 1 ≤ p) (hp4 : p ≤ 4) (f : Nat) (cap : List V) (g : Nat → Bool) (hg : ∀ w : Nat,w < 2 ^ p → FnZ Tryz.prog f (.int .i64 (w : Int) :: cap) (.bool (g w))) : FnZ Tryz.prog 139 [.int .i64 p,.fn f cap] (.int .i64 (tabN (2 ^ p) g)) := by
 have hN : 2 ^ p ≤ 16 := by
  have : p = 1 ∨ p = 2 ∨ p = 3 ∨ p = 4 := by omega
  rcases this with rfl | rfl | rfl | rfl <;> simp
 have ws : IntKind.wrap .i64 (2 ^ min p IntKind.i64.bits) = ((2 ^ p : Nat) : Int) := by
  have : p = 1 ∨ p = 2 ∨ p = 3 ∨ p = 4 := by omega
  rcases this with rfl | rfl | rfl | rfl <;> rfl
 generalize hNN : 2 ^ p = N at *
 refine FZ (rs := [.tmp 4]) false Tryz.func139 ?_
 have hp0 : ¬ (p : Int) < 0 := by omega
 simp -dsimp [ws,hp0]
 refine twp_loopC (Itb N f cap g 0) (fun s => N - natOf (s.tm 9)) (Itb N f cap g 1) ?_ ?_ ?_
 ·exact ⟨0,by simp -dsimp,by simp -dsimp,by simp -dsimp,by simp -dsimp [tabN],by omega,by simp⟩
 ·rintro s ⟨w,t1,t8,t9,t5,hw,hend⟩
  by_cases hlt : w < N
  case neg =>
   simp -dsimp [t8,t9,hlt]
   exact ⟨w,by simp -dsimp [t1],by simp -dsimp [t8],by simp -dsimp [t9],by simp -dsimp [t5],hw,fun _ => by omega⟩
  have wi : IntKind.wrap .i64 ((w : Int) + 1) = ((w + 1 : Nat) : Int) := by rw [w64 (by omega) (by omega)]; omega
  have hmu : N - (w + 1) < N - w := by omega
  have hb := tabN_lt g w
  have hp : 2 ^ w ≤ 2 ^ 16 := Nat.pow_le_pow_right (by omega) (by omega)
  have h2 : (2 : Nat) ^ w < 4611686018427387904 := by omega
  have wsh : IntKind.wrap .i64 (2 ^ min w IntKind.i64.bits) = ((2 ^ w : Nat) : Int) := by
   rw [Nat.min_eq_left (by simp [IntKind.bits]; omega),w64]
   ·simp
   ·have : (0 : Int) ≤ 2 ^ w := Int.pow_nonneg (by omega)
    omega
   ·have : ((2 ^ w : Nat) : Int) = (2 : Int) ^ w := by simp
    omega
  have hor := or_ni (a := tabN w g) (b := 2 ^ w) (x := (2 : Int) ^ w) (by simp) (by omega) h2
  simp -dsimp [t1,t8,t9,hlt]
  refine call_ (hg w hlt) (by simpa using mapO_pure _ _ (.int .i64 w :: cap)) ?_
  have hgw := ft (g w)
  rcases hgw with hgw | hgw
  ·have ht : tabN (w + 1) g = tabN w g := by simp [tabN,hgw]
   simp -dsimp [hgw,t5,t9,wi,hmu]
   exact ⟨w + 1,by simp -dsimp [t1],by simp -dsimp [t8],by simp -dsimp,by simp -dsimp [t5,ht],by omega,by simp⟩
  ·have ht : tabN (w + 1) g = tabN w g ||| 2 ^ w := by simp [tabN,hgw]
   simp -dsimp [hgw,t5,t9,wi,hmu,wsh,hor,show ¬ (w : Int) < 0 by omega]
   exact ⟨w + 1,by simp -dsimp [t1],by simp -dsimp [t8],by simp -dsimp,by simp -dsimp [ht],by omega,by simp⟩
 ·rintro s ⟨w,t1,t8,t9,t5,hw,hend⟩
  have := hend rfl
  subst this
  simp -dsimp [t5]
end TL

namespace TL
open Go Go.Proofs
attribute [local simp] marksV storyV codeV Claim.v Place.v
def sameKind (who whom : Nat) (yes : Bool) (w : Nat) : Bool := (w.testBit who == w.testBit whom) == yes
@[simp] theorem bor_ptr (m : Mem) (d id : Nat) : bor true m (d + 1) (.ptr id 0) = match m id with
  | some (.box _ _ cs) => obind (mapO (bor true m d) cs) fun xs => tst (∀ x ∈ xs,x.cell = true) (some (.ref xs))
  | _ => none := by
 conv => lhs; unfold bor
 simp only [if_true]
 cases m id with
 | none => rfl
 | some b => cases b <;> rfl
theorem shr_nat (w i : Nat) (hi : i < 60) : (w : Int).fdiv (2 ^ min i IntKind.i64.bits) = ((w / 2 ^ i : Nat) : Int) := by
 have e : min i IntKind.i64.bits = i := Nat.min_eq_left (by simp [IntKind.bits]; omega)
 have e2 : ((2 ^ i : Nat) : Int) = (2 : Int) ^ i := by simp
 rw [e,← e2,Int.fdiv_eq_ediv_of_nonneg _ (Int.natCast_nonneg _)]
 rfl
theorem div_bit (w i : Nat) : w / 2 ^ i % 2 = if w.testBit i then 1 else 0 := by
 rw [Nat.testBit_eq_decide_div_mod_eq]
 have := Nat.mod_two_eq_zero_or_one (w / 2 ^ i)
 rcases this with h | h <;> simp [h]
theorem bit1 (w i : Nat) (hw : w < 4611686018427387904) (hi : i < 60) : IntKind.wrap .i64 ((((w : Int).fdiv (2 ^ min i IntKind.i64.bits) % 2 ^ IntKind.i64.bits).toNat &&& 1 % 2 ^ IntKind.i64.bits : Nat) : Int) = if w.testBit i then 1 else 0 := by
 rw [shr_nat w i hi]
 have h1 : w / 2 ^ i ≤ w := Nat.div_le_self _ _
 have e1 : (((w / 2 ^ i : Nat) : Int) % 2 ^ IntKind.i64.bits).toNat = w / 2 ^ i := by
  generalize w / 2 ^ i = q at *
  simp only [IntKind.bits]; omega
 have e2 : 1 % 2 ^ IntKind.i64.bits = 1 := by rfl
 rw [e1,e2,Nat.and_one_is_mod,div_bit]
 split <;> rfl
theorem bit2 (w i : Nat) (hi : i < 60) : ((w : Int).fdiv (2 ^ min i IntKind.i64.bits)).tmod 2 = if w.testBit i then 1 else 0 := by
 rw [shr_nat w i hi,Int.tmod_eq_emod_of_nonneg (Int.natCast_nonneg _)]
 have : ((w / 2 ^ i : Nat) : Int) % 2 = ((w / 2 ^ i % 2 : Nat) : Int) := by omega
 rw [this,div_bit]
 split <;> rfl
theorem asked1_fn (w who whom : Nat) (yes : Bool) (hw : w < 16) (h1 : who < 4) (h2 : whom < 4) : FnZ Tryz.prog 202 [.int .i64 w,.ref [.int .i64 who],.ref [.int .i64 whom],.ref [.bool yes]] (.bool (sameKind who whom yes w)) := by
 have z1 : ¬ (who : Int) < 0 := by omega
 have z2 : ¬ (whom : Int) < 0 := by omega
 refine FZ (rs := [.tmp 5]) false Tryz.func202 ?_
 simp -dsimp
 refine twd (List.range 12) [] (List.replicate 12 []) (List.replicate 12 []) ?_
 simp -dsimp [List.range_succ,z1,z2]
 rw [bit1 w who (by omega) (by omega),bit1 w whom (by omega) (by omega)]
 unfold sameKind
 cases w.testBit who <;> cases w.testBit whom <;> simp
/-- The table of the worlds in which one says of another one so. -/
def askMask (p who whom : Nat) (yes : Bool) : Nat := tabN (2 ^ p) (sameKind who whom yes)
def asked (people t who whom : Int) (yes : Bool) : Int :=
 if tableOk people t = true ∧ 0 ≤ who ∧ who < people ∧ 0 ≤ whom ∧ whom < people then ((t.toNat &&& askMask people.toNat who.toNat whom.toNat yes : Nat) : Int) else -1
theorem tableOk_spec {people t : Int} (h : tableOk people t = true) : ∃ p n : Nat,people = p ∧ t = n ∧ 1 ≤ p ∧ p ≤ 4 ∧ n < 2 ^ 2 ^ p := by
 simp only [tableOk,peopleOk,Bool.and_eq_true,decide_eq_true_eq] at h
 obtain ⟨⟨⟨h1,h2⟩,h3⟩,h4⟩ := h
 refine ⟨people.toNat,t.toNat,by omega,by omega,by omega,by omega, ?_⟩
 generalize people.toNat = p at *
 have e : ((2 ^ 2 ^ p : Nat) : Int) = (2 : Int) ^ 2 ^ p := by simp
 rw [← e] at h4; omega
theorem table_small {p n : Nat} (hp : p ≤ 4) (h : n < 2 ^ 2 ^ p) : n < 65536 := by
 have : 2 ^ p ≤ 2 ^ 4 := Nat.pow_le_pow_right (by omega) hp
 have : 2 ^ 2 ^ p ≤ 2 ^ 2 ^ 4 := Nat.pow_le_pow_right (by omega) this
 have : (2 : Nat) ^ 2 ^ 4 = 65536 := by decide
 omega
theorem asked_fn (people t who whom : Int) (yes : Bool) : FnZ Tryz.prog 177 [.int .i64 people,.int .i64 t,.int .i64 who,.int .i64 whom,.bool yes] (.int .i64 (asked people t who whom yes)) := by
 have hk := ft (tableOk people t)
 rcases hk with hk | hk
 ·have e : asked people t who whom yes = -1 := by unfold asked; rw [if_neg (by simp [hk])]
  refine FZ (rs := [.tmp 10]) false Tryz.func177 ?_
  simp -dsimp
  refine cl (tableOk_fn people t) ?_
  simp -dsimp [hk,e]
 by_cases c1 : 0 ≤ who
 case neg =>
  have e : asked people t who whom yes = -1 := by unfold asked; rw [if_neg (by omega)]
  have c1' : who < 0 := by omega
  refine FZ (rs := [.tmp 10]) false Tryz.func177 ?_
  simp -dsimp
  refine cl (tableOk_fn people t) ?_
  simp -dsimp [hk,e,c1']
 have c1' : ¬ who < 0 := by omega
 by_cases c2 : who < people
 case neg =>
  have e : asked people t who whom yes = -1 := by unfold asked; rw [if_neg (by omega)]
  have c2' : people ≤ who := by omega
  refine FZ (rs := [.tmp 10]) false Tryz.func177 ?_
  simp -dsimp
  refine cl (tableOk_fn people t) ?_
  simp -dsimp [hk,e,c1',c2']
 have c2' : ¬ people ≤ who := by omega
 by_cases c3 : 0 ≤ whom
 case neg =>
  have e : asked people t who whom yes = -1 := by unfold asked; rw [if_neg (by omega)]
  have c3' : whom < 0 := by omega
  refine FZ (rs := [.tmp 10]) false Tryz.func177 ?_
  simp -dsimp
  refine cl (tableOk_fn people t) ?_
  simp -dsimp [hk,e,c1',c2',c3']
 have c3' : ¬ whom < 0 := by omega
 by_cases c4 : whom < people
 case neg =>
  have e : asked people t who whom yes = -1 := by unfold asked; rw [if_neg (by omega)]
  have c4' : people ≤ whom := by omega
  refine FZ (rs := [.tmp 10]) false Tryz.func177 ?_
  simp -dsimp
  refine cl (tableOk_fn people t) ?_
  simp -dsimp [hk,e,c1',c2',c3',c4']
 have c4' : ¬ people ≤ whom := by omega
 obtain ⟨p,n,rfl,rfl,hp1,hp4,hn⟩ := tableOk_spec hk
 obtain ⟨a,rfl⟩ := Int.eq_ofNat_of_zero_le c1
 obtain ⟨b,rfl⟩ := Int.eq_ofNat_of_zero_le c3
 have hN : 2 ^ p ≤ 2 ^ 4 := Nat.pow_le_pow_right (by omega) hp4
 have e : asked p n a b yes = ((n &&& askMask p a b yes : Nat) : Int) := by unfold asked; rw [if_pos (by exact ⟨hk,by omega,by omega,by omega,by omega⟩)]; rfl
 have hm : askMask p a b yes < 65536 := table_small hp4 (tabN_lt _ _)
 have hn' := table_small hp4 hn
 have hand := and_nn (a := n) (b := askMask p a b yes) (by omega) (by omega)
 unfold askMask at hand e
 refine FZ (rs := [.tmp 10]) false Tryz.func177 ?_
 simp -dsimp
 refine cl (tableOk_fn p n) ?_
 simp -dsimp [hk,c1',c2',c3',c4']
 refine callM_ (tableBy_fn p hp1 hp4 202 [.ref [.int .i64 a],.ref [.int .i64 b],.ref [.bool yes]] (sameKind a b yes) fun w hw => asked1_fn w a b yes (by omega) (by omega) (by omega)) (by simp -dsimp) rfl ?_
 simp -dsimp [hand,e]
end TL

namespace TL
open Go Go.Proofs
attribute [local simp] marksV storyV codeV Claim.v Place.v
theorem tableOkS_fn (people t : Int) : FnZ Tryz.prog 100 [.int .i64 people,.int .i64 t] (.bool (tableOk people t)) := by
 have hpk : inR people 1 4 = peopleOk people := rfl
 have hk := ft (peopleOk people)
 rcases hk with hk | hk
 ·refine FZ (rs := [.tmp 4]) false Tryz.func100 ?_
  simp -dsimp
  refine cl (l1In_fn people 1 4) ?_
  simp -dsimp [hk,hpk,tableOk]
 ·have h2 : people = 1 ∨ people = 2 ∨ people = 3 ∨ people = 4 := by simp [peopleOk] at hk; omega
  rcases h2 with rfl | rfl | rfl | rfl
  ·have e : inR t 0 3 = tableOk 1 t := by rw [Bool.eq_iff_iff,inR_true]; simp [tableOk,hk]; omega
   refine FZ (rs := [.tmp 4]) false Tryz.func100 ?_
   simp -dsimp
   refine cl (l1In_fn 1 1 4) ?_
   simp -dsimp [hk,hpk,show IntKind.wrap .u64 (2 ^ min 1 IntKind.u64.bits) = 2 from rfl,show IntKind.wrap .u64 (2 ^ min 2 IntKind.u64.bits) = 4 from rfl,show IntKind.wrap .u64 (2 ^ min 3 IntKind.u64.bits) = 8 from rfl,show IntKind.wrap .u64 (2 ^ min 4 IntKind.u64.bits) = 16 from rfl,show IntKind.wrap .i64 (2 ^ min 2 IntKind.i64.bits) = 4 from rfl,show IntKind.wrap .i64 (2 ^ min 4 IntKind.i64.bits) = 16 from rfl,show IntKind.wrap .i64 (2 ^ min 8 IntKind.i64.bits) = 256 from rfl,show IntKind.wrap .i64 (2 ^ min 16 IntKind.i64.bits) = 65536 from rfl,show IntKind.wrap .i64 3 = 3 from rfl]
   refine cl (l1In_fn t 0 3) ?_
   simp -dsimp [e]
  ·have e : inR t 0 15 = tableOk 2 t := by rw [Bool.eq_iff_iff,inR_true]; simp [tableOk,hk]; omega
   refine FZ (rs := [.tmp 4]) false Tryz.func100 ?_
   simp -dsimp
   refine cl (l1In_fn 2 1 4) ?_
   simp -dsimp [hk,hpk,show IntKind.wrap .u64 (2 ^ min 1 IntKind.u64.bits) = 2 from rfl,show IntKind.wrap .u64 (2 ^ min 2 IntKind.u64.bits) = 4 from rfl,show IntKind.wrap .u64 (2 ^ min 3 IntKind.u64.bits) = 8 from rfl,show IntKind.wrap .u64 (2 ^ min 4 IntKind.u64.bits) = 16 from rfl,show IntKind.wrap .i64 (2 ^ min 2 IntKind.i64.bits) = 4 from rfl,show IntKind.wrap .i64 (2 ^ min 4 IntKind.i64.bits) = 16 from rfl,show IntKind.wrap .i64 (2 ^ min 8 IntKind.i64.bits) = 256 from rfl,show IntKind.wrap .i64 (2 ^ min 16 IntKind.i64.bits) = 65536 from rfl,show IntKind.wrap .i64 15 = 15 from rfl]
   refine cl (l1In_fn t 0 15) ?_
   simp -dsimp [e]
  ·have e : inR t 0 255 = tableOk 3 t := by rw [Bool.eq_iff_iff,inR_true]; simp [tableOk,hk]; omega
   refine FZ (rs := [.tmp 4]) false Tryz.func100 ?_
   simp -dsimp
   refine cl (l1In_fn 3 1 4) ?_
   simp -dsimp [hk,hpk,show IntKind.wrap .u64 (2 ^ min 1 IntKind.u64.bits) = 2 from rfl,show IntKind.wrap .u64 (2 ^ min 2 IntKind.u64.bits) = 4 from rfl,show IntKind.wrap .u64 (2 ^ min 3 IntKind.u64.bits) = 8 from rfl,show IntKind.wrap .u64 (2 ^ min 4 IntKind.u64.bits) = 16 from rfl,show IntKind.wrap .i64 (2 ^ min 2 IntKind.i64.bits) = 4 from rfl,show IntKind.wrap .i64 (2 ^ min 4 IntKind.i64.bits) = 16 from rfl,show IntKind.wrap .i64 (2 ^ min 8 IntKind.i64.bits) = 256 from rfl,show IntKind.wrap .i64 (2 ^ min 16 IntKind.i64.bits) = 65536 from rfl,show IntKind.wrap .i64 255 = 255 from rfl]
   refine cl (l1In_fn t 0 255) ?_
   simp -dsimp [e]
  ·have e : inR t 0 65535 = tableOk 4 t := by rw [Bool.eq_iff_iff,inR_true]; simp [tableOk,hk]; omega
   refine FZ (rs := [.tmp 4]) false Tryz.func100 ?_
   simp -dsimp
   refine cl (l1In_fn 4 1 4) ?_
   simp -dsimp [hk,hpk,show IntKind.wrap .u64 (2 ^ min 1 IntKind.u64.bits) = 2 from rfl,show IntKind.wrap .u64 (2 ^ min 2 IntKind.u64.bits) = 4 from rfl,show IntKind.wrap .u64 (2 ^ min 3 IntKind.u64.bits) = 8 from rfl,show IntKind.wrap .u64 (2 ^ min 4 IntKind.u64.bits) = 16 from rfl,show IntKind.wrap .i64 (2 ^ min 2 IntKind.i64.bits) = 4 from rfl,show IntKind.wrap .i64 (2 ^ min 4 IntKind.i64.bits) = 16 from rfl,show IntKind.wrap .i64 (2 ^ min 8 IntKind.i64.bits) = 256 from rfl,show IntKind.wrap .i64 (2 ^ min 16 IntKind.i64.bits) = 65536 from rfl,show IntKind.wrap .i64 65535 = 65535 from rfl]
   refine cl (l1In_fn t 0 65535) ?_
   simp -dsimp [e]
def Ia13 (N n who whom : Nat) (people : Int) (yes : Bool) (g : Nat → Bool) (e : Nat) (s : S) : Prop := ∃ w : Nat,s.tm 0 = .v (.int .i64 people) ∧ s.tm 1 = .v (.int .i64 n) ∧ s.tm 2 = .v (.int .i64 who) ∧ s.tm 3 = .v (.int .i64 whom) ∧ s.tm 4 = .v (.bool yes) ∧ s.tm 12 = .v (.int .i64 w) ∧ s.tm 11 = .v (.int .i64 (tabN w g)) ∧ w ≤ N ∧ (e = 1 → w = N)
theorem shl_fact {w : Nat} (h : w < 60) : IntKind.wrap .i64 (2 ^ min w IntKind.i64.bits) = (2 : Int) ^ w := by
 have h1 : (2 : Nat) ^ w ≤ 2 ^ 59 := Nat.pow_le_pow_right (by omega) (by omega)
 have e : ((2 ^ w : Nat) : Int) = (2 : Int) ^ w := by simp
 have h3 := Int.natCast_nonneg (2 ^ w)
 have h4 : ((2 ^ w : Nat) : Int) ≤ ((2 ^ 59 : Nat) : Int) := Int.ofNat_le.mpr h1
 rw [Nat.min_eq_left (by simp [IntKind.bits]; omega),← e]
 generalize ((2 ^ w : Nat) : Int) = q at *
 rw [w64 (by omega) (by omega)]
theorem l13Asked_fn (p n who whom : Nat) (yes : Bool) (hp1 : 1 ≤ p) (hp4 : p ≤ 4) (hn : n < 65536) (h1 : who < 4) (h2 : whom < 4) :
  FnZ Tryz.prog 151 [.int .i64 p,.int .i64 n,.int .i64 who,.int .i64 whom,.bool yes] (.int .i64 (tabN (2 ^ p) fun w => n.testBit w && sameKind who whom yes w)) := by
 have hN : 2 ^ p ≤ 16 := by
  have : p = 1 ∨ p = 2 ∨ p = 3 ∨ p = 4 := by omega
  rcases this with rfl | rfl | rfl | rfl <;> simp
 have ws : IntKind.wrap .i64 (2 ^ min p IntKind.i64.bits) = ((2 ^ p : Nat) : Int) := by rw [shl_fact (by omega)]; simp
 generalize hg : (fun w => n.testBit w && sameKind who whom yes w) = g
 generalize hNN : 2 ^ p = N at *
 have hp0 : ¬ (p : Int) < 0 := by omega
 have z1 : ¬ (who : Int) < 0 := by omega
 have z2 : ¬ (whom : Int) < 0 := by omega
 refine FZ (rs := [.tmp 10]) false Tryz.func151 ?_
 simp -dsimp
 refine twp_loopC (Ia13 N n who whom p yes g 0) (fun s => N - natOf (s.tm 12)) (Ia13 N n who whom p yes g 1) ?_ ?_ ?_
 ·exact ⟨0,by simp -dsimp,by simp -dsimp,by simp -dsimp,by simp -dsimp,by simp -dsimp,by simp -dsimp,by simp -dsimp [tabN],by omega,by simp⟩
 ·rintro s ⟨w,t0,t1,t2,t3,t4,t12,t11,hw,hend⟩
  by_cases hlt : w < N
  case neg =>
   simp -dsimp [t0,t12,hp0,ws,hlt]
   exact ⟨w,by simp -dsimp [t0],by simp -dsimp [t1],by simp -dsimp [t2],by simp -dsimp [t3],by simp -dsimp [t4],by simp -dsimp [t12],by simp -dsimp [t11],hw,fun _ => by omega⟩
  have wi : IntKind.wrap .i64 ((w : Int) + 1) = ((w + 1 : Nat) : Int) := by rw [w64 (by omega) (by omega)]; omega
  have hmu : N - (w + 1) < N - w := by omega
  have z3 : ¬ (w : Int) < 0 := by omega
  have b0 := bit2 n w (by omega)
  have b1 := bit2 w who (by omega)
  have b2 := bit2 w whom (by omega)
  have hb := tabN_lt g w
  have hp : 2 ^ w ≤ 2 ^ 16 := Nat.pow_le_pow_right (by omega) (by omega)
  have h2' : (2 : Nat) ^ w < 4611686018427387904 := by omega
  have wsh := shl_fact (w := w) (by omega)
  have hor := or_ni (a := tabN w g) (b := 2 ^ w) (x := (2 : Int) ^ w) (by simp) (by omega) h2'
  have hgw : g w = (n.testBit w && sameKind who whom yes w) := by rw [← hg]
  have fin : ∀ s' : S,s'.tm 0 = .v (.int .i64 p) → s'.tm 1 = .v (.int .i64 n) → s'.tm 2 = .v (.int .i64 who) → s'.tm 3 = .v (.int .i64 whom) → s'.tm 4 = .v (.bool yes) → s'.tm 12 = .v (.int .i64 (w + 1 : Nat)) → s'.tm 11 = .v (.int .i64 (tabN (w + 1) g)) → Ia13 N n who whom p yes g 0 s' := fun s' a b c d e f h => ⟨w + 1,a,b,c,d,e,f,h,by omega,by simp⟩
  have hno : g w = false → tabN (w + 1) g = tabN w g := fun h => by simp [tabN,h]
  have hyes : g w = true → tabN (w + 1) g = tabN w g ||| 2 ^ w := fun h => by simp [tabN,h]
  simp -dsimp [t0,t12,hp0,ws,hlt]
  refine twd (List.range 18) [] (List.replicate 18 []) (List.replicate 18 []) ?_
  have c0 := ft (n.testBit w)
  rcases c0 with c0 | c0
  ·rw [c0] at b0 hgw
   have hno := hno (by rw [hgw]; rfl)
   simp -dsimp [List.range_succ,t0,t1,t2,t3,t4,t12,z1,z2,z3,b0,wi,hmu]
   exact fin _ (by simp -dsimp [t0]) (by simp -dsimp [t1]) (by simp -dsimp [t2]) (by simp -dsimp [t3]) (by simp -dsimp [t4]) (by simp -dsimp) (by simp -dsimp [t11,hno])
  ·rw [c0] at b0 hgw
   have hsk : sameKind who whom yes w = ((decide ((if w.testBit who = true then (1 : Int) else 0) = if w.testBit whom = true then 1 else 0)) == yes) := by
    unfold sameKind; cases w.testBit who <;> cases w.testBit whom <;> simp
   have c1 := ft (sameKind who whom yes w)
   rcases c1 with c1 | c1
   ·have hno := hno (by rw [hgw,c1]; rfl)
    rw [hsk] at c1
    simp -dsimp [List.range_succ,t0,t1,t2,t3,t4,t12,z1,z2,z3,b0,b1,b2,c1,wi,hmu]
    exact fin _ (by simp -dsimp [t0]) (by simp -dsimp [t1]) (by simp -dsimp [t2]) (by simp -dsimp [t3]) (by simp -dsimp [t4]) (by simp -dsimp) (by simp -dsimp [t11,hno])
   ·have hyes := hyes (by rw [hgw,c1]; rfl)
    rw [hsk] at c1
    simp -dsimp [List.range_succ,t0,t1,t2,t3,t4,t11,t12,z1,z2,z3,b0,b1,b2,c1,wi,hmu,wsh,hor]
    exact fin _ (by simp -dsimp [t0]) (by simp -dsimp [t1]) (by simp -dsimp [t2]) (by simp -dsimp [t3]) (by simp -dsimp [t4]) (by simp -dsimp) (by simp -dsimp [hyes])
 ·rintro s ⟨w,t0,t1,t2,t3,t4,t12,t11,hw,hend⟩
  have := hend rfl
  subst this
  simp -dsimp [t11]
end TL

namespace TL
open Go Go.Proofs
attribute [local simp] marksV storyV codeV Claim.v Place.v
/-- How many bits are set. -/
def cnt (n : Nat) : Nat := if h : n = 0 then 0 else n % 2 + cnt (n / 2)
theorem cnt_step {n : Nat} (h : 0 < n) : cnt n = n % 2 + cnt (n / 2) := by rw [cnt,dif_neg (by omega)]
theorem cnt_zero : cnt 0 = 0 := by rw [cnt]; rfl
def Ihd (w : Nat) (e : Nat) (s : S) : Prop := ∃ x q : Nat,s.tm 0 = .v (.int .i64 x) ∧ s.tm 3 = .v (.int .i64 q) ∧ q + cnt x = cnt w ∧ q + x ≤ w ∧ (e = 1 → x = 0)
theorem l1Heads_fn (w : Nat) (hw : w < 4611686018427387904) : FnZ Tryz.prog 61 [.int .i64 w] (.int .i64 (cnt w)) := by
 refine FZ (rs := [.tmp 2]) false Tryz.func61 ?_
 simp -dsimp
 refine twp_loopC (Ihd w 0) (fun s => natOf (s.tm 0)) (Ihd w 1) ?_ ?_ ?_
 ·exact ⟨w,0,by simp -dsimp,by simp -dsimp,by omega,by omega,by simp⟩
 ·rintro s ⟨x,q,t0,t3,hq,hx,hend⟩
  by_cases h0 : 0 < x
  case neg =>
   simp -dsimp [t0,h0]
   exact ⟨x,q,by simp -dsimp [t0],by simp -dsimp [t3],hq,hx,fun _ => by omega⟩
  have e1 : (x : Int).tmod 2 = ((x % 2 : Nat) : Int) := by rw [Int.tmod_eq_emod_of_nonneg (by omega)]; omega
  have e2 : (x : Int).tdiv 2 = ((x / 2 : Nat) : Int) := by rw [Int.tdiv_eq_ediv_of_nonneg (by omega)]; omega
  have hs := cnt_step h0
  generalize hr : x % 2 = r at *
  generalize hy : x / 2 = y at *
  have w1 : IntKind.wrap .i64 ((q : Int) + r) = ((q + r : Nat) : Int) := by rw [w64 (by omega) (by omega)]; omega
  have w2 : IntKind.wrap .i64 (y : Int) = (y : Int) := by rw [w64 (by omega) (by omega)]
  have hmu : y < x := by omega
  simp -dsimp [t0,t3,h0,e1,e2,w1,w2,hmu]
  exact ⟨y,q + r,by simp -dsimp,by simp -dsimp,by omega,by omega,by simp⟩
 ·rintro s ⟨x,q,t0,t3,hq,hx,hend⟩
  have := hend rfl
  subst this
  rw [cnt_zero] at hq
  have : q = cnt w := by omega
  subst this
  simp -dsimp [t3]
/-- The table in which everybody is the other way. -/
def turned (p n : Nat) : Nat := tabN (2 ^ p) fun j => n.testBit (2 ^ p - 1 - j)
end TL

namespace TL
open Go Go.Proofs
attribute [local simp] marksV storyV codeV Claim.v Place.v
theorem cnt_vals : cnt 0 = 0 ∧ cnt 1 = 1 ∧ cnt 2 = 1 ∧ cnt 3 = 2 ∧ cnt 4 = 1 ∧ cnt 5 = 2 ∧ cnt 6 = 2 ∧ cnt 7 = 3 ∧ cnt 8 = 1 ∧ cnt 9 = 2 ∧ cnt 10 = 2 ∧ cnt 11 = 3 ∧ cnt 12 = 2 ∧ cnt 13 = 3 ∧ cnt 14 = 3 ∧ cnt 15 = 4 := by simp [cnt]
theorem onesCount64_fn (w : Nat) (hw : w < 16) : FnZ Tryz.prog 211 [.int .u64 w] (.int .i64 (cnt w)) := by
 have h : w = 0 ∨ w = 1 ∨ w = 2 ∨ w = 3 ∨ w = 4 ∨ w = 5 ∨ w = 6 ∨ w = 7 ∨ w = 8 ∨ w = 9 ∨ w = 10 ∨ w = 11 ∨ w = 12 ∨ w = 13 ∨ w = 14 ∨ w = 15 := by omega
 rcases h with rfl | rfl | rfl | rfl | rfl | rfl | rfl | rfl | rfl | rfl | rfl | rfl | rfl | rfl | rfl | rfl
 all_goals
  simp only [cnt_vals]
  refine FZ (rs := [.tmp 2]) false Tryz.func211 ?_
  simp -dsimp
  rfl
theorem onesCount_fn (w : Nat) (hw : w < 16) : FnZ Tryz.prog 184 [.int .u64 w] (.int .i64 (cnt w)) := by
 have e : IntKind.wrap .u64 (w : Int) = w := by simp only [IntKind.wrap,IntKind.bits,IntKind.signed]; simp; omega
 refine FZ (rs := [.tmp 2]) false Tryz.func184 ?_
 simp -dsimp
 refine cl (onesCount64_fn w hw) ?_
 simp -dsimp
/-- What a term's last part is, the parts' answers last one first. -/
def runStep (w : Nat) (m : Mark) (r : List Bool) : List Bool :=
 if m.kind = 0 then w.testBit m.num.toNat :: r
 else if m.kind = 1 then decide (m.num ≤ cnt w) :: r
 else if m.kind = 2 then match r with
  | b :: r => (!b) :: r
  | [] => []
 else match r with
  | b :: a :: r => (if m.kind = 3 then a && b else if m.kind = 4 then a || b else a == b) :: r
  | _ => []
def runR (w : Nat) (r : List Bool) (t : List Mark) : List Bool := t.foldl (fun r m => runStep w m r) r
def truth (t : List Mark) (w : Nat) : Bool := (runR w [] t).headD false
def stkT (l : List Bool) : List T := l.map fun b => .v (.bool b)
theorem runStep_length {people : Int} {w : Nat} {m : Mark} {r : List Bool} {q : Nat} (h : markStep people r.length m = some q) : (runStep w m r).length = q := by
 unfold markStep at h; unfold runStep
 by_cases k0 : m.kind = 0
 ·rw [if_pos k0] at h ⊢
  split at h
  ·cases h; simp
  ·cases h
 by_cases k1 : m.kind = 1
 ·rw [if_neg k0,if_pos k1] at h ⊢
  split at h
  ·cases h; simp
  ·cases h
 by_cases k2 : m.kind = 2
 ·rw [if_neg k0,if_neg k1,if_pos k2] at h ⊢
  split at h
  ·cases h
   cases r with
   | nil => simp at *
   | cons b r => simp
  ·cases h
 rw [if_neg k0,if_neg k1,if_neg k2] at h ⊢
 split at h
 ·split at h
  ·cases h
   match r with
   | [] => simp at *
   | [b] => simp at *
   | b :: a :: r => simp
  ·cases h
 ·cases h
/-- The row of answers on the way. -/
def Ihs (people : Int) (w : Nat) (t : List Mark) (e : Nat) (s : S) : Prop := ∃ (i id : Nat) (r : List Bool) (cs ex : List T),s.tm 1 = .v (.int .i64 w) ∧ s.tm 12 = .v (.sl (t.map Mark.v)) ∧ s.tm 13 = .v (.int .i64 t.length) ∧ s.tm 14 = .v (.int .i64 i) ∧ s.tm 5 = .sv id 0 r.length ∧ s.mu = true ∧
 id < s.n ∧ s.m id = some (.box 4 1 cs) ∧ cs = stkT r.reverse ++ ex ∧ i ≤ t.length ∧ r.length ≤ i ∧ marksRun people r.length (t.drop i) = some 1 ∧ runR w r (t.drop i) = runR w [] t ∧ (e = 1 → i = t.length)
theorem holds_fn (people : Int) (hp4 : people ≤ 4) (t : List Mark) (ht : marksRun people 0 t = some 1) (hl : t.length ≤ 100) (w : Nat) (hw : w < 16) : FnZ Tryz.prog 141 [marksV t,.int .i64 w] (.bool (truth t w)) := by
 refine FZ (rs := [.tmp 4]) true Tryz.func141 ?_
 simp -dsimp
 refine twp_loopC (Ihs people w t 0) (fun s => t.length - natOf (s.tm 14)) (Ihs people w t 1) ?_ ?_ ?_
 ·exact ⟨0,0,[],[],[],by simp -dsimp,by simp -dsimp,by simp -dsimp,by simp -dsimp,by simp -dsimp,by simp -dsimp,by simp -dsimp,by simp -dsimp,by simp [stkT],by omega,by simp,by simpa using ht,by simp,by simp⟩
 ·rintro s ⟨i,id,r,cs,ex,t1,t12,t13,t14,t5,hmu,hid,hm,hcs,hi,hri,hrun,hrr,hend⟩
  by_cases hlt : i < t.length
  case neg =>
   simp -dsimp [t13,t14,hlt]
   exact ⟨i,id,r,cs,ex,by simp -dsimp [t1],by simp -dsimp [t12],by simp -dsimp [t13],by simp -dsimp [t14],by simp -dsimp [t5],by simp -dsimp [hmu],by simp -dsimp; omega,by simp -dsimp [hm],hcs,hi,hri,hrun,hrr,fun _ => by omega⟩
  have hget : (t.map Mark.v)[i]? = some (t[i].v) := by simp [hlt]
  have hdrop := drop_cons hlt
  rw [hdrop] at hrun hrr
  have wi : IntKind.wrap .i64 ((i : Int) + 1) = ((i + 1 : Nat) : Int) := by rw [w64 (by omega) (by omega)]; omega
  have hmu1 : t.length - (i + 1) < t.length - i := by omega
  simp only [marksRun] at hrun
  have hsl : ∀ q,markStep people r.length t[i] = some q → (runStep w t[i] r).length = q := fun q h => runStep_length h
  have hrr2 : runR w (runStep w t[i] r) (t.drop (i + 1)) = runR w [] t := hrr
  have f1 := far hid
  have fin : ∀ (s' : S) (q id' : Nat) (ex' : List T),markStep people r.length t[i] = some q → s'.tm 1 = .v (.int .i64 w) → s'.tm 12 = .v (.sl (t.map Mark.v)) → s'.tm 13 = .v (.int .i64 t.length) → s'.tm 14 = .v (.int .i64 (i + 1 : Nat)) → s'.tm 5 = .sv id' 0 q → s'.mu = true →
    id' < s'.n → s'.m id' = some (.box 4 1 (stkT (runStep w t[i] r).reverse ++ ex')) → Ihs people w t 0 s' := by
   intro s' q id' ex' hq a1 a12 a13 a14 a5 amu aid am
   have := hsl q hq
   refine ⟨i + 1,id',runStep w t[i] r,_,ex',a1,a12,a13,a14,by rw [this]; exact a5,amu,aid,am,rfl,by omega, ?_, ?_,hrr2,by simp⟩
   ·have := markStep_le hq; omega
   ·rw [this]; rw [hq] at hrun; exact hrun
  have wl : IntKind.wrap .i64 ((r.length : Int) - 1) = (r.length : Int) - 1 := w64 (by omega) (by omega)
  have b1 : r.length + 1 ≤ 140737488355328 := by omega
  by_cases k0 : t[i].kind = 0
  ·have hk : markStep people r.length t[i] = some (r.length + 1) := by
    unfold markStep at hrun ⊢
    rw [if_pos k0] at hrun ⊢
    split at hrun
    ·rename_i h; rw [if_pos h]
    ·cases hrun
   have hnum : 0 ≤ t[i].num ∧ t[i].num < people := by
    unfold markStep at hrun
    rw [if_pos k0] at hrun
    split at hrun
    ·assumption
    ·cases hrun
   obtain ⟨a,ha⟩ := Int.eq_ofNat_of_zero_le hnum.1
   have hbit := bit1 w a (by omega) (by omega)
   have hstep : runStep w t[i] r = w.testBit a :: r := by simp [runStep,k0,ha]
   have htake : cs.take r.length = stkT r.reverse := by rw [hcs,List.take_left' (by simp [stkT])]
   have hll : r.length ≤ cs.length := by rw [hcs]; simp [stkT]
   simp -dsimp [t5,t12,t13,t14,hlt,hget,hmu,hm,f1,wl,k0,ha,t1,hbit,htake,hll,b1,wi,hmu1,show ¬ (a : Int) < 0 by omega]
   refine st_out fun s' ht' hm' hn' hu' => ?_
   have q1 := ht' 1
   have q5 := ht' 5
   have q12 := ht' 12
   have q13 := ht' 13
   have q14 := ht' 14
   simp -dsimp [t1,t12,t13] at q1 q5 q12 q13 q14 hm' hn' hu'
   clear ht'
   refine fin s' (r.length + 1) _ [] hk q1 q12 q13 q14 q5 (by rw [hu',hmu]) (by omega) ?_
   rw [hstep]; simp [hm',stkT]
  by_cases k1 : t[i].kind = 1
  ·have hk : markStep people r.length t[i] = some (r.length + 1) := by
    unfold markStep at hrun ⊢
    rw [if_neg k0,if_pos k1] at hrun ⊢
    split at hrun
    ·rename_i h; rw [if_pos h]
    ·cases hrun
   have hstep : runStep w t[i] r = decide (t[i].num ≤ cnt w) :: r := by simp [runStep,k1]
   have htake : cs.take r.length = stkT r.reverse := by rw [hcs,List.take_left' (by simp [stkT])]
   have hll : r.length ≤ cs.length := by rw [hcs]; simp [stkT]
   have wu : IntKind.wrap .u64 (w : Int) = w := by simp only [IntKind.wrap,IntKind.bits,IntKind.signed]; simp; omega
   have hc := onesCount_fn w hw
   simp -dsimp [t5,t12,t13,t14,hlt,hget,hmu,hm,f1,wl,k0,k1,t1]
   refine twd [0,1,2,4,5,3,6,7,8,9] [s.n] (List.replicate 10 [0]) (List.replicate 10 [0]) ?_
   simp -dsimp [List.range_succ,t5,t12,t13,t14,hlt,hget,hmu,hm,f1,wl,k0,k1,t1,wu]
   refine cl hc ?_
   simp -dsimp [t5,t12,t13,t14,hmu,hm,f1,htake,hll,b1,wi,hmu1,nes]
   refine st_out fun s' ht' hm' hn' hu' => ?_
   have q1 := ht' 1
   have q5 := ht' 5
   have q12 := ht' 12
   have q13 := ht' 13
   have q14 := ht' 14
   simp -dsimp [t1,t5,t12,t13] at q1 q5 q12 q13 q14 hm' hn' hu'
   clear ht'
   refine fin s' (r.length + 1) _ [] hk q1 q12 q13 q14 q5 (by rw [hu',hmu]) (by omega) ?_
   rw [hstep]; simp [hm',stkT]
  by_cases k2 : t[i].kind = 2
  ·have hk : markStep people r.length t[i] = some r.length ∧ 1 ≤ r.length := by
    unfold markStep at hrun ⊢
    rw [if_neg k0,if_neg k1,if_pos k2] at hrun ⊢
    split at hrun
    ·rename_i h; rw [if_pos h]; exact ⟨rfl,h.2⟩
    ·cases hrun
   obtain ⟨hk,h1⟩ := hk
   obtain ⟨b,r0,hr⟩ : ∃ b r0,r = b :: r0 := by
    cases r with
    | nil => simp at h1
    | cons b r0 => exact ⟨b,r0,rfl⟩
   obtain ⟨K1,hK1⟩ : ∃ K1,K1 = r0.length := ⟨_,rfl⟩
   have hKr : r.length = K1 + 1 := by rw [hr,hK1]; rfl
   have hstep : runStep w t[i] r = (!b) :: r0 := by rw [hr]; simp [runStep,k2]
   have g1 : cs[K1]? = some (.v (.bool b)) := by rw [hcs,hr,hK1]; simp [stkT]
   have hset : cs.set K1 (.v (.bool !b)) = stkT (runStep w t[i] r).reverse ++ ex := by
    rw [hstep,hcs,hr,hK1]; simp [stkT]
   have hlc : K1 + 1 ≤ cs.length := by rw [hcs,hr,hK1]; simp [stkT]
   have wl : IntKind.wrap .i64 ((r.length : Int) - 1) = (K1 : Int) := by rw [w64 (by omega) (by omega)]; omega
   have i1 : (K1 : Int) < r.length := by omega
   generalize r.length = K at *
   simp -dsimp [t5,t12,t13,t14,hlt,hget,hmu,hm,f1,wl,k0,k1,k2,t1,g1,i1,hset,hlc,wi,hmu1]
   refine st_out fun s' ht' hm' hn' hu' => ?_
   have q1 := ht' 1
   have q5 := ht' 5
   have q12 := ht' 12
   have q13 := ht' 13
   have q14 := ht' 14
   simp -dsimp [t1,t5,t12,t13] at q1 q5 q12 q13 q14 hm' hn' hu'
   clear ht'
   refine fin s' K _ ex hk q1 q12 q13 q14 q5 (by rw [hu',hmu]) (by omega) ?_
   simp [hm']
  have hk : (t[i].kind = 3 ∨ t[i].kind = 4 ∨ t[i].kind = 5) ∧ markStep people r.length t[i] = some (r.length - 1) ∧ 2 ≤ r.length := by
   unfold markStep at hrun ⊢
   rw [if_neg k0,if_neg k1,if_neg k2] at hrun ⊢
   split at hrun
   ·rename_i hkk
    rw [if_pos hkk]
    split at hrun
    ·rename_i h; rw [if_pos h]; exact ⟨hkk,rfl,h.2⟩
    ·cases hrun
   ·cases hrun
  obtain ⟨hkk,hk,h1⟩ := hk
  obtain ⟨b,a,r0,hr⟩ : ∃ b a r0,r = b :: a :: r0 := by
   match r,h1 with
   | b :: a :: r0,_ => exact ⟨b,a,r0,rfl⟩
  obtain ⟨K2,hK2⟩ : ∃ K2,K2 = r0.length := ⟨_,rfl⟩
  obtain ⟨K1,hK1⟩ : ∃ K1,K1 = K2 + 1 := ⟨_,rfl⟩
  have hKr : r.length = K1 + 1 := by rw [hr,hK1,hK2]; rfl
  have hstep : runStep w t[i] r = (if t[i].kind = 3 then a && b else if t[i].kind = 4 then a || b else a == b) :: r0 := by rw [hr]; simp [runStep,k0,k1,k2]
  have g1 : cs[K1]? = some (.v (.bool b)) := by rw [hcs,hr,hK1,hK2]; simp [stkT]
  have g2 : cs[K2]? = some (.v (.bool a)) := by rw [hcs,hr,hK2]; simp [stkT]
  have hset : ∀ x,(if t[i].kind = 3 then a && b else if t[i].kind = 4 then a || b else a == b) = x → cs.set K2 (.v (.bool x)) = stkT (runStep w t[i] r).reverse ++ (.v (.bool b) :: ex) := by
   intro x hx
   rw [hstep,hcs,hr,hK2,hx]; simp [stkT]
  have hlc : K2 + 1 ≤ cs.length := by rw [hcs,hr,hK2]; simp [stkT]
  have wl : IntKind.wrap .i64 ((r.length : Int) - 1) = (K1 : Int) := by rw [w64 (by omega) (by omega)]; omega
  have wl2 : IntKind.wrap .i64 ((K1 : Int) - 1) = (K2 : Int) := by rw [w64 (by omega) (by omega)]; omega
  have i1 : (K1 : Int) < r.length := by omega
  have i2 : (K2 : Int) < r.length := by omega
  have i3 : (K1 : Int) ≤ r.length := by omega
  have i4 : (K2 : Int) < K1 := by omega
  generalize r.length = K at *
  have hk : markStep people K t[i] = some K1 := by rw [hk]; congr 1; omega
  by_cases k3 : t[i].kind = 3
  ·have ha := ft a
   rcases ha with ha | ha
   ·have hset := hset (false) (by rw [if_pos k3,ha]; rfl)
    simp -dsimp [t5,t12,t13,t14,hlt,hget,hmu,hm,f1,wl,wl2,k0,k1,k2,k3,ha,t1]
    refine twd (List.range 11) [id] (List.replicate 11 [0]) (List.replicate 11 [0]) ?_
    simp -dsimp [List.range_succ,t5,t12,t13,t14,hlt,hget,hmu,hm,f1,wl,wl2,k0,k1,k2,k3,ha,t1,g1,g2,i1,i2,i3,i4,hset,hlc,wi,hmu1]
    refine st_out fun s' ht' hm' hn' hu' => ?_
    have q1 := ht' 1
    have q5 := ht' 5
    have q12 := ht' 12
    have q13 := ht' 13
    have q14 := ht' 14
    simp -dsimp [t1,t5,t12,t13] at q1 q5 q12 q13 q14 hm' hn' hu'
    clear ht'
    refine fin s' K1 _ (.v (.bool b) :: ex) hk q1 q12 q13 q14 q5 (by rw [hu',hmu]) (by omega) ?_
    simp [hm']
   ·have hset := hset (b) (by rw [if_pos k3,ha]; simp)
    simp -dsimp [t5,t12,t13,t14,hlt,hget,hmu,hm,f1,wl,wl2,k0,k1,k2,k3,ha,t1]
    refine twd (List.range 11) [id] (List.replicate 11 [0]) (List.replicate 11 [0]) ?_
    simp -dsimp [List.range_succ,t5,t12,t13,t14,hlt,hget,hmu,hm,f1,wl,wl2,k0,k1,k2,k3,ha,t1,g1,g2,i1,i2,i3,i4,hset,hlc,wi,hmu1]
    refine st_out fun s' ht' hm' hn' hu' => ?_
    have q1 := ht' 1
    have q5 := ht' 5
    have q12 := ht' 12
    have q13 := ht' 13
    have q14 := ht' 14
    simp -dsimp [t1,t5,t12,t13] at q1 q5 q12 q13 q14 hm' hn' hu'
    clear ht'
    refine fin s' K1 _ (.v (.bool b) :: ex) hk q1 q12 q13 q14 q5 (by rw [hu',hmu]) (by omega) ?_
    simp [hm']
  by_cases k4 : t[i].kind = 4
  ·have ha := ft a
   rcases ha with ha | ha
   ·have hset := hset (b) (by rw [if_neg k3,if_pos k4,ha]; simp)
    simp -dsimp [t5,t12,t13,t14,hlt,hget,hmu,hm,f1,wl,wl2,k0,k1,k2,k3,k4,ha,t1]
    refine twd (List.range 11) [id] (List.replicate 11 [0]) (List.replicate 11 [0]) ?_
    simp -dsimp [List.range_succ,t5,t12,t13,t14,hlt,hget,hmu,hm,f1,wl,wl2,k0,k1,k2,k3,k4,ha,t1,g1,g2,i1,i2,i3,i4,hset,hlc,wi,hmu1]
    refine st_out fun s' ht' hm' hn' hu' => ?_
    have q1 := ht' 1
    have q5 := ht' 5
    have q12 := ht' 12
    have q13 := ht' 13
    have q14 := ht' 14
    simp -dsimp [t1,t5,t12,t13] at q1 q5 q12 q13 q14 hm' hn' hu'
    clear ht'
    refine fin s' K1 _ (.v (.bool b) :: ex) hk q1 q12 q13 q14 q5 (by rw [hu',hmu]) (by omega) ?_
    simp [hm']
   ·have hset := hset (true) (by rw [if_neg k3,if_pos k4,ha]; simp)
    simp -dsimp [t5,t12,t13,t14,hlt,hget,hmu,hm,f1,wl,wl2,k0,k1,k2,k3,k4,ha,t1]
    refine twd (List.range 11) [id] (List.replicate 11 [0]) (List.replicate 11 [0]) ?_
    simp -dsimp [List.range_succ,t5,t12,t13,t14,hlt,hget,hmu,hm,f1,wl,wl2,k0,k1,k2,k3,k4,ha,t1,g1,g2,i1,i2,i3,i4,hset,hlc,wi,hmu1]
    refine st_out fun s' ht' hm' hn' hu' => ?_
    have q1 := ht' 1
    have q5 := ht' 5
    have q12 := ht' 12
    have q13 := ht' 13
    have q14 := ht' 14
    simp -dsimp [t1,t5,t12,t13] at q1 q5 q12 q13 q14 hm' hn' hu'
    clear ht'
    refine fin s' K1 _ (.v (.bool b) :: ex) hk q1 q12 q13 q14 q5 (by rw [hu',hmu]) (by omega) ?_
    simp [hm']
  have hset := hset (a == b) (by rw [if_neg k3,if_neg k4])
  simp -dsimp [t5,t12,t13,t14,hlt,hget,hmu,hm,f1,wl,wl2,k0,k1,k2,k3,k4,t1]
  refine twd (List.range 11) [id] (List.replicate 11 [0]) (List.replicate 11 [0]) ?_
  simp -dsimp [List.range_succ,t5,t12,t13,t14,hlt,hget,hmu,hm,f1,wl,wl2,k0,k1,k2,k3,k4,t1,g1,g2,i1,i2,i3,i4,hset,hlc,wi,hmu1]
  refine st_out fun s' ht' hm' hn' hu' => ?_
  have q1 := ht' 1
  have q5 := ht' 5
  have q12 := ht' 12
  have q13 := ht' 13
  have q14 := ht' 14
  simp -dsimp [t1,t5,t12,t13] at q1 q5 q12 q13 q14 hm' hn' hu'
  clear ht'
  refine fin s' K1 _ (.v (.bool b) :: ex) hk q1 q12 q13 q14 q5 (by rw [hu',hmu]) (by omega) ?_
  simp [hm']
 ·rintro s ⟨i,id,r,cs,ex,t1,t12,t13,t14,t5,hmu,hid,hm,hcs,hi,hri,hrun,hrr,hend⟩
  have := hend rfl
  subst this
  rw [List.drop_length] at hrun hrr
  simp only [marksRun,Option.some.injEq] at hrun
  obtain ⟨b,rfl⟩ : ∃ b,r = [b] := by
   match r,hrun with
   | [b],_ => exact ⟨b,rfl⟩
  have hb : truth t w = b := by unfold truth; rw [← hrr]; rfl
  rw [hb]
  simp -dsimp [t5,hm,hcs,stkT]
end TL

namespace TL
open Go Go.Proofs
attribute [local simp] marksV storyV codeV Claim.v Place.v Desk.v
def Il15 (p : Place) (e : Nat) (s : S) : Prop := ∃ (i : Nat) (st : T) (z : List T),s.tm 1 = .ptr 0 0 ∧ s.tm 2 = .ptr 1 0 ∧ s.tm 3 = .ptr 2 0 ∧ s.tm 4 = .v (.int .i64 i) ∧ s.mu = false ∧ i ≤ p.story.length ∧ 3 ≤ s.n ∧
 s.m 0 = some (.box 31 2 [.v (.int .i64 p.people),.v (storyV p.story)]) ∧ s.m 1 = some (.box 31 2 z) ∧ z.length = 2 ∧ s.m 2 = some (.box 31 2 [.v (.int .i64 p.people),st]) ∧ IsRow s.m 3 s.n 104 st ((p.story.take i).map Claim.v) ∧ (e = 1 → i = p.story.length)
theorem l15Place_fn (p : Place) (hp : p.small) : FnZ Tryz.prog 42 [p.v] p.v := by
 have hl := hp.1
 refine FZ (rs := [.cell 2 31]) false Tryz.func42 ?_
 simp -dsimp
 refine twp_loopC (Il15 p 0) (fun s => p.story.length - natOf (s.tm 4)) (Il15 p 1) ?_ ?_ ?_
 ·exact ⟨0,.nil,[.v (.int .i64 0),.nil],by simp -dsimp,by simp -dsimp,by simp -dsimp,by simp -dsimp,by simp -dsimp,by omega,by simp -dsimp,by simp -dsimp,by simp -dsimp,rfl,by simp -dsimp,.inl ⟨rfl,by simp⟩,by simp⟩
 ·rintro s ⟨i,st,z,t1,t2,t3,t4,hmu,hi,hn,m0,m1,hz,m2,hst,hend⟩
  by_cases hlt : i < p.story.length
  case neg =>
   simp -dsimp [t1,t4,m0,hlt]
   exact ⟨i,st,z,by simp -dsimp [t1],by simp -dsimp [t2],by simp -dsimp [t3],by simp -dsimp [t4],by simp -dsimp [hmu],hi,by simp -dsimp; omega,by simp -dsimp [m0],by simp -dsimp [m1],hz,by simp -dsimp [m2],hst,fun _ => by omega⟩
  have hget : (p.story.map Claim.v)[i]? = some (p.story[i].v) := by simp [hlt]
  have wi : IntKind.wrap .i64 ((i : Int) + 1) = ((i + 1 : Nat) : Int) := by rw [w64 (by omega) (by omega)]; omega
  have hmu1 : p.story.length - (i + 1) < p.story.length - i := by omega
  have f0 := far (show 0 < s.n by omega)
  have f1 := far (show 1 < s.n by omega)
  have f2 := far (show 2 < s.n by omega)
  have hsm := hp.2 p.story[i] (List.getElem_mem _)
  unfold Claim.small at hsm
  have b0 : p.story[i].says.length * 16 ≤ 140737488355328 := by omega
  have b1 : (min i p.story.length + 1) * 32 ≤ 140737488355328 := by omega
  have htk : (p.story.take (i + 1)).map Claim.v = (p.story.take i).map Claim.v ++ [p.story[i].v] := by rw [List.take_succ_eq_append_getElem hlt,List.map_append]; rfl
  simp -dsimp [t1,t4,m0,hlt]
  refine twd [0,1,2,3,4,5,6,7,9,10,11,12,13,14,8,15,16,17,18,19,20] [0,2] (List.replicate 21 [0,1]) (List.replicate 20 [0,1] ++ [[0]]) ?_
  rcases hst with ⟨rfl,hs0⟩ | ⟨id,rfl,hi0,hi1,him⟩
  ·simp -dsimp [t1,t3,t4,m0,m2,hlt,hget,hmu,nes,f0,f1,f2,b0,wi,hmu1]
   have hi00 : i = 0 := by
    simp at hs0; rcases hs0 with h | h
    ·exact h
    ·rw [h] at hlt; simp at hlt
   subst hi00
   refine st_out fun s' ht hm' hn' hu' => ?_
   have q1 := ht 1
   have q2 := ht 2
   have q3 := ht 3
   have q4 := ht 4
   simp -dsimp [t1,t2,t3] at q1 q2 q3 q4 hm' hn' hu'
   clear ht
   have hn0 : ¬ s.n = 0 := by omega
   have hn1 : ¬ s.n = 1 := by omega
   refine ⟨1,.loc (s.n + 1 + 1 + 1),z,q1,q2,q3,q4,by rw [hu',hmu],by omega,by omega,by simp [hm',hn0,hn1,f0,m0],by simp [hm',hn0,hn1,f1,m1],hz,by simp [hm',hn0,hn1],.inr ⟨s.n + 1 + 1 + 1,rfl,by omega,by omega, ?_⟩,by simp⟩
   rw [htk]; simp [hm',hn0,hn1,f2]
  ·have g1 := far hi1
   have g2 : ¬ id = 2 := by omega
   have g0 : ¬ id = 0 := by omega
   have g3 : ¬ id = 1 := by omega
   simp -dsimp [t1,t3,t4,m0,m2,hlt,hget,hmu,nes,f0,f1,f2,b0,b1,g1,g2,g0,g3,Ne.symm g0,Ne.symm g2,Ne.symm g3,him,wi,hmu1]
   refine st_out fun s' ht hm' hn' hu' => ?_
   have q1 := ht 1
   have q2 := ht 2
   have q3 := ht 3
   have q4 := ht 4
   simp -dsimp [t1,t2,t3] at q1 q2 q3 q4 hm' hn' hu'
   clear ht
   have hn0 : ¬ s.n = 0 := by omega
   have hn1 : ¬ s.n = 1 := by omega
   refine ⟨i + 1,.loc (s.n + 1 + 1 + 1),z,q1,q2,q3,q4,by rw [hu',hmu],by omega,by omega,by simp [hm',hn0,hn1,f0,m0,Ne.symm g0],by simp [hm',hn0,hn1,f1,m1,Ne.symm g3],hz,by simp [hm',hn0,hn1],.inr ⟨s.n + 1 + 1 + 1,rfl,by omega,by omega, ?_⟩,by simp⟩
   rw [htk]; simp [hm',hn0,hn1,f2,nes]
 ·rintro s ⟨i,st,z,t1,t2,t3,t4,hmu,hi,hn,m0,m1,hz,m2,hst,hend⟩
  have := hend rfl
  subst this
  rw [List.take_length] at hst
  obtain ⟨z0,z1,rfl⟩ : ∃ a b,z = [a,b] := by
   match z,hz with
   | [a,b],_ => exact ⟨a,b,rfl⟩
  rcases hst with ⟨rfl,hs0⟩ | ⟨id,rfl,hi0,hi1,him⟩
  ·simp -dsimp [t2,t3,m1,m2,hs0]
  ·have g3 : ¬ id = 1 := by omega
   simp -dsimp [t2,t3,m1,m2,him,g3]
end TL

namespace TL
open Go Go.Proofs
/-- Whether a claim may be made in a world. -/
def mayB (c : Claim) (w : Nat) : Bool := truth c.says w == w.testBit c.who.toNat
def claimTab (p : Nat) (c : Claim) : Nat := tabN (2 ^ p) (mayB c)
def storyTab (p : Nat) (l : List Claim) : Nat := l.foldl (fun t c => t &&& claimTab p c) (2 ^ 2 ^ p - 1)
theorem testBit_fold (p i : Nat) : ∀ (l : List Claim) (t : Nat),(l.foldl (fun t c => t &&& claimTab p c) t).testBit i = (t.testBit i && l.all fun c => (claimTab p c).testBit i)
 | [],t => by simp
 | c :: l,t => by
  rw [List.foldl_cons,testBit_fold p i l,Nat.testBit_and,List.all_cons,Bool.and_assoc]
theorem testBit_story (p i : Nat) (l : List Claim) : (storyTab p l).testBit i = (decide (i < 2 ^ p) && l.all fun c => mayB c i) := by
 unfold storyTab claimTab
 have h := testBit_fold p i l (2 ^ 2 ^ p - 1)
 unfold claimTab at h
 rw [h,Nat.testBit_two_pow_sub_one]
 by_cases hi : i < 2 ^ p
 ·simp only [testBit_tabN,hi,decide_true,Bool.true_and]
 ·simp [hi]
theorem storyTab_le (p : Nat) (l : List Claim) : storyTab p l < 2 ^ 2 ^ p := Nat.lt_pow_two_of_testBit _ fun i hi => by
 rw [testBit_story]
 have : ¬ i < 2 ^ p := by omega
 simp [this]
/-- What is left of a story if each claim is left out that is not needed. -/
def leastGo (p : Nat) : Nat → Nat → List Claim → List Claim
 | 0,_,l => l
 | f + 1,i,l => if i < l.length then (if storyTab p (l.eraseIdx i) = storyTab p l then leastGo p f i (l.eraseIdx i) else leastGo p f (i + 1) l) else l
def least (p : Nat) (l : List Claim) : List Claim := leastGo p l.length 0 l
theorem leastGo_sub (p : Nat) : ∀ f i l,(leastGo p f i l).Sublist l
 | 0,_,_ => List.Sublist.refl _
 | f + 1,i,l => by
  unfold leastGo
  split
  ·split
   ·exact (leastGo_sub p f _ _).trans (List.eraseIdx_sublist _ _)
   ·exact leastGo_sub p f _ _
  ·exact List.Sublist.refl _
theorem least_sub (p : Nat) (l : List Claim) : (least p l).Sublist l := leastGo_sub ..
theorem leastGo_end {p f i : Nat} {l : List Claim} (hf : f = l.length - i) (h : ¬ i < l.length) : leastGo p f i l = l := by
 have : f = 0 := by omega
 subst this; rfl
theorem leastGo_out {p i : Nat} {l : List Claim} (h : i < l.length) (he : storyTab p (l.eraseIdx i) = storyTab p l) : leastGo p (l.length - i) i l = leastGo p ((l.eraseIdx i).length - i) i (l.eraseIdx i) := by
 have e1 : (l.eraseIdx i).length = l.length - 1 := by rw [List.length_eraseIdx]; simp [h]
 obtain ⟨f,hf⟩ : ∃ f,l.length - i = f + 1 := ⟨l.length - i - 1,by omega⟩
 rw [hf,show (l.eraseIdx i).length - i = f by omega,leastGo,if_pos h,if_pos he]
theorem leastGo_keep {p i : Nat} {l : List Claim} (h : i < l.length) (he : storyTab p (l.eraseIdx i) ≠ storyTab p l) : leastGo p (l.length - i) i l = leastGo p (l.length - (i + 1)) (i + 1) l := by
 obtain ⟨f,hf⟩ : ∃ f,l.length - i = f + 1 := ⟨l.length - i - 1,by omega⟩
 rw [hf,show l.length - (i + 1) = f by omega,leastGo,if_pos h,if_neg he]
theorem storyOk_sub {people : Int} {l k : List Claim} (h : storyOk people l = true) (hs : k.Sublist l) : storyOk people k = true := by
 simp only [storyOk,Bool.and_eq_true,decide_eq_true_eq,List.all_eq_true] at h ⊢
 exact ⟨⟨fun c hc => h.1.1 c (hs.subset hc),h.1.2⟩,Nat.le_trans hs.length_le h.2⟩
/-- What a deed makes of a place. -/
noncomputable def made (p : Place) (a : Deed) : Place :=
 if a.kind = 0 ∧ a.num = 0 then (match readC p.people a.words with
  | some c => ⟨p.people,p.story ++ [c]⟩
  | none => ⟨0,[]⟩)
 else if a.kind = 1 ∧ a.words = [] ∧ 0 ≤ a.num ∧ a.num < p.story.length then ⟨p.people,p.story.eraseIdx a.num.toNat⟩
 else if a.kind = 2 ∧ a.words = [] then ⟨a.num,p.story⟩
 else if a.kind = 3 ∧ a.num = 0 ∧ a.words = [] then ⟨p.people,least p.people.toNat p.story⟩
 else ⟨0,[]⟩
def keep8 (l : List Place) : List Place := if 8 < l.length then l.drop 1 else l
def isBack (a : Deed) : Bool := decide (a = ⟨4,0,[]⟩)
noncomputable def goodDo (d : Desk) (a : Deed) : Bool := placeOk (made d.now a) && !decide (placeTx (made d.now a) = placeTx d.now)
noncomputable def deskDo (d : Desk) (a : Deed) : Desk × Bool :=
 if deskOk d = true then
  if isBack a = true ∧ d.past ≠ [] then (⟨d.past.getLast?.getD d.now,d.past.dropLast⟩,true)
  else if goodDo d a = true then (⟨made d.now a,keep8 (d.past ++ [d.now])⟩,true) else (d,false)
 else (noDeskV,false)
theorem zero_no : placeOk ⟨0,[]⟩ = false := by decide
theorem deskOk_iff {d : Desk} : deskOk d = true ↔ (∀ p ∈ d.past,placeOk p = true) ∧ placeOk d.now = true ∧ d.past.length ≤ 8 := by
 simp only [deskOk,Bool.and_eq_true,decide_eq_true_eq,List.all_eq_true,and_assoc]
theorem keep8_len (l : List Place) (h : l.length ≤ 9) : (keep8 l).length ≤ 8 := by
 unfold keep8; split
 ·simp; omega
 ·omega
theorem keep8_mem {l : List Place} {p : Place} (h : p ∈ keep8 l) : p ∈ l := by
 unfold keep8 at h; split at h
 ·exact List.mem_of_mem_drop h
 ·exact h
theorem deskDo_no {d : Desk} (h : deskOk d = false) (a : Deed) : deskDo d a = (noDeskV,false) := by unfold deskDo; rw [if_neg (by simp [h])]
theorem deskDo_back {d : Desk} (h : deskOk d = true) {a : Deed} (ha : isBack a = true) (hp : d.past ≠ []) : deskDo d a = (⟨d.past.getLast?.getD d.now,d.past.dropLast⟩,true) := by
 unfold deskDo; rw [if_pos h,if_pos ⟨ha,hp⟩]
theorem deskDo_good {d : Desk} (h : deskOk d = true) {a : Deed} (ha : goodDo d a = true) (hb : ¬ (isBack a = true ∧ d.past ≠ [])) : deskDo d a = (⟨made d.now a,keep8 (d.past ++ [d.now])⟩,true) := by
 unfold deskDo; rw [if_pos h,if_neg hb,if_pos ha]
theorem deskDo_bad {d : Desk} (h : deskOk d = true) {a : Deed} (ha : goodDo d a = false) (hb : ¬ (isBack a = true ∧ d.past ≠ [])) : deskDo d a = (d,false) := by
 unfold deskDo; rw [if_pos h,if_neg hb,if_neg (by simp [ha])]
theorem made_back {p : Place} {a : Deed} (h : isBack a = true) : made p a = ⟨0,[]⟩ := by
 simp only [isBack,decide_eq_true_eq] at h
 subst h; simp [made]
theorem good_back {d : Desk} {a : Deed} (h : isBack a = true) : goodDo d a = false := by
 unfold goodDo; rw [made_back h,zero_no]; rfl
theorem deskDo_ways (d : Desk) (a : Deed) : (deskOk d = false ∧ deskDo d a = (noDeskV,false)) ∨ (deskOk d = true ∧ isBack a = true ∧ d.past ≠ [] ∧ deskDo d a = (⟨d.past.getLast?.getD d.now,d.past.dropLast⟩,true)) ∨
  (deskOk d = true ∧ isBack a = false ∧ goodDo d a = true ∧ deskDo d a = (⟨made d.now a,keep8 (d.past ++ [d.now])⟩,true)) ∨ (deskOk d = true ∧ goodDo d a = false ∧ deskDo d a = (d,false)) := by
 cases h : deskOk d
 ·exact .inl ⟨rfl,deskDo_no h a⟩
 ·by_cases hb : isBack a = true ∧ d.past ≠ []
  ·exact .inr (.inl ⟨rfl,hb.1,hb.2,deskDo_back h hb.1 hb.2⟩)
  ·cases hg : goodDo d a
   ·exact .inr (.inr (.inr ⟨rfl,rfl,deskDo_bad h hg hb⟩))
   ·refine .inr (.inr (.inl ⟨rfl, ?_,rfl,deskDo_good h hg hb⟩))
    cases hx : isBack a
    ·rfl
    ·rw [good_back hx] at hg; cases hg
theorem deskDo_ok (d : Desk) (a : Deed) (h : deskOk d = true) : deskOk (deskDo d a).1 = true := by
 have h0 := deskOk_iff.1 h
 rcases deskDo_ways d a with ⟨h1,_⟩ | ⟨_,_,hp,e⟩ | ⟨_,_,hg,e⟩ | ⟨_,_,e⟩
 ·rw [h] at h1; cases h1
 ·rw [e]
  refine deskOk_iff.2 ⟨fun p hp => h0.1 p (List.dropLast_subset _ hp), ?_,by simp; omega⟩
  rw [List.getLast?_eq_some_getLast hp]
  exact h0.1 _ (List.getLast_mem hp)
 ·rw [e]
  have hg' : placeOk (made d.now a) = true := by
   simp only [goodDo,Bool.and_eq_true] at hg; exact hg.1
  refine deskOk_iff.2 ⟨fun p hp => ?_,hg',keep8_len _ (by simp; omega)⟩
  rcases List.mem_append.1 (keep8_mem hp) with h1 | h1
  ·exact h0.1 p h1
  ·rw [List.mem_singleton.1 h1]; exact h0.2.1
 ·rw [e]; exact h
/-- Deeds, one after the other. -/
noncomputable def doStep (x : Desk × Nat) (a : Deed) : Desk × Nat := if (deskDo x.1 a).2 = true then ((deskDo x.1 a).1,x.2 + 1) else x
noncomputable def doAll (d : Desk) (l : List Deed) : Desk × Nat := l.foldl doStep (d,0)
end TL

namespace TL
open Go Go.Proofs
attribute [local simp] marksV storyV codeV Claim.v Place.v Desk.v
/-- A place whose row of claims is the caller's own. -/
def OwnPlace (p : Place) (m : Mem) (n : Nat) (t : T) (m' : Mem) (n' : Nat) : Prop := n ≤ n' ∧ (∀ j,j < n → m' j = m j) ∧ ∃ st,t = .agg [.v (.int .i64 p.people),st] ∧ IsRow m' n n' 104 st (p.story.map Claim.v)
def Io15 (p : Place) (m : Mem) (n : Nat) (e : Nat) (s : S) : Prop := ∃ (i : Nat) (st : T) (z : List T),s.tm 1 = .ptr n 0 ∧ s.tm 2 = .ptr (n + 1) 0 ∧ s.tm 3 = .ptr (n + 2) 0 ∧ s.tm 4 = .v (.int .i64 i) ∧ s.mu = false ∧ i ≤ p.story.length ∧ n + 3 ≤ s.n ∧
 s.m n = some (.box 31 2 [.v (.int .i64 p.people),.v (storyV p.story)]) ∧ s.m (n + 1) = some (.box 31 2 z) ∧ z.length = 2 ∧ s.m (n + 2) = some (.box 31 2 [.v (.int .i64 p.people),st]) ∧ IsRow s.m (n + 3) s.n 104 st ((p.story.take i).map Claim.v) ∧ (∀ j,j < n → s.m j = m j) ∧ (e = 1 → i = p.story.length)
theorem l15Place_own (p : Place) (hp : p.small) (m : Mem) (n : Nat) : FnS Tryz.prog 42 m n [.v p.v] (OwnPlace p m n) := by
 have hl := hp.1
 refine FS (rs := [.cell 2 31]) false Tryz.func42 ?_
 have e0 : ¬ n = n + 1 := by omega
 have e1 : ¬ n = n + 2 := by omega
 have e2 : ¬ n + 1 = n + 2 := by omega
 have e3 : ¬ n + 2 = n := by omega
 have e4 : ¬ n + 2 = n + 1 := by omega
 have e5 : ¬ n + 1 = n := by omega
 simp -dsimp
 refine twp_loopC (Io15 p m n 0) (fun s => p.story.length - natOf (s.tm 4)) (Io15 p m n 1) ?_ ?_ ?_
 ·refine ⟨0,.nil,[.v (.int .i64 0),.nil],by simp -dsimp,by simp -dsimp,by simp -dsimp,by simp -dsimp,by simp -dsimp,by omega,by simp -dsimp,by simp -dsimp [nes],by simp -dsimp [nes],rfl,by simp -dsimp,.inl ⟨rfl,by simp⟩,fun j j1 => ?_,by simp⟩
  simp -dsimp [far j1]
 ·rintro s ⟨i,st,z,t1,t2,t3,t4,hmu,hi,hn,m0,m1,hz,m2,hst,hout,hend⟩
  by_cases hlt : i < p.story.length
  case neg =>
   simp -dsimp [t1,t4,m0,hlt]
   exact ⟨i,st,z,by simp -dsimp [t1],by simp -dsimp [t2],by simp -dsimp [t3],by simp -dsimp [t4],by simp -dsimp [hmu],hi,by simp -dsimp; omega,by simp -dsimp [m0],by simp -dsimp [m1],hz,by simp -dsimp [m2],hst,fun j j1 => by simp -dsimp [hout j j1],fun _ => by omega⟩
  have hget : (p.story.map Claim.v)[i]? = some (p.story[i].v) := by simp [hlt]
  have wi : IntKind.wrap .i64 ((i : Int) + 1) = ((i + 1 : Nat) : Int) := by rw [w64 (by omega) (by omega)]; omega
  have hmu1 : p.story.length - (i + 1) < p.story.length - i := by omega
  have f0 := far (show n < s.n by omega)
  have f1 := far (show n + 1 < s.n by omega)
  have f2 := far (show n + 2 < s.n by omega)
  have hsm := hp.2 p.story[i] (List.getElem_mem _)
  unfold Claim.small at hsm
  have b0 : p.story[i].says.length * 16 ≤ 140737488355328 := by omega
  have b1 : (min i p.story.length + 1) * 32 ≤ 140737488355328 := by omega
  have htk : (p.story.take (i + 1)).map Claim.v = (p.story.take i).map Claim.v ++ [p.story[i].v] := by rw [List.take_succ_eq_append_getElem hlt,List.map_append]; rfl
  simp -dsimp [t1,t4,m0,hlt]
  refine twd [0,1,2,3,4,5,6,7,9,10,11,12,13,14,8,15,16,17,18,19,20] [n,n + 2] (List.replicate 21 [0,1]) (List.replicate 20 [0,1] ++ [[0]]) ?_
  rcases hst with ⟨rfl,hs0⟩ | ⟨id,rfl,hi0,hi1,him⟩
  ·simp -dsimp [t1,t3,t4,m0,m2,hlt,hget,hmu,nes,f0,f1,f2,e0,e1,e2,e3,e4,e5,b0,wi,hmu1]
   have hi00 : i = 0 := by
    simp at hs0; rcases hs0 with h | h
    ·exact h
    ·rw [h] at hlt; simp at hlt
   subst hi00
   refine st_out fun s' ht hm' hn' hu' => ?_
   have q1 := ht 1
   have q2 := ht 2
   have q3 := ht 3
   have q4 := ht 4
   simp -dsimp [t1,t2,t3] at q1 q2 q3 q4 hm' hn' hu'
   clear ht
   refine ⟨1,.loc (s.n + 1 + 1 + 1),z,q1,q2,q3,q4,by rw [hu',hmu],by omega,by omega,by simp [hm',nes,e0,e1,f0,m0],by simp [hm',nes,e2,f0,f1,m1],hz,by simp [hm',nes,f2],.inr ⟨s.n + 1 + 1 + 1,rfl,by omega,by omega, ?_⟩,fun j j1 => ?_,by simp⟩
   ·rw [htk]; simp [hm',nes,f0,f2]
   ·simp [hm',far (show j < s.n by omega),show ¬ j = n + 2 by omega,hout j j1]
  ·have g1 := far hi1
   have g2 : ¬ id = n + 2 := by omega
   have g0 : ¬ id = n := by omega
   have g3 : ¬ id = n + 1 := by omega
   simp -dsimp [t1,t3,t4,m0,m2,hlt,hget,hmu,nes,f0,f1,f2,e0,e1,e2,e3,e4,e5,b0,b1,g1,g2,g0,g3,Ne.symm g0,Ne.symm g2,Ne.symm g3,him,wi,hmu1]
   refine st_out fun s' ht hm' hn' hu' => ?_
   have q1 := ht 1
   have q2 := ht 2
   have q3 := ht 3
   have q4 := ht 4
   simp -dsimp [t1,t2,t3] at q1 q2 q3 q4 hm' hn' hu'
   clear ht
   refine ⟨i + 1,.loc (s.n + 1 + 1 + 1),z,q1,q2,q3,q4,by rw [hu',hmu],by omega,by omega,by simp [hm',nes,e0,e1,f0,m0,Ne.symm g0],by simp [hm',nes,e2,f0,f1,m1,Ne.symm g3],hz,by simp [hm',nes,f2],.inr ⟨s.n + 1 + 1 + 1,rfl,by omega,by omega, ?_⟩,fun j j1 => ?_,by simp⟩
   ·rw [htk]; simp [hm',f0,f2,nes]
   ·simp [hm',far (show j < s.n by omega),show ¬ j = n + 2 by omega,show ¬ j = id by omega,hout j j1]
 ·rintro s ⟨i,st,z,t1,t2,t3,t4,hmu,hi,hn,m0,m1,hz,m2,hst,hout,hend⟩
  have := hend rfl
  subst this
  rw [List.take_length] at hst
  have f1 := far (show n + 1 < s.n by omega)
  obtain ⟨z0,z1,rfl⟩ : ∃ a b,z = [a,b] := by
   match z,hz with
   | [a,b],_ => exact ⟨a,b,rfl⟩
  rcases hst with ⟨rfl,hs0⟩ | ⟨id,rfl,hi0,hi1,him⟩
  ·simp -dsimp [t2,t3,m1,m2,e2,e4]
   exact ⟨by omega,fun j j1 => by simp [show ¬ j = n + 1 by omega,hout j j1],.nil,rfl,.inl ⟨rfl,hs0⟩⟩
  ·have g3 : ¬ id = n + 1 := by omega
   simp -dsimp [t2,t3,m1,m2,e2,e4]
   exact ⟨by omega,fun j j1 => by simp [show ¬ j = n + 1 by omega,hout j j1],.loc id,rfl,.inr ⟨id,rfl,by omega,by omega,by simp [g3,him]⟩⟩
end TL

namespace TL
open Go Go.Proofs
attribute [local simp] marksV storyV codeV Claim.v Place.v Desk.v
def OwnDesk (d : Desk) (m : Mem) (n : Nat) (t : T) (m' : Mem) (n' : Nat) : Prop := n ≤ n' ∧ (∀ j,j < n → m' j = m j) ∧ ∃ st,t = .agg [.v (.int .i64 d.now.people),.v (storyV d.now.story),st] ∧ IsRow m' n n' 31 st (d.past.map Place.v)
def Iod (d : Desk) (m : Mem) (n : Nat) (e : Nat) (s : S) : Prop := ∃ (i : Nat) (st : T),s.tm 1 = .ptr n 0 ∧ s.tm 2 = .ptr (n + 1) 0 ∧ s.tm 3 = .ptr (n + 2) 0 ∧ s.tm 4 = .v (.int .i64 i) ∧ s.mu = false ∧ i ≤ d.past.length ∧ n + 3 ≤ s.n ∧
 s.m n = some (.box 34 3 [.v (.int .i64 d.now.people),.v (storyV d.now.story),.v (.sl (d.past.map Place.v))]) ∧ s.m (n + 1) = some (.box 34 3 [.v (.int .i64 0),.nil,.nil]) ∧
 s.m (n + 2) = some (.box 34 3 [.v (.int .i64 d.now.people),.v (storyV d.now.story),st]) ∧ IsRow s.m (n + 3) s.n 31 st ((d.past.take i).map Place.v) ∧ (∀ j,j < n → s.m j = m j) ∧ (e = 1 → i = d.past.length)
theorem l15Copy_own (d : Desk) (hd : d.small) (m : Mem) (n : Nat) : FnS Tryz.prog 22 m n [.v d.v] (OwnDesk d m n) := by
 have hl := hd.2.1
 refine FS (rs := [.cell 2 34]) false Tryz.func22 ?_
 have e0 : ¬ n = n + 1 := by omega
 have e1 : ¬ n = n + 2 := by omega
 have e2 : ¬ n + 1 = n + 2 := by omega
 have e3 : ¬ n + 2 = n := by omega
 have e4 : ¬ n + 2 = n + 1 := by omega
 have e5 : ¬ n + 1 = n := by omega
 simp -dsimp
 refine cl (l15Place_fn d.now hd.1) ?_
 simp -dsimp [e0,e1,e2,e3,e4,e5,nes]
 refine twp_loopC (Iod d m n 0) (fun s => d.past.length - natOf (s.tm 4)) (Iod d m n 1) ?_ ?_ ?_
 ·refine ⟨0,.nil,by simp -dsimp,by simp -dsimp,by simp -dsimp,by simp -dsimp,by simp -dsimp,by omega,by simp -dsimp,by simp -dsimp [nes],by simp -dsimp [nes],by simp -dsimp,.inl ⟨rfl,by simp⟩,fun j j1 => ?_,by simp⟩
  simp -dsimp [far j1]
 ·rintro s ⟨i,st,t1,t2,t3,t4,hmu,hi,hn,m0,m1,m2,hst,hout,hend⟩
  by_cases hlt : i < d.past.length
  case neg =>
   simp -dsimp [t1,t4,m0,hlt]
   exact ⟨i,st,by simp -dsimp [t1],by simp -dsimp [t2],by simp -dsimp [t3],by simp -dsimp [t4],by simp -dsimp [hmu],hi,by simp -dsimp; omega,by simp -dsimp [m0],by simp -dsimp [m1],by simp -dsimp [m2],hst,fun j j1 => by simp -dsimp [hout j j1],fun _ => by omega⟩
  have hget : (d.past.map Place.v)[i]? = some (d.past[i].v) := by simp [hlt]
  have wi : IntKind.wrap .i64 ((i : Int) + 1) = ((i + 1 : Nat) : Int) := by rw [w64 (by omega) (by omega)]; omega
  have hmu1 : d.past.length - (i + 1) < d.past.length - i := by omega
  have f0 := far (show n < s.n by omega)
  have f1 := far (show n + 1 < s.n by omega)
  have f2 := far (show n + 2 < s.n by omega)
  have hsm := hd.2.2 d.past[i] (List.getElem_mem _)
  have hpl := l15Place_fn d.past[i] hsm
  have b1 : (min i d.past.length + 1) * 32 ≤ 140737488355328 := by omega
  have htk : (d.past.take (i + 1)).map Place.v = (d.past.take i).map Place.v ++ [d.past[i].v] := by rw [List.take_succ_eq_append_getElem hlt,List.map_append]; rfl
  simp -dsimp [t1,t4,m0,hlt]
  refine twd (List.range 12) [n,n + 2] (List.replicate 12 [0,1]) (List.replicate 11 [0,1] ++ [[0]]) ?_
  rcases hst with ⟨rfl,hs0⟩ | ⟨id,rfl,hi0,hi1,him⟩
  ·simp -dsimp [List.range_succ,t1,t3,t4,m0,m2,hlt,hget,nes,f0,f1,f2,e0,e1,e2,e3,e4,e5]
   refine cl hpl ?_
   simp -dsimp [List.range_succ,t1,t3,t4,m0,m2,hlt,hget,hmu,nes,f0,f1,f2,e0,e1,e2,e3,e4,e5,wi,hmu1]
   have hi00 : i = 0 := by
    simp at hs0; rcases hs0 with h | h
    ·exact h
    ·rw [h] at hlt; simp at hlt
   subst hi00
   refine st_out fun s' ht hm' hn' hu' => ?_
   have q1 := ht 1
   have q2 := ht 2
   have q3 := ht 3
   have q4 := ht 4
   simp -dsimp [t1,t2,t3] at q1 q2 q3 q4 hm' hn' hu'
   clear ht
   refine ⟨1,.loc (s.n + 1),q1,q2,q3,q4,by rw [hu',hmu],by omega,by omega,by simp [hm',nes,e0,e1,f0,m0],by simp [hm',nes,e2,f0,f1,m1],by simp [hm',nes,f2],.inr ⟨s.n + 1,rfl,by omega,by omega, ?_⟩,fun j j1 => ?_,by simp⟩
   ·rw [htk]; simp [hm',nes,f0,f1,f2]
   ·simp [hm',far (show j < s.n by omega),show ¬ j = n + 2 by omega,hout j j1]
  ·have g1 := far hi1
   have g2 : ¬ id = n + 2 := by omega
   have g0 : ¬ id = n := by omega
   have g3 : ¬ id = n + 1 := by omega
   simp -dsimp [List.range_succ,t1,t3,t4,m0,m2,hlt,hget,nes,f0,f1,f2,e0,e1,e2,e3,e4,e5]
   refine cl hpl ?_
   simp -dsimp [List.range_succ,t1,t3,t4,m0,m2,hlt,hget,hmu,nes,f0,f1,f2,e0,e1,e2,e3,e4,e5,b1,g1,g2,g0,g3,Ne.symm g0,Ne.symm g2,Ne.symm g3,him,wi,hmu1]
   refine st_out fun s' ht hm' hn' hu' => ?_
   have q1 := ht 1
   have q2 := ht 2
   have q3 := ht 3
   have q4 := ht 4
   simp -dsimp [t1,t2,t3] at q1 q2 q3 q4 hm' hn' hu'
   clear ht
   refine ⟨i + 1,.loc (s.n + 1),q1,q2,q3,q4,by rw [hu',hmu],by omega,by omega,by simp [hm',nes,e0,e1,f0,m0,Ne.symm g0],by simp [hm',nes,e2,f0,f1,m1,Ne.symm g3],by simp [hm',nes,f2],.inr ⟨s.n + 1,rfl,by omega,by omega, ?_⟩,fun j j1 => ?_,by simp⟩
   ·rw [htk]; simp [hm',f0,f1,f2,nes]
   ·simp [hm',far (show j < s.n by omega),show ¬ j = n + 2 by omega,show ¬ j = id by omega,hout j j1]
 ·rintro s ⟨i,st,t1,t2,t3,t4,hmu,hi,hn,m0,m1,m2,hst,hout,hend⟩
  have := hend rfl
  subst this
  rw [List.take_length] at hst
  have f1 := far (show n + 1 < s.n by omega)
  rcases hst with ⟨rfl,hs0⟩ | ⟨id,rfl,hi0,hi1,him⟩
  ·simp -dsimp [t2,t3,m1,m2,e2,e4]
   exact ⟨by omega,fun j j1 => by simp [show ¬ j = n + 1 by omega,hout j j1],.nil,rfl,.inl ⟨rfl,hs0⟩⟩
  ·have g3 : ¬ id = n + 1 := by omega
   simp -dsimp [t2,t3,m1,m2,e2,e4]
   exact ⟨by omega,fun j j1 => by simp [show ¬ j = n + 1 by omega,hout j j1],.loc id,rfl,.inr ⟨id,rfl,by omega,by omega,by simp [g3,him]⟩⟩
end TL

namespace TL
open Go Go.Proofs
attribute [local simp] marksV storyV codeV Claim.v Place.v Desk.v
theorem allZ_claims (l : List Claim) : allZ 2 (l.map Claim.v) := fun x hx => by
 obtain ⟨c,_,rfl⟩ := List.mem_map.1 hx
 exact ⟨by simp,by simp⟩
theorem l5Without_fn (l : List Claim) (k : Nat) (hk : k < l.length) (hl : l.length ≤ 1048576) : FnZ Tryz.prog 96 [storyV l,.int .i64 k] (storyV (l.eraseIdx k)) := by
 have e : l.eraseIdx k = l.take k ++ l.drop (k + 1) := List.eraseIdx_eq_take_drop_succ ..
 have h1 : (k : Int) ≤ l.length := by omega
 have h2 : k ≤ l.length := by omega
 have h3 : k + 1 ≤ l.length := by omega
 have h4 : (k : Int) + 1 ≤ l.length := by omega
 have w1 : IntKind.wrap .i64 ((k : Int) + 1) = (k : Int) + 1 := w64 (by omega) (by omega)
 have b1 : min k l.length * 32 ≤ 140737488355328 := by omega
 have b2 : (min k l.length + (l.length - (k + 1))) * 32 ≤ 140737488355328 := by omega
 have h5 : ((k : Int) + 1).toNat = k + 1 := by omega
 have h6 : (0 : Int) ≤ (k : Int) + 1 := by omega
 have z1 : allZ 2 (List.take k (List.map Claim.v l)) := by rw [← List.map_take]; exact allZ_claims _
 have z2 : allZ 2 (List.drop (k + 1) (List.map Claim.v l)) := by rw [← List.map_drop]; exact allZ_claims _
 have tk : List.take l.length (List.map Claim.v l) = List.map Claim.v l := List.take_of_length_le (by simp)
 have b3 : k * 32 ≤ 140737488355328 := by omega
 have b4 : (k + (l.length - (k + 1))) * 32 ≤ 140737488355328 := by omega
 rw [e]
 refine FZ (rs := [.tmp 4]) false Tryz.func96 ?_
 simp -dsimp [h1,h2,h3,h4,h5,h6,w1,b1,b2,b3,b4,z1,z2,tk,nes]
end TL

namespace TL
open Go Go.Proofs
attribute [local simp] marksV storyV codeV Claim.v Place.v
/-- Whether a term holds in a world. -/
def Tm.sat (w : Nat) : Tm → Bool
 | .tells i => w.testBit i
 | .count i => decide ((i : Int) ≤ cnt w)
 | .not a => !a.sat w
 | .bin k a b => if k = 0 then a.sat w && b.sat w else if k = 1 then a.sat w || b.sat w else a.sat w == b.sat w
theorem sat_bit (w i : Nat) : decide (((w : Int).fdiv (2 ^ i)).tmod 2 = 1) = w.testBit i := by
 have e1 : (w : Int).fdiv (2 ^ i) = ((w / 2 ^ i : Nat) : Int) := by
  rw [Int.fdiv_eq_ediv_of_nonneg _ (by exact_mod_cast Nat.zero_le _)]
  push_cast; rfl
 rw [e1,Nat.testBit_eq_decide_div_mod_eq,decide_eq_decide]
 rw [Int.tmod_eq_emod_of_nonneg (Int.natCast_nonneg _)]
 omega
theorem l3Holds_fn (w : Nat) (hw : w < 16) : ∀ T : Tm,T.ok → T.marks.length ≤ 1048576 → FnZ Tryz.prog 114 [marksV T.marks,.int .i64 w] (.bool (T.sat w))
 | .tells i,hok,hl => by
  have hi : i < 4 := hok
  have w4 : IntKind.wrap .i64 0 = 0 := rfl
  refine FZ (rs := [.tmp 4]) false Tryz.func114 ?_
  have hn : ¬ (i : Int) < 0 := by omega
  have hm : min i IntKind.i64.bits = i := Nat.min_eq_left (by show i ≤ 64; omega)
  have hb := sat_bit w i
  simp -dsimp [Tm.marks,Mark.v,w4,hn,hm,Tm.sat]
  exact hb
 | .count i,hok,hl => by
  have hi : i < 6 := hok
  have w4 : IntKind.wrap .i64 0 = 0 := rfl
  have hh := l1Heads_fn w (by omega)
  refine FZ (rs := [.tmp 4]) false Tryz.func114 ?_
  simp -dsimp [Tm.marks,Mark.v,w4,Tm.sat]
  refine twd [0,2,3,4,5,6,1,7,8] [] (List.replicate 9 []) (List.replicate 9 []) ?_
  simp -dsimp [List.range_succ,Tm.marks,Mark.v,w4]
  refine cl hh ?_
  simp -dsimp [List.range_succ,Tm.marks,Mark.v,Tm.sat]
 | .not a,hok,hl => by
  have hla : a.marks.length ≤ 1048576 := by simp [Tm.marks] at hl; omega
  have ih := l3Holds_fn w hw a hok hla
  have e0 : (Tm.not a).marks = a.marks ++ [⟨2,0⟩] := rfl
  have hlen : (Tm.not a).marks.length = a.marks.length + 1 := by rw [e0]; simp
  have hget : (Tm.not a).marks[a.marks.length]? = some ⟨2,0⟩ := by rw [e0]; simp
  have htake : List.take a.marks.length (List.map Mark.v (Tm.not a).marks) = List.map Mark.v a.marks := by rw [e0]; simp
  have w1 : IntKind.wrap .i64 (((Tm.not a).marks.length : Int) - 1) = (a.marks.length : Int) := by rw [w64 (by omega) (by omega)]; omega
  have hle : a.marks.length ≤ (Tm.not a).marks.length := by omega
  have es : (Tm.not a).sat w = !a.sat w := rfl
  rw [es]
  generalize (Tm.not a).marks = l at *
  generalize a.sat w = b at *
  refine FZ (rs := [.tmp 4]) false Tryz.func114 ?_
  simp -dsimp [w1,hget,htake,hle,Mark.v]
  refine cl ih ?_
  simp -dsimp
 | .bin k a b,hok,hl => by
  obtain ⟨hk,hoa,hob⟩ := hok
  have hlab : a.marks.length + b.marks.length ≤ 1048575 := by simp [Tm.marks] at hl; omega
  have iha := l3Holds_fn w hw a hoa (by omega)
  have ihb := l3Holds_fn w hw b hob (by omega)
  have hlp := l2Starts_fn a.marks [⟨3 + k,0⟩] b hob (by simp; omega)
  have e0 : (Tm.bin k a b).marks = a.marks ++ b.marks ++ [⟨3 + k,0⟩] := rfl
  have hlen : (Tm.bin k a b).marks.length = a.marks.length + b.marks.length + 1 := by rw [e0]; simp; omega
  have hget : (Tm.bin k a b).marks[a.marks.length + b.marks.length]? = some ⟨3 + k,0⟩ := by
   rw [e0,List.getElem?_append_right (by simp)]; simp
  have htake : List.take (a.marks.length + b.marks.length) (List.map Mark.v (Tm.bin k a b).marks) = List.map Mark.v (a.marks ++ b.marks) := by
   rw [e0,List.map_append,List.take_left' (by simp)]
  have htake2 : List.take a.marks.length (List.map Mark.v (Tm.bin k a b).marks) = List.map Mark.v a.marks := by
   rw [e0,List.append_assoc,List.map_append,List.take_left' (by simp)]
  have hdrop : List.drop a.marks.length (List.map Mark.v (a.marks ++ b.marks)) = List.map Mark.v b.marks := by
   rw [List.map_append,List.drop_left' (by simp)]
  have es : (Tm.bin k a b).sat w = if k = 0 then a.sat w && b.sat w else if k = 1 then a.sat w || b.sat w else a.sat w == b.sat w := rfl
  rw [es]
  obtain ⟨n,hn⟩ : ∃ n,n = a.marks.length + b.marks.length := ⟨_,rfl⟩
  rw [← hn] at hlen hget htake
  have hc1 : a.marks.length ≤ n := by omega
  have hle : n ≤ (Tm.bin k a b).marks.length := by omega
  have hle2 : a.marks.length ≤ (Tm.bin k a b).marks.length := by omega
  have w1 : IntKind.wrap .i64 (((Tm.bin k a b).marks.length : Int) - 1) = (n : Int) := by rw [w64 (by omega) (by omega)]; omega
  have wE : IntKind.wrap .i64 ((n : Int) - 1) = (a.marks.length : Int) + b.marks.length - 1 := by rw [w64 (by omega) (by omega)]; omega
  rw [← e0] at hlp
  have hkk : k = 0 ∨ k = 1 ∨ k = 2 := by omega
  generalize hL : (Tm.bin k a b).marks = l at *
  generalize hM : a.marks ++ b.marks = M at *
  clear e0 hL hM es
  generalize a.sat w = x at *
  generalize b.sat w = y at *
  have hx := ft x
  rcases hkk with rfl | rfl | rfl
  ·refine FZ (rs := [.tmp 4]) false Tryz.func114 ?_
   simp -dsimp [w1,hget,Mark.v]
   refine call_ hlp (by simp -dsimp [wE]) ?_
   simp -dsimp [htake2,hle2]
   refine cl iha ?_
   simp -dsimp [htake,hdrop,hc1,hle]
   refine cl ihb ?_
   rcases hx with rfl | rfl
   ·simp -dsimp [hget,Mark.v]
   ·simp -dsimp [hget,Mark.v]
  ·refine FZ (rs := [.tmp 4]) false Tryz.func114 ?_
   simp -dsimp [w1,hget,Mark.v]
   refine call_ hlp (by simp -dsimp [wE]) ?_
   simp -dsimp [htake2,hle2]
   refine cl iha ?_
   simp -dsimp [htake,hdrop,hc1,hle]
   refine cl ihb ?_
   rcases hx with rfl | rfl
   ·simp -dsimp [hget,Mark.v]
   ·simp -dsimp [hget,Mark.v]
  ·refine FZ (rs := [.tmp 4]) false Tryz.func114 ?_
   simp -dsimp [w1,hget,Mark.v]
   refine call_ hlp (by simp -dsimp [wE]) ?_
   simp -dsimp [htake2,hle2]
   refine cl iha ?_
   simp -dsimp [htake,hdrop,hc1,hle]
   refine cl ihb ?_
   simp -dsimp [hget,Mark.v]
end TL

namespace TL
open Go Go.Proofs
attribute [local simp] marksV storyV codeV Claim.v Place.v
def mid (n : Nat) : Prop := n ≤ 9223372036854775807
def Claim.mid (c : Claim) : Prop := TL.mid c.says.length
def Place.mid (p : Place) : Prop := TL.mid p.story.length ∧ ∀ c ∈ p.story,c.mid
theorem szMarkS_fn (l : List Mark) (left : Int) (h0 : 0 ≤ left) (h1 : left ≤ 1048576) (hl : mid l.length) : FnZ Tryz.prog 145 [marksV l,.int .i64 left] (.int .i64 (szR left l.length)) := by
 unfold mid at hl
 have w : IntKind.wrap .i64 (left - l.length) = left - l.length := w64 (by omega) (by omega)
 refine FZ (rs := [.tmp 4]) false Tryz.func145 ?_
 by_cases h : left - l.length < 0 <;> simp -dsimp [w,h,szR]
theorem szClaim_fn (c : Claim) (left : Int) (h0 : 0 ≤ left) (h1 : left ≤ 1048576) (hl : c.mid) : FnZ Tryz.prog 92 [c.v,.int .i64 left] (.int .i64 (szR left c.says.length)) := by
 refine FZ (rs := [.tmp 4]) false Tryz.func92 ?_
 simp -dsimp
 refine cl (szMarkS_fn c.says left h0 h1 hl) ?_
 by_cases h : left - c.says.length < 0
 ·have e : szR left c.says.length = -1 := if_pos h
  simp -dsimp [e]
 ·have e : szR left c.says.length = left - c.says.length := if_neg h
  simp -dsimp [e,h]
def saysSum (l : List Claim) : Nat := (l.map fun c => c.says.length).sum
theorem saysSum_take {l : List Claim} {i : Nat} (h : i < l.length) : saysSum (l.take (i + 1)) = saysSum (l.take i) + l[i].says.length := by
 unfold saysSum; rw [List.take_succ_eq_append_getElem h,List.map_append,List.sum_append]; rfl
theorem saysSum_le (l : List Claim) (i : Nat) : saysSum (l.take i) ≤ saysSum l := by
 have e : saysSum l = saysSum (l.take i ++ l.drop i) := by rw [List.take_append_drop]
 rw [e]; unfold saysSum; rw [List.map_append,List.sum_append]; omega
def SZC (l : List Claim) (left : Int) (e : Nat) (s : S) : Prop := ∃ i : Nat,s.tm 0 = .v (.sl (l.map Claim.v)) ∧ s.tm 1 = .v (.int .i64 (left - l.length - saysSum (l.take i))) ∧ s.tm 5 = .v (.int .i64 i) ∧ i ≤ l.length ∧ 0 ≤ left - l.length - saysSum (l.take i) ∧ (e = 1 → i = l.length)
theorem szClaimS_fn (l : List Claim) (left : Int) (h0 : 0 ≤ left) (h1 : left ≤ 1048576) (hl : mid l.length) (hc : ∀ c ∈ l,c.mid) : FnZ Tryz.prog 40 [storyV l,.int .i64 left] (.int .i64 (szR left (l.length + saysSum l))) := by
 unfold mid at hl
 have w : IntKind.wrap .i64 (left - l.length) = left - l.length := w64 (by omega) (by omega)
 refine FZ (rs := [.tmp 4]) false Tryz.func40 ?_
 by_cases h : left - l.length < 0
 ·have e : szR left (l.length + saysSum l) = -1 := if_pos (by omega)
  simp -dsimp [w,h,e]
 simp -dsimp [w,h]
 refine twp_loopC (SZC l left 0) (fun s => l.length - natOf (s.tm 5)) (SZC l left 1) ?_ ?_ ?_
 ·exact ⟨0,by simp -dsimp,by simp -dsimp [saysSum],by simp -dsimp,by omega,by simp [saysSum]; omega,by simp⟩
 ·rintro s ⟨i,t0,t1,t5,hi,hp,hend⟩
  by_cases hlt : i < l.length
  case neg =>
   simp -dsimp [t0,t5,hlt]
   exact ⟨i,by simp -dsimp [t0],by simp -dsimp [t1],by simp -dsimp [t5],hi,hp,fun _ => by omega⟩
  have hget : (l.map Claim.v)[i]? = some (l[i].v) := by simp [hlt]
  have wi : IntKind.wrap .i64 ((i : Int) + 1) = ((i + 1 : Nat) : Int) := by rw [w64 (by omega) (by omega)]; omega
  have hmu : l.length - (i + 1) < l.length - i := by omega
  have hs := saysSum_take hlt
  have hle := saysSum_le l (i + 1)
  simp -dsimp [t0,t1,t5,hlt,hget]
  refine cl (szClaim_fn l[i] (left - l.length - saysSum (l.take i)) (by omega) (by omega) (hc _ (List.getElem_mem _))) ?_
  by_cases hn : left - l.length - saysSum (l.take i) - l[i].says.length < 0
  ·have e1 : szR (left - l.length - saysSum (l.take i)) l[i].says.length = -1 := if_pos hn
   have e2 : szR left (l.length + saysSum l) = -1 := if_pos (by omega)
   simp -dsimp [e1,e2]
  ·have e1 : szR (left - l.length - saysSum (l.take i)) l[i].says.length = left - l.length - saysSum (l.take (i + 1)) := by rw [szR,if_neg hn]; omega
   have e2 : ¬ left - l.length - saysSum (l.take (i + 1)) < 0 := by omega
   simp -dsimp [e1,e2,t5,wi,hmu]
   exact ⟨i + 1,by simp -dsimp [t0],by simp -dsimp,by simp -dsimp,by omega,by omega,by simp⟩
 ·rintro s ⟨i,t0,t1,t5,hi,hp,hend⟩
  have := hend rfl
  subst this
  rw [List.take_length] at t1 hp
  have e : szR left (l.length + saysSum l) = left - l.length - saysSum l := by rw [szR,if_neg (by omega)]; omega
  simp -dsimp [t1,e]
def Place.bulk (p : Place) : Nat := p.story.length + saysSum p.story
theorem szPlace_fn (p : Place) (left : Int) (h0 : 0 ≤ left) (h1 : left ≤ 1048576) (hp : p.mid) : FnZ Tryz.prog 19 [p.v,.int .i64 left] (.int .i64 (szR left p.bulk)) := by
 refine FZ (rs := [.tmp 4]) false Tryz.func19 ?_
 simp -dsimp
 refine cl (szClaimS_fn p.story left h0 h1 hp.1 hp.2) ?_
 by_cases h : left - p.bulk < 0
 ·have e : szR left (p.story.length + saysSum p.story) = -1 := if_pos h
  simp -dsimp [e,Place.bulk]
 ·have e : szR left (p.story.length + saysSum p.story) = left - p.bulk := if_neg h
  have e2 : szR left p.bulk = left - p.bulk := if_neg h
  simp -dsimp [e,h,e2]
theorem saysSum_mem {l : List Claim} {c : Claim} (h : c ∈ l) : c.says.length ≤ saysSum l := by
 induction l with
 | nil => cases h
 | cons y ys ih =>
  rcases List.mem_cons.1 h with rfl | h
  ·simp [saysSum]
  ·have := ih h; simp only [saysSum,List.map_cons,List.sum_cons] at this ⊢; omega
theorem Place.small_of {p : Place} (h : ¬ (1048576 : Int) - p.bulk < 0) : p.small := by
 unfold Place.bulk at h
 exact ⟨by omega,fun c hc => by have := saysSum_mem hc; unfold Claim.small; omega⟩
end TL

namespace TL
open Go Go.Proofs
theorem fit_wf {n : Int} (h : (Lit.int .i64 n).wf = true) : fit n := by
 simp [Lit.wf,IntKind.min,IntKind.max,IntKind.signed,IntKind.bits] at h
 unfold fit; omega
theorem opens_mark (w : World) : Opens Tryz.prog w 195 fun vs => ∃ a : Mark,a.fit ∧ a.v = .agg vs :=
 (opens_struct2 Tryz.underlying195 rfl (by kernel_rfl) (by kernel_rfl) (opens_int Tryz.underlying3) (opens_int Tryz.underlying3)).mono fun vs h => by
  obtain ⟨v0,v1,rfl,⟨n0,rfl,w0⟩,⟨n1,rfl,w1⟩⟩ := h
  exact ⟨⟨n0,n1⟩,⟨fit_wf w0,fit_wf w1⟩,rfl⟩
theorem opens_marks (w : World) : Opens Tryz.prog w 115 fun vs => ∃ l : List Mark,vs = [.sl (l.map Mark.v)] ∧ l.length ≤ maxLen ∧ ∀ a ∈ l,a.fit :=
 opens_slice Tryz.underlying115 (z := 2) (by kernel_rfl) (by omega) ((opens_mark w).mono fun vs h => by obtain ⟨a,h1,h2⟩ := h; exact ⟨a,h1,.inl h2⟩)
theorem opens_claim (w : World) : Opens Tryz.prog w 117 fun vs => ∃ a : Claim,(a.fit ∧ a.mid) ∧ a.v = .agg vs :=
 (opens_struct2 Tryz.underlying117 rfl (by kernel_rfl) (by kernel_rfl) (opens_int Tryz.underlying3) (opens_marks w)).mono fun vs h => by
  obtain ⟨v0,v1,rfl,⟨n0,rfl,w0⟩,⟨l,rfl,hl,hf⟩⟩ := h
  exact ⟨⟨n0,l⟩,⟨⟨fit_wf w0,hf⟩,by simpa [Claim.mid,mid,maxLen] using hl⟩,rfl⟩
theorem opens_claims (w : World) : Opens Tryz.prog w 22 fun vs => ∃ l : List Claim,vs = [.sl (l.map Claim.v)] ∧ l.length ≤ maxLen ∧ ∀ a ∈ l,a.fit ∧ a.mid :=
 opens_slice Tryz.underlying22 (z := 2) (by kernel_rfl) (by omega) ((opens_claim w).mono fun vs h => by obtain ⟨a,h1,h2⟩ := h; exact ⟨a,h1,.inl h2⟩)
theorem opens_place (w : World) : Opens Tryz.prog w 24 fun vs => ∃ a : Place,(a.fit ∧ a.mid) ∧ a.v = .agg vs :=
 (opens_struct2 Tryz.underlying24 rfl (by kernel_rfl) (by kernel_rfl) (opens_int Tryz.underlying3) (opens_claims w)).mono fun vs h => by
  obtain ⟨v0,v1,rfl,⟨n0,rfl,w0⟩,⟨l,rfl,hl,hf⟩⟩ := h
  exact ⟨⟨n0,l⟩,⟨⟨fit_wf w0,fun c hc => (hf c hc).1⟩,by simpa [mid,maxLen] using hl,fun c hc => (hf c hc).2⟩,rfl⟩
end TL

namespace TL
open Go Go.Proofs
attribute [local simp] marksV storyV codeV Claim.v Place.v Desk.v
def Desk.fit (d : Desk) : Prop := d.now.fit ∧ ∀ p ∈ d.past,p.fit
def Desk.mid (d : Desk) : Prop := d.now.mid ∧ TL.mid d.past.length ∧ ∀ p ∈ d.past,p.mid
def ItoPlaceS (l : List Place) (a : Nat) (s : S) : Prop := ∃ i : Nat,s.tm 0 = .v (.sl (l.map Place.v)) ∧ s.tm 3 = .sv 0 0 l.length ∧ s.tm 4 = .v (.int .i64 i) ∧ i ≤ l.length ∧ s.m 0 = some (.box 31 2 (filled Place.v [T.v (.int .i64 0),T.nil] l i).flatten) ∧ (a = 1 → i = l.length)
theorem toPlaceS_fn (l : List Place) (hl : l.length ≤ 1048576) (hs : ∀ a ∈ l,a.small) : FnZ Tryz.prog 27 [.sl (l.map Place.v)] (.sl (l.map Place.v)) := by
 have b1 : (32 : Int) * l.length ≤ 281474976710656 := by omega
 have b2 : (l.length : Int) ≤ 9223372036854775807 := by omega
 have b3 : (0 : Int) ≤ l.length := by omega
 refine FZ (rs := [.tmp 2]) false Tryz.func27 ?_
 simp -dsimp [b1,b2,b3]
 refine twp_loopC (ItoPlaceS l 0) (fun s => l.length - natOf (s.tm 4)) (ItoPlaceS l 1) ?_ ?_ ?_
 ·exact ⟨0,by simp -dsimp,by simp -dsimp,by simp -dsimp,by omega,by rw [filled_zero]; simp -dsimp,by simp⟩
 ·rintro s ⟨i,h0,h3,h4,hi,hm,hend⟩
  by_cases hlt : i < l.length
  case neg =>
   simp -dsimp [h0,h4,hlt]
   exact ⟨i,by simp -dsimp [h0],by simp -dsimp [h3],by simp -dsimp [h4],hi,by simp -dsimp [hm],fun _ => by omega⟩
  have hget : (l.map Place.v)[i]? = some (l[i].v) := by simp [hlt]
  have wi : IntKind.wrap .i64 ((i : Int) + 1) = ((i + 1 : Nat) : Int) := by rw [w64 (by omega) (by omega)]; omega
  have hmu : l.length - (i + 1) < l.length - i := by omega
  have hfl : (filled Place.v [T.v (.int .i64 0),T.nil] l i).flatten.length = l.length * 2 := filled_flat_len (k := 2) elemOk_place rfl hi
  have hst := filled_set (v := Place.v) (zs := [T.v (.int .i64 0),T.nil]) (k := 2) elemOk_place rfl hlt
  have hcv : l[i].v.cells = (l[i].v).cells := rfl
  have hoff : i * 2 + 2 ≤ l.length * 2 := by omega
  have hlt' : (i : Int) < l.length := by omega
  rw [cellsT_place] at hst
  simp -dsimp [h0,h3,h4,hlt,hget]
  refine call_ (toPlace_fn l[i] (hs _ (List.getElem_mem _))) (by simp -dsimp [Mark.v]) ?_
  simp -dsimp [Mark.v,h0,h3,h4,hlt,hlt',hm,hfl,hoff,hst,wi,hmu,filled_len]
  exact ⟨i + 1,by simp -dsimp [h0],by simp -dsimp [h3],by simp -dsimp,by omega,by simp -dsimp,by simp⟩
 ·rintro s ⟨i,h0,h3,h4,hi,hm,hend⟩
  have := hend rfl
  subst this
  have hb := bor_filled (k := 2) elemOk_place 3 hm
  simp -dsimp [h3,hb]
theorem toDesk_fn (a : Desk) (hc : a.small) : FnZ Tryz.prog 7 [a.v] a.v := by
 refine FZ (rs := [.cell 2 34]) false Tryz.func7 ?_
 simp -dsimp
 refine cl (toPlace_fn a.now hc.1) ?_
 simp -dsimp
 refine cl (toPlaceS_fn a.past hc.2.1 hc.2.2) ?_
 simp -dsimp
def IeqPlaceS (a b : List Place) (e : Nat) (s : S) : Prop := ∃ i : Nat,s.tm 0 = .v (.sl (a.map Place.v)) ∧ s.tm 1 = .v (.sl (b.map Place.v)) ∧ s.tm 5 = .v (.int .i64 i) ∧ i ≤ a.length ∧ a.take i = b.take i ∧ (e = 1 → i = a.length)
theorem eqPlaceS_fn (a b : List Place) (hl : a.length ≤ 1048576) (hs : ∀ x ∈ a,x.small) : FnZ Tryz.prog 34 [.sl (a.map Place.v),.sl (b.map Place.v)] (.bool (decide (a = b))) := by
 refine FZ (rs := [.tmp 4]) false Tryz.func34 ?_
 by_cases hn : a.length = b.length
 case neg =>
  have e : decide (a = b) = false := by simp; rintro rfl; exact hn rfl
  have hn' : ¬ (a.length : Int) = b.length := by omega
  simp -dsimp [hn,hn',e]
 simp -dsimp [hn]
 refine twp_loopC (IeqPlaceS a b 0) (fun s => a.length - natOf (s.tm 5)) (IeqPlaceS a b 1) ?_ ?_ ?_
 ·exact ⟨0,by simp -dsimp,by simp -dsimp,by simp -dsimp,by omega,by simp,by simp⟩
 ·rintro s ⟨i,h0,h1,h5,hi,htk,hend⟩
  by_cases hlt : i < a.length
  case neg =>
   have hlt2 : ¬ i < b.length := by omega
   simp -dsimp [h0,h5,hlt,hlt2,hn]
   exact ⟨i,by simp -dsimp [h0],by simp -dsimp [h1],by simp -dsimp [h5],hi,htk,fun _ => by omega⟩
  have hlt2 : i < b.length := by omega
  have hgeta : (a.map Place.v)[i]? = some (a[i].v) := by simp [hlt]
  have hgetb : (b.map Place.v)[i]? = some (b[i].v) := by simp [hlt2]
  have wi : IntKind.wrap .i64 ((i : Int) + 1) = ((i + 1 : Nat) : Int) := by rw [w64 (by omega) (by omega)]; omega
  have hmu : a.length - (i + 1) < a.length - i := by omega
  simp -dsimp [h0,h5,hlt,hlt2,hn]
  refine twd (List.range 10) [] (List.replicate 10 []) (List.replicate 10 []) ?_
  simp -dsimp [List.range_succ,h0,h1,h5,hlt,hlt2,hgeta,hgetb]
  refine call_ (eqPlace_fn a[i] b[i] (hs _ (List.getElem_mem _))) (by simp -dsimp [Mark.v]) ?_
  have hq := ft (decide (a[i] = b[i]))
  rcases hq with hq | hq
  ·have e : decide (a = b) = false := by
    simp at hq ⊢; rintro rfl; exact hq rfl
   simp -dsimp [List.range_succ,hq,e]
  ·have hq' : a[i] = b[i] := by simpa using hq
   have htk2 := take_eq_succ hlt hlt2 htk hq'
   have hmu2 : b.length - (i + 1) < b.length - i := by omega
   simp -dsimp [List.range_succ,hq,h5,wi,hmu,hmu2]
   exact ⟨i + 1,by simp -dsimp [h0],by simp -dsimp [h1],by simp -dsimp,by omega,htk2,by simp⟩
 ·rintro s ⟨i,h0,h1,h5,hi,htk,hend⟩
  have := hend rfl
  subst this
  rw [List.take_length,hn,List.take_length] at htk
  have e : decide (a = b) = true := by simpa using htk
  simp -dsimp [e]
theorem eqDesk_fn (a b : Desk) (ha : a.small) : FnZ Tryz.prog 9 [a.v,b.v] (.bool (decide (a = b))) := by
 refine FZ (rs := [.tmp 4]) false Tryz.func9 ?_
 simp -dsimp
 refine cl (eqPlace_fn a.now b.now ha.1) ?_
 have h0 := ft (decide (a.now = b.now))
 rcases h0 with h0 | h0
 ·have e : decide (a = b) = false := by cases a; cases b; simp_all
  simp -dsimp [h0,e]
 simp -dsimp [h0]
 refine cl (eqPlaceS_fn a.past b.past ha.2.1 ha.2.2) ?_
 have h1 := ft (decide (a.past = b.past))
 rcases h1 with h1 | h1
 ·have e : decide (a = b) = false := by cases a; cases b; simp_all
  simp -dsimp [h1,e]
 ·have e : decide (a = b) = true := by cases a; cases b; simp_all
  simp -dsimp [h1,e]
def bulkSum (l : List Place) : Nat := (l.map fun p => p.bulk).sum
theorem bulkSum_take {l : List Place} {i : Nat} (h : i < l.length) : bulkSum (l.take (i + 1)) = bulkSum (l.take i) + l[i].bulk := by
 unfold bulkSum; rw [List.take_succ_eq_append_getElem h,List.map_append,List.sum_append]; rfl
theorem bulkSum_le (l : List Place) (i : Nat) : bulkSum (l.take i) ≤ bulkSum l := by
 have e : bulkSum l = bulkSum (l.take i ++ l.drop i) := by rw [List.take_append_drop]
 rw [e]; unfold bulkSum; rw [List.map_append,List.sum_append]; omega
theorem bulkSum_mem {l : List Place} {c : Place} (h : c ∈ l) : c.bulk ≤ bulkSum l := by
 induction l with
 | nil => cases h
 | cons y ys ih =>
  rcases List.mem_cons.1 h with rfl | h
  ·simp [bulkSum]
  ·have := ih h; simp only [bulkSum,List.map_cons,List.sum_cons] at this ⊢; omega
def SZP (l : List Place) (left : Int) (e : Nat) (s : S) : Prop := ∃ i : Nat,s.tm 0 = .v (.sl (l.map Place.v)) ∧ s.tm 1 = .v (.int .i64 (left - l.length - bulkSum (l.take i))) ∧ s.tm 5 = .v (.int .i64 i) ∧ i ≤ l.length ∧ 0 ≤ left - l.length - bulkSum (l.take i) ∧ (e = 1 → i = l.length)
theorem szPlaceS_fn (l : List Place) (left : Int) (h0 : 0 ≤ left) (h1 : left ≤ 1048576) (hl : mid l.length) (hc : ∀ c ∈ l,c.mid) : FnZ Tryz.prog 20 [.sl (l.map Place.v),.int .i64 left] (.int .i64 (szR left (l.length + bulkSum l))) := by
 unfold mid at hl
 have w : IntKind.wrap .i64 (left - l.length) = left - l.length := w64 (by omega) (by omega)
 refine FZ (rs := [.tmp 4]) false Tryz.func20 ?_
 by_cases h : left - l.length < 0
 ·have e : szR left (l.length + bulkSum l) = -1 := if_pos (by omega)
  simp -dsimp [w,h,e]
 simp -dsimp [w,h]
 refine twp_loopC (SZP l left 0) (fun s => l.length - natOf (s.tm 5)) (SZP l left 1) ?_ ?_ ?_
 ·exact ⟨0,by simp -dsimp,by simp -dsimp [bulkSum],by simp -dsimp,by omega,by simp [bulkSum]; omega,by simp⟩
 ·rintro s ⟨i,t0,t1,t5,hi,hp,hend⟩
  by_cases hlt : i < l.length
  case neg =>
   simp -dsimp [t0,t5,hlt]
   exact ⟨i,by simp -dsimp [t0],by simp -dsimp [t1],by simp -dsimp [t5],hi,hp,fun _ => by omega⟩
  have hget : (l.map Place.v)[i]? = some (l[i].v) := by simp [hlt]
  have wi : IntKind.wrap .i64 ((i : Int) + 1) = ((i + 1 : Nat) : Int) := by rw [w64 (by omega) (by omega)]; omega
  have hmu : l.length - (i + 1) < l.length - i := by omega
  have hs := bulkSum_take hlt
  have hle := bulkSum_le l (i + 1)
  simp -dsimp [t0,t1,t5,hlt,hget]
  refine cl (szPlace_fn l[i] (left - l.length - bulkSum (l.take i)) (by omega) (by omega) (hc _ (List.getElem_mem _))) ?_
  by_cases hn : left - l.length - bulkSum (l.take i) - l[i].bulk < 0
  ·have e1 : szR (left - l.length - bulkSum (l.take i)) l[i].bulk = -1 := if_pos hn
   have e2 : szR left (l.length + bulkSum l) = -1 := if_pos (by omega)
   simp -dsimp [e1,e2]
  ·have e1 : szR (left - l.length - bulkSum (l.take i)) l[i].bulk = left - l.length - bulkSum (l.take (i + 1)) := by rw [szR,if_neg hn]; omega
   have e2 : ¬ left - l.length - bulkSum (l.take (i + 1)) < 0 := by omega
   simp -dsimp [e1,e2,t5,wi,hmu]
   exact ⟨i + 1,by simp -dsimp [t0],by simp -dsimp,by simp -dsimp,by omega,by omega,by simp⟩
 ·rintro s ⟨i,t0,t1,t5,hi,hp,hend⟩
  have := hend rfl
  subst this
  rw [List.take_length] at t1 hp
  have e : szR left (l.length + bulkSum l) = left - l.length - bulkSum l := by rw [szR,if_neg (by omega)]; omega
  simp -dsimp [t1,e]
def Desk.bulk (d : Desk) : Nat := d.now.bulk + (d.past.length + bulkSum d.past)
theorem szDesk_fn (d : Desk) (left : Int) (h0 : 0 ≤ left) (h1 : left ≤ 1048576) (hd : d.mid) : FnZ Tryz.prog 5 [d.v,.int .i64 left] (.int .i64 (szR left d.bulk)) := by
 refine FZ (rs := [.tmp 4]) false Tryz.func5 ?_
 simp -dsimp
 refine cl (szPlace_fn d.now left h0 h1 hd.1) ?_
 by_cases h : left - d.now.bulk < 0
 ·have e : szR left d.now.bulk = -1 := if_pos h
  have e2 : szR left d.bulk = -1 := if_pos (by unfold Desk.bulk; omega)
  simp -dsimp [e,e2]
 have e : szR left d.now.bulk = left - d.now.bulk := if_neg h
 simp -dsimp [e,h]
 refine cl (szPlaceS_fn d.past (left - d.now.bulk) (by omega) (by omega) hd.2.1 hd.2.2) ?_
 by_cases h2 : left - d.now.bulk - (d.past.length + bulkSum d.past : Nat) < 0
 ·have e2 : szR (left - d.now.bulk) (d.past.length + bulkSum d.past) = -1 := if_pos h2
  have e3 : szR left d.bulk = -1 := if_pos (by unfold Desk.bulk; omega)
  simp -dsimp [e2,e3]
 ·have e2 : szR (left - d.now.bulk) (d.past.length + bulkSum d.past) = left - d.bulk := by rw [szR,if_neg h2]; unfold Desk.bulk; omega
  have e3 : szR left d.bulk = left - d.bulk := if_neg (by unfold Desk.bulk; omega)
  have e4 : ¬ left - d.bulk < 0 := by unfold Desk.bulk; omega
  simp -dsimp [e2,e3,e4]
theorem Desk.small_of {d : Desk} (h : ¬ (1048576 : Int) - d.bulk < 0) : d.small := by
 unfold Desk.bulk at h
 exact ⟨Place.small_of (by omega),by omega,fun p hp => Place.small_of (by have := bulkSum_mem hp; omega)⟩
theorem Place.fine_of {p : Place} (hs : p.small) (hf : p.fit) : p.fine := ⟨by have := hs.1; omega,fun c hc => ⟨(hf.2 c hc).2,by have := hs.2 c hc; unfold Claim.small at this; omega⟩⟩
def IdeskOkS (d : Desk) (e : Nat) (s : S) : Prop := ∃ i : Nat,s.tm 1 = .ptr 0 0 ∧ s.m 0 = some (.box 34 3 [.v (.int .i64 d.now.people),.v (storyV d.now.story),.v (.sl (d.past.map Place.v))]) ∧ s.tm 3 = .v (.int .i64 i) ∧
 i ≤ d.past.length ∧ (d.past.take i).all placeOk = true ∧ (e = 1 → i = d.past.length)
theorem deskOkS_fn (d : Desk) (hs : d.small) (hf : d.fit) : FnZ Tryz.prog 21 [d.v] (.bool (deskOk d)) := by
 have hl := hs.2.1
 refine FZ (rs := [.tmp 2]) false Tryz.func21 ?_
 simp -dsimp
 refine twp_loopC (IdeskOkS d 0) (fun s => d.past.length - natOf (s.tm 3)) (IdeskOkS d 1) ?_ ?_ ?_
 ·exact ⟨0,by simp -dsimp,by simp -dsimp,by simp -dsimp,by omega,by simp,by simp⟩
 ·rintro s ⟨i,t1,m0,t8,hi,hall,hend⟩
  by_cases hlt : i < d.past.length
  case neg =>
   simp -dsimp [t1,m0,t8,hlt]
   exact ⟨i,by simp -dsimp [t1],by simp -dsimp [m0],by simp -dsimp [t8],hi,hall,fun _ => by omega⟩
  have hget : (d.past.map Place.v)[i]? = some (d.past[i].v) := by simp [hlt]
  have hall' := all_take_succ (f := placeOk) hlt
  have wi : IntKind.wrap .i64 ((i : Int) + 1) = ((i + 1 : Nat) : Int) := by rw [w64 (by omega) (by omega)]; omega
  have hmu : d.past.length - (i + 1) < d.past.length - i := by omega
  have hbad := all_bad (f := placeOk) hlt
  have hm := List.getElem_mem hlt
  simp -dsimp [t1,m0,t8,hlt,hget]
  refine cl (placeOkS_fn d.past[i] (Place.fine_of (hs.2.2 _ hm) (hf.2 _ hm))) ?_
  have hc := ft (placeOk d.past[i])
  rcases hc with hc | hc
  ·simp -dsimp [hc,deskOk,hbad hc]
  ·simp -dsimp [hc,t8,wi,hmu]
   exact ⟨i + 1,by simp -dsimp [t1],by simp -dsimp [m0],by simp -dsimp,by omega,by rw [hall',hall,hc]; rfl,by simp⟩
 ·rintro s ⟨i,t1,m0,t8,hi,hall,hend⟩
  have := hend rfl
  subst this
  rw [List.take_length] at hall
  simp -dsimp [t1,m0]
  refine cl (placeOkS_fn d.now (Place.fine_of hs.1 hf.1)) ?_
  have hk := ft (placeOk d.now)
  rcases hk with hk | hk
  ·simp -dsimp [deskOk,hk]
  ·simp -dsimp [t1,m0,deskOk,hk,hall]
   omega
theorem opens_places (w : World) : Opens Tryz.prog w 25 fun vs => ∃ l : List Place,vs = [.sl (l.map Place.v)] ∧ l.length ≤ maxLen ∧ ∀ a ∈ l,a.fit ∧ a.mid :=
 opens_slice Tryz.underlying25 (z := 2) (by kernel_rfl) (by omega) ((opens_place w).mono fun vs h => by obtain ⟨a,h1,h2⟩ := h; exact ⟨a,h1,.inl h2⟩)
theorem opens_desk (w : World) : Opens Tryz.prog w 27 fun vs => ∃ a : Desk,(a.fit ∧ a.mid) ∧ a.v = .agg vs :=
 (opens_struct2 Tryz.underlying27 rfl (by kernel_rfl) (by kernel_rfl) (opens_place w) (opens_places w)).mono fun vs h => by
  obtain ⟨v0,v1,rfl,⟨p,hp,hv⟩,⟨l,rfl,hl,hf⟩⟩ := h
  cases hv
  exact ⟨⟨p,l⟩,⟨⟨hp.1,fun c hc => (hf c hc).1⟩,hp.2,by simpa [mid,maxLen] using hl,fun c hc => (hf c hc).2⟩,rfl⟩
end TL

namespace TL
open Go Go.Proofs
theorem runR_append (w : Nat) (r : List Bool) (a b : List Mark) : runR w r (a ++ b) = runR w (runR w r a) b := by simp [runR]
theorem runR_tm (w : Nat) : ∀ T : Tm,T.ok → ∀ r,runR w r T.marks = T.sat w :: r
 | .tells i,_,r => by simp [Tm.marks,runR,runStep,Tm.sat]
 | .count i,_,r => by simp [Tm.marks,runR,runStep,Tm.sat]
 | .not a,h,r => by
  have ih := runR_tm w a h r
  show runR w r (a.marks ++ [⟨2,0⟩]) = _
  rw [runR_append,ih]
  simp [runR,runStep,Tm.sat]
 | .bin k a b,h,r => by
  obtain ⟨hk,ha,hb⟩ := h
  have e : (Tm.bin k a b).marks = a.marks ++ b.marks ++ [⟨3 + k,0⟩] := rfl
  rw [e,runR_append,runR_append,runR_tm w a ha,runR_tm w b hb]
  have : k = 0 ∨ k = 1 ∨ k = 2 := by omega
  rcases this with rfl | rfl | rfl <;> simp [runR,runStep,Tm.sat]
theorem truth_tm (w : Nat) {T : Tm} (h : T.ok) : truth T.marks w = T.sat w := by unfold truth; rw [runR_tm w T h]; rfl
theorem tm_fits : ∀ T : Tm,T.ok → fits T.marks
 | .tells i,h => fun m hm => by
  have h : i < 4 := h
  simp [Tm.marks] at hm; subst hm; unfold Mark.fit fit; simp; omega
 | .count i,h => fun m hm => by
  have h : i < 6 := h
  simp [Tm.marks] at hm; subst hm; unfold Mark.fit fit; simp; omega
 | .not a,h => fun m hm => by
  have e : (Tm.not a).marks = a.marks ++ [⟨2,0⟩] := rfl
  rw [e] at hm
  rcases List.mem_append.1 hm with hm | hm
  ·exact tm_fits a h m hm
  ·rw [List.mem_singleton.1 hm]; unfold Mark.fit fit; simp
 | .bin k a b,h => fun m hm => by
  obtain ⟨hk,ha,hb⟩ := h
  have e : (Tm.bin k a b).marks = a.marks ++ b.marks ++ [⟨3 + k,0⟩] := rfl
  rw [e] at hm
  rcases List.mem_append.1 hm with hm | hm
  ·rcases List.mem_append.1 hm with hm | hm
   ·exact tm_fits a ha m hm
   ·exact tm_fits b hb m hm
  ·rw [List.mem_singleton.1 hm]; unfold Mark.fit fit; simp; omega
theorem claim_facts {people : Int} {c : Claim} (h : claimOk people c = true) : 1 ≤ people ∧ people ≤ 4 ∧ 0 ≤ c.who ∧ c.who < people ∧ termOk people c.says = true ∧ c.says.length ≤ 13 ∧ marksRun people 0 c.says = some 1 := by
 simp only [claimOk,peopleOk,Bool.and_eq_true,decide_eq_true_eq] at h
 have ht := h.1.2
 simp only [termOk,Bool.and_eq_true,decide_eq_true_eq] at ht
 exact ⟨h.1.1.1.1.1,h.1.1.1.1.2,h.1.1.1.2,h.1.1.2,h.1.2,h.2,ht.2⟩
theorem claim_fine {people : Int} {c : Claim} (h : claimOk people c = true) : c.fine ∧ c.fit ∧ c.small ∧ c.says.length ≤ 13 := by
 obtain ⟨h1,h2,h3,h4,h5,h6,h7⟩ := claim_facts h
 obtain ⟨T,hT,e⟩ := termOk_tree h5
 have hf : fits c.says := by rw [← e]; exact tm_fits T hT
 exact ⟨⟨hf,by omega⟩,⟨by unfold fit; omega,hf⟩,by unfold Claim.small; omega,h6⟩
theorem place_fine {p : Place} (h : placeOk p = true) : p.fine ∧ p.fit ∧ p.small ∧ p.story.length ≤ 6 := by
 obtain ⟨h1,h2,h3,h4⟩ := placeOk_all h
 exact ⟨⟨by omega,fun c hc => (claim_fine (h4 c hc)).1⟩,⟨by unfold fit; omega,fun c hc => (claim_fine (h4 c hc)).2.1⟩,⟨by omega,fun c hc => (claim_fine (h4 c hc)).2.2.1⟩,h3⟩
theorem desk_fine {d : Desk} (h : deskOk d = true) : d.small ∧ d.fit ∧ d.past.length ≤ 8 ∧ d.now.fine := by
 obtain ⟨h1,h2,h3⟩ := deskOk_iff.1 h
 exact ⟨⟨(place_fine h2).2.2.1,by omega,fun p hp => (place_fine (h1 p hp)).2.2.1⟩,⟨(place_fine h2).2.1,fun p hp => (place_fine (h1 p hp)).2.1⟩,h3,(place_fine h2).1⟩
end TL

namespace TL
open Go Go.Proofs
attribute [local simp] marksV storyV codeV Claim.v Place.v
theorem askedS_val {p n a b : Nat} (yes : Bool) (hn : n < 2 ^ 2 ^ p) : (tabN (2 ^ p) fun w => n.testBit w && sameKind a b yes w) = n &&& askMask p a b yes := by
 apply Nat.eq_of_testBit_eq
 intro i
 rw [testBit_tabN,Nat.testBit_and,askMask,testBit_tabN]
 by_cases h : i < 2 ^ p
 ·simp [h]
 ·have : n.testBit i = false := Nat.testBit_lt_two_pow (Nat.lt_of_lt_of_le hn (Nat.pow_le_pow_right (by omega) (by omega)))
  simp [this]
/-- The worlds of a table. -/
def worldsOf (p n : Nat) : List Nat := (List.range (2 ^ p)).filter fun w => n.testBit w
def Iwi (N n p : Nat) (e : Nat) (s : S) : Prop := ∃ w id : Nat,s.tm 1 = .v (.int .i64 n) ∧ s.tm 5 = .loc id ∧ s.tm 13 = .v (.int .i64 N) ∧ s.tm 14 = .v (.int .i64 w) ∧ w ≤ N ∧ s.mu = false ∧ id < s.n ∧
 s.m id = some (.arr 3 (((List.range w).filter fun w => n.testBit w).map fun w => V.int .i64 (w : Nat))) ∧ (e = 1 → w = N)
theorem worldsIn_fn (p n : Nat) (hk : tableOk p n = true) (hp1 : 1 ≤ p) (hp4 : p ≤ 4) : FnZ Tryz.prog 76 [.int .i64 p,.int .i64 n] (.sl ((worldsOf p n).map fun w => V.int .i64 (w : Nat))) := by
 have hn : n < 65536 := by
  obtain ⟨p',n',h1,h2,_,h4,h5⟩ := tableOk_spec hk
  have : n' = n := by omega
  subst this
  exact table_small h4 h5
 have hN : 2 ^ p ≤ 16 := by
  have : p = 1 ∨ p = 2 ∨ p = 3 ∨ p = 4 := by omega
  rcases this with rfl | rfl | rfl | rfl <;> simp
 have ws : IntKind.wrap .i64 (2 ^ min p IntKind.i64.bits) = ((2 ^ p : Nat) : Int) := by rw [shl_fact (by omega)]; simp
 unfold worldsOf
 generalize hNN : 2 ^ p = N at *
 have hp0 : ¬ (p : Int) < 0 := by omega
 refine FZ (rs := [.tmp 4]) false Tryz.func76 ?_
 simp -dsimp
 refine cl (tableOk_fn p n) ?_
 simp -dsimp [hk,ws,hp0]
 refine twp_loopC (Iwi N n p 0) (fun s => N - natOf (s.tm 14)) (Iwi N n p 1) ?_ ?_ ?_
 ·exact ⟨0,0,by simp -dsimp,by simp -dsimp,by simp -dsimp,by simp -dsimp,by omega,by simp -dsimp,by simp -dsimp,by simp -dsimp,by simp⟩
 ·rintro s ⟨w,id,t1,t5,t13,t14,hw,hmu,hid,hm,hend⟩
  by_cases hlt : w < N
  case neg =>
   simp -dsimp [t13,t14,hlt]
   exact ⟨w,id,by simp -dsimp [t1],by simp -dsimp [t5],by simp -dsimp [t13],by simp -dsimp [t14],hw,by simp -dsimp [hmu],by simp -dsimp; omega,by simp -dsimp [hm],fun _ => by omega⟩
  have wi : IntKind.wrap .i64 ((w : Int) + 1) = ((w + 1 : Nat) : Int) := by rw [w64 (by omega) (by omega)]; omega
  have hmu1 : N - (w + 1) < N - w := by omega
  have z3 : ¬ (w : Int) < 0 := by omega
  have b0 := bit1 n w (by omega) (by omega)
  have hrl : ((List.range w).filter fun w => n.testBit w).length ≤ w := by
   have := List.length_filter_le (fun w => n.testBit w) (List.range w)
   simpa using this
  have hsucc : (List.range (w + 1)).filter (fun w => n.testBit w) = (List.range w).filter (fun w => n.testBit w) ++ (if n.testBit w then [w] else []) := by
   rw [List.range_succ,List.filter_append]; congr 1
   cases h : n.testBit w <;> simp [h]
  have fin : ∀ (s' : S) (id' : Nat),s'.tm 1 = .v (.int .i64 n) → s'.tm 5 = .loc id' → s'.tm 13 = .v (.int .i64 N) → s'.tm 14 = .v (.int .i64 (w + 1 : Nat)) → s'.mu = false → id' < s'.n →
    s'.m id' = some (.arr 3 (((List.range w).filter fun w => n.testBit w).map (fun w => V.int .i64 (w : Nat)) ++ (if n.testBit w then [V.int .i64 w] else []))) → Iwi N n p 0 s' := by
   intro s' id' a1 a5 a13 a14 amu aid am
   refine ⟨w + 1,id',a1,a5,a13,a14,by omega,amu,aid, ?_,by simp⟩
   rw [am,hsucc]; cases n.testBit w <;> simp
  have f1 := far hid
  generalize hxs : ((List.range w).filter fun w => n.testBit w).map (fun w => V.int .i64 (w : Nat)) = xs at *
  have hxl : xs.length ≤ 16 := by rw [← hxs]; simp only [List.length_map]; omega
  have b1 : (xs.length + 1) * 8 ≤ 140737488355328 := by omega
  have c0 := ft (n.testBit w)
  rcases c0 with c0 | c0
  ·rw [c0] at b0
   simp -dsimp [t1,t5,t13,t14,hlt,hmu,z3,b0,wi,hmu1]
   exact fin _ id (by simp -dsimp [t1]) (by simp -dsimp [t5]) (by simp -dsimp [t13]) (by simp -dsimp) (by simp -dsimp [hmu]) (by simp -dsimp; omega) (by simp -dsimp [hm,c0])
  ·rw [c0] at b0
   simp -dsimp [t1,t5,t13,t14,hlt,hmu,z3,b0,hm,f1,b1,wi,hmu1]
   refine st_out fun s' ht' hm' hn' hu' => ?_
   have q1 := ht' 1
   have q5 := ht' 5
   have q13 := ht' 13
   have q14 := ht' 14
   simp -dsimp [t1,t5,t13] at q1 q5 q13 q14 hm' hn' hu'
   clear ht'
   exact fin s' _ q1 q5 q13 q14 (by rw [hu',hmu]) (by omega) (by simp [hm',c0])
 ·rintro s ⟨w,id,t1,t5,t13,t14,hw,hmu,hid,hm,hend⟩
  have := hend rfl
  subst this
  simp -dsimp [t5,hm]
end TL

namespace TL
open Go Go.Proofs
attribute [local simp] marksV storyV codeV Claim.v Place.v
theorem maySay_fn (people : Int) (c : Claim) (h : claimOk people c = true) (w : Nat) (hw : w < 16) : FnZ Tryz.prog 173 [c.v,.int .i64 w] (.bool (mayB c w)) := by
 obtain ⟨hp1,hp4,h0,h1,ht,hl,hr⟩ := claim_facts h
 obtain ⟨who,says⟩ := c
 simp only at h0 h1 hl hr
 obtain ⟨k,rfl⟩ := Int.eq_ofNat_of_zero_le h0
 have hh := holds_fn people hp4 says hr (by omega) w hw
 have hb := bit1 w k (by omega) (by omega)
 have z1 : ¬ (k : Int) < 0 := by omega
 have e : mayB ⟨(k : Int),says⟩ w = (truth says w == w.testBit k) := rfl
 rw [e]
 generalize truth says w = tr at *
 have c0 := ft (w.testBit k)
 refine FZ (rs := [.tmp 4]) false Tryz.func173 ?_
 simp -dsimp
 refine twd [0,1,2,4,5,6,7,8,9,3,10,11] [0] (List.replicate 12 [0]) (List.replicate 12 [0]) ?_
 rcases c0 with c0 | c0
 ·rw [c0] at hb ⊢
  simp -dsimp [z1,hb]
  refine cl hh ?_
  cases tr <;> simp -dsimp [z1,hb]
 ·rw [c0] at hb ⊢
  simp -dsimp [z1,hb]
  refine cl hh ?_
  cases tr <;> simp -dsimp [z1,hb]
theorem claimTable1_fn (people : Int) (c : Claim) (h : claimOk people c = true) (w : Nat) (hw : w < 16) : FnZ Tryz.prog 172 [.int .i64 w,.ref [.int .i64 c.who,marksV c.says]] (.bool (mayB c w)) := by
 have hm := maySay_fn people c h w hw
 generalize mayB c w = b at *
 obtain ⟨who,says⟩ := c
 refine FZ (rs := [.tmp 3]) false Tryz.func172 ?_
 simp -dsimp
 refine cl hm ?_
 simp -dsimp
theorem pow_small {p : Nat} (h : p ≤ 4) : 2 ^ p ≤ 16 := by
 have : 2 ^ p ≤ 2 ^ 4 := Nat.pow_le_pow_right (by omega) h
 omega
theorem claimTable_fn (people : Int) (c : Claim) (h : claimOk people c = true) : FnZ Tryz.prog 125 [.int .i64 people,c.v] (.int .i64 (claimTab people.toNat c)) := by
 obtain ⟨hp1,hp4,h0,h1,ht,hl,hr⟩ := claim_facts h
 obtain ⟨p,rfl⟩ := Int.eq_ofNat_of_zero_le (show 0 ≤ people by omega)
 have hok := claimOk_fn p c
 rw [h] at hok
 have hN := pow_small (p := p) (by omega)
 have hc : ∀ w : Nat,w < 2 ^ p → FnZ Tryz.prog 172 [.int .i64 w,.ref [.int .i64 c.who,marksV c.says]] (.bool (mayB c w)) := fun w hw => claimTable1_fn p c h w (by omega)
 have htb := tableBy_fn p (by omega) (by omega) 172 [.ref [.int .i64 c.who,marksV c.says]] (mayB c) hc
 have e : claimTab (p : Int).toNat c = tabN (2 ^ p) (mayB c) := rfl
 rw [e]
 generalize tabN (2 ^ p) (mayB c) = tb at *
 clear h0 h1 ht hl hr hc
 obtain ⟨who,says⟩ := c
 refine FZ (rs := [.tmp 4]) false Tryz.func125 ?_
 simp -dsimp
 refine cl hok ?_
 simp -dsimp
 refine callM_ htb (by simp -dsimp) rfl ?_
 simp -dsimp
end TL

namespace TL
open Go Go.RowKit
variable {P : Program}
/-- A contract for pure arguments serves for rows that nobody changes, too. -/
theorem FnS.lend {f : Nat} {m : Mem} {n : Nat} {args : List T} {vs : List V} {post : T → Mem → Nat → Prop} (h : FnS P f m n (vs.map .v) post) (ha : mapO (bor false m 4) args = some vs) : FnS P f m n args post :=
 ⟨h.1,fun φ Z w us hm hr => h.2 φ Z w us hm (bors_sound hm (k := false) (Zb := Z) (fun _ _ h => h) (by simp) args us vs hr ha).toTs⟩
theorem callL_ {f : Nat} {m : Mem} {n : Nat} {args : List T} {vs : List V} {k : T → Mem → Nat → Prop} {post : T → Mem → Nat → Prop} (h : FnS P f m n (vs.map .v) post) (ha : mapO (bor false m 4) args = some vs) (hk : ∀ t m' n',post t m' n' → k t m' n') : callP P f m n args k := callS_ (h.lend ha) hk
end TL

namespace TL
open Go Go.Proofs
attribute [local simp] marksV storyV codeV Claim.v Place.v
theorem full_table {p : Nat} (h1 : 1 ≤ p) (h4 : p ≤ 4) : (2 ^ 2 ^ p - 1 : Nat) < 65536 ∧ IntKind.wrap .i64 (IntKind.wrap .i64 (2 ^ min (IntKind.wrap .u64 (2 ^ min p IntKind.u64.bits)).toNat IntKind.i64.bits) - 1) = ((2 ^ 2 ^ p - 1 : Nat) : Int) := by
 have : p = 1 ∨ p = 2 ∨ p = 3 ∨ p = 4 := by omega
 rcases this with rfl | rfl | rfl | rfl <;> exact ⟨by decide,by rfl⟩
def Ist (p : Nat) (l : List Claim) (e : Nat) (s : S) : Prop := ∃ i : Nat,s.tm 0 = .v (.int .i64 p) ∧ s.tm 5 = .v (.int .i64 (storyTab p (l.take i))) ∧ s.tm 12 = .v (.sl (l.map Claim.v)) ∧ s.tm 13 = .v (.int .i64 l.length) ∧ s.tm 14 = .v (.int .i64 i) ∧ i ≤ l.length ∧ (e = 1 → i = l.length)
theorem storyTab_succ {p i : Nat} {l : List Claim} (h : i < l.length) : storyTab p (l.take (i + 1)) = storyTab p (l.take i) &&& claimTab p l[i] := by
 unfold storyTab
 rw [List.take_succ_eq_append_getElem h,List.foldl_append]; rfl
theorem storyTab_small {p : Nat} (h4 : p ≤ 4) (l : List Claim) : storyTab p l < 65536 := table_small h4 (storyTab_le p l)
theorem storyTable_fn (p : Nat) (l : List Claim) (hp1 : 1 ≤ p) (hp4 : p ≤ 4) (hl : l.length ≤ 1048576) (h : ∀ c ∈ l,claimOk p c = true) : FnZ Tryz.prog 74 [.int .i64 p,storyV l] (.int .i64 (storyTab p l)) := by
 obtain ⟨hf1,hf2⟩ := full_table hp1 hp4
 have hp0 : ¬ (p : Int) < 0 := by omega
 refine FZ (rs := [.tmp 4]) false Tryz.func74 ?_
 have hsh : ¬ IntKind.wrap .u64 (2 ^ min p IntKind.u64.bits) < 0 := by
  have : p = 1 ∨ p = 2 ∨ p = 3 ∨ p = 4 := by omega
  rcases this with rfl | rfl | rfl | rfl <;> decide
 simp -dsimp [hp0,hsh,hf2]
 refine twp_loopC (Ist p l 0) (fun s => l.length - natOf (s.tm 14)) (Ist p l 1) ?_ ?_ ?_
 ·exact ⟨0,by simp -dsimp,by simp -dsimp [storyTab],by simp -dsimp,by simp -dsimp,by simp -dsimp,by omega,by simp⟩
 ·rintro s ⟨i,t0,t5,t12,t13,t14,hi,hend⟩
  by_cases hlt : i < l.length
  case neg =>
   simp -dsimp [t13,t14,hlt]
   exact ⟨i,by simp -dsimp [t0],by simp -dsimp [t5],by simp -dsimp [t12],by simp -dsimp [t13],by simp -dsimp [t14],hi,fun _ => by omega⟩
  have hget : (l.map Claim.v)[i]? = some (l[i].v) := by simp [hlt]
  have wi : IntKind.wrap .i64 ((i : Int) + 1) = ((i + 1 : Nat) : Int) := by rw [w64 (by omega) (by omega)]; omega
  have hmu1 : l.length - (i + 1) < l.length - i := by omega
  have hct := claimTable_fn p l[i] (h _ (List.getElem_mem _))
  rw [Int.toNat_natCast] at hct
  have ha := storyTab_small hp4 (l.take i)
  have hb : claimTab p l[i] < 65536 := table_small hp4 (tabN_lt _ _)
  have hs := storyTab_succ (p := p) hlt
  have hand := and_nn (a := storyTab p (l.take i)) (b := claimTab p l[i]) (by omega) (by omega)
  generalize claimTab p l[i] = b at *
  generalize storyTab p (l.take i) = a at *
  simp -dsimp [t0,t5,t12,t13,t14,hlt,hget,nes]
  refine cl hct ?_
  simp -dsimp [t0,t5,t12,t13,t14,hand,wi,hmu1]
  exact ⟨i + 1,by simp -dsimp [t0],by simp -dsimp [hs],by simp -dsimp [t12],by simp -dsimp [t13],by simp -dsimp,by omega,by simp⟩
 ·rintro s ⟨i,t0,t5,t12,t13,t14,hi,hend⟩
  have := hend rfl
  subst this
  rw [List.take_length] at t5
  simp -dsimp [t5]
theorem allOk_of {people : Int} {l : List Claim} (h : storyOk people l = true) : 1 ≤ people ∧ people ≤ 4 ∧ (∀ c ∈ l,claimOk people c = true) ∧ l.length ≤ 6 := by
 simp only [storyOk,peopleOk,Bool.and_eq_true,decide_eq_true_eq,List.all_eq_true] at h
 exact ⟨h.1.2.1,h.1.2.2,h.1.1,h.2⟩
def storyTableV (people : Int) (l : List Claim) : Int := if storyOk people l = true then (storyTab people.toNat l : Int) else -1
theorem storyTable_v (people : Int) (l : List Claim) (hl : l.length ≤ 1048576) : FnZ Tryz.prog 127 [.int .i64 people,storyV l] (.int .i64 (storyTableV people l)) := by
 have hok := storyOk_fn people l (by omega)
 have hk := ft (storyOk people l)
 rcases hk with hk | hk
 ·have e : storyTableV people l = -1 := if_neg (by simp [hk])
  rw [e]
  refine FZ (rs := [.tmp 4]) false Tryz.func127 ?_
  simp -dsimp
  refine cl hok ?_
  simp -dsimp [hk]
 ·have e : storyTableV people l = (storyTab people.toNat l : Int) := if_pos hk
  rw [e]
  obtain ⟨h1,h4,hc,h6⟩ := allOk_of hk
  obtain ⟨p,rfl⟩ := Int.eq_ofNat_of_zero_le (show 0 ≤ people by omega)
  have ht := storyTable_fn p l (by omega) (by omega) hl hc
  refine FZ (rs := [.tmp 4]) false Tryz.func127 ?_
  simp -dsimp
  refine cl hok ?_
  simp -dsimp [hk]
  refine cl ht ?_
  simp -dsimp
theorem cloneClaims_own (l : List Claim) (hl : l.length ≤ 1048576) (m : Mem) (n : Nat) : FnS Tryz.prog 121 m n [.v (storyV l)] (fun t m' n' => n ≤ n' ∧ (∀ j,j < n → m' j = m j) ∧ IsRow m' n n' 104 t (l.map Claim.v)) := by
 have b1 : l.length * 32 ≤ 140737488355328 := by omega
 refine FS (rs := [.tmp 2]) false Tryz.func121 ?_
 simp -dsimp [b1]
 refine ⟨⟨by omega,fun j hj => by simp [show ¬ j = n + 1 by omega,show ¬ j = n by omega],.inr ⟨n + 1,rfl,by omega,by omega,by simp⟩⟩,fun h => .inl ⟨rfl,by simp [h]⟩⟩
theorem without_fn (l : List Claim) (k : Nat) (hk : k < l.length) (hl : l.length ≤ 1048576) : FnZ Tryz.prog 69 [storyV l,.int .i64 k] (storyV (l.eraseIdx k)) := by
 have e : l.eraseIdx k = l.take k ++ l.drop (k + 1) := List.eraseIdx_eq_take_drop_succ ..
 have h1 : (k : Int) ≤ l.length := by omega
 have h2 : k ≤ l.length := by omega
 have h3 : k + 1 ≤ l.length := by omega
 have h4 : (k : Int) + 1 ≤ l.length := by omega
 have w1 : IntKind.wrap .i64 ((k : Int) + 1) = (k : Int) + 1 := w64 (by omega) (by omega)
 have b3 : k * 32 ≤ 140737488355328 := by omega
 have b4 : (k + (l.length - (k + 1))) * 32 ≤ 140737488355328 := by omega
 have b2 : (min k l.length + (l.length - (k + 1))) * 32 ≤ 140737488355328 := by omega
 have h5 : ((k : Int) + 1).toNat = k + 1 := by omega
 have h6 : (0 : Int) ≤ (k : Int) + 1 := by omega
 have z2 : allZ 2 (List.drop (k + 1) (List.map Claim.v l)) := by rw [← List.map_drop]; exact allZ_claims _
 have tk : List.take l.length (List.map Claim.v l) = List.map Claim.v l := List.take_of_length_le (by simp)
 have hcl := fun m n => cloneClaims_own (l.take k) (by simp; omega) m n
 rw [e]
 refine FZ (rs := [.tmp 4]) false Tryz.func69 ?_
 simp -dsimp
 refine twd [0,1,2,4,5,6,7,3,8,9] [] (List.replicate 10 []) (List.replicate 10 []) ?_
 simp -dsimp [h1,h2,h3,h4,h5,h6,w1,b2,b3,b4,z2,tk,nes]
 refine callL_ (vs := [storyV (l.take k)]) (hcl _ _) (by simp -dsimp) ?_
 rintro t m1 n1 ⟨hn1,hout,hrow⟩
 rcases hrow with ⟨rfl,hz⟩ | ⟨id,rfl,hi0,hi1,him⟩
 ·have hz' : l.take k = [] := by simpa using hz
  have b5 : (l.length - (k + 1)) * 32 ≤ 140737488355328 := by omega
  simp -dsimp [h1,h2,h3,h4,h5,h6,w1,b2,b3,b4,b5,z2,tk,nes,hz']
 ·have f1 := far hi1
  simp -dsimp [h1,h2,h3,h4,h5,h6,w1,b2,b3,b4,z2,tk,nes,him,f1]
def Ils5 (p : Nat) (R : List Claim) (e : Nat) (s : S) : Prop := ∃ (i : Nat) (l : List Claim),s.tm 0 = .v (.int .i64 p) ∧ s.tm 6 = .v (.sl (l.map Claim.v)) ∧ s.tm 7 = .v (.int .i64 i) ∧ i ≤ l.length ∧ l.length ≤ 6 ∧ (∀ c ∈ l,claimOk p c = true) ∧ leastGo p (l.length - i) i l = R ∧ (e = 1 → i = l.length)
theorem leastStory_fn (people : Int) (l : List Claim) (h : storyOk people l = true) : FnZ Tryz.prog 70 [.int .i64 people,storyV l] (.tup [storyV (least people.toNat l),.bool true]) := by
 obtain ⟨h1,h4,hc,h6⟩ := allOk_of h
 obtain ⟨p,rfl⟩ := Int.eq_ofNat_of_zero_le (show 0 ≤ people by omega)
 rw [Int.toNat_natCast]
 have hok := storyOk_fn p l (by omega)
 have hsub := least_sub p l
 have hcp := copyStory_fn l (by omega) fun c hx => (claim_fine (hc c hx)).2.2.1
 have hcp2 := copyStory_fn (least p l) (by have := hsub.length_le; omega) fun c hx => (claim_fine (hc c (hsub.subset hx))).2.2.1
 have hR : leastGo p (l.length - 0) 0 l = least p l := rfl
 generalize least p l = R at *
 refine FZ (rs := [.tmp 4,.tmp 5]) false Tryz.func70 ?_
 simp -dsimp
 refine cl hok ?_
 simp -dsimp [h]
 refine cl hcp ?_
 simp -dsimp
 refine twp_loopC (Ils5 p R 0) (fun s => (match s.tm 6 with | .v (.sl xs) => xs.length | _ => 0) - natOf (s.tm 7)) (Ils5 p R 1) ?_ ?_ ?_
 ·exact ⟨0,l,by simp -dsimp,by simp -dsimp,by simp -dsimp,by omega,h6,hc,hR,by simp⟩
 ·rintro s ⟨i,k,t0,t6,t7,hi,hk6,hkc,hgo,hend⟩
  by_cases hlt : i < k.length
  case neg =>
   simp -dsimp [t6,t7,hlt]
   exact ⟨i,k,by simp -dsimp [t0],by simp -dsimp [t6],by simp -dsimp [t7],hi,hk6,hkc,hgo,fun _ => by omega⟩
  have hw := without_fn k i hlt (by omega)
  have hel : (k.eraseIdx i).length = k.length - 1 := by rw [List.length_eraseIdx]; simp [hlt]
  have hec : ∀ c ∈ k.eraseIdx i,claimOk p c = true := fun c hx => hkc c ((List.eraseIdx_sublist _ _).subset hx)
  have hs1 := storyTable_fn p (k.eraseIdx i) (by omega) (by omega) (by omega) hec
  have hs2 := storyTable_fn p k (by omega) (by omega) (by omega) hkc
  have wi : IntKind.wrap .i64 ((i : Int) + 1) = ((i + 1 : Nat) : Int) := by rw [w64 (by omega) (by omega)]; omega
  have hmu1 : k.length - (i + 1) < k.length - i := by omega
  have hmu2 : k.length - 1 - i < k.length - i := by omega
  simp -dsimp [t0,t6,t7,hlt]
  refine cl hw ?_
  simp -dsimp [t0,t6,t7]
  refine cl hs1 ?_
  simp -dsimp [t0,t6,t7]
  refine cl hs2 ?_
  by_cases hq : storyTab p (k.eraseIdx i) = storyTab p k
  ·have hgo2 := leastGo_out hlt hq
   rw [hgo2] at hgo
   have hq' : (storyTab p (k.eraseIdx i) : Int) = storyTab p k := by rw [hq]
   simp -dsimp [t0,t6,t7,hq,hq',hel,hmu2]
   exact ⟨i,k.eraseIdx i,by simp -dsimp [t0],by simp -dsimp,by simp -dsimp [t7],by omega,by omega,hec,hgo,by simp⟩
  ·have hgo2 := leastGo_keep hlt hq
   rw [hgo2] at hgo
   have hq' : ¬ (storyTab p (k.eraseIdx i) : Int) = storyTab p k := by omega
   simp -dsimp [t0,t6,t7,hq,hq',wi,hmu1]
   exact ⟨i + 1,k,by simp -dsimp [t0],by simp -dsimp [t6],by simp -dsimp,by omega,hk6,hkc,hgo,by simp⟩
 ·rintro s ⟨i,k,t0,t6,t7,hi,hk6,hkc,hgo,hend⟩
  have := hend rfl
  subst this
  rw [leastGo_end rfl (by omega)] at hgo
  subst hgo
  simp -dsimp [t6]
  refine cl hcp2 ?_
  simp -dsimp
end TL

namespace TL
open Go Go.Proofs
attribute [local simp] marksV storyV codeV Claim.v Place.v
theorem l4May_fn (people : Int) (c : Claim) (h : claimOk people c = true) (w : Nat) (hw : w < 16) : FnZ Tryz.prog 147 [c.v,.int .i64 w] (.bool (mayB c w)) := by
 obtain ⟨hp1,hp4,h0,h1,ht,hl,hr⟩ := claim_facts h
 obtain ⟨T,hT,eT⟩ := termOk_tree ht
 have hh := l3Holds_fn w hw T hT (by rw [eT]; omega)
 have etr := truth_tm w hT
 rw [eT] at hh etr
 rw [← etr] at hh
 obtain ⟨who,says⟩ := c
 simp only at h0 h1 hl hr hh
 obtain ⟨k,rfl⟩ := Int.eq_ofNat_of_zero_le h0
 have hb := bit2 w k (by omega)
 have z1 : ¬ (k : Int) < 0 := by omega
 have e : mayB ⟨(k : Int),says⟩ w = (truth says w == w.testBit k) := rfl
 rw [e]
 clear etr
 generalize truth says w = tr at *
 have c0 := ft (w.testBit k)
 refine FZ (rs := [.tmp 4]) false Tryz.func147 ?_
 simp -dsimp
 refine twd [0,1,2,3,4,5,6,7,8,9,10,11] [0] (List.replicate 12 [0]) (List.replicate 12 [0]) ?_
 rcases c0 with c0 | c0
 ·rw [c0] at hb ⊢
  simp -dsimp [z1,hb]
  refine cl hh ?_
  cases tr <;> simp -dsimp [z1,hb]
 ·rw [c0] at hb ⊢
  simp -dsimp [z1,hb]
  refine cl hh ?_
  cases tr <;> simp -dsimp [z1,hb]
def Il4 (N : Nat) (p : Nat) (c : Claim) (e : Nat) (s : S) : Prop := ∃ w : Nat,s.tm 0 = .v (.int .i64 p) ∧ s.tm 3 = .ptr 0 0 ∧ s.m 0 = some (.box 104 2 [.v (.int .i64 c.who),.v (marksV c.says)]) ∧ s.tm 6 = .v (.int .i64 w) ∧ s.tm 5 = .v (.int .i64 (tabN w (mayB c))) ∧ w ≤ N ∧ (e = 1 → w = N)
theorem shl_pow {p : Nat} (h : p ≤ 16) : IntKind.wrap .i64 (2 ^ min p IntKind.i64.bits) = ((2 ^ p : Nat) : Int) ∧ (2 : Nat) ^ p < 4611686018427387904 := by
 have hp : 2 ^ p ≤ 2 ^ 16 := Nat.pow_le_pow_right (by omega) h
 have h2 : (2 : Nat) ^ p < 4611686018427387904 := by omega
 refine ⟨?_,h2⟩
 rw [Nat.min_eq_left (by simp [IntKind.bits]; omega),w64]
 ·simp
 ·have : (0 : Int) ≤ 2 ^ p := Int.pow_nonneg (by omega)
  omega
 ·have : ((2 ^ p : Nat) : Int) = (2 : Int) ^ p := by simp
  omega
theorem l4Table_fn (people : Int) (c : Claim) (h : claimOk people c = true) : FnZ Tryz.prog 99 [.int .i64 people,c.v] (.int .i64 (claimTab people.toNat c)) := by
 obtain ⟨hp1,hp4,h0,h1,ht,hl,hr⟩ := claim_facts h
 obtain ⟨p,rfl⟩ := Int.eq_ofNat_of_zero_le (show 0 ≤ people by omega)
 have e : claimTab (p : Int).toNat c = tabN (2 ^ p) (mayB c) := rfl
 rw [e]
 have hN := pow_small (p := p) (by omega)
 have ws := (shl_pow (p := p) (by omega)).1
 have hm : ∀ w : Nat,w < 2 ^ p → FnZ Tryz.prog 147 [c.v,.int .i64 w] (.bool (mayB c w)) := fun w hw => l4May_fn p c h w (by omega)
 generalize hNN : 2 ^ p = N at *
 have hp0 : ¬ (p : Int) < 0 := by omega
 refine FZ (rs := [.tmp 4]) false Tryz.func99 ?_
 simp -dsimp
 refine twp_loopC (Il4 N p c 0) (fun s => N - natOf (s.tm 6)) (Il4 N p c 1) ?_ ?_ ?_
 ·exact ⟨0,by simp -dsimp,by simp -dsimp,by simp -dsimp,by simp -dsimp,by simp -dsimp [tabN],by omega,by simp⟩
 ·rintro s ⟨w,t0,t3,m0,t6,t5,hw,hend⟩
  by_cases hlt : w < N
  case neg =>
   simp -dsimp [t0,t6,hp0,ws,hlt]
   exact ⟨w,by simp -dsimp [t0],by simp -dsimp [t3],by simp -dsimp [m0],by simp -dsimp [t6],by simp -dsimp [t5],hw,fun _ => by omega⟩
  have wi : IntKind.wrap .i64 ((w : Int) + 1) = ((w + 1 : Nat) : Int) := by rw [w64 (by omega) (by omega)]; omega
  have hmu : N - (w + 1) < N - w := by omega
  have hb := tabN_lt (mayB c) w
  have h2 := (shl_pow (p := w) (by omega)).2
  have wsh := (shl_pow (p := w) (by omega)).1
  have hp : 2 ^ w ≤ 2 ^ 16 := Nat.pow_le_pow_right (by omega) (by omega)
  have hor := or_ni (a := tabN w (mayB c)) (b := 2 ^ w) (x := (2 : Int) ^ w) (by simp) (by omega) h2
  have hgw := ft (mayB c w)
  have hz : ¬ (w : Int) < 0 := by omega
  simp -dsimp [t0,t3,m0,t6,hp0,ws,hlt]
  refine cl (hm w hlt) ?_
  rcases hgw with hgw | hgw
  ·have ht : tabN (w + 1) (mayB c) = tabN w (mayB c) := by simp [tabN,hgw]
   simp -dsimp [hgw,t5,t6,wi,hmu]
   exact ⟨w + 1,by simp -dsimp [t0],by simp -dsimp [t3],by simp -dsimp [m0],by simp -dsimp,by simp -dsimp [t5,ht],by omega,by simp⟩
  ·have ht : tabN (w + 1) (mayB c) = tabN w (mayB c) ||| 2 ^ w := by simp [tabN,hgw]
   simp -dsimp [hgw,t5,t6,wi,hmu,wsh,hor,hz]
   exact ⟨w + 1,by simp -dsimp [t0],by simp -dsimp [t3],by simp -dsimp [m0],by simp -dsimp,by simp -dsimp [ht],by omega,by simp⟩
 ·rintro s ⟨w,t0,t3,m0,t6,t5,hw,hend⟩
  have := hend rfl
  subst this
  simp -dsimp [t5]
def Is4 (p : Nat) (l : List Claim) (e : Nat) (s : S) : Prop := ∃ i : Nat,s.tm 0 = .v (.int .i64 p) ∧ s.tm 1 = .v (.sl (l.map Claim.v)) ∧ s.tm 5 = .v (.int .i64 (storyTab p (l.take i))) ∧ s.tm 6 = .v (.int .i64 i) ∧ i ≤ l.length ∧ (e = 1 → i = l.length)
theorem l4Story_fn (p : Nat) (l : List Claim) (hp1 : 1 ≤ p) (hp4 : p ≤ 4) (hl : l.length ≤ 1048576) (h : ∀ c ∈ l,claimOk p c = true) : FnZ Tryz.prog 48 [.int .i64 p,storyV l] (.int .i64 (storyTab p l)) := by
 obtain ⟨hf1,hf2⟩ := full_table hp1 hp4
 have hp0 : ¬ (p : Int) < 0 := by omega
 refine FZ (rs := [.tmp 4]) false Tryz.func48 ?_
 have hsh : ¬ IntKind.wrap .u64 (2 ^ min p IntKind.u64.bits) < 0 := by
  have : p = 1 ∨ p = 2 ∨ p = 3 ∨ p = 4 := by omega
  rcases this with rfl | rfl | rfl | rfl <;> decide
 simp -dsimp [hp0,hsh,hf2]
 refine twp_loopC (Is4 p l 0) (fun s => l.length - natOf (s.tm 6)) (Is4 p l 1) ?_ ?_ ?_
 ·exact ⟨0,by simp -dsimp,by simp -dsimp,by simp -dsimp [storyTab],by simp -dsimp,by omega,by simp⟩
 ·rintro s ⟨i,t0,t1,t5,t6,hi,hend⟩
  by_cases hlt : i < l.length
  case neg =>
   simp -dsimp [t1,t6,hlt]
   exact ⟨i,by simp -dsimp [t0],by simp -dsimp [t1],by simp -dsimp [t5],by simp -dsimp [t6],hi,fun _ => by omega⟩
  have hget : (l.map Claim.v)[i]? = some (l[i].v) := by simp [hlt]
  have wi : IntKind.wrap .i64 ((i : Int) + 1) = ((i + 1 : Nat) : Int) := by rw [w64 (by omega) (by omega)]; omega
  have hmu1 : l.length - (i + 1) < l.length - i := by omega
  have hct := l4Table_fn p l[i] (h _ (List.getElem_mem _))
  rw [Int.toNat_natCast] at hct
  have ha := storyTab_small hp4 (l.take i)
  have hb : claimTab p l[i] < 65536 := table_small hp4 (tabN_lt _ _)
  have hs := storyTab_succ (p := p) hlt
  have hand := and_nn (a := storyTab p (l.take i)) (b := claimTab p l[i]) (by omega) (by omega)
  generalize claimTab p l[i] = b at *
  generalize storyTab p (l.take i) = a at *
  simp -dsimp [t0,t1,t5,t6,hlt,hget]
  refine cl hct ?_
  simp -dsimp [t0,t1,t5,t6,hand,wi,hmu1]
  exact ⟨i + 1,by simp -dsimp [t0],by simp -dsimp [t1],by simp -dsimp [hs],by simp -dsimp,by omega,by simp⟩
 ·rintro s ⟨i,t0,t1,t5,t6,hi,hend⟩
  have := hend rfl
  subst this
  rw [List.take_length] at t5
  simp -dsimp [t5]
def IlsA (p : Nat) (l : List Claim) (e : Nat) (s : S) : Prop := ∃ i id : Nat,s.tm 0 = .v (.int .i64 p) ∧ s.tm 1 = .v (.sl (l.map Claim.v)) ∧ s.tm 6 = .loc id ∧ id < s.n ∧ s.m id = some (.arr 104 ((l.take i).map Claim.v)) ∧ s.tm 7 = .v (.int .i64 i) ∧ s.mu = false ∧ i ≤ l.length ∧ (e = 1 → i = l.length)
def IlsB (p : Nat) (R : List Claim) (e : Nat) (s : S) : Prop := ∃ (i : Nat) (l : List Claim),s.tm 0 = .v (.int .i64 p) ∧ (s.tm 6 = .v (.sl (l.map Claim.v)) ∨ ∃ id,s.tm 6 = .loc id ∧ s.m id = some (.arr 104 (l.map Claim.v))) ∧ s.tm 8 = .v (.int .i64 i) ∧ i ≤ l.length ∧ l.length ≤ 6 ∧ (∀ c ∈ l,claimOk p c = true) ∧ leastGo p (l.length - i) i l = R ∧ (e = 1 → i = l.length)
theorem leastStoryS_fn (people : Int) (l : List Claim) (h : storyOk people l = true) : FnZ Tryz.prog 97 [.int .i64 people,storyV l] (.tup [storyV (least people.toNat l),.bool true]) := by
 obtain ⟨h1,h4,hc,h6⟩ := allOk_of h
 obtain ⟨p,rfl⟩ := Int.eq_ofNat_of_zero_le (show 0 ≤ people by omega)
 rw [Int.toNat_natCast]
 have hok := storyOkS_fn p l (by omega) fun c hx => (claim_fine (hc c hx)).1
 have hR : leastGo p (l.length - 0) 0 l = least p l := rfl
 generalize least p l = R at *
 refine FZ (rs := [.tmp 4,.tmp 5]) false Tryz.func97 ?_
 simp -dsimp
 refine cl hok ?_
 simp -dsimp [h]
 refine twp_loopC (IlsA p l 0) (fun s => l.length - natOf (s.tm 7)) (IlsA p l 1) ?_ ?_ ?_
 ·exact ⟨0,0,by simp -dsimp,by simp -dsimp,by simp -dsimp,by simp -dsimp,by simp -dsimp,by simp -dsimp,by simp -dsimp,by omega,by simp⟩
 ·rintro s ⟨i,id,t0,t1,t6,hid,hm,t7,hmu,hi,hend⟩
  by_cases hlt : i < l.length
  case neg =>
   simp -dsimp [t1,t7,hlt]
   exact ⟨i,id,by simp -dsimp [t0],by simp -dsimp [t1],by simp -dsimp [t6],by simp -dsimp; omega,by simp -dsimp [hm],by simp -dsimp [t7],by simp -dsimp [hmu],hi,fun _ => by omega⟩
  have hget : (l.map Claim.v)[i]? = some (l[i].v) := by simp [hlt]
  have wi : IntKind.wrap .i64 ((i : Int) + 1) = ((i + 1 : Nat) : Int) := by rw [w64 (by omega) (by omega)]; omega
  have hmu1 : l.length - (i + 1) < l.length - i := by omega
  have f1 := far hid
  have hsm := (claim_fine (hc l[i] (List.getElem_mem _))).2.2.2
  have b0 : l[i].says.length * 16 ≤ 140737488355328 := by omega
  have b1 : (min i l.length + 1) * 32 ≤ 140737488355328 := by omega
  have htk : (l.take (i + 1)).map Claim.v = (l.take i).map Claim.v ++ [l[i].v] := by rw [List.take_succ_eq_append_getElem hlt,List.map_append]; rfl
  simp -dsimp [t1,t7,hlt]
  refine twd [0,1,2,3,4,5,7,8,9,10,11,6,12,13,14,15,16] [] (List.replicate 17 []) (List.replicate 17 []) ?_
  simp -dsimp [t1,t6,t7,hlt,hget,hmu,f1,hm,b0,b1,nes,wi,hmu1]
  refine st_out fun s' ht hm' hn' hu' => ?_
  have q0 := ht 0
  have q1 := ht 1
  have q6 := ht 6
  have q7 := ht 7
  simp -dsimp [t0,t1] at q0 q1 q6 q7 hm' hn' hu'
  clear ht
  refine ⟨i + 1,_,q0,q1,q6,by omega, ?_,q7,by rw [hu',hmu],by omega,by simp⟩
  rw [htk]; simp [hm',nes,f1]
 ·rintro s ⟨i,id,t0,t1,t6,hid,hm,t7,hmu,hi,hend⟩
  have := hend rfl
  subst this
  rw [List.take_length] at hm
  simp -dsimp
  refine twp_loopC (IlsB p R 0) (fun s => (match s.tm 6 with | .v (.sl xs) => xs.length | .loc _ => 7 | _ => 0) - natOf (s.tm 8)) (IlsB p R 1) ?_ ?_ ?_
  ·exact ⟨0,l,by simp -dsimp [t0],.inr ⟨id,by simp -dsimp [t6],by simp -dsimp [hm]⟩,by simp -dsimp,by omega,h6,hc,hR,by simp⟩
  ·rintro s ⟨i,k,t0,t6,t8,hi,hk6,hkc,hgo,hend⟩
   by_cases hlt : i < k.length
   case neg =>
    rcases t6 with t6 | ⟨id,t6,hm⟩
    ·simp -dsimp [t6,t8,hlt]
     exact ⟨i,k,by simp -dsimp [t0],.inl (by simp -dsimp [t6]),by simp -dsimp [t8],hi,hk6,hkc,hgo,fun _ => by omega⟩
    ·simp -dsimp [t6,t8,hlt,hm]
     exact ⟨i,k,by simp -dsimp [t0],.inr ⟨id,by simp -dsimp [t6],by simp -dsimp [hm]⟩,by simp -dsimp [t8],hi,hk6,hkc,hgo,fun _ => by omega⟩
   have hw := l5Without_fn k i hlt (by omega)
   have hel : (k.eraseIdx i).length = k.length - 1 := by rw [List.length_eraseIdx]; simp [hlt]
   have hec : ∀ c ∈ k.eraseIdx i,claimOk p c = true := fun c hx => hkc c ((List.eraseIdx_sublist _ _).subset hx)
   have hs1 := l4Story_fn p (k.eraseIdx i) (by omega) (by omega) (by omega) hec
   have hs2 := l4Story_fn p k (by omega) (by omega) (by omega) hkc
   have wi : IntKind.wrap .i64 ((i : Int) + 1) = ((i + 1 : Nat) : Int) := by rw [w64 (by omega) (by omega)]; omega
   have hmu1 : k.length - (i + 1) < k.length - i := by omega
   have hmu2 : k.length - 1 - i < k.length - i := by omega
   have hmu3 : k.length - 1 - i < 7 - i := by omega
   have hmu4 : 6 - i < 7 - i := by omega
   by_cases hq : storyTab p (k.eraseIdx i) = storyTab p k
   ·have hgo2 := leastGo_out hlt hq
    rw [hgo2] at hgo
    have hq' : (storyTab p (k.eraseIdx i) : Int) = storyTab p k := by rw [hq]
    rcases t6 with t6 | ⟨id,t6,hm⟩
    ·simp -dsimp [t0,t6,t8,hlt]
     refine cl hw ?_
     simp -dsimp [t0,t6,t8]
     refine cl hs1 ?_
     simp -dsimp [t0,t6,t8]
     refine cl hs2 ?_
     simp -dsimp [t0,t6,t8,hq,hq',hel,hmu2]
     exact ⟨i,k.eraseIdx i,by simp -dsimp [t0],.inl (by simp -dsimp),by simp -dsimp [t8],by omega,by omega,hec,hgo,by simp⟩
    ·simp -dsimp [t0,t6,t8,hlt,hm]
     refine call_ hw (by simp -dsimp [hm]) ?_
     simp -dsimp [t0,t6,t8]
     refine cl hs1 ?_
     simp -dsimp [t0,t6,t8]
     refine call_ hs2 (by simp -dsimp [hm]) ?_
     simp -dsimp [t0,t6,t8,hq,hq',hel,hmu3]
     exact ⟨i,k.eraseIdx i,by simp -dsimp [t0],.inl (by simp -dsimp),by simp -dsimp [t8],by omega,by omega,hec,hgo,by simp⟩
   ·have hgo2 := leastGo_keep hlt hq
    rw [hgo2] at hgo
    have hq' : ¬ (storyTab p (k.eraseIdx i) : Int) = storyTab p k := by omega
    rcases t6 with t6 | ⟨id,t6,hm⟩
    ·simp -dsimp [t0,t6,t8,hlt]
     refine cl hw ?_
     simp -dsimp [t0,t6,t8]
     refine cl hs1 ?_
     simp -dsimp [t0,t6,t8]
     refine cl hs2 ?_
     simp -dsimp [t0,t6,t8,hq,hq',wi,hmu1]
     exact ⟨i + 1,k,by simp -dsimp [t0],.inl (by simp -dsimp [t6]),by simp -dsimp,by omega,hk6,hkc,hgo,by simp⟩
    ·simp -dsimp [t0,t6,t8,hlt,hm]
     refine call_ hw (by simp -dsimp [hm]) ?_
     simp -dsimp [t0,t6,t8]
     refine cl hs1 ?_
     simp -dsimp [t0,t6,t8]
     refine call_ hs2 (by simp -dsimp [hm]) ?_
     simp -dsimp [t0,t6,t8,hq,hq',wi,hmu4]
     exact ⟨i + 1,k,by simp -dsimp [t0],.inr ⟨id,by simp -dsimp [t6],by simp -dsimp [hm]⟩,by simp -dsimp,by omega,hk6,hkc,hgo,by simp⟩
  ·rintro s ⟨i,k,t0,t6,t8,hi,hk6,hkc,hgo,hend⟩
   have := hend rfl
   subst this
   rw [leastGo_end rfl (by omega)] at hgo
   subst hgo
   rcases t6 with t6 | ⟨id,t6,hm⟩
   ·simp -dsimp [t6]
   ·simp -dsimp [t6,hm]
end TL
