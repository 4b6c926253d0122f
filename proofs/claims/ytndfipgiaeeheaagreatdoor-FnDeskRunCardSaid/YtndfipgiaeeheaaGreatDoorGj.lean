/- TL: parts FnsYK6, FnsYP3, FnsYE15o, FnsYE15b, FnsYS0, FnsYS1, FnsYK1, FnsYM4, FnsYK3, FnsYGDb, FnsYGH, FnsYFWa, FnsYFWb, FnsYFWc, FnsYFWd, TlWrap. -/
import Derived.Test.YtndfipgiaeeheaaGreatDoorGi
import Derived.Test.YtndfipgiaeeheaaGreatDoorGh
import Derived.Test.YtndfipgiaeeheaaGreatDoorGg
import Derived.Test.YtndfipgiaeeheaaGreatDoorGf
import Derived.Test.YtndfipgiaeeheaaGreatDoorGd
import Derived.Test.YtndfipgiaeeheaaGreatDoorShelfA
import Derived.Shelf.LaysM
import Derived.KernelRfl
import Derived.Test.YtndfipgiaeeheaaGreatDoorRows
import Derived.JoinedOf
import Derived.SevenTiedAt
import Derived.HandedShaped
import Derived.LaidLaws
/- What was done can be undone. -/
set_option linter.unusedSimpArgs false
set_option linter.unusedVariables false
set_option maxRecDepth 100000
set_option maxHeartbeats 4000000
set_option pp.maxSteps 1500
namespace TL
open Go Go.Proofs
attribute [local simp] marksV storyV codeV Claim.v Place.v Desk.v Deed.v
def SomeDeskDeed (x : V) : Prop := ∃ (d : Desk) (a : Deed), d.small ∧ d.fit ∧ a.words.length ≤ 200 ∧ x = .tup [d.v, a.v]
theorem drawDeskDo_z (bs : List UInt8) (m : Mem) (n : Nat) : FnS Tryz.prog 5 m n [.v (codeV bs)] (Drawn SomeDeskDeed m n) := by
  refine Drawn_of ⟨_, Tryz.func5, rfl, rfl⟩ fun hfr => ?_
  refine FnS_of (rs := [.cell 2 28, .cell 3 30]) false Tryz.func5 rfl rfl rfl rfl (Nat.le_of_ble_eq_true rfl) ?_
  simp -dsimp
  refine callS_ (open_at bs _ _) ?_
  rintro t m1 n1 ⟨rfl, rfl, rfl⟩
  simp -dsimp
  refine callS_ (desk_z (bs.take 2000) 0 (by omega) 12 (by omega) (by omega) _ _ _ (by omega) (by simp)) ?_
  rintro t m2 n2 ⟨hn2, ⟨x, ⟨d, s1, s2, s3, rfl⟩, rfl⟩, p2, hp1, hp2, rfl⟩
  have f1 := far (show n + 1 < n2 by omega)
  have f2 := far (show n < n2 by omega)
  have f3 := far (show n + 1 + 1 < n2 by omega)
  simp -dsimp [f1, f2, f3, nes]
  refine twp_draw (List.range 7) [n2] (List.replicate 7 [0]) (List.replicate 7 [0]) (by kernel_rfl) (by kernel_rfl) (by kernel_rfl) (by kernel_rfl) ?_
  simp -dsimp [List.range_succ, f1, f2, f3, nes]
  refine callS_ (deed_zA (bs.take 2000) p2 (by omega) d.now s3 _ _ (n + 1 + 1) (by omega) (by simp [f1, f2, f3])) ?_
  rintro t m3 n3 ⟨hn3, ⟨x, ⟨a, ha, rfl⟩, rfl⟩, p3, hp3, hp4, rfl⟩
  obtain ⟨y1, y2, y3⟩ := a
  have g1 := far (show n + 1 < n3 by omega)
  have g2 := far (show n < n3 by omega)
  have g3 := far (show n + 1 + 1 < n3 by omega)
  have g4 := far (show n2 < n3 by omega)
  simp -dsimp [List.range_succ, f1, f2, f3, g1, g2, g3, g4, nes]
  refine ⟨by omega, ⟨_, by simp <;> rfl, ⟨d, ⟨y1, y2, y3⟩, s1, s2, ha, rfl⟩⟩, fun j j1 => ?_⟩
  simp [far j1, far (show j < n2 by omega), far (show j < n3 by omega), show ¬ j = n + 1 by omega, show ¬ j = n + 1 + 1 by omega]
theorem andnot_zero {a b : Nat} (h : a &&& b = a) : (BitVec.ofInt 64 (a : Int) &&& ~~~(BitVec.ofInt 64 (b : Int))).toNat = 0 := by
  have e1 : BitVec.ofInt 64 (a : Int) = BitVec.ofNat 64 a := BitVec.ofInt_natCast ..
  have e2 : BitVec.ofInt 64 (b : Int) = BitVec.ofNat 64 b := BitVec.ofInt_natCast ..
  rw [e1, e2]
  have e3 : BitVec.ofNat 64 a &&& ~~~ BitVec.ofNat 64 b = 0#64 := by
    have : BitVec.ofNat 64 a = BitVec.ofNat 64 a &&& BitVec.ofNat 64 b := by rw [← BitVec.ofNat_and, h]
    rw [this]
    ext i hi
    simp
  rw [e3]; rfl
theorem andnot_nat {a b : Nat} (h : a &&& b = a) : IntKind.i64.wrap ((a % 2 ^ IntKind.i64.bits &&& 2 ^ IntKind.i64.bits - 1 - b % 2 ^ IntKind.i64.bits : Nat) : Int) = 0 := by
  have e := andnot_zero h
  have e2 : (a % 2 ^ 64 &&& 2 ^ 64 - 1 - b % 2 ^ 64) = 0 := by
    rw [BitVec.toNat_and, BitVec.toNat_not] at e
    simpa using e
  show IntKind.i64.wrap ((a % 2 ^ 64 &&& 2 ^ 64 - 1 - b % 2 ^ 64 : Nat) : Int) = 0
  rw [e2]; rfl
theorem noDesk_small : noDeskV.small := ⟨⟨by simp [noDeskV], by simp [noDeskV]⟩, by simp [noDeskV], by simp [noDeskV]⟩
theorem do_small {d : Desk} {a : Deed} : (deskDo d a).1.small := by
  cases h : deskOk d
  · rw [deskDo_no h]; exact noDesk_small
  · exact (desk_fine (deskDo_ok d a h)).1
theorem lawDeskDo (bs : List UInt8) : FnZ Tryz.prog 3 [codeV bs] (.bool true) := by
  refine FnZ_of (rs := [.tmp 2]) false Tryz.func3 rfl rfl rfl rfl (Nat.le_of_ble_eq_true rfl) ?_
  by_cases h : (1048576 : Int) < bs.length
  · simp -dsimp [nes, nes8, nes9, h]
  simp -dsimp [nes, nes8, nes9, h]
  refine callS_ (drawDeskDo_z bs _ _) ?_
  rintro t m1 n1 ⟨hn1, ⟨x, ⟨d, a, hd, hf, ha, rfl⟩, rfl⟩, rfl⟩
  have h1 := deskDo_fn d a hd (by omega)
  have h2 := deskDoS_fn d a hd hf (by omega)
  have h3 := sameDesk_fn (deskDo d a).1 (deskDo d a).1 do_small
  have h5 := deskOk_fn d (by have := hd.2.1; omega) (by have := hd.1.1; omega) (fun p hp => by have := (hd.2.2 p hp).1; omega)
  have hk := ft (deskDo d a).2
  rcases hk with hk | hk
  · rcases deskDo_same hk with hno | hsame
    · have e : deskDo d a = (noDeskV, false) := deskDo_no hno a
      have h4 := sameDesk_fn noDeskV d noDesk_small
      rw [e] at h1 h2 h3
      rw [hno] at h5
      have hc := ft (decide (noDeskV = d))
      generalize decide (noDeskV = d) = c at *
      clear hd hf ha hk e hno
      obtain ⟨⟨d1, d2⟩, d3⟩ := d
      obtain ⟨a1, a2, a3⟩ := a
      simp -dsimp [nes, nes8, nes9]
      refine call_ h1 (by simp -dsimp) ?_
      simp -dsimp [nes, nes8, nes9, noDeskV]
      refine call_ h2 (by simp -dsimp) ?_
      simp -dsimp [nes, nes8, nes9, noDeskV]
      refine call_ h3 (by simp -dsimp [noDeskV]) ?_
      simp -dsimp [nes, nes8, nes9]
      refine call_ h4 (by simp -dsimp [noDeskV]) ?_
      rcases hc with rfl | rfl
      · simp -dsimp [nes, nes8, nes9]
        refine call_ h5 (by simp -dsimp) ?_
        simp -dsimp [nes, nes8, nes9]
        refine call_ alive_fn (by simp -dsimp) ?_
        simp -dsimp [nes, nes8, nes9]
      · simp -dsimp [nes, nes8, nes9]
        refine call_ alive_fn (by simp -dsimp) ?_
        simp -dsimp [nes, nes8, nes9]
    · have e : deskDo d a = (d, false) := Prod.ext hsame hk
      rw [e] at h1 h2 h3
      clear hd hf ha hk e hsame
      obtain ⟨⟨d1, d2⟩, d3⟩ := d
      obtain ⟨a1, a2, a3⟩ := a
      simp -dsimp [nes, nes8, nes9]
      refine call_ h1 (by simp -dsimp) ?_
      simp -dsimp [nes, nes8, nes9]
      refine call_ h2 (by simp -dsimp) ?_
      simp -dsimp [nes, nes8, nes9]
      refine call_ h3 (by simp -dsimp) ?_
      simp -dsimp [nes, nes8, nes9]
      refine call_ h3 (by simp -dsimp) ?_
      simp -dsimp [nes, nes8, nes9]
      refine call_ alive_fn (by simp -dsimp) ?_
      simp -dsimp [nes, nes8, nes9]
  · have hok := deskDo_sure hk
    have hEok := deskDo_ok d a hok
    obtain ⟨kp0, kp1, kp3⟩ := kept_do hk
    have hB := storyTable_v d.now.people d.now.story (by have := hd.1.1; omega)
    have hA := storyTable_v (deskDo d a).1.now.people (deskDo d a).1.now.story (by have := (do_small (d := d) (a := a)).1.1; omega)
    have eB : storyTableV d.now.people d.now.story = (storyTab d.now.people.toNat d.now.story : Int) := if_pos (show storyOk _ _ = true from (deskOk_iff.1 hok).2.1)
    have eA : storyTableV (deskDo d a).1.now.people (deskDo d a).1.now.story = (storyTab (deskDo d a).1.now.people.toNat (deskDo d a).1.now.story : Int) := if_pos (show storyOk _ _ = true from (deskOk_iff.1 hEok).2.1)
    rw [eB] at hB
    rw [eA] at hA
    have h6 := deskDo_fn (deskDo d a).1 ⟨4, 0, []⟩ do_small (by simp)
    have h7 := deskOk_fn (deskDo d a).1 (by have := (do_small (d := d) (a := a)).2.1; omega) (by have := (do_small (d := d) (a := a)).1.1; omega) (fun p hp => by have := ((do_small (d := d) (a := a)).2.2 p hp).1; omega)
    rw [hEok] at h7
    have hund : a.kind ≠ 4 → d.past.length < 8 → deskDo (deskDo d a).1 ⟨4, 0, []⟩ = (d, true) := fun x y => deskDo_undo hk x y
    have h8 := sameDesk_fn d d hd
    generalize storyTab d.now.people.toNat d.now.story = tB at *
    generalize storyTab (deskDo d a).1.now.people.toNat (deskDo d a).1.now.story = tA at *
    generalize deskDo (deskDo d a).1 ⟨4, 0, []⟩ = U at *
    rw [hk] at h1 h2
    generalize (deskDo d a).1 = E at *
    have z0 : a.kind = 0 → _ := fun h => andnot_nat (kp0 h)
    have z1 : a.kind = 1 → _ := fun h => andnot_nat (kp1 h)
    have z3 : a.kind = 3 → tB = tA := fun h => (kp3 h).symm
    have hpast : a.kind = 4 ∨ (¬ a.kind = 4 ∧ 8 ≤ d.past.length) ∨ (¬ a.kind = 4 ∧ d.past.length < 8) := by omega
    have gA : (0 : Int) ≤ (tA : Int) := by omega
    have gB : (0 : Int) ≤ (tB : Int) := by omega
    clear hd hf ha kp0 kp1 kp3 eA eB hok hEok hk
    obtain ⟨⟨d1, d2⟩, d3⟩ := d
    obtain ⟨a1, a2, a3⟩ := a
    obtain ⟨⟨E1, E2⟩, E3⟩ := E
    obtain ⟨⟨⟨U1, U2⟩, U3⟩, U4⟩ := U
    simp only at z0 z1 z3 hpast hund
    rcases hpast with k4 | ⟨k4, l8⟩ | ⟨k4, l8⟩
    · subst k4
      simp -dsimp [nes, nes8, nes9]
      refine call_ h1 (by simp -dsimp) ?_
      simp -dsimp [nes, nes8, nes9]
      refine call_ h2 (by simp -dsimp) ?_
      simp -dsimp [nes, nes8, nes9]
      refine call_ h3 (by simp -dsimp) ?_
      simp -dsimp [nes, nes8, nes9]
      refine call_ h6 (by simp -dsimp) ?_
      simp -dsimp [nes, nes8, nes9]
      refine call_ hB (by simp -dsimp) ?_
      simp -dsimp [nes, nes8, nes9]
      refine call_ hA (by simp -dsimp) ?_
      simp -dsimp [nes, nes8, nes9, gA, gB]
      refine call_ h7 (by simp -dsimp) ?_
      simp -dsimp [nes, nes8, nes9, gA, gB]
    · have l8' : (8 : Int) ≤ (d3.length : Int) := by omega
      simp -dsimp [nes, nes8, nes9]
      refine call_ h1 (by simp -dsimp) ?_
      simp -dsimp [nes, nes8, nes9]
      refine call_ h2 (by simp -dsimp) ?_
      simp -dsimp [nes, nes8, nes9]
      refine call_ h3 (by simp -dsimp) ?_
      simp -dsimp [nes, nes8, nes9]
      refine call_ h6 (by simp -dsimp) ?_
      simp -dsimp [nes, nes8, nes9]
      refine call_ hB (by simp -dsimp) ?_
      simp -dsimp [nes, nes8, nes9]
      refine call_ hA (by simp -dsimp) ?_
      by_cases k0 : a1 = 0
      · have z := z0 k0
        simp -dsimp [nes, nes8, nes9, k0, z, gA, gB, k4, l8, l8']
        refine call_ h7 (by simp -dsimp) ?_
        simp -dsimp [nes, nes8, nes9, k0, z, gA, gB, k4, l8, l8']
      by_cases k1 : a1 = 1
      · have z := z1 k1
        simp -dsimp [nes, nes8, nes9, k0, k1, z, gA, gB, k4, l8, l8']
        refine call_ h7 (by simp -dsimp) ?_
        simp -dsimp [nes, nes8, nes9, k0, k1, z, gA, gB, k4, l8, l8']
      by_cases k3 : a1 = 3
      · have z := z3 k3
        simp -dsimp [nes, nes8, nes9, k0, k1, k3, z, gA, gB, k4, l8, l8']
        refine call_ h7 (by simp -dsimp) ?_
        simp -dsimp [nes, nes8, nes9, k0, k1, k3, z, gA, gB, k4, l8, l8']
      simp -dsimp [nes, nes8, nes9, k0, k1, k3, gA, gB, k4, l8, l8']
      refine call_ h7 (by simp -dsimp) ?_
      simp -dsimp [nes, nes8, nes9, k0, k1, k3, gA, gB, k4, l8, l8']
    · have hu := hund k4 l8
      cases hu
      have l8' : ¬ (8 : Int) ≤ (d3.length : Int) := by omega
      have l8'' : ¬ 8 ≤ d3.length := by omega
      simp -dsimp [nes, nes8, nes9]
      refine call_ h1 (by simp -dsimp) ?_
      simp -dsimp [nes, nes8, nes9]
      refine call_ h2 (by simp -dsimp) ?_
      simp -dsimp [nes, nes8, nes9]
      refine call_ h3 (by simp -dsimp) ?_
      simp -dsimp [nes, nes8, nes9]
      refine call_ h6 (by simp -dsimp) ?_
      simp -dsimp [nes, nes8, nes9]
      refine call_ hB (by simp -dsimp) ?_
      simp -dsimp [nes, nes8, nes9]
      refine call_ hA (by simp -dsimp) ?_
      by_cases k0 : a1 = 0
      · have z := z0 k0
        simp -dsimp [nes, nes8, nes9, k0, z, gA, gB, k4, l8', l8'']
        refine call_ h7 (by simp -dsimp) ?_
        simp -dsimp [nes, nes8, nes9, k0, z, gA, gB, k4, l8', l8'']
        refine call_ h8 (by simp -dsimp) ?_
        simp -dsimp [nes, nes8, nes9, k0, z, gA, gB, k4, l8', l8'']
      by_cases k1 : a1 = 1
      · have z := z1 k1
        simp -dsimp [nes, nes8, nes9, k0, k1, z, gA, gB, k4, l8', l8'']
        refine call_ h7 (by simp -dsimp) ?_
        simp -dsimp [nes, nes8, nes9, k0, k1, z, gA, gB, k4, l8', l8'']
        refine call_ h8 (by simp -dsimp) ?_
        simp -dsimp [nes, nes8, nes9, k0, k1, z, gA, gB, k4, l8', l8'']
      by_cases k3 : a1 = 3
      · have z := z3 k3
        simp -dsimp [nes, nes8, nes9, k0, k1, k3, z, gA, gB, k4, l8', l8'']
        refine call_ h7 (by simp -dsimp) ?_
        simp -dsimp [nes, nes8, nes9, k0, k1, k3, z, gA, gB, k4, l8', l8'']
        refine call_ h8 (by simp -dsimp) ?_
        simp -dsimp [nes, nes8, nes9, k0, k1, k3, z, gA, gB, k4, l8', l8'']
      simp -dsimp [nes, nes8, nes9, k0, k1, k3, gA, gB, k4, l8', l8'']
      refine call_ h7 (by simp -dsimp) ?_
      simp -dsimp [nes, nes8, nes9, k0, k1, k3, gA, gB, k4, l8', l8'']
      refine call_ h8 (by simp -dsimp) ?_
      simp -dsimp [nes, nes8, nes9, k0, k1, k3, gA, gB, k4, l8', l8'']
end TL

/- Stores that break down, in plain words. -/
set_option linter.unusedSimpArgs false
set_option linter.unusedVariables false
set_option maxRecDepth 100000
set_option maxHeartbeats 4000000
set_option pp.maxSteps 1500
namespace TL
open Go Go.Proofs
theorem crash_again {s : Store} {k : Int} (h : crashOk s k = true) : storeOk (storeCrash s k) = true ∧ (storeCrash s k).sure = s.sure ∧ ((storeCrash s k).log.length : Int) = k ∧ crashOk (storeCrash s k) k = true ∧ storeCrash (storeCrash s k) k = storeCrash s k ∧
    crashOk (storeCrash s k) s.sure = true ∧ crashOk s s.sure = true ∧ storeCrash (storeCrash s k) s.sure = storeCrash s s.sure ∧ storeCrash s k = ⟨s.saved, s.log.take k.toNat, s.sure⟩ := by
  have h0 := h
  simp only [crashOk, Bool.and_eq_true, decide_eq_true_eq] at h
  obtain ⟨h1, h2, h3⟩ := h
  obtain ⟨g1, g2, g3, g4⟩ := storeOk_iff.1 h1
  have e : storeCrash s k = ⟨s.saved, s.log.take k.toNat, s.sure⟩ := if_pos h0
  have hl : (s.log.take k.toNat).length = k.toNat := by simp; omega
  have hok : storeOk ⟨s.saved, s.log.take k.toNat, s.sure⟩ = true := storeOk_iff.2 ⟨g1, by simp only; omega, g3, by simp only; omega⟩
  have c1 : crashOk ⟨s.saved, s.log.take k.toNat, s.sure⟩ k = true := by
    simp only [crashOk, Bool.and_eq_true, decide_eq_true_eq]; exact ⟨hok, by omega, by omega⟩
  have c2 : crashOk ⟨s.saved, s.log.take k.toNat, s.sure⟩ s.sure = true := by
    simp only [crashOk, Bool.and_eq_true, decide_eq_true_eq]; exact ⟨hok, by omega, by omega⟩
  have c3 : crashOk s s.sure = true := by
    simp only [crashOk, Bool.and_eq_true, decide_eq_true_eq]; exact ⟨h1, by omega, by omega⟩
  rw [e]
  refine ⟨hok, rfl, by simp only; omega, c1, ?_, c2, c3, ?_, rfl⟩
  · unfold storeCrash; rw [if_pos c1, List.take_take, Nat.min_self]
  · unfold storeCrash; rw [if_pos c2, if_pos c3, List.take_take, Nat.min_eq_left (by omega)]
theorem crash_no {s : Store} {k : Int} (h : crashOk s k = false) : storeCrash s k = noStore := if_neg (by simp [h])
theorem crash_iff {s : Store} {k : Int} : crashOk s k = true ↔ storeOk s = true ∧ s.sure ≤ k ∧ k ≤ s.log.length := by
  simp only [crashOk, Bool.and_eq_true, decide_eq_true_eq]
/-- What the lost deeds, done again, have made so far. -/
structure EndInv (s x : Store) (k : Nat) : Prop where
  ok : storeOk x = true
  full : (readJ x.log).2 = x.log.length
  same : opened x = (doAll ⟨placeOf s, []⟩ ((readJ s.log).1.take k)).1
  short : x.log.length ≤ (jr ((readJ s.log).1.take k) deedTx).length
theorem end_start {s : Store} {k : Int} (h : crashOk s k = true) : EndInv s (storeMend (storeCrash s k)) (readJ (storeMend (storeCrash s k)).log).1.length ∧ (readJ (storeMend (storeCrash s k)).log).1.length ≤ (readJ s.log).1.length := by
  obtain ⟨a1, a2, a3, a4, a5, a6, a7, a8, a9⟩ := crash_again h
  obtain ⟨m1, m2, m3, m4, m5⟩ := mend_done a1
  have hp := readJ_prefix s.log k.toNat
  have e1 : (storeCrash s k).log = s.log.take k.toNat := by rw [a9]
  have e2 : placeOf (storeCrash s k) = placeOf s := by rw [a9]; rfl
  have e3 : (readJ (storeMend (storeCrash s k)).log).1 = (readJ (s.log.take k.toNat)).1 := by rw [m2, e1]
  have e4 : (readJ s.log).1.take (readJ (s.log.take k.toNat)).1.length = (readJ (s.log.take k.toNat)).1 := (List.prefix_iff_eq_take.1 hp).symm
  rw [e3]
  refine ⟨⟨m1, by rw [m2], ?_, ?_⟩, hp.length_le⟩
  · rw [m3, e4]
    unfold opened
    rw [e2, e1]
  · rw [e4]
    have := readJ_full (s := (storeMend (storeCrash s k)).log) (by rw [m2])
    rw [e3] at this
    rw [← this]; exact Nat.le_refl _
theorem jr_take_le (l : List Deed) (k : Nat) : (jr (l.take k) deedTx).length ≤ (jr l deedTx).length := by
  conv => rhs; rw [← List.take_append_drop k l, jr_append]
  simp
theorem end_step {s x : Store} {k : Nat} (hs : storeOk s = true) (h : EndInv s x k) (hk : k < (readJ s.log).1.length) : EndInv s (storeAct x (readJ s.log).1[k]) (k + 1) ∧ (actOk x (readJ s.log).1[k] = false → storeAct x (readJ s.log).1[k] = x) := by
  obtain ⟨g1, g2, g3, g4⟩ := storeOk_iff.1 hs
  have hne := readJ_all s.log _ (List.getElem_mem hk)
  have ht : (readJ s.log).1.take (k + 1) = (readJ s.log).1.take k ++ [(readJ s.log).1[k]] := List.take_succ_eq_append_getElem hk
  have hl : (jr ((readJ s.log).1.take (k + 1)) deedTx).length = (jr ((readJ s.log).1.take k) deedTx).length + (deedTx (readJ s.log).1[k]).length + 1 := by
    rw [ht, jr_append, jr_cons]; simp [jr]; omega
  have hle := jr_take_le (readJ s.log).1 (k + 1)
  rw [← readJ_len] at hle
  have hle2 := readJ_le s.log
  have hd := doAll_snoc ⟨placeOf s, []⟩ ((readJ s.log).1.take k) (readJ s.log).1[k]
  rw [← ht, ← h.same] at hd
  generalize (readJ s.log).1[k] = a at *
  cases hc : (deskDo (opened x) a).2
  · have hn : actOk x a = false := by
      cases hq : actOk x a
      · rfl
      · have := (actOk_iff.1 hq).2.2.1; rw [hc] at this; cases this
    rw [storeAct_no hn h.ok]
    rw [if_neg (by simp [hc])] at hd
    exact ⟨⟨h.ok, h.full, hd.symm, by have := h.short; omega⟩, fun _ => rfl⟩
  · have hy : actOk x a = true := actOk_iff.2 ⟨h.ok, h.full, hc, hne, by have := h.short; omega⟩
    obtain ⟨b1, b2, b3, b4, b5, b6⟩ := act_done hy
    rw [if_pos hc] at hd
    exact ⟨⟨b1, by rw [b2], by rw [b3, hd], by have := h.short; omega⟩, fun h => by rw [hy] at h; cases h⟩
theorem end_end {s x : Store} (h : EndInv s x (readJ s.log).1.length) : opened x = opened s := by
  rw [h.same, List.take_length]; rfl
/-- What is sure is never lost. -/
theorem never_facts {s : Store} (hs : storeOk s = true) {k : Int} (h1 : s.sure ≤ k) (h2 : k ≤ s.log.length) :
    crashOk s k = true ∧ (storeCrash s k).log = s.log.take k.toNat ∧ storeOk (storeCrash s k) = true ∧ (readJ (s.log.take k.toNat)).1.length ≤ (readJ s.log).1.length ∧ (readJ (s.log.take s.sure.toNat)).1.length ≤ (readJ (s.log.take k.toNat)).1.length ∧
    (readJ s.log).1.take (readJ (s.log.take k.toNat)).1.length = (readJ (s.log.take k.toNat)).1 ∧ opened (storeCrash s k) = (doAll ⟨placeOf s, []⟩ (readJ (s.log.take k.toNat)).1).1 := by
  have hc := crash_iff.2 ⟨hs, h1, h2⟩
  obtain ⟨a1, a2, a3, a4, a5, a6, a7, a8, a9⟩ := crash_again hc
  have hp := readJ_prefix s.log k.toNat
  have hm := readJ_mono s.log (show s.sure.toNat ≤ k.toNat by omega)
  refine ⟨hc, by rw [a9], a1, hp.length_le, hm.length_le, (List.prefix_iff_eq_take.1 hp).symm, ?_⟩
  rw [a9]; rfl
end TL

/- A deed that may be none. -/
set_option linter.unusedSimpArgs false
set_option linter.unusedVariables false
set_option maxRecDepth 100000
set_option maxHeartbeats 4000000
set_option pp.maxSteps 1500
namespace TL
open Go Go.Proofs
def optD (o : Option Deed) : V := .tup [(o.getD ⟨0, 0, []⟩).v, .bool o.isSome]
end TL

/- Deeds read: the program and the reference, and the exact law. -/
set_option linter.unusedSimpArgs false
set_option linter.unusedVariables false
set_option maxRecDepth 100000
set_option maxHeartbeats 4000000
set_option pp.maxSteps 1500
namespace TL
open Go Go.Proofs
attribute [local simp] marksV storyV codeV Claim.v Place.v Deed.v
/-! The reference. -/
def Isrd (s : List UInt8) (l : List Deed) (e : Nat) (y : S) : Prop := ∃ i id : Nat, y.tm 0 = .v (.str s) ∧ y.tm 2 = .ptr 0 0 ∧ y.m 0 = some (.box 30 3 [.v (.int .i64 0), .v (.int .i64 0), .v (.str [])]) ∧ y.tm 5 = .loc id ∧ 0 < id ∧ id < y.n ∧
  y.m id = some (.arr 30 (l.map Deed.v)) ∧ y.tm 7 = .v (.int .i64 i) ∧ y.mu = false ∧ i ≤ l.length ∧ (∀ a ∈ l.take i, s ≠ [] → deedTx a ≠ s) ∧ (e = 1 → i = l.length)
theorem deedS_two {s x r : List UInt8} (h : cutAt 32 s = [x, r]) : deedS s = [⟨3, 0, []⟩, ⟨4, 0, []⟩, ⟨0, 0, r⟩, ⟨1, digS r, []⟩, ⟨2, digS r, []⟩] := by
  unfold deedS; rw [h]; rfl
theorem deedS_not {s : List UInt8} (h : (cutAt 32 s).length ≠ 2) : deedS s = [⟨3, 0, []⟩, ⟨4, 0, []⟩] := by
  unfold deedS
  generalize cutAt 32 s = ps at h
  match ps, h with
  | [], _ => rfl
  | [_], _ => rfl
  | [_, _], h => exact absurd rfl h
  | _ :: _ :: _ :: _, _ => rfl
end TL

/- Journals are read: the reference. -/
set_option linter.unusedSimpArgs false
set_option linter.unusedVariables false
set_option maxRecDepth 100000
set_option maxHeartbeats 4000000
set_option pp.maxSteps 1500
namespace TL
open Go Go.Proofs
attribute [local simp] marksV storyV codeV Claim.v Place.v Deed.v
theorem deed_cells0 (a : Deed) : a.v.cells = [.int .i64 a.kind, .int .i64 a.num, .str a.words] := rfl
def Irs (s : List UInt8) (e : Nat) (y : S) : Prop := ∃ (l : List Deed) (mid rest : List UInt8) (id : Nat), y.tm 0 = .v (.str s) ∧ y.tm 4 = .loc id ∧ id < y.n ∧ y.m id = some (.arr 30 (l.map Deed.v)) ∧ y.tm 5 = .v (.int .i64 (jr l deedTx).length) ∧ y.tm 6 = .v (.int .i64 ((jr l deedTx).length + mid.length : Nat)) ∧ y.mu = false ∧
  s = jr l deedTx ++ (mid ++ rest) ∧ (∀ a ∈ l, deedTx a ≠ []) ∧ (∀ y ∈ mid, y ≠ 10) ∧ (e = 1 → rest = [])
end TL

/- Deeds, one after the other. -/
set_option linter.unusedSimpArgs false
set_option linter.unusedVariables false
set_option maxRecDepth 100000
set_option maxHeartbeats 4000000
set_option pp.maxSteps 1500
namespace TL
open Go Go.Proofs
attribute [local simp] marksV storyV codeV Claim.v Place.v Deed.v Desk.v
theorem words_short {a : Deed} (h : deedTx a ≠ []) : a.words.length ≤ 1000000000 := by
  rcases deed_cases h with ⟨w, rfl, ⟨d, hd⟩, _⟩ | ⟨n, h0, h9, rfl, _⟩ | ⟨n, h0, h9, rfl, _⟩ | ⟨rfl, _⟩ | ⟨rfl, _⟩
  · have := readC_len hd; simp only; omega
  · simp
  · simp
  · simp
  · simp
theorem copyDesk_v (d : Desk) (hd : d.small) (m : Mem) (n : Nat) : FnS Tryz.prog 20 m n [.v d.v] (Drawn (fun x => x = d.v) m n) := by
  refine Drawn_of ⟨_, Tryz.func20, rfl, rfl⟩ fun hfr => ?_
  refine (copyDesk_own d hd m n).weak ?_
  rintro t m' n' ⟨hn, hout, id, st, rfl, h0, h1, him, hst, hne⟩
  refine ⟨hn, ⟨d.v, ?_, rfl⟩, hout⟩
  have hb := hst.bor (n0 := n) (m' := m') (Nat.le_refl _) (fun i _ _ _ => rfl) 3
  have h0' : n ≤ id := h0
  simp [hb, him, h0']
theorem l15Copy_v (d : Desk) (hd : d.small) (m : Mem) (n : Nat) : FnS Tryz.prog 28 m n [.v d.v] (Drawn (fun x => x = d.v) m n) := by
  refine Drawn_of ⟨_, Tryz.func28, rfl, rfl⟩ fun hfr => ?_
  refine (l15Copy_own d hd m n).weak ?_
  rintro t m' n' ⟨hn, hout, st, rfl, hst⟩
  refine ⟨hn, ⟨d.v, ?_, rfl⟩, hout⟩
  have hb := hst.bor (n0 := n) (m' := m') (Nat.le_refl _) (fun i _ _ _ => rfl) 3
  simp [hb]
theorem doAll_succ {d : Desk} {l : List Deed} {i : Nat} (h : i < l.length) : doAll d (l.take (i + 1)) = doStep (doAll d (l.take i)) l[i] := by
  unfold doAll
  rw [List.take_succ_eq_append_getElem h, List.foldl_append]; rfl
noncomputable def Ida (d : Desk) (l : List Deed) (e : Nat) (s : S) : Prop := ∃ i : Nat, s.tm 2 = .ptr 0 0 ∧ s.tm 4 = .ptr 1 0 ∧ s.tm 6 = .v (.int .i64 (doAll d (l.take i)).2) ∧ s.tm 13 = .v (.sl (l.map Deed.v)) ∧ s.tm 14 = .v (.int .i64 l.length) ∧ s.tm 15 = .v (.int .i64 i) ∧ i ≤ l.length ∧ 2 ≤ s.n ∧
  s.m 0 = some (.box 28 3 [.v (.int .i64 (doAll d (l.take i)).1.now.people), .v (storyV (doAll d (l.take i)).1.now.story), .v (.sl ((doAll d (l.take i)).1.past.map Place.v))]) ∧ s.m 1 = some (.box 28 3 [.v (.int .i64 0), .nil, .nil]) ∧ (e = 1 → i = l.length)
theorem doAll_fn (d : Desk) (l : List Deed) (hk : deskOk d = true) (hl : l.length ≤ 1048576) (hw : ∀ a ∈ l, a.words.length ≤ 1000000000) : FnZ Tryz.prog 38 [d.v, .sl (l.map Deed.v)] (.tup [(doAll d l).1.v, .int .i64 (doAll d l).2]) := by
  have hcv := fun m n => copyDesk_v d (desk_fine hk).1 m n
  refine FnZ_of (rs := [.cell 4 28, .tmp 5]) false Tryz.func38 rfl rfl rfl rfl (Nat.le_of_ble_eq_true rfl) ?_
  simp -dsimp
  refine callL_ (vs := [d.v]) (hcv _ _) (by simp -dsimp) ?_
  rintro t m1 n1 ⟨hn1, ⟨x, rfl, rfl⟩, rfl⟩
  have f0 := far (show 0 < n1 by omega)
  have f1 := far (show 1 < n1 by omega)
  simp -dsimp [f0, f1]
  refine twp_loopC (Ida d l 0) (fun s => l.length - natOf (s.tm 15)) (Ida d l 1) ?_ ?_ ?_
  · exact ⟨0, by simp -dsimp, by simp -dsimp, by simp -dsimp [doAll], by simp -dsimp, by simp -dsimp, by simp -dsimp, by omega, (by simp -dsimp <;> omega), by simp -dsimp [doAll], by simp -dsimp, by simp⟩
  · rintro s ⟨i, t2, t4, t6, t13, t14, t15, hi, hn, m0, m1, hend⟩
    by_cases hlt : i < l.length
    case neg =>
      simp -dsimp [t14, t15, hlt]
      exact ⟨i, by simp -dsimp [t2], by simp -dsimp [t4], by simp -dsimp [t6], by simp -dsimp [t13], by simp -dsimp [t14], by simp -dsimp [t15], hi, by simp -dsimp; omega, by simp -dsimp [m0], by simp -dsimp [m1], fun _ => by omega⟩
    have hget : (l.map Deed.v)[i]? = some (l[i].v) := by simp [hlt]
    have wi : IntKind.wrap .i64 ((i : Int) + 1) = ((i + 1 : Nat) : Int) := by rw [w64 (by omega) (by omega)]; omega
    have hmu1 : l.length - (i + 1) < l.length - i := by omega
    have f0 := far (show 0 < s.n by omega)
    have f1 := far (show 1 < s.n by omega)
    have hD := doAll_ok (l.take i) d hk
    have hcall := deskDo_fn (doAll d (l.take i)).1 l[i] (desk_fine hD).1 (hw _ (List.getElem_mem _))
    have hs := doAll_succ (d := d) hlt
    have hcnt := doAll_len (l.take i) d
    have hcl : (l.take i).length ≤ i := by simp; omega
    have wc : IntKind.wrap .i64 (((doAll d (l.take i)).2 : Int) + 1) = (((doAll d (l.take i)).2 + 1 : Nat) : Int) := by rw [w64 (by omega) (by omega)]; omega
    have hyes : (deskDo (doAll d (l.take i)).1 l[i]).2 = true → doAll d (l.take (i + 1)) = ((deskDo (doAll d (l.take i)).1 l[i]).1, (doAll d (l.take i)).2 + 1) := fun h => by rw [hs]; exact if_pos h
    have hno : (deskDo (doAll d (l.take i)).1 l[i]).2 = false → doAll d (l.take (i + 1)) = doAll d (l.take i) := fun h => by rw [hs]; exact if_neg (by simp [h])
    clear hs hD hcnt hcl
    generalize deskDo (doAll d (l.take i)).1 l[i] = E at *
    generalize doAll d (l.take i) = R at *
    obtain ⟨⟨⟨E1, E2⟩, E3⟩, E4⟩ := E
    obtain ⟨⟨⟨D1, D2⟩, D3⟩, c⟩ := R
    generalize hx : l[i] = a at *
    obtain ⟨a1, a2, a3⟩ := a
    simp only at t6 m0 hcall wc hyes hno
    simp -dsimp [t2, t13, t14, t15, hlt, hget, m0, f0, f1, nes, hx]
    refine call_ hcall (by simp -dsimp) ?_
    cases E4 with
    | false =>
      have hR := hno rfl
      simp -dsimp [t2, t6, t15, m0, f0, f1, nes, wi, hmu1]
      exact ⟨i + 1, by simp -dsimp [t2], by simp -dsimp [t4], by simp -dsimp [t6, hR], by simp -dsimp [t13], by simp -dsimp [t14], by simp -dsimp, by omega, (by simp -dsimp <;> omega), by simp -dsimp [m0, f0, f1, hR], by simp -dsimp [m1, f0, f1], by simp⟩
    | true =>
      have hR := hyes rfl
      simp -dsimp [t2, t6, t15, m0, f0, f1, nes, wi, hmu1, wc]
      exact ⟨i + 1, by simp -dsimp [t2], by simp -dsimp [t4], by simp -dsimp [hR], by simp -dsimp [t13], by simp -dsimp [t14], by simp -dsimp, by omega, (by simp -dsimp <;> omega), by simp -dsimp [f0, f1, hR], by simp -dsimp [m1, f0, f1], by simp⟩
  · rintro s ⟨i, t2, t4, t6, t13, t14, t15, hi, hn, m0, m1, hend⟩
    have := hend rfl
    subst this
    rw [List.take_length] at m0 t6
    generalize doAll d l = R at *
    obtain ⟨⟨⟨D1, D2⟩, D3⟩, c⟩ := R
    simp -dsimp [t2, t4, t6, m0, m1]
noncomputable def Ir15 (d : Desk) (l : List Deed) (q : Nat) (e : Nat) (s : S) : Prop := ∃ i : Nat, s.tm 1 = .v (.sl (l.map Deed.v)) ∧ s.tm 4 = .ptr 1 0 ∧ s.tm 6 = .ptr q 0 ∧ s.tm 7 = .v (.int .i64 (doAll d (l.take i)).2) ∧ s.tm 8 = .v (.int .i64 i) ∧ i ≤ l.length ∧ q < s.n ∧
  s.m q = some (.box 28 3 [.v (.int .i64 (doAll d (l.take i)).1.now.people), .v (storyV (doAll d (l.take i)).1.now.story), .v (.sl ((doAll d (l.take i)).1.past.map Place.v))]) ∧ s.m 1 = some (.box 28 3 [.v (.int .i64 0), .nil, .nil]) ∧ (e = 1 → i = l.length)
theorem doAllS_fn (d : Desk) (l : List Deed) (hk : deskOk d = true) (hl : l.length ≤ 1048576) (hw : ∀ a ∈ l, a.words.length ≤ 1000000000) : FnZ Tryz.prog 39 [d.v, .sl (l.map Deed.v)] (.tup [(doAll d l).1.v, .int .i64 (doAll d l).2]) := by
  have hcv := fun m n => l15Copy_v d (desk_fine hk).1 m n
  refine FnZ_of (rs := [.cell 4 28, .tmp 5]) false Tryz.func39 rfl rfl rfl rfl (Nat.le_of_ble_eq_true rfl) ?_
  simp -dsimp
  refine callL_ (vs := [d.v]) (hcv _ _) (by simp -dsimp) ?_
  rintro t m1 q ⟨hn1, ⟨x, rfl, rfl⟩, rfl⟩
  have q1 : ¬ q = 1 := by omega
  have f0 := far (show 0 < q by omega)
  have f1 := far (show 1 < q by omega)
  simp -dsimp [f0, f1]
  refine twp_loopC (Ir15 d l q 0) (fun s => l.length - natOf (s.tm 8)) (Ir15 d l q 1) ?_ ?_ ?_
  · exact ⟨0, by simp -dsimp, by simp -dsimp, by simp -dsimp, by simp -dsimp [doAll], by simp -dsimp, by omega, (by simp -dsimp <;> omega), by simp -dsimp [doAll], by simp -dsimp [f1], by simp⟩
  · rintro s ⟨i, t1, t4, t6, t7, t8, hi, hn, m0, m1, hend⟩
    by_cases hlt : i < l.length
    case neg =>
      simp -dsimp [t1, t8, hlt]
      exact ⟨i, by simp -dsimp [t1], by simp -dsimp [t4], by simp -dsimp [t6], by simp -dsimp [t7], by simp -dsimp [t8], hi, by simp -dsimp; omega, by simp -dsimp [m0], by simp -dsimp [m1], fun _ => by omega⟩
    have hget : (l.map Deed.v)[i]? = some (l[i].v) := by simp [hlt]
    have wi : IntKind.wrap .i64 ((i : Int) + 1) = ((i + 1 : Nat) : Int) := by rw [w64 (by omega) (by omega)]; omega
    have hmu1 : l.length - (i + 1) < l.length - i := by omega
    have f0 := far (show q < s.n by omega)
    have f1 := far (show 1 < s.n by omega)
    have hD := doAll_ok (l.take i) d hk
    have hcall := deskDoS_fn (doAll d (l.take i)).1 l[i] (desk_fine hD).1 (desk_fine hD).2.1 (hw _ (List.getElem_mem _))
    have hs := doAll_succ (d := d) hlt
    have hcnt := doAll_len (l.take i) d
    have hcl : (l.take i).length ≤ i := by simp; omega
    have wc : IntKind.wrap .i64 (((doAll d (l.take i)).2 : Int) + 1) = (((doAll d (l.take i)).2 + 1 : Nat) : Int) := by rw [w64 (by omega) (by omega)]; omega
    have hyes : (deskDo (doAll d (l.take i)).1 l[i]).2 = true → doAll d (l.take (i + 1)) = ((deskDo (doAll d (l.take i)).1 l[i]).1, (doAll d (l.take i)).2 + 1) := fun h => by rw [hs]; exact if_pos h
    have hno : (deskDo (doAll d (l.take i)).1 l[i]).2 = false → doAll d (l.take (i + 1)) = doAll d (l.take i) := fun h => by rw [hs]; exact if_neg (by simp [h])
    clear hs hD hcnt hcl
    generalize deskDo (doAll d (l.take i)).1 l[i] = E at *
    generalize doAll d (l.take i) = R at *
    obtain ⟨⟨⟨E1, E2⟩, E3⟩, E4⟩ := E
    obtain ⟨⟨⟨D1, D2⟩, D3⟩, c⟩ := R
    generalize hx : l[i] = a at *
    obtain ⟨a1, a2, a3⟩ := a
    simp only at t7 m0 hcall wc hyes hno
    simp -dsimp [t1, t8, hlt]
    refine twp_drawT (.run [0, 1, 2, 3, 4] (.alt (.run [5, 6, 7, 8, 9, 10, 11] .done) (.run [9, 5, 6, 7, 8, 10, 11] .done))) [q] (List.replicate 12 [0]) (List.replicate 12 [0]) (by kernel_rfl) (by kernel_rfl) (by kernel_rfl) (by kernel_rfl) ?_
    simp -dsimp [t1, t6, t8, hlt, hget, m0, f0, f1, nes, hx]
    refine ordT_both ?_ ?_
    · simp -dsimp [t1, t6, t8, hlt, hget, m0, f0, f1, nes, hx]
      refine call_ hcall (by simp -dsimp) ?_
      cases E4 with
      | false =>
        have hR := hno rfl
        simp -dsimp [t1, t6, t7, t8, m0, f0, f1, nes, wi, hmu1]
        exact ⟨i + 1, by simp -dsimp [t1], by simp -dsimp [t4], by simp -dsimp [t6], by simp -dsimp [t7, hR], by simp -dsimp, by omega, (by simp -dsimp <;> omega), by simp -dsimp [m0, f0, f1, hR], by simp -dsimp [m1, f0, f1], by simp⟩
      | true =>
        have hR := hyes rfl
        have q1' : ¬ 1 = q := by omega
        simp -dsimp [t1, t6, t7, t8, m0, f0, f1, nes, wi, hmu1, wc]
        exact ⟨i + 1, by simp -dsimp [t1], by simp -dsimp [t4], by simp -dsimp [t6], by simp -dsimp [hR], by simp -dsimp, by omega, (by simp -dsimp <;> omega), by simp -dsimp [f0, f1, hR], by simp -dsimp [m1, f0, f1, q1, q1'], by simp⟩
    · simp -dsimp [t1, t6, t8, hlt, hget, m0, f0, f1, nes, hx]
      refine call_ hcall (by simp -dsimp) ?_
      cases E4 with
      | false =>
        have hR := hno rfl
        simp -dsimp [t1, t6, t7, t8, m0, f0, f1, nes, wi, hmu1]
        exact ⟨i + 1, by simp -dsimp [t1], by simp -dsimp [t4], by simp -dsimp [t6], by simp -dsimp [t7, hR], by simp -dsimp, by omega, (by simp -dsimp <;> omega), by simp -dsimp [m0, f0, f1, hR], by simp -dsimp [m1, f0, f1], by simp⟩
      | true =>
        have hR := hyes rfl
        have q1' : ¬ 1 = q := by omega
        simp -dsimp [t1, t6, t7, t8, m0, f0, f1, nes, wi, hmu1, wc]
        exact ⟨i + 1, by simp -dsimp [t1], by simp -dsimp [t4], by simp -dsimp [t6], by simp -dsimp [hR], by simp -dsimp, by omega, (by simp -dsimp <;> omega), by simp -dsimp [f0, f1, hR], by simp -dsimp [m1, f0, f1, q1, q1'], by simp⟩
  · rintro s ⟨i, t1, t4, t6, t7, t8, hi, hn, m0, m1, hend⟩
    have := hend rfl
    subst this
    rw [List.take_length] at m0 t7
    generalize doAll d l = R at *
    obtain ⟨⟨⟨D1, D2⟩, D3⟩, c⟩ := R
    simp -dsimp [t4, t6, t7, m0, m1, q1]
end TL

/- Runs of deeds at a desk. -/
set_option linter.unusedSimpArgs false
set_option linter.unusedVariables false
set_option maxRecDepth 100000
set_option maxHeartbeats 4000000
set_option pp.maxSteps 1500
namespace TL
open Go Go.Proofs
attribute [local simp] marksV storyV codeV Claim.v Place.v Deed.v Desk.v
noncomputable def deskRun (d : Desk) (l : List Deed) : Desk × Nat := if deskOk d = true ∧ l.length ≤ 40 then doAll d l else (noDeskV, 0)
theorem deskRun_fn (d : Desk) (l : List Deed) (hd : d.small) (hw : ∀ a ∈ l, a.words.length ≤ 1000000000) : FnZ Tryz.prog 13 [d.v, .sl (l.map Deed.v)] (.tup [(deskRun d l).1.v, .int .i64 (deskRun d l).2]) := by
  have hok := deskOk_fn d (by have := hd.2.1; omega) (by have := hd.1.1; omega) (fun p hp => by have := (hd.2.2 p hp).1; omega)
  have hk := ft (deskOk d)
  rcases hk with hk | hk
  · have e : deskRun d l = (noDeskV, 0) := if_neg (by simp [hk])
    rw [e]
    rw [hk] at hok
    refine FnZ_of (rs := [.cell 4 28, .tmp 5]) false Tryz.func13 rfl rfl rfl rfl (Nat.le_of_ble_eq_true rfl) ?_
    simp -dsimp
    refine call_ hok (by simp -dsimp) ?_
    simp -dsimp [noDeskV]
  rw [hk] at hok
  by_cases hl : l.length ≤ 40
  case neg =>
    have e : deskRun d l = (noDeskV, 0) := if_neg (by simp [hl])
    have hl' : (40 : Int) < l.length := by omega
    have hl'' : 40 < l.length := by omega
    rw [e]
    refine FnZ_of (rs := [.cell 4 28, .tmp 5]) false Tryz.func13 rfl rfl rfl rfl (Nat.le_of_ble_eq_true rfl) ?_
    simp -dsimp
    refine call_ hok (by simp -dsimp) ?_
    simp -dsimp [noDeskV, hl', hl'']
  have e : deskRun d l = doAll d l := if_pos ⟨hk, hl⟩
  have hl' : ¬ (40 : Int) < l.length := by omega
  have hl'' : ¬ 40 < l.length := by omega
  have h := doAll_fn d l hk (by omega) hw
  rw [e]
  generalize doAll d l = R at *
  obtain ⟨⟨⟨D1, D2⟩, D3⟩, c⟩ := R
  refine FnZ_of (rs := [.cell 4 28, .tmp 5]) false Tryz.func13 rfl rfl rfl rfl (Nat.le_of_ble_eq_true rfl) ?_
  simp -dsimp
  refine call_ hok (by simp -dsimp) ?_
  simp -dsimp [hl', hl'', nes]
  refine call_ h (by simp -dsimp) ?_
  simp -dsimp [nes]
theorem deskRunS_fn (d : Desk) (l : List Deed) (hd : d.small) (hf : d.fit) (hw : ∀ a ∈ l, a.words.length ≤ 1000000000) : FnZ Tryz.prog 14 [d.v, .sl (l.map Deed.v)] (.tup [(deskRun d l).1.v, .int .i64 (deskRun d l).2]) := by
  have hok := deskOkS_fn d hd hf
  have hk := ft (deskOk d)
  rcases hk with hk | hk
  · have e : deskRun d l = (noDeskV, 0) := if_neg (by simp [hk])
    rw [e]
    rw [hk] at hok
    refine FnZ_of (rs := [.cell 4 28, .tmp 5]) false Tryz.func14 rfl rfl rfl rfl (Nat.le_of_ble_eq_true rfl) ?_
    simp -dsimp
    refine call_ hok (by simp -dsimp) ?_
    simp -dsimp [noDeskV]
  rw [hk] at hok
  by_cases hl : l.length ≤ 40
  case neg =>
    have e : deskRun d l = (noDeskV, 0) := if_neg (by simp [hl])
    have hl' : (40 : Int) < l.length := by omega
    have hl'' : 40 < l.length := by omega
    rw [e]
    refine FnZ_of (rs := [.cell 4 28, .tmp 5]) false Tryz.func14 rfl rfl rfl rfl (Nat.le_of_ble_eq_true rfl) ?_
    simp -dsimp
    refine call_ hok (by simp -dsimp) ?_
    simp -dsimp [noDeskV, hl', hl'']
  have e : deskRun d l = doAll d l := if_pos ⟨hk, hl⟩
  have hl' : ¬ (40 : Int) < l.length := by omega
  have hl'' : ¬ 40 < l.length := by omega
  have h := doAllS_fn d l hk (by omega) hw
  rw [e]
  generalize doAll d l = R at *
  obtain ⟨⟨⟨D1, D2⟩, D3⟩, c⟩ := R
  refine FnZ_of (rs := [.cell 4 28, .tmp 5]) false Tryz.func14 rfl rfl rfl rfl (Nat.le_of_ble_eq_true rfl) ?_
  simp -dsimp
  refine call_ hok (by simp -dsimp) ?_
  simp -dsimp [hl', hl'', nes]
  refine call_ h (by simp -dsimp) ?_
  simp -dsimp [nes]
end TL

/- Drawn desks with deeds. -/
set_option linter.unusedSimpArgs false
set_option linter.unusedVariables false
set_option maxRecDepth 100000
set_option maxHeartbeats 4000000
set_option pp.maxSteps 1500
namespace TL
open Go Go.Proofs
attribute [local simp] marksV storyV codeV Claim.v Place.v Deed.v Desk.v
def SomeDeeds0m (x : V) : Prop := ∃ l : List Deed, l.length ≤ 10 ∧ (∀ a ∈ l, a.words.length ≤ 200) ∧ x = .sl (l.map Deed.v)
def DLIm (m0 : Mem) (n0 rid : Nat) (bs : List UInt8) (p : Nat) (q : Place) (e : Nat) (s : S) : Prop := ∃ (c id p' : Nat) (l : List Deed), s.tm 0 = .ptr rid 0 ∧ s.tm 3 = .ptr n0 0 ∧ s.m n0 = some (.box 25 2 [.v (.int .i64 q.people), .v (storyV q.story)]) ∧
  s.tm 5 = .loc id ∧ s.tm 6 = .v (.int .i64 c) ∧ s.mu = false ∧ n0 < id ∧ id < s.n ∧ s.m id = some (.arr 30 (l.map Deed.v)) ∧ l.length + c ≤ 5 ∧ p ≤ p' ∧ p' + 100 * c ≤ p + 600 ∧ (∀ a ∈ l, a.words.length ≤ 200) ∧ s.m rid = some (rdB bs p') ∧ (∀ j, j < n0 → j ≠ rid → s.m j = m0 j) ∧ (e = 1 → c = 0)
theorem deeds_zX (bs : List UInt8) (p : Nat) (hp : p < 500000000) (q : Place) (hq : q.story.length ≤ 1000) (X : T) (hX : X.cells = [.v (.int .i64 q.people), .v (storyV q.story)]) (m : Mem) (n rid : Nat) (hr : rid < n) (hm : m rid = some (rdB bs p)) :
    FnS Tryz.prog 37 m n [.ptr rid 0, X] (Draws SomeDeeds0m 700 m n rid bs p) := by
  refine Draws_of hr ⟨_, Tryz.func37, rfl, rfl⟩ fun hfr => ?_
  refine FnS_of (rs := [.tmp 4]) false Tryz.func37 rfl rfl rfl rfl (Nat.le_of_ble_eq_true rfl) ?_
  have f1 := far hr
  simp -dsimp [hX]
  refine callS_ (pick_at bs p (by omega) _ _ _ rid (by simp [hm, f1])) ?_
  rintro t m1 n1 ⟨hn1, ⟨r, rfl, hr0, hr1⟩, rfl⟩
  have hr1 := hr1 (by decide)
  obtain ⟨r, rfl⟩ := Int.eq_ofNat_of_zero_le hr0
  have f2 := far (show rid < n1 by omega)
  have f3 := far (show n < n1 by omega)
  simp -dsimp
  refine twp_loopC (DLIm m n rid bs p q 0) (fun s => natOf (s.tm 6)) (DLIm m n rid bs p q 1) ?_ ?_ ?_
  · refine ⟨r, n + 1, p + 1, [], by simp -dsimp, by simp -dsimp, by simp -dsimp [f1], by simp -dsimp, by simp -dsimp, by simp -dsimp, by omega, by simp -dsimp <;> omega, by simp -dsimp [f1], by simp; omega, by omega, by omega, by simp, by simp -dsimp [f1], fun j j1 j2 => ?_, by simp⟩
    simp -dsimp [far j1, j2]
  · rintro s ⟨c, id, p', l, t0, t3, m0, t5, t6, hmu, hid0, hid, mid, hlc, hp0, hp1, hw, mrd, hout, hend⟩
    by_cases hc : 0 < c
    case neg =>
      have hc0 : c = 0 := by omega
      simp -dsimp [t6, hc, hc0]
      exact ⟨c, id, p', l, by simp -dsimp [t0], by simp -dsimp [t3], by simp -dsimp [m0], by simp -dsimp [t5], by simp -dsimp [t6], by simp -dsimp [hmu], hid0, by simp -dsimp [hid], by simp -dsimp [mid], hlc, hp0, hp1, hw, by simp -dsimp [mrd], fun j j1 j2 => by simp -dsimp [hout j j1 j2], fun _ => hc0⟩
    have d0 : ¬ rid = id := by omega
    have d1 : ¬ id = rid := by omega
    have d2 : ¬ n = id := by omega
    have d3 : ¬ n = rid := by omega
    have d4 : ¬ id = n := by omega
    have h1 := far hid
    have h2 := far (show rid < s.n by omega)
    have h3 := far (show n < s.n by omega)
    have wc : IntKind.wrap .i64 ((c : Int) - 1) = ((c - 1 : Nat) : Int) := by rw [w64 (by omega) (by omega)]; omega
    have hmu1 : c - 1 < c := by omega
    have b1 : (l.length + 1) * 32 ≤ 140737488355328 := by omega
    simp -dsimp [t0, t3, t5, t6, m0, hc]
    refine callS_ (deed_zA bs p' (by omega) q hq _ _ rid (by omega) (by simp [mrd])) ?_
    rintro t m2 n2 ⟨hn2, ⟨x, ⟨a, ha, rfl⟩, rfl⟩, p3, hp3, hp4, rfl⟩
    have h4 := far (show id < n2 by omega)
    have h5 := far (show rid < n2 by omega)
    have h6 := far (show n < n2 by omega)
    simp -dsimp [t0, t3, t5, t6, hmu, mid, d0, d1, d2, d3, d4, h4, h5, h6, b1, wc, hmu1, nes]
    refine st_out fun s' ht hm' hn' hu' => ?_
    have a0 := ht 0
    have a3 := ht 3
    have a5 := ht 5
    have a6 := ht 6
    simp -dsimp [t0, t3, wc] at a0 a3 a5 a6 hm' hn' hu'
    clear ht
    refine ⟨c - 1, _, p3, l ++ [a], a0, a3, by simp [hm', d2, d3, h6, m0], a5, a6, by rw [hu', hmu], by omega, by omega, ?_, by simp; omega, by omega, by omega, fun b hb => ?_, by simp [hm', d0, h5], fun j j1 j2 => ?_, by simp⟩
    · simp [hm', nes]
    · rcases List.mem_append.1 hb with hb | hb
      · exact hw b hb
      · rw [List.mem_singleton.1 hb]; exact ha
    · simp [hm', show ¬ j = id by omega, far (show j < n2 by omega), j2, hout j j1 j2]
  · rintro s ⟨c, id, p', l, t0, t3, m0, t5, t6, hmu, hid0, hid, mid, hlc, hp0, hp1, hw, mrd, hout, hend⟩
    simp -dsimp [t5]
    refine ⟨by omega, ⟨_, by simp -dsimp [mid, show n ≤ id by omega], l, by omega, hw, rfl⟩, hout, p', by omega, by omega, mrd⟩
def SomeDeskDeeds (x : V) : Prop := ∃ (d : Desk) (l : List Deed), d.small ∧ d.fit ∧ l.length ≤ 41 ∧ (∀ a ∈ l, a.words.length ≤ 200) ∧ x = .tup [d.v, .sl (l.map Deed.v)]
def noDeeds : List Deed := List.replicate 41 ⟨0, 0, []⟩
theorem noDeeds_bor {mm : Mem} {id : Nat} (h : mm id = some (.box 30 3 ((List.replicate 41 [T.v (.int .i64 0), .v (.int .i64 0), .v (.str [])]).flatten))) : bor true mm 3 (.sv id 0 41) = some (.sl (noDeeds.map Deed.v)) := by
  show (match mm id with | some (.box _ z cs) => tst (0 + 41 * z ≤ cs.length) (obind (mapO (TL.bor true mm 2) ((cs.drop 0).take (41 * z))) fun xs => tst (∀ x ∈ xs, x.cell = true) (some (V.sl (chunk z 41 xs)))) | _ => none) = _
  rw [h]
  rfl
theorem desk_deeds_bor {mm : Mem} {d : Desk} {id : Nat} (h : mm id = some (.box 30 3 ((List.replicate 41 [T.v (.int .i64 0), .v (.int .i64 0), .v (.str [])]).flatten))) :
    bor true mm 4 (.tup [.agg [.v (.int .i64 d.now.people), .v (.sl (d.now.story.map Claim.v)), .v (.sl (d.past.map Place.v))], .sv id 0 41]) = some (.tup [d.v, .sl (noDeeds.map Deed.v)]) := by
  have hb := noDeeds_bor h
  simp [hb]
theorem drawDeskRun_z (bs : List UInt8) (m : Mem) (n : Nat) : FnS Tryz.prog 12 m n [.v (codeV bs)] (Drawn SomeDeskDeeds m n) := by
  refine Drawn_of ⟨_, Tryz.func12, rfl, rfl⟩ fun hfr => ?_
  refine FnS_of (rs := [.cell 2 28, .tmp 3]) true Tryz.func12 rfl rfl rfl rfl (Nat.le_of_ble_eq_true rfl) ?_
  simp -dsimp
  refine callS_ (open_at bs _ _) ?_
  rintro t m1 n1 ⟨rfl, rfl, rfl⟩
  simp -dsimp
  refine callS_ (desk_z (bs.take 2000) 0 (by omega) 12 (by omega) (by omega) _ _ _ (by omega) (by simp)) ?_
  rintro t m2 n2 ⟨hn2, ⟨x, ⟨d, s1, s2, s3, rfl⟩, rfl⟩, p2, hp1, hp2, rfl⟩
  have f0 := far (show n < n2 by omega)
  have f1 := far (show n + 1 < n2 by omega)
  simp -dsimp [f0, f1, nes]
  refine callS_ (odd_at (bs.take 2000) p2 (by omega) 30 (by omega) _ _ (n + 1) (by simp [f0, f1, nes])) ?_
  rintro t m3 n3 ⟨hn3, ⟨b, rfl, _⟩, p3, hp3, hp4, rfl⟩
  have g0 := far (show n < n3 by omega)
  have g1 := far (show n + 1 < n3 by omega)
  have g2 := far (show n2 < n3 by omega)
  have z0 : ¬ n2 = n + 1 := by omega
  have z1 : ¬ n2 = n := by omega
  cases b with
  | true =>
    simp -dsimp [f0, f1, g0, g1, g2, z0, z1, nes]
    refine twp_drawT (.run [0] (.alt (.run [1, 2, 3] .done) (.run [2, 1, 3] .done))) [n2] (List.replicate 4 [0]) (List.replicate 4 [0]) (by kernel_rfl) (by kernel_rfl) (by kernel_rfl) (by kernel_rfl) ?_
    simp -dsimp [f0, f1, g0, g1, g2, z0, z1, nes]
    refine ordT_both ?_ ?_
    · simp -dsimp [f0, f1, g0, g1, g2, z0, z1, nes]
      refine ⟨by omega, ⟨.tup [d.v, .sl (noDeeds.map Deed.v)], ?_, d, noDeeds, s1, s2, by simp [noDeeds], fun a ha => ?_, rfl⟩, fun j j1 => ?_⟩
      · refine desk_deeds_bor (d := d) (id := n3) ?_
        simp [show n ≤ n3 by omega, nes, show ¬ n3 = n by omega]
      · rw [List.eq_of_mem_replicate ha]; simp
      · simp [far j1, show ¬ j = n by omega, show ¬ j = n + 1 by omega, show ¬ j = n2 by omega, far (show j < n3 by omega)]
    · simp -dsimp [f0, f1, g0, g1, g2, z0, z1, nes]
      refine ⟨by omega, ⟨.tup [d.v, .sl (noDeeds.map Deed.v)], ?_, d, noDeeds, s1, s2, by simp [noDeeds], fun a ha => ?_, rfl⟩, fun j j1 => ?_⟩
      · refine desk_deeds_bor (d := d) (id := n3 + 1) ?_
        simp [show n ≤ n3 + 1 by omega, nes, show ¬ n3 + 1 = n by omega]
      · rw [List.eq_of_mem_replicate ha]; simp
      · simp [far j1, show ¬ j = n by omega, show ¬ j = n + 1 by omega, show ¬ j = n2 by omega, far (show j < n3 by omega)]
  | false =>
    simp -dsimp [f0, f1, g0, g1, g2, z0, z1, nes]
    refine twp_draw [0, 1, 2, 3, 4, 5, 6] [n2] (List.replicate 7 [0]) (List.replicate 7 [0]) (by kernel_rfl) (by kernel_rfl) (by kernel_rfl) (by kernel_rfl) ?_
    simp -dsimp [f0, f1, g0, g1, g2, z0, z1, nes]
    refine callS_ (deeds_zX (bs.take 2000) p3 (by omega) d.now s3 _ (by rfl) _ _ (n + 1) (by omega) (by simp [f0, f1, g0, g1, nes])) ?_
    rintro t m4 n4 ⟨hn4, ⟨x, ⟨l, l1, l2, rfl⟩, rfl⟩, p4, hp5, hp6, rfl⟩
    have k0 := far (show n < n4 by omega)
    have k1 := far (show n + 1 < n4 by omega)
    have k2 := far (show n2 < n4 by omega)
    simp -dsimp [f0, f1, g0, g1, g2, k0, k1, k2, z0, z1, nes]
    refine ⟨by omega, ⟨_, by simp <;> rfl, d, l, s1, s2, by omega, l2, rfl⟩, fun j j1 => ?_⟩
    simp [far j1, show ¬ j = n by omega, show ¬ j = n + 1 by omega, show ¬ j = n2 by omega]
end TL

/- Whatever is done, it is a place: the law of DeskRun. -/
set_option linter.unusedSimpArgs false
set_option linter.unusedVariables false
set_option maxRecDepth 100000
set_option maxHeartbeats 4000000
set_option pp.maxSteps 1500
namespace TL
open Go Go.Proofs
attribute [local simp] marksV storyV codeV Claim.v Place.v Desk.v Deed.v
theorem run_small {d : Desk} {l : List Deed} : (deskRun d l).1.small := by
  unfold deskRun; split
  · rename_i h; exact (desk_fine (doAll_ok l d h.1)).1
  · exact ⟨⟨by simp [noDeskV], by simp [noDeskV]⟩, by simp [noDeskV], by simp [noDeskV]⟩
theorem run_halves {d : Desk} {l : List Deed} (hk : deskOk d = true) (hl : l.length ≤ 40) (k : Nat) : (deskRun (deskRun d (l.take k)).1 (l.drop k)).1 = (deskRun d l).1 ∧ (deskRun d (l.take k)).2 + (deskRun (deskRun d (l.take k)).1 (l.drop k)).2 = (deskRun d l).2 ∧ deskOk (deskRun d l).1 = true := by
  have e1 : deskRun d l = doAll d l := if_pos ⟨hk, hl⟩
  have e2 : deskRun d (l.take k) = doAll d (l.take k) := if_pos ⟨hk, by simp; omega⟩
  have e3 : deskRun (doAll d (l.take k)).1 (l.drop k) = doAll (doAll d (l.take k)).1 (l.drop k) := if_pos ⟨doAll_ok _ _ hk, by simp; omega⟩
  rw [e1, e2, e3]
  have := doAll_append d (l.take k) (l.drop k)
  rw [List.take_append_drop] at this
  rw [this]
  refine ⟨rfl, rfl, ?_⟩
  exact doAll_ok _ _ (doAll_ok _ _ hk)
theorem lawDeskRun (bs : List UInt8) : FnZ Tryz.prog 4 [codeV bs] (.bool true) := by
  refine FnZ_of (rs := [.tmp 2]) false Tryz.func4 rfl rfl rfl rfl (Nat.le_of_ble_eq_true rfl) ?_
  by_cases h : (1048576 : Int) < bs.length
  · simp -dsimp [nes, nes8, nes9, h]
  simp -dsimp [nes, nes8, nes9, h]
  refine callS_ (drawDeskRun_z bs _ _) ?_
  rintro t m1 n1 ⟨hn1, ⟨x, ⟨d, l, hd, hf, hl, hw, rfl⟩, rfl⟩, rfl⟩
  have hw' : ∀ a ∈ l, a.words.length ≤ 1000000000 := fun a ha => by have := hw a ha; omega
  have h1 := deskRun_fn d l hd hw'
  have h2 := deskRunS_fn d l hd hf hw'
  have h3 := deskOkS_fn d hd hf
  have h4 := sameDesk_fn (deskRun d l).1 (deskRun d l).1 run_small
  have hlen : (deskRun d l).2 ≤ l.length := by
    unfold deskRun; split
    · exact doAll_len l d
    · exact Nat.zero_le _
  by_cases hg : deskOk d = true ∧ l.length ≤ 40
  case neg =>
    have e : deskRun d l = (noDeskV, 0) := if_neg hg
    have h5 := noDesk_fn noDeskV ⟨⟨by simp [noDeskV], by simp [noDeskV]⟩, by simp [noDeskV], by simp [noDeskV]⟩
    rw [e] at h1 h2 h4
    have hg' : deskOk d = false ∨ (deskOk d = true ∧ (40 : Int) < l.length) := by
      cases ho : deskOk d
      · exact .inl rfl
      · exact .inr ⟨rfl, by have : ¬ l.length ≤ 40 := fun h => hg ⟨ho, h⟩; omega⟩
    clear e hg hlen hd hf
    generalize deskOk d = o at *
    obtain ⟨⟨d1, d2⟩, d3⟩ := d
    simp -dsimp [nes, nes8, nes9]
    refine call_ h1 (by simp -dsimp) ?_
    simp -dsimp [nes, nes8, nes9]
    refine call_ h2 (by simp -dsimp) ?_
    simp -dsimp [nes, nes8, nes9]
    refine call_ h4 (by simp -dsimp) ?_
    simp -dsimp [nes, nes8, nes9]
    refine call_ h3 (by simp -dsimp) ?_
    rcases hg' with rfl | ⟨rfl, h40⟩
    · simp -dsimp [nes, nes8, nes9]
      refine call_ h5 (by simp -dsimp) ?_
      simp -dsimp [nes, nes8, nes9]
      refine call_ alive_fn (by simp -dsimp) ?_
      simp -dsimp [nes, nes8, nes9]
    · have h40' : 40 < l.length := by omega
      simp -dsimp [nes, nes8, nes9, h40, h40']
      refine call_ h5 (by simp -dsimp) ?_
      simp -dsimp [nes, nes8, nes9]
      refine call_ alive_fn (by simp -dsimp) ?_
      simp -dsimp [nes, nes8, nes9]
  obtain ⟨hk, h40⟩ := hg
  obtain ⟨r1, r2, r3⟩ := run_halves hk h40 (l.length / 2)
  have hq : IntKind.wrap .i64 ((l.length : Int) / 2) = (l.length : Int) / 2 := w64 (by omega) (by omega)
  have wq : ((l.length : Int) / 2).toNat = l.length / 2 := by omega
  have tkl : (l.map Deed.v).take l.length = l.map Deed.v := List.take_of_length_le (by simp)
  have lh1 : (0 : Int) ≤ (l.length : Int) / 2 := by omega
  have lh2 : (l.length : Int) / 2 ≤ l.length := by omega
  have f1 := deskRun_fn d (l.take (l.length / 2)) hd (fun a ha => hw' a (List.mem_of_mem_take ha))
  have f2 := deskRun_fn (deskRun d (l.take (l.length / 2))).1 (l.drop (l.length / 2)) run_small (fun a ha => hw' a (List.mem_of_mem_drop ha))
  have f3 := deskOk_fn (deskRun d l).1 (by have := (run_small (d := d) (l := l)).2.1; omega) (by have := (run_small (d := d) (l := l)).1.1; omega) (fun p hp => by have := ((run_small (d := d) (l := l)).2.2 p hp).1; omega)
  have lh : l.length / 2 ≤ l.length := by omega
  rw [r1] at f2
  rw [r3] at f3
  rw [hk] at h3
  have wp : IntKind.wrap .i64 (((deskRun d (l.take (l.length / 2))).2 : Int) + ((deskRun (deskRun d (l.take (l.length / 2))).1 (l.drop (l.length / 2))).2 : Int)) = ((deskRun d l).2 : Int) := by rw [w64 (by omega) (by omega)]; omega
  have h40' : ¬ (40 : Int) < l.length := by omega
  have h40'' : ¬ 40 < l.length := by omega
  rw [List.map_take] at f1
  rw [List.map_drop] at f2
  clear r1 r2 r3 hlen
  generalize (deskRun (deskRun d (l.take (l.length / 2))).1 (l.drop (l.length / 2))).2 = q2 at *
  generalize deskRun d (l.take (l.length / 2)) = A at *
  generalize deskRun d l = R at *
  clear hk hd hf
  obtain ⟨⟨d1, d2⟩, d3⟩ := d
  obtain ⟨⟨⟨A1, A2⟩, A3⟩, q1⟩ := A
  obtain ⟨⟨⟨R1, R2⟩, R3⟩, q3⟩ := R
  simp -dsimp [nes, nes8, nes9]
  refine call_ h1 (by simp -dsimp) ?_
  simp -dsimp [nes, nes8, nes9]
  refine call_ h2 (by simp -dsimp) ?_
  simp -dsimp [nes, nes8, nes9]
  refine call_ h4 (by simp -dsimp) ?_
  simp -dsimp [nes, nes8, nes9]
  refine call_ h3 (by simp -dsimp) ?_
  simp -dsimp [nes, nes8, nes9, h40', h40'', hq, wq, lh, lh1, lh2]
  refine twp_drawT (.run [0, 1, 2, 3] (.alt (.run [4, 5, 6, 7, 8, 9, 10] .done) (.run [8, 4, 5, 6, 7, 9, 10] .done))) [n1] (List.replicate 11 [0]) (List.replicate 11 [0]) (by kernel_rfl) (by kernel_rfl) (by kernel_rfl) (by kernel_rfl) ?_
  simp -dsimp [nes, nes8, nes9, hq, wq, lh, lh1, lh2]
  refine ordT_both ?_ ?_
  · simp -dsimp [nes, nes8, nes9, hq, wq, lh, lh1, lh2]
    refine call_ f1 (by simp -dsimp) ?_
    simp -dsimp [nes, nes8, nes9, hq, wq, lh, lh1, lh2]
    refine twp_drawT (.run [0, 1, 2, 3] (.alt (.run [4, 5, 6, 7, 8, 9, 10] .done) (.run [8, 4, 5, 6, 7, 9, 10] .done))) [n1 + 1 + 1 + 1 + 1 + 1 + 1] (List.replicate 11 [0]) (List.replicate 11 [0]) (by kernel_rfl) (by kernel_rfl) (by kernel_rfl) (by kernel_rfl) ?_
    simp -dsimp [nes, nes8, nes9, hq, wq, lh, lh1, lh2]
    refine ordT_both ?_ ?_
    · simp -dsimp [nes, nes8, nes9, hq, wq, lh, lh1, lh2]
      refine call_ f2 (by simp -dsimp [tkl]) ?_
      simp -dsimp [nes, nes8, nes9, hq, wq, lh, lh1, lh2]
      refine call_ f3 (by simp -dsimp) ?_
      simp -dsimp [nes, nes8, nes9, hq, wq, lh, lh1, lh2]
      refine call_ h4 (by simp -dsimp) ?_
      simp -dsimp [nes, nes8, nes9, hq, wq, lh, lh1, lh2, wp]
    · simp -dsimp [nes, nes8, nes9, hq, wq, lh, lh1, lh2]
      refine call_ f2 (by simp -dsimp [tkl]) ?_
      simp -dsimp [nes, nes8, nes9, hq, wq, lh, lh1, lh2]
      refine call_ f3 (by simp -dsimp) ?_
      simp -dsimp [nes, nes8, nes9, hq, wq, lh, lh1, lh2]
      refine call_ h4 (by simp -dsimp) ?_
      simp -dsimp [nes, nes8, nes9, hq, wq, lh, lh1, lh2, wp]
  · simp -dsimp [nes, nes8, nes9, hq, wq, lh, lh1, lh2]
    refine call_ f1 (by simp -dsimp) ?_
    simp -dsimp [nes, nes8, nes9, hq, wq, lh, lh1, lh2]
    refine twp_drawT (.run [0, 1, 2, 3] (.alt (.run [4, 5, 6, 7, 8, 9, 10] .done) (.run [8, 4, 5, 6, 7, 9, 10] .done))) [n1 + 1 + 1 + 1 + 1 + 1 + 1] (List.replicate 11 [0]) (List.replicate 11 [0]) (by kernel_rfl) (by kernel_rfl) (by kernel_rfl) (by kernel_rfl) ?_
    simp -dsimp [nes, nes8, nes9, hq, wq, lh, lh1, lh2]
    refine ordT_both ?_ ?_
    · simp -dsimp [nes, nes8, nes9, hq, wq, lh, lh1, lh2]
      refine call_ f2 (by simp -dsimp [tkl]) ?_
      simp -dsimp [nes, nes8, nes9, hq, wq, lh, lh1, lh2]
      refine call_ f3 (by simp -dsimp) ?_
      simp -dsimp [nes, nes8, nes9, hq, wq, lh, lh1, lh2]
      refine call_ h4 (by simp -dsimp) ?_
      simp -dsimp [nes, nes8, nes9, hq, wq, lh, lh1, lh2, wp]
    · simp -dsimp [nes, nes8, nes9, hq, wq, lh, lh1, lh2]
      refine call_ f2 (by simp -dsimp [tkl]) ?_
      simp -dsimp [nes, nes8, nes9, hq, wq, lh, lh1, lh2]
      refine call_ f3 (by simp -dsimp) ?_
      simp -dsimp [nes, nes8, nes9, hq, wq, lh, lh1, lh2]
      refine call_ h4 (by simp -dsimp) ?_
      simp -dsimp [nes, nes8, nes9, hq, wq, lh, lh1, lh2, wp]
end TL

/- A cell lies in its block. -/
namespace TL
open Go
theorem lt_of_cell {W : World} {g : Nat} {v : Value} (h : W.cell? ⟨g, 0, none⟩ = some v) : g < W.heap.size := by
  unfold World.cell? at h
  split at h
  · rename_i hb; exact (Array.getElem?_eq_some_iff.1 hb).1
  · cases h
end TL

/- The library's variables at the start, in a seat without strconv's errors and without strings.Split. -/
namespace TL
open Go Go.Proofs
theorem gl_start {W : World} (h : W.ShapedOpen Tryz.prog) : Gl Tryz.prog (ZA W) W := by
  have n1 : Tryz.prog.globalNamed "internal/bytealg.MaxLen" = some 1 := by kernel_rfl
  have n2 : Tryz.prog.globalNamed "strconv.ErrSyntax" = none := by kernel_rfl
  have n3 : Tryz.prog.globalNamed "strconv.ErrRange" = none := by kernel_rfl
  have hm : ∃ m, W.cell? ⟨1, 0, none⟩ = some (.int .i64 m) := Go.Proofs.cell_of_shapedOpen_int (zero := #[.int .i64 0]) (t := 3) h (of_decide_eq_true (by kernel_rfl)) (by kernel_rfl) rfl (by kernel_rfl) (by kernel_rfl) Tryz.underlying3
  rintro g Q (⟨e, rfl⟩ | ⟨e | e, rfl⟩)
  · rw [n1] at e; cases e
    obtain ⟨m, hm⟩ := hm
    exact ⟨lt_of_cell hm, _, hm, m, rfl⟩
  · rw [n2] at e; cases e
  · rw [n3] at e; cases e
end TL

/- A closed fact of the program. -/
set_option maxRecDepth 100000
namespace Go.Proofs.YtndfipgiaeeheaaGreatDoor.wide
open Go
theorem may_enter : Tryz.pinned.checked.prog.mayEnter = true := by kernel_rfl
end Go.Proofs.YtndfipgiaeeheaaGreatDoor.wide

/- A closed fact of the program. -/
set_option maxRecDepth 100000
namespace Go.Proofs.YtndfipgiaeeheaaGreatDoor.wide
open Go
theorem lifts_are : Tryz.pinned.checked.prog.liftsFinal = Rows.fnDeskDoRow.lifted := by kernel_rfl
end Go.Proofs.YtndfipgiaeeheaaGreatDoor.wide

/- A closed fact of the program. -/
set_option maxRecDepth 100000
namespace Go.Proofs.YtndfipgiaeeheaaGreatDoor.wide
open Go
theorem make_is : Tryz.pinned.checked.prog.make = some Rows.fnDeskDoRow.make := by kernel_rfl
end Go.Proofs.YtndfipgiaeeheaaGreatDoor.wide

/- A closed fact of the program. -/
set_option maxRecDepth 100000
namespace Go.Proofs.YtndfipgiaeeheaaGreatDoor.wide
open Go
theorem main_is : Tryz.pinned.checked.prog.mainIs = some (true, "d44ad112941c4b16458b2a3c9d1c10f0cb408a42709a66f1860079f95deb1d35".toList) := by kernel_rfl
theorem looks_are : false = Tryz.pinned.checked.prog.looks [] := by kernel_rfl
end Go.Proofs.YtndfipgiaeeheaaGreatDoor.wide

/- The wrap of a row that lists variables, the world's shape kept too. -/
namespace TL
open Go
variable {H : Type} {enc : TypeId × Value → H}
theorem wrapLS {a : Assume} {C : Checked} {os : Os} {f : FuncId} {fn : Func} {s : ChangeSpec} {conds : List PathCond} {apart fresh handsOn again : Bool} {X : World → Array Value → Prop}
    (hX : ∀ (w w' : World) (args : Array Value), w.heap = w'.heap → X w args → X w' args)
    (own : ownKnob C.prog.godebug = none) (started : os.Started) (noInit : C.prog.inits.idxOf? f = none) (hfn : C.prog.funcs[f]? = some fn)
    (witness : ∃ (w : World) (tape : Tape) (i : Input), w.os = os ∧ (w.forCall tape i).Shaped C.prog ∧ i.vars = [] ∧ Input.okWide C.prog (w.forCall tape i) .any w.heap.size f i ∧
      ((s.pre enc C.prog fn conds apart (w.forCall tape i).memory i.args ∧ X (w.forCall tape i).memory i.args) ∧ sizedMet enc C.prog fn (OpenSpec.ofChange s) apart (w.forCall tape i).memory i.args) ∧ a.holds C.prog (lone (Frame.enter C.prog f i.args .normal) [] (w.forCall tape i)))
    (contract : ∀ (W : World) (base : Nat) (args : Array Value) (ds gs : List (DataW H)) (before : List MemPlace),
      (∀ (j : Nat) t v, fn.params[j]? = some t → args[j]? = some v → Value.okWide C.prog W .any base t v) →
      DataW.Whole enc C.prog fn.params.toList s.vars apart W args.toList ds gs before → X W args → W.ShapedOpen C.prog →
      Calls C.prog f args W fun e W' => ∃ v, e = .returned v ∧ s.post enc C.prog fn apart fresh handsOn again W args v W') :
    ReturnsInHanded a C os f .any (fun w args => (s.pre enc C.prog fn conds apart w args ∧ X w args) ∧ sizedMet enc C.prog fn (OpenSpec.ofChange s) apart w args) (s.post enc C.prog fn apart fresh handsOn again) := by
  refine returnsInHanded_of_calls own started noInit witness ?_
  intro w tape i _ hsh _ hok hpre _
  obtain ⟨_, _, _, fn', hfn', _, _, _, _, hval⟩ := hok
  have e : fn' = fn := Option.some.inj (hfn'.symm.trans hfn)
  subst e
  obtain ⟨⟨⟨ds, gs, before, hw, _⟩, hx⟩, _⟩ := hpre
  have hw' := DataW.Whole.of_heap (w' := w.forCall tape i) (by rfl) hw
  refine (contract (w.forCall tape i) w.heap.size i.args ds gs before hval hw' (hX _ _ _ (by rfl) hx) hsh).mono fun e W' ⟨v, he, hp⟩ => ?_
  subst he
  exact ChangeSpec.post_blind hp
end TL
