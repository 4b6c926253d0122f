/- Claims that are read, in memory of the caller's own; the exact law of reading claims. -/
import Derived.Test.YtcoapdapigpfgaaFnsR8
import Derived.Test.YtcoapdapigpfgaaFns14
set_option linter.unusedSimpArgs false
set_option linter.unusedVariables false
set_option maxRecDepth 100000
set_option maxHeartbeats 4000000
set_option pp.maxSteps 1500
namespace TL
open Go Go.Proofs
attribute [local simp] marksV storyV codeV Claim.v Place.v
theorem mkT_flat (l : List Mark) : (l.map Mark.v).flatMap (fun x => x.cells.map T.v) = mkT l := by
  induction l with
  | nil => rfl
  | cons a l ih => rw [List.map_cons, List.flatMap_cons, ih]; rfl
theorem mkT_kind (k : Int) : ∀ (l : List Mark) (i : Nat), (h : i < l.length) → (mkT l).set (i * 2) (.v (.int .i64 k)) = mkT (l.set i ⟨k, l[i].num⟩)
  | [], i, h => by simp at h
  | a :: l, 0, h => rfl
  | a :: l, i + 1, h => by
    have e : (i + 1) * 2 = i * 2 + 1 + 1 := by omega
    rw [e]
    show T.v _ :: T.v _ :: (mkT l).set (i * 2) _ = T.v _ :: T.v _ :: mkT (l.set i _)
    rw [mkT_kind k l i (by simpa using h)]; rfl
theorem mkT_num (k : Int) : ∀ (l : List Mark) (i : Nat), (h : i < l.length) → (mkT l).set (i * 2 + 1) (.v (.int .i64 k)) = mkT (l.set i ⟨l[i].kind, k⟩)
  | [], i, h => by simp at h
  | a :: l, 0, h => rfl
  | a :: l, i + 1, h => by
    have e : (i + 1) * 2 + 1 = (i * 2 + 1) + 1 + 1 := by omega
    rw [e]
    show T.v _ :: T.v _ :: (mkT l).set (i * 2 + 1) _ = T.v _ :: T.v _ :: mkT (l.set i _)
    rw [mkT_num k l i (by simpa using h)]; rfl
/-- Marks that count on from k. -/
def cnts (k : Int) : Nat → List Mark
  | 0 => []
  | n + 1 => cnts k n ++ [⟨k + 2 * n, k + 2 * n + 1⟩]
@[simp] theorem cnts_length (k : Int) (n : Nat) : (cnts k n).length = n := by
  induction n with
  | zero => rfl
  | succ n ih => simp [cnts, ih]
theorem cnts_get (k : Int) : ∀ (n i : Nat) (h : i < n), (cnts k n)[i]? = some ⟨k + 2 * i, k + 2 * i + 1⟩
  | n + 1, i, h => by
    unfold cnts
    by_cases hi : i < n
    · rw [List.getElem?_append_left (by simpa using hi)]; exact cnts_get k n i hi
    · have : i = n := by omega
      subst this
      rw [List.getElem?_append_right (by simp)]; simp
theorem cnts_step (k : Int) (l : List Mark) (i : Nat) (h : i < l.length) (a : Int) : ((cnts k i ++ l.drop i).set i ⟨k + 2 * i, a⟩).set i ⟨k + 2 * i, k + 2 * i + 1⟩ = cnts k (i + 1) ++ l.drop (i + 1) := by
  rw [List.set_set, List.set_append_right _ _ (by simp), cnts_length, Nat.sub_self, drop_cons h, List.set_cons_zero]
  simp [cnts]
def Imk (id : Nat) (l : List Mark) (k : Int) (m0 : Mem) (n0 : Nat) (e : Nat) (s : S) : Prop := ∃ i : Nat, s.tm 0 = .sv id 0 l.length ∧ s.tm 1 = .v (.int .i64 (k + 2 * i)) ∧ s.tm 5 = .v (.int .i64 i) ∧ i ≤ l.length ∧ n0 ≤ s.n ∧ s.m = updM m0 id (some (.box 67 2 (mkT (cnts k i ++ l.drop i)))) ∧ (e = 1 → i = l.length)
theorem markMarkS_fn (l : List Mark) (k : Int) (hl : l.length ≤ 1000000) (hk0 : 0 ≤ k) (hk : k ≤ 1000000) (m : Mem) (n id : Nat) (hm : m id = some (.box 67 2 (mkT l))) :
    FnS Try.prog 35 m n [.sv id 0 l.length, .v (.int .i64 k)] (fun t m' n' => t = .v (.int .i64 (k + 2 * l.length)) ∧ n ≤ n' ∧ m' = updM m id (some (.box 67 2 (mkT (cnts k l.length))))) := by
  refine FnS_of (rs := [.tmp 4]) false Try.func35 rfl rfl rfl rfl (Nat.le_of_ble_eq_true rfl) ?_
  simp -dsimp
  refine twp_loopC (Imk id l k m n 0) (fun s => l.length - natOf (s.tm 5)) (Imk id l k m n 1) ?_ ?_ ?_
  · exact ⟨0, by simp -dsimp, by simp -dsimp, by simp -dsimp, by omega, by simp -dsimp, by simp -dsimp [cnts]; exact (updM_self hm).symm, by simp⟩
  · rintro s ⟨i, t0, t1, t5, hi, hn, hmm, hend⟩
    by_cases hlt : i < l.length
    case neg =>
      simp -dsimp [t0, t5, hlt]
      exact ⟨i, by simp -dsimp [t0], by simp -dsimp [t1], by simp -dsimp [t5], hi, by simp -dsimp [hn], by simp -dsimp [hmm], fun _ => by omega⟩
    have hL : (cnts k i ++ l.drop i).length = l.length := by simp; omega
    have e1 := mkT_kind (k + 2 * i) (cnts k i ++ l.drop i) i (by omega)
    generalize hnum : ((cnts k i ++ l.drop i)[i]'(by omega)).num = nu at *
    have e2 := mkT_num (k + 2 * i + 1) ((cnts k i ++ l.drop i).set i ⟨k + 2 * i, nu⟩) i (by simp; omega)
    have e3 : (((cnts k i ++ l.drop i).set i ⟨k + 2 * i, nu⟩)[i]'(by simp; omega)).kind = k + 2 * i := by simp
    rw [e3, cnts_step k l i hlt] at e2
    have hmi : s.m id = some (.box 67 2 (mkT (cnts k i ++ l.drop i))) := by rw [hmm, updM_same]
    have hlen1 : (mkT (cnts k i ++ l.drop i)).length = l.length * 2 := by rw [mkT_length, hL]
    have hlen2 : (mkT ((cnts k i ++ l.drop i).set i ⟨k + 2 * i, nu⟩)).length = l.length * 2 := by rw [mkT_length, List.length_set, hL]
    have wi : IntKind.wrap .i64 ((i : Int) + 1) = ((i + 1 : Nat) : Int) := by rw [w64 (by omega) (by omega)]; omega
    have w1 : IntKind.wrap .i64 (k + 2 * i + 1) = k + 2 * i + 1 := w64 (by omega) (by omega)
    have w2 : IntKind.wrap .i64 (k + 2 * i + 1 + 1) = k + 2 * ((i + 1 : Nat) : Int) := by rw [w64 (by omega) (by omega)]; omega
    have hmu : l.length - (i + 1) < l.length - i := by omega
    have hlt' : (i : Int) < (l.length : Int) := by omega
    have o1 : i * 2 + 1 ≤ l.length * 2 := by omega
    have o2 : i * 2 + 1 + 1 ≤ l.length * 2 := by omega
    have o3 : i * 2 < l.length * 2 := by omega
    have o4 : i * 2 + 1 < l.length * 2 := by omega
    generalize mkT (cnts k i ++ l.drop i) = c1 at *
    generalize mkT ((cnts k i ++ l.drop i).set i ⟨k + 2 * i, nu⟩) = c2 at *
    generalize hc3 : mkT (cnts k (i + 1) ++ l.drop (i + 1)) = c3 at *
    simp -dsimp [t0, t1, t5, hlt, hlt', hmi, hlen1, hlen2, setAt, e1, e2, w1, w2, wi, hmu, o1, o2, o3, o4]
    refine st_out fun s' ht hm' hn' hu' => ?_
    have a0 := ht 0
    have a1 := ht 1
    have a5 := ht 5
    simp -dsimp [t0] at a0 a1 a5 hm' hn' hu'
    clear ht
    refine ⟨i + 1, a0, by rw [a1]; congr 3, a5, by omega, by omega, ?_, by simp⟩
    rw [hm', hmm, hc3]; simp
  · rintro s ⟨i, t0, t1, t5, hi, hn, hmm, hend⟩
    have hil := hend rfl
    rw [hil, List.drop_length, List.append_nil] at hmm
    rw [hil] at t1
    simp -dsimp [t1]
    exact ⟨hn, hmm⟩
theorem markClaim_fn (l : List Mark) (who k : Int) (hl : l.length ≤ 1000000) (hk0 : 0 ≤ k) (hk : k ≤ 1000000) (m : Mem) (n id : Nat) (hid : id < n) (hm : m id = some (.box 67 2 (mkT l))) :
    FnS Try.prog 16 m n [.agg [.v (.int .i64 who), .sv id 0 l.length], .v (.int .i64 k)] (fun t m' n' => t = .v (.int .i64 (k + 2 * l.length)) ∧ n ≤ n' ∧ m' id = some (.box 67 2 (mkT (cnts k l.length))) ∧ ∀ j, j < n → j ≠ id → m' j = m j) := by
  have f1 := far hid
  refine FnS_of (rs := [.tmp 4]) false Try.func16 rfl rfl rfl rfl (Nat.le_of_ble_eq_true rfl) ?_
  simp -dsimp
  refine callS_ (markMarkS_fn l k hl hk0 hk _ _ id (by simp [f1, hm])) ?_
  rintro t m1 n1 ⟨rfl, hn1, rfl⟩
  simp -dsimp
  refine ⟨by omega, fun j j1 j2 => ?_⟩
  simp [far j1, j2]
theorem markClaim_no (k : Int) : FnZ Try.prog 16 [(⟨0, []⟩ : Claim).v, .int .i64 k] (.int .i64 k) := by
  have h : FnZ Try.prog 35 [.sl [], .int .i64 k] (.int .i64 k) := by
    refine FnZ_of (rs := [.tmp 4]) false Try.func35 rfl rfl rfl rfl (Nat.le_of_ble_eq_true rfl) ?_
    simp -dsimp
    refine twp_loopC (fun s => s.tm 0 = .v (.sl []) ∧ s.tm 1 = .v (.int .i64 k) ∧ s.tm 5 = .v (.int .i64 0)) (fun s => 0) (fun s => s.tm 1 = .v (.int .i64 k)) ?_ ?_ ?_
    · simp -dsimp
    · rintro s ⟨t0, t1, t5⟩
      simp -dsimp [t0, t1, t5]
    · rintro s t1
      simp -dsimp [t1]
  refine FnZ_of (rs := [.tmp 4]) false Try.func16 rfl rfl rfl rfl (Nat.le_of_ble_eq_true rfl) ?_
  simp -dsimp
  refine call_ h (by simp -dsimp) ?_
  simp -dsimp
def Ihd (k : Int) (l : Nat) (e : Nat) (s : S) : Prop := ∃ i : Nat, s.tm 0 = .v (.sl ((cnts k l).map Mark.v)) ∧ s.tm 1 = .v (.int .i64 (k + 2 * i)) ∧ s.tm 5 = .v (.int .i64 i) ∧ i ≤ l ∧ (e = 1 → i = l)
theorem heldMarkS_fn (l : Nat) (k : Int) (hl : l ≤ 1000000) (hk0 : 0 ≤ k) (hk : k ≤ 1000000) : FnZ Try.prog 36 [.sl ((cnts k l).map Mark.v), .int .i64 k] (.int .i64 (k + 2 * l)) := by
  refine FnZ_of (rs := [.tmp 4]) false Try.func36 rfl rfl rfl rfl (Nat.le_of_ble_eq_true rfl) ?_
  simp -dsimp
  refine twp_loopC (Ihd k l 0) (fun s => l - natOf (s.tm 5)) (Ihd k l 1) ?_ ?_ ?_
  · exact ⟨0, by simp -dsimp, by simp -dsimp, by simp -dsimp, by omega, by simp⟩
  · rintro s ⟨i, t0, t1, t5, hi, hend⟩
    by_cases hlt : i < l
    case neg =>
      simp -dsimp [t0, t5, hlt]
      exact ⟨i, by simp -dsimp [t0], by simp -dsimp [t1], by simp -dsimp [t5], hi, fun _ => by omega⟩
    have hget : ((cnts k l).map Mark.v)[i]? = some (Mark.v ⟨k + 2 * i, k + 2 * i + 1⟩) := by rw [List.getElem?_map, cnts_get k l i hlt]; rfl
    have hcl : ((cnts k l).map Mark.v).length = l := by simp
    have wi : IntKind.wrap .i64 ((i : Int) + 1) = ((i + 1 : Nat) : Int) := by rw [w64 (by omega) (by omega)]; omega
    have w1 : IntKind.wrap .i64 (k + 2 * i + 1) = k + 2 * i + 1 := w64 (by omega) (by omega)
    have w2 : IntKind.wrap .i64 (k + 2 * i + 1 + 1) = k + 2 * ((i + 1 : Nat) : Int) := by rw [w64 (by omega) (by omega)]; omega
    have hmu : l - (i + 1) < l - i := by omega
    generalize hrow : (cnts k l).map Mark.v = row at *
    have hlt2 : i < row.length := by omega
    have hget2 : row[i] = Mark.v ⟨k + 2 * i, k + 2 * i + 1⟩ := by rw [List.getElem?_eq_getElem hlt2] at hget; exact Option.some.inj hget
    simp -dsimp [t0, t1, t5, hlt, hlt2, hcl, hget2, w1, w2, wi, hmu]
    refine st_out fun s' ht hm' hn' hu' => ?_
    have a0 := ht 0
    have a1 := ht 1
    have a5 := ht 5
    simp -dsimp [t0] at a0 a1 a5 hm' hn' hu'
    clear ht
    exact ⟨i + 1, by rw [a0, hrow], by rw [a1]; congr 3, a5, by omega, by simp⟩
  · rintro s ⟨i, t0, t1, t5, hi, hend⟩
    have hil := hend rfl
    rw [hil] at t1
    simp -dsimp [t1]
theorem heldClaim_fn (who : Int) (l : Nat) (k : Int) (hl : l ≤ 1000000) (hk0 : 0 ≤ k) (hk : k ≤ 1000000) : FnZ Try.prog 17 [(⟨who, cnts k l⟩ : Claim).v, .int .i64 k] (.int .i64 (k + 2 * l)) := by
  have h := heldMarkS_fn l k hl hk0 hk
  have h0 : ¬ k + 2 * (l : Int) < 0 := by omega
  refine FnZ_of (rs := [.tmp 4]) false Try.func17 rfl rfl rfl rfl (Nat.le_of_ble_eq_true rfl) ?_
  simp -dsimp
  refine call_ h (by simp -dsimp) ?_
  simp -dsimp [h0]
/-- A row of marks in memory of one's own. -/
def OwnRow (m' : Mem) (n n' : Nat) (st : T) (l : List Mark) : Prop := ∃ id, st = .sv id 0 l.length ∧ n ≤ id ∧ id < n' ∧ m' id = some (.box 67 2 (mkT l))
theorem cloneMarks_own (l : List Mark) (h0 : l ≠ []) (hl : l.length ≤ 1048576) (m : Mem) (n : Nat) : FnS Try.prog 51 m n [.v (marksV l)] (fun t m' n' => n ≤ n' ∧ (∀ j, j < n → m' j = m j) ∧ OwnRow m' n n' t l) := by
  have b1 : l.length * 16 ≤ 140737488355328 := by omega
  have hfl := mkT_flat l
  refine FnS_of (rs := [.tmp 2]) true Try.func51 rfl rfl rfl rfl (Nat.le_of_ble_eq_true rfl) ?_
  simp -dsimp [b1, h0, hfl]
  exact ⟨by omega, fun j hj => by simp [far hj], n + 1, rfl, by omega, by omega, by simp⟩
theorem claimBy_own (people who : Int) (t : List Mark) (hk : claimOk people ⟨who, t⟩ = true) (m : Mem) (n : Nat) :
    FnS Try.prog 31 m n [.v (.int .i64 people), .v (.int .i64 who), .v (marksV t)] (fun x m' n' => n ≤ n' ∧ (∀ j, j < n → m' j = m j) ∧ ∃ st, x = .tup [.agg [.v (.int .i64 who), st], .v (.bool true)] ∧ OwnRow m' n n' st t) := by
  have hc := claimOk_fn people ⟨who, t⟩
  rw [hk] at hc
  have ht := (claimOk_all hk).2.2.2.2
  have hl := ht.2
  have h0 : t ≠ [] := by rintro rfl; have := termOk_pos ht.1; simp at this
  simp only at hl h0
  refine FnS_of (rs := [.cell 6 25, .tmp 7]) true Try.func31 rfl rfl rfl rfl (Nat.le_of_ble_eq_true rfl) ?_
  simp -dsimp
  refine callS_ (cloneMarks_own t h0 (by omega) _ _) ?_
  rintro x m1 n1 ⟨hn1, hout, id, rfl, hi0, hi1, hmi⟩
  have f1 := far hi1
  have f2 := far (show n < n1 by omega)
  have g1 : ¬ id = n := by omega
  have hmn := hout n (by omega)
  simp -dsimp [f1, f2, g1, Ne.symm g1] at hmn ⊢
  have hb := bor_marks (m := updM m1 n1 (some (.box 25 2 [.v (.int .i64 who), .sv id 0 t.length]))) (i := id) (e := 67) (ms := t) 2 (by simp [f1, hmi])
  refine callM_ hc (by simp -dsimp [f1, f2, hb, hmi]) rfl ?_
  simp -dsimp [f1, f2, g1, Ne.symm g1, hmn]
  refine ⟨by omega, fun j hj => ?_, id, rfl, by omega, by omega, by simp [f1, g1, hmi]⟩
  have q1 : ¬ j = n := by omega
  have q2 : ¬ j = n1 := by omega
  rw [if_neg q1, if_neg q2, hout j (by omega)]; simp [q1]
theorem readC_len' {people : Int} {s : List UInt8} {c : Claim} (h : readC people s = some c) : 3 ≤ s.length ∧ s.length ≤ 27 := by
  obtain ⟨h1, h2⟩ := readC_is h
  rw [← h2]; exact ⟨(claimTx_len h1).1, (claimTx_len h1).2.1⟩
theorem readClaim_own (people : Int) (s : List UInt8) (c : Claim) (hl : s.length ≤ 2000000000) (hr : readC people s = some c) (m : Mem) (n : Nat) :
    FnS Try.prog 12 m n [.v (.int .i64 people), .v (.str s)] (fun x m' n' => n ≤ n' ∧ (∀ j, j < n → m' j = m j) ∧ ∃ st, x = .tup [.agg [.v (.int .i64 c.who), st], .v (.bool true)] ∧ OwnRow m' n n' st c.says) := by
  match s, hl, hr with
  | [], hl, hr => cases hr
  | [a], hl, hr => cases hr
  | a :: b :: s, hl, hr =>
    have hlen := readC_len' hr
    simp only [List.length_cons] at hlen
    by_cases hb : b = 58
    case neg => 
      have : readC people (a :: b :: s) = none := if_neg hb
      rw [this] at hr; cases hr
    subst hb
    have e : readC people (a :: 58 :: s) = (readT people s).bind fun t => if claimOk people ⟨(a.toNat : Int) - 97, t⟩ = true then some ⟨(a.toNat : Int) - 97, t⟩ else none := rfl
    rw [e] at hr
    have ht := readTerm_fn people s (by simp at hl; omega)
    cases ho : readT people s with
    | none => rw [ho] at hr; cases hr
    | some t =>
      rw [ho, Option.bind_some] at hr
      rw [ho] at ht
      have hk := ft (claimOk people ⟨(a.toNat : Int) - 97, t⟩)
      rcases hk with hk | hk
      · rw [if_neg (by simp [hk])] at hr; cases hr
      rw [if_pos hk] at hr
      cases hr
      have hlt := UInt8.toNat_lt a
      have w1 : IntKind.wrap .i64 ((a.toNat : Int) - 97) = (a.toNat : Int) - 97 := w64 (by omega) (by omega)
      have w2 : IntKind.wrap .i64 (a.toNat : Int) = (a.toNat : Int) := w64 (by omega) (by omega)
      have h3' : ¬ ((s.length : Int) + 1 + 1 < 3) := by omega
      have l2 : (2 : Int) ≤ (s.length : Int) + 1 + 1 := by omega
      have l3 : ((s.length : Int) + 1 + 1).toNat = s.length + 1 + 1 := by omega
      have hcb := claimBy_own people ((a.toNat : Int) - 97) t hk
      refine FnS_of (rs := [.cell 4 25, .tmp 5]) true Try.func12 rfl rfl rfl rfl (Nat.le_of_ble_eq_true rfl) ?_
      simp -dsimp [h3', l2, l3]
      refine call_ ht (by simp -dsimp) ?_
      simp -dsimp [optV, w1, w2]
      refine callS_ (hcb _ _) ?_
      rintro x m1 n1 ⟨hn1, hout, st, rfl, id, rfl, hi0, hi1, hmi⟩
      have f2 := far (show n < n1 by omega)
      have g1 : ¬ id = n := by omega
      have hmn := hout n (by omega)
      simp -dsimp at hmn
      simp -dsimp [f2, g1, Ne.symm g1, hmn]
      refine ⟨by omega, fun j hj => ?_, id, rfl, by omega, by omega, by simp [g1, hmi]⟩
      have q1 : ¬ j = n := by omega
      rw [if_neg q1, hout j (by omega)]; simp [q1]
theorem exactReadClaim_no (people : Int) (s : List UInt8) (hl : s.length ≤ 1048576) (hr : readC people s = none) : FnZ Try.prog 4 [.int .i64 people, .str s] (.bool true) := by
  have h1 := readClaim_fn people s (by omega)
  have h2 := readClaimS_fn people s (by omega)
  rw [hr] at h1 h2
  have he := eqClaim_fn ⟨0, []⟩ ⟨0, []⟩ (by simp [Claim.small])
  have hm := markClaim_no 1
  have hh : FnZ Try.prog 17 [(⟨0, []⟩ : Claim).v, .int .i64 1] (.int .i64 1) := heldClaim_fn 0 0 1 (by omega) (by omega) (by omega)
  have hb : ¬ (1048576 : Int) < s.length := by omega
  refine FnZ_of (rs := [.tmp 4]) false Try.func4 rfl rfl rfl rfl (Nat.le_of_ble_eq_true rfl) ?_
  simp -dsimp [hb]
  refine call_ h2 (by simp -dsimp) ?_
  simp -dsimp [optC]
  refine call_ h1 (by simp -dsimp) ?_
  simp -dsimp [optC, nes]
  refine call_ he (by simp -dsimp) ?_
  simp -dsimp [nes]
  refine call_ hm (by simp -dsimp) ?_
  simp -dsimp [nes]
  refine call_ hh (by simp -dsimp) ?_
  simp -dsimp [nes]
  refine call_ h1 (by simp -dsimp) ?_
  simp -dsimp [optC, nes]
  refine call_ he (by simp -dsimp) ?_
  simp -dsimp [nes]
  refine call_ hh (by simp -dsimp) ?_
  simp -dsimp [nes]
theorem exactReadClaim_yes (people : Int) (s : List UInt8) (c : Claim) (hl : s.length ≤ 1048576) (hr : readC people s = some c) : FnZ Try.prog 4 [.int .i64 people, .str s] (.bool true) := by
  have h1 := readClaim_fn people s (by omega)
  have h2 := readClaimS_fn people s (by omega)
  have ho := readClaim_own people s c (by omega) hr
  have hsm := readC_small hr
  rw [hr] at h1 h2
  have he := eqClaim_fn c c (by unfold Claim.small; omega)
  have hm := markClaim_fn c.says c.who 1 (by omega) (by omega) (by omega)
  have hh := heldClaim_fn c.who c.says.length 1 (by omega) (by omega) (by omega)
  have hq : ¬ (1 : Int) + 2 * (c.says.length : Int) < 0 := by omega
  have hb : ¬ (1048576 : Int) < s.length := by omega
  have hclen : (cnts 1 c.says.length).length = c.says.length := cnts_length _ _
  refine FnZ_of (rs := [.tmp 4]) false Try.func4 rfl rfl rfl rfl (Nat.le_of_ble_eq_true rfl) ?_
  simp -dsimp [hb]
  refine call_ h2 (by simp -dsimp) ?_
  simp -dsimp [optC]
  refine callS_ (ho _ _) ?_
  rintro x m1 n1 ⟨hn1, hout, st, rfl, id, rfl, hi0, hi1, hmi⟩
  have m0 := hout 0 (by omega)
  simp -dsimp at m0
  have f1 := far hi1
  have f0 := far (show 0 < n1 by omega)
  have g0 : ¬ id = 0 := by omega
  have hbor := bor_marks (m := updM m1 n1 (some (.box 25 2 [.v (.int .i64 c.who), .sv id 0 c.says.length]))) (i := id) (e := 67) (ms := c.says) 2 (by simp [f1, hmi])
  simp -dsimp [m0, f0, f1]
  refine callM_ he (by simp -dsimp [m0, f0, f1, hbor]) rfl ?_
  simp -dsimp [m0, f0, f1]
  refine callS_ (hm _ _ id (by omega) (by simp [f1, hmi])) ?_
  rintro x m2 n2 ⟨rfl, hn2, hmi2, hout2⟩
  have e1 := hout2 n1 (by omega) (by omega)
  have e0 := hout2 0 (by omega) (by omega)
  simp -dsimp [f0, m0] at e0 e1
  have f2 := far (show n1 < n2 by omega)
  have f3 := far (show 0 < n2 by omega)
  have f4 := far (show id < n2 by omega)
  have hbor2 := bor_marks (m := m2) (i := id) (e := 67) (ms := cnts 1 c.says.length) 2 hmi2
  rw [hclen] at hbor2
  simp -dsimp [e0, e1]
  refine callM_ hh (by simp -dsimp [hbor2]) rfl ?_
  simp -dsimp [hq]
  refine call_ h1 (by simp -dsimp) ?_
  simp -dsimp [optC, e0, e1, f2, f3, nes]
  refine call_ he (by simp -dsimp) ?_
  simp -dsimp [e0, e1, f2, f3]
  have hbor3 := bor_marks (m := updM m2 n2 (some (.box 25 2 [.v (.int .i64 c.who), .v (.sl (c.says.map Mark.v))]))) (i := id) (e := 67) (ms := cnts 1 c.says.length) 2 (by simp [f4, hmi2])
  rw [hclen] at hbor3
  refine callM_ hh (by simp -dsimp [hbor3]) rfl ?_
  simp -dsimp [hq]
theorem exactReadClaim_row (people : Int) (hp : fit people) (s : List UInt8) (hs : s.length ≤ maxLen) : FnZ Try.prog 4 [.int .i64 people, .str s] (.bool true) := by
  by_cases hb : (1048576 : Int) < s.length
  · refine FnZ_of (rs := [.tmp 4]) false Try.func4 rfl rfl rfl rfl (Nat.le_of_ble_eq_true rfl) ?_
    simp -dsimp [hb]
  · cases hr : readC people s with
    | none => exact exactReadClaim_no people s (by omega) hr
    | some c => exact exactReadClaim_yes people s c (by omega) hr
theorem opens_str (w : World) : Opens Try.prog w 9 fun vs => ∃ s : List UInt8, s.length ≤ maxLen ∧ vs = [.str s] :=
  (opens_string Try.underlying9).mono fun vs h => by obtain ⟨s, rfl, hl⟩ := h; exact ⟨s, hl, rfl⟩
end TL
